/- Contracts of the pile's functions, and the walk of the law PileTurns. -/
import Derived.Test.YtaogmfmphamplaaTy
import Derived.Test.YtaogmfmphamplaaArgs
namespace Go.Proofs.Ytaogmfmphamplaa
open Go.RowKit
attribute [local irreducible] Instr.loadAt Instr.storeAt Instr.fieldAt Instr.indexAt Instr.sliceAt Instr.buildSlice Instr.box Instr.alloc Builtin.append_ Builtin.len_ Calls

structure IsPile (w : World) (p : Nat) (v : Value) (l : List Int) : Prop where
  blk : Blk w p 44 #[v]
  sl : Sl w 3 1 v l.length (l.map (Value.int .i64))
def foot (p : Nat) (v : Value) : List Nat := p :: v.ownBlock.toList
theorem IsPile.upd {w w' : World} {p : Nat} {v : Value} {l : List Int} {S : List Nat} (h : IsPile w p v l) (hu : Upd S w w') (hn : ∀ k ∈ foot p v, k ∉ S) : IsPile w' p v l :=
  ⟨h.blk.upd hu (hn p (by simp [foot])), h.sl.upd hu fun g hg => hn g (by simp [foot, hg])⟩
theorem IsPile.lt {w : World} {p : Nat} {v : Value} {l : List Int} (h : IsPile w p v l) : ∀ k ∈ foot p v, k < w.heap.size := by
  intro k hk
  simp only [foot, List.mem_cons, Option.mem_toList, Option.mem_def] at hk
  rcases hk with rfl | hk
  · exact h.blk.lt
  · exact h.sl.lt k hk
theorem IsPile.ne {w : World} {p : Nat} {v : Value} {l : List Int} (h : IsPile w p v l) : v.ownBlock ≠ some p := h.sl.blk_ne h.blk (by decide)

theorem len_c {w : World} {p : Nat} {v : Value} {l : List Int} (h : IsPile w p v l) : Fn Try.prog 30 #[.pointer (some ⟨p, 0, none⟩)] w fun r w' => r = .int .i64 l.length ∧ w' = w := by
  obtain ⟨a, cap, rfl, -⟩ := h.sl.form
  refine fn_enter Try.func30 rfl rfl ?_
  refine ptr_eq ?_
  refine fa ?_
  refine ldb h.blk rfl ?_
  refine len_sl ?_
  exact ⟨rfl, rfl⟩

theorem push_c {w : World} {p : Nat} {v : Value} {l : List Int} (h : IsPile w p v l) (x : Int) (hl : l.length < 4294967296) :
    Fn Try.prog 27 #[.pointer (some ⟨p, 0, none⟩), .int .i64 x] w fun _ w' => ∃ v', IsPile w' p v' (l ++ [x]) ∧ Upd (foot p v) w w' ∧ ∀ k ∈ foot p v', k ∈ foot p v ∨ w.heap.size ≤ k := by
  refine fn_enter Try.func27 rfl rfl ?_
  refine ptr_ne ?_
  refine fa ?_
  refine ldb h.blk rfl ?_
  refine bs #[.int .i64 x] (fun _ => by kernel_rfl) fun w1 hb1 hu1 hs1 => ?_
  have hp1 := h.upd hu1 (by simp)
  refine app hp1.sl hb1 rfl rfl (by decide) (by simp [maxLen]; omega) (by omega) fun g off cap w2 hs2 hu2 hg => ?_
  have hb2 := hp1.blk.upd hu2 (by simpa using hp1.ne)
  refine fa ?_
  refine st hb2 (by simp) rfl fun w3 hb3 hu3 hs3 => ?_
  have hgp : g ≠ p := by rcases hg with hg | rfl; (intro he; subst he; exact h.ne hg); (have := hp1.blk.lt; omega)
  refine ⟨_, ⟨hb3, ?_⟩, ?_, ?_⟩
  · have := hs2.upd hu3 (by simp [Value.ownBlock]; exact hgp)
    simpa using this
  · refine ((hu1.mono (by simp)).trans (hu2.mono ?_)).trans (hu3.mono (by simp [foot]))
    intro k hk; simp [foot] at hk ⊢; exact .inr hk
  · intro k hk
    simp only [foot, Value.ownBlock, List.mem_cons, Option.mem_toList, Option.mem_def, Option.some.injEq] at hk ⊢
    rcases hk with rfl | rfl
    · exact .inl (.inl rfl)
    · rcases hg with hg | rfl
      · exact .inl (.inr hg)
      · right; omega

theorem getD_lt (l : List Int) (i : Nat) (h : i < l.length) : l[i]? = some (l.getD i 0) := by simp [List.getD, h]
theorem at_c {w : World} {p : Nat} {v : Value} {l : List Int} (h : IsPile w p v l) (i : Int) :
    Fn Try.prog 50 #[.pointer (some ⟨p, 0, none⟩), .int .i64 i] w fun r w' => r = (if 0 ≤ i ∧ i < l.length then .tuple #[.int .i64 (l.getD i.toNat 0), .bool true] else .tuple #[.int .i64 0, .bool false]) ∧ w' = w := by
  obtain ⟨a, cap, rfl, hc, ha⟩ := h.sl.form
  refine fn_enter Try.func50 rfl rfl ?_
  refine ptr_eq ?_
  refine cd (fun hi => ?_) (fun hi => ?_)
  · exact ⟨by rw [if_neg (by omega)]; rfl, rfl⟩
  · refine fa ?_
    refine ldb h.blk rfl ?_
    refine len_sl ?_
    refine cd (fun hi2 => ?_) (fun hi2 => ?_)
    · exact ⟨by rw [if_neg (by omega)]; rfl, rfl⟩
    · refine fa ?_
      refine ldb h.blk rfl ?_
      obtain ⟨b, o, rfl⟩ : ∃ b o, a = some ⟨b, o, none⟩ := by
        rcases h.sl.2 with ⟨h1, h2⟩ | ⟨g, off, cap', cur, h1, -⟩
        · omega
        · injection h1 with h1; exact ⟨g, off, h1⟩
      refine ix i.toNat (by omega) (by omega) ?_
      refine ld (v := .int .i64 (l.getD i.toNat 0)) ?_ ?_
      · rw [Nat.mul_one, (h.sl.cells rfl i.toNat (by omega)).1]
        rw [List.getElem?_map, getD_lt l _ (by omega)]; rfl
      · exact ⟨by rw [if_pos (by omega)]; rfl, rfl⟩
theorem pop_none {w : World} {p : Nat} {v : Value} (h : IsPile w p v []) : Fn Try.prog 29 #[.pointer (some ⟨p, 0, none⟩)] w fun r w' => r = .tuple #[.int .i64 0, .bool false] ∧ w' = w := by
  refine fn_enter Try.func29 rfl rfl ?_
  refine cl (len_c h) ?_
  rintro _ _ ⟨rfl, rfl⟩
  refine ar64 (by simp) ?_
  refine cl (at_c h _) ?_
  rintro _ _ ⟨rfl, rfl⟩
  rw [if_neg (by simp)]
  exact ⟨rfl, rfl⟩
theorem shift_none {w : World} {p : Nat} {v : Value} (h : IsPile w p v []) : Fn Try.prog 28 #[.pointer (some ⟨p, 0, none⟩)] w fun r w' => r = .tuple #[.int .i64 0, .bool false] ∧ w' = w := by
  refine fn_enter Try.func28 rfl rfl ?_
  refine cl (at_c h _) ?_
  rintro _ _ ⟨rfl, rfl⟩
  rw [if_neg (by simp)]
  exact ⟨rfl, rfl⟩
theorem IsPile.some_ {w : World} {p : Nat} {v : Value} {l : List Int} (h : IsPile w p v l) (hl : 0 < l.length) : ∃ b o cap, v = .slice (some ⟨b, o, none⟩) l.length cap ∧ l.length ≤ cap := by
  rcases h.sl.2 with ⟨h1, h2⟩ | ⟨g, off, cap', cur, h1, _, h2, -⟩
  · omega
  · exact ⟨g, off, cap', h1, h2⟩
theorem shift_c {w : World} {p : Nat} {v : Value} {x : Int} {l : List Int} (h : IsPile w p v (x :: l)) : Fn Try.prog 28 #[.pointer (some ⟨p, 0, none⟩)] w fun r w' => r = .tuple #[.int .i64 x, .bool true] ∧ ∃ v', IsPile w' p v' l ∧ Upd [p] w w' ∧ v'.ownBlock = v.ownBlock := by
  obtain ⟨b, o, cap, rfl, hcap⟩ := h.some_ (by simp)
  refine fn_enter Try.func28 rfl rfl ?_
  refine cl (at_c h _) ?_
  rintro _ _ ⟨rfl, rfl⟩
  rw [if_pos (by simp)]
  refine fa ?_
  refine ldb h.blk rfl ?_
  refine sl_lo 1 rfl (by simp) ?_
  refine fa ?_
  refine st h.blk (by simp) rfl fun w3 hb3 hu3 hs3 => ?_
  refine ⟨rfl, _, ⟨hb3, ?_⟩, hu3, ?_⟩
  · have hsl := h.sl.upd hu3 fun g hg => by simpa using fun he => h.ne (by rw [hg, he])
    by_cases hc : cap = 1
    · have hl : l = [] := by cases l with | nil => rfl | cons y l => simp at hcap; omega
      subst hl; subst hc
      rw [if_pos rfl]
      exact hsl.empty_at rfl
    · rw [if_neg hc]
      have := hsl.drop_ rfl 1 (by simp)
      simpa [Addr.add_lit] using this
  · by_cases hc : cap = 1
    · rw [if_pos hc]; rfl
    · rw [if_neg hc]; simp [Value.ownBlock, Addr.add_lit]
theorem pop_c {w : World} {p : Nat} {v : Value} {x : Int} {l : List Int} (h : IsPile w p v (l ++ [x])) : Fn Try.prog 29 #[.pointer (some ⟨p, 0, none⟩)] w fun r w' => r = .tuple #[.int .i64 x, .bool true] ∧ ∃ v', IsPile w' p v' l ∧ Upd [p] w w' ∧ v'.ownBlock = v.ownBlock := by
  obtain ⟨b, o, cap, rfl, hcap⟩ := h.some_ (by simp)
  have hmax := h.sl.le
  simp only [maxLen, List.length_append, List.length_cons, List.length_nil] at hmax
  have hx : (l ++ [x]).getD ((((l ++ [x]).length : Nat) : Int) - 1).toNat 0 = x := by simp [List.getD]
  refine fn_enter Try.func29 rfl rfl ?_
  refine cl (len_c h) ?_
  rintro _ _ ⟨rfl, rfl⟩
  refine ar64 (by simp; omega) ?_
  refine cl (at_c h _) ?_
  rintro _ _ ⟨rfl, rfl⟩
  rw [if_pos (by simp; omega), hx]
  refine draw_tail 12 (by decide +kernel) ?_
  refine q_fa ?_
  refine q_ld (v := .slice (some ⟨b, o, none⟩) (l ++ [x]).length cap) (by rintro _ rfl; exact h.blk.cell 0) ?_
  refine q_fa ?_
  refine q_ld (v := .slice (some ⟨b, o, none⟩) (l ++ [x]).length cap) (by rintro _ rfl; exact h.blk.cell 0) ?_
  refine q_len ?_
  refine q_ar64 (by simp; omega) ?_
  refine q_hi l.length (by simp) (by simp at hcap; omega) ?_
  refine fa ?_
  refine st h.blk.drew (by simp) rfl fun w3 hb3 hu3 hs3 => ?_
  refine ⟨rfl, _, ⟨hb3, ?_⟩, ⟨hu3.os, hu3.tape, hu3.output, hu3.size, hu3.block⟩, rfl⟩
  · have hsl := h.sl.drew.upd hu3 fun g hg => by simpa using fun he => h.ne (by rw [hg, he])
    have := hsl.take_ rfl l.length (by simp)
    simpa using this

theorem new_pile {w w1 : World} (hb : Blk w1 w.heap.size 44 #[.slice none 0 0]) : IsPile w1 w.heap.size (.slice none 0 0) [] := ⟨hb, Sl.nil_ _ _ _⟩

theorem lives04 (w : World) : Fn Try.prog 26 #[] w fun r w' => r = .bool true ∧ Upd [] w w' := by
  refine fn_enter Try.func26 rfl rfl ?_
  refine al #[.slice none 0 0] (fun _ => by kernel_rfl) fun w1 hb1 hu1 hs1 => ?_
  have h1 := new_pile hb1
  refine cl (push_c h1 1 (by simp)) ?_
  rintro _ w2 ⟨v2, h2, hu2, hf2⟩
  refine cl (push_c h2 2 (by simp)) ?_
  rintro _ w3 ⟨v3, h3, hu3, hf3⟩
  refine cl (push_c h3 3 (by simp)) ?_
  rintro _ w4 ⟨v4, h4, hu4, hf4⟩
  refine cl (pop_c (l := [1, 2]) h4) ?_
  rintro _ w5 ⟨rfl, v5, h5, hu5, hf5⟩
  refine cl (shift_c (l := [2]) h5) ?_
  rintro _ w6 ⟨rfl, v6, h6, hu6, hf6⟩
  refine cl (len_c h6) ?_
  rintro _ _ ⟨rfl, rfl⟩
  refine ⟨rfl, ?_⟩
  have g1 : ∀ k ∈ foot w.heap.size (.slice none 0 0), k ∈ ([] : List Nat) ∨ w.heap.size ≤ k := by simp [foot, Value.ownBlock]
  have hw1 := hu1.size
  have hw2 := hu2.size
  have hw3 := hu3.size
  have g2 : ∀ k ∈ foot w.heap.size v2, k ∈ ([] : List Nat) ∨ w.heap.size ≤ k := fun k hk => by
    rcases hf2 k hk with h | h
    · exact g1 k h
    · right; omega
  have g3 : ∀ k ∈ foot w.heap.size v3, k ∈ ([] : List Nat) ∨ w.heap.size ≤ k := fun k hk => by
    rcases hf3 k hk with h | h
    · exact g2 k h
    · right; omega
  have g5 : ∀ k ∈ [w.heap.size], k ∈ ([] : List Nat) ∨ w.heap.size ≤ k := by simp
  exact ((((hu1.step hu2 g1).step hu3 g2).step hu4 g3).step hu5 g5).step hu6 g5
end Go.Proofs.Ytaogmfmphamplaa
