/- Contracts of the memory's functions. -/
import Derived.Test.YtdomclcokkijjaaTy
namespace Go.Proofs.Ytdomclcokkijjaa
open Go.RowKit
attribute [local irreducible] Instr.loadAt Instr.storeAt Instr.fieldAt Instr.indexAt Instr.sliceAt Instr.buildSlice Instr.box Instr.alloc Builtin.append_ Builtin.len_ Calls Instr.build Instr.makeSlice binSem

abbrev Acc := Int × Int × Int × Bool
def accCells (x : Acc) : List Value := [.int .i64 x.1, .int .i64 x.2.1, .int .i64 x.2.2.1, .bool x.2.2.2]
/-- a memory: its words, its count, whether it is watched, its log -/
structure MS where
  W : List Int
  k : Int
  on : Bool
  L : List Acc
structure IsMem (w : World) (p : Nat) (v lv : Value) (s : MS) : Prop where
  blk : Blk w p 122 #[v, .int .i64 s.k, .bool s.on, lv]
  words : Sl w 27 1 v s.W.length (s.W.map (Value.int .u64))
  log : Sl w 141 4 lv s.L.length (s.L.flatMap accCells)
def mfoot (p : Nat) (v lv : Value) : List Nat := p :: (v.ownBlock.toList ++ lv.ownBlock.toList)
theorem mem_foot {p : Nat} {v lv : Value} {k : Nat} : k ∈ mfoot p v lv ↔ k = p ∨ v.ownBlock = some k ∨ lv.ownBlock = some k := by simp [mfoot]
section
variable {w w' : World} {p : Nat} {v lv : Value} {s : MS}
theorem IsMem.upd {S : List Nat} (h : IsMem w p v lv s) (hu : Upd S w w') (hn : ∀ k ∈ mfoot p v lv, k ∉ S) : IsMem w' p v lv s :=
  ⟨h.blk.upd hu (hn p (by simp [mem_foot])), h.words.upd hu fun g hg => hn g (by simp [mem_foot, hg]), h.log.upd hu fun g hg => hn g (by simp [mem_foot, hg])⟩
theorem IsMem.lt (h : IsMem w p v lv s) : ∀ k ∈ mfoot p v lv, k < w.heap.size := by
  intro k hk
  rcases mem_foot.1 hk with rfl | hk | hk
  · exact h.blk.lt
  · exact h.words.lt k hk
  · exact h.log.lt k hk
theorem IsMem.n1 (h : IsMem w p v lv s) : v.ownBlock ≠ some p := h.words.blk_ne h.blk (by decide)
theorem IsMem.n2 (h : IsMem w p v lv s) : lv.ownBlock ≠ some p := h.log.blk_ne h.blk (by decide)
theorem IsMem.n3 (h : IsMem w p v lv s) : ∀ g, v.ownBlock = some g → lv.ownBlock ≠ some g := h.words.ne_ h.log (by decide)
end

/-- what a step leaves -/
def MemPost (w : World) (p : Nat) (v lv : Value) (s' : MS) (w' : World) : Prop := ∃ lv', IsMem w' p v lv' s' ∧ Upd (mfoot p v lv) w w' ∧ ∀ k ∈ mfoot p v lv', k ∈ mfoot p v lv ∨ w.heap.size ≤ k
theorem MemPost.same {w w' : World} {p : Nat} {v lv : Value} {s : MS} (h : IsMem w' p v lv s) (hu : Upd [] w w') : MemPost w p v lv s w' := ⟨lv, h, hu.mono (by simp), fun k hk => .inl hk⟩
theorem MemPost.before {w w1 w' : World} {p : Nat} {v lv : Value} {s : MS} (h : MemPost w1 p v lv s w') (hu : Upd [] w w1) : MemPost w p v lv s w' := by
  obtain ⟨lv', h1, h2, h3⟩ := h
  refine ⟨lv', h1, (hu.mono (by simp)).trans h2, fun k hk => ?_⟩
  have := hu.size
  rcases h3 k hk with h4 | h4
  · exact .inl h4
  · right; omega
theorem MemPost.step {w w1 w' : World} {p : Nat} {v lv : Value} {s s' : MS} (h : MemPost w p v lv s w1) (k : ∀ lv1, IsMem w1 p v lv1 s → MemPost w1 p v lv1 s' w') : MemPost w p v lv s' w' := by
  obtain ⟨lv1, h1, h2, h3⟩ := h
  obtain ⟨lv2, h4, h5, h6⟩ := k lv1 h1
  have := h2.size
  refine ⟨lv2, h4, h2.step h5 h3, fun k hk => ?_⟩
  rcases h6 k hk with h7 | h7
  · exact h3 k h7
  · right; omega

def okA (s : MS) (a : Int) : Prop := 0 ≤ a ∧ a < s.W.length
instance (s : MS) (a : Int) : Decidable (okA s a) := inferInstanceAs (Decidable (_ ∧ _))
def rd (s : MS) (a : Int) : Int := s.W.getD a.toNat 0
def wr (s : MS) (a v : Int) : MS := { s with W := s.W.set a.toNat v }
def tick (s : MS) (x : Acc) : MS := { s with k := s.k + 1, L := if s.on then s.L ++ [x] else s.L }
def Roomy (s : MS) : Prop := 0 ≤ s.k ∧ s.k < 4611686018427387904 ∧ s.L.length < 4294967296

theorem right_nil (sl : Value) (w : World) : Fn Try.prog 85 #[.pointer none, sl] w fun r w' => r = .int .i64 1 ∧ w' = w := by
  refine fn_enter Try.func85 rfl rfl ?_
  refine ptr_eq0 ?_
  exact ⟨rfl, rfl⟩

theorem right_c {w : World} {p : Nat} {v lv : Value} {s : MS} (h : IsMem w p v lv s) (l : List Int) {g : Nat} {cs : Array Value} (hb : Blk w g 3 cs) (hcs : ∀ j, j < l.length → cs[j]? = some (.int .i64 (l.getD j 0))) (hlen : l.length < 4294967296) :
    Fn Try.prog 85 #[.pointer (some ⟨p, 0, none⟩), .slice (some ⟨g, 0, none⟩) l.length l.length] w fun r w' => r = .int .i64 (if ∀ a ∈ l, okA s a then 0 else 2) ∧ w' = w := by
  obtain ⟨a0, c0, rfl, -⟩ := h.words.form
  refine fn_enter Try.func85 rfl rfl ?_
  refine ptr_eq ?_
  refine len_sl ?_
  refine loop_rule [0, 9, 10] [11] (fun vs w' m => ∃ j : Nat, vs = [.int .i64 j] ∧ j ≤ l.length ∧ m = l.length - j ∧ (∀ i, i < j → okA s (l.getD i 0)) ∧ w' = w) rfl [.int .i64 0] l.length rfl ⟨0, rfl, by omega, by omega, by simp, rfl⟩ ?_
  rintro _ w1 m ⟨j, rfl, hj, rfl, hok, rfl⟩
  refine cd (fun hlt => ?_) (fun hlt => ?_)
  · have hlt : j < l.length := by omega
    refine ix j rfl hlt ?_
    refine ld (v := .int .i64 (l.getD j 0)) (by rw [hb.cell]; simpa using hcs j hlt) ?_
    have hmem : l.getD j 0 ∈ l := by simp [List.getD, hlt]
    generalize hx : l.getD j 0 = x at *
    have bad : ¬ okA s x → (if ∀ a ∈ l, okA s a then (0 : Int) else 2) = 2 := fun hn => if_neg fun ha => hn (ha x hmem)
    refine cd (fun h0 => ?_) (fun h0 => ?_)
    · exact ⟨by rw [bad (by unfold okA; omega)]; rfl, rfl⟩
    · refine fa ?_
      refine ldb h.blk rfl ?_
      refine len_sl ?_
      refine cd (fun h1 => ?_) (fun h1 => ?_)
      · exact ⟨by rw [bad (by unfold okA; omega)]; rfl, rfl⟩
      · refine ar64 (by omega) ?_
        refine round_mk [.int .i64 ((j + 1 : Nat) : Int)] (l.length - (j + 1)) rfl rfl ?_ (by omega)
        refine ⟨j + 1, rfl, by omega, rfl, fun i hi => ?_, rfl⟩
        rcases (show i < j ∨ i = j by omega) with h2 | rfl
        · exact hok i h2
        · rw [hx]; unfold okA; omega
  · have hj : j = l.length := by omega
    refine ⟨?_, rfl⟩
    rw [if_pos]
    · rfl
    · intro a ha
      obtain ⟨i, hi, rfl⟩ := List.getElem_of_mem ha
      have := hok i (by omega)
      simpa [List.getD, hi] using this
theorem count_c {w : World} {p : Nat} {v lv : Value} {s : MS} (h : IsMem w p v lv s) (hr : Roomy s) (x : Acc) :
    Fn Try.prog 86 #[.pointer (some ⟨p, 0, none⟩), .agg (accCells x).toArray] w fun _ w' => MemPost w p v lv (tick s x) w' := by
  obtain ⟨xa, xb, xc, xd⟩ := x
  obtain ⟨r1, r2, r3⟩ := hr
  obtain ⟨W, k, on, L⟩ := s
  refine fn_enter Try.func86 rfl rfl ?_
  refine bx fun w1 hb1 hu1 hs1 => ?_
  have h1 := h.upd hu1 (by simp)
  refine fa ?_
  refine ldb h1.blk rfl ?_
  refine ar64 (by dsimp only at *; omega) ?_
  refine fa ?_
  refine st h1.blk (by simp) rfl fun w2 hb2 hu2 hs2 => ?_
  have hne : w.heap.size ≠ p := by have := h.blk.lt; omega
  have hx2 := hb1.upd hu2 (by simpa using hne)
  have hW2 := h1.words.upd hu2 fun g hg => by simpa using fun he => h1.n1 (by rw [hg, he])
  have hL2 := h1.log.upd hu2 fun g hg => by simpa using fun he => h1.n2 (by rw [hg, he])
  have hu02 : Upd [p] w w2 := (hu1.mono (by simp)).trans hu2
  have hwW := h.words.lt
  refine fa ?_
  refine ldb hb2 rfl ?_
  cases on with
  | false =>
    exact ⟨lv, ⟨hb2, hW2, hL2⟩, hu02.mono (by simp [mem_foot]), fun k hk => .inl hk⟩
  | true =>
    refine draw_mix 8 [(0, true), (1, true), (2, true), (3, true), (4, true), (5, true), (6, false), (7, false)] (fun w' => Blk w' p 122 #[v, .int .i64 (k + 1), .bool true, lv] ∧ Blk w' w.heap.size 141 (accCells (xa, xb, xc, xd)).toArray) (by decide +kernel) ⟨hb2.drew, hx2.drew⟩ ?_
    refine q_fa ?_
    refine q_ld (v := lv) (fun w' hw' => hw'.1.cell 3) ?_
    refine rq (.agg (accCells (xa, xb, xc, xd)).toArray) (fun w' hw' => ldw hw'.2 rfl ⟨rfl, rfl⟩) ?_
    refine bs (accCells (xa, xb, xc, xd)).toArray (fun _ => by kernel_rfl) fun w3 hb3 hu3 hs3 => ?_
    have hL3 := hL2.drew.upd hu3 (by simp)
    refine ⟨⟨hb2.drew.upd hu3 (by simp), hx2.drew.upd hu3 (by simp)⟩, ?_⟩
    refine app hL3 hb3 rfl rfl (by decide) (by simp [maxLen]; dsimp only at *; omega) (by dsimp only at *; omega) fun g off cap w4 hs4 hu4 hg => ?_
    have e1 : ∀ k ∈ lv.ownBlock.toList, lv.ownBlock = some k := by simp
    have hb4 := (hb2.drew.upd hu3 (by simp)).upd hu4 (fun hm => h.n2 (e1 _ hm))
    have hgp : g ≠ p := by
      rcases hg with hg | rfl
      · intro he; subst he; exact h.n2 hg
      · have h5 := h1.blk.lt; have h6 := hu2.size; have h7 := hu3.size; simp at h7; omega
    refine ⟨⟨hb4, (hx2.drew.upd hu3 (by simp)).upd hu4 (fun hm => by have := h.log.lt _ (e1 _ hm); omega)⟩, ?_⟩
    refine fa ?_
    refine st hb4 (by simp) rfl fun w5 hb5 hu5 hs5 => ?_
    have hL5 := hs4.upd hu5 (by simp [Value.ownBlock]; exact hgp)
    have hW4 := (hW2.drew.upd hu3 (by simp)).upd hu4 (fun g hg hm => h.n3 g hg (e1 _ hm))
    have hW5 := hW4.upd hu5 (fun g hg => by simpa using fun he => h.n1 (by rw [hg, he]))
    refine ⟨.slice (some ⟨g, off, none⟩) (L.length + 1) cap, ⟨hb5, hW5, ?_⟩, ?_, ?_⟩
    · simpa [tick] using hL5
    · have u1 : Upd (mfoot p v lv) w w2 := hu02.mono (by simp [mem_foot])
      have u3 : Upd (mfoot p v lv) w2 w3 := ⟨hu3.os, hu3.tape, hu3.output, hu3.size, fun k hk hn => hu3.block k hk (by simp)⟩
      exact ((u1.trans u3).trans (hu4.mono fun k hk => mem_foot.2 (.inr (.inr (e1 k hk))))).trans (hu5.mono (by simp [mem_foot]))
    · intro k hk
      rw [mem_foot] at hk ⊢
      rcases hk with rfl | hk | hk
      · exact .inl (.inl rfl)
      · exact .inl (.inr (.inl hk))
      · simp only [Value.ownBlock, Option.some.injEq] at hk
        subst hk
        rcases hg with hg | rfl
        · exact .inl (.inr (.inr hg))
        · right; have h6 := hu2.size; have h7 := hu3.size; simp at h7; omega

theorem ok_ix {s : MS} {a : Int} (h : okA s a) : a = (a.toNat : Int) ∧ a.toNat < s.W.length := by unfold okA at h; omega
theorem tick_W (s : MS) (x : Acc) : (tick s x).W = s.W := rfl

theorem load_c {w : World} {p : Nat} {v lv : Value} {s : MS} (h : IsMem w p v lv s) (hr : Roomy s) (a : Int) :
    Fn Try.prog 61 #[.pointer (some ⟨p, 0, none⟩), .int .i64 a] w fun r w' => (okA s a → r = .tuple #[.int .u64 (rd s a), .int .i64 0] ∧ MemPost w p v lv (tick s (0, a, -1, false)) w') ∧ (¬ okA s a → r = .tuple #[.int .u64 0, .int .i64 2] ∧ MemPost w p v lv s w') := by
  refine fn_enter Try.func61 rfl rfl ?_
  refine bs #[.int .i64 a] (fun _ => by kernel_rfl) fun w1 hb1 hu1 hs1 => ?_
  have h1 := h.upd hu1 (by simp)
  refine cl (right_c h1 [a] hb1 (by intro j hj; simp at hj; subst hj; rfl) (by simp)) ?_
  rintro _ _ ⟨rfl, rfl⟩
  by_cases ha : okA s a
  · rw [if_pos (by simpa using ha)]
    refine bd (accCells (0, a, -1, false)).toArray (fun _ => by kernel_rfl) ?_
    refine cl (count_c h1 hr (0, a, -1, false)) ?_
    rintro _ w2 hp2
    have hp2' := hp2
    obtain ⟨lv2, h2, -, -⟩ := hp2'
    refine fa ?_
    refine ldb h2.blk rfl ?_
    obtain ⟨e1, e2⟩ := ok_ix ha
    obtain ⟨g, o, c, rfl, -⟩ := h2.words.some_ (by rw [tick_W]; omega)
    refine ix a.toNat e1 e2 ?_
    refine ld (h2.words.getD_ rfl a.toNat e2) ?_
    exact ⟨fun _ => ⟨rfl, hp2.before hu1⟩, fun hn => absurd ha hn⟩
  · rw [if_neg (by simpa using ha)]
    exact ⟨fun hn => absurd hn ha, fun _ => ⟨rfl, .same h1 hu1⟩⟩
theorem IsMem.put {w w' : World} {p g o n c : Nat} {lv : Value} {s : MS} {j : Nat} {x : Int} (h : IsMem w p (.slice (some ⟨g, o, none⟩) n c) lv s) (hs : Sl w' 27 1 (.slice (some ⟨g, o, none⟩) n c) s.W.length ((s.W.map (Value.int .u64)).set j (.int .u64 x))) (hu : Upd [g] w w') :
    MemPost w p (.slice (some ⟨g, o, none⟩) n c) lv { s with W := s.W.set j x } w' := by
  refine ⟨lv, ⟨h.blk.upd hu (by simpa using fun he => h.n1 (by simp [Value.ownBlock, he])), ?_, h.log.upd hu (fun q hq => by simpa using fun he => h.n3 g rfl (by rw [hq, he]))⟩, hu.mono (by simp [mem_foot, Value.ownBlock]), fun k hk => .inl hk⟩
  show Sl w' 27 1 _ (s.W.set j x).length ((s.W.set j x).map _)
  rw [List.map_set, List.length_set]
  exact hs
theorem MemPost.of_step {w w1 w' : World} {p : Nat} {v lv lv1 : Value} {s' : MS} (hu : Upd (mfoot p v lv) w w1) (hf : ∀ k ∈ mfoot p v lv1, k ∈ mfoot p v lv ∨ w.heap.size ≤ k) (h : MemPost w1 p v lv1 s' w') : MemPost w p v lv s' w' := by
  obtain ⟨lv2, h4, h5, h6⟩ := h
  have := hu.size
  refine ⟨lv2, h4, hu.step h5 hf, fun k hk => ?_⟩
  rcases h6 k hk with h7 | h7
  · exact hf k h7
  · right; omega
theorem store_c {w : World} {p : Nat} {v lv : Value} {s : MS} (h : IsMem w p v lv s) (hr : Roomy s) (a x : Int) :
    Fn Try.prog 58 #[.pointer (some ⟨p, 0, none⟩), .int .i64 a, .int .u64 x] w fun r w' => (okA s a → r = .int .i64 0 ∧ MemPost w p v lv (tick (wr s a x) (1, a, -1, true)) w') ∧ (¬ okA s a → r = .int .i64 2 ∧ MemPost w p v lv s w') := by
  refine fn_enter Try.func58 rfl rfl ?_
  refine bs #[.int .i64 a] (fun _ => by kernel_rfl) fun w1 hb1 hu1 hs1 => ?_
  have h1 := h.upd hu1 (by simp)
  refine cl (right_c h1 [a] hb1 (by intro j hj; simp at hj; subst hj; rfl) (by simp)) ?_
  rintro _ _ ⟨rfl, rfl⟩
  by_cases ha : okA s a
  · rw [if_pos (by simpa using ha)]
    refine bd (accCells (1, a, -1, true)).toArray (fun _ => by kernel_rfl) ?_
    refine cl (count_c h1 hr (1, a, -1, true)) ?_
    rintro _ w2 hp2
    obtain ⟨lv2, h2, hu2, hf2⟩ := hp2
    refine fa ?_
    refine ldb h2.blk rfl ?_
    obtain ⟨e1, e2⟩ := ok_ix ha
    obtain ⟨g, o, c, rfl, -⟩ := h2.words.some_ (by rw [tick_W]; omega)
    refine ix a.toNat e1 e2 ?_
    refine stS h2.words rfl e2 rfl fun w3 hs3 hu3 hz3 => ?_
    exact ⟨fun _ => ⟨rfl, (MemPost.of_step hu2 hf2 (h2.put hs3 hu3)).before hu1⟩, fun hn => absurd ha hn⟩
  · rw [if_neg (by simpa using ha)]
    exact ⟨fun hn => absurd hn ha, fun _ => ⟨rfl, .same h1 hu1⟩⟩
theorem Roomy.wr_ {s : MS} (hr : Roomy s) (a x : Int) : Roomy (wr s a x) := hr
theorem cas_c {w : World} {p : Nat} {v lv : Value} {s : MS} (h : IsMem w p v lv s) (hr : Roomy s) (a o n : Int) :
    Fn Try.prog 99 #[.pointer (some ⟨p, 0, none⟩), .int .i64 a, .int .u64 o, .int .u64 n] w fun r w' => (okA s a → r = .tuple #[.bool (rd s a == o), .int .i64 0] ∧ MemPost w p v lv (tick (if rd s a = o then wr s a n else s) (2, a, -1, rd s a == o)) w') ∧ (¬ okA s a → r = .tuple #[.bool false, .int .i64 2] ∧ MemPost w p v lv s w') := by
  refine fn_enter Try.func99 rfl rfl ?_
  refine bs #[.int .i64 a] (fun _ => by kernel_rfl) fun w1 hb1 hu1 hs1 => ?_
  have h1 := h.upd hu1 (by simp)
  refine cl (right_c h1 [a] hb1 (by intro j hj; simp at hj; subst hj; rfl) (by simp)) ?_
  rintro _ _ ⟨rfl, rfl⟩
  by_cases ha : okA s a
  · rw [if_pos (by simpa using ha)]
    obtain ⟨e1, e2⟩ := ok_ix ha
    obtain ⟨g, of, c, rfl, -⟩ := h1.words.some_ (by omega)
    refine fa ?_
    refine ldb h1.blk rfl ?_
    refine ix a.toNat e1 e2 ?_
    refine ld (h1.words.getD_ rfl a.toNat e2) ?_
    by_cases he : rd s a = o
    · refine cY he ?_
      refine fa ?_
      refine ldb h1.blk rfl ?_
      refine ix a.toNat e1 e2 ?_
      refine stS h1.words rfl e2 rfl fun w2 hs2 hu2 hz2 => ?_
      have hp2 := h1.put hs2 hu2
      obtain ⟨lv2, h2, hu2', hf2⟩ := hp2
      refine bd (accCells (2, a, -1, rd s a == o)).toArray (fun _ => by kernel_rfl) ?_
      refine cl (count_c h2 (hr.wr_ a n) (2, a, -1, rd s a == o)) ?_
      rintro _ w3 hp3
      rw [if_pos he]
      exact ⟨fun _ => ⟨rfl, (MemPost.of_step hu2' hf2 hp3).before hu1⟩, fun hn => absurd ha hn⟩
    · refine cN he ?_
      refine bd (accCells (2, a, -1, rd s a == o)).toArray (fun _ => by kernel_rfl) ?_
      refine cl (count_c h1 hr (2, a, -1, rd s a == o)) ?_
      rintro _ w3 hp3
      rw [if_neg he]
      exact ⟨fun _ => ⟨rfl, hp3.before hu1⟩, fun hn => absurd ha hn⟩
  · rw [if_neg (by simpa using ha)]
    exact ⟨fun hn => absurd hn ha, fun _ => ⟨rfl, .same h1 hu1⟩⟩
theorem add_c {w : World} {p : Nat} {v lv : Value} {s : MS} (h : IsMem w p v lv s) (hr : Roomy s) (a d : Int) :
    Fn Try.prog 100 #[.pointer (some ⟨p, 0, none⟩), .int .i64 a, .int .u64 d] w fun r w' => (okA s a → r = .tuple #[.int .u64 (rd s a), .int .i64 0] ∧ MemPost w p v lv (tick (wr s a (IntKind.u64.wrap (rd s a + d))) (3, a, -1, true)) w') ∧ (¬ okA s a → r = .tuple #[.int .u64 0, .int .i64 2] ∧ MemPost w p v lv s w') := by
  refine fn_enter Try.func100 rfl rfl ?_
  refine bs #[.int .i64 a] (fun _ => by kernel_rfl) fun w1 hb1 hu1 hs1 => ?_
  have h1 := h.upd hu1 (by simp)
  refine cl (right_c h1 [a] hb1 (by intro j hj; simp at hj; subst hj; rfl) (by simp)) ?_
  rintro _ _ ⟨rfl, rfl⟩
  by_cases ha : okA s a
  · rw [if_pos (by simpa using ha)]
    refine bd (accCells (3, a, -1, true)).toArray (fun _ => by kernel_rfl) ?_
    refine cl (count_c h1 hr (3, a, -1, true)) ?_
    rintro _ w2 hp2
    obtain ⟨lv2, h2, hu2, hf2⟩ := hp2
    obtain ⟨e1, e2⟩ := ok_ix ha
    obtain ⟨g, o, c, rfl, -⟩ := h2.words.some_ (by rw [tick_W]; omega)
    refine fa ?_
    refine ldb h2.blk rfl ?_
    refine ix a.toNat e1 e2 ?_
    refine ld (h2.words.getD_ rfl a.toNat e2) ?_
    refine fa ?_
    refine ldb h2.blk rfl ?_
    refine ix a.toNat e1 e2 ?_
    refine ld (h2.words.getD_ rfl a.toNat e2) ?_
    refine val _ rfl ?_
    refine ix a.toNat e1 e2 ?_
    refine stS h2.words rfl e2 rfl fun w3 hs3 hu3 hz3 => ?_
    exact ⟨fun _ => ⟨rfl, (MemPost.of_step hu2 hf2 (h2.put hs3 hu3)).before hu1⟩, fun hn => absurd ha hn⟩
  · rw [if_neg (by simpa using ha)]
    exact ⟨fun hn => absurd hn ha, fun _ => ⟨rfl, .same h1 hu1⟩⟩

theorem dcss_c {w : World} {p : Nat} {v lv : Value} {s : MS} (h : IsMem w p v lv s) (hr : Roomy s) (a o n b q : Int) :
    Fn Try.prog 102 #[.pointer (some ⟨p, 0, none⟩), .int .i64 a, .int .u64 o, .int .u64 n, .int .i64 b, .int .u64 q] w fun r w' =>
      (okA s a ∧ okA s b → r = .tuple #[.bool (decide (rd s a = o ∧ rd s b = q)), .int .i64 0] ∧ MemPost w p v lv (tick (if rd s a = o ∧ rd s b = q then wr s a n else s) (5, a, b, decide (rd s a = o ∧ rd s b = q))) w') ∧ (¬ (okA s a ∧ okA s b) → r = .tuple #[.bool false, .int .i64 2] ∧ MemPost w p v lv s w') := by
  refine fn_enter Try.func102 rfl rfl ?_
  refine bs #[.int .i64 a, .int .i64 b] (fun _ => by kernel_rfl) fun w1 hb1 hu1 hs1 => ?_
  have h1 := h.upd hu1 (by simp)
  refine cl (right_c h1 [a, b] hb1 (by intro j hj; simp at hj; rcases (show j = 0 ∨ j = 1 by omega) with rfl | rfl <;> rfl) (by simp)) ?_
  rintro _ _ ⟨rfl, rfl⟩
  by_cases ha : okA s a ∧ okA s b
  · rw [if_pos (by simpa using ha)]
    obtain ⟨e1, e2⟩ := ok_ix ha.1
    obtain ⟨f1, f2⟩ := ok_ix ha.2
    obtain ⟨g, of, c, rfl, -⟩ := h1.words.some_ (by omega)
    refine fa ?_
    refine ldb h1.blk rfl ?_
    refine ix a.toNat e1 e2 ?_
    refine ld (h1.words.getD_ rfl a.toNat e2) ?_
    refine cd (fun he => ?_) (fun he => ?_)
    · refine fa ?_
      refine ldb h1.blk rfl ?_
      refine ix b.toNat f1 f2 ?_
      refine ld (h1.words.getD_ rfl b.toNat f2) ?_
      refine cd (fun he2 => ?_) (fun he2 => ?_)
      · refine fa ?_
        refine ldb h1.blk rfl ?_
        refine ix a.toNat e1 e2 ?_
        refine stS h1.words rfl e2 rfl fun w2 hs2 hu2 hz2 => ?_
        obtain ⟨lv2, h2, hu2', hf2⟩ := h1.put hs2 hu2
        have hc : rd s a = o ∧ rd s b = q := ⟨he, he2⟩
        have hb : (rd s b == q) = decide (rd s a = o ∧ rd s b = q) := by simp [hc]
        rw [if_pos hc, ← hb]
        refine bd (accCells (5, a, b, rd s b == q)).toArray (fun _ => by kernel_rfl) ?_
        refine cl (count_c h2 (hr.wr_ a n) (5, a, b, rd s b == q)) ?_
        rintro _ w3 hp3
        exact ⟨fun _ => ⟨rfl, (MemPost.of_step hu2' hf2 hp3).before hu1⟩, fun hn => absurd ha hn⟩
      · have hc : ¬ (rd s a = o ∧ rd s b = q) := fun hc => he2 hc.2
        have hb : (rd s b == q) = decide (rd s a = o ∧ rd s b = q) := by rw [decide_eq_false hc]; exact beq_eq_false_iff_ne.2 he2
        rw [if_neg hc, ← hb]
        refine bd (accCells (5, a, b, rd s b == q)).toArray (fun _ => by kernel_rfl) ?_
        refine cl (count_c h1 hr (5, a, b, rd s b == q)) ?_
        rintro _ w3 hp3
        exact ⟨fun _ => ⟨rfl, hp3.before hu1⟩, fun hn => absurd ha hn⟩
    · have hc : ¬ (rd s a = o ∧ rd s b = q) := fun hc => he hc.1
      rw [if_neg hc, decide_eq_false hc]
      refine bd (accCells (5, a, b, false)).toArray (fun _ => by kernel_rfl) ?_
      refine cl (count_c h1 hr (5, a, b, false)) ?_
      rintro _ w3 hp3
      exact ⟨fun _ => ⟨rfl, hp3.before hu1⟩, fun hn => absurd ha hn⟩
  · rw [if_neg (by simpa using ha)]
    exact ⟨fun hn => absurd hn ha, fun _ => ⟨rfl, .same h1 hu1⟩⟩
theorem dcas_c {w : World} {p : Nat} {v lv : Value} {s : MS} (h : IsMem w p v lv s) (hr : Roomy s) (a o n b q r : Int) :
    Fn Try.prog 101 #[.pointer (some ⟨p, 0, none⟩), .int .i64 a, .int .u64 o, .int .u64 n, .int .i64 b, .int .u64 q, .int .u64 r] w fun x w' =>
      ((okA s a ∧ okA s b) ∧ a ≠ b → x = .tuple #[.bool (decide (rd s a = o ∧ rd s b = q)), .int .i64 0] ∧ MemPost w p v lv (tick (if rd s a = o ∧ rd s b = q then wr (wr s a n) b r else s) (4, a, b, decide (rd s a = o ∧ rd s b = q))) w') ∧ (¬ ((okA s a ∧ okA s b) ∧ a ≠ b) → x = .tuple #[.bool false, .int .i64 2] ∧ MemPost w p v lv s w') := by
  refine fn_enter Try.func101 rfl rfl ?_
  refine bs #[.int .i64 a, .int .i64 b] (fun _ => by kernel_rfl) fun w1 hb1 hu1 hs1 => ?_
  have h1 := h.upd hu1 (by simp)
  refine cl (right_c h1 [a, b] hb1 (by intro j hj; simp at hj; rcases (show j = 0 ∨ j = 1 by omega) with rfl | rfl <;> rfl) (by simp)) ?_
  rintro _ _ ⟨rfl, rfl⟩
  by_cases ha : okA s a ∧ okA s b
  · rw [if_pos (by simpa using ha)]
    refine cd (fun hab => ?_) (fun hab => ?_)
    · exact ⟨fun hn => absurd hab hn.2, fun _ => ⟨rfl, .same h1 hu1⟩⟩
    obtain ⟨e1, e2⟩ := ok_ix ha.1
    obtain ⟨f1, f2⟩ := ok_ix ha.2
    obtain ⟨g, of, c, rfl, -⟩ := h1.words.some_ (by omega)
    refine fa ?_
    refine ldb h1.blk rfl ?_
    refine ix a.toNat e1 e2 ?_
    refine ld (h1.words.getD_ rfl a.toNat e2) ?_
    refine cd (fun he => ?_) (fun he => ?_)
    · refine fa ?_
      refine ldb h1.blk rfl ?_
      refine ix b.toNat f1 f2 ?_
      refine ld (h1.words.getD_ rfl b.toNat f2) ?_
      refine cd (fun he2 => ?_) (fun he2 => ?_)
      · refine draw_mix 14 [(0, true), (1, true), (2, true), (3, true), (4, true), (5, true), (6, true), (7, true), (8, true), (9, true), (10, true), (11, true), (12, true), (13, false)] (fun w' => Blk w' p 122 #[.slice (some ⟨g, of, none⟩) s.W.length c, .int .i64 s.k, .bool s.on, lv]) (by decide +kernel) h1.blk.drew ?_
        refine q_fa ?_
        refine q_ld (v := .slice (some ⟨g, of, none⟩) s.W.length c) (fun w' hw' => hw'.cell 0) ?_
        refine q_fa ?_
        refine q_ld (v := .slice (some ⟨g, of, none⟩) s.W.length c) (fun w' hw' => hw'.cell 0) ?_
        have hd := h1.upd (S := []) (w' := _) ((Upd.refl [] _).drew) (by simp)
        have hud : Upd [] w _ := hu1.drew
        refine q_ix a.toNat e1 e2 ?_
        refine stS hd.words rfl e2 rfl fun w2 hs2 hu2 hz2 => ?_
        refine ⟨hd.blk.upd hu2 (by simpa using fun he => h.n1 (by simp [Value.ownBlock, he])), ?_⟩
        obtain ⟨lv2, h2, hu2', hf2⟩ := hd.put hs2 hu2
        have hlen : ({ s with W := s.W.set a.toNat n } : MS).W.length = s.W.length := by simp
        refine ix b.toNat f1 f2 ?_
        rw [← hlen] at h2 ⊢
        refine stS h2.words rfl (by rw [hlen]; exact f2) rfl fun w3 hs3 hu3 hz3 => ?_
        obtain ⟨lv3, h3, hu3', hf3⟩ := h2.put hs3 hu3
        rw [hlen] at *
        have hc : rd s a = o ∧ rd s b = q := ⟨he, he2⟩
        have hb : (rd s b == q) = decide (rd s a = o ∧ rd s b = q) := by simp [hc]
        rw [if_pos hc, ← hb]
        refine bd (accCells (4, a, b, rd s b == q)).toArray (fun _ => by kernel_rfl) ?_
        refine cl (count_c h3 ((hr.wr_ a n).wr_ b r) (4, a, b, rd s b == q)) ?_
        rintro _ w4 hp4
        exact ⟨fun _ => ⟨rfl, (MemPost.of_step hu2' hf2 (MemPost.of_step hu3' hf3 hp4)).before hud⟩, fun hn => absurd ⟨ha, hab⟩ hn⟩
      · have hc : ¬ (rd s a = o ∧ rd s b = q) := fun hc => he2 hc.2
        have hb : (rd s b == q) = decide (rd s a = o ∧ rd s b = q) := by rw [decide_eq_false hc]; exact beq_eq_false_iff_ne.2 he2
        rw [if_neg hc, ← hb]
        refine bd (accCells (4, a, b, rd s b == q)).toArray (fun _ => by kernel_rfl) ?_
        refine cl (count_c h1 hr (4, a, b, rd s b == q)) ?_
        rintro _ w3 hp3
        exact ⟨fun _ => ⟨rfl, hp3.before hu1⟩, fun hn => absurd ⟨ha, hab⟩ hn⟩
    · have hc : ¬ (rd s a = o ∧ rd s b = q) := fun hc => he hc.1
      rw [if_neg hc, decide_eq_false hc]
      refine bd (accCells (4, a, b, false)).toArray (fun _ => by kernel_rfl) ?_
      refine cl (count_c h1 hr (4, a, b, false)) ?_
      rintro _ w3 hp3
      exact ⟨fun _ => ⟨rfl, hp3.before hu1⟩, fun hn => absurd ⟨ha, hab⟩ hn⟩
  · rw [if_neg (by simpa using ha)]
    exact ⟨fun hn => absurd hn.1 ha, fun _ => ⟨rfl, .same h1 hu1⟩⟩
theorem clone57 {w : World} {v : Value} {n : Nat} {xs : List Value} (hs : Sl w 27 1 v n xs) (h1 : ∀ u ∈ xs, u.oneCell' = true) (hn : n < 4294967296) :
    Fn Try.prog 72 #[v] w fun r w' => Sl w' 27 1 r n xs ∧ Upd [] w w' ∧ ∀ g, r.ownBlock = some g → w.heap.size ≤ g := by
  rcases hs.2 with ⟨rfl, rfl⟩ | ⟨g, off, cap, cur, rfl, -⟩
  · refine fn_enter Try.func72 rfl rfl ?_
    refine sl_eq ?_
    exact ⟨hs, Upd.refl _ _, by simp [Value.ownBlock]⟩
  · refine fn_enter Try.func72 rfl rfl ?_
    refine sl_eq ?_
    refine bs #[] (fun _ => by kernel_rfl) fun w1 hb1 hu1 hs1 => ?_
    have hsl1 : Sl w1 27 1 (.slice (some ⟨w.heap.size, 0, none⟩) 0 0) 0 [] := ⟨by simp, .inr ⟨_, _, 0, #[], rfl, hb1, by omega, by simp [maxLen], by simp, by simp⟩⟩
    by_cases h0 : n = 0
    · subst h0
      have hx : xs = [] := List.eq_nil_of_length_eq_zero (by simpa using hs.1)
      subst hx
      refine ap0 (by omega) ?_
      exact ⟨hsl1, hu1, by simp [Value.ownBlock]⟩
    · refine apr xs hsl1 hs.1 (fun j u hu => ?_) h1 (by omega) (by simp [maxLen]; omega) (by omega) fun g' off' cap' w2 hs2 hu2 hg => ?_
      · have hj : j < n * 1 := by
          rw [← hs.1]
          rcases Nat.lt_or_ge j xs.length with h | h
          · exact h
          · rw [List.getElem?_eq_none h] at hu; cases hu
        rw [((hs.upd hu1 (by simp)).cells rfl j hj).1, hu]
      · refine ⟨by simpa using hs2, hu1.step hu2 (by simp [Value.ownBlock]), ?_⟩
        intro q hq
        simp only [retV_one, Value.ownBlock, Option.some.injEq] at hq hg
        subst hq
        have := hu1.size
        rcases hg with rfl | rfl <;> omega
theorem new_no (n : Int) (w : World) (h : ¬ (1 ≤ n ∧ n ≤ 4096)) : Fn Try.prog 65 #[.int .i64 n] w fun r w' => r = .tuple #[.pointer none, .int .i64 2] ∧ w' = w := by
  refine fn_enter Try.func65 rfl rfl ?_
  refine cd (fun h1 => ⟨rfl, rfl⟩) (fun h1 => ?_)
  exact cY (by omega) ⟨rfl, rfl⟩
def newMS (n : Nat) : MS := ⟨List.replicate n 0, 0, false, []⟩
theorem made_zero (n : Nat) : madeCells #[.int .u64 0] n = ((List.replicate n (0 : Int)).map (Value.int .u64)).toArray := by
  rw [made_row1, List.map_replicate]
theorem new_yes (n : Nat) (w : World) (h1 : 1 ≤ n) (h2 : n ≤ 4096) : Fn Try.prog 65 #[.int .i64 n] w fun r w' => ∃ p v, r = .tuple #[.pointer (some ⟨p, 0, none⟩), .int .i64 0] ∧ IsMem w' p v (.slice none 0 0) (newMS n) ∧ Upd [] w w' ∧ ∀ k ∈ mfoot p v (.slice none 0 0), w.heap.size ≤ k := by
  refine fn_enter Try.func65 rfl rfl ?_
  refine cN (by omega) ?_
  refine cN (by omega) ?_
  refine mks n rfl rfl (by omega) (by omega) fun w1 hb1 hu1 hs1 => ?_
  refine bd #[.slice (some ⟨w.heap.size, 0, none⟩) n n, .int .i64 0, .bool false, .slice none 0 0] (fun _ => by kernel_rfl) ?_
  refine bx fun w2 hb2 hu2 hs2 => ?_
  rw [made_zero] at hb1
  have hsl : Sl w1 27 1 (.slice (some ⟨w.heap.size, 0, none⟩) n n) n ((List.replicate n (0 : Int)).map (Value.int .u64)) :=
    ⟨by simp, .inr ⟨_, _, n, _, rfl, hb1, by omega, by simp [maxLen]; omega, by simp, by simp⟩⟩
  refine ⟨w1.heap.size, .slice (some ⟨w.heap.size, 0, none⟩) n n, rfl, ⟨hb2, ?_, Sl.nil_ _ _ _⟩, hu1.trans hu2, ?_⟩
  · have := hsl.upd hu2 (by simp)
    simpa [newMS] using this
  · intro k hk
    rw [mem_foot] at hk
    simp [Value.ownBlock] at hk
    omega
section
variable {w : World} {p : Nat} {v lv : Value} {s : MS}
theorem steps_c (h : IsMem w p v lv s) : Fn Try.prog 46 #[.pointer (some ⟨p, 0, none⟩)] w fun r w' => r = .int .i64 s.k ∧ w' = w := by
  refine fn_enter Try.func46 rfl rfl ?_
  refine ptr_eq ?_
  refine fa ?_
  refine ldb h.blk rfl ?_
  exact ⟨rfl, rfl⟩
theorem words_c (h : IsMem w p v lv s) (hn : s.W.length < 4294967296) : Fn Try.prog 35 #[.pointer (some ⟨p, 0, none⟩)] w fun r w' => Sl w' 27 1 r s.W.length (s.W.map (Value.int .u64)) ∧ Upd [] w w' ∧ ∀ g, r.ownBlock = some g → w.heap.size ≤ g := by
  refine fn_enter Try.func35 rfl rfl ?_
  refine ptr_eq ?_
  refine fa ?_
  refine ldb h.blk rfl ?_
  refine cl (clone57 h.words (by simp only [List.mem_map]; rintro u ⟨x, -, rfl⟩; rfl) hn) ?_
  intro r w' hr
  exact hr
end
end Go.Proofs.Ytdomclcokkijjaa

