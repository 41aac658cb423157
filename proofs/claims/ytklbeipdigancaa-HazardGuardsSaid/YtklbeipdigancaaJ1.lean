/- Joined: Em Ea Eb Ec Ed Ef Eh Ei Ej El En Eo Ep Eq Er Es Et Eu. -/
import Derived.Test.YtklbeipdigancaaTy
import Derived.Test.YtklbeipdigancaaV14
import Derived.Test.YtklbeipdigancaaV15
import Derived.Test.YtklbeipdigancaaV16
import Derived.Test.YtklbeipdigancaaV17
import Derived.Test.YtklbeipdigancaaArgs
/- Contracts of the memory's functions. -/
namespace Go.Proofs.Ytklbeipdigancaa
open Go.RowKit
attribute [local irreducible] Instr.loadAt Instr.storeAt Instr.fieldAt Instr.indexAt Instr.sliceAt Instr.buildSlice Instr.box Instr.alloc Builtin.append_ Builtin.len_ Calls Instr.build Instr.makeSlice binSem

abbrev Acc := Int × Int × Int × Bool
def accCells (x : Acc) : List Value := [.int .i64 x.1, .int .i64 x.2.1, .int .i64 x.2.2.1, .bool x.2.2.2]
/-- a memory: its words, its count, whether it is watched, its log -/
structure MS where
  W : List Int
  k : Int
  on : Bool
  L : List Acc
structure IsMem (w : World) (p : Nat) (v lv : Value) (s : MS) : Prop where
  blk : Blk w p 83 #[v, .int .i64 s.k, .bool s.on, lv]
  words : Sl w 36 1 v s.W.length (s.W.map (Value.int .u64))
  log : Sl w 87 4 lv s.L.length (s.L.flatMap accCells)
def mfoot (p : Nat) (v lv : Value) : List Nat := p :: (v.ownBlock.toList ++ lv.ownBlock.toList)
theorem mem_foot {p : Nat} {v lv : Value} {k : Nat} : k ∈ mfoot p v lv ↔ k = p ∨ v.ownBlock = some k ∨ lv.ownBlock = some k := by simp [mfoot]
section
variable {w w' : World} {p : Nat} {v lv : Value} {s : MS}
theorem IsMem.upd {S : List Nat} (h : IsMem w p v lv s) (hu : Upd S w w') (hn : ∀ k ∈ mfoot p v lv, k ∉ S) : IsMem w' p v lv s :=
  ⟨h.blk.upd hu (hn p (by simp [mem_foot])), h.words.upd hu fun g hg => hn g (by simp [mem_foot, hg]), h.log.upd hu fun g hg => hn g (by simp [mem_foot, hg])⟩
theorem IsMem.lt (h : IsMem w p v lv s) : ∀ k ∈ mfoot p v lv, k < w.heap.size := by
  intro k hk
  rcases mem_foot.1 hk with rfl | hk | hk
  · exact h.blk.lt
  · exact h.words.lt k hk
  · exact h.log.lt k hk
theorem IsMem.n1 (h : IsMem w p v lv s) : v.ownBlock ≠ some p := h.words.blk_ne h.blk (by decide)
theorem IsMem.n2 (h : IsMem w p v lv s) : lv.ownBlock ≠ some p := h.log.blk_ne h.blk (by decide)
theorem IsMem.n3 (h : IsMem w p v lv s) : ∀ g, v.ownBlock = some g → lv.ownBlock ≠ some g := h.words.ne_ h.log (by decide)
end

/-- what a step leaves -/
def MemPost (w : World) (p : Nat) (v lv : Value) (s' : MS) (w' : World) : Prop := ∃ lv', IsMem w' p v lv' s' ∧ Upd (mfoot p v lv) w w' ∧ ∀ k ∈ mfoot p v lv', k ∈ mfoot p v lv ∨ w.heap.size ≤ k
theorem MemPost.same {w w' : World} {p : Nat} {v lv : Value} {s : MS} (h : IsMem w' p v lv s) (hu : Upd [] w w') : MemPost w p v lv s w' := ⟨lv, h, hu.mono (by simp), fun k hk => .inl hk⟩
theorem MemPost.before {w w1 w' : World} {p : Nat} {v lv : Value} {s : MS} (h : MemPost w1 p v lv s w') (hu : Upd [] w w1) : MemPost w p v lv s w' := by
  obtain ⟨lv', h1, h2, h3⟩ := h
  refine ⟨lv', h1, (hu.mono (by simp)).trans h2, fun k hk => ?_⟩
  have := hu.size
  rcases h3 k hk with h4 | h4
  · exact .inl h4
  · right; omega
theorem MemPost.step {w w1 w' : World} {p : Nat} {v lv : Value} {s s' : MS} (h : MemPost w p v lv s w1) (k : ∀ lv1, IsMem w1 p v lv1 s → MemPost w1 p v lv1 s' w') : MemPost w p v lv s' w' := by
  obtain ⟨lv1, h1, h2, h3⟩ := h
  obtain ⟨lv2, h4, h5, h6⟩ := k lv1 h1
  have := h2.size
  refine ⟨lv2, h4, h2.step h5 h3, fun k hk => ?_⟩
  rcases h6 k hk with h7 | h7
  · exact h3 k h7
  · right; omega

def okA (s : MS) (a : Int) : Prop := 0 ≤ a ∧ a < s.W.length
instance (s : MS) (a : Int) : Decidable (okA s a) := inferInstanceAs (Decidable (_ ∧ _))
def rd (s : MS) (a : Int) : Int := s.W.getD a.toNat 0
def wr (s : MS) (a v : Int) : MS := { s with W := s.W.set a.toNat v }
def tick (s : MS) (x : Acc) : MS := { s with k := s.k + 1, L := if s.on then s.L ++ [x] else s.L }
def Roomy (s : MS) : Prop := 0 ≤ s.k ∧ s.k < 4611686018427387904 ∧ s.L.length < 4294967296

theorem right_nil (sl : Value) (w : World) : Fn Try.prog 37 #[.pointer none, sl] w fun r w' => r = .int .i64 1 ∧ w' = w := by
  refine fn_enter Try.func37 rfl rfl ?_
  refine ptr_eq0 ?_
  exact ⟨rfl, rfl⟩

theorem right_c {w : World} {p : Nat} {v lv : Value} {s : MS} (h : IsMem w p v lv s) (l : List Int) {g : Nat} {cs : Array Value} (hb : Blk w g 3 cs) (hcs : ∀ j, j < l.length → cs[j]? = some (.int .i64 (l.getD j 0))) (hlen : l.length < 4294967296) :
    Fn Try.prog 37 #[.pointer (some ⟨p, 0, none⟩), .slice (some ⟨g, 0, none⟩) l.length l.length] w fun r w' => r = .int .i64 (if ∀ a ∈ l, okA s a then 0 else 2) ∧ w' = w := by
  obtain ⟨a0, c0, rfl, -⟩ := h.words.form
  refine fn_enter Try.func37 rfl rfl ?_
  refine ptr_eq ?_
  refine len_sl ?_
  refine loop_rule [0, 9, 10] [11] (fun vs w' m => ∃ j : Nat, vs = [.int .i64 j] ∧ j ≤ l.length ∧ m = l.length - j ∧ (∀ i, i < j → okA s (l.getD i 0)) ∧ w' = w) rfl [.int .i64 0] l.length rfl ⟨0, rfl, by omega, by omega, by simp, rfl⟩ ?_
  rintro _ w1 m ⟨j, rfl, hj, rfl, hok, rfl⟩
  refine cd (fun hlt => ?_) (fun hlt => ?_)
  · have hlt : j < l.length := by omega
    refine ix j rfl hlt ?_
    refine ld (v := .int .i64 (l.getD j 0)) (by rw [hb.cell]; simpa using hcs j hlt) ?_
    have hmem : l.getD j 0 ∈ l := by simp [List.getD, hlt]
    generalize hx : l.getD j 0 = x at *
    have bad : ¬ okA s x → (if ∀ a ∈ l, okA s a then (0 : Int) else 2) = 2 := fun hn => if_neg fun ha => hn (ha x hmem)
    refine cd (fun h0 => ?_) (fun h0 => ?_)
    · exact ⟨by rw [bad (by unfold okA; omega)]; rfl, rfl⟩
    · refine fa ?_
      refine ldb h.blk rfl ?_
      refine len_sl ?_
      refine cd (fun h1 => ?_) (fun h1 => ?_)
      · exact ⟨by rw [bad (by unfold okA; omega)]; rfl, rfl⟩
      · refine ar64 (by omega) ?_
        refine round_mk [.int .i64 ((j + 1 : Nat) : Int)] (l.length - (j + 1)) rfl rfl ?_ (by omega)
        refine ⟨j + 1, rfl, by omega, rfl, fun i hi => ?_, rfl⟩
        rcases (show i < j ∨ i = j by omega) with h2 | rfl
        · exact hok i h2
        · rw [hx]; unfold okA; omega
  · have hj : j = l.length := by omega
    refine ⟨?_, rfl⟩
    rw [if_pos]
    · rfl
    · intro a ha
      obtain ⟨i, hi, rfl⟩ := List.getElem_of_mem ha
      have := hok i (by omega)
      simpa [List.getD, hi] using this
theorem count_c {w : World} {p : Nat} {v lv : Value} {s : MS} (h : IsMem w p v lv s) (hr : Roomy s) (x : Acc) :
    Fn Try.prog 38 #[.pointer (some ⟨p, 0, none⟩), .agg (accCells x).toArray] w fun _ w' => MemPost w p v lv (tick s x) w' := by
  obtain ⟨xa, xb, xc, xd⟩ := x
  obtain ⟨r1, r2, r3⟩ := hr
  obtain ⟨W, k, on, L⟩ := s
  refine fn_enter Try.func38 rfl rfl ?_
  refine bx fun w1 hb1 hu1 hs1 => ?_
  have h1 := h.upd hu1 (by simp)
  refine fa ?_
  refine ldb h1.blk rfl ?_
  refine ar64 (by dsimp only at *; omega) ?_
  refine fa ?_
  refine st h1.blk (by simp) rfl fun w2 hb2 hu2 hs2 => ?_
  have hne : w.heap.size ≠ p := by have := h.blk.lt; omega
  have hx2 := hb1.upd hu2 (by simpa using hne)
  have hW2 := h1.words.upd hu2 fun g hg => by simpa using fun he => h1.n1 (by rw [hg, he])
  have hL2 := h1.log.upd hu2 fun g hg => by simpa using fun he => h1.n2 (by rw [hg, he])
  have hu02 : Upd [p] w w2 := (hu1.mono (by simp)).trans hu2
  have hwW := h.words.lt
  refine fa ?_
  refine ldb hb2 rfl ?_
  cases on with
  | false =>
    exact ⟨lv, ⟨hb2, hW2, hL2⟩, hu02.mono (by simp [mem_foot]), fun k hk => .inl hk⟩
  | true =>
    refine draw_mix 8 [(0, true), (1, true), (2, true), (3, true), (4, true), (5, true), (6, false), (7, false)] (fun w' => Blk w' p 83 #[v, .int .i64 (k + 1), .bool true, lv] ∧ Blk w' w.heap.size 87 (accCells (xa, xb, xc, xd)).toArray) (by decide +kernel) ⟨hb2.drew, hx2.drew⟩ ?_
    refine q_fa ?_
    refine q_ld (v := lv) (fun w' hw' => hw'.1.cell 3) ?_
    refine rq (.agg (accCells (xa, xb, xc, xd)).toArray) (fun w' hw' => ldw hw'.2 rfl ⟨rfl, rfl⟩) ?_
    refine bs (accCells (xa, xb, xc, xd)).toArray (fun _ => by kernel_rfl) fun w3 hb3 hu3 hs3 => ?_
    have hL3 := hL2.drew.upd hu3 (by simp)
    refine ⟨⟨hb2.drew.upd hu3 (by simp), hx2.drew.upd hu3 (by simp)⟩, ?_⟩
    refine app hL3 hb3 rfl rfl (by decide) (by simp [maxLen]; dsimp only at *; omega) (by dsimp only at *; omega) fun g off cap w4 hs4 hu4 hg => ?_
    have e1 : ∀ k ∈ lv.ownBlock.toList, lv.ownBlock = some k := by simp
    have hb4 := (hb2.drew.upd hu3 (by simp)).upd hu4 (fun hm => h.n2 (e1 _ hm))
    have hgp : g ≠ p := by
      rcases hg with hg | rfl
      · intro he; subst he; exact h.n2 hg
      · have h5 := h1.blk.lt; have h6 := hu2.size; have h7 := hu3.size; simp at h7; omega
    refine ⟨⟨hb4, (hx2.drew.upd hu3 (by simp)).upd hu4 (fun hm => by have := h.log.lt _ (e1 _ hm); omega)⟩, ?_⟩
    refine fa ?_
    refine st hb4 (by simp) rfl fun w5 hb5 hu5 hs5 => ?_
    have hL5 := hs4.upd hu5 (by simp [Value.ownBlock]; exact hgp)
    have hW4 := (hW2.drew.upd hu3 (by simp)).upd hu4 (fun g hg hm => h.n3 g hg (e1 _ hm))
    have hW5 := hW4.upd hu5 (fun g hg => by simpa using fun he => h.n1 (by rw [hg, he]))
    refine ⟨.slice (some ⟨g, off, none⟩) (L.length + 1) cap, ⟨hb5, hW5, ?_⟩, ?_, ?_⟩
    · simpa [tick] using hL5
    · have u1 : Upd (mfoot p v lv) w w2 := hu02.mono (by simp [mem_foot])
      have u3 : Upd (mfoot p v lv) w2 w3 := ⟨hu3.os, hu3.tape, hu3.output, hu3.size, fun k hk hn => hu3.block k hk (by simp)⟩
      exact ((u1.trans u3).trans (hu4.mono fun k hk => mem_foot.2 (.inr (.inr (e1 k hk))))).trans (hu5.mono (by simp [mem_foot]))
    · intro k hk
      rw [mem_foot] at hk ⊢
      rcases hk with rfl | hk | hk
      · exact .inl (.inl rfl)
      · exact .inl (.inr (.inl hk))
      · simp only [Value.ownBlock, Option.some.injEq] at hk
        subst hk
        rcases hg with hg | rfl
        · exact .inl (.inr (.inr hg))
        · right; have h6 := hu2.size; have h7 := hu3.size; simp at h7; omega

theorem ok_ix {s : MS} {a : Int} (h : okA s a) : a = (a.toNat : Int) ∧ a.toNat < s.W.length := by unfold okA at h; omega
theorem tick_W (s : MS) (x : Acc) : (tick s x).W = s.W := rfl

theorem load_c {w : World} {p : Nat} {v lv : Value} {s : MS} (h : IsMem w p v lv s) (hr : Roomy s) (a : Int) :
    Fn Try.prog 68 #[.pointer (some ⟨p, 0, none⟩), .int .i64 a] w fun r w' => (okA s a → r = .tuple #[.int .u64 (rd s a), .int .i64 0] ∧ MemPost w p v lv (tick s (0, a, -1, false)) w') ∧ (¬ okA s a → r = .tuple #[.int .u64 0, .int .i64 2] ∧ MemPost w p v lv s w') := by
  refine fn_enter Try.func68 rfl rfl ?_
  refine bs #[.int .i64 a] (fun _ => by kernel_rfl) fun w1 hb1 hu1 hs1 => ?_
  have h1 := h.upd hu1 (by simp)
  refine cl (right_c h1 [a] hb1 (by intro j hj; simp at hj; subst hj; rfl) (by simp)) ?_
  rintro _ _ ⟨rfl, rfl⟩
  by_cases ha : okA s a
  · rw [if_pos (by simpa using ha)]
    refine bd (accCells (0, a, -1, false)).toArray (fun _ => by kernel_rfl) ?_
    refine cl (count_c h1 hr (0, a, -1, false)) ?_
    rintro _ w2 hp2
    have hp2' := hp2
    obtain ⟨lv2, h2, -, -⟩ := hp2'
    refine fa ?_
    refine ldb h2.blk rfl ?_
    obtain ⟨e1, e2⟩ := ok_ix ha
    obtain ⟨g, o, c, rfl, -⟩ := h2.words.some_ (by rw [tick_W]; omega)
    refine ix a.toNat e1 e2 ?_
    refine ld (h2.words.getD_ rfl a.toNat e2) ?_
    exact ⟨fun _ => ⟨rfl, hp2.before hu1⟩, fun hn => absurd ha hn⟩
  · rw [if_neg (by simpa using ha)]
    exact ⟨fun hn => absurd hn ha, fun _ => ⟨rfl, .same h1 hu1⟩⟩
theorem IsMem.put {w w' : World} {p g o n c : Nat} {lv : Value} {s : MS} {j : Nat} {x : Int} (h : IsMem w p (.slice (some ⟨g, o, none⟩) n c) lv s) (hs : Sl w' 36 1 (.slice (some ⟨g, o, none⟩) n c) s.W.length ((s.W.map (Value.int .u64)).set j (.int .u64 x))) (hu : Upd [g] w w') :
    MemPost w p (.slice (some ⟨g, o, none⟩) n c) lv { s with W := s.W.set j x } w' := by
  refine ⟨lv, ⟨h.blk.upd hu (by simpa using fun he => h.n1 (by simp [Value.ownBlock, he])), ?_, h.log.upd hu (fun q hq => by simpa using fun he => h.n3 g rfl (by rw [hq, he]))⟩, hu.mono (by simp [mem_foot, Value.ownBlock]), fun k hk => .inl hk⟩
  show Sl w' 36 1 _ (s.W.set j x).length ((s.W.set j x).map _)
  rw [List.map_set, List.length_set]
  exact hs
theorem MemPost.of_step {w w1 w' : World} {p : Nat} {v lv lv1 : Value} {s' : MS} (hu : Upd (mfoot p v lv) w w1) (hf : ∀ k ∈ mfoot p v lv1, k ∈ mfoot p v lv ∨ w.heap.size ≤ k) (h : MemPost w1 p v lv1 s' w') : MemPost w p v lv s' w' := by
  obtain ⟨lv2, h4, h5, h6⟩ := h
  have := hu.size
  refine ⟨lv2, h4, hu.step h5 hf, fun k hk => ?_⟩
  rcases h6 k hk with h7 | h7
  · exact hf k h7
  · right; omega
theorem store_c {w : World} {p : Nat} {v lv : Value} {s : MS} (h : IsMem w p v lv s) (hr : Roomy s) (a x : Int) :
    Fn Try.prog 13 #[.pointer (some ⟨p, 0, none⟩), .int .i64 a, .int .u64 x] w fun r w' => (okA s a → r = .int .i64 0 ∧ MemPost w p v lv (tick (wr s a x) (1, a, -1, true)) w') ∧ (¬ okA s a → r = .int .i64 2 ∧ MemPost w p v lv s w') := by
  refine fn_enter Try.func13 rfl rfl ?_
  refine bs #[.int .i64 a] (fun _ => by kernel_rfl) fun w1 hb1 hu1 hs1 => ?_
  have h1 := h.upd hu1 (by simp)
  refine cl (right_c h1 [a] hb1 (by intro j hj; simp at hj; subst hj; rfl) (by simp)) ?_
  rintro _ _ ⟨rfl, rfl⟩
  by_cases ha : okA s a
  · rw [if_pos (by simpa using ha)]
    refine bd (accCells (1, a, -1, true)).toArray (fun _ => by kernel_rfl) ?_
    refine cl (count_c h1 hr (1, a, -1, true)) ?_
    rintro _ w2 hp2
    obtain ⟨lv2, h2, hu2, hf2⟩ := hp2
    refine fa ?_
    refine ldb h2.blk rfl ?_
    obtain ⟨e1, e2⟩ := ok_ix ha
    obtain ⟨g, o, c, rfl, -⟩ := h2.words.some_ (by rw [tick_W]; omega)
    refine ix a.toNat e1 e2 ?_
    refine stS h2.words rfl e2 rfl fun w3 hs3 hu3 hz3 => ?_
    exact ⟨fun _ => ⟨rfl, (MemPost.of_step hu2 hf2 (h2.put hs3 hu3)).before hu1⟩, fun hn => absurd ha hn⟩
  · rw [if_neg (by simpa using ha)]
    exact ⟨fun hn => absurd hn ha, fun _ => ⟨rfl, .same h1 hu1⟩⟩
theorem Roomy.wr_ {s : MS} (hr : Roomy s) (a x : Int) : Roomy (wr s a x) := hr
theorem cas_c {w : World} {p : Nat} {v lv : Value} {s : MS} (h : IsMem w p v lv s) (hr : Roomy s) (a o n : Int) :
    Fn Try.prog 91 #[.pointer (some ⟨p, 0, none⟩), .int .i64 a, .int .u64 o, .int .u64 n] w fun r w' => (okA s a → r = .tuple #[.bool (rd s a == o), .int .i64 0] ∧ MemPost w p v lv (tick (if rd s a = o then wr s a n else s) (2, a, -1, rd s a == o)) w') ∧ (¬ okA s a → r = .tuple #[.bool false, .int .i64 2] ∧ MemPost w p v lv s w') := by
  refine fn_enter Try.func91 rfl rfl ?_
  refine bs #[.int .i64 a] (fun _ => by kernel_rfl) fun w1 hb1 hu1 hs1 => ?_
  have h1 := h.upd hu1 (by simp)
  refine cl (right_c h1 [a] hb1 (by intro j hj; simp at hj; subst hj; rfl) (by simp)) ?_
  rintro _ _ ⟨rfl, rfl⟩
  by_cases ha : okA s a
  · rw [if_pos (by simpa using ha)]
    obtain ⟨e1, e2⟩ := ok_ix ha
    obtain ⟨g, of, c, rfl, -⟩ := h1.words.some_ (by omega)
    refine fa ?_
    refine ldb h1.blk rfl ?_
    refine ix a.toNat e1 e2 ?_
    refine ld (h1.words.getD_ rfl a.toNat e2) ?_
    by_cases he : rd s a = o
    · refine cY he ?_
      refine fa ?_
      refine ldb h1.blk rfl ?_
      refine ix a.toNat e1 e2 ?_
      refine stS h1.words rfl e2 rfl fun w2 hs2 hu2 hz2 => ?_
      have hp2 := h1.put hs2 hu2
      obtain ⟨lv2, h2, hu2', hf2⟩ := hp2
      refine bd (accCells (2, a, -1, rd s a == o)).toArray (fun _ => by kernel_rfl) ?_
      refine cl (count_c h2 (hr.wr_ a n) (2, a, -1, rd s a == o)) ?_
      rintro _ w3 hp3
      rw [if_pos he]
      exact ⟨fun _ => ⟨rfl, (MemPost.of_step hu2' hf2 hp3).before hu1⟩, fun hn => absurd ha hn⟩
    · refine cN he ?_
      refine bd (accCells (2, a, -1, rd s a == o)).toArray (fun _ => by kernel_rfl) ?_
      refine cl (count_c h1 hr (2, a, -1, rd s a == o)) ?_
      rintro _ w3 hp3
      rw [if_neg he]
      exact ⟨fun _ => ⟨rfl, hp3.before hu1⟩, fun hn => absurd ha hn⟩
  · rw [if_neg (by simpa using ha)]
    exact ⟨fun hn => absurd hn ha, fun _ => ⟨rfl, .same h1 hu1⟩⟩
theorem clone57 {w : World} {v : Value} {n : Nat} {xs : List Value} (hs : Sl w 36 1 v n xs) (h1 : ∀ u ∈ xs, u.oneCell' = true) (hn : n < 4294967296) :
    Fn Try.prog 36 #[v] w fun r w' => Sl w' 36 1 r n xs ∧ Upd [] w w' ∧ ∀ g, r.ownBlock = some g → w.heap.size ≤ g := by
  rcases hs.2 with ⟨rfl, rfl⟩ | ⟨g, off, cap, cur, rfl, -⟩
  · refine fn_enter Try.func36 rfl rfl ?_
    refine sl_eq ?_
    exact ⟨hs, Upd.refl _ _, by simp [Value.ownBlock]⟩
  · refine fn_enter Try.func36 rfl rfl ?_
    refine sl_eq ?_
    refine bs #[] (fun _ => by kernel_rfl) fun w1 hb1 hu1 hs1 => ?_
    have hsl1 : Sl w1 36 1 (.slice (some ⟨w.heap.size, 0, none⟩) 0 0) 0 [] := ⟨by simp, .inr ⟨_, _, 0, #[], rfl, hb1, by omega, by simp [maxLen], by simp, by simp⟩⟩
    by_cases h0 : n = 0
    · subst h0
      have hx : xs = [] := List.eq_nil_of_length_eq_zero (by simpa using hs.1)
      subst hx
      refine ap0 (by omega) ?_
      exact ⟨hsl1, hu1, by simp [Value.ownBlock]⟩
    · refine apr xs hsl1 hs.1 (fun j u hu => ?_) h1 (by omega) (by simp [maxLen]; omega) (by omega) fun g' off' cap' w2 hs2 hu2 hg => ?_
      · have hj : j < n * 1 := by
          rw [← hs.1]
          rcases Nat.lt_or_ge j xs.length with h | h
          · exact h
          · rw [List.getElem?_eq_none h] at hu; cases hu
        rw [((hs.upd hu1 (by simp)).cells rfl j hj).1, hu]
      · refine ⟨by simpa using hs2, hu1.step hu2 (by simp [Value.ownBlock]), ?_⟩
        intro q hq
        simp only [retV_one, Value.ownBlock, Option.some.injEq] at hq hg
        subst hq
        have := hu1.size
        rcases hg with rfl | rfl <;> omega
theorem new_no (n : Int) (w : World) (h : ¬ (1 ≤ n ∧ n ≤ 4096)) : Fn Try.prog 30 #[.int .i64 n] w fun r w' => r = .tuple #[.pointer none, .int .i64 2] ∧ w' = w := by
  refine fn_enter Try.func30 rfl rfl ?_
  refine cd (fun h1 => ⟨rfl, rfl⟩) (fun h1 => ?_)
  exact cY (by omega) ⟨rfl, rfl⟩
def newMS (n : Nat) : MS := ⟨List.replicate n 0, 0, false, []⟩
theorem made_zero (n : Nat) : madeCells #[.int .u64 0] n = ((List.replicate n (0 : Int)).map (Value.int .u64)).toArray := by
  rw [made_row1, List.map_replicate]
theorem new_yes (n : Nat) (w : World) (h1 : 1 ≤ n) (h2 : n ≤ 4096) : Fn Try.prog 30 #[.int .i64 n] w fun r w' => ∃ p v, r = .tuple #[.pointer (some ⟨p, 0, none⟩), .int .i64 0] ∧ IsMem w' p v (.slice none 0 0) (newMS n) ∧ Upd [] w w' ∧ ∀ k ∈ mfoot p v (.slice none 0 0), w.heap.size ≤ k := by
  refine fn_enter Try.func30 rfl rfl ?_
  refine cN (by omega) ?_
  refine cN (by omega) ?_
  refine mks n rfl rfl (by omega) (by omega) fun w1 hb1 hu1 hs1 => ?_
  refine bd #[.slice (some ⟨w.heap.size, 0, none⟩) n n, .int .i64 0, .bool false, .slice none 0 0] (fun _ => by kernel_rfl) ?_
  refine bx fun w2 hb2 hu2 hs2 => ?_
  rw [made_zero] at hb1
  have hsl : Sl w1 36 1 (.slice (some ⟨w.heap.size, 0, none⟩) n n) n ((List.replicate n (0 : Int)).map (Value.int .u64)) :=
    ⟨by simp, .inr ⟨_, _, n, _, rfl, hb1, by omega, by simp [maxLen]; omega, by simp, by simp⟩⟩
  refine ⟨w1.heap.size, .slice (some ⟨w.heap.size, 0, none⟩) n n, rfl, ⟨hb2, ?_, Sl.nil_ _ _ _⟩, hu1.trans hu2, ?_⟩
  · have := hsl.upd hu2 (by simp)
    simpa [newMS] using this
  · intro k hk
    rw [mem_foot] at hk
    simp [Value.ownBlock] at hk
    omega
section
variable {w : World} {p : Nat} {v lv : Value} {s : MS}
theorem steps_c (h : IsMem w p v lv s) : Fn Try.prog 24 #[.pointer (some ⟨p, 0, none⟩)] w fun r w' => r = .int .i64 s.k ∧ w' = w := by
  refine fn_enter Try.func24 rfl rfl ?_
  refine ptr_eq ?_
  refine fa ?_
  refine ldb h.blk rfl ?_
  exact ⟨rfl, rfl⟩
theorem words_c (h : IsMem w p v lv s) (hn : s.W.length < 4294967296) : Fn Try.prog 12 #[.pointer (some ⟨p, 0, none⟩)] w fun r w' => Sl w' 36 1 r s.W.length (s.W.map (Value.int .u64)) ∧ Upd [] w w' ∧ ∀ g, r.ownBlock = some g → w.heap.size ≤ g := by
  refine fn_enter Try.func12 rfl rfl ?_
  refine ptr_eq ?_
  refine fa ?_
  refine ldb h.blk rfl ?_
  refine cl (clone57 h.words (by simp only [List.mem_map]; rintro u ⟨x, -, rfl⟩; rfl) hn) ?_
  intro r w' hr
  exact hr
end
end Go.Proofs.Ytklbeipdigancaa


/- Contracts of package plan: what is made, and its numbers. -/
namespace Go.Proofs.Ytklbeipdigancaa
open Go.RowKit
attribute [local irreducible] Instr.loadAt Instr.storeAt Instr.fieldAt Instr.indexAt Instr.sliceAt Instr.buildSlice Instr.box Instr.alloc Builtin.append_ Builtin.len_ Builtin.min_ Builtin.max_ Calls Instr.build Instr.makeSlice binSem convert Instr.index Instr.range Instr.next
structure Cf where
  (A T N L B P S : Int)
/-- a configuration's cells -/
def cf7 : Cf → Array Value
  | ⟨A, T, N, L, B, P, S⟩ => #[.int .i64 A, .int .i64 T, .int .i64 N, .int .i64 L, .int .i64 B, .int .i64 P, .int .i64 S]
theorem cf7_len (c : Cf) : (cf7 c).toList.length = 7 := by cases c; rfl
theorem cf7_one (c : Cf) : (cf7 c).toList.all (·.oneCell') = true := by cases c; rfl
def within (x lo hi : Int) : Prop := lo ≤ x ∧ x ≤ hi
def rightC : Cf → Prop
  | ⟨A, T, N, L, B, P, S⟩ => (within A 0 2 ∧ within T 1 6 ∧ within N 1 64 ∧ within L 1 6 ∧ within B 1 16 ∧ within P 1 16 ∧ within S 1 64) ∧ (A = 0 ∨ 3 ≤ N)
instance (c : Cf) : Decidable (rightC c) := by
  obtain ⟨A, T, N, L, B, P, S⟩ := c
  unfold rightC within
  exact inferInstance
abbrev Sp := Int × Int × Int
def okSp (l : List Sp) : Prop := ∀ j, j < l.length → (l.getD j (0, 0, 0)).2.1 ≤ (l.getD j (0, 0, 0)).1 ∧ (l.getD j (0, 0, 0)).1 ≤ (l.getD j (0, 0, 0)).2.2
def cellS (s : Sp) : List Value := [.int .i64 s.1, .int .i64 s.2.1, .int .i64 s.2.2]
def spanC (l : List Sp) : Array Value := (l.flatMap cellS).toArray
theorem spanC_at : ∀ (l : List Sp) (i j : Nat), i < l.length → j < 3 → (l.flatMap cellS)[i * 3 + j]? = (cellS (l.getD i (0, 0, 0)))[j]?
  | x :: l, 0, j, _, hj => by
    show (cellS x ++ l.flatMap cellS)[0 * 3 + j]? = _
    rw [Nat.zero_mul, Nat.zero_add, List.getElem?_append_left (by show j < 3; exact hj)]; rfl
  | x :: l, i + 1, j, h, hj => by
    have h : i < l.length := by simpa using h
    show (cellS x ++ l.flatMap cellS)[(i + 1) * 3 + j]? = _
    rw [List.getElem?_append_right (by show 3 ≤ _; omega), show (i + 1) * 3 + j - (cellS x).length = i * 3 + j by show (i + 1) * 3 + j - 3 = _; omega, spanC_at l i j h hj]
    simp [List.getD]
theorem within_c {w : World} {g : Nat} (l : List Sp) (hb : Blk w g 97 (spanC l)) (hl : l.length ≤ 100) : Fn Try.prog 46 #[.slice (some ⟨g, 0, none⟩) l.length l.length] w fun r w' => (∃ b, r = .bool b ∧ (b = true ↔ okSp l)) ∧ Upd [] w w' := by
  refine fn_enter Try.func46 rfl rfl ?_
  refine len_sl ?_
  refine loop_rule [5, 6] [7] (fun vs w' m => ∃ j : Nat, vs = [.int .i64 j] ∧ j ≤ l.length ∧ m = l.length - j ∧ (∀ i, i < j → (l.getD i (0, 0, 0)).2.1 ≤ (l.getD i (0, 0, 0)).1 ∧ (l.getD i (0, 0, 0)).1 ≤ (l.getD i (0, 0, 0)).2.2) ∧ Upd [] w w') rfl [.int .i64 0] l.length rfl ⟨0, rfl, by omega, rfl, fun i hi => absurd hi (by omega), Upd.refl _ _⟩ ?_
  rintro _ w1 m ⟨j, rfl, hj, rfl, hin, hU⟩
  refine cd (fun hlt => ?_) (fun hlt => ?_)
  · have hlt : j < l.length := by omega
    refine ix j rfl hlt ?_
    have hg := hb.upd hU (by simp)
    have hat := spanC_at l j
    have hok : okSp l → _ := fun h => h j hlt
    have hstep : ∀ i, i < j + 1 → i < j ∨ i = j := fun i hi => by omega
    refine lda (cellS (l.getD j (0, 0, 0))) rfl (fun i v hv => ?_) ?_
    · have hi : i < 3 := by
        rcases Nat.lt_or_ge i 3 with h | h
        · exact h
        · rw [List.getElem?_eq_none (by show 3 ≤ i; exact h)] at hv; cases hv
      rw [hg.cell, Nat.zero_add, ← Array.getElem?_toList]
      show (l.flatMap cellS)[j * 3 + i]? = _
      rw [hat i hlt hi]; exact hv
    generalize hs : l.getD j (0, 0, 0) = s at *
    refine al #[.int .i64 0, .int .i64 0, .int .i64 0] (fun _ => by kernel_rfl) fun w2 hb2 hu2 hs2 => ?_
    refine stw hb2 rfl rfl rfl fun w3 hb3 hu3 hs3 => ?_
    have hU3 := (hU.trans hu2).step hu3 (by have := hU.size; simp; omega)
    have hb3 : Blk w3 w1.heap.size 97 #[.int .i64 s.1, .int .i64 s.2.1, .int .i64 s.2.2] := hb3
    refine fa ?_
    refine ldb hb3 rfl ?_
    refine fa ?_
    refine ldb hb3 rfl ?_
    by_cases h1 : s.1 < s.2.1
    · refine cY h1 ?_
      exact ⟨⟨_, rfl, iff_of_false (by simp) (fun h => by have := hok h; omega)⟩, hU3⟩
    refine cN h1 ?_
    refine fa ?_
    refine ldb hb3 rfl ?_
    refine fa ?_
    refine ldb hb3 rfl ?_
    refine cd (fun h2 => ?_) (fun h2 => ?_)
    · exact ⟨⟨_, rfl, iff_of_false (by simp) (fun h => by have := hok h; omega)⟩, hU3⟩
    · refine ar64 (by omega) ?_
      refine round_mk [.int .i64 ((j + 1 : Nat) : Int)] (l.length - (j + 1)) rfl rfl ⟨j + 1, rfl, by omega, rfl, fun i hi => ?_, hU3⟩ (by omega)
      rcases hstep i hi with h | h
      · exact hin i h
      · subst h; rw [hs]; omega
  · have hj7 : j = l.length := by omega
    subst hj7
    exact ⟨⟨_, rfl, iff_of_true rfl hin⟩, hU⟩
def slotsP (A L : Int) : Int := if A = 0 then 2 else 2 * L + 2
def widthP (A L : Int) : Int := if A = 0 then 3 else 5 + L
def sentP (A : Int) : Int := if A = 0 then 0 else 2
def nthP (A L : Int) : Int := if A = 0 then 2 ^ L.toNat else 0
def linksP (A T L : Int) : Int := 8 + T * slotsP A L
def nodesP (A T N L : Int) : Int := linksP A T L + N
def treeP (A T N L : Int) : Int := nodesP A T N L + N * widthP A L
def sizeP (A T N L : Int) : Int := treeP A T N L + nthP A L
def planC : Cf → Array Value
  | ⟨A, T, N, L, B, P, S⟩ => #[.int .i64 A, .int .i64 T, .int .i64 N, .int .i64 L, .int .i64 B, .int .i64 P, .int .i64 S, .int .i64 (slotsP A L), .int .i64 (widthP A L), .int .i64 (sentP A), .int .i64 8, .int .i64 (linksP A T L), .int .i64 (nodesP A T N L), .int .i64 (treeP A T N L), .int .i64 (sizeP A T N L)]
theorem planC_len (c : Cf) : (planC c).toList.length = 15 := by cases c; rfl
theorem planC_one (c : Cf) : (planC c).toList.all (·.oneCell') = true := by cases c; rfl
def z15 : Array Value := #[.int .i64 0, .int .i64 0, .int .i64 0, .int .i64 0, .int .i64 0, .int .i64 0, .int .i64 0, .int .i64 0, .int .i64 0, .int .i64 0, .int .i64 0, .int .i64 0, .int .i64 0, .int .i64 0, .int .i64 0]
abbrev TP : Nat := 55
theorem mul_bd {a b x y : Int} (ha : 0 ≤ a ∧ a ≤ x) (hb : 0 ≤ b ∧ b ≤ y) : 0 ≤ a * b ∧ a * b ≤ x * y := ⟨Int.mul_nonneg ha.1 hb.1, Int.mul_le_mul ha.2 hb.2 hb.1 (by omega)⟩
def row (A T N L B P S a b c d e f g h : Int) : Array Value := #[.int .i64 A, .int .i64 T, .int .i64 N, .int .i64 L, .int .i64 B, .int .i64 P, .int .i64 S, .int .i64 a, .int .i64 b, .int .i64 c, .int .i64 d, .int .i64 e, .int .i64 f, .int .i64 g, .int .i64 h]
set_option maxRecDepth 10000 in
theorem new_c (c : Cf) (w : World) : Fn Try.prog 29 #[.agg (cf7 c)] w fun r w' => r = .tuple #[.agg (if rightC c then planC c else z15), .int .i64 (if rightC c then 0 else 6)] ∧ Upd [] w w' := by
  obtain ⟨A, T, N, L, B, P, S⟩ := c
  refine fn_enter Try.func29 rfl rfl ?_
  refine bx fun w1 hb1 hu1 hs1 => ?_
  refine al z15 (fun _ => by kernel_rfl) fun w2 hb2 hu2 hs2 => ?_
  have hb1' := hb1.upd hu2 (by simp)
  refine fa ?_
  refine ldb hb1' rfl ?_
  refine bd #[.int .i64 A, .int .i64 0, .int .i64 2] (fun _ => by kernel_rfl) ?_
  refine fa ?_
  refine ldb hb1' rfl ?_
  refine bd #[.int .i64 T, .int .i64 1, .int .i64 6] (fun _ => by kernel_rfl) ?_
  refine fa ?_
  refine ldb hb1' rfl ?_
  refine bd #[.int .i64 N, .int .i64 1, .int .i64 64] (fun _ => by kernel_rfl) ?_
  refine fa ?_
  refine ldb hb1' rfl ?_
  refine bd #[.int .i64 L, .int .i64 1, .int .i64 6] (fun _ => by kernel_rfl) ?_
  refine fa ?_
  refine ldb hb1' rfl ?_
  refine bd #[.int .i64 B, .int .i64 1, .int .i64 16] (fun _ => by kernel_rfl) ?_
  refine fa ?_
  refine ldb hb1' rfl ?_
  refine bd #[.int .i64 P, .int .i64 1, .int .i64 16] (fun _ => by kernel_rfl) ?_
  refine fa ?_
  refine ldb hb1' rfl ?_
  refine bd #[.int .i64 S, .int .i64 1, .int .i64 64] (fun _ => by kernel_rfl) ?_
  refine bs (spanC [(A, 0, 2), (T, 1, 6), (N, 1, 64), (L, 1, 6), (B, 1, 16), (P, 1, 16), (S, 1, 64)]) (fun _ => by kernel_rfl) fun w3 hb3 hu3 hs3 => ?_
  refine cl (within_c _ hb3 (by show 7 ≤ 100; omega)) ?_
  rintro _ w4 ⟨⟨b, rfl, hbk⟩, hu4⟩
  have hiff : okSp [(A, 0, 2), (T, 1, 6), (N, 1, 64), (L, 1, 6), (B, 1, 16), (P, 1, 16), (S, 1, 64)] ↔ (within A 0 2 ∧ within T 1 6 ∧ within N 1 64 ∧ within L 1 6 ∧ within B 1 16 ∧ within P 1 16 ∧ within S 1 64) := by
    constructor
    · intro h
      exact ⟨h 0 (by simp), h 1 (by simp), h 2 (by simp), h 3 (by simp), h 4 (by simp), h 5 (by simp), h 6 (by simp)⟩
    · rintro ⟨h0, h1, h2, h3, h4, h5, h6⟩ j hj
      have hj : j < 7 := hj
      rcases (show j = 0 ∨ j = 1 ∨ j = 2 ∨ j = 3 ∨ j = 4 ∨ j = 5 ∨ j = 6 by omega) with rfl | rfl | rfl | rfl | rfl | rfl | rfl <;> assumption
  rw [hiff] at hbk
  have hU4 := ((hu1.trans hu2).trans hu3).trans hu4
  have z4 := hu4.size
  have hc4 := (hb1'.upd hu3 (by simp)).upd hu4 (by simp)
  have hr4 := (hb2.upd hu3 (by simp)).upd hu4 (by simp)
  have hc4 : Blk w4 w.heap.size 23 #[.int .i64 A, .int .i64 T, .int .i64 N, .int .i64 L, .int .i64 B, .int .i64 P, .int .i64 S] := hc4
  by_cases hall : (within A 0 2 ∧ within T 1 6 ∧ within N 1 64 ∧ within L 1 6 ∧ within B 1 16 ∧ within P 1 16 ∧ within S 1 64)
  rotate_left
  · have : b = false := by cases b; rfl; exact absurd (hbk.1 rfl) hall
    subst this
    have hn : ¬ rightC ⟨A, T, N, L, B, P, S⟩ := fun h => hall h.1
    rw [if_neg hn, if_neg hn]
    refine bd z15 (fun _ => by kernel_rfl) ?_
    refine stw hr4 rfl rfl rfl fun w5 hb5 hu5 hs5 => ?_
    refine rlw hb5 rfl ?_
    exact ⟨rfl, hU4.step hu5 (by simp; omega)⟩
  have : b = true := hbk.2 hall
  subst this
  obtain ⟨hA, hT, hN, hL, hB, hP, hS⟩ := hall
  have hall : (within A 0 2 ∧ within T 1 6 ∧ within N 1 64 ∧ within L 1 6 ∧ within B 1 16 ∧ within P 1 16 ∧ within S 1 64) := ⟨hA, hT, hN, hL, hB, hP, hS⟩
  unfold within at hA hT hN hL
  refine ldw hc4 rfl ?_
  refine fa ?_
  refine ldb hc4 rfl ?_
  refine ar64 (by omega) ?_
  refine ar64 (by omega) ?_
  refine fa ?_
  refine ldb hc4 rfl ?_
  refine ar64 (by omega) ?_
  refine bd (row A T N L B P S (2 * L + 2) (5 + L) 2 0 0 0 0 0) (fun _ => by kernel_rfl) ?_
  refine al z15 (fun _ => by kernel_rfl) fun w5 hb5 hu5 hs5 => ?_
  refine stw hb5 rfl rfl rfl fun w6 hb6 hu6 hs6 => ?_
  have hc6 := (hc4.upd hu5 (by simp)).upd hu6 (by have := hc4.lt; simp; omega)
  have hr6 := (hr4.upd hu5 (by simp)).upd hu6 (by have := hr4.lt; simp; omega)
  have hU6 := (hU4.trans hu5).step hu6 (by simp; omega)
  have dc : w.heap.size ≠ w4.heap.size := by omega
  have dr : w1.heap.size ≠ w4.heap.size := by omega
  have dw : w.heap.size ≤ w4.heap.size := by omega
  have dq : w.heap.size ≤ w1.heap.size := by omega
  have hp6 := hb6
  clear hb6 hu6 hb5 hu5
  generalize w4.heap.size = q at *
  refine fa ?_
  refine ldb hc6 rfl ?_
  have hTA := mul_bd (a := T) (b := 2 * L + 2) (x := 6) (y := 14) (by omega) (by omega)
  have hNA := mul_bd (a := N) (b := 5 + L) (x := 64) (y := 11) (by omega) (by omega)
  refine cd (fun hA0 => ?_) (fun hA0 => ?_)
  · subst hA0
    have hpow : (0 : Int) ≤ 1 * 2 ^ min L.toNat IntKind.i64.bits ∧ (1 : Int) * 2 ^ min L.toNat IntKind.i64.bits ≤ 64 ∧ (1 : Int) * 2 ^ min L.toNat IntKind.i64.bits = 2 ^ L.toNat := by
      rcases (show L = 1 ∨ L = 2 ∨ L = 3 ∨ L = 4 ∨ L = 5 ∨ L = 6 by omega) with rfl | rfl | rfl | rfl | rfl | rfl <;> decide
    rw [Int.one_mul] at hpow
    refine draw_mix 9 [(0, true), (1, true), (2, true), (3, true), (4, false), (5, true), (6, false), (7, true), (8, false)] (fun w' => Blk w' w.heap.size 23 #[.int .i64 0, .int .i64 T, .int .i64 N, .int .i64 L, .int .i64 B, .int .i64 P, .int .i64 S]) (by decide +kernel) hc6.drew ?_
    refine q_fa ?_
    refine q_ld (v := .int .i64 L) (fun w' hw' => hw'.cell 3) ?_
    refine rq (.int .i64 (2 ^ L.toNat)) (fun _ _ => sh_l (by omega) (val (2 ^ L.toNat) (by rw [Int.one_mul, IntWalk.i64_in _ (by omega), hpow.2.2]) ⟨rfl, rfl⟩)) ?_
    rw [hpow.2.2] at hpow
    generalize h2L : (2 : Int) ^ L.toNat = tl at *
    refine q_fa ?_
    refine st hp6.drew (by show 7 < 15; omega) rfl fun w7 hb7 hu7 hs7 => ?_
    have hb7 : Blk w7 q TP (row 0 T N L B P S 2 (5 + L) 2 0 0 0 0 0) := hb7
    have hc7 := hc6.drew.upd hu7 (by simpa using dc)
    have hr7 := hr6.drew.upd hu7 (by simpa using dr)
    have hU7 := hU6.drew.step hu7 (by simpa using dw)
    refine ⟨hc7, ?_⟩
    refine q_fa ?_
    refine st hb7 (by show 8 < 15; omega) rfl fun w8 hb8 hu8 hs8 => ?_
    have hb8 : Blk w8 q TP (row 0 T N L B P S 2 3 2 0 0 0 0 0) := hb8
    have hc8 := hc7.upd hu8 (by simpa using dc)
    have hr8 := hr7.upd hu8 (by simpa using dr)
    have hU8 := hU7.step hu8 (by simpa using dw)
    refine ⟨hc8, ?_⟩
    refine q_fa ?_
    refine st hb8 (by show 9 < 15; omega) rfl fun w9 hb9 hu9 hs9 => ?_
    have hb9 : Blk w9 q TP (row 0 T N L B P S 2 3 0 0 0 0 0 0) := hb9
    have hc9 := hc8.upd hu9 (by simpa using dc)
    have hr9 := hr8.upd hu9 (by simpa using dr)
    have hU9 := hU8.step hu9 (by simpa using dw)
    refine ⟨hc9, ?_⟩
    refine fa ?_
    refine ldb hc9 rfl ?_
    refine fa ?_
    refine ldb hb9 rfl ?_
    have hr : rightC ⟨0, T, N, L, B, P, S⟩ := ⟨hall, .inl rfl⟩
    rw [if_pos hr, if_pos hr]
    refine cN (by omega) ?_
    refine fa ?_
    refine st hb9 (by show 10 < 15; omega) rfl fun wa hba hua hsa => ?_
    have hba : Blk wa q TP (row 0 T N L B P S 2 3 0 8 0 0 0 0) := hba
    have hca := (hc9).upd hua (by simpa using dc)
    have hra := (hr9).upd hua (by simpa using dr)
    have hUa := (hU9).step hua (by simpa using dw)
    refine fa ?_
    refine ldb hba rfl ?_
    refine fa ?_
    refine ldb hca rfl ?_
    refine fa ?_
    refine ldb hba rfl ?_
    refine ar64 (by omega) ?_
    refine ar64 (by omega) ?_
    refine fa ?_
    refine st hba (by show 11 < 15; omega) rfl fun wb hbb hub hsb => ?_
    have hbb : Blk wb q TP (row 0 T N L B P S 2 3 0 8 (8 + T * 2) 0 0 0) := hbb
    have hcb := hca.upd hub (by simpa using dc)
    have hrb := hra.upd hub (by simpa using dr)
    have hUb := hUa.step hub (by simpa using dw)
    refine fa ?_
    refine ldb hbb rfl ?_
    refine fa ?_
    refine ldb hcb rfl ?_
    refine ar64 (by omega) ?_
    refine fa ?_
    refine st hbb (by show 12 < 15; omega) rfl fun wc hbc huc hsc => ?_
    have hbc : Blk wc q TP (row 0 T N L B P S 2 3 0 8 (8 + T * 2) (8 + T * 2 + N) 0 0) := hbc
    have hcc := hcb.upd huc (by simpa using dc)
    have hrc := hrb.upd huc (by simpa using dr)
    have hUc := hUb.step huc (by simpa using dw)
    refine fa ?_
    refine ldb hbc rfl ?_
    refine fa ?_
    refine ldb hcc rfl ?_
    refine fa ?_
    refine ldb hbc rfl ?_
    refine ar64 (by omega) ?_
    refine ar64 (by omega) ?_
    refine fa ?_
    refine st hbc (by show 13 < 15; omega) rfl fun wd hbd hud hsd => ?_
    have hbd : Blk wd q TP (row 0 T N L B P S 2 3 0 8 (8 + T * 2) (8 + T * 2 + N) (8 + T * 2 + N + N * 3) 0) := hbd
    have hrd := hrc.upd hud (by simpa using dr)
    have hUd := hUc.step hud (by simpa using dw)
    refine fa ?_
    refine ldb hbd rfl ?_
    refine ar64 (by omega) ?_
    refine fa ?_
    refine st hbd (by show 14 < 15; omega) rfl fun we hbe hue hse => ?_
    have hbe : Blk we q TP (row 0 T N L B P S 2 3 0 8 (8 + T * 2) (8 + T * 2 + N) (8 + T * 2 + N + N * 3) (8 + T * 2 + N + N * 3 + tl)) := hbe
    have hre := hrd.upd hue (by simpa using dr)
    have hUe := hUd.step hue (by simpa using dw)
    refine ldw hbe rfl ?_
    refine stw hre rfl rfl rfl fun wf hbf huf hsf => ?_
    refine rlw hbf rfl ?_
    refine ⟨?_, hUe.step huf (by simpa using dq)⟩
    show Value.tuple #[.agg (row 0 T N L B P S 2 3 0 8 (8 + T * 2) (8 + T * 2 + N) (8 + T * 2 + N + N * 3) (8 + T * 2 + N + N * 3 + tl)), .int .i64 0] = _
    simp only [planC, row, sizeP, treeP, nodesP, linksP, slotsP, widthP, sentP, nthP, if_true, h2L]
  · have hA0 : ¬ A = 0 := by simpa using hA0
    refine fa ?_
    refine ldb hc6 rfl ?_
    refine fa ?_
    refine ldb hp6 rfl ?_
    refine cd (fun hN0 => ?_) (fun hN0 => ?_)
    · have hn : ¬ rightC ⟨A, T, N, L, B, P, S⟩ := fun h => by have := h.2; omega
      rw [if_neg hn, if_neg hn]
      refine bd z15 (fun _ => by kernel_rfl) ?_
      refine stw hr6 rfl rfl rfl fun w20 hb20 hu20 hs20 => ?_
      refine rlw hb20 rfl ?_
      exact ⟨rfl, hU6.step hu20 (by simpa using dq)⟩
    · have hr : rightC ⟨A, T, N, L, B, P, S⟩ := ⟨hall, .inr (by omega)⟩
      rw [if_pos hr, if_pos hr]
      refine fa ?_
      refine st hp6 (by show 10 < 15; omega) rfl fun wa hba hua hsa => ?_
      have hba : Blk wa q TP (row A T N L B P S (2 * L + 2) (5 + L) 2 8 0 0 0 0) := hba
      have hca := (hc6).upd hua (by simpa using dc)
      have hra := (hr6).upd hua (by simpa using dr)
      have hUa := (hU6).step hua (by simpa using dw)
      refine fa ?_
      refine ldb hba rfl ?_
      refine fa ?_
      refine ldb hca rfl ?_
      refine fa ?_
      refine ldb hba rfl ?_
      refine ar64 (by omega) ?_
      refine ar64 (by omega) ?_
      refine fa ?_
      refine st hba (by show 11 < 15; omega) rfl fun wb hbb hub hsb => ?_
      have hbb : Blk wb q TP (row A T N L B P S (2 * L + 2) (5 + L) 2 8 (8 + T * (2 * L + 2)) 0 0 0) := hbb
      have hcb := hca.upd hub (by simpa using dc)
      have hrb := hra.upd hub (by simpa using dr)
      have hUb := hUa.step hub (by simpa using dw)
      refine fa ?_
      refine ldb hbb rfl ?_
      refine fa ?_
      refine ldb hcb rfl ?_
      refine ar64 (by omega) ?_
      refine fa ?_
      refine st hbb (by show 12 < 15; omega) rfl fun wc hbc huc hsc => ?_
      have hbc : Blk wc q TP (row A T N L B P S (2 * L + 2) (5 + L) 2 8 (8 + T * (2 * L + 2)) (8 + T * (2 * L + 2) + N) 0 0) := hbc
      have hcc := hcb.upd huc (by simpa using dc)
      have hrc := hrb.upd huc (by simpa using dr)
      have hUc := hUb.step huc (by simpa using dw)
      refine fa ?_
      refine ldb hbc rfl ?_
      refine fa ?_
      refine ldb hcc rfl ?_
      refine fa ?_
      refine ldb hbc rfl ?_
      refine ar64 (by omega) ?_
      refine ar64 (by omega) ?_
      refine fa ?_
      refine st hbc (by show 13 < 15; omega) rfl fun wd hbd hud hsd => ?_
      have hbd : Blk wd q TP (row A T N L B P S (2 * L + 2) (5 + L) 2 8 (8 + T * (2 * L + 2)) (8 + T * (2 * L + 2) + N) (8 + T * (2 * L + 2) + N + N * (5 + L)) 0) := hbd
      have hrd := hrc.upd hud (by simpa using dr)
      have hUd := hUc.step hud (by simpa using dw)
      refine fa ?_
      refine ldb hbd rfl ?_
      refine ar64 (by omega) ?_
      refine fa ?_
      refine st hbd (by show 14 < 15; omega) rfl fun we hbe hue hse => ?_
      have hbe : Blk we q TP (row A T N L B P S (2 * L + 2) (5 + L) 2 8 (8 + T * (2 * L + 2)) (8 + T * (2 * L + 2) + N) (8 + T * (2 * L + 2) + N + N * (5 + L)) (8 + T * (2 * L + 2) + N + N * (5 + L) + 0)) := hbe
      have hre := hrd.upd hue (by simpa using dr)
      have hUe := hUd.step hue (by simpa using dw)
      refine ldw hbe rfl ?_
      refine stw hre rfl rfl rfl fun wf hbf huf hsf => ?_
      refine rlw hbf rfl ?_
      refine ⟨?_, hUe.step huf (by simpa using dq)⟩
      show Value.tuple #[.agg (row A T N L B P S (2 * L + 2) (5 + L) 2 8 (8 + T * (2 * L + 2)) (8 + T * (2 * L + 2) + N) (8 + T * (2 * L + 2) + N + N * (5 + L)) (8 + T * (2 * L + 2) + N + N * (5 + L) + 0)), .int .i64 0] = _
      simp only [planC, row, sizeP, treeP, nodesP, linksP, slotsP, widthP, sentP, nthP, if_neg hA0]
end Go.Proofs.Ytklbeipdigancaa

/- Contracts: the plan's numbers and addresses, words that point, feeds, ghosts. -/
namespace Go.Proofs.Ytklbeipdigancaa
open Go.RowKit
attribute [local irreducible] Instr.loadAt Instr.storeAt Instr.fieldAt Instr.indexAt Instr.sliceAt Instr.buildSlice Instr.box Instr.alloc Builtin.append_ Builtin.len_ Builtin.min_ Builtin.max_ Calls Instr.build Instr.makeSlice binSem convert Instr.index Instr.range Instr.next
theorem plan_bd {A T N L B P S : Int} (h : rightC ⟨A, T, N, L, B, P, S⟩) : (2 ≤ slotsP A L ∧ slotsP A L ≤ 14) ∧ (3 ≤ widthP A L ∧ widthP A L ≤ 11) ∧ (0 ≤ sentP A ∧ sentP A ≤ 2 ∧ sentP A < N) ∧ (1 ≤ T ∧ T ≤ 6) ∧ (1 ≤ N ∧ N ≤ 64) ∧ (1 ≤ L ∧ L ≤ 6) ∧ (10 ≤ linksP A T L ∧ linksP A T L ≤ 92) ∧ nodesP A T N L = linksP A T L + N ∧
    (nodesP A T N L + 3 ≤ treeP A T N L ∧ treeP A T N L ≤ 860) ∧ treeP A T N L ≤ sizeP A T N L ∧ sizeP A T N L ≤ 924 ∧ treeP A T N L = nodesP A T N L + N * widthP A L := by
  obtain ⟨⟨hA, hT, hN, hL, -⟩, hAN⟩ := h
  unfold within at hA hT hN hL
  have hs : 2 ≤ slotsP A L ∧ slotsP A L ≤ 14 := by unfold slotsP; split <;> omega
  have hw : 3 ≤ widthP A L ∧ widthP A L ≤ 11 := by unfold widthP; split <;> omega
  have hse : 0 ≤ sentP A ∧ sentP A ≤ 2 ∧ sentP A < N := by unfold sentP; split <;> omega
  have h1 := mul_bd (a := T) (b := slotsP A L) (x := 6) (y := 14) (by omega) (by omega)
  have h1' : 1 * 2 ≤ T * slotsP A L := Int.mul_le_mul (by omega) hs.1 (by omega) (by omega)
  have h2 := mul_bd (a := N) (b := widthP A L) (x := 64) (y := 11) (by omega) (by omega)
  have h2' : 1 * 3 ≤ N * widthP A L := Int.mul_le_mul (by omega) hw.1 (by omega) (by omega)
  have h3 : 0 ≤ nthP A L ∧ nthP A L ≤ 64 := by
    unfold nthP
    split
    · rcases (show L = 1 ∨ L = 2 ∨ L = 3 ∨ L = 4 ∨ L = 5 ∨ L = 6 by omega) with rfl | rfl | rfl | rfl | rfl | rfl <;> decide
    · omega
  have e1 : linksP A T L = 8 + T * slotsP A L := rfl
  have e2 : nodesP A T N L = linksP A T L + N := rfl
  have e3 : treeP A T N L = nodesP A T N L + N * widthP A L := rfl
  have e4 : sizeP A T N L = treeP A T N L + nthP A L := rfl
  refine ⟨hs, hw, hse, hT, hN, hL, ⟨by omega, by omega⟩, e2, ⟨by omega, by omega⟩, by omega, by omega, e3⟩
theorem size_c (A T N L B P S : Int) (w : World) : Fn Try.prog 31 #[.agg (planC ⟨A, T, N, L, B, P, S⟩)] w fun r w' => r = .int .i64 (sizeP A T N L) ∧ Upd [] w w' := by
  refine fn_enter Try.func31 rfl rfl ?_
  refine bx fun w1 hb1 hu1 hs1 => ?_
  have hb1 : Blk w1 w.heap.size TP (planC ⟨A, T, N, L, B, P, S⟩) := hb1
  refine fa ?_
  refine ldb hb1 rfl ?_
  exact ⟨rfl, hu1⟩
theorem sent_c (A T N L B P S : Int) (w : World) : Fn Try.prog 35 #[.agg (planC ⟨A, T, N, L, B, P, S⟩)] w fun r w' => r = .int .i64 (sentP A) ∧ Upd [] w w' := by
  refine fn_enter Try.func35 rfl rfl ?_
  refine bx fun w1 hb1 hu1 hs1 => ?_
  have hb1 : Blk w1 w.heap.size TP (planC ⟨A, T, N, L, B, P, S⟩) := hb1
  refine fa ?_
  refine ldb hb1 rfl ?_
  exact ⟨rfl, hu1⟩
theorem conf_c (A T N L B P S : Int) (w : World) : Fn Try.prog 49 #[.agg (planC ⟨A, T, N, L, B, P, S⟩)] w fun r w' => r = .agg (cf7 ⟨A, T, N, L, B, P, S⟩) ∧ Upd [] w w' := by
  refine fn_enter Try.func49 rfl rfl ?_
  refine bx fun w1 hb1 hu1 hs1 => ?_
  have hb1 : Blk w1 w.heap.size TP (planC ⟨A, T, N, L, B, P, S⟩) := hb1
  refine al (cf7 ⟨0, 0, 0, 0, 0, 0, 0⟩) (fun _ => by kernel_rfl) fun w2 hb2 hu2 hs2 => ?_
  refine fa ?_
  refine lda (cf7 ⟨A, T, N, L, B, P, S⟩).toList rfl (fun j v hj => ?_) ?_
  · have hlt : j < 7 := by
      rcases Nat.lt_or_ge j 7 with h | h
      · exact h
      · rw [List.getElem?_eq_none (by show 7 ≤ j; exact h)] at hj; cases hj
    rw [(hb1.upd hu2 (by simp)).cell, ← Array.getElem?_toList, show 0 + 0 + j = j by omega]
    have e : (planC ⟨A, T, N, L, B, P, S⟩).toList = (cf7 ⟨A, T, N, L, B, P, S⟩).toList ++ [.int .i64 (slotsP A L), .int .i64 (widthP A L), .int .i64 (sentP A), .int .i64 8, .int .i64 (linksP A T L), .int .i64 (nodesP A T N L), .int .i64 (treeP A T N L), .int .i64 (sizeP A T N L)] := rfl
    rw [e, List.getElem?_append_left (by show j < 7; exact hlt)]
    exact hj
  refine stw hb2 rfl rfl rfl fun w3 hb3 hu3 hs3 => ?_
  refine rlw hb3 rfl ?_
  exact ⟨rfl, (hu1.trans hu2).step hu3 (by simp; omega)⟩
def linkA (A T N L n : Int) : Int := if 1 ≤ n ∧ n ≤ N then linksP A T L + n - 1 else -1
def nodeA (A T N L n f : Int) : Int := if (1 ≤ n ∧ n ≤ N) ∧ 0 ≤ f ∧ f ≤ widthP A L - 1 then nodesP A T N L + (n - 1) * widthP A L + f else -1
theorem link_a {A T N L B P S : Int} (hr : rightC ⟨A, T, N, L, B, P, S⟩) (n : Int) (w : World) : Fn Try.prog 51 #[.agg (planC ⟨A, T, N, L, B, P, S⟩), .int .i64 n] w fun r w' => r = .int .i64 (linkA A T N L n) ∧ Upd [] w w' := by
  obtain ⟨b1, b2, b3, b4, b5, b6, b7, b8, b9, b10, b11, b12⟩ := plan_bd hr
  refine fn_enter Try.func51 rfl rfl ?_
  refine bx fun w1 hb1 hu1 hs1 => ?_
  have hb1 : Blk w1 w.heap.size TP (planC ⟨A, T, N, L, B, P, S⟩) := hb1
  refine fa ?_
  refine fa ?_
  refine ldb hb1 rfl ?_
  refine bd #[.int .i64 n, .int .i64 1, .int .i64 N] (fun _ => by kernel_rfl) ?_
  refine bs (spanC [(n, 1, N)]) (fun _ => by kernel_rfl) fun w2 hb2 hu2 hs2 => ?_
  refine cl (within_c _ hb2 (by show 1 ≤ 100; omega)) ?_
  rintro _ w3 ⟨⟨b, rfl, hb⟩, hu3⟩
  have hU3 := (hu1.trans hu2).trans hu3
  by_cases hn : 1 ≤ n ∧ n ≤ N
  · have : b = true := hb.2 (fun j hj => by
      have : j = 0 := by have : j < 1 := hj; omega
      subst this; exact hn)
    subst this
    refine fa ?_
    refine ldb ((hb1.upd hu2 (by simp)).upd hu3 (by simp)) (v := .int .i64 (linksP A T L)) rfl ?_
    refine ar64 (by omega) ?_
    refine ar64 (by omega) ?_
    exact ⟨by rw [linkA, if_pos hn]; rfl, hU3⟩
  · have : b = false := by
      cases b
      · rfl
      · exact absurd (hb.1 rfl 0 (by simp)) hn
    subst this
    exact ⟨by rw [linkA, if_neg hn]; rfl, hU3⟩
theorem node_a {A T N L B P S : Int} (hr : rightC ⟨A, T, N, L, B, P, S⟩) (n f : Int) (w : World) : Fn Try.prog 52 #[.agg (planC ⟨A, T, N, L, B, P, S⟩), .int .i64 n, .int .i64 f] w fun r w' => r = .int .i64 (nodeA A T N L n f) ∧ Upd [] w w' := by
  obtain ⟨b1, b2, b3, b4, b5, b6, b7, b8, b9, b10, b11, b12⟩ := plan_bd hr
  refine fn_enter Try.func52 rfl rfl ?_
  refine bx fun w1 hb1 hu1 hs1 => ?_
  have hb1 : Blk w1 w.heap.size TP (planC ⟨A, T, N, L, B, P, S⟩) := hb1
  refine fa ?_
  refine fa ?_
  refine ldb hb1 rfl ?_
  refine bd #[.int .i64 n, .int .i64 1, .int .i64 N] (fun _ => by kernel_rfl) ?_
  refine fa ?_
  refine ldb hb1 (v := .int .i64 (widthP A L)) rfl ?_
  refine ar64 (by omega) ?_
  refine bd #[.int .i64 f, .int .i64 0, .int .i64 (widthP A L - 1)] (fun _ => by kernel_rfl) ?_
  refine bs (spanC [(n, 1, N), (f, 0, widthP A L - 1)]) (fun _ => by kernel_rfl) fun w2 hb2 hu2 hs2 => ?_
  refine cl (within_c _ hb2 (by show 2 ≤ 100; omega)) ?_
  rintro _ w3 ⟨⟨b, rfl, hb⟩, hu3⟩
  have hU3 := (hu1.trans hu2).trans hu3
  by_cases hn : (1 ≤ n ∧ n ≤ N) ∧ 0 ≤ f ∧ f ≤ widthP A L - 1
  · have : b = true := hb.2 (fun j hj => by
      have : j < 2 := hj
      rcases (show j = 0 ∨ j = 1 by omega) with rfl | rfl
      · exact hn.1
      · exact hn.2)
    subst this
    have hb3 := (hb1.upd hu2 (by simp)).upd hu3 (by simp)
    have hm := mul_bd (a := n - 1) (b := widthP A L) (x := 64) (y := 11) (by omega) (by omega)
    refine fa ?_
    refine ldb hb3 (v := .int .i64 (nodesP A T N L)) rfl ?_
    refine ar64 (by omega) ?_
    refine fa ?_
    refine ldb hb3 (v := .int .i64 (widthP A L)) rfl ?_
    refine ar64 (by omega) ?_
    refine ar64 (by omega) ?_
    refine ar64 (by omega) ?_
    exact ⟨by rw [nodeA, if_pos hn]; rfl, hU3⟩
  · have : b = false := by
      cases b
      · rfl
      · exact absurd ⟨hb.1 rfl 0 (by simp), hb.1 rfl 1 (by simp)⟩ hn
    subst this
    exact ⟨by rw [nodeA, if_neg hn]; rfl, hU3⟩
end Go.Proofs.Ytklbeipdigancaa

/- Contracts: words that point, feeds, ghosts, as they are made. -/
namespace Go.Proofs.Ytklbeipdigancaa
open Go.RowKit
attribute [local irreducible] Instr.loadAt Instr.storeAt Instr.fieldAt Instr.indexAt Instr.sliceAt Instr.buildSlice Instr.box Instr.alloc Builtin.append_ Builtin.len_ Builtin.min_ Builtin.max_ Calls Instr.build Instr.makeSlice binSem convert Instr.index Instr.range Instr.next
section
variable {P : Program} {K : Value → World → Prop} {w : World}
theorem borU {t : Nat} {x y : Operand} {a b : Nat} (ha : a < 18446744073709551616) (hb : b < 18446744073709551616) (k : K (.int .u64 ((a ||| b : Nat) : Int)) w) : RunP P (binSem .or t x y (.int .u64 (a : Int)) (.int .u64 (b : Int))) K w :=
  rn _ _ (by
    have e : ((BitVec.ofInt 64 (a : Int) ||| BitVec.ofInt 64 (b : Int)).toNat) = a ||| b := by
      rw [BitVec.toNat_or, BitVec.toNat_ofInt, BitVec.toNat_ofInt]
      congr 1 <;> omega
    have hlt : a ||| b < 2 ^ 64 := Nat.or_lt_two_pow (by omega) (by omega)
    have e2 : IntKind.u64.wrap ((a ||| b : Nat) : Int) = ((a ||| b : Nat) : Int) := by rw [IntKind.wrap_u64]; omega
    simp only [binSem, eqGuard, binOp, Op.intBits]
    show (Sem.pure (Value.int IntKind.u64 (IntKind.u64.wrap ((BitVec.ofInt 64 (a : Int) ||| BitVec.ofInt 64 (b : Int)).toNat : Int)))).run P w = _
    rw [e, e2]
    rfl) k
end
theorem wrapU {n : Int} (h : 0 ≤ n ∧ n ≤ 18446744073709551615) : IntKind.u64.wrap n = n := by rw [IntKind.wrap_u64]; omega
theorem fit_c {w : World} {g : Nat} (e x : Int) (hb : Blk w g 36 #[.int .u64 x]) : Fn Try.prog 78 #[.int .u64 e, .slice (some ⟨g, 0, none⟩) 1 1] w fun r w' => (∃ b, r = .bool b ∧ (b = true ↔ x < e)) ∧ w' = w := by
  refine fn_enter Try.func78 rfl rfl ?_
  refine len_sl ?_
  refine loop_rule [0, 7, 8] [9] (fun vs w' m => ∃ j : Nat, vs = [.int .i64 j] ∧ j ≤ 1 ∧ m = 1 - j ∧ (0 < j → x < e) ∧ w' = w) rfl [.int .i64 0] 1 rfl ⟨0, rfl, by omega, rfl, fun h => absurd h (by omega), rfl⟩ ?_
  rintro _ _ m ⟨j, rfl, hj, rfl, hin, rfl⟩
  refine cd (fun hlt => ?_) (fun hlt => ?_)
  · have hj0 : j = 0 := by omega
    subst hj0
    refine ix 0 rfl (by omega) ?_
    refine ld (hb.cell 0) ?_
    refine cd (fun h1 => ?_) (fun h1 => ?_)
    · exact ⟨⟨_, rfl, iff_of_false (by simp) (by omega)⟩, rfl⟩
    · refine ar64 (by omega) ?_
      exact round_mk [.int .i64 ((0 + 1 : Nat) : Int)] 0 rfl rfl ⟨1, rfl, by omega, rfl, fun _ => by omega, rfl⟩ (by omega)
  · exact ⟨⟨_, rfl, iff_of_true rfl (hin (by omega))⟩, rfl⟩
theorem pack_c (n : Nat) (hn : n < 65536) (w : World) : Fn Try.prog 79 #[.int .u64 (n : Int), .bool false, .int .u64 0] w fun r w' => r = .int .u64 ((2 * n : Nat) : Int) ∧ w' = w := by
  refine fn_enter Try.func79 rfl rfl ?_
  refine sh_l (by decide) ?_
  refine val ((0 : Nat) : Int) (by rw [Int.zero_mul]; rfl) ?_
  refine sh_l (by decide) ?_
  refine val ((2 * n : Nat) : Int) (by
    have e : (2 : Int) ^ min (1 : Int).toNat IntKind.u64.bits = 2 := by decide
    rw [e, wrapU (by omega)]; omega) ?_
  refine borU (by omega) (by omega) ?_
  rw [Nat.zero_or]
  exact ⟨rfl, rfl⟩
set_option maxRecDepth 10000 in
theorem make_c (n : Nat) (hn : n < 65536) (w : World) : Fn Try.prog 66 #[.int .i64 (n : Int), .bool false, .int .u64 0] w fun r w' => r = .tuple #[.int .u64 ((2 * n : Nat) : Int), .int .i64 0] ∧ Upd [] w w' := by
  refine fn_enter Try.func66 rfl rfl ?_
  refine cv ?_
  refine arU (by omega) ?_
  refine bs #[.int .u64 (n : Int)] (fun _ => by kernel_rfl) fun w1 hb1 hu1 hs1 => ?_
  refine cl (fit_c 65536 n hb1) ?_
  rintro _ _ ⟨⟨b, rfl, hb⟩, rfl⟩
  have : b = true := hb.2 (by omega)
  subst this
  refine bs #[.int .u64 0] (fun _ => by kernel_rfl) fun w2 hb2 hu2 hs2 => ?_
  refine cl (fit_c 140737488355328 0 hb2) ?_
  rintro _ _ ⟨⟨b, rfl, hb⟩, rfl⟩
  have : b = true := hb.2 (by omega)
  subst this
  refine cv ?_
  refine arU (by omega) ?_
  refine cl (pack_c n hn _) ?_
  rintro _ _ ⟨rfl, rfl⟩
  exact ⟨rfl, hu1.trans hu2⟩
theorem link_w (n : Nat) (hn : n < 65536) (w : World) : Fn Try.prog 50 #[.int .i64 (n : Int)] w fun r w' => r = .int .u64 ((2 * n : Nat) : Int) ∧ Upd [] w w' := by
  refine fn_enter Try.func50 rfl rfl ?_
  refine cl (make_c n hn w) ?_
  rintro _ w1 ⟨rfl, hu1⟩
  exact ⟨rfl, hu1⟩
/-- a feed of these bytes, of which so many were used -/
structure IsFd (w : World) (p : Nat) (v : Value) (bs : List Int) (u : Int) : Prop where
  blk : Blk w p 106 #[v, .int .i64 u]
  s : Sl w 5 1 v bs.length (bs.map (.int .u8))
theorem feed_new {w : World} {v : Value} {l : List Int} (h : RdK w .u8 v l) (hl : l.length ≤ 1000000) : Fn Try.prog 33 #[v] w fun r w' => (∃ p x, r = .pointer (some ⟨p, 0, none⟩) ∧ w.heap.size ≤ p ∧ (∀ g, x.ownBlock = some g → w.heap.size ≤ g) ∧ IsFd w' p x l 0) ∧ Upd [] w w' := by
  refine fn_enter Try.func33 rfl rfl ?_
  refine bs #[] (fun _ => by kernel_rfl) fun w1 hb1 hu1 hs1 => ?_
  refine apx (Sl.lit (n := 0) hb1 rfl (by decide)) (h.upd0 hu1).rd one_ints (by simp only [maxLen]; omega) (by omega) fun v2 w2 hs2 hG2 => ?_
  obtain ⟨a2, c2, rfl, -⟩ := hs2.form
  refine bd #[.slice a2 (0 + l.length) c2, .int .i64 0] (fun _ => by kernel_rfl) ?_
  refine bx fun w3 hb3 hu3 hs3 => ?_
  have hz1 := hu1.size
  have hz2 := hG2.up.size
  refine ⟨⟨_, _, rfl, by omega, fun g hg => ?_, ⟨hb3, ?_⟩⟩, (hu1.step hG2.up (fun g hg => .inr ?_)).trans hu3⟩
  · rcases hG2.own g hg with h1 | h1
    · have : w.heap.size = g := by simpa [Value.ownBlock] using h1
      omega
    · omega
  · have := hs2.upd hu3 (by simp)
    simpa using this
  · have : g = w.heap.size := by simpa [Value.ownBlock] using hg
    omega
/-- a ghost: its tags, its first fault -/
structure IsG (w : World) (p : Nat) (v : Value) (tags : List Int) (k n : Int) : Prop where
  blk : Blk w p 93 #[v, .int .i64 k, .int .i64 n]
  s : Sl w 3 1 v tags.length (tags.map (.int .i64))
def liveL (n i : Nat) : List Int := (List.range n).map fun j => if j < i then 1 else 0
theorem liveL_set (n i : Nat) : (liveL n i).set i 1 = liveL n (i + 1) := by
  apply List.ext_getElem
  · simp [liveL]
  · intro k h1 h2
    rw [List.getElem_set]
    simp only [liveL, List.getElem_map, List.getElem_range]
    by_cases h : i = k
    · rw [if_pos h, if_pos (by omega)]
    · rw [if_neg h]
      by_cases h3 : k < i
      · rw [if_pos h3, if_pos (by omega)]
      · rw [if_neg h3, if_neg (by omega)]
theorem liveL_zero (n : Nat) : liveL n 0 = List.replicate n 0 := by
  apply List.ext_getElem
  · simp [liveL]
  · intro k h1 h2; simp [liveL]
@[simp] theorem liveL_len (n i : Nat) : (liveL n i).length = n := by simp [liveL]
set_option maxRecDepth 10000 in
theorem ghost_new (n l : Nat) (hn : 1 ≤ n ∧ n ≤ 64) (hl : l ≤ n) (w : World) : Fn Try.prog 34 #[.int .i64 (n : Int), .int .i64 (l : Int)] w fun r w' => (∃ p v, r = .pointer (some ⟨p, 0, none⟩) ∧ w.heap.size ≤ p ∧ (∀ g, v.ownBlock = some g → w.heap.size ≤ g) ∧ IsG w' p v (liveL n l) 0 0) ∧ Upd [] w w' := by
  refine fn_enter Try.func34 rfl rfl ?_
  refine cN (show ¬ (n : Int) < 1 by omega) ?_
  refine cN (show ¬ (n : Int) > 64 by omega) ?_
  refine mks n rfl rfl (by omega) (by omega) fun w1 hb1 hu1 hs1 => ?_
  refine bd #[.slice (some ⟨w.heap.size, 0, none⟩) n n, .int .i64 0, .int .i64 0] (fun _ => by kernel_rfl) ?_
  refine bx fun w2 hb2 hu2 hs2 => ?_
  have hs0 : Sl w1 3 1 (.slice (some ⟨w.heap.size, 0, none⟩) n n) n ((liveL n 0).map (.int .i64)) := by
    have := Sl.lit (n := n) hb1 (by rw [made_row1]; simp) (by simp only [maxLen]; omega)
    rw [made_row1] at this
    rw [liveL_zero]
    simpa using this
  have hb2 : Blk w2 w1.heap.size 93 #[.slice (some ⟨w.heap.size, 0, none⟩) n n, .int .i64 0, .int .i64 0] := hb2
  have hs02 := hs0.upd hu2 (by simp)
  refine mx2 ?_
  refine val (l : Int) (by split <;> omega) ?_
  refine mn2 ?_
  refine val (l : Int) (by split <;> omega) ?_
  have hd : w.heap.size ≠ w1.heap.size := by omega
  have hd2 : w.heap.size ≤ w1.heap.size := by omega
  have hU2 := hu1.trans hu2
  generalize hp : w1.heap.size = p at *
  generalize hg : w.heap.size = g at *
  refine loop_rule [5, 20] [21] (fun vs w' m => ∃ i : Nat, vs = [.int .i64 i] ∧ i ≤ l ∧ m = l - i ∧ Blk w' p 93 #[.slice (some ⟨g, 0, none⟩) n n, .int .i64 0, .int .i64 0] ∧ Sl w' 3 1 (.slice (some ⟨g, 0, none⟩) n n) n ((liveL n i).map (.int .i64)) ∧ Upd [] w w') rfl [.int .i64 0] l rfl
    ⟨0, rfl, by omega, rfl, hb2, hs02, hU2⟩ ?_
  rintro _ w3 m ⟨i, rfl, hi, rfl, gb, gs, gU⟩
  refine cd (fun hlt => ?_) (fun hlt => ?_)
  · have hlt : i < l := by omega
    refine fa ?_
    refine ldb gb rfl ?_
    refine ix i rfl (by omega) ?_
    refine stS gs rfl (by omega) rfl fun w4 hs4 hu4 hz4 => ?_
    refine ar64 (by omega) ?_
    refine round_mk [.int .i64 ((i + 1 : Nat) : Int)] (l - (i + 1)) rfl rfl ⟨i + 1, rfl, by omega, rfl, gb.upd hu4 (by simp; exact fun h => hd h.symm), ?_, gU.step hu4 (by simp; omega)⟩ (by omega)
    rw [← liveL_set, List.map_set]
    exact hs4
  · have hi : i = l := by omega
    subst hi
    refine ⟨⟨p, _, rfl, by omega, fun q hq => ?_, ⟨gb, by rw [liveL_len]; exact gs⟩⟩, gU⟩
    have : g = q := by simpa [Value.ownBlock] using hq
    omega
end Go.Proofs.Ytklbeipdigancaa

/- Contracts: the words as they are at first are laid. -/
namespace Go.Proofs.Ytklbeipdigancaa
open Go.RowKit
attribute [local irreducible] Instr.loadAt Instr.storeAt Instr.fieldAt Instr.indexAt Instr.sliceAt Instr.buildSlice Instr.box Instr.alloc Builtin.append_ Builtin.len_ Builtin.min_ Builtin.max_ Calls Instr.build Instr.makeSlice binSem convert Instr.index Instr.range Instr.next
def stM (s : MS) (a x : Int) : MS := if okA s a then tick (wr s a x) (1, a, -1, true) else s
theorem store_m {w : World} {p : Nat} {v lv : Value} {s : MS} (h : IsMem w p v lv s) (hr : Roomy s) (a x : Int) : Fn Try.prog 13 #[.pointer (some ⟨p, 0, none⟩), .int .i64 a, .int .u64 x] w fun _ w' => MemPost w p v lv (stM s a x) w' :=
  (store_c h hr a x).mono fun _ _ ⟨u, he, h1, h2⟩ => ⟨u, he, by
    unfold stM
    by_cases ha : okA s a
    · rw [if_pos ha]; exact (h1 ha).2
    · rw [if_neg ha]; exact (h2 ha).2⟩
structure Quiet (s : MS) (b : Int) : Prop where
  k0 : 0 ≤ s.k
  k1 : s.k ≤ b
  on : s.on = false
  L : s.L = []
theorem Quiet.roomy {s : MS} {b : Int} (h : Quiet s b) (hb : b ≤ 1000000) : Roomy s := ⟨h.k0, by have := h.k1; omega, by rw [h.L]; decide⟩
theorem Quiet.st {s : MS} {b : Int} (h : Quiet s b) (a x : Int) : Quiet (stM s a x) (b + 1) := by
  have h0 := h.k0; have h1 := h.k1
  unfold stM
  split
  · refine ⟨?_, ?_, h.on, ?_⟩
    · show 0 ≤ s.k + 1; omega
    · show s.k + 1 ≤ b + 1; omega
    · show (if s.on then s.L ++ _ else s.L) = []
      rw [h.on]; exact h.L
  · exact ⟨h0, by omega, h.on, h.L⟩
theorem Quiet.up {s : MS} {b c : Int} (h : Quiet s b) (hc : b ≤ c) : Quiet s c := ⟨h.k0, Int.le_trans h.k1 hc, h.on, h.L⟩
theorem IsMem.off {w : World} {p g T : Nat} {v lv : Value} {s : MS} {cs : Array Value} (h : IsMem w p v lv s) (hb : Blk w g T cs) (h1 : 83 ≠ T) (h2 : 36 ≠ T) (h3 : 87 ≠ T) : g ∉ mfoot p v lv := by
  rw [mem_foot]
  rintro (rfl | hg | hg)
  · exact h.blk.ne_ hb h1 rfl
  · exact h.words.blk_ne hb h2 hg
  · exact h.log.blk_ne hb h3 hg
theorem MemPost.upd0 {w w' w'' : World} {p : Nat} {v lv : Value} {s : MS} (h : MemPost w p v lv s w') (hu : Upd [] w' w'') : MemPost w p v lv s w'' := by
  obtain ⟨lv', h1, h2, h3⟩ := h
  exact ⟨lv', h1.upd hu (by simp), h2.trans (hu.mono (by simp)), h3⟩
/-- while it is laid -/
structure LayI (w0 w' : World) (p : Nat) (v lv : Value) (s : MS) (g1 g2 : Nat) (c : Cf) : Prop where
  m : MemPost w0 p v lv s w'
  b1 : Blk w' g1 TP (planC c)
  b2 : Blk w' g2 23 (cf7 c)
theorem LayI.upd0 {w0 w' w'' : World} {p : Nat} {v lv : Value} {s : MS} {g1 g2 : Nat} {c : Cf} (h : LayI w0 w' p v lv s g1 g2 c) (hu : Upd [] w' w'') : LayI w0 w'' p v lv s g1 g2 c := ⟨h.m.upd0 hu, h.b1.upd hu (by simp), h.b2.upd hu (by simp)⟩
theorem LayI.next {w0 w' w'' : World} {p : Nat} {v lv lv1 : Value} {s s' : MS} {g1 g2 : Nat} {c : Cf} (h : LayI w0 w' p v lv s g1 g2 c) (h1 : IsMem w' p v lv1 s) (hu1 : Upd (mfoot p v lv) w0 w') (hf1 : ∀ k ∈ mfoot p v lv1, k ∈ mfoot p v lv ∨ w0.heap.size ≤ k) (hp : MemPost w' p v lv1 s' w'') : LayI w0 w'' p v lv s' g1 g2 c := by
  obtain ⟨lv2, h2, hu2, hf2⟩ := hp
  exact ⟨MemPost.of_step hu1 hf1 ⟨lv2, h2, hu2, hf2⟩, h.b1.upd hu2 (h1.off h.b1 (by decide) (by decide) (by decide)), h.b2.upd hu2 (h1.off h.b2 (by decide) (by decide) (by decide))⟩
def layL (A T N L : Int) (s : MS) (se : Nat) : Nat → MS
  | 0 => s
  | i + 1 => stM (layL A T N L s se i) (linkA A T N L ((se + 1 + i : Nat) : Int)) ((se + 1 + i + 1 : Nat) : Int)
def layN (A T N L : Int) (s : MS) : Nat → MS
  | 0 => s
  | i + 1 => stM (layN A T N L s i) (nodeA A T N L 1 (5 + (i : Int))) ((2 * 2 : Nat) : Int)
def lay3 (A T N L : Int) (s : MS) : MS := stM (layL A T N L (stM s 0 ((2 * ((sentP A).toNat + 1) : Nat) : Int)) (sentP A).toNat (N.toNat - (sentP A).toNat - 1)) 2 1
def layS (A T N L : Int) (s : MS) : MS :=
  if A = 0 then lay3 A T N L s else layN A T N L (stM (stM (lay3 A T N L s) (nodeA A T N L 1 3) L) (nodeA A T N L 2 0) 18446744073709551615) L.toNat
theorem layL_q {A T N L : Int} {s : MS} {se : Nat} {b : Int} (h : Quiet s b) : ∀ i : Nat, Quiet (layL A T N L s se i) (b + i)
  | 0 => (show Quiet s _ from h.up (by simp))
  | i + 1 => by have := (layL_q (A := A) (T := T) (N := N) (L := L) (se := se) h i).st (linkA A T N L ((se + 1 + i : Nat) : Int)) ((se + 1 + i + 1 : Nat) : Int); exact this.up (by omega)
theorem layN_q {A T N L : Int} {s : MS} {b : Int} (h : Quiet s b) : ∀ i : Nat, Quiet (layN A T N L s i) (b + i)
  | 0 => (show Quiet s _ from h.up (by simp))
  | i + 1 => by have := (layN_q (A := A) (T := T) (N := N) (L := L) h i).st (nodeA A T N L 1 (5 + (i : Int))) ((2 * 2 : Nat) : Int); exact this.up (by omega)
set_option maxRecDepth 10000 in
theorem lay_c {w : World} {p : Nat} {v lv : Value} {s : MS} {A T N L B P S : Int} (h : IsMem w p v lv s) (hq : Quiet s 0) (hr : rightC ⟨A, T, N, L, B, P, S⟩) :
    Fn Try.prog 32 #[.pointer (some ⟨p, 0, none⟩), .agg (planC ⟨A, T, N, L, B, P, S⟩)] w fun _ w' => MemPost w p v lv (layS A T N L s) w' := by
  obtain ⟨b1, b2, b3, b4, b5, b6, b7, b8, b9, b10, b11, b12⟩ := plan_bd hr
  refine fn_enter Try.func32 rfl rfl ?_
  refine bx fun w1 hb1 hu1 hs1 => ?_
  have hb1 : Blk w1 w.heap.size TP (planC ⟨A, T, N, L, B, P, S⟩) := hb1
  refine ldw hb1 rfl ?_
  refine cl (conf_c A T N L B P S w1) ?_
  rintro _ w2 ⟨rfl, hu2⟩
  refine al (cf7 ⟨0, 0, 0, 0, 0, 0, 0⟩) (fun _ => by kernel_rfl) fun w3 hb3 hu3 hs3 => ?_
  refine stw hb3 rfl rfl rfl fun w4 hb4 hu4 hs4 => ?_
  have hz2 := hu2.size
  have hlt2 := hb1.lt
  have hU4 : Upd [] w w4 := ((hu1.trans hu2).trans hu3).step hu4 (by simp; omega)
  have hb14 := ((hb1.upd hu2 (by simp)).upd hu3 (by simp)).upd hu4 (by simp; omega)
  have I4 : LayI w w4 p v lv s w.heap.size w2.heap.size ⟨A, T, N, L, B, P, S⟩ := ⟨.same (h.upd hU4 (by simp)) hU4, hb14, hb4⟩
  generalize w.heap.size = g1 at *
  generalize w2.heap.size = g2 at *
  refine ldw I4.b1 rfl ?_
  refine cl (sent_c A T N L B P S w4) ?_
  rintro _ w5 ⟨rfl, hu5⟩
  have I5 := I4.upd0 hu5
  obtain ⟨se, hse⟩ : ∃ se : Nat, sentP A = (se : Int) := ⟨_, (Int.toNat_of_nonneg b3.1).symm⟩
  have hset : (sentP A).toNat = se := by omega
  refine val ((se + 1 : Nat) : Int) (by rw [IntWalk.i64_in _ (by omega)]; omega) ?_
  refine cl (link_w (se + 1) (by omega) w5) ?_
  rintro _ w6 ⟨rfl, hu6⟩
  have I6 := I5.upd0 hu6
  obtain ⟨lvx, hmx, hux, hfx⟩ := (I6).m
  refine cl (store_m hmx (hq.roomy (by omega)) _ _) ?_
  rintro _ w7 hpx
  have I7 := (I6).next hmx hux hfx hpx
  clear hmx hux hfx hpx lvx
  have hq7 := hq.st 0 ((2 * (se + 1) : Nat) : Int)
  obtain ⟨n, hn⟩ : ∃ n : Nat, N = (n : Int) := ⟨_, (Int.toNat_of_nonneg (by omega)).symm⟩
  refine loop_rule [0, 3, 4, 5] [6] (fun vs w' m => ∃ i : Nat, vs = [.int .i64 ((se + 1 + i : Nat) : Int)] ∧ se + 1 + i ≤ n ∧ m = n - (se + 1 + i) ∧ LayI w w' p v lv (layL A T N L (stM s 0 ((2 * (se + 1) : Nat) : Int)) se i) g1 g2 ⟨A, T, N, L, B, P, S⟩) rfl [.int .i64 ((se + 1 : Nat) : Int)] (n - (se + 1)) rfl
    ⟨0, rfl, by omega, rfl, I7⟩ ?_
  rintro _ w8 m ⟨i, rfl, hi, rfl, I8⟩
  refine fa ?_
  refine ldb I8.b2 (v := .int .i64 N) rfl ?_
  refine cd (fun hlt => ?_) (fun hlt => ?_)
  · refine ldw I8.b1 rfl ?_
    refine cl (link_a hr ((se + 1 + i : Nat) : Int) w8) ?_
    rintro _ w9 ⟨rfl, hu9⟩
    have I9 := I8.upd0 hu9
    refine ar64 (by omega) ?_
    refine cv ?_
    refine val ((se + 1 + i + 1 : Nat) : Int) (by rw [wrapU (by omega)]; omega) ?_
    obtain ⟨lvx, hmx, hux, hfx⟩ := (I9).m
    refine cl (store_m hmx ((layL_q hq7 i).roomy (by omega)) _ _) ?_
    rintro _ w10 hpx
    have I10 := (I9).next hmx hux hfx hpx
    clear hmx hux hfx hpx lvx
    refine val ((se + 1 + (i + 1) : Nat) : Int) (by rw [IntWalk.i64_in _ (by omega)]; omega) ?_
    exact round_mk [.int .i64 ((se + 1 + (i + 1) : Nat) : Int)] (n - (se + 1 + (i + 1))) rfl rfl ⟨i + 1, rfl, by omega, rfl, I10⟩ (by omega)
  have hi : i = N.toNat - (sentP A).toNat - 1 := by omega
  have hqi := layL_q (A := A) (T := T) (N := N) (L := L) (se := se) hq7 i
  have hin : i ≤ 64 := by omega
  obtain ⟨lvx, hmx, hux, hfx⟩ := (I8).m
  refine cl (store_m hmx (hqi.roomy (by omega)) _ _) ?_
  rintro _ w9 hpx
  have I9 := (I8).next hmx hux hfx hpx
  clear hmx hux hfx hpx lvx
  have hq9 := hqi.st 2 1
  have e3 : stM (layL A T N L (stM s 0 ((2 * (se + 1) : Nat) : Int)) se i) 2 1 = lay3 A T N L s := by unfold lay3; rw [hset, hi, hset]
  rw [e3] at I9 hq9
  refine fa ?_
  refine ldb I9.b2 (v := .int .i64 A) rfl ?_
  refine cd (fun hA => ?_) (fun hA => ?_)
  · have : layS A T N L s = lay3 A T N L s := if_pos hA
    rw [this]
    exact I9.m
  have hA : ¬ A = 0 := by simpa using hA
  have hS : layS A T N L s = layN A T N L (stM (stM (lay3 A T N L s) (nodeA A T N L 1 3) L) (nodeA A T N L 2 0) 18446744073709551615) L.toNat := if_neg hA
  rw [hS]
  generalize lay3 A T N L s = s3 at *
  refine draw_mix 6 [(0, true), (1, true), (3, true), (4, true), (5, true), (2, false)] (fun w' => Upd [] w9 w') (by decide +kernel) (Upd.refl [] w9).drew ?_
  refine rq (.agg (planC ⟨A, T, N, L, B, P, S⟩)) (fun w' hw' => ldw (I9.b1.upd hw' (by simp)) rfl ⟨rfl, rfl⟩) ?_
  refine q_fa ?_
  refine q_ld (v := .int .i64 L) (fun w' hw' => (I9.b2.upd hw' (by simp)).cell 3) ?_
  refine rq (.int .u64 L) (fun _ _ => cv (arU (by omega) ⟨rfl, rfl⟩)) ?_
  refine cl (node_a hr 1 3 _) ?_
  rintro _ w10 ⟨rfl, hu10⟩
  have hu910 : Upd [] w9 w10 := (Upd.refl [] w9).drew.trans hu10
  refine ⟨hu910, ?_⟩
  have I10 := I9.upd0 hu910
  obtain ⟨lvx, hmx, hux, hfx⟩ := (I10).m
  refine cl (store_m hmx (hq9.roomy (by omega)) _ _) ?_
  rintro _ w11 hpx
  have I11 := (I10).next hmx hux hfx hpx
  clear hmx hux hfx hpx lvx
  have hq11 := hq9.st (nodeA A T N L 1 3) L
  refine ldw I11.b1 rfl ?_
  refine cl (node_a hr 2 0 _) ?_
  rintro _ w12 ⟨rfl, hu12⟩
  have I12 := I11.upd0 hu12
  obtain ⟨lvx, hmx, hux, hfx⟩ := (I12).m
  refine cl (store_m hmx (hq11.roomy (by omega)) _ _) ?_
  rintro _ w13 hpx
  have I13 := (I12).next hmx hux hfx hpx
  clear hmx hux hfx hpx lvx
  have hq13 := hq11.st (nodeA A T N L 2 0) 18446744073709551615
  generalize stM (stM s3 (nodeA A T N L 1 3) L) (nodeA A T N L 2 0) 18446744073709551615 = s13 at *
  refine fa ?_
  refine ldb I13.b2 (v := .int .i64 L) rfl ?_
  obtain ⟨l, hl⟩ : ∃ l : Nat, L = (l : Int) := ⟨_, (Int.toNat_of_nonneg (by omega)).symm⟩
  have hln : L.toNat = l := by omega
  refine loop_rule [0, 3, 49] [50] (fun vs w' m => ∃ i : Nat, vs = [.int .i64 (i : Int)] ∧ i ≤ l ∧ m = l - i ∧ LayI w w' p v lv (layN A T N L s13 i) g1 g2 ⟨A, T, N, L, B, P, S⟩) rfl [.int .i64 0] l rfl
    ⟨0, rfl, by omega, rfl, I13⟩ ?_
  rintro _ w14 m ⟨i2, rfl, hi2, rfl, I14⟩
  refine cd (fun hlt2 => ?_) (fun hlt2 => ?_)
  · refine ldw I14.b1 rfl ?_
    refine ar64 (by omega) ?_
    refine cl (node_a hr 1 (5 + (i2 : Int)) _) ?_
    rintro _ w15 ⟨rfl, hu15⟩
    have I15 := I14.upd0 hu15
    refine cl (link_w 2 (by omega) w15) ?_
    rintro _ w16 ⟨rfl, hu16⟩
    have I16 := I15.upd0 hu16
    have hqn := layN_q (A := A) (T := T) (N := N) (L := L) hq13 i2
    obtain ⟨lvx, hmx, hux, hfx⟩ := (I16).m
    refine cl (store_m hmx (hqn.roomy (by omega)) _ _) ?_
    rintro _ w17 hpx
    have I17 := (I16).next hmx hux hfx hpx
    clear hmx hux hfx hpx lvx
    refine ar64 (by omega) ?_
    exact round_mk [.int .i64 ((i2 + 1 : Nat) : Int)] (l - (i2 + 1)) rfl rfl ⟨i2 + 1, rfl, by omega, rfl, I17⟩ (by omega)
  · have hi2 : i2 = L.toNat := by omega
    rw [← hi2]
    exact I14.m
end Go.Proofs.Ytklbeipdigancaa

/- Contracts: a machine is made. -/
namespace Go.Proofs.Ytklbeipdigancaa
open Go.RowKit
attribute [local irreducible] Instr.loadAt Instr.storeAt Instr.fieldAt Instr.indexAt Instr.sliceAt Instr.buildSlice Instr.box Instr.alloc Builtin.append_ Builtin.len_ Builtin.min_ Builtin.max_ Calls Instr.build Instr.makeSlice binSem convert Instr.index Instr.range Instr.next
abbrev TM : Nat := 75
abbrev TT : Nat := 43
abbrev TTp : Nat := 31
def machC : Cf → Value → Value → Value → Value → Bool → Bool → Array Value
  | ⟨A, T, N, L, B, P, S⟩, mp, gv, fp, tv, a, b => #[.int .i64 A, .int .i64 T, .int .i64 N, .int .i64 L, .int .i64 B, .int .i64 P, .int .i64 S, .int .i64 (slotsP A L), .int .i64 (widthP A L), .int .i64 (sentP A), .int .i64 8, .int .i64 (linksP A T L), .int .i64 (nodesP A T N L), .int .i64 (treeP A T N L), .int .i64 (sizeP A T N L), mp, gv, fp, tv, .bool a, .bool b]
def thrC (id : Int) (fv : Value) (r : Int × Int × Int) (pv sv wv rv ov : Value) : Array Value := #[.int .i64 id, fv, .int .u64 r.1, .int .u64 r.2.1, .int .u64 r.2.2, pv, sv, wv, rv, ov]
def zerosV (n : Nat) : List Value := (List.replicate n (0 : Int)).map (.int .u64)
/-- a thread as at first -/
structure ThrZ (w : World) (g : Nat) (id : Int) (l : Nat) : Prop where
  h : ∃ pv sv wv, Blk w g TT (thrC id (.slice none 0 0) (0, 0, 0) pv sv wv (.slice none 0 0) (.slice none 0 0)) ∧ Sl w 36 1 pv l (zerosV l) ∧ Sl w 36 1 sv l (zerosV l) ∧ Sl w 36 1 wv l (zerosV l) ∧
    (∀ g, pv.ownBlock = some g → sv.ownBlock ≠ some g ∧ wv.ownBlock ≠ some g) ∧ (∀ g, sv.ownBlock = some g → wv.ownBlock ≠ some g)
/-- what a machine has, but its own block and the row of its threads -/
structure Parts (w : World) (mp : Nat) (v lv : Value) (s : MS) (fp : Nat) (fv : Value) (draws : List Int) (gv : Value) (gs : Option (Nat × Value × List Int × Int × Int)) (ptrs : List Nat) (l : Nat) : Prop where
  mem : IsMem w mp v lv s
  fd : IsFd w fp fv draws 0
  gh : match gs with | none => gv = .pointer none | some (gp, v', tags, k, n) => gv = .pointer (some ⟨gp, 0, none⟩) ∧ IsG w gp v' tags k n
  ths : ∀ i, i < ptrs.length → ThrZ w (ptrs.getD i 0) (i : Int) l
theorem Parts.upd {S : List Nat} {w w' : World} {mp fp l : Nat} {v lv fv gv : Value} {s : MS} {draws : List Int} {gs : Option (Nat × Value × List Int × Int × Int)} {ptrs : List Nat} (h : Parts w mp v lv s fp fv draws gv gs ptrs l)
    (hS : ∀ g ∈ S, ∃ cs T, Blk w g T cs ∧ (T = TM ∨ T = TTp)) (hu : Upd S w w') : Parts w' mp v lv s fp fv draws gv gs ptrs l := by
  have nb : ∀ {g T : Nat} {cs : Array Value}, Blk w g T cs → T ≠ TM → T ≠ TTp → g ∉ S := fun hb h1 h2 hm => by
    obtain ⟨cs', T', hb', hT⟩ := hS _ hm
    rcases hT with rfl | rfl
    · exact hb.ne_ hb' h1 rfl
    · exact hb.ne_ hb' h2 rfl
  have ns : ∀ {e n m : Nat} {x : Value} {xs : List Value}, Sl w e n x m xs → e ≠ TM → e ≠ TTp → ∀ g, x.ownBlock = some g → g ∉ S := fun hs h1 h2 g hg hm => by
    obtain ⟨cs', T', hb', hT⟩ := hS _ hm
    rcases hT with rfl | rfl
    · exact hs.blk_ne hb' h1 hg
    · exact hs.blk_ne hb' h2 hg
  refine ⟨h.mem.upd hu (fun k hk hm => ?_), ⟨h.fd.blk.upd hu (nb h.fd.blk (by decide) (by decide)), h.fd.s.upd hu (ns h.fd.s (by decide) (by decide))⟩, ?_, fun i hi => ?_⟩
  · obtain ⟨cs', T', hb', hT⟩ := hS _ hm
    rcases hT with rfl | rfl
    · exact h.mem.off hb' (by decide) (by decide) (by decide) hk
    · exact h.mem.off hb' (by decide) (by decide) (by decide) hk
  · have := h.gh
    revert this
    match gs with
    | none => exact fun h => h
    | some (gp, v', tags, k, n) => exact fun ⟨h1, h2⟩ => ⟨h1, h2.blk.upd hu (nb h2.blk (by decide) (by decide)), h2.s.upd hu (ns h2.s (by decide) (by decide))⟩
  · obtain ⟨pv, sv, wv, h1, h2, h3, h4, h5⟩ := (h.ths i hi).h
    exact ⟨pv, sv, wv, h1.upd hu (nb h1 (by decide) (by decide)), h2.upd hu (ns h2 (by decide) (by decide)), h3.upd hu (ns h3 (by decide) (by decide)), h4.upd hu (ns h4 (by decide) (by decide)), h5⟩
def ptrV (g : Nat) : Value := .pointer (some ⟨g, 0, none⟩)
/-- a machine as at first, but for its first i threads -/
structure MkI (w0 w : World) (m : Nat) (c : Cf) (mp : Nat) (v lv : Value) (s : MS) (fp : Nat) (fv : Value) (draws : List Int) (gv : Value) (gs : Option (Nat × Value × List Int × Int × Int)) (tv : Value) (ptrs : List Nat) (l : Nat) : Prop where
  blk : Blk w m TM (machC c (ptrV mp) gv (ptrV fp) tv false false)
  parts : Parts w mp v lv s fp fv draws gv gs ptrs l
  ths : Sl w TTp 1 tv ptrs.length (ptrs.map ptrV)
  up : Upd [] w0 w
  f1 : w0.heap.size ≤ m
  f2 : ∀ k ∈ mfoot mp v lv, w0.heap.size ≤ k
  f3 : ∀ g, tv.ownBlock = some g → w0.heap.size ≤ g
  f4 : ∀ x, gs = some x → w0.heap.size ≤ x.1 ∧ ∀ g, x.2.1.ownBlock = some g → w0.heap.size ≤ g
  f5 : ∀ g ∈ ptrs, w0.heap.size ≤ g
  f6 : w0.heap.size ≤ fp ∧ ∀ g, fv.ownBlock = some g → w0.heap.size ≤ g
def ghL (gh : Bool) (A N : Int) (o : Option (Nat × Value)) : Option (Nat × Value × List Int × Int × Int) := match gh, o with | true, some (p, v) => some (p, v, liveL N.toNat (sentP A).toNat, 0, 0) | _, _ => none
end Go.Proofs.Ytklbeipdigancaa

/- Contracts: core.New. -/
namespace Go.Proofs.Ytklbeipdigancaa
open Go.RowKit
attribute [local irreducible] Instr.loadAt Instr.storeAt Instr.fieldAt Instr.indexAt Instr.sliceAt Instr.buildSlice Instr.box Instr.alloc Builtin.append_ Builtin.len_ Builtin.min_ Builtin.max_ Calls Instr.build Instr.makeSlice binSem convert Instr.index Instr.range Instr.next
def endT : MT := .rd 15 (.ef 16 (.ef 17 (.ef 18 .done)))
def treeT : MT := .rd 0 (.rd 1 (.rd 2 (.rd 3 (.rd 4 (.rd 5 (.rd 6 (.rd 7 (.rd 9 (.rd 10 (.rd 12 (.rd 13 (.fk 8 (.fk 11 (.ef 14 endT) (.ef 14 (.ef 11 endT))) (.fk 11 (.fk 8 (.ef 14 endT) (.ef 14 (.ef 8 endT))) (.ef 14 (.fk 8 (.ef 11 endT) (.ef 11 (.ef 8 endT)))))))))))))))))
theorem zeros_sl {w : World} {g n : Nat} (hb : Blk w g 36 (madeCells #[.int .u64 0] n)) (hn : n ≤ 100) : Sl w 36 1 (.slice (some ⟨g, 0, none⟩) n n) n (zerosV n) := by
  rw [made_zero] at hb
  exact ⟨by simp [zerosV], .inr ⟨_, _, n, _, rfl, hb, by omega, by simp [maxLen]; omega, by simp, by simp [zerosV]⟩⟩
theorem Parts.snoc {w : World} {mp fp l : Nat} {v lv fv gv : Value} {s : MS} {draws : List Int} {gs : Option (Nat × Value × List Int × Int × Int)} {ptrs : List Nat} {g : Nat} (h : Parts w mp v lv s fp fv draws gv gs ptrs l) (hg : ThrZ w g (ptrs.length : Int) l) :
    Parts w mp v lv s fp fv draws gv gs (ptrs ++ [g]) l := ⟨h.mem, h.fd, h.gh, fun i hi => by
  rw [List.length_append, List.length_singleton] at hi
  by_cases hlt : i < ptrs.length
  · have e : (ptrs ++ [g]).getD i 0 = ptrs.getD i 0 := by simp [List.getD, List.getElem?_append_left hlt]
    rw [e]; exact h.ths i hlt
  · have hi : i = ptrs.length := by omega
    subst hi
    have e : (ptrs ++ [g]).getD ptrs.length 0 = g := by simp [List.getD]
    rw [e]; exact hg⟩
theorem ghost_new2 (N l : Int) (hn : 1 ≤ N ∧ N ≤ 64) (hl : 0 ≤ l ∧ l ≤ N) (w : World) : Fn Try.prog 34 #[.int .i64 N, .int .i64 l] w fun r w' => (∃ p v, r = .pointer (some ⟨p, 0, none⟩) ∧ w.heap.size ≤ p ∧ (∀ g, v.ownBlock = some g → w.heap.size ≤ g) ∧ IsG w' p v (liveL N.toNat l.toNat) 0 0) ∧ Upd [] w w' := by
  obtain ⟨n, rfl⟩ := Int.eq_ofNat_of_zero_le (show 0 ≤ N by omega)
  obtain ⟨k, rfl⟩ := Int.eq_ofNat_of_zero_le hl.1
  exact ghost_new n k (by omega) (by omega) w
theorem dj2 {a b n : Nat} (h : a ≠ b) : ∀ g, (Value.slice (some ⟨a, 0, none⟩) n n).ownBlock = some g → (Value.slice (some ⟨b, 0, none⟩) n n).ownBlock ≠ some g := by
  intro g h1 h2
  have h1 : a = g := by simpa [Value.ownBlock] using h1
  have h2 : b = g := by simpa [Value.ownBlock] using h2
  omega
theorem dj3 {a b c n : Nat} (h : a ≠ b) (h' : a ≠ c) : ∀ g, (Value.slice (some ⟨a, 0, none⟩) n n).ownBlock = some g → (Value.slice (some ⟨b, 0, none⟩) n n).ownBlock ≠ some g ∧ (Value.slice (some ⟨c, 0, none⟩) n n).ownBlock ≠ some g := fun g hg => ⟨dj2 h g hg, dj2 h' g hg⟩
theorem sl_blk {w : World} {e n m g : Nat} {v : Value} {xs : List Value} (h : Sl w e n v m xs) (hg : v.ownBlock = some g) : ∃ cs, Blk w g e cs := by
  rcases h.2 with ⟨rfl, _⟩ | ⟨g', off, cap, cur, rfl, hb, _⟩
  · simp [Value.ownBlock] at hg
  · have : g' = g := by simpa [Value.ownBlock] using hg
    subst this
    exact ⟨_, hb⟩
set_option maxRecDepth 100000 in
theorem core_new {w : World} {v : Value} {draws : List Int} {A T N L B P S : Int} (gh : Bool) (hv : RdK w .u8 v draws) (hl : draws.length ≤ 5000) :
    Fn Try.prog 7 #[.agg (cf7 ⟨A, T, N, L, B, P, S⟩), v, .bool gh] w fun r w' => (¬ rightC ⟨A, T, N, L, B, P, S⟩ → r = .tuple #[.pointer none, .int .i64 6] ∧ Upd [] w w') ∧
      (rightC ⟨A, T, N, L, B, P, S⟩ → ∃ m mp mv lv fp fv gv gs tv ptrs, r = .tuple #[ptrV m, .int .i64 0] ∧ MkI w w' m ⟨A, T, N, L, B, P, S⟩ mp mv lv (layS A T N L (newMS (sizeP A T N L).toNat)) fp fv draws gv gs tv ptrs L.toNat ∧ (ptrs.length : Int) = T ∧
        (gh = false → gs = none) ∧ (gh = true → ∃ gp gv', gs = some (gp, gv', liveL N.toNat (sentP A).toNat, 0, 0))) := by
  refine fn_enter Try.func7 rfl rfl ?_
  refine bx fun w1 hb1 hu1 hs1 => ?_
  have hb1 : Blk w1 w.heap.size 23 (cf7 ⟨A, T, N, L, B, P, S⟩) := hb1
  refine ldw hb1 rfl ?_
  refine cl (new_c ⟨A, T, N, L, B, P, S⟩ w1) ?_
  rintro _ w2 ⟨rfl, hu2⟩
  refine al z15 (fun _ => by kernel_rfl) fun w3 hb3 hu3 hs3 => ?_
  by_cases hr : rightC ⟨A, T, N, L, B, P, S⟩
  rotate_left
  · rw [if_neg hr, if_neg hr]
    refine stw hb3 rfl rfl rfl fun w4 hb4 hu4 hs4 => ?_
    exact ⟨fun _ => ⟨rfl, ((hu1.trans hu2).trans hu3).step hu4 (by have := hu1.size; have := hu2.size; simp; omega)⟩, fun h => absurd h hr⟩
  rw [if_pos hr, if_pos hr]
  obtain ⟨b1, b2, b3, b4, b5, b6, b7, b8, b9, b10, b11, b12⟩ := plan_bd hr
  refine stw hb3 rfl rfl rfl fun w4 hb4 hu4 hs4 => ?_
  have hb4 : Blk w4 w2.heap.size TP (planC ⟨A, T, N, L, B, P, S⟩) := hb4
  have hz2 := hu2.size
  have hU4 : Upd [] w w4 := ((hu1.trans hu2).trans hu3).step hu4 (by simp; omega)
  have hc4 := ((hb1.upd hu2 (by simp)).upd hu3 (by simp)).upd hu4 (by simp; omega)
  generalize hg1 : w.heap.size = g1 at hc4
  generalize w2.heap.size = g2 at *
  refine ldw hb4 rfl ?_
  refine cl (size_c A T N L B P S w4) ?_
  rintro _ w5 ⟨rfl, hu5⟩
  obtain ⟨n, hn⟩ : ∃ n : Nat, sizeP A T N L = (n : Int) := ⟨_, (Int.toNat_of_nonneg (by omega)).symm⟩
  have hnn : (sizeP A T N L).toNat = n := by omega
  rw [hnn, hn]
  refine cl (new_yes n w5 (by omega) (by omega)) ?_
  rintro _ w6 ⟨mp, mv, rfl, hm6, hu6, hf6⟩
  have hU6 := (hU4.trans hu5).trans hu6
  have hc6 := (hc4.upd hu5 (by simp)).upd hu6 (by simp)
  have hp6 := (hb4.upd hu5 (by simp)).upd hu6 (by simp)
  refine ldw hp6 rfl ?_
  refine cl (lay_c hm6 ⟨Int.le_refl _, Int.le_refl _, rfl, rfl⟩ hr) ?_
  rintro _ w7 ⟨lv, hm7, hu7, hf7⟩
  have hz46 : w4.heap.size ≤ w5.heap.size := hu5.size
  have hz4 := hU4.size
  have hF : ∀ k ∈ mfoot mp mv lv, w.heap.size ≤ k := fun k hk => by
    have h6 := hU6.size
    rcases hf7 k hk with h | h
    · have := hf6 k h; omega
    · omega
  have hU7 : Upd [] w w7 := hU6.step hu7 (fun k hk => .inr (by have := hf6 k hk; omega))
  have hc7 := hc6.upd hu7 (hm6.off hc6 (by decide) (by decide) (by decide))
  have hp7 := hp6.upd hu7 (hm6.off hp6 (by decide) (by decide) (by decide))
  generalize layS A T N L (newMS n) = ms at *
  refine draw_mix 6 [(0, true), (1, true), (2, true), (3, false), (4, true), (5, false)] (fun w' => Upd [] w7 w') (by decide +kernel) (Upd.refl [] w7).drew ?_
  refine rq (.agg (planC ⟨A, T, N, L, B, P, S⟩)) (fun w' hw' => ldw (hp7.upd hw' (by simp)) rfl ⟨rfl, rfl⟩) ?_
  refine cl (feed_new (hv.upd0 hU7.drew) (by omega)) ?_
  rintro _ w8 ⟨⟨fp, fv, rfl, hfp, hfv, hfd⟩, hu8⟩
  have hu78 : Upd [] w7 w8 := (Upd.refl [] w7).drew.trans hu8
  refine ⟨hu78, ?_⟩
  refine rq (.agg (machC ⟨A, T, N, L, B, P, S⟩ (ptrV mp) (.pointer none) (ptrV fp) (.slice none 0 0) false false)) (fun _ _ => bd _ (fun _ => by kernel_rfl) ⟨rfl, rfl⟩) ?_
  refine bx fun w9 hb9 hu9 hs9 => ?_
  refine ⟨hu78.trans hu9, ?_⟩
  have hb9 : Blk w9 w8.heap.size TM (machC ⟨A, T, N, L, B, P, S⟩ (ptrV mp) (.pointer none) (ptrV fp) (.slice none 0 0) false false) := hb9
  have hu79 := hu78.trans hu9
  have hU9 := hU7.trans hu79
  have I9 : MkI w w9 w8.heap.size ⟨A, T, N, L, B, P, S⟩ mp mv lv ms fp fv draws (.pointer none) none (.slice none 0 0) [] L.toNat :=
    ⟨hb9, ⟨hm7.upd hu79 (by simp), ⟨hfd.blk.upd hu9 (by simp), hfd.s.upd hu9 (by simp)⟩, rfl, fun i hi => absurd hi (by simp)⟩, Sl.nil_ _ _ _, hU9, by have := hU7.size; have := hu78.size; omega, hF, by simp [Value.ownBlock], fun x hx => (by cases hx), by simp, by have := hU7.size; have : w7.drew.heap.size = w7.heap.size := rfl; omega, fun g hg => by have := hfv g hg; have := hU7.size; have : w7.drew.heap.size = w7.heap.size := rfl; omega⟩
  have hc9 := hc7.upd hu79 (by simp)
  have hp9 := hp7.upd hu79 (by simp)
  have hmg1 : w8.heap.size ≠ g1 := fun h => by have := hc7.lt; have := hu78.size; omega
  have hmg2 : w8.heap.size ≠ g2 := fun h => by have := hp7.lt; have := hu78.size; omega
  generalize w8.heap.size = m at *
  cases gh with
  | false =>
    refine fa ?_
    refine ldb (hc9) (v := .int .i64 T) rfl ?_
    obtain ⟨t, ht⟩ : ∃ t : Nat, T = (t : Int) := ⟨_, (Int.toNat_of_nonneg (by omega)).symm⟩
    refine loop_rule [3, 11, 49] [50] (fun vs w' k => ∃ (i : Nat) (tv : Value) (ptrs : List Nat), vs = [.int .i64 (i : Int)] ∧ i ≤ t ∧ k = t - i ∧ ptrs.length = i ∧ MkI w w' m ⟨A, T, N, L, B, P, S⟩ mp mv lv ms fp fv draws (.pointer none) (none) tv ptrs L.toNat ∧ Blk w' g1 23 (cf7 ⟨A, T, N, L, B, P, S⟩)) rfl [.int .i64 0] t rfl
      ⟨0, _, _, rfl, by omega, rfl, rfl, I9, hc9⟩ ?_
    rintro _ x1 k ⟨i, tv, ptrs, rfl, hi, rfl, hpl, J, hx1⟩
    refine cd (fun hlt => ?_) (fun hlt => ?_)
    · obtain ⟨l, hL⟩ : ∃ l : Nat, L = (l : Int) := ⟨_, (Int.toNat_of_nonneg (by omega)).symm⟩
      have hLn : L.toNat = l := by omega
      rw [hLn] at J
      have hne1 := J.ths.blk_ne J.blk (by decide)
      have hne2 := J.ths.blk_ne hx1 (by decide)
      have hsb : ∀ w', Upd tv.ownBlock.toList x1 w' → Blk w' m TM _ := fun w' hu => J.blk.upd hu (by simpa using hne1)
      have hsc : ∀ w', Upd tv.ownBlock.toList x1 w' → Blk w' g1 23 _ := fun w' hu => hx1.upd hu (by simpa using hne2)
      refine draw_tree 19 treeT (fun w' => Upd tv.ownBlock.toList x1 w') (by decide +kernel) (Upd.refl _ x1).drew ?_
      refine q_fa ?_
      refine q_ld (v := tv) (fun w' hw' => (hsb w' hw').cell 18) ?_
      refine q_fa ?_
      refine q_ld (v := .int .i64 L) (fun w' hw' => (hsc w' hw').cell 3) ?_
      refine q_fa ?_
      refine q_ld (v := .int .i64 L) (fun w' hw' => (hsc w' hw').cell 3) ?_
      refine q_fa ?_
      refine q_ld (v := .int .i64 L) (fun w' hw' => (hsc w' hw').cell 3) ?_
      have Us : Upd tv.ownBlock.toList x1 x1.drew := (Upd.refl _ x1).drew
      refine ⟨?_, ?_, ?_⟩
      · refine mks l hL hL (by omega) (by omega) fun xa ha ua za => ?_
        have Va := (Upd.refl [] x1).drew.trans ua
        refine ⟨Va.mono (by simp), ?_⟩
        refine ⟨?_, ?_⟩
        · refine mks l hL hL (by omega) (by omega) fun xb hb ub zb => ?_
          have Vb := Va.trans ub
          refine ⟨Vb.mono (by simp), ?_⟩
          refine mks l hL hL (by omega) (by omega) fun xc hc uc zc => ?_
          have Vc := Vb.trans uc
          refine ⟨Vc.mono (by simp), ?_⟩
          have sa := ((zeros_sl ha (by omega)).upd ub (by simp)).upd uc (by simp)
          have sb := (zeros_sl hb (by omega)).upd uc (by simp)
          have sc := zeros_sl hc (by omega)
          refine rq (.agg (thrC (i : Int) (.slice none 0 0) (0, 0, 0) (.slice (some ⟨x1.drew.heap.size, 0, none⟩) l l) (.slice (some ⟨xa.heap.size, 0, none⟩) l l) (.slice (some ⟨xb.heap.size, 0, none⟩) l l) (.slice none 0 0) (.slice none 0 0))) (fun _ _ => bd _ (fun _ => by kernel_rfl) ⟨rfl, rfl⟩) ?_
          refine bx fun xd hd ud zd => ?_
          have hd : Blk xd xc.heap.size TT (thrC (i : Int) (.slice none 0 0) (0, 0, 0) (.slice (some ⟨x1.drew.heap.size, 0, none⟩) l l) (.slice (some ⟨xa.heap.size, 0, none⟩) l l) (.slice (some ⟨xb.heap.size, 0, none⟩) l l) (.slice none 0 0) (.slice none 0 0)) := hd
          have Vd := Vc.trans ud
          refine ⟨Vd.mono (by simp), ?_⟩
          refine bs #[ptrV xc.heap.size] (fun _ => by kernel_rfl) fun xe he ue ze => ?_
          have Ve := Vd.trans ue
          refine ⟨Ve.mono (by simp), ?_⟩
          have zx := Vc.size
          refine apg (J.ths.upd Ve (by simp)) he rfl rfl (by decide) (by simp only [maxLen]; omega) (by omega) fun tv2 xf hsf hGf => ?_
          have Uf : Upd tv.ownBlock.toList x1 xf := (Ve.mono (by simp)).trans hGf.up
          refine ⟨Uf, ?_⟩
          obtain ⟨tva, tvc, rfl, -⟩ := hsf.form
          refine fa ?_
          refine st (hsb xf Uf) (by show 18 < 21; omega) rfl fun xg hg ug zg => ?_
          refine ar64 (by omega) ?_
          have Z : ThrZ xd xc.heap.size (ptrs.length : Int) l := by
            rw [hpl]
            exact ⟨_, _, _, hd, (sa).upd ud (by simp), (sb).upd ud (by simp), (sc).upd ud (by simp), dj3 (by omega) (by omega), dj2 (by omega)⟩
          have P1 := (((J.parts.upd (S := []) (by simp) Vd).snoc Z).upd (S := []) (by simp) ue).upd (S := tv.ownBlock.toList) (fun q hq => by
            obtain ⟨cs, hcs⟩ := sl_blk (J.ths.upd Ve (by simp)) (by simpa using hq)
            exact ⟨cs, _, hcs, .inr rfl⟩) hGf.up
          have P2 := P1.upd (S := [m]) (fun q hq => by
            simp only [List.mem_singleton] at hq
            subst hq
            exact ⟨_, _, hsb xf Uf, .inl rfl⟩) ug
          refine round_mk [.int .i64 ((i + 1 : Nat) : Int)] (t - (i + 1)) rfl rfl ⟨i + 1, .slice tva (ptrs.length + 1) tvc, ptrs ++ [xc.heap.size], rfl, by omega, rfl, by rw [List.length_append, hpl]; rfl, ?_, (hsc xf Uf).upd ug (by simp; exact fun h => hmg1 h.symm)⟩ (by omega)
          rw [hLn]
          refine ⟨hg, P2, ?_, ((J.up.trans Ve).step hGf.up (fun q hq => .inr (J.f3 q (by simpa using hq)))).step ug (by simp; exact J.f1), J.f1, J.f2, fun q hq => ?_, J.f4, fun q hq => ?_, J.f6⟩
          · have := hsf.farT (hsb xf Uf) (by decide) ug
            rw [List.length_append, List.map_append]
            exact this
          · rcases hGf.own q hq with h | h
            · exact J.f3 q h
            · have := J.up.size; have := Ve.size; omega
          · rcases List.mem_append.1 hq with h | h
            · exact J.f5 q h
            · have : q = xc.heap.size := by simpa using h
              have := J.up.size; have := Vc.size; omega
        · refine mks l hL hL (by omega) (by omega) fun xb hb ub zb => ?_
          have Vb := Va.trans ub
          refine ⟨Vb.mono (by simp), ?_⟩
          refine mks l hL hL (by omega) (by omega) fun xc hc uc zc => ?_
          have Vc := Vb.trans uc
          refine ⟨Vc.mono (by simp), ?_⟩
          have sa := ((zeros_sl ha (by omega)).upd ub (by simp)).upd uc (by simp)
          have sb := (zeros_sl hb (by omega)).upd uc (by simp)
          have sc := zeros_sl hc (by omega)
          refine rq (.agg (thrC (i : Int) (.slice none 0 0) (0, 0, 0) (.slice (some ⟨x1.drew.heap.size, 0, none⟩) l l) (.slice (some ⟨xb.heap.size, 0, none⟩) l l) (.slice (some ⟨xa.heap.size, 0, none⟩) l l) (.slice none 0 0) (.slice none 0 0))) (fun _ _ => bd _ (fun _ => by kernel_rfl) ⟨rfl, rfl⟩) ?_
          refine bx fun xd hd ud zd => ?_
          have hd : Blk xd xc.heap.size TT (thrC (i : Int) (.slice none 0 0) (0, 0, 0) (.slice (some ⟨x1.drew.heap.size, 0, none⟩) l l) (.slice (some ⟨xb.heap.size, 0, none⟩) l l) (.slice (some ⟨xa.heap.size, 0, none⟩) l l) (.slice none 0 0) (.slice none 0 0)) := hd
          have Vd := Vc.trans ud
          refine ⟨Vd.mono (by simp), ?_⟩
          refine bs #[ptrV xc.heap.size] (fun _ => by kernel_rfl) fun xe he ue ze => ?_
          have Ve := Vd.trans ue
          refine ⟨Ve.mono (by simp), ?_⟩
          have zx := Vc.size
          refine apg (J.ths.upd Ve (by simp)) he rfl rfl (by decide) (by simp only [maxLen]; omega) (by omega) fun tv2 xf hsf hGf => ?_
          have Uf : Upd tv.ownBlock.toList x1 xf := (Ve.mono (by simp)).trans hGf.up
          refine ⟨Uf, ?_⟩
          obtain ⟨tva, tvc, rfl, -⟩ := hsf.form
          refine fa ?_
          refine st (hsb xf Uf) (by show 18 < 21; omega) rfl fun xg hg ug zg => ?_
          refine ar64 (by omega) ?_
          have Z : ThrZ xd xc.heap.size (ptrs.length : Int) l := by
            rw [hpl]
            exact ⟨_, _, _, hd, (sa).upd ud (by simp), (sc).upd ud (by simp), (sb).upd ud (by simp), dj3 (by omega) (by omega), dj2 (by omega)⟩
          have P1 := (((J.parts.upd (S := []) (by simp) Vd).snoc Z).upd (S := []) (by simp) ue).upd (S := tv.ownBlock.toList) (fun q hq => by
            obtain ⟨cs, hcs⟩ := sl_blk (J.ths.upd Ve (by simp)) (by simpa using hq)
            exact ⟨cs, _, hcs, .inr rfl⟩) hGf.up
          have P2 := P1.upd (S := [m]) (fun q hq => by
            simp only [List.mem_singleton] at hq
            subst hq
            exact ⟨_, _, hsb xf Uf, .inl rfl⟩) ug
          refine round_mk [.int .i64 ((i + 1 : Nat) : Int)] (t - (i + 1)) rfl rfl ⟨i + 1, .slice tva (ptrs.length + 1) tvc, ptrs ++ [xc.heap.size], rfl, by omega, rfl, by rw [List.length_append, hpl]; rfl, ?_, (hsc xf Uf).upd ug (by simp; exact fun h => hmg1 h.symm)⟩ (by omega)
          rw [hLn]
          refine ⟨hg, P2, ?_, ((J.up.trans Ve).step hGf.up (fun q hq => .inr (J.f3 q (by simpa using hq)))).step ug (by simp; exact J.f1), J.f1, J.f2, fun q hq => ?_, J.f4, fun q hq => ?_, J.f6⟩
          · have := hsf.farT (hsb xf Uf) (by decide) ug
            rw [List.length_append, List.map_append]
            exact this
          · rcases hGf.own q hq with h | h
            · exact J.f3 q h
            · have := J.up.size; have := Ve.size; omega
          · rcases List.mem_append.1 hq with h | h
            · exact J.f5 q h
            · have : q = xc.heap.size := by simpa using h
              have := J.up.size; have := Vc.size; omega
      · refine mks l hL hL (by omega) (by omega) fun xa ha ua za => ?_
        have Va := (Upd.refl [] x1).drew.trans ua
        refine ⟨Va.mono (by simp), ?_⟩
        refine ⟨?_, ?_⟩
        · refine mks l hL hL (by omega) (by omega) fun xb hb ub zb => ?_
          have Vb := Va.trans ub
          refine ⟨Vb.mono (by simp), ?_⟩
          refine mks l hL hL (by omega) (by omega) fun xc hc uc zc => ?_
          have Vc := Vb.trans uc
          refine ⟨Vc.mono (by simp), ?_⟩
          have sa := ((zeros_sl ha (by omega)).upd ub (by simp)).upd uc (by simp)
          have sb := (zeros_sl hb (by omega)).upd uc (by simp)
          have sc := zeros_sl hc (by omega)
          refine rq (.agg (thrC (i : Int) (.slice none 0 0) (0, 0, 0) (.slice (some ⟨xa.heap.size, 0, none⟩) l l) (.slice (some ⟨x1.drew.heap.size, 0, none⟩) l l) (.slice (some ⟨xb.heap.size, 0, none⟩) l l) (.slice none 0 0) (.slice none 0 0))) (fun _ _ => bd _ (fun _ => by kernel_rfl) ⟨rfl, rfl⟩) ?_
          refine bx fun xd hd ud zd => ?_
          have hd : Blk xd xc.heap.size TT (thrC (i : Int) (.slice none 0 0) (0, 0, 0) (.slice (some ⟨xa.heap.size, 0, none⟩) l l) (.slice (some ⟨x1.drew.heap.size, 0, none⟩) l l) (.slice (some ⟨xb.heap.size, 0, none⟩) l l) (.slice none 0 0) (.slice none 0 0)) := hd
          have Vd := Vc.trans ud
          refine ⟨Vd.mono (by simp), ?_⟩
          refine bs #[ptrV xc.heap.size] (fun _ => by kernel_rfl) fun xe he ue ze => ?_
          have Ve := Vd.trans ue
          refine ⟨Ve.mono (by simp), ?_⟩
          have zx := Vc.size
          refine apg (J.ths.upd Ve (by simp)) he rfl rfl (by decide) (by simp only [maxLen]; omega) (by omega) fun tv2 xf hsf hGf => ?_
          have Uf : Upd tv.ownBlock.toList x1 xf := (Ve.mono (by simp)).trans hGf.up
          refine ⟨Uf, ?_⟩
          obtain ⟨tva, tvc, rfl, -⟩ := hsf.form
          refine fa ?_
          refine st (hsb xf Uf) (by show 18 < 21; omega) rfl fun xg hg ug zg => ?_
          refine ar64 (by omega) ?_
          have Z : ThrZ xd xc.heap.size (ptrs.length : Int) l := by
            rw [hpl]
            exact ⟨_, _, _, hd, (sb).upd ud (by simp), (sa).upd ud (by simp), (sc).upd ud (by simp), dj3 (by omega) (by omega), dj2 (by omega)⟩
          have P1 := (((J.parts.upd (S := []) (by simp) Vd).snoc Z).upd (S := []) (by simp) ue).upd (S := tv.ownBlock.toList) (fun q hq => by
            obtain ⟨cs, hcs⟩ := sl_blk (J.ths.upd Ve (by simp)) (by simpa using hq)
            exact ⟨cs, _, hcs, .inr rfl⟩) hGf.up
          have P2 := P1.upd (S := [m]) (fun q hq => by
            simp only [List.mem_singleton] at hq
            subst hq
            exact ⟨_, _, hsb xf Uf, .inl rfl⟩) ug
          refine round_mk [.int .i64 ((i + 1 : Nat) : Int)] (t - (i + 1)) rfl rfl ⟨i + 1, .slice tva (ptrs.length + 1) tvc, ptrs ++ [xc.heap.size], rfl, by omega, rfl, by rw [List.length_append, hpl]; rfl, ?_, (hsc xf Uf).upd ug (by simp; exact fun h => hmg1 h.symm)⟩ (by omega)
          rw [hLn]
          refine ⟨hg, P2, ?_, ((J.up.trans Ve).step hGf.up (fun q hq => .inr (J.f3 q (by simpa using hq)))).step ug (by simp; exact J.f1), J.f1, J.f2, fun q hq => ?_, J.f4, fun q hq => ?_, J.f6⟩
          · have := hsf.farT (hsb xf Uf) (by decide) ug
            rw [List.length_append, List.map_append]
            exact this
          · rcases hGf.own q hq with h | h
            · exact J.f3 q h
            · have := J.up.size; have := Ve.size; omega
          · rcases List.mem_append.1 hq with h | h
            · exact J.f5 q h
            · have : q = xc.heap.size := by simpa using h
              have := J.up.size; have := Vc.size; omega
        · refine mks l hL hL (by omega) (by omega) fun xb hb ub zb => ?_
          have Vb := Va.trans ub
          refine ⟨Vb.mono (by simp), ?_⟩
          refine mks l hL hL (by omega) (by omega) fun xc hc uc zc => ?_
          have Vc := Vb.trans uc
          refine ⟨Vc.mono (by simp), ?_⟩
          have sa := ((zeros_sl ha (by omega)).upd ub (by simp)).upd uc (by simp)
          have sb := (zeros_sl hb (by omega)).upd uc (by simp)
          have sc := zeros_sl hc (by omega)
          refine rq (.agg (thrC (i : Int) (.slice none 0 0) (0, 0, 0) (.slice (some ⟨xb.heap.size, 0, none⟩) l l) (.slice (some ⟨x1.drew.heap.size, 0, none⟩) l l) (.slice (some ⟨xa.heap.size, 0, none⟩) l l) (.slice none 0 0) (.slice none 0 0))) (fun _ _ => bd _ (fun _ => by kernel_rfl) ⟨rfl, rfl⟩) ?_
          refine bx fun xd hd ud zd => ?_
          have hd : Blk xd xc.heap.size TT (thrC (i : Int) (.slice none 0 0) (0, 0, 0) (.slice (some ⟨xb.heap.size, 0, none⟩) l l) (.slice (some ⟨x1.drew.heap.size, 0, none⟩) l l) (.slice (some ⟨xa.heap.size, 0, none⟩) l l) (.slice none 0 0) (.slice none 0 0)) := hd
          have Vd := Vc.trans ud
          refine ⟨Vd.mono (by simp), ?_⟩
          refine bs #[ptrV xc.heap.size] (fun _ => by kernel_rfl) fun xe he ue ze => ?_
          have Ve := Vd.trans ue
          refine ⟨Ve.mono (by simp), ?_⟩
          have zx := Vc.size
          refine apg (J.ths.upd Ve (by simp)) he rfl rfl (by decide) (by simp only [maxLen]; omega) (by omega) fun tv2 xf hsf hGf => ?_
          have Uf : Upd tv.ownBlock.toList x1 xf := (Ve.mono (by simp)).trans hGf.up
          refine ⟨Uf, ?_⟩
          obtain ⟨tva, tvc, rfl, -⟩ := hsf.form
          refine fa ?_
          refine st (hsb xf Uf) (by show 18 < 21; omega) rfl fun xg hg ug zg => ?_
          refine ar64 (by omega) ?_
          have Z : ThrZ xd xc.heap.size (ptrs.length : Int) l := by
            rw [hpl]
            exact ⟨_, _, _, hd, (sc).upd ud (by simp), (sa).upd ud (by simp), (sb).upd ud (by simp), dj3 (by omega) (by omega), dj2 (by omega)⟩
          have P1 := (((J.parts.upd (S := []) (by simp) Vd).snoc Z).upd (S := []) (by simp) ue).upd (S := tv.ownBlock.toList) (fun q hq => by
            obtain ⟨cs, hcs⟩ := sl_blk (J.ths.upd Ve (by simp)) (by simpa using hq)
            exact ⟨cs, _, hcs, .inr rfl⟩) hGf.up
          have P2 := P1.upd (S := [m]) (fun q hq => by
            simp only [List.mem_singleton] at hq
            subst hq
            exact ⟨_, _, hsb xf Uf, .inl rfl⟩) ug
          refine round_mk [.int .i64 ((i + 1 : Nat) : Int)] (t - (i + 1)) rfl rfl ⟨i + 1, .slice tva (ptrs.length + 1) tvc, ptrs ++ [xc.heap.size], rfl, by omega, rfl, by rw [List.length_append, hpl]; rfl, ?_, (hsc xf Uf).upd ug (by simp; exact fun h => hmg1 h.symm)⟩ (by omega)
          rw [hLn]
          refine ⟨hg, P2, ?_, ((J.up.trans Ve).step hGf.up (fun q hq => .inr (J.f3 q (by simpa using hq)))).step ug (by simp; exact J.f1), J.f1, J.f2, fun q hq => ?_, J.f4, fun q hq => ?_, J.f6⟩
          · have := hsf.farT (hsb xf Uf) (by decide) ug
            rw [List.length_append, List.map_append]
            exact this
          · rcases hGf.own q hq with h | h
            · exact J.f3 q h
            · have := J.up.size; have := Ve.size; omega
          · rcases List.mem_append.1 hq with h | h
            · exact J.f5 q h
            · have : q = xc.heap.size := by simpa using h
              have := J.up.size; have := Vc.size; omega
      · refine mks l hL hL (by omega) (by omega) fun xa ha ua za => ?_
        have Va := (Upd.refl [] x1).drew.trans ua
        refine ⟨Va.mono (by simp), ?_⟩
        refine ⟨?_, ?_⟩
        · refine mks l hL hL (by omega) (by omega) fun xb hb ub zb => ?_
          have Vb := Va.trans ub
          refine ⟨Vb.mono (by simp), ?_⟩
          refine mks l hL hL (by omega) (by omega) fun xc hc uc zc => ?_
          have Vc := Vb.trans uc
          refine ⟨Vc.mono (by simp), ?_⟩
          have sa := ((zeros_sl ha (by omega)).upd ub (by simp)).upd uc (by simp)
          have sb := (zeros_sl hb (by omega)).upd uc (by simp)
          have sc := zeros_sl hc (by omega)
          refine rq (.agg (thrC (i : Int) (.slice none 0 0) (0, 0, 0) (.slice (some ⟨xa.heap.size, 0, none⟩) l l) (.slice (some ⟨xb.heap.size, 0, none⟩) l l) (.slice (some ⟨x1.drew.heap.size, 0, none⟩) l l) (.slice none 0 0) (.slice none 0 0))) (fun _ _ => bd _ (fun _ => by kernel_rfl) ⟨rfl, rfl⟩) ?_
          refine bx fun xd hd ud zd => ?_
          have hd : Blk xd xc.heap.size TT (thrC (i : Int) (.slice none 0 0) (0, 0, 0) (.slice (some ⟨xa.heap.size, 0, none⟩) l l) (.slice (some ⟨xb.heap.size, 0, none⟩) l l) (.slice (some ⟨x1.drew.heap.size, 0, none⟩) l l) (.slice none 0 0) (.slice none 0 0)) := hd
          have Vd := Vc.trans ud
          refine ⟨Vd.mono (by simp), ?_⟩
          refine bs #[ptrV xc.heap.size] (fun _ => by kernel_rfl) fun xe he ue ze => ?_
          have Ve := Vd.trans ue
          refine ⟨Ve.mono (by simp), ?_⟩
          have zx := Vc.size
          refine apg (J.ths.upd Ve (by simp)) he rfl rfl (by decide) (by simp only [maxLen]; omega) (by omega) fun tv2 xf hsf hGf => ?_
          have Uf : Upd tv.ownBlock.toList x1 xf := (Ve.mono (by simp)).trans hGf.up
          refine ⟨Uf, ?_⟩
          obtain ⟨tva, tvc, rfl, -⟩ := hsf.form
          refine fa ?_
          refine st (hsb xf Uf) (by show 18 < 21; omega) rfl fun xg hg ug zg => ?_
          refine ar64 (by omega) ?_
          have Z : ThrZ xd xc.heap.size (ptrs.length : Int) l := by
            rw [hpl]
            exact ⟨_, _, _, hd, (sb).upd ud (by simp), (sc).upd ud (by simp), (sa).upd ud (by simp), dj3 (by omega) (by omega), dj2 (by omega)⟩
          have P1 := (((J.parts.upd (S := []) (by simp) Vd).snoc Z).upd (S := []) (by simp) ue).upd (S := tv.ownBlock.toList) (fun q hq => by
            obtain ⟨cs, hcs⟩ := sl_blk (J.ths.upd Ve (by simp)) (by simpa using hq)
            exact ⟨cs, _, hcs, .inr rfl⟩) hGf.up
          have P2 := P1.upd (S := [m]) (fun q hq => by
            simp only [List.mem_singleton] at hq
            subst hq
            exact ⟨_, _, hsb xf Uf, .inl rfl⟩) ug
          refine round_mk [.int .i64 ((i + 1 : Nat) : Int)] (t - (i + 1)) rfl rfl ⟨i + 1, .slice tva (ptrs.length + 1) tvc, ptrs ++ [xc.heap.size], rfl, by omega, rfl, by rw [List.length_append, hpl]; rfl, ?_, (hsc xf Uf).upd ug (by simp; exact fun h => hmg1 h.symm)⟩ (by omega)
          rw [hLn]
          refine ⟨hg, P2, ?_, ((J.up.trans Ve).step hGf.up (fun q hq => .inr (J.f3 q (by simpa using hq)))).step ug (by simp; exact J.f1), J.f1, J.f2, fun q hq => ?_, J.f4, fun q hq => ?_, J.f6⟩
          · have := hsf.farT (hsb xf Uf) (by decide) ug
            rw [List.length_append, List.map_append]
            exact this
          · rcases hGf.own q hq with h | h
            · exact J.f3 q h
            · have := J.up.size; have := Ve.size; omega
          · rcases List.mem_append.1 hq with h | h
            · exact J.f5 q h
            · have : q = xc.heap.size := by simpa using h
              have := J.up.size; have := Vc.size; omega
        · refine mks l hL hL (by omega) (by omega) fun xb hb ub zb => ?_
          have Vb := Va.trans ub
          refine ⟨Vb.mono (by simp), ?_⟩
          refine mks l hL hL (by omega) (by omega) fun xc hc uc zc => ?_
          have Vc := Vb.trans uc
          refine ⟨Vc.mono (by simp), ?_⟩
          have sa := ((zeros_sl ha (by omega)).upd ub (by simp)).upd uc (by simp)
          have sb := (zeros_sl hb (by omega)).upd uc (by simp)
          have sc := zeros_sl hc (by omega)
          refine rq (.agg (thrC (i : Int) (.slice none 0 0) (0, 0, 0) (.slice (some ⟨xb.heap.size, 0, none⟩) l l) (.slice (some ⟨xa.heap.size, 0, none⟩) l l) (.slice (some ⟨x1.drew.heap.size, 0, none⟩) l l) (.slice none 0 0) (.slice none 0 0))) (fun _ _ => bd _ (fun _ => by kernel_rfl) ⟨rfl, rfl⟩) ?_
          refine bx fun xd hd ud zd => ?_
          have hd : Blk xd xc.heap.size TT (thrC (i : Int) (.slice none 0 0) (0, 0, 0) (.slice (some ⟨xb.heap.size, 0, none⟩) l l) (.slice (some ⟨xa.heap.size, 0, none⟩) l l) (.slice (some ⟨x1.drew.heap.size, 0, none⟩) l l) (.slice none 0 0) (.slice none 0 0)) := hd
          have Vd := Vc.trans ud
          refine ⟨Vd.mono (by simp), ?_⟩
          refine bs #[ptrV xc.heap.size] (fun _ => by kernel_rfl) fun xe he ue ze => ?_
          have Ve := Vd.trans ue
          refine ⟨Ve.mono (by simp), ?_⟩
          have zx := Vc.size
          refine apg (J.ths.upd Ve (by simp)) he rfl rfl (by decide) (by simp only [maxLen]; omega) (by omega) fun tv2 xf hsf hGf => ?_
          have Uf : Upd tv.ownBlock.toList x1 xf := (Ve.mono (by simp)).trans hGf.up
          refine ⟨Uf, ?_⟩
          obtain ⟨tva, tvc, rfl, -⟩ := hsf.form
          refine fa ?_
          refine st (hsb xf Uf) (by show 18 < 21; omega) rfl fun xg hg ug zg => ?_
          refine ar64 (by omega) ?_
          have Z : ThrZ xd xc.heap.size (ptrs.length : Int) l := by
            rw [hpl]
            exact ⟨_, _, _, hd, (sc).upd ud (by simp), (sb).upd ud (by simp), (sa).upd ud (by simp), dj3 (by omega) (by omega), dj2 (by omega)⟩
          have P1 := (((J.parts.upd (S := []) (by simp) Vd).snoc Z).upd (S := []) (by simp) ue).upd (S := tv.ownBlock.toList) (fun q hq => by
            obtain ⟨cs, hcs⟩ := sl_blk (J.ths.upd Ve (by simp)) (by simpa using hq)
            exact ⟨cs, _, hcs, .inr rfl⟩) hGf.up
          have P2 := P1.upd (S := [m]) (fun q hq => by
            simp only [List.mem_singleton] at hq
            subst hq
            exact ⟨_, _, hsb xf Uf, .inl rfl⟩) ug
          refine round_mk [.int .i64 ((i + 1 : Nat) : Int)] (t - (i + 1)) rfl rfl ⟨i + 1, .slice tva (ptrs.length + 1) tvc, ptrs ++ [xc.heap.size], rfl, by omega, rfl, by rw [List.length_append, hpl]; rfl, ?_, (hsc xf Uf).upd ug (by simp; exact fun h => hmg1 h.symm)⟩ (by omega)
          rw [hLn]
          refine ⟨hg, P2, ?_, ((J.up.trans Ve).step hGf.up (fun q hq => .inr (J.f3 q (by simpa using hq)))).step ug (by simp; exact J.f1), J.f1, J.f2, fun q hq => ?_, J.f4, fun q hq => ?_, J.f6⟩
          · have := hsf.farT (hsb xf Uf) (by decide) ug
            rw [List.length_append, List.map_append]
            exact this
          · rcases hGf.own q hq with h | h
            · exact J.f3 q h
            · have := J.up.size; have := Ve.size; omega
          · rcases List.mem_append.1 hq with h | h
            · exact J.f5 q h
            · have : q = xc.heap.size := by simpa using h
              have := J.up.size; have := Vc.size; omega
    · have hi : i = t := by omega
      subst hi
      exact ⟨fun h => absurd hr h, fun _ => ⟨m, mp, mv, lv, fp, fv, _, _, tv, ptrs, rfl, J, by omega, (fun _ => rfl), (fun h => (by cases h))⟩⟩
  | true =>
    refine draw_mix 6 [(0, true), (1, true), (2, true), (3, true), (4, false), (5, false)] (fun w' => Upd [] w9 w') (by decide +kernel) (Upd.refl [] w9).drew ?_
    refine q_fa ?_
    refine q_ld (v := .int .i64 N) (fun w' hw' => (hc9.upd hw' (by simp)).cell 2) ?_
    refine rq (.agg (planC ⟨A, T, N, L, B, P, S⟩)) (fun w' hw' => ldw (hp9.upd hw' (by simp)) rfl ⟨rfl, rfl⟩) ?_
    refine cl (sent_c A T N L B P S _) ?_
    rintro _ w10 ⟨rfl, hu10⟩
    have hu910 : Upd [] w9 w10 := (Upd.refl [] w9).drew.trans hu10
    refine ⟨hu910, ?_⟩
    refine cl (ghost_new2 N (sentP A) (by omega) (by omega) w10) ?_
    rintro _ w11 ⟨⟨gp, gv', rfl, hgp, hgv, hG⟩, hu11⟩
    have hu911 := hu910.trans hu11
    refine ⟨hu911, ?_⟩
    refine fa ?_
    refine st (I9.blk.upd hu911 (by simp)) (by show 16 < 21; omega) rfl fun w12 hb12 hu12 hs12 => ?_
    have hb12 : Blk w12 m TM (machC ⟨A, T, N, L, B, P, S⟩ (ptrV mp) (.pointer (some ⟨gp, 0, none⟩)) (ptrV fp) (.slice none 0 0) false false) := hb12
    have I12 : MkI w w12 m ⟨A, T, N, L, B, P, S⟩ mp mv lv ms fp fv draws (.pointer (some ⟨gp, 0, none⟩)) (some (gp, gv', liveL N.toNat (sentP A).toNat, 0, 0)) (.slice none 0 0) [] L.toNat := by
      have P11 : Parts w11 mp mv lv ms fp fv draws (.pointer (some ⟨gp, 0, none⟩)) (some (gp, gv', liveL N.toNat (sentP A).toNat, 0, 0)) [] L.toNat := by
        have P9 := I9.parts.upd (S := []) (by simp) hu911
        exact ⟨P9.mem, P9.fd, ⟨rfl, hG⟩, fun i hi => absurd hi (by simp)⟩
      refine ⟨hb12, P11.upd (S := [m]) (fun g hg => ?_) hu12, Sl.nil_ _ _ _, (I9.up.trans hu911).step hu12 (by simp; exact I9.f1), I9.f1, I9.f2, I9.f3, fun x hx => ?_, I9.f5, I9.f6⟩
      · simp only [List.mem_singleton] at hg
        subst hg
        exact ⟨_, _, I9.blk.upd hu911 (by simp), .inl rfl⟩
      · cases hx
        have hz9 := I9.up.size
        have hz10 := hu910.size
        refine ⟨?_, fun g hg => ?_⟩
        · show w.heap.size ≤ gp
          omega
        · have := hgv g hg
          omega
    have hc12 := (hc9.upd hu911 (by simp)).upd hu12 (by simp; exact fun h => hmg1 h.symm)
    refine fa ?_
    refine ldb (hc12) (v := .int .i64 T) rfl ?_
    obtain ⟨t, ht⟩ : ∃ t : Nat, T = (t : Int) := ⟨_, (Int.toNat_of_nonneg (by omega)).symm⟩
    refine loop_rule [3, 11, 49] [50] (fun vs w' k => ∃ (i : Nat) (tv : Value) (ptrs : List Nat), vs = [.int .i64 (i : Int)] ∧ i ≤ t ∧ k = t - i ∧ ptrs.length = i ∧ MkI w w' m ⟨A, T, N, L, B, P, S⟩ mp mv lv ms fp fv draws (.pointer (some ⟨gp, 0, none⟩)) (some (gp, gv', liveL N.toNat (sentP A).toNat, 0, 0)) tv ptrs L.toNat ∧ Blk w' g1 23 (cf7 ⟨A, T, N, L, B, P, S⟩)) rfl [.int .i64 0] t rfl
      ⟨0, _, _, rfl, by omega, rfl, rfl, I12, hc12⟩ ?_
    rintro _ x1 k ⟨i, tv, ptrs, rfl, hi, rfl, hpl, J, hx1⟩
    refine cd (fun hlt => ?_) (fun hlt => ?_)
    · obtain ⟨l, hL⟩ : ∃ l : Nat, L = (l : Int) := ⟨_, (Int.toNat_of_nonneg (by omega)).symm⟩
      have hLn : L.toNat = l := by omega
      rw [hLn] at J
      have hne1 := J.ths.blk_ne J.blk (by decide)
      have hne2 := J.ths.blk_ne hx1 (by decide)
      have hsb : ∀ w', Upd tv.ownBlock.toList x1 w' → Blk w' m TM _ := fun w' hu => J.blk.upd hu (by simpa using hne1)
      have hsc : ∀ w', Upd tv.ownBlock.toList x1 w' → Blk w' g1 23 _ := fun w' hu => hx1.upd hu (by simpa using hne2)
      refine draw_tree 19 treeT (fun w' => Upd tv.ownBlock.toList x1 w') (by decide +kernel) (Upd.refl _ x1).drew ?_
      refine q_fa ?_
      refine q_ld (v := tv) (fun w' hw' => (hsb w' hw').cell 18) ?_
      refine q_fa ?_
      refine q_ld (v := .int .i64 L) (fun w' hw' => (hsc w' hw').cell 3) ?_
      refine q_fa ?_
      refine q_ld (v := .int .i64 L) (fun w' hw' => (hsc w' hw').cell 3) ?_
      refine q_fa ?_
      refine q_ld (v := .int .i64 L) (fun w' hw' => (hsc w' hw').cell 3) ?_
      have Us : Upd tv.ownBlock.toList x1 x1.drew := (Upd.refl _ x1).drew
      refine ⟨?_, ?_, ?_⟩
      · refine mks l hL hL (by omega) (by omega) fun xa ha ua za => ?_
        have Va := (Upd.refl [] x1).drew.trans ua
        refine ⟨Va.mono (by simp), ?_⟩
        refine ⟨?_, ?_⟩
        · refine mks l hL hL (by omega) (by omega) fun xb hb ub zb => ?_
          have Vb := Va.trans ub
          refine ⟨Vb.mono (by simp), ?_⟩
          refine mks l hL hL (by omega) (by omega) fun xc hc uc zc => ?_
          have Vc := Vb.trans uc
          refine ⟨Vc.mono (by simp), ?_⟩
          have sa := ((zeros_sl ha (by omega)).upd ub (by simp)).upd uc (by simp)
          have sb := (zeros_sl hb (by omega)).upd uc (by simp)
          have sc := zeros_sl hc (by omega)
          refine rq (.agg (thrC (i : Int) (.slice none 0 0) (0, 0, 0) (.slice (some ⟨x1.drew.heap.size, 0, none⟩) l l) (.slice (some ⟨xa.heap.size, 0, none⟩) l l) (.slice (some ⟨xb.heap.size, 0, none⟩) l l) (.slice none 0 0) (.slice none 0 0))) (fun _ _ => bd _ (fun _ => by kernel_rfl) ⟨rfl, rfl⟩) ?_
          refine bx fun xd hd ud zd => ?_
          have hd : Blk xd xc.heap.size TT (thrC (i : Int) (.slice none 0 0) (0, 0, 0) (.slice (some ⟨x1.drew.heap.size, 0, none⟩) l l) (.slice (some ⟨xa.heap.size, 0, none⟩) l l) (.slice (some ⟨xb.heap.size, 0, none⟩) l l) (.slice none 0 0) (.slice none 0 0)) := hd
          have Vd := Vc.trans ud
          refine ⟨Vd.mono (by simp), ?_⟩
          refine bs #[ptrV xc.heap.size] (fun _ => by kernel_rfl) fun xe he ue ze => ?_
          have Ve := Vd.trans ue
          refine ⟨Ve.mono (by simp), ?_⟩
          have zx := Vc.size
          refine apg (J.ths.upd Ve (by simp)) he rfl rfl (by decide) (by simp only [maxLen]; omega) (by omega) fun tv2 xf hsf hGf => ?_
          have Uf : Upd tv.ownBlock.toList x1 xf := (Ve.mono (by simp)).trans hGf.up
          refine ⟨Uf, ?_⟩
          obtain ⟨tva, tvc, rfl, -⟩ := hsf.form
          refine fa ?_
          refine st (hsb xf Uf) (by show 18 < 21; omega) rfl fun xg hg ug zg => ?_
          refine ar64 (by omega) ?_
          have Z : ThrZ xd xc.heap.size (ptrs.length : Int) l := by
            rw [hpl]
            exact ⟨_, _, _, hd, (sa).upd ud (by simp), (sb).upd ud (by simp), (sc).upd ud (by simp), dj3 (by omega) (by omega), dj2 (by omega)⟩
          have P1 := (((J.parts.upd (S := []) (by simp) Vd).snoc Z).upd (S := []) (by simp) ue).upd (S := tv.ownBlock.toList) (fun q hq => by
            obtain ⟨cs, hcs⟩ := sl_blk (J.ths.upd Ve (by simp)) (by simpa using hq)
            exact ⟨cs, _, hcs, .inr rfl⟩) hGf.up
          have P2 := P1.upd (S := [m]) (fun q hq => by
            simp only [List.mem_singleton] at hq
            subst hq
            exact ⟨_, _, hsb xf Uf, .inl rfl⟩) ug
          refine round_mk [.int .i64 ((i + 1 : Nat) : Int)] (t - (i + 1)) rfl rfl ⟨i + 1, .slice tva (ptrs.length + 1) tvc, ptrs ++ [xc.heap.size], rfl, by omega, rfl, by rw [List.length_append, hpl]; rfl, ?_, (hsc xf Uf).upd ug (by simp; exact fun h => hmg1 h.symm)⟩ (by omega)
          rw [hLn]
          refine ⟨hg, P2, ?_, ((J.up.trans Ve).step hGf.up (fun q hq => .inr (J.f3 q (by simpa using hq)))).step ug (by simp; exact J.f1), J.f1, J.f2, fun q hq => ?_, J.f4, fun q hq => ?_, J.f6⟩
          · have := hsf.farT (hsb xf Uf) (by decide) ug
            rw [List.length_append, List.map_append]
            exact this
          · rcases hGf.own q hq with h | h
            · exact J.f3 q h
            · have := J.up.size; have := Ve.size; omega
          · rcases List.mem_append.1 hq with h | h
            · exact J.f5 q h
            · have : q = xc.heap.size := by simpa using h
              have := J.up.size; have := Vc.size; omega
        · refine mks l hL hL (by omega) (by omega) fun xb hb ub zb => ?_
          have Vb := Va.trans ub
          refine ⟨Vb.mono (by simp), ?_⟩
          refine mks l hL hL (by omega) (by omega) fun xc hc uc zc => ?_
          have Vc := Vb.trans uc
          refine ⟨Vc.mono (by simp), ?_⟩
          have sa := ((zeros_sl ha (by omega)).upd ub (by simp)).upd uc (by simp)
          have sb := (zeros_sl hb (by omega)).upd uc (by simp)
          have sc := zeros_sl hc (by omega)
          refine rq (.agg (thrC (i : Int) (.slice none 0 0) (0, 0, 0) (.slice (some ⟨x1.drew.heap.size, 0, none⟩) l l) (.slice (some ⟨xb.heap.size, 0, none⟩) l l) (.slice (some ⟨xa.heap.size, 0, none⟩) l l) (.slice none 0 0) (.slice none 0 0))) (fun _ _ => bd _ (fun _ => by kernel_rfl) ⟨rfl, rfl⟩) ?_
          refine bx fun xd hd ud zd => ?_
          have hd : Blk xd xc.heap.size TT (thrC (i : Int) (.slice none 0 0) (0, 0, 0) (.slice (some ⟨x1.drew.heap.size, 0, none⟩) l l) (.slice (some ⟨xb.heap.size, 0, none⟩) l l) (.slice (some ⟨xa.heap.size, 0, none⟩) l l) (.slice none 0 0) (.slice none 0 0)) := hd
          have Vd := Vc.trans ud
          refine ⟨Vd.mono (by simp), ?_⟩
          refine bs #[ptrV xc.heap.size] (fun _ => by kernel_rfl) fun xe he ue ze => ?_
          have Ve := Vd.trans ue
          refine ⟨Ve.mono (by simp), ?_⟩
          have zx := Vc.size
          refine apg (J.ths.upd Ve (by simp)) he rfl rfl (by decide) (by simp only [maxLen]; omega) (by omega) fun tv2 xf hsf hGf => ?_
          have Uf : Upd tv.ownBlock.toList x1 xf := (Ve.mono (by simp)).trans hGf.up
          refine ⟨Uf, ?_⟩
          obtain ⟨tva, tvc, rfl, -⟩ := hsf.form
          refine fa ?_
          refine st (hsb xf Uf) (by show 18 < 21; omega) rfl fun xg hg ug zg => ?_
          refine ar64 (by omega) ?_
          have Z : ThrZ xd xc.heap.size (ptrs.length : Int) l := by
            rw [hpl]
            exact ⟨_, _, _, hd, (sa).upd ud (by simp), (sc).upd ud (by simp), (sb).upd ud (by simp), dj3 (by omega) (by omega), dj2 (by omega)⟩
          have P1 := (((J.parts.upd (S := []) (by simp) Vd).snoc Z).upd (S := []) (by simp) ue).upd (S := tv.ownBlock.toList) (fun q hq => by
            obtain ⟨cs, hcs⟩ := sl_blk (J.ths.upd Ve (by simp)) (by simpa using hq)
            exact ⟨cs, _, hcs, .inr rfl⟩) hGf.up
          have P2 := P1.upd (S := [m]) (fun q hq => by
            simp only [List.mem_singleton] at hq
            subst hq
            exact ⟨_, _, hsb xf Uf, .inl rfl⟩) ug
          refine round_mk [.int .i64 ((i + 1 : Nat) : Int)] (t - (i + 1)) rfl rfl ⟨i + 1, .slice tva (ptrs.length + 1) tvc, ptrs ++ [xc.heap.size], rfl, by omega, rfl, by rw [List.length_append, hpl]; rfl, ?_, (hsc xf Uf).upd ug (by simp; exact fun h => hmg1 h.symm)⟩ (by omega)
          rw [hLn]
          refine ⟨hg, P2, ?_, ((J.up.trans Ve).step hGf.up (fun q hq => .inr (J.f3 q (by simpa using hq)))).step ug (by simp; exact J.f1), J.f1, J.f2, fun q hq => ?_, J.f4, fun q hq => ?_, J.f6⟩
          · have := hsf.farT (hsb xf Uf) (by decide) ug
            rw [List.length_append, List.map_append]
            exact this
          · rcases hGf.own q hq with h | h
            · exact J.f3 q h
            · have := J.up.size; have := Ve.size; omega
          · rcases List.mem_append.1 hq with h | h
            · exact J.f5 q h
            · have : q = xc.heap.size := by simpa using h
              have := J.up.size; have := Vc.size; omega
      · refine mks l hL hL (by omega) (by omega) fun xa ha ua za => ?_
        have Va := (Upd.refl [] x1).drew.trans ua
        refine ⟨Va.mono (by simp), ?_⟩
        refine ⟨?_, ?_⟩
        · refine mks l hL hL (by omega) (by omega) fun xb hb ub zb => ?_
          have Vb := Va.trans ub
          refine ⟨Vb.mono (by simp), ?_⟩
          refine mks l hL hL (by omega) (by omega) fun xc hc uc zc => ?_
          have Vc := Vb.trans uc
          refine ⟨Vc.mono (by simp), ?_⟩
          have sa := ((zeros_sl ha (by omega)).upd ub (by simp)).upd uc (by simp)
          have sb := (zeros_sl hb (by omega)).upd uc (by simp)
          have sc := zeros_sl hc (by omega)
          refine rq (.agg (thrC (i : Int) (.slice none 0 0) (0, 0, 0) (.slice (some ⟨xa.heap.size, 0, none⟩) l l) (.slice (some ⟨x1.drew.heap.size, 0, none⟩) l l) (.slice (some ⟨xb.heap.size, 0, none⟩) l l) (.slice none 0 0) (.slice none 0 0))) (fun _ _ => bd _ (fun _ => by kernel_rfl) ⟨rfl, rfl⟩) ?_
          refine bx fun xd hd ud zd => ?_
          have hd : Blk xd xc.heap.size TT (thrC (i : Int) (.slice none 0 0) (0, 0, 0) (.slice (some ⟨xa.heap.size, 0, none⟩) l l) (.slice (some ⟨x1.drew.heap.size, 0, none⟩) l l) (.slice (some ⟨xb.heap.size, 0, none⟩) l l) (.slice none 0 0) (.slice none 0 0)) := hd
          have Vd := Vc.trans ud
          refine ⟨Vd.mono (by simp), ?_⟩
          refine bs #[ptrV xc.heap.size] (fun _ => by kernel_rfl) fun xe he ue ze => ?_
          have Ve := Vd.trans ue
          refine ⟨Ve.mono (by simp), ?_⟩
          have zx := Vc.size
          refine apg (J.ths.upd Ve (by simp)) he rfl rfl (by decide) (by simp only [maxLen]; omega) (by omega) fun tv2 xf hsf hGf => ?_
          have Uf : Upd tv.ownBlock.toList x1 xf := (Ve.mono (by simp)).trans hGf.up
          refine ⟨Uf, ?_⟩
          obtain ⟨tva, tvc, rfl, -⟩ := hsf.form
          refine fa ?_
          refine st (hsb xf Uf) (by show 18 < 21; omega) rfl fun xg hg ug zg => ?_
          refine ar64 (by omega) ?_
          have Z : ThrZ xd xc.heap.size (ptrs.length : Int) l := by
            rw [hpl]
            exact ⟨_, _, _, hd, (sb).upd ud (by simp), (sa).upd ud (by simp), (sc).upd ud (by simp), dj3 (by omega) (by omega), dj2 (by omega)⟩
          have P1 := (((J.parts.upd (S := []) (by simp) Vd).snoc Z).upd (S := []) (by simp) ue).upd (S := tv.ownBlock.toList) (fun q hq => by
            obtain ⟨cs, hcs⟩ := sl_blk (J.ths.upd Ve (by simp)) (by simpa using hq)
            exact ⟨cs, _, hcs, .inr rfl⟩) hGf.up
          have P2 := P1.upd (S := [m]) (fun q hq => by
            simp only [List.mem_singleton] at hq
            subst hq
            exact ⟨_, _, hsb xf Uf, .inl rfl⟩) ug
          refine round_mk [.int .i64 ((i + 1 : Nat) : Int)] (t - (i + 1)) rfl rfl ⟨i + 1, .slice tva (ptrs.length + 1) tvc, ptrs ++ [xc.heap.size], rfl, by omega, rfl, by rw [List.length_append, hpl]; rfl, ?_, (hsc xf Uf).upd ug (by simp; exact fun h => hmg1 h.symm)⟩ (by omega)
          rw [hLn]
          refine ⟨hg, P2, ?_, ((J.up.trans Ve).step hGf.up (fun q hq => .inr (J.f3 q (by simpa using hq)))).step ug (by simp; exact J.f1), J.f1, J.f2, fun q hq => ?_, J.f4, fun q hq => ?_, J.f6⟩
          · have := hsf.farT (hsb xf Uf) (by decide) ug
            rw [List.length_append, List.map_append]
            exact this
          · rcases hGf.own q hq with h | h
            · exact J.f3 q h
            · have := J.up.size; have := Ve.size; omega
          · rcases List.mem_append.1 hq with h | h
            · exact J.f5 q h
            · have : q = xc.heap.size := by simpa using h
              have := J.up.size; have := Vc.size; omega
        · refine mks l hL hL (by omega) (by omega) fun xb hb ub zb => ?_
          have Vb := Va.trans ub
          refine ⟨Vb.mono (by simp), ?_⟩
          refine mks l hL hL (by omega) (by omega) fun xc hc uc zc => ?_
          have Vc := Vb.trans uc
          refine ⟨Vc.mono (by simp), ?_⟩
          have sa := ((zeros_sl ha (by omega)).upd ub (by simp)).upd uc (by simp)
          have sb := (zeros_sl hb (by omega)).upd uc (by simp)
          have sc := zeros_sl hc (by omega)
          refine rq (.agg (thrC (i : Int) (.slice none 0 0) (0, 0, 0) (.slice (some ⟨xb.heap.size, 0, none⟩) l l) (.slice (some ⟨x1.drew.heap.size, 0, none⟩) l l) (.slice (some ⟨xa.heap.size, 0, none⟩) l l) (.slice none 0 0) (.slice none 0 0))) (fun _ _ => bd _ (fun _ => by kernel_rfl) ⟨rfl, rfl⟩) ?_
          refine bx fun xd hd ud zd => ?_
          have hd : Blk xd xc.heap.size TT (thrC (i : Int) (.slice none 0 0) (0, 0, 0) (.slice (some ⟨xb.heap.size, 0, none⟩) l l) (.slice (some ⟨x1.drew.heap.size, 0, none⟩) l l) (.slice (some ⟨xa.heap.size, 0, none⟩) l l) (.slice none 0 0) (.slice none 0 0)) := hd
          have Vd := Vc.trans ud
          refine ⟨Vd.mono (by simp), ?_⟩
          refine bs #[ptrV xc.heap.size] (fun _ => by kernel_rfl) fun xe he ue ze => ?_
          have Ve := Vd.trans ue
          refine ⟨Ve.mono (by simp), ?_⟩
          have zx := Vc.size
          refine apg (J.ths.upd Ve (by simp)) he rfl rfl (by decide) (by simp only [maxLen]; omega) (by omega) fun tv2 xf hsf hGf => ?_
          have Uf : Upd tv.ownBlock.toList x1 xf := (Ve.mono (by simp)).trans hGf.up
          refine ⟨Uf, ?_⟩
          obtain ⟨tva, tvc, rfl, -⟩ := hsf.form
          refine fa ?_
          refine st (hsb xf Uf) (by show 18 < 21; omega) rfl fun xg hg ug zg => ?_
          refine ar64 (by omega) ?_
          have Z : ThrZ xd xc.heap.size (ptrs.length : Int) l := by
            rw [hpl]
            exact ⟨_, _, _, hd, (sc).upd ud (by simp), (sa).upd ud (by simp), (sb).upd ud (by simp), dj3 (by omega) (by omega), dj2 (by omega)⟩
          have P1 := (((J.parts.upd (S := []) (by simp) Vd).snoc Z).upd (S := []) (by simp) ue).upd (S := tv.ownBlock.toList) (fun q hq => by
            obtain ⟨cs, hcs⟩ := sl_blk (J.ths.upd Ve (by simp)) (by simpa using hq)
            exact ⟨cs, _, hcs, .inr rfl⟩) hGf.up
          have P2 := P1.upd (S := [m]) (fun q hq => by
            simp only [List.mem_singleton] at hq
            subst hq
            exact ⟨_, _, hsb xf Uf, .inl rfl⟩) ug
          refine round_mk [.int .i64 ((i + 1 : Nat) : Int)] (t - (i + 1)) rfl rfl ⟨i + 1, .slice tva (ptrs.length + 1) tvc, ptrs ++ [xc.heap.size], rfl, by omega, rfl, by rw [List.length_append, hpl]; rfl, ?_, (hsc xf Uf).upd ug (by simp; exact fun h => hmg1 h.symm)⟩ (by omega)
          rw [hLn]
          refine ⟨hg, P2, ?_, ((J.up.trans Ve).step hGf.up (fun q hq => .inr (J.f3 q (by simpa using hq)))).step ug (by simp; exact J.f1), J.f1, J.f2, fun q hq => ?_, J.f4, fun q hq => ?_, J.f6⟩
          · have := hsf.farT (hsb xf Uf) (by decide) ug
            rw [List.length_append, List.map_append]
            exact this
          · rcases hGf.own q hq with h | h
            · exact J.f3 q h
            · have := J.up.size; have := Ve.size; omega
          · rcases List.mem_append.1 hq with h | h
            · exact J.f5 q h
            · have : q = xc.heap.size := by simpa using h
              have := J.up.size; have := Vc.size; omega
      · refine mks l hL hL (by omega) (by omega) fun xa ha ua za => ?_
        have Va := (Upd.refl [] x1).drew.trans ua
        refine ⟨Va.mono (by simp), ?_⟩
        refine ⟨?_, ?_⟩
        · refine mks l hL hL (by omega) (by omega) fun xb hb ub zb => ?_
          have Vb := Va.trans ub
          refine ⟨Vb.mono (by simp), ?_⟩
          refine mks l hL hL (by omega) (by omega) fun xc hc uc zc => ?_
          have Vc := Vb.trans uc
          refine ⟨Vc.mono (by simp), ?_⟩
          have sa := ((zeros_sl ha (by omega)).upd ub (by simp)).upd uc (by simp)
          have sb := (zeros_sl hb (by omega)).upd uc (by simp)
          have sc := zeros_sl hc (by omega)
          refine rq (.agg (thrC (i : Int) (.slice none 0 0) (0, 0, 0) (.slice (some ⟨xa.heap.size, 0, none⟩) l l) (.slice (some ⟨xb.heap.size, 0, none⟩) l l) (.slice (some ⟨x1.drew.heap.size, 0, none⟩) l l) (.slice none 0 0) (.slice none 0 0))) (fun _ _ => bd _ (fun _ => by kernel_rfl) ⟨rfl, rfl⟩) ?_
          refine bx fun xd hd ud zd => ?_
          have hd : Blk xd xc.heap.size TT (thrC (i : Int) (.slice none 0 0) (0, 0, 0) (.slice (some ⟨xa.heap.size, 0, none⟩) l l) (.slice (some ⟨xb.heap.size, 0, none⟩) l l) (.slice (some ⟨x1.drew.heap.size, 0, none⟩) l l) (.slice none 0 0) (.slice none 0 0)) := hd
          have Vd := Vc.trans ud
          refine ⟨Vd.mono (by simp), ?_⟩
          refine bs #[ptrV xc.heap.size] (fun _ => by kernel_rfl) fun xe he ue ze => ?_
          have Ve := Vd.trans ue
          refine ⟨Ve.mono (by simp), ?_⟩
          have zx := Vc.size
          refine apg (J.ths.upd Ve (by simp)) he rfl rfl (by decide) (by simp only [maxLen]; omega) (by omega) fun tv2 xf hsf hGf => ?_
          have Uf : Upd tv.ownBlock.toList x1 xf := (Ve.mono (by simp)).trans hGf.up
          refine ⟨Uf, ?_⟩
          obtain ⟨tva, tvc, rfl, -⟩ := hsf.form
          refine fa ?_
          refine st (hsb xf Uf) (by show 18 < 21; omega) rfl fun xg hg ug zg => ?_
          refine ar64 (by omega) ?_
          have Z : ThrZ xd xc.heap.size (ptrs.length : Int) l := by
            rw [hpl]
            exact ⟨_, _, _, hd, (sb).upd ud (by simp), (sc).upd ud (by simp), (sa).upd ud (by simp), dj3 (by omega) (by omega), dj2 (by omega)⟩
          have P1 := (((J.parts.upd (S := []) (by simp) Vd).snoc Z).upd (S := []) (by simp) ue).upd (S := tv.ownBlock.toList) (fun q hq => by
            obtain ⟨cs, hcs⟩ := sl_blk (J.ths.upd Ve (by simp)) (by simpa using hq)
            exact ⟨cs, _, hcs, .inr rfl⟩) hGf.up
          have P2 := P1.upd (S := [m]) (fun q hq => by
            simp only [List.mem_singleton] at hq
            subst hq
            exact ⟨_, _, hsb xf Uf, .inl rfl⟩) ug
          refine round_mk [.int .i64 ((i + 1 : Nat) : Int)] (t - (i + 1)) rfl rfl ⟨i + 1, .slice tva (ptrs.length + 1) tvc, ptrs ++ [xc.heap.size], rfl, by omega, rfl, by rw [List.length_append, hpl]; rfl, ?_, (hsc xf Uf).upd ug (by simp; exact fun h => hmg1 h.symm)⟩ (by omega)
          rw [hLn]
          refine ⟨hg, P2, ?_, ((J.up.trans Ve).step hGf.up (fun q hq => .inr (J.f3 q (by simpa using hq)))).step ug (by simp; exact J.f1), J.f1, J.f2, fun q hq => ?_, J.f4, fun q hq => ?_, J.f6⟩
          · have := hsf.farT (hsb xf Uf) (by decide) ug
            rw [List.length_append, List.map_append]
            exact this
          · rcases hGf.own q hq with h | h
            · exact J.f3 q h
            · have := J.up.size; have := Ve.size; omega
          · rcases List.mem_append.1 hq with h | h
            · exact J.f5 q h
            · have : q = xc.heap.size := by simpa using h
              have := J.up.size; have := Vc.size; omega
        · refine mks l hL hL (by omega) (by omega) fun xb hb ub zb => ?_
          have Vb := Va.trans ub
          refine ⟨Vb.mono (by simp), ?_⟩
          refine mks l hL hL (by omega) (by omega) fun xc hc uc zc => ?_
          have Vc := Vb.trans uc
          refine ⟨Vc.mono (by simp), ?_⟩
          have sa := ((zeros_sl ha (by omega)).upd ub (by simp)).upd uc (by simp)
          have sb := (zeros_sl hb (by omega)).upd uc (by simp)
          have sc := zeros_sl hc (by omega)
          refine rq (.agg (thrC (i : Int) (.slice none 0 0) (0, 0, 0) (.slice (some ⟨xb.heap.size, 0, none⟩) l l) (.slice (some ⟨xa.heap.size, 0, none⟩) l l) (.slice (some ⟨x1.drew.heap.size, 0, none⟩) l l) (.slice none 0 0) (.slice none 0 0))) (fun _ _ => bd _ (fun _ => by kernel_rfl) ⟨rfl, rfl⟩) ?_
          refine bx fun xd hd ud zd => ?_
          have hd : Blk xd xc.heap.size TT (thrC (i : Int) (.slice none 0 0) (0, 0, 0) (.slice (some ⟨xb.heap.size, 0, none⟩) l l) (.slice (some ⟨xa.heap.size, 0, none⟩) l l) (.slice (some ⟨x1.drew.heap.size, 0, none⟩) l l) (.slice none 0 0) (.slice none 0 0)) := hd
          have Vd := Vc.trans ud
          refine ⟨Vd.mono (by simp), ?_⟩
          refine bs #[ptrV xc.heap.size] (fun _ => by kernel_rfl) fun xe he ue ze => ?_
          have Ve := Vd.trans ue
          refine ⟨Ve.mono (by simp), ?_⟩
          have zx := Vc.size
          refine apg (J.ths.upd Ve (by simp)) he rfl rfl (by decide) (by simp only [maxLen]; omega) (by omega) fun tv2 xf hsf hGf => ?_
          have Uf : Upd tv.ownBlock.toList x1 xf := (Ve.mono (by simp)).trans hGf.up
          refine ⟨Uf, ?_⟩
          obtain ⟨tva, tvc, rfl, -⟩ := hsf.form
          refine fa ?_
          refine st (hsb xf Uf) (by show 18 < 21; omega) rfl fun xg hg ug zg => ?_
          refine ar64 (by omega) ?_
          have Z : ThrZ xd xc.heap.size (ptrs.length : Int) l := by
            rw [hpl]
            exact ⟨_, _, _, hd, (sc).upd ud (by simp), (sb).upd ud (by simp), (sa).upd ud (by simp), dj3 (by omega) (by omega), dj2 (by omega)⟩
          have P1 := (((J.parts.upd (S := []) (by simp) Vd).snoc Z).upd (S := []) (by simp) ue).upd (S := tv.ownBlock.toList) (fun q hq => by
            obtain ⟨cs, hcs⟩ := sl_blk (J.ths.upd Ve (by simp)) (by simpa using hq)
            exact ⟨cs, _, hcs, .inr rfl⟩) hGf.up
          have P2 := P1.upd (S := [m]) (fun q hq => by
            simp only [List.mem_singleton] at hq
            subst hq
            exact ⟨_, _, hsb xf Uf, .inl rfl⟩) ug
          refine round_mk [.int .i64 ((i + 1 : Nat) : Int)] (t - (i + 1)) rfl rfl ⟨i + 1, .slice tva (ptrs.length + 1) tvc, ptrs ++ [xc.heap.size], rfl, by omega, rfl, by rw [List.length_append, hpl]; rfl, ?_, (hsc xf Uf).upd ug (by simp; exact fun h => hmg1 h.symm)⟩ (by omega)
          rw [hLn]
          refine ⟨hg, P2, ?_, ((J.up.trans Ve).step hGf.up (fun q hq => .inr (J.f3 q (by simpa using hq)))).step ug (by simp; exact J.f1), J.f1, J.f2, fun q hq => ?_, J.f4, fun q hq => ?_, J.f6⟩
          · have := hsf.farT (hsb xf Uf) (by decide) ug
            rw [List.length_append, List.map_append]
            exact this
          · rcases hGf.own q hq with h | h
            · exact J.f3 q h
            · have := J.up.size; have := Ve.size; omega
          · rcases List.mem_append.1 hq with h | h
            · exact J.f5 q h
            · have : q = xc.heap.size := by simpa using h
              have := J.up.size; have := Vc.size; omega
    · have hi : i = t := by omega
      subst hi
      exact ⟨fun h => absurd hr h, fun _ => ⟨m, mp, mv, lv, fp, fv, _, _, tv, ptrs, rfl, J, by omega, (fun h => (by cases h)), (fun _ => ⟨_, _, rfl⟩)⟩⟩
end Go.Proofs.Ytklbeipdigancaa

/- Contracts: a thread's frames. -/
namespace Go.Proofs.Ytklbeipdigancaa
open Go.RowKit
attribute [local irreducible] Instr.loadAt Instr.storeAt Instr.fieldAt Instr.indexAt Instr.sliceAt Instr.buildSlice Instr.box Instr.alloc Builtin.append_ Builtin.len_ Builtin.min_ Builtin.max_ Calls Instr.build Instr.makeSlice binSem convert Instr.index Instr.range Instr.next
attribute [local irreducible] Builtin.copy_
structure Fr where
  (fn pc : Int)
  R : List Int
def regsC (n : Nat) (l : List Int) : List Value := (List.range n).map fun k => .int .u64 (l.getD k 0)
def frC (f : Fr) : List Value := .int .i64 f.fn :: .int .i64 f.pc :: regsC 10 f.R
theorem frC_len (f : Fr) : (frC f).length = 12 := by simp [frC, regsC]
def framesC (fs : List Fr) : List Value := fs.flatMap frC
theorem framesC_app (a b : List Fr) : framesC (a ++ b) = framesC a ++ framesC b := by simp [framesC]
theorem framesC_one (f : Fr) : framesC [f] = frC f := by simp [framesC]
theorem framesC_len : ∀ fs : List Fr, (framesC fs).length = fs.length * 12
  | [] => rfl
  | f :: fs => by
    show (frC f ++ framesC fs).length = _
    rw [List.length_append, frC_len, framesC_len fs, List.length_cons]; omega
theorem pad_eq (l : List Int) (n : Nat) : (l.map (Value.int .u64)).take n ++ (List.replicate n (Value.int .u64 0)).drop (min l.length n) = regsC n l := by
  apply List.ext_getElem
  · simp [regsC]; omega
  · intro i h1 h2
    have hi : i < n := by simpa [regsC] using h2
    rw [List.getElem_append]
    simp only [regsC, List.getElem_map, List.getElem_range]
    split
    · rename_i h
      have : i < l.length := by simp at h; omega
      simp [List.getD, this]
    · rename_i h
      have : ¬ i < l.length := by simp at h; omega
      simp [List.getD, this]
abbrev TF : Nat := 79
structure IsThr (w : World) (g : Nat) (id : Int) (fv : Value) (fs : List Fr) (r : Int × Int × Int) (pv sv wv rv ov : Value) : Prop where
  blk : Blk w g TT (thrC id fv r pv sv wv rv ov)
  fr : Sl w TF 12 fv fs.length (framesC fs)
section
variable {P : Program} {K : World → Prop} {w : World}
theorem stm {t n g T o : Nat} [AggT P t n] {cs new : Array Value} (hb : Blk w g T cs) (hl : o + n ≤ cs.size) (hn : new.toList.length = n) (h1 : new.toList.all (·.oneCell') = true)
    (k : ∀ w', Blk w' g T (new.toList.zipIdx.foldl (fun cs (v, i) => cs.setIfInBounds (o + i) v) cs) → Upd [g] w w' → w'.heap.size = w.heap.size → K w') : RunU P (Instr.storeAt t (.pointer (some ⟨g, o, none⟩)) (.agg new)) K w := by
  obtain ⟨h2, h3, h4⟩ := run_setCells_blk g T new.toList o w cs hb
  refine ⟨⟨_, run_storeAt_mid w g o t new (fun j hj => ?_) (by rw [AggT.i (P := P) (t := t) (n := n)]; simpa using hn.symm) (by rw [← Array.all_toList]; exact h1), k _ h2 h3 h4⟩⟩
  refine ⟨?_, hb.frozen _⟩
  rw [hb.cell]
  have hj : j < new.toList.length := by simpa using hj
  have : o + j < cs.size := by omega
  simp [this]
end
theorem Sl.init {w : World} {e n m : Nat} {a : Option Addr} {cap : Nat} {xs ys : List Value} (h : Sl w e n (.slice a (m + 1) cap) (m + 1) (xs ++ ys)) (hy : ys.length = n) : Sl w e n (.slice a m cap) m xs := by
  obtain ⟨hl, h⟩ := h
  rw [List.length_append, hy, Nat.add_mul, Nat.one_mul] at hl
  refine ⟨by omega, ?_⟩
  rcases h with ⟨h0, h1⟩ | ⟨g, off, cap', cur, he, hb, hc, hm, hs, ht⟩
  · omega
  · injection he with e1 e2 e3
    subst e1; subst e3
    refine .inr ⟨g, off, cap, cur, rfl, hb, by omega, hm, hs, ?_⟩
    have := congrArg (List.take (m * n)) ht
    rw [List.take_take, List.take_append_of_le_length (by omega), List.take_of_length_le (by omega : xs.length ≤ m * n)] at this
    rw [← this]
    congr 1
    rw [Nat.add_mul, Nat.one_mul]; omega
set_option maxRecDepth 10000 in
theorem push_c {w : World} {g : Nat} {id : Int} {fv : Value} {fs : List Fr} {r : Int × Int × Int} {pv sv wv rv ov v : Value} {l : List Int} (h : IsThr w g id fv fs r pv sv wv rv ov) (hf : fs.length ≤ 100000) (hv : RdK w .u64 v l) (hl : l.length ≤ 100000) (fn : Int) :
    Fn Try.prog 10 #[ptrV g, .int .i64 fn, v] w fun _ w' => ∃ fv', IsThr w' g id fv' (fs ++ [⟨fn, 0, l⟩]) r pv sv wv rv ov ∧ Upd (g :: fv.ownBlock.toList) w w' ∧ ∀ q, fv'.ownBlock = some q → fv.ownBlock = some q ∨ w.heap.size ≤ q := by
  refine fn_enter Try.func10 rfl rfl ?_
  refine ptr_eq ?_
  refine bd (frC ⟨fn, 0, []⟩).toArray (fun _ => by kernel_rfl) ?_
  refine al (frC ⟨0, 0, []⟩).toArray (fun _ => by kernel_rfl) fun w1 hb1 hu1 hs1 => ?_
  refine stw hb1 rfl rfl rfl fun w2 hb2 hu2 hs2 => ?_
  have hU2 : Upd [] w w2 := hu1.step hu2 (by simp)
  refine fa ?_
  refine sla ?_
  refine cpy hb2 (hv.upd0 hU2).rd (by show 0 + 2 + 10 ≤ 12; omega) one_ints fun w3 hb3 hu3 hs3 => ?_
  have hU3 : Upd [] w w3 := hU2.step hu3 (by simp)
  have hb3 : Blk w3 w.heap.size TF (frC ⟨fn, 0, l⟩).toArray := by
    have e : ((frC ⟨fn, 0, []⟩).toArray.toList.take (0 + 2) ++ (l.map (Value.int .u64)).take 10 ++ (frC ⟨fn, 0, []⟩).toArray.toList.drop (0 + 2 + min l.length 10)) = frC ⟨fn, 0, l⟩ := by
      have e1 : (frC ⟨fn, 0, []⟩).toArray.toList.drop (0 + 2 + min l.length 10) = (List.replicate 10 (Value.int .u64 0)).drop (min l.length 10) := by
        rw [show 0 + 2 + min l.length 10 = min l.length 10 + 1 + 1 by omega]; rfl
      rw [e1, List.append_assoc, pad_eq]; rfl
    rw [e] at hb3
    exact hb3
  have gb3 := h.blk.upd hU3 (by simp)
  have gs3 := h.fr.upd hU3 (by simp)
  have hlt := h.blk.lt
  have hne := gs3.blk_ne gb3 (by decide)
  have hnf : fv.ownBlock ≠ some w.heap.size := fun hq => by have := h.fr.lt _ hq; omega
  have sB : ∀ w', Upd fv.ownBlock.toList w3 w' → Blk w' g TT _ := fun w' hu => gb3.upd hu (by simpa using hne)
  have sF : ∀ w', Upd fv.ownBlock.toList w3 w' → Blk w' w.heap.size TF _ := fun w' hu => hb3.upd hu (by simpa using hnf)
  refine draw_mix 8 [(0, true), (1, true), (2, true), (3, true), (4, true), (5, true), (6, false), (7, false)] (fun w' => Upd fv.ownBlock.toList w3 w') (by decide +kernel) (Upd.refl _ w3).drew ?_
  refine q_fa ?_
  refine q_ld (v := fv) (fun w' hw' => (sB w' hw').cell 1) ?_
  refine rq (.agg (frC ⟨fn, 0, l⟩).toArray) (fun w' hw' => ldw (sF w' hw') rfl ⟨rfl, rfl⟩) ?_
  refine bs (frC ⟨fn, 0, l⟩).toArray (fun _ => by kernel_rfl) fun w4 hb4 hu4 hs4 => ?_
  have hu34 : Upd [] w3 w4 := (Upd.refl [] w3).drew.trans hu4
  refine ⟨hu34.mono (by simp), ?_⟩
  refine apg (gs3.upd hu34 (by simp)) hb4 rfl rfl (by decide) (by simp only [maxLen]; omega) (by omega) fun fv2 w5 hs5 hG5 => ?_
  have hu35 : Upd fv.ownBlock.toList w3 w5 := (hu34.mono (by simp)).trans hG5.up
  refine ⟨hu35, ?_⟩
  obtain ⟨fa2, fc2, rfl, -⟩ := hs5.form
  refine fa ?_
  refine st (sB w5 hu35) (by show 1 < 10; omega) rfl fun w6 hb6 hu6 hs6 => ?_
  refine ⟨_, ⟨hb6, ?_⟩, ((hU3.mono (by simp)).step hu35 (fun q hq => .inl (by simp at hq ⊢; exact .inr hq))).step hu6 (by simp), fun q hq => ?_⟩
  · have := hs5.farT (sB w5 hu35) (by decide) hu6
    rw [framesC_app, framesC_one, List.length_append]
    exact this
  · rcases hG5.own q hq with h1 | h1
    · exact .inl h1
    · right; have := hU3.size; have := hu34.size; omega
set_option maxRecDepth 10000 in
theorem pop_c {w : World} {g : Nat} {id : Int} {fv : Value} {fs : List Fr} {f : Fr} {r : Int × Int × Int} {pv sv wv rv ov v : Value} {l : List Int} (h : IsThr w g id fv (fs ++ [f]) r pv sv wv rv ov) (hf : fs.length ≤ 100000) (hv : ∀ w', Upd [g] w w' → RdK w' .u64 v l) :
    Fn Try.prog 55 #[ptrV g, v] w fun _ w' => ∃ fv', IsThr w' g id fv' fs (l.getD 0 0, l.getD 1 0, l.getD 2 0) pv sv wv rv ov ∧ Upd [g] w w' ∧ fv'.ownBlock = fv.ownBlock := by
  obtain ⟨fa0, fc0, rfl, -⟩ := h.fr.form
  have hfr := h.fr
  rw [framesC_app, framesC_one, List.length_append] at hfr
  have hfr : Sl w TF 12 (.slice fa0 (fs.length + 1) fc0) (fs.length + 1) (framesC fs ++ frC f) := by simpa using hfr
  have hblk := h.blk
  rw [List.length_append] at hblk
  have hblk : Blk w g TT (thrC id (.slice fa0 (fs.length + 1) fc0) r pv sv wv rv ov) := hblk
  obtain ⟨_, fcap, he, hcap, -⟩ := hfr.form
  injection he with _ _ he
  subst he
  refine fn_enter Try.func55 rfl rfl ?_
  refine ptr_eq ?_
  refine fa ?_
  refine ldb hblk rfl ?_
  refine len_sl ?_
  refine draw_tail 12 (by decide +kernel) ?_
  refine q_fa ?_
  refine q_ld (v := .slice fa0 (fs.length + 1) fc0) (by rintro _ rfl; exact hblk.drew.cell 1) ?_
  refine q_fa ?_
  refine q_ld (v := .slice fa0 (fs.length + 1) fc0) (by rintro _ rfl; exact hblk.drew.cell 1) ?_
  refine q_len ?_
  refine q_ar64 (by omega) ?_
  refine q_hi fs.length (by omega) (by omega) ?_
  refine fa ?_
  refine st hblk.drew (by show 1 < 10; omega) rfl fun w1 hb1 hu1 hs1 => ?_
  have hb1 : Blk w1 g TT (thrC id (.slice fa0 fs.length fc0) r pv sv wv rv ov) := hb1
  refine bd #[.int .u64 0, .int .u64 0, .int .u64 0] (fun _ => by kernel_rfl) ?_
  refine fa ?_
  refine stm hb1 (by show 0 + 2 + 3 ≤ 10; omega) rfl rfl fun w2 hb2 hu2 hs2 => ?_
  have hb2 : Blk w2 g TT (thrC id (.slice fa0 fs.length fc0) (0, 0, 0) pv sv wv rv ov) := hb2
  have hU2 : Upd [g] w w2 := ((Upd.refl [g] w).drew.trans hu1).trans hu2
  refine fa ?_
  refine sla ?_
  refine cpy hb2 (hv w2 hU2).rd (by show 0 + 2 + 3 ≤ 10; omega) one_ints fun w3 hb3 hu3 hs3 => ?_
  have hU3 := hU2.trans hu3
  refine ⟨.slice fa0 fs.length fc0, ⟨?_, ?_⟩, hU3, ?_⟩
  · have e : ((thrC id (.slice fa0 fs.length fc0) (0, 0, 0) pv sv wv rv ov).toList.take (0 + 2) ++ (l.map (Value.int .u64)).take 3 ++ (thrC id (.slice fa0 fs.length fc0) (0, 0, 0) pv sv wv rv ov).toList.drop (0 + 2 + min l.length 3)).toArray = thrC id (.slice fa0 fs.length fc0) (l.getD 0 0, l.getD 1 0, l.getD 2 0) pv sv wv rv ov := by
      match l with
      | [] => rfl
      | [a] => rfl
      | [a, b] => rfl
      | a :: b :: c :: rest =>
        have : min (a :: b :: c :: rest).length 3 = 3 := by simp
        rw [this]; rfl
    rw [e] at hb3
    exact hb3
  · have := hfr.init (frC_len f)
    exact this.farT hblk (by decide) hU3
  · cases fa0 <;> rfl
theorem top_none {w : World} {g : Nat} {id : Int} {fv : Value} {r : Int × Int × Int} {pv sv wv rv ov : Value} (h : IsThr w g id fv [] r pv sv wv rv ov) : Fn Try.prog 9 #[ptrV g] w fun r w' => r = .pointer none ∧ w' = w := by
  obtain ⟨fa0, fc0, rfl, -⟩ := h.fr.form
  refine fn_enter Try.func9 rfl rfl ?_
  refine ptr_eq ?_
  refine fa ?_
  refine ldb h.blk rfl ?_
  refine len_sl ?_
  exact ⟨rfl, rfl⟩
theorem top_c {w : World} {g : Nat} {id : Int} {fs : List Fr} {f : Fr} {r : Int × Int × Int} {pv sv wv rv ov : Value} {fb fo fc0 n : Nat} (h : IsThr w g id (.slice (some ⟨fb, fo, none⟩) n fc0) (fs ++ [f]) r pv sv wv rv ov) (hf : fs.length ≤ 100000) :
    Fn Try.prog 9 #[ptrV g] w fun r w' => r = .pointer (some ⟨fb, fo + fs.length * 12, none⟩) ∧ w' = w.drew := by
  have hfr := h.fr
  have hn : n = fs.length + 1 := by
    obtain ⟨a, c, he, -⟩ := hfr.form
    injection he with _ h2 _
    rw [h2]; simp
  subst hn
  have hcap : fs.length + 1 ≤ fc0 := by
    obtain ⟨a, c, he, hc, -⟩ := hfr.form
    injection he with _ _ h3
    subst h3
    simpa using hc
  have hblk := h.blk
  refine fn_enter Try.func9 rfl rfl ?_
  refine ptr_eq ?_
  refine fa ?_
  refine ldb hblk rfl ?_
  refine len_sl ?_
  refine draw_all (fun w' => w' = w.drew) (by decide +kernel) rfl ?_
  refine q_fa ?_
  refine q_ld (v := .slice (some ⟨fb, fo, none⟩) (fs.length + 1) fc0) (by rintro _ rfl; exact hblk.drew.cell 1) ?_
  refine q_fa ?_
  refine q_ld (v := .slice (some ⟨fb, fo, none⟩) (fs.length + 1) fc0) (by rintro _ rfl; exact hblk.drew.cell 1) ?_
  refine q_len ?_
  refine q_ar64 (by omega) ?_
  refine q_ix fs.length (by omega) (by omega) ?_
  rintro _ rfl
  exact ⟨rfl, rfl⟩
theorem IsThr.top {w : World} {g : Nat} {id : Int} {fs : List Fr} {f : Fr} {r : Int × Int × Int} {pv sv wv rv ov : Value} {fb fo fc0 n : Nat} (h : IsThr w g id (.slice (some ⟨fb, fo, none⟩) n fc0) (fs ++ [f]) r pv sv wv rv ov) (j : Nat) (hj : j < 12) : w.cell? ⟨fb, fo + fs.length * 12 + j, none⟩ = (frC f)[j]? := by
  have hfr := h.fr
  have hn : n = (fs ++ [f]).length := by
    obtain ⟨a, c, he, -⟩ := hfr.form
    injection he
  subst hn
  rw [framesC_app, framesC_one] at hfr
  have := (hfr.cells rfl (fs.length * 12 + j) (by rw [List.length_append, List.length_singleton]; omega)).1
  rw [Nat.add_assoc, this, List.getElem?_append_right (by rw [framesC_len]; omega), framesC_len]
  congr 1
  omega
theorem IsThr.upd0 {w w' : World} {g : Nat} {id : Int} {fv : Value} {fs : List Fr} {r : Int × Int × Int} {pv sv wv rv ov : Value} (h : IsThr w g id fv fs r pv sv wv rv ov) (hu : Upd [] w w') : IsThr w' g id fv fs r pv sv wv rv ov := ⟨h.blk.upd hu (by simp), h.fr.upd hu (by simp)⟩
theorem push_nil (fn : Int) (v : Value) (w : World) : Fn Try.prog 10 #[.pointer none, .int .i64 fn, v] w fun _ w' => w' = w := by
  refine fn_enter Try.func10 rfl rfl ?_
  refine ptr_eq0 ?_
  rfl
theorem pop_nil (v : Value) (w : World) : Fn Try.prog 55 #[.pointer none, v] w fun _ w' => w' = w := by
  refine fn_enter Try.func55 rfl rfl ?_
  refine ptr_eq0 ?_
  rfl
theorem top_nil (w : World) : Fn Try.prog 9 #[.pointer none] w fun r w' => r = .pointer none ∧ w' = w := by
  refine fn_enter Try.func9 rfl rfl ?_
  refine ptr_eq0 ?_
  exact ⟨rfl, rfl⟩
end Go.Proofs.Ytklbeipdigancaa

/- A machine that lives. -/
namespace Go.Proofs.Ytklbeipdigancaa
open Go.RowKit
attribute [local irreducible] Instr.loadAt Instr.storeAt Instr.fieldAt Instr.indexAt Instr.sliceAt Instr.buildSlice Instr.box Instr.alloc Builtin.append_ Builtin.len_ Builtin.min_ Builtin.max_ Calls Instr.build Instr.makeSlice binSem convert Instr.index Instr.range Instr.next
theorem mem_c {w w0 : World} {m mp fp l : Nat} {c : Cf} {v lv fv gv tv : Value} {s : MS} {draws : List Int} {gs : Option (Nat × Value × List Int × Int × Int)} {ptrs : List Nat} (h : MkI w0 w m c mp v lv s fp fv draws gv gs tv ptrs l) : Fn Try.prog 11 #[ptrV m] w fun r w' => r = ptrV mp ∧ w' = w := by
  obtain ⟨A, T, N, L, B, P, S⟩ := c
  refine fn_enter Try.func11 rfl rfl ?_
  refine ptr_eq ?_
  refine fa ?_
  refine ldb h.blk rfl ?_
  exact ⟨rfl, rfl⟩
theorem live_W : (layS 0 1 2 1 (newMS (sizeP 0 1 2 1).toNat)).W = [2, 0, 1, 0, 0, 0, 0, 0, 0, 0, 2, 0, 0, 0, 0, 0, 0, 0, 0, 0] := by decide
end Go.Proofs.Ytklbeipdigancaa

/- Contracts: what ghosts do. -/
namespace Go.Proofs.Ytklbeipdigancaa
open Go.RowKit
attribute [local irreducible] Instr.loadAt Instr.storeAt Instr.fieldAt Instr.indexAt Instr.sliceAt Instr.buildSlice Instr.box Instr.alloc Builtin.append_ Builtin.len_ Builtin.min_ Builtin.max_ Calls Instr.build Instr.makeSlice binSem convert Instr.index Instr.range Instr.next
theorem map_getD {l : List Int} {t : Nat} (h : t < l.length) : (l.map (Value.int .i64))[t]? = some (.int .i64 (l.getD t 0)) := by simp [List.getD, h]
def gf (k n kind i : Int) : Int × Int := if k = 0 ∧ n = 0 then (kind, i) else (k, n)
theorem IsG.ne {w : World} {p : Nat} {v : Value} {tags : List Int} {k n : Int} (h : IsG w p v tags k n) : v.ownBlock ≠ some p := h.s.blk_ne h.blk (by decide)
abbrev TFa : Nat := 91
theorem feq_no {k n k' n' : Int} (hz : ¬ (k = k' ∧ n = n')) : eqCells (#[Value.int .i64 k, .int .i64 n] : Array Value).toList (#[Value.int .i64 k', .int .i64 n'] : Array Value).toList = false := by
  cases hb : eqCells (#[Value.int .i64 k, .int .i64 n] : Array Value).toList (#[Value.int .i64 k', .int .i64 n'] : Array Value).toList
  · rfl
  · exact absurd (by simpa [eqCells, eqCell] using hb) hz
theorem feq_yes (k n : Int) : eqCells (#[Value.int .i64 k, .int .i64 n] : Array Value).toList (#[Value.int .i64 k, .int .i64 n] : Array Value).toList = true := eqCells_refl [.i .i64, .i .i64] _ rfl
theorem feq {K' : Value → World → Prop} {w : World} {x y : Operand} {k n k' n' : Int} (b : Bool) (hb : b = true ↔ (k = k' ∧ n = n')) (h : K' (.bool b) w) : RunP Try.prog (binSem .eql TFa x y (.agg #[.int .i64 k, .int .i64 n]) (.agg #[.int .i64 k', .int .i64 n'])) K' w := by
  refine aq rfl rfl ?_
  by_cases hz : k = k' ∧ n = n'
  · obtain ⟨rfl, rfl⟩ := hz
    have : b = true := hb.2 ⟨rfl, rfl⟩
    subst this
    rw [feq_yes]; exact h
  · have : b = false := by
      cases b
      · rfl
      · exact absurd (hb.1 rfl) hz
    subst this
    rw [feq_no hz]; exact h
theorem fne {K' : Value → World → Prop} {w : World} {x y : Operand} {k n k' n' : Int} (b : Bool) (hb : b = true ↔ ¬ (k = k' ∧ n = n')) (h : K' (.bool b) w) : RunP Try.prog (binSem .neq TFa x y (.agg #[.int .i64 k, .int .i64 n]) (.agg #[.int .i64 k', .int .i64 n'])) K' w := by
  refine anq rfl rfl ?_
  by_cases hz : k = k' ∧ n = n'
  · obtain ⟨rfl, rfl⟩ := hz
    have : b = false := by
      cases b
      · rfl
      · exact absurd ⟨rfl, rfl⟩ (hb.1 rfl)
    subst this
    rw [feq_yes]; exact h
  · have : b = true := hb.2 hz
    subst this
    rw [feq_no hz]; exact h
theorem IsG.ldf {K' : Value → World → Prop} {w : World} {p : Nat} {v : Value} {tags : List Int} {k n : Int} (h : IsG w p v tags k n) (hk : K' (.agg #[.int .i64 k, .int .i64 n]) w) : RunP Try.prog (Instr.loadAt TFa (.pointer (some ⟨p, 0 + 1, none⟩))) K' w := by
  refine lda [.int .i64 k, .int .i64 n] rfl (fun j x hj => ?_) hk
  rw [h.blk.cell]
  match j, hj with
  | 0, hj => exact hj
  | 1, hj => exact hj
  | j + 2, hj => simp at hj
set_option maxRecDepth 10000 in
theorem fault_c {w : World} {p : Nat} {v : Value} {tags : List Int} {k n : Int} (h : IsG w p v tags k n) (kind i : Int) : Fn Try.prog 90 #[ptrV p, .int .i64 kind, .int .i64 i] w fun r w' =>
    r = .bool false ∧ IsG w' p v tags (gf k n kind i).1 (gf k n kind i).2 ∧ Upd [p] w w' := by
  refine fn_enter Try.func90 rfl rfl ?_
  refine ptr_ne ?_
  refine fa ?_
  refine h.ldf ?_
  refine bd #[.int .i64 0, .int .i64 0] (fun _ => by kernel_rfl) ?_
  by_cases hz : k = 0 ∧ n = 0
  · refine feq true (iff_of_true rfl hz) ?_
    obtain ⟨rfl, rfl⟩ := hz
    have e : gf 0 0 kind i = (kind, i) := if_pos ⟨rfl, rfl⟩
    rw [e]
    refine bd #[.int .i64 kind, .int .i64 i] (fun _ => by kernel_rfl) ?_
    refine fa ?_
    refine stm h.blk (by show 0 + 1 + 2 ≤ 3; omega) rfl rfl fun w1 hb1 hu1 hs1 => ?_
    exact ⟨rfl, ⟨hb1, h.s.farT h.blk (by decide) hu1⟩, hu1⟩
  · refine feq false (iff_of_false (by simp) hz) ?_
    have e : gf k n kind i = (k, n) := if_neg hz
    rw [e]
    exact ⟨rfl, h, Upd.refl _ _⟩
/-- one deed: its answer, tags and fault behind it -/
def gt (tags : List Int) (k n i frm to kind : Int) : Bool × List Int × Int × Int :=
  if i < 1 ∨ (tags.length : Int) < i then (false, tags, gf k n 5 i)
  else if tags.getD (i - 1).toNat 0 = frm then (true, tags.set (i - 1).toNat to, k, n)
  else (false, tags, gf k n kind i)
set_option maxRecDepth 10000 in
theorem turn_c {w : World} {p : Nat} {v : Value} {tags : List Int} {k n : Int} (h : IsG w p v tags k n) (hl : tags.length ≤ 64) (i frm to kind : Int) : Fn Try.prog 82 #[ptrV p, .int .i64 i, .int .i64 frm, .int .i64 to, .int .i64 kind] w fun r w' =>
    r = .bool (gt tags k n i frm to kind).1 ∧ IsG w' p v (gt tags k n i frm to kind).2.1 (gt tags k n i frm to kind).2.2.1 (gt tags k n i frm to kind).2.2.2 ∧ Upd (p :: v.ownBlock.toList) w w' := by
  obtain ⟨va, vc, rfl, -⟩ := h.s.form
  refine fn_enter Try.func82 rfl rfl ?_
  refine ptr_eq ?_
  by_cases h1 : i < 1
  · refine cY h1 ?_
    have e : gt tags k n i frm to kind = (false, tags, gf k n 5 i) := if_pos (.inl h1)
    rw [e]
    refine cl (fault_c h 5 i) ?_
    rintro _ w1 ⟨rfl, hg, hu⟩
    exact ⟨rfl, hg, hu.mono (by simp)⟩
  refine cN h1 ?_
  refine fa ?_
  refine ldb h.blk rfl ?_
  refine len_sl ?_
  refine cd (fun h2 => ?_) (fun h2 => ?_)
  · have e : gt tags k n i frm to kind = (false, tags, gf k n 5 i) := if_pos (.inr h2)
    rw [e]
    refine cl (fault_c h 5 i) ?_
    rintro _ w1 ⟨rfl, hg, hu⟩
    exact ⟨rfl, hg, hu.mono (by simp)⟩
  have hi : (i - 1).toNat < tags.length := by omega
  obtain ⟨vb, vo, vc', he, -⟩ := h.s.some_ (by omega)
  cases he
  have hcell := (h.s.cells rfl (i - 1).toNat (by omega)).1
  refine fa ?_
  refine ldb h.blk rfl ?_
  refine ar64 (by omega) ?_
  refine ix (i - 1).toNat (by omega) hi ?_
  refine ld (v := .int .i64 (tags.getD (i - 1).toNat 0)) (by rw [Nat.mul_one, hcell]; exact map_getD hi) ?_
  refine cd (fun h3 => ?_) (fun h3 => ?_)
  · have e : gt tags k n i frm to kind = (false, tags, gf k n kind i) := by
      unfold gt; rw [if_neg (by omega), if_neg h3]
    rw [e]
    refine cl (fault_c h kind i) ?_
    rintro _ w1 ⟨rfl, hg, hu⟩
    exact ⟨rfl, hg, hu.mono (by simp)⟩
  · have h3 : tags.getD (i - 1).toNat 0 = frm := by simpa using h3
    have e : gt tags k n i frm to kind = (true, tags.set (i - 1).toNat to, k, n) := by
      unfold gt; rw [if_neg (by omega), if_pos h3]
    rw [e]
    refine fa ?_
    refine ldb h.blk rfl ?_
    refine ar64 (by omega) ?_
    refine ix (i - 1).toNat (by omega) hi ?_
    refine stS h.s rfl hi rfl fun w1 hs1 hu1 hz1 => ?_
    refine ⟨rfl, ⟨h.blk.upd hu1 (by have := h.ne; simp; intro e; subst e; exact this rfl), ?_⟩, hu1.mono (by simp [Value.ownBlock])⟩
    show Sl w1 _ 1 _ (tags.set (i - 1).toNat to).length ((tags.set (i - 1).toNat to).map _)
    rw [List.length_set, List.map_set]
    exact hs1
def gtag (tags : List Int) (i : Int) : Int := if i < 1 ∨ (tags.length : Int) < i then 0 else tags.getD (i - 1).toNat 0
theorem tag_c {w : World} {p : Nat} {v : Value} {tags : List Int} {k n : Int} (h : IsG w p v tags k n) (hl : tags.length ≤ 64) (i : Int) : Fn Try.prog 17 #[ptrV p, .int .i64 i] w fun r w' => r = .int .i64 (gtag tags i) ∧ w' = w := by
  obtain ⟨va, vc, rfl, -⟩ := h.s.form
  refine fn_enter Try.func17 rfl rfl ?_
  refine ptr_eq ?_
  by_cases h1 : i < 1
  · refine cY h1 ?_
    exact ⟨by rw [gtag, if_pos (.inl h1)]; rfl, rfl⟩
  refine cN h1 ?_
  refine fa ?_
  refine ldb h.blk rfl ?_
  refine len_sl ?_
  refine cd (fun h2 => ?_) (fun h2 => ?_)
  · exact ⟨by rw [gtag, if_pos (.inr h2)]; rfl, rfl⟩
  have hi : (i - 1).toNat < tags.length := by omega
  obtain ⟨vb, vo, vc', he, -⟩ := h.s.some_ (by omega)
  cases he
  have hcell := (h.s.cells rfl (i - 1).toNat (by omega)).1
  refine fa ?_
  refine ldb h.blk rfl ?_
  refine ar64 (by omega) ?_
  refine ix (i - 1).toNat (by omega) hi ?_
  refine ld (v := .int .i64 (tags.getD (i - 1).toNat 0)) (by rw [Nat.mul_one, hcell]; exact map_getD hi) ?_
  exact ⟨by rw [gtag, if_neg (by omega)]; rfl, rfl⟩
theorem first_c {w : World} {p : Nat} {v : Value} {tags : List Int} {k n : Int} (h : IsG w p v tags k n) : Fn Try.prog 45 #[ptrV p] w fun r w' => r = .agg #[.int .i64 k, .int .i64 n] ∧ Upd [] w w' := by
  refine fn_enter Try.func45 rfl rfl ?_
  refine al #[.int .i64 0, .int .i64 0] (fun _ => by kernel_rfl) fun w1 hb1 hu1 hs1 => ?_
  refine ptr_eq ?_
  have h1 : IsG w1 p v tags k n := ⟨h.blk.upd hu1 (by simp), h.s.upd hu1 (by simp)⟩
  refine fa ?_
  refine h1.ldf ?_
  refine stw hb1 rfl rfl rfl fun w2 hb2 hu2 hs2 => ?_
  refine rlw hb2 rfl ?_
  exact ⟨rfl, hu1.step hu2 (by simp)⟩
theorem alloc_c {w : World} {p : Nat} {v : Value} {tags : List Int} {k n : Int} (h : IsG w p v tags k n) (hl : tags.length ≤ 64) (i : Int) : Fn Try.prog 88 #[ptrV p, .int .i64 i] w fun _ w' =>
    IsG w' p v (gt tags k n i 0 1 1).2.1 (gt tags k n i 0 1 1).2.2.1 (gt tags k n i 0 1 1).2.2.2 ∧ Upd (p :: v.ownBlock.toList) w w' := by
  refine fn_enter Try.func88 rfl rfl ?_
  refine cl (turn_c h hl i 0 1 1) ?_
  rintro _ w1 ⟨rfl, hg, hu⟩
  exact ⟨hg, hu⟩
end Go.Proofs.Ytklbeipdigancaa

/- Contracts: the reference's configurations. -/
namespace Go.Proofs.Ytklbeipdigancaa
open Go.RowKit
attribute [local irreducible] Instr.loadAt Instr.storeAt Instr.fieldAt Instr.indexAt Instr.sliceAt Instr.buildSlice Instr.box Instr.alloc Builtin.append_ Builtin.len_ Builtin.min_ Builtin.max_ Calls Instr.build Instr.makeSlice binSem convert Instr.index Instr.range Instr.next
def allIn : Cf → Prop
  | ⟨A, T, N, L, B, P, S⟩ => within A 0 2 ∧ within T 1 6 ∧ within N 1 64 ∧ within L 1 6 ∧ within B 1 16 ∧ within P 1 16 ∧ within S 1 64
theorem rightC_iff (A T N L B P S : Int) : rightC ⟨A, T, N, L, B, P, S⟩ ↔ allIn ⟨A, T, N, L, B, P, S⟩ ∧ (A = 0 ∨ 3 ≤ N) := Iff.rfl
theorem fits_cf (c : Cf) : fitsK [.i .i64, .i .i64, .i .i64, .i .i64, .i .i64, .i .i64, .i .i64] (cf7 c).toList = true := by cases c; rfl
theorem eq_cf (c : Cf) : eqCells (cf7 c).toList (cf7 c).toList = true := eqCells_refl _ _ (fits_cf c)
def cfL : Cf → List Int
  | ⟨A, T, N, L, B, P, S⟩ => [A, T, N, L, B, P, S]
theorem cf_of {l : List Int} (h : Fits [.i64, .i64, .i64, .i64, .i64, .i64, .i64] l) : ∃ c : Cf, l = cfL c := by
  obtain ⟨hl, -⟩ := h
  match l, hl with
  | [A, T, N, L, B, P, S], _ => exact ⟨⟨A, T, N, L, B, P, S⟩, rfl⟩
theorem rsent_c (c : Cf) (w : World) : Fn Try.prog 20 #[.agg (cf7 c)] w fun r w' => r = .int .i64 (if c.A = 0 then 0 else 2) ∧ Upd [] w w' := by
  obtain ⟨A, T, N, L, B, P, S⟩ := c
  refine fn_enter Try.func20 rfl rfl ?_
  refine bx fun w1 hb1 hu1 hs1 => ?_
  refine fa ?_
  refine ldb hb1 rfl ?_
  refine cd (fun h => ?_) (fun h => ?_)
  · exact ⟨by rw [if_pos h]; rfl, hu1⟩
  · exact ⟨by rw [if_neg h]; rfl, hu1⟩

theorem rright_c (c : Cf) (w : World) : Fn Try.prog 5 #[.agg (cf7 c)] w fun r w' => r = .bool (decide (rightC c)) ∧ Upd [] w w' := by
  obtain ⟨A, T, N, L, B, P, S⟩ := c
  refine fn_enter Try.func5 rfl rfl ?_
  refine bx fun w1 hb1 hu1 hs1 => ?_
  refine fa ?_
  refine ldb hb1 rfl ?_
  refine cd (fun hA0 => by exact ⟨by rw [decide_eq_false (fun hh => by have hh := ((rightC_iff ..).1 hh).1; unfold allIn within at hh; omega)]; rfl, hu1⟩) (fun hA0 => ?_)
  refine fa ?_
  refine ldb hb1 rfl ?_
  refine cd (fun hA1 => by exact ⟨by rw [decide_eq_false (fun hh => by have hh := ((rightC_iff ..).1 hh).1; unfold allIn within at hh; omega)]; rfl, hu1⟩) (fun hA1 => ?_)
  refine fa ?_
  refine ldb hb1 rfl ?_
  refine cd (fun hT0 => by exact ⟨by rw [decide_eq_false (fun hh => by have hh := ((rightC_iff ..).1 hh).1; unfold allIn within at hh; omega)]; rfl, hu1⟩) (fun hT0 => ?_)
  refine fa ?_
  refine ldb hb1 rfl ?_
  refine cd (fun hT1 => by exact ⟨by rw [decide_eq_false (fun hh => by have hh := ((rightC_iff ..).1 hh).1; unfold allIn within at hh; omega)]; rfl, hu1⟩) (fun hT1 => ?_)
  refine fa ?_
  refine ldb hb1 rfl ?_
  refine cd (fun hN0 => by exact ⟨by rw [decide_eq_false (fun hh => by have hh := ((rightC_iff ..).1 hh).1; unfold allIn within at hh; omega)]; rfl, hu1⟩) (fun hN0 => ?_)
  refine fa ?_
  refine ldb hb1 rfl ?_
  refine cd (fun hN1 => by exact ⟨by rw [decide_eq_false (fun hh => by have hh := ((rightC_iff ..).1 hh).1; unfold allIn within at hh; omega)]; rfl, hu1⟩) (fun hN1 => ?_)
  refine fa ?_
  refine ldb hb1 rfl ?_
  refine cd (fun hL0 => by exact ⟨by rw [decide_eq_false (fun hh => by have hh := ((rightC_iff ..).1 hh).1; unfold allIn within at hh; omega)]; rfl, hu1⟩) (fun hL0 => ?_)
  refine fa ?_
  refine ldb hb1 rfl ?_
  refine cd (fun hL1 => by exact ⟨by rw [decide_eq_false (fun hh => by have hh := ((rightC_iff ..).1 hh).1; unfold allIn within at hh; omega)]; rfl, hu1⟩) (fun hL1 => ?_)
  refine fa ?_
  refine ldb hb1 rfl ?_
  refine cd (fun hB0 => by exact ⟨by rw [decide_eq_false (fun hh => by have hh := ((rightC_iff ..).1 hh).1; unfold allIn within at hh; omega)]; rfl, hu1⟩) (fun hB0 => ?_)
  refine fa ?_
  refine ldb hb1 rfl ?_
  refine cd (fun hB1 => by exact ⟨by rw [decide_eq_false (fun hh => by have hh := ((rightC_iff ..).1 hh).1; unfold allIn within at hh; omega)]; rfl, hu1⟩) (fun hB1 => ?_)
  refine fa ?_
  refine ldb hb1 rfl ?_
  refine cd (fun hP0 => by exact ⟨by rw [decide_eq_false (fun hh => by have hh := ((rightC_iff ..).1 hh).1; unfold allIn within at hh; omega)]; rfl, hu1⟩) (fun hP0 => ?_)
  refine fa ?_
  refine ldb hb1 rfl ?_
  refine cd (fun hP1 => by exact ⟨by rw [decide_eq_false (fun hh => by have hh := ((rightC_iff ..).1 hh).1; unfold allIn within at hh; omega)]; rfl, hu1⟩) (fun hP1 => ?_)
  refine fa ?_
  refine ldb hb1 rfl ?_
  refine cd (fun hS0 => by exact ⟨by rw [decide_eq_false (fun hh => by have hh := ((rightC_iff ..).1 hh).1; unfold allIn within at hh; omega)]; rfl, hu1⟩) (fun hS0 => ?_)
  refine fa ?_
  refine ldb hb1 rfl ?_
  refine cd (fun hS1 => by exact ⟨by rw [decide_eq_false (fun hh => by have hh := ((rightC_iff ..).1 hh).1; unfold allIn within at hh; omega)]; rfl, hu1⟩) (fun hS1 => ?_)
  refine draw_all (fun w' => Upd [] w1 w') (by decide +kernel) (Upd.refl _ _).drew ?_
  refine q_fa ?_
  refine q_ld (v := .int .i64 N) (fun w' hw' => (hb1.upd hw' (by simp)).cell 2) ?_
  refine rq (.agg #[.int .i64 A, .int .i64 T, .int .i64 N, .int .i64 L, .int .i64 B, .int .i64 P, .int .i64 S]) (fun w' hw' => ldw (hb1.upd hw' (by simp)) rfl ⟨rfl, rfl⟩) ?_
  refine q_cl (.int .i64 (if A = 0 then 0 else 2)) (fun w' hw' => (rsent_c ⟨A, T, N, L, B, P, S⟩ w').mono fun _ _ ⟨v, he, h1, h2⟩ => ⟨v, he, h1, hw'.trans h2⟩) ?_
  intro w2 hw2
  refine ⟨?_, hu1.trans hw2⟩
  refine congrArg Value.bool ?_
  by_cases hA : A = 0
  · rw [if_pos hA]
    have : rightC ⟨A, T, N, L, B, P, S⟩ := (rightC_iff ..).2 ⟨⟨by unfold within; omega, by unfold within; omega, by unfold within; omega, by unfold within; omega, by unfold within; omega, by unfold within; omega, by unfold within; omega⟩, .inl hA⟩
    rw [decide_eq_true this]
    simp; omega
  · rw [if_neg hA]
    by_cases hN : 3 ≤ N
    · have : rightC ⟨A, T, N, L, B, P, S⟩ := (rightC_iff ..).2 ⟨⟨by unfold within; omega, by unfold within; omega, by unfold within; omega, by unfold within; omega, by unfold within; omega, by unfold within; omega, by unfold within; omega⟩, .inr hN⟩
      rw [decide_eq_true this]
      simp; omega
    · have : ¬ rightC ⟨A, T, N, L, B, P, S⟩ := fun hh => by have := ((rightC_iff ..).1 hh).2; omega
      rw [decide_eq_false this]
      simp; omega

end Go.Proofs.Ytklbeipdigancaa

/- Contracts: a machine's ghosts. -/
namespace Go.Proofs.Ytklbeipdigancaa
open Go.RowKit
attribute [local irreducible] Instr.loadAt Instr.storeAt Instr.fieldAt Instr.indexAt Instr.sliceAt Instr.buildSlice Instr.box Instr.alloc Builtin.append_ Builtin.len_ Builtin.min_ Builtin.max_ Calls Instr.build Instr.makeSlice binSem convert Instr.index Instr.range Instr.next
section
variable {w0 w w' : World} {m mp fp l : Nat} {c : Cf} {v lv fv gv tv : Value} {s : MS} {draws : List Int} {ptrs : List Nat}
theorem ThrZ.keep {w w' : World} {g l : Nat} {id : Int} {S : List Nat} (h : ThrZ w g id l) (hS : ∀ g ∈ S, ∃ cs T, Blk w g T cs ∧ (T = 93 ∨ T = 3)) (hu : Upd S w w') : ThrZ w' g id l := by
  have nb : ∀ {g T : Nat} {cs : Array Value}, Blk w g T cs → T ≠ 93 → T ≠ 3 → g ∉ S := fun hb h1 h2 hm => by
    obtain ⟨cs', T', hb', hT⟩ := hS _ hm
    rcases hT with rfl | rfl
    · exact hb.ne_ hb' h1 rfl
    · exact hb.ne_ hb' h2 rfl
  have ns : ∀ {e n m : Nat} {x : Value} {xs : List Value}, Sl w e n x m xs → e ≠ 93 → e ≠ 3 → ∀ g, x.ownBlock = some g → g ∉ S := fun hs h1 h2 g hg hm => by
    obtain ⟨cs', T', hb', hT⟩ := hS _ hm
    rcases hT with rfl | rfl
    · exact hs.blk_ne hb' h1 hg
    · exact hs.blk_ne hb' h2 hg
  obtain ⟨pv, sv, wv, h1, h2, h3, h4, h5⟩ := h.h
  exact ⟨pv, sv, wv, h1.upd hu (nb h1 (by decide) (by decide)), h2.upd hu (ns h2 (by decide) (by decide)), h3.upd hu (ns h3 (by decide) (by decide)), h4.upd hu (ns h4 (by decide) (by decide)), h5⟩
/-- a ghost's deed: what the machine's other parts are -/
theorem MkI.deed {S : List Nat} {gs gs' : Option (Nat × Value × List Int × Int × Int)} (h : MkI w0 w m c mp v lv s fp fv draws gv gs tv ptrs l) (hS : ∀ g ∈ S, ∃ cs T, Blk w g T cs ∧ (T = 93 ∨ T = 3)) (hf : ∀ g ∈ S, w0.heap.size ≤ g) (hu : Upd S w w')
    (hg : match gs' with | none => gv = .pointer none | some (gp, v', tags, k, n) => gv = .pointer (some ⟨gp, 0, none⟩) ∧ IsG w' gp v' tags k n) (h4 : ∀ x, gs' = some x → w0.heap.size ≤ x.1 ∧ ∀ g, x.2.1.ownBlock = some g → w0.heap.size ≤ g) : MkI w0 w' m c mp v lv s fp fv draws gv gs' tv ptrs l := by
  have nb : ∀ {g T : Nat} {cs : Array Value}, Blk w g T cs → T ≠ 93 → T ≠ 3 → g ∉ S := fun hb h1 h2 hm => by
    obtain ⟨cs', T', hb', hT⟩ := hS _ hm
    rcases hT with rfl | rfl
    · exact hb.ne_ hb' h1 rfl
    · exact hb.ne_ hb' h2 rfl
  have ns : ∀ {e n m : Nat} {x : Value} {xs : List Value}, Sl w e n x m xs → e ≠ 93 → e ≠ 3 → ∀ g, x.ownBlock = some g → g ∉ S := fun hs h1 h2 g hg hm => by
    obtain ⟨cs', T', hb', hT⟩ := hS _ hm
    rcases hT with rfl | rfl
    · exact hs.blk_ne hb' h1 hg
    · exact hs.blk_ne hb' h2 hg
  refine ⟨h.blk.upd hu (nb h.blk (by decide) (by decide)), ⟨h.parts.mem.upd hu (fun k hk hm => ?_), ⟨h.parts.fd.blk.upd hu (nb h.parts.fd.blk (by decide) (by decide)), h.parts.fd.s.upd hu (ns h.parts.fd.s (by decide) (by decide))⟩, hg, fun i hi => (h.parts.ths i hi).keep hS hu⟩,
    h.ths.upd hu (ns h.ths (by decide) (by decide)), h.up.step hu (fun x hx => .inr (hf x hx)), h.f1, h.f2, h.f3, h4, h.f5, h.f6⟩
  obtain ⟨cs', T', hb', hT⟩ := hS _ hm
  rcases hT with rfl | rfl
  · exact h.parts.mem.off hb' (by decide) (by decide) (by decide) hk
  · exact h.parts.mem.off hb' (by decide) (by decide) (by decide) hk
theorem IsG.feet {w : World} {p : Nat} {v : Value} {tags : List Int} {k n : Int} (h : IsG w p v tags k n) : ∀ g ∈ p :: v.ownBlock.toList, ∃ cs T, Blk w g T cs ∧ (T = 93 ∨ T = 3) := by
  intro g hg
  rcases List.mem_cons.1 hg with rfl | hg
  · exact ⟨_, _, h.blk, .inl rfl⟩
  · obtain ⟨cs, hcs⟩ := sl_blk h.s (by simpa using hg)
    exact ⟨cs, _, hcs, .inr rfl⟩
theorem MkI.own {gp : Nat} {gv' : Value} {tags tags' : List Int} {k n k' n' : Int} (h : MkI w0 w m c mp v lv s fp fv draws gv (some (gp, gv', tags, k, n)) tv ptrs l) (hG : IsG w' gp gv' tags' k' n') (hu : Upd (gp :: gv'.ownBlock.toList) w w') : MkI w0 w' m c mp v lv s fp fv draws gv (some (gp, gv', tags', k', n')) tv ptrs l := by
  have h4 := h.f4 _ rfl
  refine h.deed h.parts.gh.2.feet (fun g hg => ?_) hu ⟨h.parts.gh.1, hG⟩ (fun x hx => by cases hx; exact h4)
  rcases List.mem_cons.1 hg with rfl | hg
  · exact h4.1
  · exact h4.2 g (by simpa using hg)
theorem MkI.upd0 {gs : Option (Nat × Value × List Int × Int × Int)} (h : MkI w0 w m c mp v lv s fp fv draws gv gs tv ptrs l) (hu : Upd [] w w') : MkI w0 w' m c mp v lv s fp fv draws gv gs tv ptrs l :=
  ⟨h.blk.upd hu (by simp), h.parts.upd (S := []) (by simp) hu, h.ths.upd hu (by simp), h.up.trans hu, h.f1, h.f2, h.f3, h.f4, h.f5, h.f6⟩
theorem watched_yes {gp : Nat} {gv' : Value} {tags : List Int} {k n : Int} (h : MkI w0 w m c mp v lv s fp fv draws gv (some (gp, gv', tags, k, n)) tv ptrs l) : Fn Try.prog 44 #[ptrV m] w fun r w' => r = .bool true ∧ w' = w := by
  have hg := h.parts.gh.1
  subst hg
  obtain ⟨A, T, N, L, B, P, S⟩ := c
  refine fn_enter Try.func44 rfl rfl ?_
  refine ptr_ne ?_
  refine fa ?_
  refine ldb h.blk rfl ?_
  refine ptr_ne ?_
  exact ⟨rfl, rfl⟩
theorem watched_no (h : MkI w0 w m c mp v lv s fp fv draws gv none tv ptrs l) : Fn Try.prog 44 #[ptrV m] w fun r w' => r = .bool false ∧ w' = w := by
  have hg : gv = .pointer none := h.parts.gh
  subst hg
  obtain ⟨A, T, N, L, B, P, S⟩ := c
  refine fn_enter Try.func44 rfl rfl ?_
  refine ptr_ne ?_
  refine fa ?_
  refine ldb h.blk rfl ?_
  refine ptr_ne0 ?_
  exact ⟨rfl, rfl⟩
theorem retire_c {w : World} {p : Nat} {v : Value} {tags : List Int} {k n : Int} (h : IsG w p v tags k n) (hl : tags.length ≤ 64) (i : Int) : Fn Try.prog 71 #[ptrV p, .int .i64 i] w fun _ w' =>
    IsG w' p v (gt tags k n i 1 2 2).2.1 (gt tags k n i 1 2 2).2.2.1 (gt tags k n i 1 2 2).2.2.2 ∧ Upd (p :: v.ownBlock.toList) w w' := by
  refine fn_enter Try.func71 rfl rfl ?_
  refine cl (turn_c h hl i 1 2 2) ?_
  rintro _ w1 ⟨rfl, hg, hu⟩
  exact ⟨hg, hu⟩
theorem release_c {w : World} {p : Nat} {v : Value} {tags : List Int} {k n : Int} (h : IsG w p v tags k n) (hl : tags.length ≤ 64) (i : Int) : Fn Try.prog 89 #[ptrV p, .int .i64 i] w fun _ w' =>
    IsG w' p v (gt tags k n i 2 0 3).2.1 (gt tags k n i 2 0 3).2.2.1 (gt tags k n i 2 0 3).2.2.2 ∧ Upd (p :: v.ownBlock.toList) w w' := by
  refine fn_enter Try.func89 rfl rfl ?_
  refine cl (turn_c h hl i 2 0 3) ?_
  rintro _ w1 ⟨rfl, hg, hu⟩
  exact ⟨hg, hu⟩
theorem took_yes {gp : Nat} {gv' : Value} {tags : List Int} {k n : Int} (h : MkI w0 w m c mp v lv s fp fv draws gv (some (gp, gv', tags, k, n)) tv ptrs l) (hl : tags.length ≤ 64) (i : Int) : Fn Try.prog 76 #[ptrV m, .int .i64 i] w fun _ w' =>
    MkI w0 w' m c mp v lv s fp fv draws gv (some (gp, gv', (gt tags k n i 0 1 1).2.1, (gt tags k n i 0 1 1).2.2.1, (gt tags k n i 0 1 1).2.2.2)) tv ptrs l ∧ Upd (gp :: gv'.ownBlock.toList) w w' := by
  refine fn_enter Try.func76 rfl rfl ?_
  refine cl (watched_yes h) ?_
  rintro _ _ ⟨rfl, rfl⟩
  have hg := h.parts.gh.1
  subst hg
  refine fa ?_
  refine ldb h.blk (by cases c; rfl) ?_
  refine cl (alloc_c h.parts.gh.2 hl i) ?_
  rintro _ w2 ⟨hg2, hu2⟩
  exact ⟨h.own hg2 hu2, hu2⟩
theorem took_no (h : MkI w0 w m c mp v lv s fp fv draws gv none tv ptrs l) (i : Int) : Fn Try.prog 76 #[ptrV m, .int .i64 i] w fun _ w' => w' = w := by
  refine fn_enter Try.func76 rfl rfl ?_
  refine cl (watched_no h) ?_
  rintro _ _ ⟨rfl, rfl⟩
  rfl
theorem gone_yes {gp : Nat} {gv' : Value} {tags : List Int} {k n : Int} (h : MkI w0 w m c mp v lv s fp fv draws gv (some (gp, gv', tags, k, n)) tv ptrs l) (hl : tags.length ≤ 64) (i : Int) : Fn Try.prog 57 #[ptrV m, .int .i64 i] w fun _ w' =>
    MkI w0 w' m c mp v lv s fp fv draws gv (some (gp, gv', (gt tags k n i 1 2 2).2.1, (gt tags k n i 1 2 2).2.2.1, (gt tags k n i 1 2 2).2.2.2)) tv ptrs l ∧ Upd (gp :: gv'.ownBlock.toList) w w' := by
  refine fn_enter Try.func57 rfl rfl ?_
  refine cl (watched_yes h) ?_
  rintro _ _ ⟨rfl, rfl⟩
  have hg := h.parts.gh.1
  subst hg
  refine fa ?_
  refine ldb h.blk (by cases c; rfl) ?_
  refine cl (retire_c h.parts.gh.2 hl i) ?_
  rintro _ w2 ⟨hg2, hu2⟩
  exact ⟨h.own hg2 hu2, hu2⟩
theorem gone_no (h : MkI w0 w m c mp v lv s fp fv draws gv none tv ptrs l) (i : Int) : Fn Try.prog 57 #[ptrV m, .int .i64 i] w fun _ w' => w' = w := by
  refine fn_enter Try.func57 rfl rfl ?_
  refine cl (watched_no h) ?_
  rintro _ _ ⟨rfl, rfl⟩
  rfl
theorem freed_yes {gp : Nat} {gv' : Value} {tags : List Int} {k n : Int} (h : MkI w0 w m c mp v lv s fp fv draws gv (some (gp, gv', tags, k, n)) tv ptrs l) (hl : tags.length ≤ 64) (i : Int) : Fn Try.prog 77 #[ptrV m, .int .i64 i] w fun _ w' =>
    MkI w0 w' m c mp v lv s fp fv draws gv (some (gp, gv', (gt tags k n i 2 0 3).2.1, (gt tags k n i 2 0 3).2.2.1, (gt tags k n i 2 0 3).2.2.2)) tv ptrs l ∧ Upd (gp :: gv'.ownBlock.toList) w w' := by
  refine fn_enter Try.func77 rfl rfl ?_
  refine cl (watched_yes h) ?_
  rintro _ _ ⟨rfl, rfl⟩
  have hg := h.parts.gh.1
  subst hg
  refine fa ?_
  refine ldb h.blk (by cases c; rfl) ?_
  refine cl (release_c h.parts.gh.2 hl i) ?_
  rintro _ w2 ⟨hg2, hu2⟩
  exact ⟨h.own hg2 hu2, hu2⟩
theorem freed_no (h : MkI w0 w m c mp v lv s fp fv draws gv none tv ptrs l) (i : Int) : Fn Try.prog 77 #[ptrV m, .int .i64 i] w fun _ w' => w' = w := by
  refine fn_enter Try.func77 rfl rfl ?_
  refine cl (watched_no h) ?_
  rintro _ _ ⟨rfl, rfl⟩
  rfl
theorem ghost_c {gs : Option (Nat × Value × List Int × Int × Int)} (h : MkI w0 w m c mp v lv s fp fv draws gv gs tv ptrs l) : Fn Try.prog 16 #[ptrV m] w fun r w' => r = gv ∧ w' = w := by
  refine fn_enter Try.func16 rfl rfl ?_
  refine ptr_eq ?_
  refine fa ?_
  refine ldb h.blk (v := gv) (by cases c; rfl) ?_
  exact ⟨rfl, rfl⟩
theorem fault_yes {gp : Nat} {gv' : Value} {tags : List Int} {k n : Int} (h : MkI w0 w m c mp v lv s fp fv draws gv (some (gp, gv', tags, k, n)) tv ptrs l) : Fn Try.prog 18 #[ptrV m] w fun r w' => r = .bool (decide (¬ (k = 0 ∧ n = 0))) ∧ Upd [] w w' := by
  refine fn_enter Try.func18 rfl rfl ?_
  refine ptr_ne ?_
  refine fa ?_
  refine ldb h.blk (v := .bool false) (by cases c; rfl) ?_
  refine cl (watched_yes h) ?_
  rintro _ _ ⟨rfl, rfl⟩
  have hg := h.parts.gh.1
  subst hg
  refine fa ?_
  refine ldb h.blk (v := ptrV gp) (by cases c; rfl) ?_
  refine cl (first_c h.parts.gh.2) ?_
  rintro _ w2 ⟨rfl, hu2⟩
  refine bd #[.int .i64 0, .int .i64 0] (fun _ => by kernel_rfl) ?_
  refine fne (decide (¬ (k = 0 ∧ n = 0))) decide_eq_true_iff ?_
  exact ⟨rfl, hu2⟩
theorem fault_no (h : MkI w0 w m c mp v lv s fp fv draws gv none tv ptrs l) : Fn Try.prog 18 #[ptrV m] w fun r w' => r = .bool false ∧ w' = w := by
  refine fn_enter Try.func18 rfl rfl ?_
  refine ptr_ne ?_
  refine fa ?_
  refine ldb h.blk (v := .bool false) (by cases c; rfl) ?_
  refine cl (watched_no h) ?_
  rintro _ _ ⟨rfl, rfl⟩
  exact ⟨rfl, rfl⟩
end
end Go.Proofs.Ytklbeipdigancaa

/- The law CoreTags. -/
namespace Go.Proofs.Ytklbeipdigancaa
open Go.RowKit
attribute [local irreducible] Instr.loadAt Instr.storeAt Instr.fieldAt Instr.indexAt Instr.sliceAt Instr.buildSlice Instr.box Instr.alloc Builtin.append_ Builtin.len_ Builtin.min_ Builtin.max_ Calls Instr.build Instr.makeSlice binSem convert Instr.index Instr.range Instr.next
theorem gt_len (tags : List Int) (k n i a b d : Int) : (gt tags k n i a b d).2.1.length = tags.length := by
  unfold gt
  split
  · rfl
  · split
    · simp
    · rfl
theorem MkI.rebase {w w0 w' : World} {m mp fp l : Nat} {c : Cf} {v lv fv gv tv : Value} {s : MS} {draws : List Int} {ptrs : List Nat} {gs : Option (Nat × Value × List Int × Int × Int)} (h : MkI w0 w' m c mp v lv s fp fv draws gv gs tv ptrs l) (hu : Upd [] w w0) : MkI w w' m c mp v lv s fp fv draws gv gs tv ptrs l := by
  have hz := hu.size
  exact ⟨h.blk, h.parts, h.ths, hu.trans h.up, by have := h.f1; omega, fun k hk => by have := h.f2 k hk; omega, fun g hg => by have := h.f3 g hg; omega, fun x hx => ⟨by have := (h.f4 x hx).1; omega, fun g hg => by have := (h.f4 x hx).2 g hg; omega⟩, fun g hg => by have := h.f5 g hg; omega, ⟨by have := h.f6.1; omega, fun g hg => by have := h.f6.2 g hg; omega⟩⟩
structure MA where
  (m mp fp l : Nat)
  (v lv fv tv : Value)
  s : MS
  ptrs : List Nat
structure TagI (w w' : World) (g B : Nat) (c : Cf) (x y : MA) (gp : Nat) (gv : Value) (p3 : Nat) (v3 : Value) (tags : List Int) (k n : Int) : Prop where
  m1 : MkI w w' x.m c x.mp x.v x.lv x.s x.fp x.fv [] (ptrV gp) (some (gp, gv, tags, k, n)) x.tv x.ptrs x.l
  m2 : MkI w w' y.m c y.mp y.v y.lv y.s y.fp y.fv [] (.pointer none) none y.tv y.ptrs y.l
  g3 : IsG w' p3 v3 tags k n
  box : Blk w' g 23 (cf7 c)
  len : tags.length ≤ 64
  lt1 : gp < B ∧ ∀ q, gv.ownBlock = some q → q < B
  ge3 : B ≤ p3 ∧ ∀ q, v3.ownBlock = some q → B ≤ q
  B0 : w.heap.size ≤ B
theorem TagI.upd0 {w w' w'' : World} {g B : Nat} {c : Cf} {x y : MA} {gp : Nat} {gv : Value} {p3 : Nat} {v3 : Value} {tags : List Int} {k n : Int} (h : TagI w w' g B c x y gp gv p3 v3 tags k n) (hu : Upd [] w' w'') : TagI w w'' g B c x y gp gv p3 v3 tags k n :=
  ⟨h.m1.upd0 hu, h.m2.upd0 hu, ⟨h.g3.blk.upd hu (by simp), h.g3.s.upd hu (by simp)⟩, h.box.upd hu (by simp), h.len, h.lt1, h.ge3, h.B0⟩
theorem TagI.g3_ {w w' w1 : World} {g B : Nat} {c : Cf} {x y : MA} {gp : Nat} {gv : Value} {p3 : Nat} {v3 : Value} {tags : List Int} {k n : Int} (h : TagI w w' g B c x y gp gv p3 v3 tags k n) (hu : Upd (gp :: gv.ownBlock.toList) w' w1) : IsG w1 p3 v3 tags k n := by
  have no : ∀ q, B ≤ q → q ∉ gp :: gv.ownBlock.toList := fun q hq hm => by
    rcases List.mem_cons.1 hm with h1 | h1
    · have := h.lt1.1; omega
    · have := h.lt1.2 q (by simpa using h1); omega
  exact ⟨h.g3.blk.upd hu (no _ h.ge3.1), h.g3.s.upd hu (fun q hq => no _ (h.ge3.2 q hq))⟩
theorem box_keep {w w' : World} {g : Nat} {c : Cf} {S : List Nat} (h : Blk w g 23 (cf7 c)) (hS : ∀ g ∈ S, ∃ cs T, Blk w g T cs ∧ (T = 93 ∨ T = 3)) (hu : Upd S w w') : Blk w' g 23 (cf7 c) :=
  h.upd hu fun hm => by
    obtain ⟨cs', T', hb', hT⟩ := hS _ hm
    rcases hT with rfl | rfl
    · exact h.ne_ hb' (by decide) rfl
    · exact h.ne_ hb' (by decide) rfl
theorem TagI.both {w w' w1 w2 : World} {g B : Nat} {c : Cf} {x y : MA} {gp : Nat} {gv : Value} {p3 : Nat} {v3 : Value} {tags tags' : List Int} {k n k' n' : Int} (h : TagI w w' g B c x y gp gv p3 v3 tags k n)
    (hm1 : MkI w w1 x.m c x.mp x.v x.lv x.s x.fp x.fv [] (ptrV gp) (some (gp, gv, tags', k', n')) x.tv x.ptrs x.l) (hu1 : Upd (gp :: gv.ownBlock.toList) w' w1) (hg3 : IsG w2 p3 v3 tags' k' n') (hu2 : Upd (p3 :: v3.ownBlock.toList) w1 w2) (hl : tags'.length = tags.length) :
    TagI w w2 g B c x y gp gv p3 v3 tags' k' n' := by
  have f1 := h.m1.parts.gh.2.feet
  have f3 := (h.g3_ hu1).feet
  have e1 := h.m1.f4 _ rfl
  have hf1 : ∀ q ∈ gp :: gv.ownBlock.toList, w.heap.size ≤ q := fun q hq => by
    rcases List.mem_cons.1 hq with h1 | h1
    · rw [h1]; exact e1.1
    · exact e1.2 q (by simpa using h1)
  have hf3 : ∀ q ∈ p3 :: v3.ownBlock.toList, w.heap.size ≤ q := fun q hq => by
    have := h.B0
    rcases List.mem_cons.1 hq with h1 | h1
    · have := h.ge3.1; omega
    · have := h.ge3.2 q (by simpa using h1); omega
  have no : ∀ q, q < B → q ∉ p3 :: v3.ownBlock.toList := fun q hq hm => by
    rcases List.mem_cons.1 hm with h1 | h1
    · have := h.ge3.1; omega
    · have := h.ge3.2 q (by simpa using h1); omega
  have m2' := h.m2.deed (gs' := none) f1 hf1 hu1 rfl (fun x hx => by cases hx)
  have hG := hm1.parts.gh.2
  exact ⟨hm1.deed (gs' := some (gp, gv, tags', k', n')) f3 hf3 hu2 ⟨rfl, hG.blk.upd hu2 (no _ h.lt1.1), hG.s.upd hu2 (fun q hq => no _ (h.lt1.2 q hq))⟩ (fun x hx => by cases hx; exact e1),
    m2'.deed (gs' := none) f3 hf3 hu2 rfl (fun x hx => by cases hx), hg3, box_keep (box_keep h.box f1 hu1) f3 hu2, by have := h.len; omega, h.lt1, h.ge3, h.B0⟩
end Go.Proofs.Ytklbeipdigancaa

/- Contracts: what a machine tells of its parts (for CoreBegins). -/
namespace Go.Proofs.Ytklbeipdigancaa
open Go.RowKit
attribute [local irreducible] Instr.loadAt Instr.storeAt Instr.fieldAt Instr.indexAt Instr.sliceAt Instr.buildSlice Instr.box Instr.alloc Builtin.append_ Builtin.len_ Builtin.min_ Builtin.max_ Calls Instr.build Instr.makeSlice binSem convert Instr.index Instr.range Instr.next
theorem ldplan {K' : Value → World → Prop} {w : World} {g T : Nat} {c : Cf} {mp gv fp tv : Value} {a b : Bool} (hb : Blk w g T (machC c mp gv fp tv a b)) (k : K' (.agg (planC c)) w) : RunP Try.prog (Instr.loadAt TP (.pointer (some ⟨g, 0 + 0, none⟩))) K' w := by
  refine lda (planC c).toList (planC_len c) (fun j x hj => ?_) (by simpa using k)
  have hlt : j < 15 := by
    rcases Nat.lt_or_ge j 15 with h | h
    · exact h
    · rw [List.getElem?_eq_none (by rw [planC_len]; exact h)] at hj; cases hj
  rw [hb.cell, ← Array.getElem?_toList, show 0 + 0 + j = j by omega]
  obtain ⟨A, T, N, L, B, P, S⟩ := c
  have e : (machC ⟨A, T, N, L, B, P, S⟩ mp gv fp tv a b).toList = (planC ⟨A, T, N, L, B, P, S⟩).toList ++ [mp, gv, fp, tv, .bool a, .bool b] := rfl
  rw [e, List.getElem?_append_left (by show j < 15; exact hlt)]
  exact hj
section
variable {w0 w w' : World} {m mp fp l : Nat} {c : Cf} {v lv fv gv tv : Value} {s : MS} {draws : List Int} {ptrs : List Nat} {gs : Option (Nat × Value × List Int × Int × Int)}
theorem plan_m (h : MkI w0 w m c mp v lv s fp fv draws gv gs tv ptrs l) : Fn Try.prog 19 #[ptrV m] w fun r w' => r = .agg (planC c) ∧ Upd [] w w' := by
  refine fn_enter Try.func19 rfl rfl ?_
  refine al z15 (fun _ => by kernel_rfl) fun w1 hb1 hu1 hs1 => ?_
  refine ptr_eq ?_
  have hb := h.blk.upd hu1 (by simp)
  refine fa ?_
  refine ldplan hb ?_
  refine stw hb1 rfl (planC_len c) (planC_one c) fun w2 hb2 hu2 hs2 => ?_
  refine rlw hb2 (planC_len c) ?_
  exact ⟨rfl, hu1.step hu2 (by simp)⟩
theorem thread_none (h : MkI w0 w m c mp v lv s fp fv draws gv gs tv ptrs l) (i : Int) (hi : i < 0 ∨ (ptrs.length : Int) ≤ i) : Fn Try.prog 8 #[ptrV m, .int .i64 i] w fun r w' => r = .pointer none ∧ w' = w := by
  obtain ⟨ta, tc, rfl, -⟩ := h.ths.form
  refine fn_enter Try.func8 rfl rfl ?_
  refine ptr_eq ?_
  by_cases h1 : i < 0
  · refine cY h1 ?_
    exact ⟨rfl, rfl⟩
  refine cN h1 ?_
  refine fa ?_
  refine ldb h.blk (v := .slice ta ptrs.length tc) (by cases c; rfl) ?_
  refine len_sl ?_
  refine cY (p := i ≥ (ptrs.length : Int)) (by omega) ?_
  exact ⟨rfl, rfl⟩
theorem thread_c (h : MkI w0 w m c mp v lv s fp fv draws gv gs tv ptrs l) (i : Nat) (hi : i < ptrs.length) (hl : ptrs.length ≤ 100) : Fn Try.prog 8 #[ptrV m, .int .i64 (i : Int)] w fun r w' => r = ptrV (ptrs.getD i 0) ∧ w' = w := by
  obtain ⟨tb, to, tc, rfl, -⟩ := h.ths.some_ (by omega)
  refine fn_enter Try.func8 rfl rfl ?_
  refine ptr_eq ?_
  refine fa ?_
  refine ldb h.blk (v := .slice (some ⟨tb, to, none⟩) ptrs.length tc) (by cases c; rfl) ?_
  refine len_sl ?_
  refine cN (p := (i : Int) ≥ (ptrs.length : Int)) (by omega) ?_
  refine fa ?_
  refine ldb h.blk (v := .slice (some ⟨tb, to, none⟩) ptrs.length tc) (by cases c; rfl) ?_
  refine ix i rfl hi ?_
  refine ld (v := ptrV (ptrs.getD i 0)) (by rw [Nat.mul_one, (h.ths.cells rfl i (by omega)).1]; simp [List.getD, hi]) ?_
  exact ⟨rfl, rfl⟩
end
def manyL (l : List Int) (x : Int) : Nat := (l.filter fun y => decide (y = x)).length
theorem manyL_take (l : List Int) (x : Int) (i : Nat) (h : i < l.length) : manyL (l.take (i + 1)) x = manyL (l.take i) x + if l.getD i 0 = x then 1 else 0 := by
  unfold manyL
  rw [getD_take l i h, List.filter_append, List.length_append]
  congr 1
  by_cases hx : l.getD i 0 = x
  · rw [if_pos hx]; simp only [List.filter_cons, List.filter_nil, decide_eq_true hx, if_true]; rfl
  · rw [if_neg hx]; simp only [List.filter_cons, List.filter_nil, decide_eq_false hx]; rfl
theorem manyL_le (l : List Int) (x : Int) : manyL l x ≤ l.length := List.length_filter_le _ _
theorem count_g {w : World} {p : Nat} {v : Value} {tags : List Int} {k n : Int} (h : IsG w p v tags k n) (hl : tags.length ≤ 64) (x : Int) : Fn Try.prog 27 #[ptrV p, .int .i64 x] w fun r w' => r = .int .i64 (manyL tags x : Int) ∧ w' = w := by
  obtain ⟨va, vc, rfl, -⟩ := h.s.form
  refine fn_enter Try.func27 rfl rfl ?_
  refine ptr_eq ?_
  refine fa ?_
  refine ldb h.blk rfl ?_
  refine len_sl ?_
  refine loop_rule [1, 13, 14] [5, 15] (fun vs w' m => ∃ i : Nat, vs = [.int .i64 (manyL (tags.take i) x : Int), .int .i64 (i : Int)] ∧ i ≤ tags.length ∧ m = tags.length - i ∧ w' = w) rfl [.int .i64 0, .int .i64 0] tags.length rfl ⟨0, rfl, by omega, rfl, rfl⟩ ?_
  rintro _ _ m ⟨i, rfl, hi, rfl, rfl⟩
  refine cd (fun hlt => ?_) (fun hlt => ?_)
  · have hlt : i < tags.length := by omega
    obtain ⟨vb, vo, vc', he, -⟩ := h.s.some_ (by omega)
    cases he
    have ht := manyL_take tags x i hlt
    have hle := manyL_le (tags.take i) x
    rw [List.length_take] at hle
    refine ix i rfl hlt ?_
    refine ld (v := .int .i64 (tags.getD i 0)) (by rw [Nat.mul_one, (h.s.cells rfl i (by omega)).1]; exact map_getD hlt) ?_
    refine cd (fun hx => ?_) (fun hx => ?_)
    · rw [if_pos hx] at ht
      refine ar64 (by omega) ?_
      refine ar64 (by omega) ?_
      exact round_mk [.int .i64 (manyL (tags.take (i + 1)) x : Int), .int .i64 ((i + 1 : Nat) : Int)] (tags.length - (i + 1)) rfl (by rw [ht]; rfl) ⟨i + 1, rfl, by omega, rfl, rfl⟩ (by omega)
    · rw [if_neg hx, Nat.add_zero] at ht
      refine ar64 (by omega) ?_
      exact round_mk [.int .i64 (manyL (tags.take (i + 1)) x : Int), .int .i64 ((i + 1 : Nat) : Int)] (tags.length - (i + 1)) rfl (by rw [ht]; rfl) ⟨i + 1, rfl, by omega, rfl, rfl⟩ (by omega)
  · have hi : i = tags.length := by omega
    subst hi
    rw [List.take_length]
    exact ⟨rfl, rfl⟩
end Go.Proofs.Ytklbeipdigancaa

/- Contracts: all places (the reference's All). -/
namespace Go.Proofs.Ytklbeipdigancaa
open Go.RowKit
attribute [local irreducible] Instr.loadAt Instr.storeAt Instr.fieldAt Instr.indexAt Instr.sliceAt Instr.buildSlice Instr.box Instr.alloc Builtin.append_ Builtin.len_ Builtin.min_ Builtin.max_ Calls Instr.build Instr.makeSlice binSem convert Instr.index Instr.range Instr.next
abbrev TPl : Nat := 0
structure AI (w w' : World) (g : Nat) (c : Cf) (v : Value) (L : List Sp) : Prop where
  s : Sl w' TPl 3 v L.length (L.flatMap cellS)
  f : ∀ q, v.ownBlock = some q → w.heap.size ≤ q
  up : Upd [] w w'
  box : Blk w' g 23 (cf7 c)
theorem AI.upd0 {w w1 w2 : World} {g : Nat} {c : Cf} {v : Value} {L : List Sp} (h : AI w w1 g c v L) (hu : Upd [] w1 w2) : AI w w2 g c v L := ⟨h.s.upd hu (by simp), h.f, h.up.trans hu, h.box.upd hu (by simp)⟩
theorem AI.add {w w1 w2 w3 : World} {g : Nat} {c : Cf} {v v' : Value} {L : List Sp} (h : AI w w1 g c v L) (x : Sp) (hu : Upd [] w1 w2) (hG : Grow w2 w3 v v') (hs : Sl w3 TPl 3 v' (L.length + 1) (L.flatMap cellS ++ (cellS x).toArray.toList)) : AI w w3 g c v' (L ++ [x]) := by
  refine ⟨?_, fun q hq => ?_, (h.up.trans hu).step hG.up (fun q hq => .inr (h.f q (by simpa using hq))), hG.blk (h.box.upd hu (by simp)) ((h.s.upd hu (by simp)).blk_ne (h.box.upd hu (by simp)) (by decide))⟩
  · rw [List.length_append, List.flatMap_append]
    simpa using hs
  · rcases hG.own q hq with h1 | h1
    · exact h.f q h1
    · have := h.up.size; have := hu.size; omega
def glP (i : Nat) : List Sp := (List.range i).map fun (j : Nat) => (0, (j : Int), 0)
def hzR (t : Int) (s : Nat) : List Sp := (List.range s).map fun (j : Nat) => (1, t, (j : Int))
def hzP (sl t : Nat) : List Sp := (List.range t).flatMap fun (k : Nat) => hzR k sl
def lkP (n : Nat) : List Sp := (List.range n).map fun (j : Nat) => (2, ((j + 1 : Nat) : Int), 0)
def ndR (n : Int) (f : Nat) : List Sp := (List.range f).map fun (j : Nat) => (3, n, (j : Int))
def ndP (wd n : Nat) : List Sp := (List.range n).flatMap fun (k : Nat) => ndR ((k + 1 : Nat) : Int) wd
def trP (n : Nat) : List Sp := (List.range n).map fun (j : Nat) => (4, (j : Int), 0)
theorem glP_s (i : Nat) : glP (i + 1) = glP i ++ [(0, (i : Int), 0)] := by simp [glP, List.range_succ]
theorem hzR_s (t : Int) (s : Nat) : hzR t (s + 1) = hzR t s ++ [(1, t, (s : Int))] := by simp [hzR, List.range_succ]
theorem hzP_s (sl t : Nat) : hzP sl (t + 1) = hzP sl t ++ hzR t sl := by simp [hzP, List.range_succ]
theorem lkP_s (n : Nat) : lkP (n + 1) = lkP n ++ [(2, ((n + 1 : Nat) : Int), 0)] := by simp [lkP, List.range_succ]
theorem ndR_s (n : Int) (f : Nat) : ndR n (f + 1) = ndR n f ++ [(3, n, (f : Int))] := by simp [ndR, List.range_succ]
theorem ndP_s (wd n : Nat) : ndP wd (n + 1) = ndP wd n ++ ndR ((n + 1 : Nat) : Int) wd := by simp [ndP, List.range_succ]
theorem trP_s (n : Nat) : trP (n + 1) = trP n ++ [(4, (n : Int), 0)] := by simp [trP, List.range_succ]
theorem glP_l (i : Nat) : (glP i).length = i := by simp [glP]
theorem hzR_l (t : Int) (s : Nat) : (hzR t s).length = s := by simp [hzR]
theorem hzP_l (sl : Nat) : ∀ t, (hzP sl t).length = t * sl
  | 0 => by simp [hzP]
  | t + 1 => by rw [hzP_s, List.length_append, hzP_l sl t, hzR_l, Nat.add_mul, Nat.one_mul]
theorem lkP_l (n : Nat) : (lkP n).length = n := by simp [lkP]
theorem ndR_l (n : Int) (f : Nat) : (ndR n f).length = f := by simp [ndR]
theorem ndP_l (wd : Nat) : ∀ n, (ndP wd n).length = n * wd
  | 0 => by simp [ndP]
  | n + 1 => by rw [ndP_s, List.length_append, ndP_l wd n, ndR_l, Nat.add_mul, Nat.one_mul]
theorem trP_l (n : Nat) : (trP n).length = n := by simp [trP]
def allP (A T N L : Int) : List Sp := glP 8 ++ hzP (slotsP A L).toNat T.toNat ++ lkP N.toNat ++ ndP (widthP A L).toNat N.toNat ++ trP (nthP A L).toNat
end Go.Proofs.Ytklbeipdigancaa

/- All places, one by one; the words as they are at first. -/
namespace Go.Proofs.Ytklbeipdigancaa
open Go.RowKit
attribute [local irreducible] Instr.loadAt Instr.storeAt Instr.fieldAt Instr.indexAt Instr.sliceAt Instr.buildSlice Instr.box Instr.alloc Builtin.append_ Builtin.len_ Builtin.min_ Builtin.max_ Calls Instr.build Instr.makeSlice binSem convert Instr.index Instr.range Instr.next
theorem hzP_at (sl : Nat) : ∀ (t j : Nat), j < t * sl → (hzP sl t)[j]? = some (1, ((j / sl : Nat) : Int), ((j % sl : Nat) : Int))
  | 0, j, h => absurd h (by omega)
  | t + 1, j, h => by
    rw [hzP_s]
    by_cases hj : j < t * sl
    · rw [List.getElem?_append_left (by rw [hzP_l]; exact hj), hzP_at sl t j hj]
    · rw [List.getElem?_append_right (by rw [hzP_l]; omega), hzP_l]
      rw [Nat.add_mul, Nat.one_mul] at h
      have e1 : j / sl = t := by
        rw [Nat.div_eq_of_lt_le]
        · rw [Nat.mul_comm] at hj; rw [Nat.mul_comm]; omega
        · rw [Nat.succ_mul]; omega
      have e2 : j % sl = j - t * sl := by
        have := Nat.div_add_mod j sl
        rw [e1, Nat.mul_comm] at this; omega
      rw [e1, e2]
      simp only [hzR, List.getElem?_map, List.getElem?_range (by omega : j - t * sl < sl), Option.map_some]
theorem ndP_at (wd : Nat) : ∀ (n j : Nat), j < n * wd → (ndP wd n)[j]? = some (3, ((j / wd + 1 : Nat) : Int), ((j % wd : Nat) : Int))
  | 0, j, h => absurd h (by omega)
  | t + 1, j, h => by
    rw [ndP_s]
    by_cases hj : j < t * wd
    · rw [List.getElem?_append_left (by rw [ndP_l]; exact hj), ndP_at wd t j hj]
    · rw [List.getElem?_append_right (by rw [ndP_l]; omega), ndP_l]
      rw [Nat.add_mul, Nat.one_mul] at h
      have e1 : j / wd = t := by
        rw [Nat.div_eq_of_lt_le]
        · rw [Nat.mul_comm] at hj; rw [Nat.mul_comm]; omega
        · rw [Nat.succ_mul]; omega
      have e2 : j % wd = j - t * wd := by
        have := Nat.div_add_mod j wd
        rw [e1, Nat.mul_comm] at this; omega
      rw [e1, e2]
      simp only [ndR, List.getElem?_map, List.getElem?_range (by omega : j - t * wd < wd), Option.map_some]
def spAt (sl wd lk nd tr j : Nat) : Sp :=
  if j < 8 then (0, (j : Int), 0) else if j < lk then (1, (((j - 8) / sl : Nat) : Int), (((j - 8) % sl : Nat) : Int))
  else if j < nd then (2, ((j - lk + 1 : Nat) : Int), 0) else if j < tr then (3, (((j - nd) / wd + 1 : Nat) : Int), (((j - nd) % wd : Nat) : Int)) else (4, ((j - tr : Nat) : Int), 0)
theorem cat_at (t n sl wd nt j : Nat) (h : j < 8 + t * sl + n + n * wd + nt) : (glP 8 ++ hzP sl t ++ lkP n ++ ndP wd n ++ trP nt)[j]? = some (spAt sl wd (8 + t * sl) (8 + t * sl + n) (8 + t * sl + n + n * wd) j) := by
  have l1 : (glP 8).length = 8 := glP_l 8
  have l2 : (glP 8 ++ hzP sl t).length = 8 + t * sl := by rw [List.length_append, glP_l, hzP_l]
  have l3 : (glP 8 ++ hzP sl t ++ lkP n).length = 8 + t * sl + n := by rw [List.length_append, l2, lkP_l]
  have l4 : (glP 8 ++ hzP sl t ++ lkP n ++ ndP wd n).length = 8 + t * sl + n + n * wd := by rw [List.length_append, l3, ndP_l]
  unfold spAt
  by_cases h1 : j < 8
  · rw [if_pos h1, List.getElem?_append_left (by omega), List.getElem?_append_left (by omega), List.getElem?_append_left (by omega), List.getElem?_append_left (by omega)]
    simp only [glP, List.getElem?_map, List.getElem?_range h1, Option.map_some]
  rw [if_neg h1]
  by_cases h2 : j < 8 + t * sl
  · rw [if_pos h2, List.getElem?_append_left (by omega), List.getElem?_append_left (by omega), List.getElem?_append_left (by omega), List.getElem?_append_right (by omega), l1]
    exact hzP_at sl t (j - 8) (by omega)
  rw [if_neg h2]
  by_cases h3 : j < 8 + t * sl + n
  · rw [if_pos h3, List.getElem?_append_left (by omega), List.getElem?_append_left (by omega), List.getElem?_append_right (by omega), l2]
    simp only [lkP, List.getElem?_map, List.getElem?_range (by omega : j - (8 + t * sl) < n), Option.map_some]
  rw [if_neg h3]
  by_cases h4 : j < 8 + t * sl + n + n * wd
  · rw [if_pos h4, List.getElem?_append_left (by omega), List.getElem?_append_right (by omega), l3]
    exact ndP_at wd n _ (by omega)
  rw [if_neg h4, List.getElem?_append_right (by omega), l4]
  simp only [trP, List.getElem?_map, List.getElem?_range (by omega : j - (8 + t * sl + n + n * wd) < nt), Option.map_some]
/-- the numbers of a plan, as naturals -/
structure Nums (A T N L : Int) (t n l sl wd nt se : Nat) : Prop where
  eT : T = t
  eN : N = n
  eL : L = l
  sl_ : slotsP A L = sl
  wd_ : widthP A L = wd
  nt_ : nthP A L = nt
  se_ : sentP A = se
  lk_ : linksP A T L = ((8 + t * sl : Nat) : Int)
  nd_ : nodesP A T N L = ((8 + t * sl + n : Nat) : Int)
  tr_ : treeP A T N L = ((8 + t * sl + n + n * wd : Nat) : Int)
  sz_ : sizeP A T N L = ((8 + t * sl + n + n * wd + nt : Nat) : Int)
  all_ : allP A T N L = glP 8 ++ hzP sl t ++ lkP n ++ ndP wd n ++ trP nt
  b1 : 2 ≤ sl ∧ sl ≤ 14
  b2 : 3 ≤ wd ∧ wd ≤ 11
  b3 : se < n ∧ se ≤ 2
  b4 : 1 ≤ t ∧ t ≤ 6
  b5 : 1 ≤ n ∧ n ≤ 64
  b6 : 1 ≤ l ∧ l ≤ 6
  b7 : 8 + t * sl + n + n * wd + nt ≤ 924
  bA : A ≠ 0 → wd = 5 + l ∧ se = 2
  bA0 : A = 0 → se = 0
theorem nums {A T N L B P S : Int} (hr : rightC ⟨A, T, N, L, B, P, S⟩) : ∃ t n l sl wd nt se, Nums A T N L t n l sl wd nt se := by
  obtain ⟨b1, b2, b3, b4, b5, b6, b7, b8, b9, b10, b11, b12⟩ := plan_bd hr
  have e4 : sizeP A T N L = treeP A T N L + nthP A L := rfl
  obtain ⟨t, rfl⟩ := Int.eq_ofNat_of_zero_le (show 0 ≤ T by omega)
  obtain ⟨n, rfl⟩ := Int.eq_ofNat_of_zero_le (show 0 ≤ N by omega)
  obtain ⟨l, rfl⟩ := Int.eq_ofNat_of_zero_le (show 0 ≤ L by omega)
  obtain ⟨sl, hsl⟩ := Int.eq_ofNat_of_zero_le (show 0 ≤ slotsP A l by omega)
  obtain ⟨wd, hwd⟩ := Int.eq_ofNat_of_zero_le (show 0 ≤ widthP A l by omega)
  obtain ⟨se, hse⟩ := Int.eq_ofNat_of_zero_le (show 0 ≤ sentP A by omega)
  obtain ⟨nt, hnt⟩ := Int.eq_ofNat_of_zero_le (show 0 ≤ nthP A l by omega)
  have e1 : linksP A t l = ((8 + t * sl : Nat) : Int) := by unfold linksP; rw [hsl]; simp
  have e2 : nodesP A t n l = ((8 + t * sl + n : Nat) : Int) := by unfold nodesP; rw [e1]; simp
  have e3 : treeP A t n l = ((8 + t * sl + n + n * wd : Nat) : Int) := by unfold treeP; rw [e2, hwd]; simp
  have e5 : sizeP A t n l = ((8 + t * sl + n + n * wd + nt : Nat) : Int) := by rw [e4, e3, hnt]; simp
  refine ⟨t, n, l, sl, wd, nt, se, ⟨rfl, rfl, rfl, hsl, hwd, hnt, hse, e1, e2, e3, e5, ?_, by omega, by omega, by omega, by omega, by omega, by omega, by omega, fun hA => ?_, fun hA => ?_⟩⟩
  · unfold allP
    rw [hsl, hwd, hnt]; rfl
  · unfold widthP at hwd
    unfold sentP at hse
    rw [if_neg hA] at hwd hse
    omega
  · unfold sentP at hse
    rw [if_pos hA] at hse
    omega
def firstW (A N L : Int) (x : Sp) : Int :=
  if x.1 = 0 then (if x.2.1 = 0 then 2 * (sentP A + 1) else if x.2.1 = 2 then 1 else 0)
  else if x.1 = 2 then (if x.2.1 > sentP A ∧ x.2.1 < N then x.2.1 + 1 else 0)
  else if x.1 = 3 then (if A > 0 ∧ x.2.1 = 1 ∧ x.2.2 = 3 then L else if A > 0 ∧ x.2.1 = 1 ∧ x.2.2 ≥ 5 then 4 else if A > 0 ∧ x.2.1 = 2 ∧ x.2.2 = 0 then 18446744073709551615 else 0)
  else 0
def wordsF (A N L : Int) (P : List Sp) (i : Nat) : List Int := (P.take i).map (firstW A N L) ++ List.replicate (P.length - i) 0
theorem wordsF_len (A N L : Int) (P : List Sp) (i : Nat) (h : i ≤ P.length) : (wordsF A N L P i).length = P.length := by simp [wordsF]; omega
theorem wordsF_at (A N L : Int) (P : List Sp) (i k : Nat) (h : i ≤ P.length) (hk : k < P.length) : (wordsF A N L P i)[k]? = some (if k < i then firstW A N L (P.getD k (0, 0, 0)) else 0) := by
  unfold wordsF
  by_cases hi : k < i
  · rw [if_pos hi, List.getElem?_append_left (by rw [List.length_map, List.length_take]; omega), List.getElem?_map, List.getElem?_take, if_pos hi]
    simp [List.getD, hk]
  · rw [if_neg hi, List.getElem?_append_right (by rw [List.length_map, List.length_take]; omega), List.getElem?_replicate, if_pos (by rw [List.length_map, List.length_take]; omega)]
theorem wordsF_set (A N L : Int) (P : List Sp) (i : Nat) (h : i < P.length) : (wordsF A N L P i).set i (firstW A N L (P.getD i (0, 0, 0))) = wordsF A N L P (i + 1) := by
  have l1 := wordsF_len A N L P i (by omega)
  have l2 := wordsF_len A N L P (i + 1) (by omega)
  apply List.ext_getElem?
  intro k
  by_cases hk : k < P.length
  · rw [wordsF_at A N L P (i + 1) k (by omega) hk, List.getElem?_set]
    by_cases he : i = k
    · subst he
      rw [if_pos rfl, if_pos (by omega), if_pos (by omega)]
    · rw [if_neg he, wordsF_at A N L P i k (by omega) hk]
      by_cases h1 : k < i
      · rw [if_pos h1, if_pos (by omega)]
      · rw [if_neg h1, if_neg (by omega)]
  · rw [List.getElem?_eq_none (by rw [List.length_set]; omega), List.getElem?_eq_none (by omega)]
theorem wordsF_eq (A N L : Int) (P : List Sp) (i : Nat) (h : i < P.length) (h0 : firstW A N L (P.getD i (0, 0, 0)) = 0) : wordsF A N L P i = wordsF A N L P (i + 1) := by
  have l1 := wordsF_len A N L P i (by omega)
  have l2 := wordsF_len A N L P (i + 1) (by omega)
  apply List.ext_getElem?
  intro k
  by_cases hk : k < P.length
  · rw [wordsF_at A N L P (i + 1) k (by omega) hk, wordsF_at A N L P i k (by omega) hk]
    by_cases h1 : k < i
    · rw [if_pos h1, if_pos (by omega)]
    · rw [if_neg h1]
      by_cases h2 : k < i + 1
      · have : k = i := by omega
        subst this
        rw [if_pos h2, h0]
      · rw [if_neg h2]
  · rw [List.getElem?_eq_none (by omega), List.getElem?_eq_none (by omega)]
structure FJ (w w' : World) (g : Nat) (c : Cf) (v : Value) (P : List Sp) (gw : Nat) (W : List Int) (o : Option (Nat × Sp)) : Prop where
  s : Sl w' TPl 3 v P.length (P.flatMap cellS)
  box : Blk w' g 23 (cf7 c)
  ws : Sl w' 36 1 (.slice (some ⟨gw, 0, none⟩) P.length P.length) P.length (W.map (.int .u64))
  up : Upd [] w w'
  f : w.heap.size ≤ gw
  pb : ∀ x, o = some x → Blk w' x.1 TPl (cellS x.2).toArray
theorem FJ.upd0 {w w' w'' : World} {g : Nat} {c : Cf} {v : Value} {P : List Sp} {gw : Nat} {W : List Int} {o : Option (Nat × Sp)} (h : FJ w w' g c v P gw W o) (hu : Upd [] w' w'') : FJ w w'' g c v P gw W o :=
  ⟨h.s.upd hu (by simp), h.box.upd hu (by simp), h.ws.upd hu (by simp), h.up.trans hu, h.f, fun x hx => (h.pb x hx).upd hu (by simp)⟩
theorem FJ.set {w w' w'' : World} {g : Nat} {c : Cf} {v : Value} {P : List Sp} {gw : Nat} {W : List Int} {o : Option (Nat × Sp)} {i : Nat} {x : Int} (h : FJ w w' g c v P gw W o) (hs : Sl w'' 36 1 (.slice (some ⟨gw, 0, none⟩) P.length P.length) P.length ((W.map (.int .u64)).set i (.int .u64 x))) (hu : Upd [gw] w' w'') : FJ w w'' g c v P gw (W.set i x) o := by
  refine ⟨h.s.upd hu (fun q hq hm => ?_), h.box.upd hu (fun hm => ?_), by rw [List.map_set]; exact hs, h.up.step hu (by simp; exact h.f), h.f, fun x hx => (h.pb x hx).upd hu (fun hm => ?_)⟩
  · have := h.s.ne_ h.ws (by decide) q hq
    simp only [List.mem_singleton] at hm
    subst hm
    exact this rfl
  · simp only [List.mem_singleton] at hm
    subst hm
    exact h.ws.blk_ne h.box (by decide) rfl
  · simp only [List.mem_singleton] at hm
    have := h.ws.blk_ne (h.pb x hx) (by decide)
    rw [hm] at this
    exact this rfl
theorem FJ.none_ {w w' : World} {g : Nat} {c : Cf} {v : Value} {P : List Sp} {gw : Nat} {W : List Int} {o : Option (Nat × Sp)} (h : FJ w w' g c v P gw W o) : FJ w w' g c v P gw W none := ⟨h.s, h.box, h.ws, h.up, h.f, fun x hx => by cases hx⟩
end Go.Proofs.Ytklbeipdigancaa

/- The words that are laid are the reference's first ones: the plain law. -/
namespace Go.Proofs.Ytklbeipdigancaa
open Go.RowKit
attribute [local irreducible] Instr.loadAt Instr.storeAt Instr.fieldAt Instr.indexAt Instr.sliceAt Instr.buildSlice Instr.box Instr.alloc Builtin.append_ Builtin.len_ Builtin.min_ Builtin.max_ Calls Instr.build Instr.makeSlice binSem convert Instr.index Instr.range Instr.next
theorem stM_len (s : MS) (a x : Int) : (stM s a x).W.length = s.W.length := by
  unfold stM
  split
  · show (s.W.set _ _).length = _
    simp
  · rfl
theorem stM_at {s : MS} {a x : Int} (j : Nat) (h0 : 0 ≤ a) (h1 : a < s.W.length) : (stM s a x).W.getD j 0 = if (j : Int) = a then x else s.W.getD j 0 := by
  have hok : okA s a := ⟨h0, h1⟩
  unfold stM
  rw [if_pos hok]
  show (s.W.set a.toNat x).getD j 0 = _
  by_cases hj : (j : Int) = a
  · rw [if_pos hj]
    have : a.toNat = j := by omega
    rw [this]
    have hjl : j < s.W.length := by omega
    simp [List.getD, hjl]
  · rw [if_neg hj]
    have : a.toNat ≠ j := by omega
    simp [List.getD, List.getElem?_set_ne this]
section
variable {A T N L : Int} {t n l sl wd nt se : Nat}
theorem layL_len (s : MS) (se : Nat) : ∀ i, (layL A T N L s se i).W.length = s.W.length
  | 0 => rfl
  | i + 1 => by
    show (stM (layL A T N L s se i) _ _).W.length = _
    rw [stM_len, layL_len s se i]
theorem layN_len (s : MS) : ∀ i, (layN A T N L s i).W.length = s.W.length
  | 0 => rfl
  | i + 1 => by
    show (stM (layN A T N L s i) _ _).W.length = _
    rw [stM_len, layN_len s i]
theorem linkA_of (U : Nums A T N L t n l sl wd nt se) (k : Nat) (h1 : 1 ≤ k) (h2 : k ≤ n) : linkA A T N L (k : Int) = ((8 + t * sl + k - 1 : Nat) : Int) := by
  have := U.eN
  unfold linkA
  rw [if_pos (by omega), U.lk_]
  omega
theorem nodeA_of (U : Nums A T N L t n l sl wd nt se) (k f : Nat) (h1 : 1 ≤ k) (h2 : k ≤ n) (h3 : f < wd) : nodeA A T N L (k : Int) (f : Int) = ((8 + t * sl + n + (k - 1) * wd + f : Nat) : Int) := by
  have := U.eN; have := U.wd_
  unfold nodeA
  rw [if_pos (by omega), U.nd_, U.wd_]
  have : ((k : Int) - 1) * (wd : Int) = (((k - 1) * wd : Nat) : Int) := by rw [Int.natCast_mul]; congr 1; omega
  rw [this]
  omega
theorem layL_at (U : Nums A T N L t n l sl wd nt se) (s : MS) (hW : 8 + t * sl + n ≤ s.W.length) (j : Nat) : ∀ i, se + 1 + i ≤ n → (layL A T N L s se i).W.getD j 0 = if 8 + t * sl + se ≤ j ∧ j < 8 + t * sl + se + i then (((j - (8 + t * sl) + 2 : Nat)) : Int) else s.W.getD j 0
  | 0, _ => by rw [if_neg (by omega)]; rfl
  | i + 1, hi => by
    show (stM (layL A T N L s se i) (linkA A T N L ((se + 1 + i : Nat) : Int)) ((se + 1 + i + 1 : Nat) : Int)).W.getD j 0 = _
    rw [linkA_of U (se + 1 + i) (by omega) (by omega), stM_at j (by omega) (by rw [layL_len]; omega), layL_at U s hW j i (by omega)]
    by_cases h1 : j = 8 + t * sl + se + i
    · rw [if_pos (by omega), if_pos (by omega)]; omega
    · rw [if_neg (by omega)]
      by_cases h2 : 8 + t * sl + se ≤ j ∧ j < 8 + t * sl + se + i
      · rw [if_pos h2, if_pos (by omega)]
      · rw [if_neg h2, if_neg (by omega)]
theorem layN_at (U : Nums A T N L t n l sl wd nt se) (hw : wd = 5 + l) (s : MS) (hW : 8 + t * sl + n + n * wd ≤ s.W.length) (j : Nat) : ∀ i, i ≤ l → (layN A T N L s i).W.getD j 0 = if 8 + t * sl + n + 5 ≤ j ∧ j < 8 + t * sl + n + 5 + i then 4 else s.W.getD j 0
  | 0, _ => by rw [if_neg (by omega)]; rfl
  | i + 1, hi => by
    have hm : 1 * wd ≤ n * wd := Nat.mul_le_mul (by have := U.b5; omega) (Nat.le_refl _)
    show (stM (layN A T N L s i) (nodeA A T N L 1 (5 + (i : Int))) ((2 * 2 : Nat) : Int)).W.getD j 0 = _
    have e : nodeA A T N L 1 (5 + (i : Int)) = ((8 + t * sl + n + (1 - 1) * wd + (5 + i) : Nat) : Int) := nodeA_of U 1 (5 + i) (by omega) (by have := U.b5; omega) (by omega)
    rw [e, stM_at j (by omega) (by rw [layN_len]; omega), layN_at U hw s hW j i (by omega)]
    by_cases h1 : j = 8 + t * sl + n + 5 + i
    · rw [if_pos (by omega), if_pos (by omega)]; rfl
    · rw [if_neg (by omega)]
      by_cases h2 : 8 + t * sl + n + 5 ≤ j ∧ j < 8 + t * sl + n + 5 + i
      · rw [if_pos h2, if_pos (by omega)]
      · rw [if_neg h2, if_neg (by omega)]
theorem lay3_len (s : MS) : (lay3 A T N L s).W.length = s.W.length := by unfold lay3; rw [stM_len, layL_len, stM_len]
theorem lay3_at (U : Nums A T N L t n l sl wd nt se) (s : MS) (hW : 8 + t * sl + n ≤ s.W.length) (j : Nat) : (lay3 A T N L s).W.getD j 0 = if j = 2 then 1 else if 8 + t * sl + se ≤ j ∧ j + 1 < 8 + t * sl + n then (((j - (8 + t * sl) + 2 : Nat)) : Int) else if j = 0 then 2 * ((se : Int) + 1) else s.W.getD j 0 := by
  have h3 := U.b3
  have e1 : (sentP A).toNat = se := by rw [U.se_]; rfl
  have e2 : N.toNat = n := by rw [U.eN]; rfl
  unfold lay3
  rw [e1, e2, stM_at j (by omega) (by rw [layL_len, stM_len]; omega), layL_at U _ (by rw [stM_len]; exact hW) j (n - se - 1) (by omega), stM_at j (by omega) (by omega)]
  by_cases h2 : j = 2
  · rw [if_pos (by omega), if_pos h2]
  rw [if_neg (by omega), if_neg h2]
  by_cases h4 : 8 + t * sl + se ≤ j ∧ j + 1 < 8 + t * sl + n
  · rw [if_pos (by omega), if_pos h4]
  rw [if_neg (by omega), if_neg h4]
  by_cases h5 : j = 0
  · rw [if_pos (by omega), if_pos h5]; omega
  · rw [if_neg (by omega), if_neg h5]
end
theorem layS_len (A T N L : Int) (s : MS) : (layS A T N L s).W.length = s.W.length := by
  unfold layS
  split
  · exact lay3_len s
  · rw [layN_len, stM_len, stM_len, lay3_len]
theorem allP_len {A T N L B P S : Int} (hr : rightC ⟨A, T, N, L, B, P, S⟩) : (allP A T N L).length = (sizeP A T N L).toNat := by
  obtain ⟨t, n, l, sl, wd, nt, se, U⟩ := nums hr
  rw [U.all_, U.sz_]
  simp only [List.length_append, glP_l, hzP_l, lkP_l, ndP_l, trP_l]
  omega
theorem newMS_at (k j : Nat) : (newMS k).W.getD j 0 = 0 := by
  show (List.replicate k (0 : Int)).getD j 0 = 0
  by_cases h : j < k
  · simp [List.getD, h]
  · simp [List.getD, h]
theorem newMS_len (k : Nat) : (newMS k).W.length = k := by
  show (List.replicate k (0 : Int)).length = k
  simp
section
variable (A N L a b : Int)
theorem fw0 : firstW A N L (0, a, b) = if a = 0 then 2 * (sentP A + 1) else if a = 2 then 1 else 0 := rfl
theorem fw1 : firstW A N L (1, a, b) = 0 := rfl
theorem fw2 : firstW A N L (2, a, b) = if a > sentP A ∧ a < N then a + 1 else 0 := rfl
theorem fw3 : firstW A N L (3, a, b) = if A > 0 ∧ a = 1 ∧ b = 3 then L else if A > 0 ∧ a = 1 ∧ b ≥ 5 then 4 else if A > 0 ∧ a = 2 ∧ b = 0 then 18446744073709551615 else 0 := rfl
theorem fw4 : firstW A N L (4, a, b) = 0 := rfl
end
theorem first_words {A T N L B P S : Int} (hr : rightC ⟨A, T, N, L, B, P, S⟩) : (layS A T N L (newMS (sizeP A T N L).toNat)).W = (allP A T N L).map (firstW A N L) := by
  obtain ⟨t, n, l, sl, wd, nt, se, U⟩ := nums hr
  have q3 := U.b3; have q5 := U.b5; have q6 := U.b6; have q2 := U.b2
  have qA0 : 0 ≤ A := hr.1.1.1
  have hsz : (sizeP A T N L).toNat = 8 + t * sl + n + n * wd + nt := by rw [U.sz_]; rfl
  have hlen := allP_len hr
  have hL := layS_len A T N L (newMS (sizeP A T N L).toNat)
  rw [newMS_len] at hL
  have hN : (newMS (sizeP A T N L).toNat).W.length = 8 + t * sl + n + n * wd + nt := by rw [newMS_len, hsz]
  apply List.ext_getElem
  · rw [hL, List.length_map, hlen]
  intro j h1 h2
  have hj : j < 8 + t * sl + n + n * wd + nt := by omega
  have eR : ((allP A T N L).map (firstW A N L))[j]'h2 = firstW A N L (spAt sl wd (8 + t * sl) (8 + t * sl + n) (8 + t * sl + n + n * wd) j) := by
    rw [List.getElem_map]
    congr 1
    have := cat_at t n sl wd nt j hj
    rw [← U.all_, List.getElem?_eq_getElem (by omega)] at this
    exact Option.some.inj this
  rw [eR]
  have eL : (layS A T N L (newMS (sizeP A T N L).toNat)).W[j]'h1 = (layS A T N L (newMS (sizeP A T N L).toNat)).W.getD j 0 := by simp [List.getD, h1]
  rw [eL]
  have e3 := lay3_at U (newMS (sizeP A T N L).toNat) (by omega) j
  rw [newMS_at] at e3
  have l3 := lay3_len (A := A) (T := T) (N := N) (L := L) (newMS (sizeP A T N L).toNat)
  have eN := U.eN; have eLL := U.eL; have ese := U.se_
  have hl : L.toNat = l := by omega
  generalize newMS (sizeP A T N L).toNat = s0 at *
  unfold spAt
  by_cases hA : A = 0
  · have e0 := U.bA0 hA
    have : layS A T N L s0 = lay3 A T N L s0 := if_pos hA
    rw [this, e3]
    by_cases g1 : j < 8
    · rw [if_pos g1]
      rw [fw0]
      by_cases j0 : j = 0
      · rw [if_neg (by omega), if_neg (by omega), if_pos j0, if_pos (by omega)]; omega
      rw [if_neg (by omega : ¬ (j : Int) = 0)]
      by_cases j2 : j = 2
      · rw [if_pos j2, if_pos (by omega)]
      · rw [if_neg j2, if_neg (by omega), if_neg j0, if_neg (by omega)]
    rw [if_neg g1, if_neg (by omega)]
    by_cases g2 : j < 8 + t * sl
    · rw [if_pos g2, if_neg (by omega), if_neg (by omega)]; rfl
    rw [if_neg g2]
    by_cases g3 : j < 8 + t * sl + n
    · rw [if_pos g3]
      rw [fw2]
      by_cases g4 : j + 1 < 8 + t * sl + n
      · rw [if_pos (by omega), if_pos (by omega)]; omega
      · rw [if_neg (by omega), if_neg (by omega), if_neg (by omega)]
    rw [if_neg g3, if_neg (by omega), if_neg (by omega)]
    by_cases g4 : j < 8 + t * sl + n + n * wd
    · rw [if_pos g4, fw3, if_neg (by omega), if_neg (by omega), if_neg (by omega)]
    · rw [if_neg g4, fw4]
  · obtain ⟨ew, e2⟩ := U.bA hA
    have hA0 : A > 0 := by omega
    have hm : 3 * wd ≤ n * wd := Nat.mul_le_mul (by omega) (Nat.le_refl _)
    have : layS A T N L s0 = layN A T N L (stM (stM (lay3 A T N L s0) (nodeA A T N L 1 3) L) (nodeA A T N L 2 0) 18446744073709551615) L.toNat := if_neg hA
    have n1 : nodeA A T N L 1 3 = ((8 + t * sl + n + (1 - 1) * wd + 3 : Nat) : Int) := nodeA_of U 1 3 (by omega) (by omega) (by omega)
    have n2 : nodeA A T N L 2 0 = ((8 + t * sl + n + (2 - 1) * wd + 0 : Nat) : Int) := nodeA_of U 2 0 (by omega) (by omega) (by omega)
    rw [this, hl, layN_at U ew _ (by rw [stM_len, stM_len, l3]; omega) j l (by omega), n2, stM_at j (by omega) (by rw [stM_len, l3]; omega), n1, stM_at j (by omega) (by rw [l3]; omega), e3]
    by_cases g1 : j < 8
    · rw [if_pos g1, if_neg (by omega), if_neg (by omega), if_neg (by omega)]
      rw [fw0]
      by_cases j0 : j = 0
      · rw [if_neg (by omega), if_neg (by omega), if_pos j0, if_pos (by omega)]; omega
      rw [if_neg (by omega : ¬ (j : Int) = 0)]
      by_cases j2 : j = 2
      · rw [if_pos j2, if_pos (by omega)]
      · rw [if_neg j2, if_neg (by omega), if_neg j0, if_neg (by omega)]
    rw [if_neg g1]
    by_cases g2 : j < 8 + t * sl
    · rw [if_pos g2, if_neg (by omega), if_neg (by omega), if_neg (by omega), if_neg (by omega), if_neg (by omega), if_neg (by omega)]; rfl
    rw [if_neg g2]
    by_cases g3 : j < 8 + t * sl + n
    · rw [if_pos g3, if_neg (by omega), if_neg (by omega), if_neg (by omega), if_neg (by omega)]
      rw [fw2]
      by_cases g4 : 8 + t * sl + se ≤ j ∧ j + 1 < 8 + t * sl + n
      · rw [if_pos g4, if_pos (by omega)]; omega
      · rw [if_neg g4, if_neg (by omega), if_neg (by omega)]
    rw [if_neg g3]
    by_cases g4 : j < 8 + t * sl + n + n * wd
    · rw [if_pos g4]
      rw [fw3]
      obtain ⟨q, hq⟩ : ∃ q, j = 8 + t * sl + n + q := ⟨j - (8 + t * sl + n), by omega⟩
      have eq : j - (8 + t * sl + n) = q := by omega
      rw [eq]
      rw [if_neg (by omega : ¬ j = 2), if_neg (by omega : ¬ (8 + t * sl + se ≤ j ∧ j + 1 < 8 + t * sl + n)), if_neg (by omega : ¬ j = 0)]
      rcases Nat.lt_or_ge q wd with c1 | c1
      · rw [Nat.div_eq_of_lt c1, Nat.mod_eq_of_lt c1]
        by_cases d1 : 5 ≤ q
        · rw [if_pos (by omega), if_neg (by omega), if_pos (by omega)]
        rw [if_neg (by omega), if_neg (by omega)]
        by_cases d2 : q = 3
        · rw [if_pos (by omega), if_pos (by omega)]
        · rw [if_neg (by omega), if_neg (by omega), if_neg (by omega), if_neg (by omega)]
      rw [if_neg (by omega)]
      rcases Nat.lt_or_ge q (wd + wd) with c2 | c2
      · have d1 : q / wd = 1 := by rw [Nat.div_eq_of_lt_le] <;> omega
        have d2 : q % wd = q - wd := by
          have := Nat.div_add_mod q wd
          rw [d1] at this; omega
        rw [d1, d2]
        rw [if_neg (by omega : ¬ (A > 0 ∧ ((1 + 1 : Nat) : Int) = 1 ∧ ((q - wd : Nat) : Int) = 3)), if_neg (by omega : ¬ (A > 0 ∧ ((1 + 1 : Nat) : Int) = 1 ∧ ((q - wd : Nat) : Int) ≥ 5))]
        by_cases d3 : q = wd
        · rw [if_pos (by omega), if_pos (by omega)]
        · rw [if_neg (by omega), if_neg (by omega), if_neg (by omega)]
      · have d1 : 2 ≤ q / wd := by rw [Nat.le_div_iff_mul_le (by omega)]; omega
        generalize q / wd = qd at *
        rw [if_neg (by omega), if_neg (by omega), if_neg (by omega), if_neg (by omega), if_neg (by omega)]
    · rw [if_neg g4, if_neg (by omega), if_neg (by omega), if_neg (by omega), if_neg (by omega), if_neg (by omega), if_neg (by omega)]
      rfl
end Go.Proofs.Ytklbeipdigancaa

/- The law CoreBegins. -/
namespace Go.Proofs.Ytklbeipdigancaa
open Go.RowKit
attribute [local irreducible] Instr.loadAt Instr.storeAt Instr.fieldAt Instr.indexAt Instr.sliceAt Instr.buildSlice Instr.box Instr.alloc Builtin.append_ Builtin.len_ Builtin.min_ Builtin.max_ Calls Instr.build Instr.makeSlice binSem convert Instr.index Instr.range Instr.next
theorem len_p {w : World} {g i : Nat} {a : Option Addr} {n c : Nat} (h : w.cell? ⟨g, i, none⟩ = some (.slice a n c)) : Fn Try.prog 25 #[.pointer (some ⟨g, i, none⟩)] w fun r w' => r = .int .i64 n ∧ w' = w := by
  refine fn_enter Try.func25 rfl rfl ?_
  refine ptr_eq ?_
  refine fa ?_
  refine ld (v := .slice a n c) h ?_
  refine len_sl ?_
  exact ⟨rfl, rfl⟩
theorem liveL_many (n s : Nat) (h : s ≤ n) : manyL (liveL n s) 1 = s ∧ manyL (liveL n s) 0 = n - s := by
  have e : liveL n s = List.replicate s 1 ++ List.replicate (n - s) 0 := by
    apply List.ext_getElem
    · simp; omega
    · intro k h1 h2
      simp only [liveL, List.getElem_map, List.getElem_range]
      split
      · rw [List.getElem_append_left (by simp; omega), List.getElem_replicate]
      · rw [List.getElem_append_right (by simp; omega), List.getElem_replicate]
  rw [e]
  unfold manyL
  constructor
  · simp [List.filter_append, List.filter_replicate]
  · simp [List.filter_append, List.filter_replicate]
theorem fault_zero {w0 w : World} {m mp fp l : Nat} {c : Cf} {v lv fv gv tv : Value} {s : MS} {draws : List Int} {ptrs : List Nat} {gp : Nat} {gv' : Value} {tags : List Int} (h : MkI w0 w m c mp v lv s fp fv draws gv (some (gp, gv', tags, 0, 0)) tv ptrs l) : Fn Try.prog 18 #[ptrV m] w fun r w' => r = .bool false ∧ Upd [] w w' :=
  (fault_yes h).mono fun _ _ ⟨u, he, h1, h2⟩ => ⟨u, he, by rw [h1]; rfl, h2⟩
theorem cf_len7 (c : Cf) : (cf7 c).toList.length = 7 := by cases c; rfl
end Go.Proofs.Ytklbeipdigancaa

