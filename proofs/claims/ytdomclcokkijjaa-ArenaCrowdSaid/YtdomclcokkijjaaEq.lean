/- Contracts: what a machine tells of its parts (for CoreBegins). -/
import Derived.Test.YtdomclcokkijjaaEo
namespace Go.Proofs.Ytdomclcokkijjaa
open Go.RowKit
attribute [local irreducible] Instr.loadAt Instr.storeAt Instr.fieldAt Instr.indexAt Instr.sliceAt Instr.buildSlice Instr.box Instr.alloc Builtin.append_ Builtin.len_ Builtin.min_ Builtin.max_ Calls Instr.build Instr.makeSlice binSem convert Instr.index Instr.range Instr.next
theorem ldplan {K' : Value → World → Prop} {w : World} {g T : Nat} {c : Cf} {mp gv fp tv : Value} {a b : Bool} (hb : Blk w g T (machC c mp gv fp tv a b)) (k : K' (.agg (planC c)) w) : RunP Try.prog (Instr.loadAt TP (.pointer (some ⟨g, 0 + 0, none⟩))) K' w := by
  refine lda (planC c).toList (planC_len c) (fun j x hj => ?_) (by simpa using k)
  have hlt : j < 15 := by
    rcases Nat.lt_or_ge j 15 with h | h
    · exact h
    · rw [List.getElem?_eq_none (by rw [planC_len]; exact h)] at hj; cases hj
  rw [hb.cell, ← Array.getElem?_toList, show 0 + 0 + j = j by omega]
  obtain ⟨A, T, N, L, B, P, S⟩ := c
  have e : (machC ⟨A, T, N, L, B, P, S⟩ mp gv fp tv a b).toList = (planC ⟨A, T, N, L, B, P, S⟩).toList ++ [mp, gv, fp, tv, .bool a, .bool b] := rfl
  rw [e, List.getElem?_append_left (by show j < 15; exact hlt)]
  exact hj
section
variable {w0 w w' : World} {m mp fp l : Nat} {c : Cf} {v lv fv gv tv : Value} {s : MS} {draws : List Int} {ptrs : List Nat} {gs : Option (Nat × Value × List Int × Int × Int)}
theorem plan_m (h : MkI w0 w m c mp v lv s fp fv draws gv gs tv ptrs l) : Fn Try.prog 37 #[ptrV m] w fun r w' => r = .agg (planC c) ∧ Upd [] w w' := by
  refine fn_enter Try.func37 rfl rfl ?_
  refine al z15 (fun _ => by kernel_rfl) fun w1 hb1 hu1 hs1 => ?_
  refine ptr_eq ?_
  have hb := h.blk.upd hu1 (by simp)
  refine fa ?_
  refine ldplan hb ?_
  refine stw hb1 rfl (planC_len c) (planC_one c) fun w2 hb2 hu2 hs2 => ?_
  refine rlw hb2 (planC_len c) ?_
  exact ⟨rfl, hu1.step hu2 (by simp)⟩
theorem feed_m (h : MkI w0 w m c mp v lv s fp fv draws gv gs tv ptrs l) : Fn Try.prog 42 #[ptrV m] w fun r w' => r = ptrV fp ∧ w' = w := by
  refine fn_enter Try.func42 rfl rfl ?_
  refine ptr_eq ?_
  refine fa ?_
  refine ldb h.blk (v := ptrV fp) (by cases c; rfl) ?_
  exact ⟨rfl, rfl⟩
theorem used_c {w : World} {p : Nat} {v : Value} {bs : List Int} {u : Int} (h : IsFd w p v bs u) : Fn Try.prog 43 #[ptrV p] w fun r w' => r = .int .i64 u ∧ w' = w := by
  refine fn_enter Try.func43 rfl rfl ?_
  refine ptr_eq ?_
  refine fa ?_
  refine ldb h.blk rfl ?_
  exact ⟨rfl, rfl⟩
theorem thread_none (h : MkI w0 w m c mp v lv s fp fv draws gv gs tv ptrs l) (i : Int) (hi : i < 0 ∨ (ptrs.length : Int) ≤ i) : Fn Try.prog 39 #[ptrV m, .int .i64 i] w fun r w' => r = .pointer none ∧ w' = w := by
  obtain ⟨ta, tc, rfl, -⟩ := h.ths.form
  refine fn_enter Try.func39 rfl rfl ?_
  refine ptr_eq ?_
  by_cases h1 : i < 0
  · refine cY h1 ?_
    exact ⟨rfl, rfl⟩
  refine cN h1 ?_
  refine fa ?_
  refine ldb h.blk (v := .slice ta ptrs.length tc) (by cases c; rfl) ?_
  refine len_sl ?_
  refine cY (p := i ≥ (ptrs.length : Int)) (by omega) ?_
  exact ⟨rfl, rfl⟩
theorem thread_c (h : MkI w0 w m c mp v lv s fp fv draws gv gs tv ptrs l) (i : Nat) (hi : i < ptrs.length) (hl : ptrs.length ≤ 100) : Fn Try.prog 39 #[ptrV m, .int .i64 (i : Int)] w fun r w' => r = ptrV (ptrs.getD i 0) ∧ w' = w := by
  obtain ⟨tb, to, tc, rfl, -⟩ := h.ths.some_ (by omega)
  refine fn_enter Try.func39 rfl rfl ?_
  refine ptr_eq ?_
  refine fa ?_
  refine ldb h.blk (v := .slice (some ⟨tb, to, none⟩) ptrs.length tc) (by cases c; rfl) ?_
  refine len_sl ?_
  refine cN (p := (i : Int) ≥ (ptrs.length : Int)) (by omega) ?_
  refine fa ?_
  refine ldb h.blk (v := .slice (some ⟨tb, to, none⟩) ptrs.length tc) (by cases c; rfl) ?_
  refine ix i rfl hi ?_
  refine ld (v := ptrV (ptrs.getD i 0)) (by rw [Nat.mul_one, (h.ths.cells rfl i (by omega)).1]; simp [List.getD, hi]) ?_
  exact ⟨rfl, rfl⟩
end
def manyL (l : List Int) (x : Int) : Nat := (l.filter fun y => decide (y = x)).length
theorem manyL_take (l : List Int) (x : Int) (i : Nat) (h : i < l.length) : manyL (l.take (i + 1)) x = manyL (l.take i) x + if l.getD i 0 = x then 1 else 0 := by
  unfold manyL
  rw [getD_take l i h, List.filter_append, List.length_append]
  congr 1
  by_cases hx : l.getD i 0 = x
  · rw [if_pos hx]; simp only [List.filter_cons, List.filter_nil, decide_eq_true hx, if_true]; rfl
  · rw [if_neg hx]; simp only [List.filter_cons, List.filter_nil, decide_eq_false hx]; rfl
theorem manyL_le (l : List Int) (x : Int) : manyL l x ≤ l.length := List.length_filter_le _ _
theorem count_g {w : World} {p : Nat} {v : Value} {tags : List Int} {k n : Int} (h : IsG w p v tags k n) (hl : tags.length ≤ 64) (x : Int) : Fn Try.prog 41 #[ptrV p, .int .i64 x] w fun r w' => r = .int .i64 (manyL tags x : Int) ∧ w' = w := by
  obtain ⟨va, vc, rfl, -⟩ := h.s.form
  refine fn_enter Try.func41 rfl rfl ?_
  refine ptr_eq ?_
  refine fa ?_
  refine ldb h.blk rfl ?_
  refine len_sl ?_
  refine loop_rule [1, 13, 14] [5, 15] (fun vs w' m => ∃ i : Nat, vs = [.int .i64 (manyL (tags.take i) x : Int), .int .i64 (i : Int)] ∧ i ≤ tags.length ∧ m = tags.length - i ∧ w' = w) rfl [.int .i64 0, .int .i64 0] tags.length rfl ⟨0, rfl, by omega, rfl, rfl⟩ ?_
  rintro _ _ m ⟨i, rfl, hi, rfl, rfl⟩
  refine cd (fun hlt => ?_) (fun hlt => ?_)
  · have hlt : i < tags.length := by omega
    obtain ⟨vb, vo, vc', he, -⟩ := h.s.some_ (by omega)
    cases he
    have ht := manyL_take tags x i hlt
    have hle := manyL_le (tags.take i) x
    rw [List.length_take] at hle
    refine ix i rfl hlt ?_
    refine ld (v := .int .i64 (tags.getD i 0)) (by rw [Nat.mul_one, (h.s.cells rfl i (by omega)).1]; exact map_getD hlt) ?_
    refine cd (fun hx => ?_) (fun hx => ?_)
    · rw [if_pos hx] at ht
      refine ar64 (by omega) ?_
      refine ar64 (by omega) ?_
      exact round_mk [.int .i64 (manyL (tags.take (i + 1)) x : Int), .int .i64 ((i + 1 : Nat) : Int)] (tags.length - (i + 1)) rfl (by rw [ht]; rfl) ⟨i + 1, rfl, by omega, rfl, rfl⟩ (by omega)
    · rw [if_neg hx, Nat.add_zero] at ht
      refine ar64 (by omega) ?_
      exact round_mk [.int .i64 (manyL (tags.take (i + 1)) x : Int), .int .i64 ((i + 1 : Nat) : Int)] (tags.length - (i + 1)) rfl (by rw [ht]; rfl) ⟨i + 1, rfl, by omega, rfl, rfl⟩ (by omega)
  · have hi : i = tags.length := by omega
    subst hi
    rw [List.take_length]
    exact ⟨rfl, rfl⟩
/-- lists of words that are the same -/
theorem words_eq {w : World} {v1 v2 : Value} {l : List Int} (h1 : RdK w .u64 v1 l) (h2 : RdK w .u64 v2 l) : Fn Try.prog 33 #[v1, v2] w fun r w' => r = .bool true ∧ Upd [] w w' := by
  obtain ⟨a1, c1, hv1, hc1, hm1⟩ := h1.form
  obtain ⟨a2, c2, hv2, -⟩ := h2.form
  subst hv1; subst hv2
  simp only [maxLen] at hm1
  refine fn_enter Try.func33 rfl rfl ?_
  refine len_sl ?_
  refine len_sl ?_
  refine cN (by simp) ?_
  refine loop_rule [0, 1] [5] (fun vs w' m => ∃ i : Nat, vs = [.int .i64 (i : Int)] ∧ i ≤ l.length ∧ m = l.length - i ∧ Upd [] w w') rfl [.int .i64 0] l.length rfl ⟨0, rfl, by omega, rfl, Upd.refl _ _⟩ ?_
  rintro _ w2 m ⟨i, rfl, hi, rfl, hu2⟩
  refine len_sl ?_
  refine cd (fun hlt => ?_) (fun hlt => ?_)
  · have hlt : i < l.length := by omega
    obtain ⟨b1, o1, c1', he, -⟩ := h1.some_ (by omega)
    cases he
    obtain ⟨b2, o2, c2', he, -⟩ := h2.some_ (by omega)
    cases he
    refine draw_all (fun w' => w' = w2.drew) (by decide +kernel) rfl ?_
    refine q_ix i rfl hlt ?_
    refine q_ld (v := .int .u64 (l.getD i 0)) (by rintro _ rfl; exact (h1.upd0 hu2.drew).at_ rfl i hlt) ?_
    refine q_ix i rfl hlt ?_
    refine q_ld (v := .int .u64 (l.getD i 0)) (by rintro _ rfl; exact (h2.upd0 hu2.drew).at_ rfl i hlt) ?_
    rintro _ rfl
    refine cN (by simp) ?_
    refine ar64 (by omega) ?_
    exact round_mk [.int .i64 ((i + 1 : Nat) : Int)] (l.length - (i + 1)) rfl rfl ⟨i + 1, rfl, by omega, rfl, hu2.drew⟩ (by omega)
  · exact ⟨rfl, hu2⟩
end Go.Proofs.Ytdomclcokkijjaa
