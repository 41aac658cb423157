/- Contracts of package conf: what is right, names, digits. -/
import Derived.Test.YtlhbgnoghjendaaDoorEa
import Derived.Test.YtlhbgnoghjendaaDoorCt
import Derived.Test.YtlhbgnoghjendaaDoorArgs
namespace Go.Proofs.YtlhbgnoghjendaaDoor
open Go.RowKit
attribute [local irreducible] Instr.loadAt Instr.storeAt Instr.fieldAt Instr.indexAt Instr.sliceAt Instr.buildSlice Instr.box Instr.alloc Builtin.append_ Builtin.len_ Builtin.min_ Builtin.max_ Calls Instr.build Instr.makeSlice binSem convert Instr.index Instr.range Instr.next
def allIn : Cf → Prop
  | ⟨A, T, N, L, B, P, S⟩ => within A 0 2 ∧ within T 1 6 ∧ within N 1 64 ∧ within L 1 6 ∧ within B 1 16 ∧ within P 1 16 ∧ within S 1 64
theorem rightC_iff (A T N L B P S : Int) : rightC ⟨A, T, N, L, B, P, S⟩ ↔ allIn ⟨A, T, N, L, B, P, S⟩ ∧ (A = 0 ∨ 3 ≤ N) := Iff.rfl
theorem fits_cf (c : Cf) : fitsK [.i .i64, .i .i64, .i .i64, .i .i64, .i .i64, .i .i64, .i .i64] (cf7 c).toList = true := by cases c; rfl
theorem eq_cf (c : Cf) : eqCells (cf7 c).toList (cf7 c).toList = true := eqCells_refl _ _ (fits_cf c)
def cfL : Cf → List Int
  | ⟨A, T, N, L, B, P, S⟩ => [A, T, N, L, B, P, S]
theorem cf_of {l : List Int} (h : Fits [.i64, .i64, .i64, .i64, .i64, .i64, .i64] l) : ∃ c : Cf, l = cfL c := by
  obtain ⟨hl, -⟩ := h
  match l, hl with
  | [A, T, N, L, B, P, S], _ => exact ⟨⟨A, T, N, L, B, P, S⟩, rfl⟩
theorem rsent_c (c : Cf) (w : World) : Fn Tryd.prog 31 #[.agg (cf7 c)] w fun r w' => r = .int .i64 (if c.A = 0 then 0 else 2) ∧ Upd [] w w' := by
  obtain ⟨A, T, N, L, B, P, S⟩ := c
  refine fn_enter Tryd.func31 rfl rfl ?_
  refine bx fun w1 hb1 hu1 hs1 => ?_
  refine fa ?_
  refine ldb hb1 rfl ?_
  refine cd (fun h => ?_) (fun h => ?_)
  · exact ⟨by rw [if_pos h]; rfl, hu1⟩
  · exact ⟨by rw [if_neg h]; rfl, hu1⟩

theorem rright_c (c : Cf) (w : World) : Fn Tryd.prog 13 #[.agg (cf7 c)] w fun r w' => r = .bool (decide (rightC c)) ∧ Upd [] w w' := by
  obtain ⟨A, T, N, L, B, P, S⟩ := c
  refine fn_enter Tryd.func13 rfl rfl ?_
  refine bx fun w1 hb1 hu1 hs1 => ?_
  refine fa ?_
  refine ldb hb1 rfl ?_
  refine cd (fun hA0 => by exact ⟨by rw [decide_eq_false (fun hh => by have hh := ((rightC_iff ..).1 hh).1; unfold allIn within at hh; omega)]; rfl, hu1⟩) (fun hA0 => ?_)
  refine fa ?_
  refine ldb hb1 rfl ?_
  refine cd (fun hA1 => by exact ⟨by rw [decide_eq_false (fun hh => by have hh := ((rightC_iff ..).1 hh).1; unfold allIn within at hh; omega)]; rfl, hu1⟩) (fun hA1 => ?_)
  refine fa ?_
  refine ldb hb1 rfl ?_
  refine cd (fun hT0 => by exact ⟨by rw [decide_eq_false (fun hh => by have hh := ((rightC_iff ..).1 hh).1; unfold allIn within at hh; omega)]; rfl, hu1⟩) (fun hT0 => ?_)
  refine fa ?_
  refine ldb hb1 rfl ?_
  refine cd (fun hT1 => by exact ⟨by rw [decide_eq_false (fun hh => by have hh := ((rightC_iff ..).1 hh).1; unfold allIn within at hh; omega)]; rfl, hu1⟩) (fun hT1 => ?_)
  refine fa ?_
  refine ldb hb1 rfl ?_
  refine cd (fun hN0 => by exact ⟨by rw [decide_eq_false (fun hh => by have hh := ((rightC_iff ..).1 hh).1; unfold allIn within at hh; omega)]; rfl, hu1⟩) (fun hN0 => ?_)
  refine fa ?_
  refine ldb hb1 rfl ?_
  refine cd (fun hN1 => by exact ⟨by rw [decide_eq_false (fun hh => by have hh := ((rightC_iff ..).1 hh).1; unfold allIn within at hh; omega)]; rfl, hu1⟩) (fun hN1 => ?_)
  refine fa ?_
  refine ldb hb1 rfl ?_
  refine cd (fun hL0 => by exact ⟨by rw [decide_eq_false (fun hh => by have hh := ((rightC_iff ..).1 hh).1; unfold allIn within at hh; omega)]; rfl, hu1⟩) (fun hL0 => ?_)
  refine fa ?_
  refine ldb hb1 rfl ?_
  refine cd (fun hL1 => by exact ⟨by rw [decide_eq_false (fun hh => by have hh := ((rightC_iff ..).1 hh).1; unfold allIn within at hh; omega)]; rfl, hu1⟩) (fun hL1 => ?_)
  refine fa ?_
  refine ldb hb1 rfl ?_
  refine cd (fun hB0 => by exact ⟨by rw [decide_eq_false (fun hh => by have hh := ((rightC_iff ..).1 hh).1; unfold allIn within at hh; omega)]; rfl, hu1⟩) (fun hB0 => ?_)
  refine fa ?_
  refine ldb hb1 rfl ?_
  refine cd (fun hB1 => by exact ⟨by rw [decide_eq_false (fun hh => by have hh := ((rightC_iff ..).1 hh).1; unfold allIn within at hh; omega)]; rfl, hu1⟩) (fun hB1 => ?_)
  refine fa ?_
  refine ldb hb1 rfl ?_
  refine cd (fun hP0 => by exact ⟨by rw [decide_eq_false (fun hh => by have hh := ((rightC_iff ..).1 hh).1; unfold allIn within at hh; omega)]; rfl, hu1⟩) (fun hP0 => ?_)
  refine fa ?_
  refine ldb hb1 rfl ?_
  refine cd (fun hP1 => by exact ⟨by rw [decide_eq_false (fun hh => by have hh := ((rightC_iff ..).1 hh).1; unfold allIn within at hh; omega)]; rfl, hu1⟩) (fun hP1 => ?_)
  refine fa ?_
  refine ldb hb1 rfl ?_
  refine cd (fun hS0 => by exact ⟨by rw [decide_eq_false (fun hh => by have hh := ((rightC_iff ..).1 hh).1; unfold allIn within at hh; omega)]; rfl, hu1⟩) (fun hS0 => ?_)
  refine fa ?_
  refine ldb hb1 rfl ?_
  refine cd (fun hS1 => by exact ⟨by rw [decide_eq_false (fun hh => by have hh := ((rightC_iff ..).1 hh).1; unfold allIn within at hh; omega)]; rfl, hu1⟩) (fun hS1 => ?_)
  refine draw_all (fun w' => Upd [] w1 w') (by decide +kernel) (Upd.refl _ _).drew ?_
  refine q_fa ?_
  refine q_ld (v := .int .i64 N) (fun w' hw' => (hb1.upd hw' (by simp)).cell 2) ?_
  refine rq (.agg #[.int .i64 A, .int .i64 T, .int .i64 N, .int .i64 L, .int .i64 B, .int .i64 P, .int .i64 S]) (fun w' hw' => ldw (hb1.upd hw' (by simp)) rfl ⟨rfl, rfl⟩) ?_
  refine q_cl (.int .i64 (if A = 0 then 0 else 2)) (fun w' hw' => (rsent_c ⟨A, T, N, L, B, P, S⟩ w').mono fun _ _ ⟨v, he, h1, h2⟩ => ⟨v, he, h1, hw'.trans h2⟩) ?_
  intro w2 hw2
  refine ⟨?_, hu1.trans hw2⟩
  refine congrArg Value.bool ?_
  by_cases hA : A = 0
  · rw [if_pos hA]
    have : rightC ⟨A, T, N, L, B, P, S⟩ := (rightC_iff ..).2 ⟨⟨by unfold within; omega, by unfold within; omega, by unfold within; omega, by unfold within; omega, by unfold within; omega, by unfold within; omega, by unfold within; omega⟩, .inl hA⟩
    rw [decide_eq_true this]
    simp; omega
  · rw [if_neg hA]
    by_cases hN : 3 ≤ N
    · have : rightC ⟨A, T, N, L, B, P, S⟩ := (rightC_iff ..).2 ⟨⟨by unfold within; omega, by unfold within; omega, by unfold within; omega, by unfold within; omega, by unfold within; omega, by unfold within; omega, by unfold within; omega⟩, .inr hN⟩
      rw [decide_eq_true this]
      simp; omega
    · have : ¬ rightC ⟨A, T, N, L, B, P, S⟩ := fun hh => by have := ((rightC_iff ..).1 hh).2; omega
      rw [decide_eq_false this]
      simp; omega

def errC (c : Cf) : Int := if rightC c then 0 else 6
theorem check_c (c : Cf) (w : World) : Fn Tryd.prog 28 #[.agg (cf7 c)] w fun r w' => r = .int .i64 (errC c) ∧ Upd [] w w' := by
  refine fn_enter Tryd.func28 rfl rfl ?_
  refine bx fun w1 hb1 hu1 hs1 => ?_
  refine ldw hb1 (cf7_len c) ?_
  refine cl (new_c c w1) ?_
  rintro _ w2 ⟨rfl, hu2⟩
  obtain ⟨p, hp, hl, ho⟩ : ∃ p : Array Value, p = (if rightC c then planC c else z15) ∧ p.toList.length = 15 ∧ p.toList.all (·.oneCell') = true := by
    refine ⟨_, rfl, ?_, ?_⟩
    · split
      · exact planC_len c
      · rfl
    · split
      · exact planC_one c
      · rfl
  rw [← hp]
  refine al z15 (fun _ => by kernel_rfl) fun w3 hb3 hu3 hs3 => ?_
  refine stw hb3 rfl hl ho fun w4 hb4 hu4 hs4 => ?_
  exact ⟨rfl, ((hu1.trans hu2).trans hu3).step hu4 (by have := hu1.size; have := hu2.size; simp; omega)⟩
theorem of_c (c : Cf) (w : World) : Fn Tryd.prog 26 #[.agg (cf7 c)] w fun r w' => r = .agg (cf7 c) ∧ Upd [] w w' := by
  obtain ⟨A, T, N, L, B, P, S⟩ := c
  refine fn_enter Tryd.func26 rfl rfl ?_
  refine bx fun w1 hb1 hu1 hs1 => ?_
  refine al #[.int .i64 0, .int .i64 0, .int .i64 0, .int .i64 0, .int .i64 0, .int .i64 0, .int .i64 0] (fun _ => by kernel_rfl) fun w2 hb2 hu2 hs2 => ?_
  have hb1' := hb1.upd hu2 (by simp)
  repeat (first | refine fa ?_ | refine ldb hb1' rfl ?_)
  refine bd (cf7 ⟨A, T, N, L, B, P, S⟩) (fun _ => by kernel_rfl) ?_
  refine stw hb2 rfl rfl rfl fun w3 hb3 hu3 hs3 => ?_
  refine rlw hb3 rfl ?_
  exact ⟨rfl, (hu1.trans hu2).step hu3 (by simp; omega)⟩
def s_ (l : List Int) : Value := .string (strOfNums l)
def kindsA : Array Value := #[s_ [109,111,117,110,100], s_ [115,117,110,100,101,108,108], s_ [108,105,110,100,101,110]]
def namesA : Array Value := #[s_ [], s_ [116,104,114,101,97,100,115], s_ [110,111,100,101,115], s_ [108,101,118,101,108], s_ [98,97,116,99,104], s_ [112,114,111,98,101,115], s_ [115,99,97,110]]
theorem kinds_c (w : World) : Fn Tryd.prog 23 #[] w fun r w' => r = .agg kindsA ∧ Upd [] w w' := by
  refine fn_enter Tryd.func23 rfl rfl ?_
  refine al #[s_ [], s_ [], s_ []] (fun _ => by kernel_rfl) fun w1 hb1 hu1 hs1 => ?_
  refine bd kindsA (fun _ => by kernel_rfl) ?_
  refine stw hb1 rfl rfl rfl fun w3 hb3 hu3 hs3 => ?_
  refine rlw hb3 rfl ?_
  exact ⟨rfl, hu1.step hu3 (by simp)⟩
theorem names_c (w : World) : Fn Tryd.prog 24 #[] w fun r w' => r = .agg namesA ∧ Upd [] w w' := by
  refine fn_enter Tryd.func24 rfl rfl ?_
  refine al #[s_ [], s_ [], s_ [], s_ [], s_ [], s_ [], s_ []] (fun _ => by kernel_rfl) fun w1 hb1 hu1 hs1 => ?_
  refine bd namesA (fun _ => by kernel_rfl) ?_
  refine stw hb1 rfl rfl rfl fun w3 hb3 hu3 hs3 => ?_
  refine rlw hb3 rfl ?_
  exact ⟨rfl, hu1.step hu3 (by simp)⟩
end Go.Proofs.YtlhbgnoghjendaaDoor
