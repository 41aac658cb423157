/- Chapter 6 in plain numbers: in what an address lies. -/
import Derived.Test.YtjninopakpfklaaPWherex1
import Derived.Test.YtjninopakpfklaaPlanNew
import Derived.Test.YtjninopakpfklaaPlAll
namespace Go.Proofs.Ytjninopakpfklaa.PWhere.Pl
open Go.RowKit Go.Proofs.Ytjninopakpfklaa.PWhere Go.Proofs.YtjninopakpfklaaW.PrintWords Go.Proofs.YtjninopakpfklaaW.PrintLast Go.Proofs.YtjninopakpfklaaW.PrintMore Go.Proofs.Ytjninopakpfklaa.PAll.Pl

theorem wr (x : Int) (h0 : -9223372036854775808 ≤ x) (h1 : x < 9223372036854775808) : wrap64 x = x := by unfold wrap64; omega

theorem where_ok (m : Nat) (A T N L B P S a : Int) (h : V A T N L B P S) (h0 : 0 ≤ a) (h1 : a < 8 + T * slots A L + N + N * width A L + tree A L) :
    plan_Plan_Where.f (m + 1) A T N L B P S (slots A L) (width A L) (sent A) 8 (8 + T * slots A L) (8 + T * slots A L + N) (8 + T * slots A L + N + N * width A L) (8 + T * slots A L + N + N * width A L + tree A L) a =
      some ((whereL A T N L a).f0, (whereL A T N L a).f1, (whereL A T N L a).f2) := by
  have hL : L = 1 ∨ L = 2 ∨ L = 3 ∨ L = 4 ∨ L = 5 ∨ L = 6 := by unfold V at h; omega
  have hp := pow2_ok L hL
  have ht : 0 ≤ tree A L ∧ tree A L ≤ 64 := by unfold tree; split <;> omega
  have hs : 2 ≤ slots A L ∧ slots A L ≤ 14 := by unfold slots; split <;> omega
  have hw : 3 ≤ width A L ∧ width A L ≤ 11 := by unfold width; split <;> omega
  unfold V at h
  have m1 : 0 ≤ T * slots A L ∧ T * slots A L ≤ 84 := ⟨Int.mul_nonneg (by omega) (by omega), by
    have := Int.mul_le_mul (a := T) (b := slots A L) (c := 6) (d := 14) (by omega) hs.2 (by omega) (by omega); omega⟩
  have m2 : 0 ≤ N * width A L ∧ N * width A L ≤ 704 := ⟨Int.mul_nonneg (by omega) (by omega), by
    have := Int.mul_le_mul (a := N) (b := width A L) (c := 64) (d := 11) (by omega) hw.2 (by omega) (by omega); omega⟩
  unfold plan_Plan_Where.f
  rw [if_neg (by omega)]
  simp only [plan_Plan_Where.j0]
  have c0 : ¬ (a ≥ 8 + T * slots A L + N + N * width A L + tree A L) := by omega
  rw [decide_eq_false c0, if_neg (by simp)]
  unfold whereL
  generalize T * slots A L = q1 at *
  generalize N * width A L = q2 at *
  by_cases c1 : a < 8
  · rw [if_pos c1, if_pos c1]
  rw [if_neg c1, if_neg c1]
  by_cases c2 : a < 8 + q1
  · rw [if_pos c2, if_pos c2, if_neg (by omega), wr (a - 8) (by omega) (by omega), Int.tdiv_eq_ediv_of_nonneg (by omega), Int.tmod_eq_emod_of_nonneg (by omega)]
    have d1 := Int.ediv_nonneg (show 0 ≤ a - 8 by omega) (show 0 ≤ slots A L by omega)
    have d2 := Int.ediv_le_self (slots A L) (show 0 ≤ a - 8 by omega)
    rw [wr _ (by omega) (by omega)]
  rw [if_neg c2, if_neg c2]
  by_cases c3 : a < 8 + q1 + N
  · rw [if_pos c3, if_pos c3, wr (a - (8 + q1)) (by omega) (by omega), wr _ (by omega) (by omega)]
  rw [if_neg c3, if_neg c3]
  by_cases c4 : a < 8 + q1 + N + q2
  · rw [if_pos c4, if_pos c4, if_neg (by omega), wr (a - (8 + q1 + N)) (by omega) (by omega), Int.tdiv_eq_ediv_of_nonneg (by omega), Int.tmod_eq_emod_of_nonneg (by omega)]
    have d1 := Int.ediv_nonneg (show 0 ≤ a - (8 + q1 + N) by omega) (show 0 ≤ width A L by omega)
    have d2 := Int.ediv_le_self (width A L) (show 0 ≤ a - (8 + q1 + N) by omega)
    rw [wr ((a - (8 + q1 + N)) / width A L) (by omega) (by omega), wr _ (by omega) (by omega)]
  rw [if_neg c4, if_neg c4, wr _ (by omega) (by omega)]

theorem where_no (m : Nat) (A T N L B P S x1 x2 x3 x4 x5 x6 x7 z a : Int) (h : a < 0 ∨ z ≤ a) :
    plan_Plan_Where.f (m + 1) A T N L B P S x1 x2 x3 x4 x5 x6 x7 z a = some (5, 0, 0) := by
  unfold plan_Plan_Where.f
  by_cases c : a < 0
  · rw [if_pos c]; simp only [plan_Plan_Where.j0]; rw [if_pos trivial]
  · have c0 : a ≥ z := by omega
    rw [if_neg c]; simp only [plan_Plan_Where.j0]; rw [decide_eq_true c0, if_pos rfl]


theorem where_c (A T N L B P S a : Int) (h : V A T N L B P S) (h0 : 0 ≤ a) (h1 : a < 8 + T * slots A L + N + N * width A L + tree A L) (w : World) :
    Calls Try.prog 27 #[.agg (i64s (planL A T N L B P S)), .int .i64 a] w fun e w' => e = .returned (.tuple #[.int .i64 (whereL A T N L a).f0, .int .i64 (whereL A T N L a).f1, .int .i64 (whereL A T N L a).f2]) ∧ Below w.heap.size w w' :=
  plan_Plan_Where.calls 1 _ _ _ _ _ _ _ _ _ _ _ _ _ _ _ a _ _ _ w (where_ok 0 A T N L B P S a h h0 h1)
theorem where_c_no (A T N L B P S a : Int) (h1 : a < 0 ∨ 8 + T * slots A L + N + N * width A L + tree A L ≤ a) (w : World) :
    Calls Try.prog 27 #[.agg (i64s (planL A T N L B P S)), .int .i64 a] w fun e w' => e = .returned (.tuple #[.int .i64 5, .int .i64 0, .int .i64 0]) ∧ Below w.heap.size w w' :=
  plan_Plan_Where.calls 1 _ _ _ _ _ _ _ _ _ _ _ _ _ _ _ a _ _ _ w (where_no 0 A T N L B P S _ _ _ _ _ _ _ _ a h1)

end Go.Proofs.Ytjninopakpfklaa.PWhere.Pl
