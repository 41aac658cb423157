/- Chapter 6 in plain numbers: which configurations may be. -/
import Derived.Test.YtjninopakpfklaaPRightx1
import Derived.Test.YtjninopakpfklaaPlanNew
namespace Go.Proofs.Ytjninopakpfklaa.PRight.Pl
open Go.RowKit Go.Proofs.Ytjninopakpfklaa.PRight Go.Proofs.YtjninopakpfklaaW.PrintWords Go.Proofs.YtjninopakpfklaaW.PrintLast Go.Proofs.YtjninopakpfklaaW.PrintMore

theorem wr (x : Int) (h0 : -9223372036854775808 ≤ x) (h1 : x < 9223372036854775808) : wrap64 x = x := by unfold wrap64; omega

theorem right_ok (m : Nat) (A T N L B P S : Int) : jostleref06_Right.f (m + 1) A T N L B P S = some (decide (V A T N L B P S)) := by
  have hs : ∀ x, jostleref06_Sentinels.f A T N L B P S = some x → x = sent A := by
    intro x; unfold jostleref06_Sentinels.f sent; split <;> simp <;> intro h <;> exact h.symm
  have hs' : jostleref06_Sentinels.f A T N L B P S = some (sent A) := by unfold jostleref06_Sentinels.f sent; split <;> rfl
  have hj : ∀ x : Bool, jostleref06_Right.j0 (m + 1) x A T N L B P S = some (!x && decide (1 ≤ B ∧ B ≤ 16 ∧ 1 ≤ P ∧ P ≤ 16 ∧ 1 ≤ S ∧ S ≤ 64 ∧ sent A < N)) := by
    intro x
    simp only [jostleref06_Right.j0]
    cases x
    · rw [if_neg (by simp), hs']
      simp only [Option.bind_some]
      by_cases c1 : B < 1
      · rw [if_pos c1]; simp; intros; omega
      rw [if_neg c1]
      by_cases c2 : B > 16
      · rw [if_pos c2]; simp; intros; omega
      rw [if_neg c2]
      by_cases c3 : P < 1
      · rw [if_pos c3]; simp; intros; omega
      rw [if_neg c3]
      by_cases c4 : P > 16
      · rw [if_pos c4]; simp; intros; omega
      rw [if_neg c4]
      by_cases c5 : S < 1
      · rw [if_pos c5]; simp; intros; omega
      rw [if_neg c5]
      by_cases c6 : S > 64
      · rw [if_pos c6]; simp; intros; omega
      rw [if_neg c6]
      simp
      by_cases c7 : sent A < N
      · simp [c7]; omega
      · simp [c7]
    · rw [if_pos rfl]; simp
  unfold jostleref06_Right.f
  rw [hj, hj]
  have key : ∀ x : Bool, x = decide (V A T N L B P S) → some x = some (decide (V A T N L B P S)) := fun x h => by rw [h]
  have hv : V A T N L B P S ↔ (0 ≤ A ∧ A ≤ 2 ∧ 1 ≤ T ∧ T ≤ 6 ∧ 1 ≤ N ∧ N ≤ 64 ∧ 1 ≤ L ∧ L ≤ 6) ∧ (1 ≤ B ∧ B ≤ 16 ∧ 1 ≤ P ∧ P ≤ 16 ∧ 1 ≤ S ∧ S ≤ 64 ∧ sent A < N) := by
    unfold V sent
    by_cases hA : A = 0
    · rw [if_pos hA]; omega
    · rw [if_neg hA]; omega
  by_cases hp : 0 ≤ A ∧ A ≤ 2 ∧ 1 ≤ T ∧ T ≤ 6 ∧ 1 ≤ N ∧ N ≤ 64 ∧ 1 ≤ L ∧ L ≤ 6
  · rw [if_neg (by omega), if_neg (by omega), if_neg (by omega), if_neg (by omega), if_neg (by omega), if_neg (by omega), if_neg (by omega)]
    apply key
    have : ¬ L > 6 := by omega
    rw [decide_eq_false this, Bool.eq_iff_iff]
    simp [hv, hp]
  · have hn : ¬ V A T N L B P S := fun h => hp (hv.1 h).1
    rw [decide_eq_false hn]
    simp only [Bool.not_true, Bool.false_and]
    by_cases c1 : A < 0
    · rw [if_pos c1]
    rw [if_neg c1]
    by_cases c2 : A > 2
    · rw [if_pos c2]
    rw [if_neg c2]
    by_cases c3 : T < 1
    · rw [if_pos c3]
    rw [if_neg c3]
    by_cases c4 : T > 6
    · rw [if_pos c4]
    rw [if_neg c4]
    by_cases c5 : N < 1
    · rw [if_pos c5]
    rw [if_neg c5]
    by_cases c6 : N > 64
    · rw [if_pos c6]
    rw [if_neg c6]
    by_cases c7 : L < 1
    · rw [if_pos c7]
    rw [if_neg c7]
    have c8 : L > 6 := by omega
    rw [decide_eq_true c8]; simp

theorem right_c (A T N L B P S : Int) (w : World) : Calls Try.prog 16 #[confV A T N L B P S] w fun e w' => e = .returned (.bool (decide (V A T N L B P S))) ∧ Below w.heap.size w w' :=
  jostleref06_Right.calls 1 A T N L B P S _ w (right_ok 0 A T N L B P S)

end Go.Proofs.Ytjninopakpfklaa.PRight.Pl
