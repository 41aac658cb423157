/- Chapter 6 in plain numbers: the address of a node. -/
import Derived.Test.YtjninopakpfklaaPNodex1
import Derived.Test.YtjninopakpfklaaPlanNew
namespace Go.Proofs.Ytjninopakpfklaa.PNode.Pl
open Go.RowKit Go.Proofs.Ytjninopakpfklaa.PNode Go.Proofs.YtjninopakpfklaaW.PrintWords Go.Proofs.YtjninopakpfklaaW.PrintLast Go.Proofs.YtjninopakpfklaaW.PrintMore

theorem wr (x : Int) (h0 : -9223372036854775808 ≤ x) (h1 : x < 9223372036854775808) : wrap64 x = x := by unfold wrap64; omega

def ok92 (s : S92) : Bool := decide (s.f1 ≤ s.f0) && decide (s.f0 ≤ s.f2)

theorem within_l (d : Nat) : ∀ (m i : Nat) (l : List S92), l.length < 1000 → i + d = l.length → plan_within.l0 (m + d + 1) l (l.length : Int) (i : Int) = some ((l.drop i).all ok92) := by
  induction d with
  | zero =>
    intro m i l hl hi
    rw [plan_within.l0]
    rw [if_neg (by omega), List.drop_of_length_le (by omega)]
    rfl
  | succ d ih =>
    intro m i l hl hi
    have hlt : i < l.length := by omega
    have hd : l.drop i = l[i] :: l.drop (i + 1) := List.drop_eq_getElem_cons hlt
    have hr : rd_T92 l (i : Int) = l[i] := by simp [rd_T92, hlt]
    have hw : wrap64 ((i : Int) + 1) = ((i + 1 : Nat) : Int) := by rw [wr _ (by omega) (by omega)]; omega
    rw [show m + (d + 1) + 1 = (m + d + 1) + 1 by omega]
    rw [plan_within.l0]
    rw [if_pos (by omega), if_pos (by omega), if_pos (by omega), hr, hw, ih m (i + 1) l hl (by omega), hd, List.all_cons]
    by_cases c1 : l[i].f0 < l[i].f1
    · rw [if_pos c1]
      have : ok92 l[i] = false := by unfold ok92; simp; intro h; omega
      rw [this]; rfl
    · rw [if_neg c1]
      by_cases c2 : l[i].f0 > l[i].f2
      · rw [if_pos c2]
        have : ok92 l[i] = false := by unfold ok92; simp; intro h; omega
        rw [this]; rfl
      · rw [if_neg c2]
        have : ok92 l[i] = true := by unfold ok92; simp; omega
        rw [this]; rfl

theorem within_f (m : Nat) (l : List S92) (hl : l.length < 1000) : plan_within.f (m + l.length + 1) l = some (l.all ok92) := by
  unfold plan_within.f
  exact within_l l.length m 0 l hl (by omega)
theorem within_2 (m : Nat) (a b : S92) : plan_within.f (m + 3) [a, b] = some (ok92 a && ok92 b) := by
  have := within_f m [a, b] (by simp)
  simpa using this
theorem within_1 (m : Nat) (a : S92) : plan_within.f (m + 3) [a] = some (ok92 a) := by
  have := within_f (m + 1) [a] (by simp)
  simpa using this

/-- the address of a node's word -/
def nodeA (A T N L n f : Int) : Int := if 1 ≤ n ∧ n ≤ N ∧ 0 ≤ f ∧ f < width A L then 8 + T * slots A L + N + (n - 1) * width A L + f else -1
theorem node_ok (m : Nat) (A T N L B P S n f : Int) (h : V A T N L B P S) :
    plan_Plan_Node.f (m + 3) A T N L B P S (slots A L) (width A L) (sent A) 8 (8 + T * slots A L) (8 + T * slots A L + N) (8 + T * slots A L + N + N * width A L) (8 + T * slots A L + N + N * width A L + tree A L) n f = some (nodeA A T N L n f) := by
  have hb := bounds_sw A T N L B P S (by unfold V at h; unfold V0; omega)
  obtain ⟨hs1, hs2, hw1, hw2, hst1, hst2, ht1, ht2, hm1, hm2, hm3, hm4⟩ := hb
  unfold plan_Plan_Node.f
  rw [within_2, wr (width A L - 1) (by omega) (by omega)]
  simp only [Option.bind_some]
  unfold nodeA
  by_cases c : 1 ≤ n ∧ n ≤ N ∧ 0 ≤ f ∧ f < width A L
  · have e : (ok92 ⟨n, 1, N⟩ && ok92 ⟨f, 0, width A L - 1⟩) = true := by simp [ok92]; omega
    rw [if_pos c, e, if_pos rfl]
    unfold V at h
    have p1 : 0 ≤ (n - 1) * width A L := Int.mul_nonneg (by omega) (by omega)
    have p2 : (n - 1) * width A L ≤ 64 * 11 := Int.mul_le_mul (by omega) hw2 (by omega) (by omega)
    rw [wr (n - 1) (by omega) (by omega), wr ((n - 1) * width A L) (by omega) (by omega), wr (8 + T * slots A L + N + (n - 1) * width A L) (by omega) (by omega), wr _ (by omega) (by omega)]
  · have e : (ok92 ⟨n, 1, N⟩ && ok92 ⟨f, 0, width A L - 1⟩) = false := by
      rw [← Bool.not_eq_true]; intro h2; apply c; simp [ok92] at h2; omega
    rw [if_neg c, e, if_neg (by simp)]
theorem node_c (A T N L B P S n f : Int) (h : V A T N L B P S) (w : World) :
    Calls Try.prog 31 #[.agg (i64s (planL A T N L B P S)), .int .i64 n, .int .i64 f] w fun e w' => e = .returned (.int .i64 (nodeA A T N L n f)) ∧ Below w.heap.size w w' :=
  plan_Plan_Node.calls 3 _ _ _ _ _ _ _ _ _ _ _ _ _ _ _ n f _ w (node_ok 0 A T N L B P S n f h)
theorem node_c_zero (n f : Int) (w : World) :
    Calls Try.prog 31 #[.agg (i64s zero15), .int .i64 n, .int .i64 f] w fun e w' => e = .returned (.int .i64 (-1)) ∧ Below w.heap.size w w' :=
  plan_Plan_Node.calls 3 _ _ _ _ _ _ _ _ _ _ _ _ _ _ _ n f _ w (by
    unfold plan_Plan_Node.f
    rw [show (3 : Nat) = 0 + 3 from rfl, within_2, wr (0 - 1) (by omega) (by omega)]
    simp only [Option.bind_some]
    have e : (ok92 ⟨n, 1, 0⟩ && ok92 ⟨f, 0, 0 - 1⟩) = false := by
      rw [← Bool.not_eq_true]; intro h2; simp [ok92] at h2; omega
    rw [e, if_neg (by simp)])

end Go.Proofs.Ytjninopakpfklaa.PNode.Pl
