/- Chapter 6 in plain numbers: which address a place has; the document's search. -/
import Derived.Test.YtjninopakpfklaaPlanTells
import Derived.Test.YtjninopakpfklaaPFindx2
import Derived.Test.YtjninopakpfklaaPHazardx2
import Derived.Test.YtjninopakpfklaaPlanNew
import Derived.Test.YtjninopakpfklaaPLinkx1
import Derived.Test.YtjninopakpfklaaPTreex1
namespace Go.Proofs.Ytjninopakpfklaa.PHazard.Pl
open Go.RowKit Go.Proofs.Ytjninopakpfklaa.PHazard Go.Proofs.YtjninopakpfklaaW.PrintWords Go.Proofs.YtjninopakpfklaaW.PrintLast Go.Proofs.YtjninopakpfklaaW.PrintMore

theorem wr (x : Int) (h0 : -9223372036854775808 ≤ x) (h1 : x < 9223372036854775808) : wrap64 x = x := by unfold wrap64; omega

def ok92 (s : S92) : Bool := decide (s.f1 ≤ s.f0) && decide (s.f0 ≤ s.f2)

theorem within_l (d : Nat) : ∀ (m i : Nat) (l : List S92), l.length < 1000 → i + d = l.length → plan_within.l0 (m + d + 1) l (l.length : Int) (i : Int) = some ((l.drop i).all ok92) := by
  induction d with
  | zero =>
    intro m i l hl hi
    rw [plan_within.l0]
    rw [if_neg (by omega), List.drop_of_length_le (by omega)]
    rfl
  | succ d ih =>
    intro m i l hl hi
    have hlt : i < l.length := by omega
    have hd : l.drop i = l[i] :: l.drop (i + 1) := List.drop_eq_getElem_cons hlt
    have hr : rd_T92 l (i : Int) = l[i] := by simp [rd_T92, hlt]
    have hw : wrap64 ((i : Int) + 1) = ((i + 1 : Nat) : Int) := by rw [wr _ (by omega) (by omega)]; omega
    rw [show m + (d + 1) + 1 = (m + d + 1) + 1 by omega]
    rw [plan_within.l0]
    rw [if_pos (by omega), if_pos (by omega), if_pos (by omega), hr, hw, ih m (i + 1) l hl (by omega), hd, List.all_cons]
    by_cases c1 : l[i].f0 < l[i].f1
    · rw [if_pos c1]
      have : ok92 l[i] = false := by unfold ok92; simp; intro h; omega
      rw [this]; rfl
    · rw [if_neg c1]
      by_cases c2 : l[i].f0 > l[i].f2
      · rw [if_pos c2]
        have : ok92 l[i] = false := by unfold ok92; simp; intro h; omega
        rw [this]; rfl
      · rw [if_neg c2]
        have : ok92 l[i] = true := by unfold ok92; simp; omega
        rw [this]; rfl

theorem within_f (m : Nat) (l : List S92) (hl : l.length < 1000) : plan_within.f (m + l.length + 1) l = some (l.all ok92) := by
  unfold plan_within.f
  exact within_l l.length m 0 l hl (by omega)
theorem within_2 (m : Nat) (a b : S92) : plan_within.f (m + 3) [a, b] = some (ok92 a && ok92 b) := by
  have := within_f m [a, b] (by simp)
  simpa using this
theorem within_1 (m : Nat) (a : S92) : plan_within.f (m + 3) [a] = some (ok92 a) := by
  have := within_f (m + 1) [a] (by simp)
  simpa using this

/-- the address of a hazard slot -/
def hazA (A T L n f : Int) : Int := if 0 ≤ n ∧ n < T ∧ 0 ≤ f ∧ f < slots A L then 8 + n * slots A L + f else -1
theorem haz_ok (m : Nat) (A T N L B P S n f : Int) (h : V A T N L B P S) :
    plan_Plan_Hazard.f (m + 3) A T N L B P S (slots A L) (width A L) (sent A) 8 (8 + T * slots A L) (8 + T * slots A L + N) (8 + T * slots A L + N + N * width A L) (8 + T * slots A L + N + N * width A L + tree A L) n f = some (hazA A T L n f) := by
  have hb := bounds_sw A T N L B P S (by unfold V at h; unfold V0; omega)
  obtain ⟨hs1, hs2, hw1, hw2, hst1, hst2, ht1, ht2, hm1, hm2, hm3, hm4⟩ := hb
  unfold V at h
  unfold plan_Plan_Hazard.f
  have hT : (T == 0) = false := by simp; omega
  rw [hT]
  simp only [Bool.false_and, Bool.and_false]
  rw [if_neg (by simp), within_2, wr (slots A L - 1) (by omega) (by omega), wr (T - 1) (by omega) (by omega)]
  simp only [Option.bind_some]
  unfold hazA
  by_cases c : 0 ≤ n ∧ n < T ∧ 0 ≤ f ∧ f < slots A L
  · have e : (ok92 ⟨n, 0, T - 1⟩ && ok92 ⟨f, 0, slots A L - 1⟩) = true := by simp [ok92]; omega
    rw [if_pos c, e, if_pos rfl]
    have p1 : 0 ≤ n * slots A L := Int.mul_nonneg (by omega) (by omega)
    have p2 : n * slots A L ≤ 6 * 14 := Int.mul_le_mul (by omega) hs2 (by omega) (by omega)
    rw [wr (n * slots A L) (by omega) (by omega), wr (8 + n * slots A L) (by omega) (by omega), wr _ (by omega) (by omega)]
  · have e : (ok92 ⟨n, 0, T - 1⟩ && ok92 ⟨f, 0, slots A L - 1⟩) = false := by
      rw [← Bool.not_eq_true]; intro h2; apply c; simp [ok92] at h2; omega
    rw [if_neg c, e, if_neg (by simp)]
theorem haz_c (A T N L B P S n f : Int) (h : V A T N L B P S) (w : World) :
    Calls Try.prog 29 #[.agg (i64s (planL A T N L B P S)), .int .i64 n, .int .i64 f] w fun e w' => e = .returned (.int .i64 (hazA A T L n f)) ∧ Below w.heap.size w w' :=
  plan_Plan_Hazard.calls 3 _ _ _ _ _ _ _ _ _ _ _ _ _ _ _ n f _ w (haz_ok 0 A T N L B P S n f h)
theorem haz_c_zero (n f : Int) (w : World) :
    Calls Try.prog 29 #[.agg (i64s zero15), .int .i64 n, .int .i64 f] w fun e w' => e = .returned (.int .i64 (-1)) ∧ Below w.heap.size w w' :=
  plan_Plan_Hazard.calls 3 _ _ _ _ _ _ _ _ _ _ _ _ _ _ _ n f _ w (by
    unfold plan_Plan_Hazard.f
    rw [if_pos (by rfl)])

end Go.Proofs.Ytjninopakpfklaa.PHazard.Pl

namespace Go.Proofs.Ytjninopakpfklaa.PLink.Pl
open Go.RowKit Go.Proofs.Ytjninopakpfklaa.PLink Go.Proofs.YtjninopakpfklaaW.PrintWords Go.Proofs.YtjninopakpfklaaW.PrintLast Go.Proofs.YtjninopakpfklaaW.PrintMore

theorem wr (x : Int) (h0 : -9223372036854775808 ≤ x) (h1 : x < 9223372036854775808) : wrap64 x = x := by unfold wrap64; omega

def ok92 (s : S92) : Bool := decide (s.f1 ≤ s.f0) && decide (s.f0 ≤ s.f2)

theorem within_l (d : Nat) : ∀ (m i : Nat) (l : List S92), l.length < 1000 → i + d = l.length → plan_within.l0 (m + d + 1) l (l.length : Int) (i : Int) = some ((l.drop i).all ok92) := by
  induction d with
  | zero =>
    intro m i l hl hi
    rw [plan_within.l0]
    rw [if_neg (by omega), List.drop_of_length_le (by omega)]
    rfl
  | succ d ih =>
    intro m i l hl hi
    have hlt : i < l.length := by omega
    have hd : l.drop i = l[i] :: l.drop (i + 1) := List.drop_eq_getElem_cons hlt
    have hr : rd_T92 l (i : Int) = l[i] := by simp [rd_T92, hlt]
    have hw : wrap64 ((i : Int) + 1) = ((i + 1 : Nat) : Int) := by rw [wr _ (by omega) (by omega)]; omega
    rw [show m + (d + 1) + 1 = (m + d + 1) + 1 by omega]
    rw [plan_within.l0]
    rw [if_pos (by omega), if_pos (by omega), if_pos (by omega), hr, hw, ih m (i + 1) l hl (by omega), hd, List.all_cons]
    by_cases c1 : l[i].f0 < l[i].f1
    · rw [if_pos c1]
      have : ok92 l[i] = false := by unfold ok92; simp; intro h; omega
      rw [this]; rfl
    · rw [if_neg c1]
      by_cases c2 : l[i].f0 > l[i].f2
      · rw [if_pos c2]
        have : ok92 l[i] = false := by unfold ok92; simp; intro h; omega
        rw [this]; rfl
      · rw [if_neg c2]
        have : ok92 l[i] = true := by unfold ok92; simp; omega
        rw [this]; rfl

theorem within_f (m : Nat) (l : List S92) (hl : l.length < 1000) : plan_within.f (m + l.length + 1) l = some (l.all ok92) := by
  unfold plan_within.f
  exact within_l l.length m 0 l hl (by omega)
theorem within_2 (m : Nat) (a b : S92) : plan_within.f (m + 3) [a, b] = some (ok92 a && ok92 b) := by
  have := within_f m [a, b] (by simp)
  simpa using this
theorem within_1 (m : Nat) (a : S92) : plan_within.f (m + 3) [a] = some (ok92 a) := by
  have := within_f (m + 1) [a] (by simp)
  simpa using this

/-- the address of a link -/
def linkA (A T N L n : Int) : Int := if 1 ≤ n ∧ n ≤ N then 8 + T * slots A L + n - 1 else -1
theorem link_ok (m : Nat) (A T N L B P S n : Int) (h : V A T N L B P S) :
    plan_Plan_Link.f (m + 3) A T N L B P S (slots A L) (width A L) (sent A) 8 (8 + T * slots A L) (8 + T * slots A L + N) (8 + T * slots A L + N + N * width A L) (8 + T * slots A L + N + N * width A L + tree A L) n = some (linkA A T N L n) := by
  have hb := bounds_sw A T N L B P S (by unfold V at h; unfold V0; omega)
  obtain ⟨hs1, hs2, hw1, hw2, hst1, hst2, ht1, ht2, hm1, hm2, hm3, hm4⟩ := hb
  unfold V at h
  unfold plan_Plan_Link.f
  rw [within_1]
  simp only [Option.bind_some]
  unfold linkA
  by_cases c : 1 ≤ n ∧ n ≤ N
  · have e : ok92 ⟨n, 1, N⟩ = true := by simp [ok92]; omega
    rw [if_pos c, e, if_pos rfl]
    rw [wr (8 + T * slots A L + n) (by omega) (by omega), wr _ (by omega) (by omega)]
  · have e : ok92 ⟨n, 1, N⟩ = false := by
      rw [← Bool.not_eq_true]; intro h2; apply c; simp [ok92] at h2; omega
    rw [if_neg c, e, if_neg (by simp)]
theorem link_c (A T N L B P S n : Int) (h : V A T N L B P S) (w : World) :
    Calls Try.prog 30 #[.agg (i64s (planL A T N L B P S)), .int .i64 n] w fun e w' => e = .returned (.int .i64 (linkA A T N L n)) ∧ Below w.heap.size w w' :=
  plan_Plan_Link.calls 3 _ _ _ _ _ _ _ _ _ _ _ _ _ _ _ n _ w (link_ok 0 A T N L B P S n h)
theorem link_c_zero (n : Int) (w : World) :
    Calls Try.prog 30 #[.agg (i64s zero15), .int .i64 n] w fun e w' => e = .returned (.int .i64 (-1)) ∧ Below w.heap.size w w' :=
  plan_Plan_Link.calls 3 _ _ _ _ _ _ _ _ _ _ _ _ _ _ _ n _ w (by
    unfold plan_Plan_Link.f
    rw [show (3 : Nat) = 0 + 3 from rfl, within_1]
    simp only [Option.bind_some]
    have e : ok92 ⟨n, 1, 0⟩ = false := by
      rw [← Bool.not_eq_true]; intro h2; simp [ok92] at h2; omega
    rw [e, if_neg (by simp)])

end Go.Proofs.Ytjninopakpfklaa.PLink.Pl

namespace Go.Proofs.Ytjninopakpfklaa.PTree.Pl
open Go.RowKit Go.Proofs.Ytjninopakpfklaa.PTree Go.Proofs.YtjninopakpfklaaW.PrintWords Go.Proofs.YtjninopakpfklaaW.PrintLast Go.Proofs.YtjninopakpfklaaW.PrintMore

theorem wr (x : Int) (h0 : -9223372036854775808 ≤ x) (h1 : x < 9223372036854775808) : wrap64 x = x := by unfold wrap64; omega

/-- the address of a place of the tree -/
def treeA (A T N L n : Int) : Int := if 0 ≤ n ∧ n < tree A L then 8 + T * slots A L + N + N * width A L + n else -1
theorem tree_ok (A T N L B P S n : Int) (h : V A T N L B P S) :
    plan_Plan_Tree.f A T N L B P S (slots A L) (width A L) (sent A) 8 (8 + T * slots A L) (8 + T * slots A L + N) (8 + T * slots A L + N + N * width A L) (8 + T * slots A L + N + N * width A L + tree A L) n = some (treeA A T N L n) := by
  have hb := bounds_sw A T N L B P S (by unfold V at h; unfold V0; omega)
  obtain ⟨hs1, hs2, hw1, hw2, hst1, hst2, ht1, ht2, hm1, hm2, hm3, hm4⟩ := hb
  unfold V at h
  unfold plan_Plan_Tree.f treeA
  rw [wr (8 + T * slots A L + N + N * width A L + tree A L - (8 + T * slots A L + N + N * width A L)) (by omega) (by omega)]
  by_cases c1 : n < 0
  · rw [if_pos c1, if_neg (by omega)]
  rw [if_neg c1]
  by_cases c2 : n ≥ 8 + T * slots A L + N + N * width A L + tree A L - (8 + T * slots A L + N + N * width A L)
  · rw [if_pos c2, if_neg (by omega)]
  rw [if_neg c2, if_pos (by omega), wr _ (by omega) (by omega)]
theorem tree_c (A T N L B P S n : Int) (h : V A T N L B P S) (w : World) :
    Calls Try.prog 32 #[.agg (i64s (planL A T N L B P S)), .int .i64 n] w fun e w' => e = .returned (.int .i64 (treeA A T N L n)) ∧ Below w.heap.size w w' :=
  plan_Plan_Tree.calls _ _ _ _ _ _ _ _ _ _ _ _ _ _ _ n _ w (tree_ok A T N L B P S n h)
theorem tree_c_zero (n : Int) (w : World) :
    Calls Try.prog 32 #[.agg (i64s zero15), .int .i64 n] w fun e w' => e = .returned (.int .i64 (-1)) ∧ Below w.heap.size w w' :=
  plan_Plan_Tree.calls _ _ _ _ _ _ _ _ _ _ _ _ _ _ _ n _ w (by
    unfold plan_Plan_Tree.f
    rw [wr (0 - 0) (by omega) (by omega)]
    by_cases c1 : n < 0
    · rw [if_pos c1]
    rw [if_neg c1, if_pos (by omega)])

end Go.Proofs.Ytjninopakpfklaa.PTree.Pl

namespace Go.Proofs.Ytjninopakpfklaa
open Go.RowKit Go.Proofs.YtjninopakpfklaaW.PrintWords PAll.Pl

theorem divmod (x s n f : Int) (hs : 0 < s) : (x / s = n ∧ x % s = f) ↔ (x = n * s + f ∧ 0 ≤ f ∧ f < s) := by
  constructor
  · rintro ⟨rfl, rfl⟩
    refine ⟨?_, Int.emod_nonneg _ (by omega), Int.emod_lt_of_pos _ hs⟩
    have := Int.mul_ediv_add_emod x s
    rw [Int.mul_comm] at this
    omega
  · rintro ⟨rfl, h0, h1⟩
    constructor
    · rw [Int.add_comm, Int.add_mul_ediv_right _ _ (by omega), Int.ediv_eq_zero_of_lt h0 h1]; omega
    · rw [Int.add_comm, Int.add_mul_emod_self_right, Int.emod_eq_of_lt h0 h1]
theorem blk_iff (s T n f x : Int) (hs : 0 < s) : (0 ≤ x ∧ x < T * s ∧ x / s = n ∧ x % s = f) ↔ (0 ≤ n ∧ n < T ∧ 0 ≤ f ∧ f < s ∧ x = n * s + f) := by
  constructor
  · rintro ⟨h0, h1, h2⟩
    have h3 := (divmod x s n f hs).1 h2
    refine ⟨?_, ?_, h3.2.1, h3.2.2, h3.1⟩
    · rw [← h2.1]; exact Int.ediv_nonneg h0 (by omega)
    · rw [← h2.1]; exact Int.ediv_lt_of_lt_mul hs h1
  · rintro ⟨h0, h1, h2, h3, h4⟩
    have p1 : 0 ≤ n * s := Int.mul_nonneg h0 (by omega)
    have p2 : (n + 1) * s ≤ T * s := Int.mul_le_mul_of_nonneg_right (by omega) (by omega)
    rw [Int.add_mul] at p2
    exact ⟨by omega, by omega, (divmod x s n f hs).2 ⟨h4, h2, h3⟩⟩

set_option linter.unusedSectionVars false
section
variable {A T N L B P S : Int} (h : V A T N L B P S) (a : Int) (h0 : 0 ≤ a) (h1 : a < sizeA A T N L)
include h h0 h1

theorem is1 (n f : Int) : whereL A T N L a = ⟨1, n, f⟩ ↔ PHazard.Pl.hazA A T L n f = a := by
  have hb := bounds_sw A T N L B P S (by unfold V at h; unfold V0; omega)
  obtain ⟨hs1, hs2, hw1, hw2, hst1, hst2, ht1, ht2, hm1, hm2, hm3, hm4⟩ := hb
  have k := blk_iff (slots A L) T n f (a - 8) (by omega)
  unfold sizeA at h1
  unfold V at h
  unfold whereL PHazard.Pl.hazA
  by_cases c1 : a < 8
  · rw [if_pos c1]
    by_cases d : 0 ≤ n ∧ n < T ∧ 0 ≤ f ∧ f < slots A L
    · rw [if_pos d]
      have : 0 ≤ n * slots A L := Int.mul_nonneg d.1 (by omega)
      simp; omega
    · rw [if_neg d]; simp; omega
  rw [if_neg c1]
  by_cases c2 : a < 8 + T * slots A L
  · rw [if_pos c2]
    constructor
    · intro e
      simp only [PAll.S39.mk.injEq] at e
      have k1 := k.1 ⟨by omega, by omega, e.2⟩
      rw [if_pos ⟨k1.1, k1.2.1, k1.2.2.1, k1.2.2.2.1⟩]; omega
    · intro e
      by_cases d : 0 ≤ n ∧ n < T ∧ 0 ≤ f ∧ f < slots A L
      · rw [if_pos d] at e
        have k2 := k.2 ⟨d.1, d.2.1, d.2.2.1, d.2.2.2, by omega⟩
        rw [k2.2.2.1, k2.2.2.2]
      · rw [if_neg d] at e; omega
  rw [if_neg c2]
  have key : ¬ (if 0 ≤ n ∧ n < T ∧ 0 ≤ f ∧ f < slots A L then 8 + n * slots A L + f else -1) = a := by
    intro e
    by_cases d : 0 ≤ n ∧ n < T ∧ 0 ≤ f ∧ f < slots A L
    · rw [if_pos d] at e
      have k2 := k.2 ⟨d.1, d.2.1, d.2.2.1, d.2.2.2, by omega⟩
      omega
    · rw [if_neg d] at e; omega
  refine ⟨fun e => ?_, fun e => absurd e key⟩
  repeat' split at e
  all_goals simp at e

theorem is2 (n : Int) : whereL A T N L a = ⟨2, n, 0⟩ ↔ PLink.Pl.linkA A T N L n = a := by
  have hb := bounds_sw A T N L B P S (by unfold V at h; unfold V0; omega)
  obtain ⟨hs1, hs2, hw1, hw2, hst1, hst2, ht1, ht2, hm1, hm2, hm3, hm4⟩ := hb
  unfold sizeA at h1
  unfold V at h
  unfold whereL PLink.Pl.linkA
  repeat' split
  all_goals (simp; omega)

theorem is3 (n f : Int) : whereL A T N L a = ⟨3, n, f⟩ ↔ PNode.Pl.nodeA A T N L n f = a := by
  have hb := bounds_sw A T N L B P S (by unfold V at h; unfold V0; omega)
  obtain ⟨hs1, hs2, hw1, hw2, hst1, hst2, ht1, ht2, hm1, hm2, hm3, hm4⟩ := hb
  have k := blk_iff (width A L) N (n - 1) f (a - (8 + T * slots A L + N)) (by omega)
  unfold sizeA at h1
  unfold V at h
  unfold whereL PNode.Pl.nodeA
  by_cases c4 : 8 + T * slots A L + N ≤ a ∧ a < 8 + T * slots A L + N + N * width A L
  · rw [if_neg (by omega), if_neg (by omega), if_neg (by omega), if_pos (by omega)]
    constructor
    · intro e
      simp only [PAll.S39.mk.injEq] at e
      have k1 := k.1 ⟨by omega, by omega, by omega, e.2.2⟩
      rw [if_pos ⟨by omega, by omega, k1.2.2.1, k1.2.2.2.1⟩]; omega
    · intro e
      by_cases d : 1 ≤ n ∧ n ≤ N ∧ 0 ≤ f ∧ f < width A L
      · rw [if_pos d] at e
        have k2 := k.2 ⟨by omega, by omega, d.2.2.1, d.2.2.2, by omega⟩
        rw [k2.2.2.1, k2.2.2.2]
        simp
      · rw [if_neg d] at e; omega
  have key : ¬ (if 1 ≤ n ∧ n ≤ N ∧ 0 ≤ f ∧ f < width A L then 8 + T * slots A L + N + (n - 1) * width A L + f else -1) = a := by
    intro e
    by_cases d : 1 ≤ n ∧ n ≤ N ∧ 0 ≤ f ∧ f < width A L
    · rw [if_pos d] at e
      have k2 := k.2 ⟨by omega, by omega, d.2.2.1, d.2.2.2, by omega⟩
      omega
    · rw [if_neg d] at e; omega
  refine ⟨fun e => ?_, fun e => absurd e key⟩
  repeat' split at e
  all_goals first | (simp at e; done) | omega

theorem is4 (n : Int) : whereL A T N L a = ⟨4, n, 0⟩ ↔ PTree.Pl.treeA A T N L n = a := by
  have hb := bounds_sw A T N L B P S (by unfold V at h; unfold V0; omega)
  obtain ⟨hs1, hs2, hw1, hw2, hst1, hst2, ht1, ht2, hm1, hm2, hm3, hm4⟩ := hb
  unfold sizeA at h1
  unfold V at h
  unfold whereL PTree.Pl.treeA
  repeat' split
  all_goals (simp; omega)
end

/-- the place in the words of the search's text -/
def toF (x : PAll.S39) : PFind.S39 := ⟨x.f0, x.f1, x.f2⟩
theorem toF_C {w : World} {Ad : Option Addr} {n : Nat} {l : List PAll.S39} (h : Kd.C PAll.k39 w Ad n l) : Kd.C PFind.k39 w Ad n (l.map toF) := by
  obtain ⟨h1, h2, h3⟩ := h
  refine ⟨by rw [List.length_map]; exact h1, h2, fun hn => ?_⟩
  obtain ⟨ad, rfl, hc⟩ := h3 hn
  refine ⟨ad, rfl, fun j p hj => ?_⟩
  rw [List.getElem?_map] at hj
  cases hx : l[j]? with
  | none => rw [hx] at hj; cases hj
  | some x =>
    rw [hx] at hj
    cases hj
    obtain ⟨c, hs, hr, hcell⟩ := hc j x hx
    exact ⟨c, hs, hr, hcell⟩

theorem find_l (l : List PFind.S39) (k x y : Int) (hl : l.length < 5000) (d : Nat) : ∀ (m i : Nat), i + d = l.length →
    ∃ r, PFind.jostleref06_Find.l0 (m + d + 1) l (i : Int) k x y = some r ∧ ((r = -1 ∧ ∀ j p, i ≤ j → l[j]? = some p → p ≠ ⟨k, x, y⟩) ∨ ∃ j : Nat, r = (j : Int) ∧ l[j]? = some ⟨k, x, y⟩) := by
  induction d with
  | zero =>
    intro m i hi
    refine ⟨-1, ?_, .inl ⟨rfl, fun j p hj hp => ?_⟩⟩
    · rw [PFind.jostleref06_Find.l0, if_neg (by omega)]
    · have := (List.getElem?_eq_some_iff.1 hp).1; omega
  | succ d ih =>
    intro m i hi
    have hlt : i < l.length := by omega
    have hr : PFind.rd_T39 l (i : Int) = l[i] := by simp [PFind.rd_T39, hlt]
    rw [show m + (d + 1) + 1 = (m + d + 1) + 1 by omega, PFind.jostleref06_Find.l0, if_pos (by omega), if_pos (by omega), hr]
    by_cases c : l[i] = ⟨k, x, y⟩
    · refine ⟨i, ?_, .inr ⟨i, rfl, by rw [List.getElem?_eq_getElem hlt, c]⟩⟩
      rw [c, if_pos (by simp)]
    · rw [if_neg, wr _ (by omega) (by omega)]
      · obtain ⟨r, h1, h2⟩ := ih m (i + 1) (by omega)
        refine ⟨r, by rw [← h1]; rfl, ?_⟩
        rcases h2 with ⟨h2, h3⟩ | h2
        · refine .inl ⟨h2, fun j p hj hp => ?_⟩
          rcases Nat.lt_or_ge i j with hij | hij
          · exact h3 j p hij hp
          · have : j = i := by omega
            subst this
            rw [List.getElem?_eq_getElem hlt] at hp
            cases hp
            exact c
        · exact .inr h2
      · intro e
        apply c
        simp at e
        cases hx : l[i]
        rw [hx] at e
        simp at e
        simp [e]

/-- THE DOCUMENT'S SEARCH: where one address, and no other, holds the place. -/
theorem find_q {A T N L B P S : Int} (h : V A T N L B P S) (k x y r : Int) (hr : r = -1 ∨ 0 ≤ r ∧ r < sizeA A T N L)
    (hiff : ∀ a, 0 ≤ a → a < sizeA A T N L → (whereL A T N L a = ⟨k, x, y⟩ ↔ r = a)) (Ad : Option Addr) (cp : Nat) (w : World)
    (hC : Kd.C PAll.k39 w Ad (allL A T N L).length (allL A T N L)) (hcp : (allL A T N L).length ≤ cp) :
    Calls Try.prog 28 #[.slice Ad (allL A T N L).length cp, .agg #[.int .i64 k, .int .i64 x, .int .i64 y]] w fun e w' => e = .returned (.int .i64 r) ∧ Upd [] w w' := by
  have hlen : ((allL A T N L).length : Int) = sizeA A T N L := all_length A T N L B P S h
  have hl2 : (allL A T N L).length < 5000 := by
    have hb := bounds_sw A T N L B P S (by unfold V at h; unfold V0; omega)
    unfold V at h
    unfold sizeA at hlen
    omega
  have hm : ((allL A T N L).map toF).length = (allL A T N L).length := List.length_map _
  have hC' := toF_C hC
  obtain ⟨r', h1, h2⟩ := find_l ((allL A T N L).map toF) k x y (by omega) (allL A T N L).length 0 0 (by omega)
  have hrr : r' = r := by
    rcases h2 with ⟨e, hno⟩ | ⟨j, e, hj⟩
    · rcases hr with hr | ⟨r0, r1⟩
      · omega
      · have hw := (hiff r r0 r1).2 rfl
        have hg := all_get A T N L B P S h r.toNat (by omega)
        rw [Int.toNat_of_nonneg r0, hw] at hg
        have := hno r.toNat ⟨k, x, y⟩ (Nat.zero_le _) (by rw [List.getElem?_map, hg]; rfl)
        exact absurd rfl this
    · have hjl : j < (allL A T N L).length := by have := (List.getElem?_eq_some_iff.1 hj).1; omega
      have hg := all_get A T N L B P S h j hjl
      rw [List.getElem?_map, hg] at hj
      have hw : whereL A T N L j = ⟨k, x, y⟩ := by
        have e2 : toF (whereL A T N L j) = ⟨k, x, y⟩ := by simpa using hj
        cases hx : whereL A T N L j
        rw [hx] at e2
        simp [toF] at e2
        simp [e2]
      rw [e]
      exact ((hiff j (by omega) (by omega)).1 hw).symm
  rw [hrr] at h1
  have := PFind.jostleref06_Find.calls (0 + (allL A T N L).length + 1) Ad cp ((allL A T N L).map toF) k x y r w (by rw [hm]; exact hC') (by omega) h1
  rw [hm] at this
  exact this.mono fun _ _ h => ⟨h.1, Upd.of_below h.2⟩
theorem haz_q {A T N L B P S q7 q8 q9 q10 q11 q12 q13 q14 : Int} (hq : PlanOf A T N L B P S q7 q8 q9 q10 q11 q12 q13 q14) (h : V A T N L B P S) (n f : Int) (w : World) : Calls Try.prog 29 #[.agg (i64s [A, T, N, L, B, P, S, q7, q8, q9, q10, q11, q12, q13, q14]), .int .i64 n, .int .i64 f] w fun e w' => e = .returned (.int .i64 (PHazard.Pl.hazA A T L n f)) ∧ Upd [] w w' := by
  have := PHazard.Pl.haz_c A T N L B P S n f h w
  rw [hq] at this
  exact this.mono fun _ _ h' => ⟨h'.1, Upd.of_below h'.2⟩
theorem link_q {A T N L B P S q7 q8 q9 q10 q11 q12 q13 q14 : Int} (hq : PlanOf A T N L B P S q7 q8 q9 q10 q11 q12 q13 q14) (h : V A T N L B P S) (n : Int) (w : World) : Calls Try.prog 30 #[.agg (i64s [A, T, N, L, B, P, S, q7, q8, q9, q10, q11, q12, q13, q14]), .int .i64 n] w fun e w' => e = .returned (.int .i64 (PLink.Pl.linkA A T N L n)) ∧ Upd [] w w' := by
  have := PLink.Pl.link_c A T N L B P S n h w
  rw [hq] at this
  exact this.mono fun _ _ h' => ⟨h'.1, Upd.of_below h'.2⟩
theorem node_q {A T N L B P S q7 q8 q9 q10 q11 q12 q13 q14 : Int} (hq : PlanOf A T N L B P S q7 q8 q9 q10 q11 q12 q13 q14) (h : V A T N L B P S) (n f : Int) (w : World) : Calls Try.prog 31 #[.agg (i64s [A, T, N, L, B, P, S, q7, q8, q9, q10, q11, q12, q13, q14]), .int .i64 n, .int .i64 f] w fun e w' => e = .returned (.int .i64 (PNode.Pl.nodeA A T N L n f)) ∧ Upd [] w w' := by
  have := PNode.Pl.node_c A T N L B P S n f h w
  rw [hq] at this
  exact this.mono fun _ _ h' => ⟨h'.1, Upd.of_below h'.2⟩
theorem tree_q {A T N L B P S q7 q8 q9 q10 q11 q12 q13 q14 : Int} (hq : PlanOf A T N L B P S q7 q8 q9 q10 q11 q12 q13 q14) (h : V A T N L B P S) (n : Int) (w : World) : Calls Try.prog 32 #[.agg (i64s [A, T, N, L, B, P, S, q7, q8, q9, q10, q11, q12, q13, q14]), .int .i64 n] w fun e w' => e = .returned (.int .i64 (PTree.Pl.treeA A T N L n)) ∧ Upd [] w w' := by
  have := PTree.Pl.tree_c A T N L B P S n h w
  rw [hq] at this
  exact this.mono fun _ _ h' => ⟨h'.1, Upd.of_below h'.2⟩

theorem haz_rng {A T N L B P S : Int} (h : V A T N L B P S) (n f : Int) : PHazard.Pl.hazA A T L n f = -1 ∨ 0 ≤ PHazard.Pl.hazA A T L n f ∧ PHazard.Pl.hazA A T L n f < sizeA A T N L := by
  have hb := bounds_sw A T N L B P S (by unfold V at h; unfold V0; omega)
  obtain ⟨hs1, hs2, hw1, hw2, hst1, hst2, ht1, ht2, hm1, hm2, hm3, hm4⟩ := hb
  unfold V at h
  unfold PHazard.Pl.hazA sizeA
  by_cases d : 0 ≤ n ∧ n < T ∧ 0 ≤ f ∧ f < slots A L
  · have k := (blk_iff (slots A L) T n f (n * slots A L + f) (by omega)).2 ⟨d.1, d.2.1, d.2.2.1, d.2.2.2, rfl⟩
    rw [if_pos d]; omega
  · rw [if_neg d]; exact .inl rfl
theorem link_rng {A T N L B P S : Int} (h : V A T N L B P S) (n : Int) : PLink.Pl.linkA A T N L n = -1 ∨ 0 ≤ PLink.Pl.linkA A T N L n ∧ PLink.Pl.linkA A T N L n < sizeA A T N L := by
  have hb := bounds_sw A T N L B P S (by unfold V at h; unfold V0; omega)
  obtain ⟨hs1, hs2, hw1, hw2, hst1, hst2, ht1, ht2, hm1, hm2, hm3, hm4⟩ := hb
  unfold PLink.Pl.linkA sizeA
  split <;> omega
theorem node_rng {A T N L B P S : Int} (h : V A T N L B P S) (n f : Int) : PNode.Pl.nodeA A T N L n f = -1 ∨ 0 ≤ PNode.Pl.nodeA A T N L n f ∧ PNode.Pl.nodeA A T N L n f < sizeA A T N L := by
  have hb := bounds_sw A T N L B P S (by unfold V at h; unfold V0; omega)
  obtain ⟨hs1, hs2, hw1, hw2, hst1, hst2, ht1, ht2, hm1, hm2, hm3, hm4⟩ := hb
  unfold V at h
  unfold PNode.Pl.nodeA sizeA
  by_cases d : 1 ≤ n ∧ n ≤ N ∧ 0 ≤ f ∧ f < width A L
  · have k := (blk_iff (width A L) N (n - 1) f ((n - 1) * width A L + f) (by omega)).2 ⟨by omega, by omega, d.2.2.1, d.2.2.2, rfl⟩
    rw [if_pos d]; omega
  · rw [if_neg d]; exact .inl rfl
theorem tree_rng {A T N L B P S : Int} (h : V A T N L B P S) (n : Int) : PTree.Pl.treeA A T N L n = -1 ∨ 0 ≤ PTree.Pl.treeA A T N L n ∧ PTree.Pl.treeA A T N L n < sizeA A T N L := by
  have hb := bounds_sw A T N L B P S (by unfold V at h; unfold V0; omega)
  obtain ⟨hs1, hs2, hw1, hw2, hst1, hst2, ht1, ht2, hm1, hm2, hm3, hm4⟩ := hb
  unfold V at h
  unfold PTree.Pl.treeA sizeA
  split <;> omega
theorem find1 {A T N L B P S : Int} (h : V A T N L B P S) (n f : Int) (Ad : Option Addr) (cp : Nat) (w : World) (hC : Kd.C PAll.k39 w Ad (allL A T N L).length (allL A T N L)) (hcp : (allL A T N L).length ≤ cp) :
    Calls Try.prog 28 #[.slice Ad (allL A T N L).length cp, .agg #[.int .i64 1, .int .i64 n, .int .i64 f]] w fun e w' => e = .returned (.int .i64 (PHazard.Pl.hazA A T L n f)) ∧ Upd [] w w' :=
  find_q h 1 n f _ (haz_rng h n f) (fun a h0 h1 => is1 h a h0 h1 n f) Ad cp w hC hcp
theorem find2 {A T N L B P S : Int} (h : V A T N L B P S) (n : Int) (Ad : Option Addr) (cp : Nat) (w : World) (hC : Kd.C PAll.k39 w Ad (allL A T N L).length (allL A T N L)) (hcp : (allL A T N L).length ≤ cp) :
    Calls Try.prog 28 #[.slice Ad (allL A T N L).length cp, .agg #[.int .i64 2, .int .i64 n, .int .i64 0]] w fun e w' => e = .returned (.int .i64 (PLink.Pl.linkA A T N L n)) ∧ Upd [] w w' :=
  find_q h 2 n 0 _ (link_rng h n) (fun a h0 h1 => is2 h a h0 h1 n) Ad cp w hC hcp
theorem find3 {A T N L B P S : Int} (h : V A T N L B P S) (n f : Int) (Ad : Option Addr) (cp : Nat) (w : World) (hC : Kd.C PAll.k39 w Ad (allL A T N L).length (allL A T N L)) (hcp : (allL A T N L).length ≤ cp) :
    Calls Try.prog 28 #[.slice Ad (allL A T N L).length cp, .agg #[.int .i64 3, .int .i64 n, .int .i64 f]] w fun e w' => e = .returned (.int .i64 (PNode.Pl.nodeA A T N L n f)) ∧ Upd [] w w' :=
  find_q h 3 n f _ (node_rng h n f) (fun a h0 h1 => is3 h a h0 h1 n f) Ad cp w hC hcp
theorem find4 {A T N L B P S : Int} (h : V A T N L B P S) (n : Int) (Ad : Option Addr) (cp : Nat) (w : World) (hC : Kd.C PAll.k39 w Ad (allL A T N L).length (allL A T N L)) (hcp : (allL A T N L).length ≤ cp) :
    Calls Try.prog 28 #[.slice Ad (allL A T N L).length cp, .agg #[.int .i64 4, .int .i64 n, .int .i64 0]] w fun e w' => e = .returned (.int .i64 (PTree.Pl.treeA A T N L n)) ∧ Upd [] w w' :=
  find_q h 4 n 0 _ (tree_rng h n) (fun a h0 h1 => is4 h a h0 h1 n) Ad cp w hC hcp
end Go.Proofs.Ytjninopakpfklaa
