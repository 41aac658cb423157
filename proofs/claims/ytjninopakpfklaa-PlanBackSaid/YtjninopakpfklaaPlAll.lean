/- Chapter 6 in plain numbers: the list of all places. -/
import Derived.Test.YtjninopakpfklaaPAllx2
import Derived.Test.YtjninopakpfklaaPlanNew
namespace Go.Proofs.Ytjninopakpfklaa.PAll.Pl
open Go.RowKit Go.Proofs.Ytjninopakpfklaa.PAll Go.Proofs.YtjninopakpfklaaW.PrintWords Go.Proofs.YtjninopakpfklaaW.PrintLast Go.Proofs.YtjninopakpfklaaW.PrintMore

theorem wr (x : Int) (h0 : -9223372036854775808 ≤ x) (h1 : x < 9223372036854775808) : wrap64 x = x := by unfold wrap64; omega

/-- the places of all addresses -/
def treeL (A L : Int) : List S39 := if A = 0 then (List.range (pow2 L).toNat).map (fun (i : Nat) => (⟨4, (i : Int), 0⟩ : S39)) else []
def allL (A T N L : Int) : List S39 :=
  (((List.range 8).map (fun (i : Nat) => (⟨0, (i : Int), 0⟩ : S39)) ++ (List.range T.toNat).flatMap (fun (t : Nat) => (List.range (slots A L).toNat).map fun (s : Nat) => (⟨1, (t : Int), (s : Int)⟩ : S39))) ++
    (List.range N.toNat).map (fun (n : Nat) => (⟨2, (n : Int) + 1, 0⟩ : S39)) ++ (List.range N.toNat).flatMap (fun (n : Nat) => (List.range (width A L).toNat).map fun (f : Nat) => (⟨3, (n : Int) + 1, (f : Int)⟩ : S39))) ++ treeL A L

theorem range_cons {α : Type} (f : Nat → α) (d : Nat) : (List.range (d + 1)).map f = f 0 :: (List.range d).map (fun i => f (i + 1)) := by
  rw [List.range_succ_eq_map, List.map_cons, List.map_map]; rfl
theorem range_cons_flat {α : Type} (f : Nat → List α) (d : Nat) : (List.range (d + 1)).flatMap f = f 0 ++ (List.range d).flatMap (fun i => f (i + 1)) := by
  rw [List.range_succ_eq_map, List.flatMap_cons, List.flatMap_map]

section
variable (A T N L B P S : Int)

theorem l7_ok (hA : A = 0) (d : Nat) : ∀ (m : Nat) (x : List S39) (p i : Int), 0 ≤ i → p - i = d → p ≤ 100 → x.length + d < 5000 →
    jostleref06_All.l7 (m + d + 1) x p i A T N L B P S = some (x ++ (List.range d).map fun (j : Nat) => (⟨4, i + j, 0⟩ : S39)) := by
  induction d with
  | zero =>
    intro m x p i h0 h1 h2 h3
    rw [jostleref06_All.l7]
    rw [if_pos hA, if_neg (by omega)]; simp
  | succ d ih =>
    intro m x p i h0 h1 h2 h3
    rw [show m + (d + 1) + 1 = (m + d + 1) + 1 by omega]
    rw [jostleref06_All.l7]
    rw [if_pos hA, if_pos (by omega), if_pos (by omega), wr _ (by omega) (by omega), ih m _ p (i + 1) (by omega) (by omega) h2 (by simp; omega), range_cons]
    simp only [show ∀ j : Nat, i + 1 + (j : Int) = i + ((j + 1 : Nat) : Int) from fun j => by omega]
    simp
theorem l6_ok (d : Nat) : ∀ (m : Nat) (x : List S39) (p i : Int), 0 ≤ i → L - i = d → 0 ≤ p → p * 2 ^ d ≤ 100 → L ≤ 100 →
    jostleref06_All.l6 (m + d + 1) x p i A T N L B P S = jostleref06_All.l7 m x (p * 2 ^ d) 0 A T N L B P S := by
  induction d with
  | zero =>
    intro m x p i h0 h1 h2 h3 h4
    rw [jostleref06_All.l6]
    rw [if_neg (by omega)]; simp
  | succ d ih =>
    intro m x p i h0 h1 h2 h3 h4
    have hp : (1 : Int) ≤ 2 ^ d := by
      have : 0 < (2 : Nat) ^ d := Nat.two_pow_pos d
      have h : ((2 ^ d : Nat) : Int) = 2 ^ d := by simp
      omega
    have e : p * 2 ^ (d + 1) = 2 * p * 2 ^ d := by rw [Int.pow_succ, Int.mul_comm 2 p, Int.mul_assoc, Int.mul_comm 2]
    have h5 : 2 * p ≤ 2 * p * 2 ^ d := by
      have := Int.mul_le_mul_of_nonneg_left hp (show 0 ≤ 2 * p by omega)
      omega
    rw [e] at h3
    rw [show m + (d + 1) + 1 = (m + d + 1) + 1 by omega]
    rw [jostleref06_All.l6]
    rw [if_pos (by omega), wr (2 * p) (by omega) (by omega), wr (i + 1) (by omega) (by omega), ih m x (2 * p) (i + 1) (by omega) (by omega) (by omega) h3 h4, e]
theorem l5_ok (hL : L = 1 ∨ L = 2 ∨ L = 3 ∨ L = 4 ∨ L = 5 ∨ L = 6) (d : Nat) : ∀ (m : Nat) (x : List S39) (n f : Int), 0 ≤ f → width A L - f = d → n < 1000 → 0 ≤ n → x.length + d < 5000 →
    jostleref06_All.l5 (m + d + 1) x n f A T N L B P S = jostleref06_All.l4 m (x ++ (List.range d).map fun (j : Nat) => (⟨3, n, f + j⟩ : S39)) (n + 1) A T N L B P S := by
  have hw : jostleref06_Width.f A T N L B P S = some (width A L) := by
    unfold jostleref06_Width.f width
    by_cases hA : A = 0
    · rw [if_pos hA, if_pos hA]
    · rw [if_neg hA, if_neg hA, wr _ (by omega) (by omega)]
  have hwl : width A L ≤ 100 := by unfold width; split <;> omega
  induction d with
  | zero =>
    intro m x n f h0 h1 h2 h2' h3
    rw [jostleref06_All.l5]
    simp only [hw, Option.bind_some]
    rw [if_neg (by omega), wr _ (by omega) (by omega)]; simp
  | succ d ih =>
    intro m x n f h0 h1 h2 h2' h3
    rw [show m + (d + 1) + 1 = (m + d + 1) + 1 by omega]
    rw [jostleref06_All.l5]
    simp only [hw, Option.bind_some]
    rw [if_pos (by omega), if_pos (by omega), wr _ (by omega) (by omega), ih m _ n (f + 1) (by omega) (by omega) h2 h2' (by simp; omega), range_cons]
    simp only [show ∀ j : Nat, f + 1 + (j : Int) = f + ((j + 1 : Nat) : Int) from fun j => by omega]
    simp
theorem l4_ok (hL : L = 1 ∨ L = 2 ∨ L = 3 ∨ L = 4 ∨ L = 5 ∨ L = 6) (hN : N ≤ 64) (d : Nat) : ∀ (m : Nat) (x : List S39) (n : Int), 0 ≤ n → N + 1 - n = d → x.length + d * 20 < 5000 →
    jostleref06_All.l4 (m + d * ((width A L).toNat + 2) + 1) x n A T N L B P S = jostleref06_All.l6 m (x ++ (List.range d).flatMap fun (j : Nat) => (List.range (width A L).toNat).map fun (f : Nat) => (⟨3, n + j, (f : Int)⟩ : S39)) 1 0 A T N L B P S := by
  have hwl : 0 ≤ width A L ∧ width A L ≤ 11 := by unfold width; split <;> omega
  induction d with
  | zero =>
    intro m x n h0 h1 h3
    rw [show m + 0 * ((width A L).toNat + 2) + 1 = m + 1 by omega]
    rw [jostleref06_All.l4]
    rw [if_neg (by omega)]; simp
  | succ d ih =>
    intro m x n h0 h1 h3
    rw [show m + (d + 1) * ((width A L).toNat + 2) + 1 = (m + d * ((width A L).toNat + 2) + 1 + (width A L).toNat + 1) + 1 by rw [Nat.add_mul]; omega]
    rw [jostleref06_All.l4]
    rw [if_pos (by omega), l5_ok A T N L B P S hL (width A L).toNat _ x n 0 (by omega) (by omega) (by omega) h0 (by omega), ih m _ (n + 1) (by omega) (by omega) (by simp; omega), range_cons_flat]
    simp only [show ∀ j : Nat, n + 1 + (j : Int) = n + ((j + 1 : Nat) : Int) from fun j => by omega]
    simp
theorem l3_ok (hN : N ≤ 64) (d : Nat) : ∀ (m : Nat) (x : List S39) (n : Int), 0 ≤ n → N + 1 - n = d → x.length + d < 5000 →
    jostleref06_All.l3 (m + d + 1) x n A T N L B P S = jostleref06_All.l4 m (x ++ (List.range d).map fun (j : Nat) => (⟨2, n + j, 0⟩ : S39)) 1 A T N L B P S := by
  induction d with
  | zero =>
    intro m x n h0 h1 h3
    rw [jostleref06_All.l3]
    rw [if_neg (by omega)]; simp
  | succ d ih =>
    intro m x n h0 h1 h3
    rw [show m + (d + 1) + 1 = (m + d + 1) + 1 by omega]
    rw [jostleref06_All.l3]
    rw [if_pos (by omega), if_pos (by omega), wr _ (by omega) (by omega), ih m _ (n + 1) (by omega) (by omega) (by simp; omega), range_cons]
    simp only [show ∀ j : Nat, n + 1 + (j : Int) = n + ((j + 1 : Nat) : Int) from fun j => by omega]
    simp
theorem l2_ok (hL : L = 1 ∨ L = 2 ∨ L = 3 ∨ L = 4 ∨ L = 5 ∨ L = 6) (d : Nat) : ∀ (m : Nat) (x : List S39) (n f : Int), 0 ≤ f → slots A L - f = d → n < 1000 → 0 ≤ n → x.length + d < 5000 →
    jostleref06_All.l2 (m + d + 1) x n f A T N L B P S = jostleref06_All.l1 m (x ++ (List.range d).map fun (j : Nat) => (⟨1, n, f + j⟩ : S39)) (n + 1) A T N L B P S := by
  have hw : jostleref06_Slots.f A T N L B P S = some (slots A L) := by
    unfold jostleref06_Slots.f slots
    by_cases hA : A = 0
    · rw [if_pos hA, if_pos hA]
    · rw [if_neg hA, if_neg hA, wr (2 * L) (by omega) (by omega), wr _ (by omega) (by omega)]
  have hwl : slots A L ≤ 100 := by unfold slots; split <;> omega
  induction d with
  | zero =>
    intro m x n f h0 h1 h2 h2' h3
    rw [jostleref06_All.l2]
    simp only [hw, Option.bind_some]
    rw [if_neg (by omega), wr _ (by omega) (by omega)]; simp
  | succ d ih =>
    intro m x n f h0 h1 h2 h2' h3
    rw [show m + (d + 1) + 1 = (m + d + 1) + 1 by omega]
    rw [jostleref06_All.l2]
    simp only [hw, Option.bind_some]
    rw [if_pos (by omega), if_pos (by omega), wr _ (by omega) (by omega), ih m _ n (f + 1) (by omega) (by omega) h2 h2' (by simp; omega), range_cons]
    simp only [show ∀ j : Nat, f + 1 + (j : Int) = f + ((j + 1 : Nat) : Int) from fun j => by omega]
    simp
theorem l1_ok (hL : L = 1 ∨ L = 2 ∨ L = 3 ∨ L = 4 ∨ L = 5 ∨ L = 6) (hT : T ≤ 6) (d : Nat) : ∀ (m : Nat) (x : List S39) (n : Int), 0 ≤ n → T - n = d → x.length + d * 20 < 5000 →
    jostleref06_All.l1 (m + d * ((slots A L).toNat + 2) + 1) x n A T N L B P S = jostleref06_All.l3 m (x ++ (List.range d).flatMap fun (j : Nat) => (List.range (slots A L).toNat).map fun (f : Nat) => (⟨1, n + j, (f : Int)⟩ : S39)) 1 A T N L B P S := by
  have hwl : 0 ≤ slots A L ∧ slots A L ≤ 14 := by unfold slots; split <;> omega
  induction d with
  | zero =>
    intro m x n h0 h1 h3
    rw [show m + 0 * ((slots A L).toNat + 2) + 1 = m + 1 by omega]
    rw [jostleref06_All.l1]
    rw [if_neg (by omega)]; simp
  | succ d ih =>
    intro m x n h0 h1 h3
    rw [show m + (d + 1) * ((slots A L).toNat + 2) + 1 = (m + d * ((slots A L).toNat + 2) + 1 + (slots A L).toNat + 1) + 1 by rw [Nat.add_mul]; omega]
    rw [jostleref06_All.l1]
    rw [if_pos (by omega), l2_ok A T N L B P S hL (slots A L).toNat _ x n 0 (by omega) (by omega) (by omega) h0 (by omega), ih m _ (n + 1) (by omega) (by omega) (by simp; omega), range_cons_flat]
    simp only [show ∀ j : Nat, n + 1 + (j : Int) = n + ((j + 1 : Nat) : Int) from fun j => by omega]
    simp
theorem l0_ok (d : Nat) : ∀ (m : Nat) (x : List S39) (n : Int), 0 ≤ n → 8 - n = d → x.length + d < 5000 →
    jostleref06_All.l0 (m + d + 1) x n A T N L B P S = jostleref06_All.l1 m (x ++ (List.range d).map fun (j : Nat) => (⟨0, n + j, 0⟩ : S39)) 0 A T N L B P S := by
  induction d with
  | zero =>
    intro m x n h0 h1 h3
    rw [jostleref06_All.l0]
    rw [if_neg (by omega)]; simp
  | succ d ih =>
    intro m x n h0 h1 h3
    rw [show m + (d + 1) + 1 = (m + d + 1) + 1 by omega]
    rw [jostleref06_All.l0]
    rw [if_pos (by omega), if_pos (by omega), wr _ (by omega) (by omega), ih m _ (n + 1) (by omega) (by omega) (by simp; omega), range_cons]
    simp only [show ∀ j : Nat, n + 1 + (j : Int) = n + ((j + 1 : Nat) : Int) from fun j => by omega]
    simp

theorem pow2_ok (hL : L = 1 ∨ L = 2 ∨ L = 3 ∨ L = 4 ∨ L = 5 ∨ L = 6) : (1 : Int) * 2 ^ L.toNat = pow2 L ∧ 0 ≤ pow2 L ∧ pow2 L ≤ 64 := by
  unfold pow2
  rcases hL with rfl | rfl | rfl | rfl | rfl | rfl <;> decide

theorem flat_length {α : Type} (g : Nat → Nat → α) (s : Nat) : ∀ d : Nat, ((List.range d).flatMap fun t => (List.range s).map (g t)).length = d * s
  | 0 => by simp
  | d + 1 => by rw [List.range_succ, List.flatMap_append, List.length_append, flat_length g s d]; simp [Nat.add_mul]
theorem flat_get {α : Type} (g : Nat → Nat → α) (s : Nat) (hs : 0 < s) : ∀ (d i : Nat), i < d * s → ((List.range d).flatMap fun t => (List.range s).map (g t))[i]? = some (g (i / s) (i % s))
  | 0, i, h => by omega
  | d + 1, i, h => by
    rw [List.range_succ, List.flatMap_append]
    by_cases hi : i < d * s
    · rw [List.getElem?_append_left (by rw [flat_length]; exact hi)]
      exact flat_get g s hs d i hi
    · rw [List.getElem?_append_right (by rw [flat_length]; omega), flat_length]
      have h2 : i - d * s < s := by rw [Nat.add_mul] at h; omega
      have e : i = (i - d * s) + s * d := by rw [Nat.mul_comm s d]; omega
      have e1 : i / s = d := by rw [e, Nat.add_mul_div_left _ _ hs, Nat.div_eq_of_lt h2]; omega
      have e2 : i % s = i - d * s := by rw [e, Nat.add_mul_mod_self_left, Nat.mod_eq_of_lt h2]; rw [Nat.mul_comm s d]; omega
      rw [e1, e2]
      simp [h2]

theorem all_eq (m : Nat) (h : V A T N L B P S) : jostleref06_All.f (m + 3000) A T N L B P S = some (allL A T N L) := by
  have hL : L = 1 ∨ L = 2 ∨ L = 3 ∨ L = 4 ∨ L = 5 ∨ L = 6 := by unfold V at h; omega
  have hp := pow2_ok L hL
  have hs : 0 ≤ slots A L ∧ slots A L ≤ 14 := by unfold slots; split <;> omega
  have hw : 0 ≤ width A L ∧ width A L ≤ 11 := by unfold width; split <;> omega
  have m1 : T.toNat * ((slots A L).toNat + 2) ≤ 6 * 16 := Nat.mul_le_mul (by unfold V at h; omega) (by omega)
  have m2 : N.toNat * ((width A L).toNat + 2) ≤ 64 * 13 := Nat.mul_le_mul (by unfold V at h; omega) (by omega)
  have m3 : T.toNat * (slots A L).toNat ≤ 6 * 14 := Nat.mul_le_mul (by unfold V at h; omega) (by omega)
  have m4 : N.toNat * (width A L).toNat ≤ 64 * 11 := Nat.mul_le_mul (by unfold V at h; omega) (by omega)
  unfold V at h
  unfold jostleref06_All.f
  obtain ⟨r0, hr0⟩ : ∃ r0, m + 3000 = r0 + 8 + 1 := ⟨m + 2991, by omega⟩
  rw [hr0, l0_ok A T N L B P S 8 r0 [] 0 (by omega) (by omega) (by simp)]
  obtain ⟨r1, hr1⟩ : ∃ r1, r0 = r1 + T.toNat * ((slots A L).toNat + 2) + 1 := ⟨r0 - T.toNat * ((slots A L).toNat + 2) - 1, by omega⟩
  rw [hr1, l1_ok A T N L B P S hL (by omega) T.toNat r1 _ 0 (by omega) (by omega) (by simp; omega)]
  obtain ⟨r2, hr2⟩ : ∃ r2, r1 = r2 + N.toNat + 1 := ⟨r1 - N.toNat - 1, by omega⟩
  rw [hr2, l3_ok A T N L B P S (by omega) N.toNat r2 _ 1 (by omega) (by omega) (by simp only [List.length_append, flat_length]; simp; omega)]
  obtain ⟨r3, hr3⟩ : ∃ r3, r2 = r3 + N.toNat * ((width A L).toNat + 2) + 1 := ⟨r2 - N.toNat * ((width A L).toNat + 2) - 1, by omega⟩
  rw [hr3, l4_ok A T N L B P S hL (by omega) N.toNat r3 _ 1 (by omega) (by omega) (by simp only [List.length_append, flat_length]; simp; omega)]
  obtain ⟨r4, hr4⟩ : ∃ r4, r3 = r4 + L.toNat + 1 := ⟨r3 - L.toNat - 1, by omega⟩
  rw [hr4, l6_ok A T N L B P S L.toNat r4 _ 1 0 (by omega) (by omega) (by omega) (by rw [hp.1]; omega) (by omega), hp.1]
  by_cases hA : A = 0
  · obtain ⟨r5, hr5⟩ : ∃ r5, r4 = r5 + (pow2 L).toNat + 1 := ⟨r4 - (pow2 L).toNat - 1, by omega⟩
    rw [hr5, l7_ok A T N L B P S hA (pow2 L).toNat r5 _ (pow2 L) 0 (by omega) (by omega) (by omega) (by simp only [List.length_append, flat_length]; simp; omega)]
    simp [allL, treeL, hA, Int.add_comm]
  · obtain ⟨r5, hr5⟩ : ∃ r5, r4 = r5 + 1 := ⟨r4 - 1, by omega⟩
    rw [hr5]
    rw [jostleref06_All.l7]
    rw [if_neg hA]
    simp [allL, treeL, hA, Int.add_comm]

theorem tree_length : ((treeL A L).length : Int) = tree A L := by
  unfold treeL tree
  by_cases hA : A = 0
  · rw [if_pos hA, if_pos hA]
    have : 0 ≤ pow2 L := by unfold pow2; exact Int.le_of_lt (Int.pow_pos (by decide))
    simp; omega
  · rw [if_neg hA, if_neg hA]; rfl
theorem all_length (h : V A T N L B P S) : ((allL A T N L).length : Int) = 8 + T * slots A L + N + N * width A L + tree A L := by
  have hs : 0 ≤ slots A L := by unfold V at h; unfold slots; split <;> omega
  have hw : 0 ≤ width A L := by unfold V at h; unfold width; split <;> omega
  unfold V at h
  unfold allL
  simp only [List.length_append, flat_length, Int.natCast_add, tree_length, List.length_map, List.length_range, Int.natCast_mul]
  rw [Int.toNat_of_nonneg hs, Int.toNat_of_nonneg hw, Int.toNat_of_nonneg (show 0 ≤ T by omega), Int.toNat_of_nonneg (show 0 ≤ N by omega)]
  rfl

/-- in what an address lies -/
def whereL (a : Int) : S39 :=
  if a < 8 then ⟨0, a, 0⟩ else if a < 8 + T * slots A L then ⟨1, (a - 8) / slots A L, (a - 8) % slots A L⟩ else if a < 8 + T * slots A L + N then ⟨2, a - (8 + T * slots A L) + 1, 0⟩
  else if a < 8 + T * slots A L + N + N * width A L then ⟨3, (a - (8 + T * slots A L + N)) / width A L + 1, (a - (8 + T * slots A L + N)) % width A L⟩ else ⟨4, a - (8 + T * slots A L + N + N * width A L), 0⟩

theorem all_get (h : V A T N L B P S) (a : Nat) (ha : a < (allL A T N L).length) : (allL A T N L)[a]? = some (whereL A T N L a) := by
  have hlen := all_length A T N L B P S h
  have hs : 2 ≤ slots A L ∧ slots A L ≤ 14 := by unfold V at h; unfold slots; split <;> omega
  have hw : 3 ≤ width A L ∧ width A L ≤ 11 := by unfold V at h; unfold width; split <;> omega
  have e1 : ((T.toNat * (slots A L).toNat : Nat) : Int) = T * slots A L := by unfold V at h; rw [Int.natCast_mul, Int.toNat_of_nonneg (by omega), Int.toNat_of_nonneg (by omega)]
  have e2 : ((N.toNat * (width A L).toNat : Nat) : Int) = N * width A L := by unfold V at h; rw [Int.natCast_mul, Int.toNat_of_nonneg (by omega), Int.toNat_of_nonneg (by omega)]
  have hN : 0 ≤ N := by unfold V at h; omega
  unfold whereL allL
  by_cases c1 : (a : Int) < 8
  · rw [if_pos c1, List.getElem?_append_left (by simp; omega), List.getElem?_append_left (by simp; omega), List.getElem?_append_left (by simp; omega), List.getElem?_append_left (by simp; omega)]
    have : a < 8 := by omega
    simp [this]
  rw [if_neg c1]
  by_cases c2 : (a : Int) < 8 + T * slots A L
  · rw [if_pos c2, List.getElem?_append_left (by simp only [List.length_append, flat_length]; simp; omega), List.getElem?_append_left (by simp only [List.length_append, flat_length]; simp; omega), List.getElem?_append_left (by simp only [List.length_append, flat_length]; simp; omega), List.getElem?_append_right (by simp; omega)]
    rw [flat_get _ _ (by omega) _ _ (by simp; omega)]
    simp only [List.length_map, List.length_range]
    have f1 : (((a - 8) / (slots A L).toNat : Nat) : Int) = ((a : Int) - 8) / slots A L := by rw [Int.natCast_ediv, Int.toNat_of_nonneg (by omega)]; congr 1; omega
    have f2 : (((a - 8) % (slots A L).toNat : Nat) : Int) = ((a : Int) - 8) % slots A L := by rw [Int.natCast_emod, Int.toNat_of_nonneg (by omega)]; congr 1; omega
    rw [f1, f2]
  rw [if_neg c2]
  by_cases c3 : (a : Int) < 8 + T * slots A L + N
  · rw [if_pos c3, List.getElem?_append_left (by simp only [List.length_append, flat_length]; simp; omega), List.getElem?_append_left (by simp only [List.length_append, flat_length]; simp; omega), List.getElem?_append_right (by simp only [List.length_append, flat_length]; simp; omega)]
    simp only [List.length_append, flat_length, List.length_map, List.length_range]
    have f1 : a - (8 + T.toNat * (slots A L).toNat) < N.toNat := by omega
    rw [List.getElem?_map, List.getElem?_range f1]
    simp only [Option.map_some]
    have f2 : ((a - (8 + T.toNat * (slots A L).toNat) : Nat) : Int) = (a : Int) - (8 + T * slots A L) := by omega
    rw [f2]
  rw [if_neg c3]
  by_cases c4 : (a : Int) < 8 + T * slots A L + N + N * width A L
  · rw [if_pos c4, List.getElem?_append_left (by simp only [List.length_append, flat_length]; simp; omega), List.getElem?_append_right (by simp only [List.length_append, flat_length]; simp; omega)]
    simp only [List.length_append, flat_length, List.length_map, List.length_range]
    rw [flat_get _ _ (by omega) _ _ (by omega)]
    have f0 : ((a - (8 + T.toNat * (slots A L).toNat + N.toNat) : Nat) : Int) = (a : Int) - (8 + T * slots A L + N) := by omega
    have f1 : (((a - (8 + T.toNat * (slots A L).toNat + N.toNat)) / (width A L).toNat : Nat) : Int) = ((a : Int) - (8 + T * slots A L + N)) / width A L := by rw [Int.natCast_ediv, Int.toNat_of_nonneg (by omega), f0]
    have f2 : (((a - (8 + T.toNat * (slots A L).toNat + N.toNat)) % (width A L).toNat : Nat) : Int) = ((a : Int) - (8 + T * slots A L + N)) % width A L := by rw [Int.natCast_emod, Int.toNat_of_nonneg (by omega), f0]
    rw [f1, f2]
  rw [if_neg c4, List.getElem?_append_right (by simp only [List.length_append, flat_length]; simp; omega)]
  simp only [List.length_append, flat_length, List.length_map, List.length_range]
  have ht := tree_length A L
  have hlt : a - (8 + T.toNat * (slots A L).toNat + N.toNat + N.toNat * (width A L).toNat) < (treeL A L).length := by omega
  have f0 : ((a - (8 + T.toNat * (slots A L).toNat + N.toNat + N.toNat * (width A L).toNat) : Nat) : Int) = (a : Int) - (8 + T * slots A L + N + N * width A L) := by omega
  revert hlt f0
  generalize a - (8 + T.toNat * (slots A L).toNat + N.toNat + N.toNat * (width A L).toNat) = j
  intro hlt f0
  unfold treeL at hlt ⊢
  by_cases hA : A = 0
  · rw [if_pos hA] at hlt ⊢
    have hj : j < (pow2 L).toNat := by simpa using hlt
    rw [List.getElem?_map, List.getElem?_range hj, ← f0]; rfl
  · rw [if_neg hA] at hlt; simp at hlt
end

theorem all_c (A T N L B P S : Int) (h : V A T N L B P S) (w : World) : Calls Try.prog 26 #[confV A T N L B P S] w fun e w' => ∃ v, e = .returned v ∧ Kd.R k39 39 w' w.heap.size (fun _ => True) v (allL A T N L) ∧ Below w.heap.size w w' :=
  jostleref06_All.calls 3000 A T N L B P S _ w (by have := all_eq A T N L B P S 0 h; simpa using this)

end Go.Proofs.Ytjninopakpfklaa.PAll.Pl
