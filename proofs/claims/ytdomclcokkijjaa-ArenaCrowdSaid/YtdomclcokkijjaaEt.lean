/- The words that are laid are the reference's first ones: the plain law. -/
import Derived.Test.YtdomclcokkijjaaEs
namespace Go.Proofs.Ytdomclcokkijjaa
open Go.RowKit
attribute [local irreducible] Instr.loadAt Instr.storeAt Instr.fieldAt Instr.indexAt Instr.sliceAt Instr.buildSlice Instr.box Instr.alloc Builtin.append_ Builtin.len_ Builtin.min_ Builtin.max_ Calls Instr.build Instr.makeSlice binSem convert Instr.index Instr.range Instr.next
theorem stM_len (s : MS) (a x : Int) : (stM s a x).W.length = s.W.length := by
  unfold stM
  split
  · show (s.W.set _ _).length = _
    simp
  · rfl
theorem stM_at {s : MS} {a x : Int} (j : Nat) (h0 : 0 ≤ a) (h1 : a < s.W.length) : (stM s a x).W.getD j 0 = if (j : Int) = a then x else s.W.getD j 0 := by
  have hok : okA s a := ⟨h0, h1⟩
  unfold stM
  rw [if_pos hok]
  show (s.W.set a.toNat x).getD j 0 = _
  by_cases hj : (j : Int) = a
  · rw [if_pos hj]
    have : a.toNat = j := by omega
    rw [this]
    have hjl : j < s.W.length := by omega
    simp [List.getD, hjl]
  · rw [if_neg hj]
    have : a.toNat ≠ j := by omega
    simp [List.getD, List.getElem?_set_ne this]
section
variable {A T N L : Int} {t n l sl wd nt se : Nat}
theorem layL_len (s : MS) (se : Nat) : ∀ i, (layL A T N L s se i).W.length = s.W.length
  | 0 => rfl
  | i + 1 => by
    show (stM (layL A T N L s se i) _ _).W.length = _
    rw [stM_len, layL_len s se i]
theorem layN_len (s : MS) : ∀ i, (layN A T N L s i).W.length = s.W.length
  | 0 => rfl
  | i + 1 => by
    show (stM (layN A T N L s i) _ _).W.length = _
    rw [stM_len, layN_len s i]
theorem linkA_of (U : Nums A T N L t n l sl wd nt se) (k : Nat) (h1 : 1 ≤ k) (h2 : k ≤ n) : linkA A T N L (k : Int) = ((8 + t * sl + k - 1 : Nat) : Int) := by
  have := U.eN
  unfold linkA
  rw [if_pos (by omega), U.lk_]
  omega
theorem nodeA_of (U : Nums A T N L t n l sl wd nt se) (k f : Nat) (h1 : 1 ≤ k) (h2 : k ≤ n) (h3 : f < wd) : nodeA A T N L (k : Int) (f : Int) = ((8 + t * sl + n + (k - 1) * wd + f : Nat) : Int) := by
  have := U.eN; have := U.wd_
  unfold nodeA
  rw [if_pos (by omega), U.nd_, U.wd_]
  have : ((k : Int) - 1) * (wd : Int) = (((k - 1) * wd : Nat) : Int) := by rw [Int.natCast_mul]; congr 1; omega
  rw [this]
  omega
theorem layL_at (U : Nums A T N L t n l sl wd nt se) (s : MS) (hW : 8 + t * sl + n ≤ s.W.length) (j : Nat) : ∀ i, se + 1 + i ≤ n → (layL A T N L s se i).W.getD j 0 = if 8 + t * sl + se ≤ j ∧ j < 8 + t * sl + se + i then (((j - (8 + t * sl) + 2 : Nat)) : Int) else s.W.getD j 0
  | 0, _ => by rw [if_neg (by omega)]; rfl
  | i + 1, hi => by
    show (stM (layL A T N L s se i) (linkA A T N L ((se + 1 + i : Nat) : Int)) ((se + 1 + i + 1 : Nat) : Int)).W.getD j 0 = _
    rw [linkA_of U (se + 1 + i) (by omega) (by omega), stM_at j (by omega) (by rw [layL_len]; omega), layL_at U s hW j i (by omega)]
    by_cases h1 : j = 8 + t * sl + se + i
    · rw [if_pos (by omega), if_pos (by omega)]; omega
    · rw [if_neg (by omega)]
      by_cases h2 : 8 + t * sl + se ≤ j ∧ j < 8 + t * sl + se + i
      · rw [if_pos h2, if_pos (by omega)]
      · rw [if_neg h2, if_neg (by omega)]
theorem layN_at (U : Nums A T N L t n l sl wd nt se) (hw : wd = 5 + l) (s : MS) (hW : 8 + t * sl + n + n * wd ≤ s.W.length) (j : Nat) : ∀ i, i ≤ l → (layN A T N L s i).W.getD j 0 = if 8 + t * sl + n + 5 ≤ j ∧ j < 8 + t * sl + n + 5 + i then 4 else s.W.getD j 0
  | 0, _ => by rw [if_neg (by omega)]; rfl
  | i + 1, hi => by
    have hm : 1 * wd ≤ n * wd := Nat.mul_le_mul (by have := U.b5; omega) (Nat.le_refl _)
    show (stM (layN A T N L s i) (nodeA A T N L 1 (5 + (i : Int))) ((2 * 2 : Nat) : Int)).W.getD j 0 = _
    have e : nodeA A T N L 1 (5 + (i : Int)) = ((8 + t * sl + n + (1 - 1) * wd + (5 + i) : Nat) : Int) := nodeA_of U 1 (5 + i) (by omega) (by have := U.b5; omega) (by omega)
    rw [e, stM_at j (by omega) (by rw [layN_len]; omega), layN_at U hw s hW j i (by omega)]
    by_cases h1 : j = 8 + t * sl + n + 5 + i
    · rw [if_pos (by omega), if_pos (by omega)]; rfl
    · rw [if_neg (by omega)]
      by_cases h2 : 8 + t * sl + n + 5 ≤ j ∧ j < 8 + t * sl + n + 5 + i
      · rw [if_pos h2, if_pos (by omega)]
      · rw [if_neg h2, if_neg (by omega)]
theorem lay3_len (s : MS) : (lay3 A T N L s).W.length = s.W.length := by unfold lay3; rw [stM_len, layL_len, stM_len]
theorem lay3_at (U : Nums A T N L t n l sl wd nt se) (s : MS) (hW : 8 + t * sl + n ≤ s.W.length) (j : Nat) : (lay3 A T N L s).W.getD j 0 = if j = 2 then 1 else if 8 + t * sl + se ≤ j ∧ j + 1 < 8 + t * sl + n then (((j - (8 + t * sl) + 2 : Nat)) : Int) else if j = 0 then 2 * ((se : Int) + 1) else s.W.getD j 0 := by
  have h3 := U.b3
  have e1 : (sentP A).toNat = se := by rw [U.se_]; rfl
  have e2 : N.toNat = n := by rw [U.eN]; rfl
  unfold lay3
  rw [e1, e2, stM_at j (by omega) (by rw [layL_len, stM_len]; omega), layL_at U _ (by rw [stM_len]; exact hW) j (n - se - 1) (by omega), stM_at j (by omega) (by omega)]
  by_cases h2 : j = 2
  · rw [if_pos (by omega), if_pos h2]
  rw [if_neg (by omega), if_neg h2]
  by_cases h4 : 8 + t * sl + se ≤ j ∧ j + 1 < 8 + t * sl + n
  · rw [if_pos (by omega), if_pos h4]
  rw [if_neg (by omega), if_neg h4]
  by_cases h5 : j = 0
  · rw [if_pos (by omega), if_pos h5]; omega
  · rw [if_neg (by omega), if_neg h5]
end
theorem layS_len (A T N L : Int) (s : MS) : (layS A T N L s).W.length = s.W.length := by
  unfold layS
  split
  · exact lay3_len s
  · rw [layN_len, stM_len, stM_len, lay3_len]
theorem allP_len {A T N L B P S : Int} (hr : rightC ⟨A, T, N, L, B, P, S⟩) : (allP A T N L).length = (sizeP A T N L).toNat := by
  obtain ⟨t, n, l, sl, wd, nt, se, U⟩ := nums hr
  rw [U.all_, U.sz_]
  simp only [List.length_append, glP_l, hzP_l, lkP_l, ndP_l, trP_l]
  omega
theorem newMS_at (k j : Nat) : (newMS k).W.getD j 0 = 0 := by
  show (List.replicate k (0 : Int)).getD j 0 = 0
  by_cases h : j < k
  · simp [List.getD, h]
  · simp [List.getD, h]
theorem newMS_len (k : Nat) : (newMS k).W.length = k := by
  show (List.replicate k (0 : Int)).length = k
  simp
section
variable (A N L a b : Int)
theorem fw0 : firstW A N L (0, a, b) = if a = 0 then 2 * (sentP A + 1) else if a = 2 then 1 else 0 := rfl
theorem fw1 : firstW A N L (1, a, b) = 0 := rfl
theorem fw2 : firstW A N L (2, a, b) = if a > sentP A ∧ a < N then a + 1 else 0 := rfl
theorem fw3 : firstW A N L (3, a, b) = if A > 0 ∧ a = 1 ∧ b = 3 then L else if A > 0 ∧ a = 1 ∧ b ≥ 5 then 4 else if A > 0 ∧ a = 2 ∧ b = 0 then 18446744073709551615 else 0 := rfl
theorem fw4 : firstW A N L (4, a, b) = 0 := rfl
end
theorem first_words {A T N L B P S : Int} (hr : rightC ⟨A, T, N, L, B, P, S⟩) : (layS A T N L (newMS (sizeP A T N L).toNat)).W = (allP A T N L).map (firstW A N L) := by
  obtain ⟨t, n, l, sl, wd, nt, se, U⟩ := nums hr
  have q3 := U.b3; have q5 := U.b5; have q6 := U.b6; have q2 := U.b2
  have qA0 : 0 ≤ A := hr.1.1.1
  have hsz : (sizeP A T N L).toNat = 8 + t * sl + n + n * wd + nt := by rw [U.sz_]; rfl
  have hlen := allP_len hr
  have hL := layS_len A T N L (newMS (sizeP A T N L).toNat)
  rw [newMS_len] at hL
  have hN : (newMS (sizeP A T N L).toNat).W.length = 8 + t * sl + n + n * wd + nt := by rw [newMS_len, hsz]
  apply List.ext_getElem
  · rw [hL, List.length_map, hlen]
  intro j h1 h2
  have hj : j < 8 + t * sl + n + n * wd + nt := by omega
  have eR : ((allP A T N L).map (firstW A N L))[j]'h2 = firstW A N L (spAt sl wd (8 + t * sl) (8 + t * sl + n) (8 + t * sl + n + n * wd) j) := by
    rw [List.getElem_map]
    congr 1
    have := cat_at t n sl wd nt j hj
    rw [← U.all_, List.getElem?_eq_getElem (by omega)] at this
    exact Option.some.inj this
  rw [eR]
  have eL : (layS A T N L (newMS (sizeP A T N L).toNat)).W[j]'h1 = (layS A T N L (newMS (sizeP A T N L).toNat)).W.getD j 0 := by simp [List.getD, h1]
  rw [eL]
  have e3 := lay3_at U (newMS (sizeP A T N L).toNat) (by omega) j
  rw [newMS_at] at e3
  have l3 := lay3_len (A := A) (T := T) (N := N) (L := L) (newMS (sizeP A T N L).toNat)
  have eN := U.eN; have eLL := U.eL; have ese := U.se_
  have hl : L.toNat = l := by omega
  generalize newMS (sizeP A T N L).toNat = s0 at *
  unfold spAt
  by_cases hA : A = 0
  · have e0 := U.bA0 hA
    have : layS A T N L s0 = lay3 A T N L s0 := if_pos hA
    rw [this, e3]
    by_cases g1 : j < 8
    · rw [if_pos g1]
      rw [fw0]
      by_cases j0 : j = 0
      · rw [if_neg (by omega), if_neg (by omega), if_pos j0, if_pos (by omega)]; omega
      rw [if_neg (by omega : ¬ (j : Int) = 0)]
      by_cases j2 : j = 2
      · rw [if_pos j2, if_pos (by omega)]
      · rw [if_neg j2, if_neg (by omega), if_neg j0, if_neg (by omega)]
    rw [if_neg g1, if_neg (by omega)]
    by_cases g2 : j < 8 + t * sl
    · rw [if_pos g2, if_neg (by omega), if_neg (by omega)]; rfl
    rw [if_neg g2]
    by_cases g3 : j < 8 + t * sl + n
    · rw [if_pos g3]
      rw [fw2]
      by_cases g4 : j + 1 < 8 + t * sl + n
      · rw [if_pos (by omega), if_pos (by omega)]; omega
      · rw [if_neg (by omega), if_neg (by omega), if_neg (by omega)]
    rw [if_neg g3, if_neg (by omega), if_neg (by omega)]
    by_cases g4 : j < 8 + t * sl + n + n * wd
    · rw [if_pos g4, fw3, if_neg (by omega), if_neg (by omega), if_neg (by omega)]
    · rw [if_neg g4, fw4]
  · obtain ⟨ew, e2⟩ := U.bA hA
    have hA0 : A > 0 := by omega
    have hm : 3 * wd ≤ n * wd := Nat.mul_le_mul (by omega) (Nat.le_refl _)
    have : layS A T N L s0 = layN A T N L (stM (stM (lay3 A T N L s0) (nodeA A T N L 1 3) L) (nodeA A T N L 2 0) 18446744073709551615) L.toNat := if_neg hA
    have n1 : nodeA A T N L 1 3 = ((8 + t * sl + n + (1 - 1) * wd + 3 : Nat) : Int) := nodeA_of U 1 3 (by omega) (by omega) (by omega)
    have n2 : nodeA A T N L 2 0 = ((8 + t * sl + n + (2 - 1) * wd + 0 : Nat) : Int) := nodeA_of U 2 0 (by omega) (by omega) (by omega)
    rw [this, hl, layN_at U ew _ (by rw [stM_len, stM_len, l3]; omega) j l (by omega), n2, stM_at j (by omega) (by rw [stM_len, l3]; omega), n1, stM_at j (by omega) (by rw [l3]; omega), e3]
    by_cases g1 : j < 8
    · rw [if_pos g1, if_neg (by omega), if_neg (by omega), if_neg (by omega)]
      rw [fw0]
      by_cases j0 : j = 0
      · rw [if_neg (by omega), if_neg (by omega), if_pos j0, if_pos (by omega)]; omega
      rw [if_neg (by omega : ¬ (j : Int) = 0)]
      by_cases j2 : j = 2
      · rw [if_pos j2, if_pos (by omega)]
      · rw [if_neg j2, if_neg (by omega), if_neg j0, if_neg (by omega)]
    rw [if_neg g1]
    by_cases g2 : j < 8 + t * sl
    · rw [if_pos g2, if_neg (by omega), if_neg (by omega), if_neg (by omega), if_neg (by omega), if_neg (by omega), if_neg (by omega)]; rfl
    rw [if_neg g2]
    by_cases g3 : j < 8 + t * sl + n
    · rw [if_pos g3, if_neg (by omega), if_neg (by omega), if_neg (by omega), if_neg (by omega)]
      rw [fw2]
      by_cases g4 : 8 + t * sl + se ≤ j ∧ j + 1 < 8 + t * sl + n
      · rw [if_pos g4, if_pos (by omega)]; omega
      · rw [if_neg g4, if_neg (by omega), if_neg (by omega)]
    rw [if_neg g3]
    by_cases g4 : j < 8 + t * sl + n + n * wd
    · rw [if_pos g4]
      rw [fw3]
      obtain ⟨q, hq⟩ : ∃ q, j = 8 + t * sl + n + q := ⟨j - (8 + t * sl + n), by omega⟩
      have eq : j - (8 + t * sl + n) = q := by omega
      rw [eq]
      rw [if_neg (by omega : ¬ j = 2), if_neg (by omega : ¬ (8 + t * sl + se ≤ j ∧ j + 1 < 8 + t * sl + n)), if_neg (by omega : ¬ j = 0)]
      rcases Nat.lt_or_ge q wd with c1 | c1
      · rw [Nat.div_eq_of_lt c1, Nat.mod_eq_of_lt c1]
        by_cases d1 : 5 ≤ q
        · rw [if_pos (by omega), if_neg (by omega), if_pos (by omega)]
        rw [if_neg (by omega), if_neg (by omega)]
        by_cases d2 : q = 3
        · rw [if_pos (by omega), if_pos (by omega)]
        · rw [if_neg (by omega), if_neg (by omega), if_neg (by omega), if_neg (by omega)]
      rw [if_neg (by omega)]
      rcases Nat.lt_or_ge q (wd + wd) with c2 | c2
      · have d1 : q / wd = 1 := by rw [Nat.div_eq_of_lt_le] <;> omega
        have d2 : q % wd = q - wd := by
          have := Nat.div_add_mod q wd
          rw [d1] at this; omega
        rw [d1, d2]
        rw [if_neg (by omega : ¬ (A > 0 ∧ ((1 + 1 : Nat) : Int) = 1 ∧ ((q - wd : Nat) : Int) = 3)), if_neg (by omega : ¬ (A > 0 ∧ ((1 + 1 : Nat) : Int) = 1 ∧ ((q - wd : Nat) : Int) ≥ 5))]
        by_cases d3 : q = wd
        · rw [if_pos (by omega), if_pos (by omega)]
        · rw [if_neg (by omega), if_neg (by omega), if_neg (by omega)]
      · have d1 : 2 ≤ q / wd := by rw [Nat.le_div_iff_mul_le (by omega)]; omega
        generalize q / wd = qd at *
        rw [if_neg (by omega), if_neg (by omega), if_neg (by omega), if_neg (by omega), if_neg (by omega)]
    · rw [if_neg g4, if_neg (by omega), if_neg (by omega), if_neg (by omega), if_neg (by omega), if_neg (by omega), if_neg (by omega)]
      rfl
end Go.Proofs.Ytdomclcokkijjaa
