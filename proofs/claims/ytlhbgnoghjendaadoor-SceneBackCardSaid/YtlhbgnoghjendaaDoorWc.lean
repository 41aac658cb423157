/- Which configuration a text is: the plain law; the walk of conf.Parse. -/
import Derived.Test.YtlhbgnoghjendaaDoorWb
namespace Go.Proofs.YtlhbgnoghjendaaDoor
open Go.RowKit
attribute [local irreducible] Instr.loadAt Instr.storeAt Instr.fieldAt Instr.indexAt Instr.sliceAt Instr.buildSlice Instr.box Instr.alloc Builtin.append_ Builtin.len_ Builtin.min_ Builtin.max_ Calls Instr.build Instr.makeSlice binSem convert Instr.index Instr.range Instr.next
def joinC (c : UInt8) : List (List UInt8) → List UInt8
  | [] => []
  | [p] => p
  | p :: q :: r => p ++ c :: joinC c (q :: r)
theorem join_parts (c : UInt8) : ∀ (l : List UInt8), joinC c (partsC c l) = l
  | [] => rfl
  | x :: l => by
    have ih := join_parts c l
    have hne := partsC_ne c l
    unfold partsC
    split
    · rename_i h; subst h
      cases hp : partsC x l with
      | nil => exact absurd hp hne
      | cons q r => rw [hp] at ih; simp [joinC, ih]
    · cases hp : partsC c l with
      | nil => exact absurd hp hne
      | cons q r =>
        rw [hp] at ih
        cases r with
        | nil => simp [joinC] at ih ⊢; exact ih
        | cons q2 r2 => simp [joinC] at ih ⊢; exact ih
def kindB (A : Int) : List UInt8 := toB (kindL A)
def nameB (j : Nat) : List UInt8 := toB (nameL j)
def numB' (c : Cf) (j : Nat) : List UInt8 := decU ((cfL c).getD j 0).toNat
def confU (c : Cf) : List UInt8 := toB (confL c)
def partsU (c : Cf) : List (List UInt8) := [kindB c.A, nameB 1, numB' c 1, nameB 2, numB' c 2, nameB 3, numB' c 3, nameB 4, numB' c 4, nameB 5, numB' c 5, nameB 6, numB' c 6]
theorem confU_join (c : Cf) : confU c = joinC 32 (partsU c) := by
  have hcons : ∀ l : List Int, toB (32 :: l) = 32 :: toB l := fun l => rfl
  unfold confU confL
  simp only [tailL, partL, toB_app, joinC, partsU, kindB, nameB, numB', decU, List.append_assoc, hcons, List.nil_append, List.cons_append]
theorem kindB_no (A : Int) : (32 : UInt8) ∉ kindB A := by
  unfold kindB kindL
  split
  · decide
  · split <;> decide
theorem nameB_no (j : Nat) : (32 : UInt8) ∉ nameB j := by
  rcases Nat.lt_or_ge j 7 with h | h
  · rcases (show j = 0 ∨ j = 1 ∨ j = 2 ∨ j = 3 ∨ j = 4 ∨ j = 5 ∨ j = 6 by omega) with rfl | rfl | rfl | rfl | rfl | rfl | rfl <;> decide
  · unfold nameB nameL; simp [List.getD, h, toB]
theorem parts_join (c : UInt8) : ∀ (ps : List (List UInt8)), ps ≠ [] → (∀ p ∈ ps, c ∉ p) → partsC c (joinC c ps) = ps
  | [], h, _ => absurd rfl h
  | [p], _, h => partsC_none c p (h p (by simp))
  | p :: q :: r, _, h => by
    show partsC c (p ++ c :: joinC c (q :: r)) = _
    rw [partsC_app c p _ (h p (by simp)), parts_join c (q :: r) (by simp) (fun x hx => h x (List.mem_cons_of_mem _ hx))]
theorem conf_parts (c : Cf) : partsC 32 (confU c) = partsU c := by
  rw [confU_join, parts_join 32 _ (by simp [partsU])]
  intro p hp
  simp only [partsU, List.mem_cons, List.not_mem_nil, or_false] at hp
  rcases hp with rfl | rfl | rfl | rfl | rfl | rfl | rfl | rfl | rfl | rfl | rfl | rfl | rfl <;> first | exact kindB_no _ | exact nameB_no _ | exact dec_no32 _
/-- a part's name and its number are those of place i -/
def goodAt (ps : List (List UInt8)) (i : Nat) (n : Int) : Prop := (∃ k : Nat, k < 4294967296 ∧ n = k ∧ ps.getD (2 * i) [] = decU k) ∧ ps.getD (2 * i - 1) [] = nameB i
theorem list13 {α : Type} {l : List α} (h : l.length = 13) (d : α) : l = [l.getD 0 d, l.getD 1 d, l.getD 2 d, l.getD 3 d, l.getD 4 d, l.getD 5 d, l.getD 6 d, l.getD 7 d, l.getD 8 d, l.getD 9 d, l.getD 10 d, l.getD 11 d, l.getD 12 d] := by
  match l, h with
  | [a0, a1, a2, a3, a4, a5, a6, a7, a8, a9, a10, a11, a12], _ => rfl
theorem good_num {ps : List (List UInt8)} {c : Cf} {i : Nat} (h : goodAt ps i ((cfL c).getD i 0)) : ps.getD (2 * i) [] = numB' c i := by
  obtain ⟨⟨k, -, hk, he⟩, -⟩ := h
  rw [he]; unfold numB'; rw [hk]; simp
theorem conf_fwd {l : List UInt8} {c : Cf} (h13 : (partsC 32 l).length = 13) (h0 : (partsC 32 l).getD 0 [] = kindB c.A) (h : ∀ i, 1 ≤ i → i < 7 → goodAt (partsC 32 l) i ((cfL c).getD i 0)) : l = confU c := by
  rw [confU_join, ← join_parts 32 l]
  refine congrArg (joinC 32) ?_
  generalize partsC 32 l = ps at *
  rw [list13 h13 []]
  have n1 := good_num (h 1 (by omega) (by omega)); have m1 := (h 1 (by omega) (by omega)).2
  have n2 := good_num (h 2 (by omega) (by omega)); have m2 := (h 2 (by omega) (by omega)).2
  have n3 := good_num (h 3 (by omega) (by omega)); have m3 := (h 3 (by omega) (by omega)).2
  have n4 := good_num (h 4 (by omega) (by omega)); have m4 := (h 4 (by omega) (by omega)).2
  have n5 := good_num (h 5 (by omega) (by omega)); have m5 := (h 5 (by omega) (by omega)).2
  have n6 := good_num (h 6 (by omega) (by omega)); have m6 := (h 6 (by omega) (by omega)).2
  simp only [show 2 * 1 = 2 from rfl, show 2 * 2 = 4 from rfl, show 2 * 3 = 6 from rfl, show 2 * 4 = 8 from rfl, show 2 * 5 = 10 from rfl, show 2 * 6 = 12 from rfl, show 2 - 1 = 1 from rfl, show 4 - 1 = 3 from rfl, show 6 - 1 = 5 from rfl, show 8 - 1 = 7 from rfl, show 10 - 1 = 9 from rfl, show 12 - 1 = 11 from rfl] at n1 n2 n3 n4 n5 n6 m1 m2 m3 m4 m5 m6
  rw [h0, n1, n2, n3, n4, n5, n6, m1, m2, m3, m4, m5, m6]
  rfl
theorem conf_bwd {c : Cf} (hc : rightC c) (i : Nat) (h1 : 1 ≤ i) (h7 : i < 7) : goodAt (partsU c) i ((cfL c).getD i 0) := by
  have hb := right_bd hc i h7
  refine ⟨⟨((cfL c).getD i 0).toNat, by omega, by omega, ?_⟩, ?_⟩ <;>
  rcases (show i = 1 ∨ i = 2 ∨ i = 3 ∨ i = 4 ∨ i = 5 ∨ i = 6 by omega) with rfl | rfl | rfl | rfl | rfl | rfl <;> rfl
/-- the kind's number: the last one of the first j that x is -/
def kix (x : List UInt8) : Nat → Int
  | 0 => -1
  | j + 1 => if x = kindB (j : Int) then (j : Int) else kix x j
theorem kix_kind (A : Int) (h : 0 ≤ A ∧ A ≤ 2) : kix (kindB A) 3 = A := by
  rcases (show A = 0 ∨ A = 1 ∨ A = 2 by omega) with rfl | rfl | rfl <;> decide
theorem kix_back {x : List UInt8} {A : Int} (h : kix x 3 = A) (h0 : 0 ≤ A) : x = kindB A := by
  unfold kix at h
  split at h
  · rename_i e; rw [e, ← h]
  · unfold kix at h
    split at h
    · rename_i e; rw [e, ← h]
    · unfold kix at h
      split at h
      · rename_i e; rw [e, ← h]
      · unfold kix at h; omega
theorem right_A {c : Cf} (h : rightC c) : 0 ≤ c.A ∧ c.A ≤ 2 := by
  obtain ⟨A, T, N, L, B, P, S⟩ := c
  exact h.1.1
theorem confU_inj {c d : Cf} (hc : rightC c) (hd : rightC d) (h : confU c = confU d) : c = d := by
  have hp : partsU c = partsU d := by rw [← conf_parts, ← conf_parts, h]
  have hA : c.A = d.A := by
    have e : kindB c.A = kindB d.A := by injection hp
    rw [← kix_kind c.A (right_A hc), ← kix_kind d.A (right_A hd), e]
  have hn : ∀ i, 1 ≤ i → i < 7 → (cfL c).getD i 0 = (cfL d).getD i 0 := fun i h1 h7 => by
    obtain ⟨⟨k, hk, hck, e1⟩, -⟩ := conf_bwd hc i h1 h7
    obtain ⟨⟨m, hm, hdm, e2⟩, -⟩ := conf_bwd hd i h1 h7
    rw [hp, e2] at e1
    have := congrArg valL e1
    rw [decU_val, decU_val] at this
    omega
  obtain ⟨A, T, N, L, B, P, S⟩ := c
  obtain ⟨A', T', N', L', B', P', S'⟩ := d
  have h1 := hn 1 (by omega) (by omega); have h2 := hn 2 (by omega) (by omega); have h3 := hn 3 (by omega) (by omega)
  have h4 := hn 4 (by omega) (by omega); have h5 := hn 5 (by omega) (by omega); have h6 := hn 6 (by omega) (by omega)
  simp [cfL] at h1 h2 h3 h4 h5 h6
  have hA : A = A' := hA
  subst hA; subst h1; subst h2; subst h3; subst h4; subst h5; subst h6
  rfl
theorem parts_le (c : UInt8) : ∀ (l p : List UInt8), p ∈ partsC c l → p.length ≤ l.length
  | [], p, h => by simp [partsC] at h; simp [h]
  | x :: l, p, h => by
    have ih := parts_le c l
    unfold partsC at h
    split at h
    · rcases List.mem_cons.1 h with rfl | h
      · simp
      · have := ih p h; simp; omega
    · rcases List.mem_cons.1 h with rfl | h
      · have hm : (partsC c l).headD [] ∈ partsC c l := by
          cases hp : partsC c l with
          | nil => exact absurd hp (partsC_ne c l)
          | cons q r => simp
        have := ih _ hm
        rw [List.length_cons, List.length_cons]; omega
      · have := ih p (List.mem_of_mem_tail h); simp; omega
end Go.Proofs.YtlhbgnoghjendaaDoor
