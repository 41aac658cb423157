/- Histories: the plain law. -/
import Derived.Test.YtblngbagjieeiaaV22
import Derived.Test.YtblngbagjieeiaaV23
namespace Go.Proofs.Ytblngbagjieeiaa
open Go.RowKit
attribute [local irreducible] Instr.loadAt Instr.storeAt Instr.fieldAt Instr.indexAt Instr.sliceAt Instr.buildSlice Instr.box Instr.alloc Builtin.append_ Builtin.len_ Builtin.min_ Builtin.max_ Calls Instr.build Instr.makeSlice binSem convert Instr.index Instr.range Instr.next
abbrev C3 := Int × Int × Int
structure EvD where
  th : Int
  bk : Bool
  c : C3
  a : C3
def z3 : C3 := (0, 0, 0)
def evZ : EvD := ⟨0, false, z3, z3⟩
def rightC3 (x : C3) : Prop := x.1 = 0 ∨ ((x.1 = 1 ∨ x.1 = 2) ∧ x.2.1 = 0 ∧ x.2.2 = 0)
def rightA3 (x : C3) : Prop := x.1 = 2 ∨ ((x.1 = 0 ∨ x.1 = 1 ∨ x.1 = 3) ∧ x.2.1 = 0 ∧ x.2.2 = 0)
def fits3 (c a : C3) : Prop := rightC3 c ∧ rightA3 a ∧ (c.1 = 0 ↔ (a.1 = 0 ∨ a.1 = 1))
instance (x : C3) : Decidable (rightC3 x) := by unfold rightC3; exact inferInstance
instance (x : C3) : Decidable (rightA3 x) := by unfold rightA3; exact inferInstance
instance (c a : C3) : Decidable (fits3 c a) := by unfold fits3; exact inferInstance
def thereP (n : Int) : Prop := 0 ≤ n ∧ n < 6
instance (n : Int) : Decidable (thereP n) := by unfold thereP; exact inferInstance
abbrev BF := Int → Option C3
def stepF (f : BF) (e : EvD) : BF := fun k => if k = e.th then (if e.bk then none else some e.c) else f k
def fOf (l : List EvD) : BF := l.foldl stepF (fun _ => none)
theorem fOf_app (l : List EvD) (e : EvD) : fOf (l ++ [e]) = stepF (fOf l) e := by unfold fOf; rw [List.foldl_append]; rfl
theorem fOf_nil : fOf [] = fun _ => none := rfl
def invE (f : BF) (th : Int) (c : C3) : Int := if ¬ thereP th then 2 else if ¬ rightC3 c then 1 else if (f th).isSome then 5 else 0
def resE (f : BF) (th : Int) (a : C3) : Int := if ¬ thereP th then 2 else match f th with
  | none => 4
  | some c => if fits3 c a then 0 else 1
/-- the place of a thread's call ahead of place n, that isn't answered there; -1: there is none -/
def opn (l : List EvD) (th : Int) : Nat → Int
  | 0 => -1
  | n + 1 => if (l.getD n evZ).th = th then (if (l.getD n evZ).bk then -1 else (n : Int)) else opn l th n
theorem take_snoc {α : Type} (d : α) (l : List α) (n : Nat) (h : n < l.length) : l.take (n + 1) = l.take n ++ [l.getD n d] := by
  rw [List.take_add_one, List.getElem?_eq_getElem h]
  simp [List.getD, h]
theorem opn_spec (l : List EvD) (th : Int) : ∀ n, n ≤ l.length → (fOf (l.take n) th = none ∧ opn l th n = -1) ∨ ∃ k : Nat, k < n ∧ opn l th n = (k : Int) ∧ fOf (l.take n) th = some (l.getD k evZ).c ∧ (l.getD k evZ).bk = false ∧ (l.getD k evZ).th = th
  | 0, _ => .inl ⟨rfl, rfl⟩
  | n + 1, h => by
    rw [take_snoc evZ l n (by omega), fOf_app]
    unfold opn stepF
    by_cases ht : (l.getD n evZ).th = th
    · rw [if_pos ht.symm, if_pos ht]
      cases hb : (l.getD n evZ).bk with
      | true => exact .inl ⟨by simp, by simp⟩
      | false => exact .inr ⟨n, by omega, by simp, by simp, hb, ht⟩
    · rw [if_neg (fun h => ht h.symm), if_neg ht]
      rcases opn_spec l th n (by omega) with h1 | ⟨k, h1, h2⟩
      · exact .inl h1
      · exact .inr ⟨k, by omega, h2⟩
/-- what may be said of an event behind those ahead of it -/
def evE (f : BF) (e : EvD) : Int := if e.bk then resE f e.th e.a else invE f e.th e.c
def mayE (l : List EvD) (n : Nat) : Int := evE (fOf (l.take n)) (l.getD n evZ)
def nullP (e : EvD) : Prop := if e.bk then e.c = z3 else e.a = z3
instance (e : EvD) : Decidable (nullP e) := by unfold nullP; exact inferInstance
def rightH (l : List EvD) : Prop := ∀ i, i < l.length → mayE l i = 0 ∧ nullP (l.getD i evZ)
theorem getD_app_lt {α : Type} {d : α} {l m : List α} {i : Nat} (h : i < l.length) : (l ++ m).getD i d = l.getD i d := by
  simp [List.getD, List.getElem?_append_left h]
theorem getD_app_eq {α : Type} {d x : α} {l : List α} : (l ++ [x]).getD l.length d = x := by simp [List.getD]
theorem mayE_app {l : List EvD} {e : EvD} : mayE (l ++ [e]) l.length = evE (fOf l) e := by
  unfold mayE
  rw [getD_app_eq, List.take_left' rfl]
theorem mayE_lt {l m : List EvD} {i : Nat} (h : i < l.length) : mayE (l ++ m) i = mayE l i := by
  unfold mayE
  rw [getD_app_lt h, List.take_append_of_le_length (by omega)]
theorem rightH_app {l : List EvD} {e : EvD} (h : rightH l) (h1 : evE (fOf l) e = 0) (h2 : nullP e) : rightH (l ++ [e]) := fun i hi => by
  rcases Nat.lt_or_ge i l.length with h3 | h3
  · rw [mayE_lt h3, getD_app_lt h3]; exact h i h3
  · have : i = l.length := by simp at hi; omega
    subst this
    rw [mayE_app, getD_app_eq]; exact ⟨h1, h2⟩
theorem rightH_nil : rightH [] := fun i hi => absurd hi (by simp)
/-- whom a thread's events say busy -/
theorem busy_last (l : List EvD) (e : EvD) (th : Int) : (fOf (l ++ [e]) th).isSome = if e.th = th then !e.bk else (fOf l th).isSome := by
  rw [fOf_app]
  unfold stepF
  by_cases h : th = e.th
  · rw [if_pos h, if_pos h.symm]
    cases e.bk <;> rfl
  · rw [if_neg h, if_neg (fun h2 => h h2.symm)]
end Go.Proofs.Ytblngbagjieeiaa
