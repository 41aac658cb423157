/- The equality of structs of one-cell fields. -/
import Derived.Test.YtklbeipdigancaaV6
namespace Go.Proofs.Ytklbeipdigancaa
open Go.RowKit

inductive FK
  | i (k : IntKind)
  | b
  | s
def fitK : FK → Value → Bool
  | .i k, .int k' _ => (match decEq k k' with | .isTrue _ => true | .isFalse _ => false)
  | .b, .bool _ => true
  | .s, .string _ => true
  | _, _ => false
def fitsK : List FK → List Value → Bool
  | [], [] => true
  | k :: ks, v :: vs => (match fitK k v with | true => fitsK ks vs | false => false)
  | _, _ => false
def eqCell : Value → Value → Bool
  | .int _ a, .int _ b => a == b
  | .bool a, .bool b => a == b
  | .string a, .string b => a.toList == b.toList
  | _, _ => false
def eqCells : List Value → List Value → Bool
  | [], _ => true
  | _, [] => true
  | [a], [b] => eqCell a b
  | a :: l1, b :: l2 => eqCell a b && eqCells l1 l2
def okT (P : Program) (t : TypeId) : FK → Prop
  | .i k => P.underlying t = some (.int k)
  | .b => P.underlying t = some .bool
  | .s => P.underlying t = some .string
def fieldsOk (P : Program) : Nat → List Field → List FK → Prop
  | _, [], [] => True
  | n, f :: fs, k :: ks => f.offset = n ∧ (f.name == "_") = false ∧ okT P f.type k ∧ fieldsOk P (n + 1) fs ks
  | _, _, _ => False
def okTB (P : Program) (t : TypeId) (k : FK) : Bool :=
  match P.underlying t, k with
  | some (.int k'), .i k => decide (k' = k)
  | some .bool, .b => true
  | some .string, .s => true
  | _, _ => false
theorem okT_of {P : Program} {t : TypeId} {k : FK} (h : okTB P t k = true) : okT P t k := by
  unfold okTB at h
  split at h
  · rename_i k' k2 hu; simp only [decide_eq_true_eq] at h; subst h; exact hu
  · rename_i hu; exact hu
  · rename_i hu; exact hu
  · cases h
def fieldsOkB (P : Program) : Nat → List Field → List FK → Bool
  | _, [], [] => true
  | n, f :: fs, k :: ks => decide (f.offset = n) && !(f.name == "_") && okTB P f.type k && fieldsOkB P (n + 1) fs ks
  | _, _, _ => false
theorem fieldsOk_of {P : Program} : ∀ (fs : List Field) (ks : List FK) (n : Nat), fieldsOkB P n fs ks = true → fieldsOk P n fs ks
  | [], [], _, _ => trivial
  | f :: fs, k :: ks, n, h => by
    simp only [fieldsOkB, Bool.and_eq_true, decide_eq_true_eq, Bool.not_eq_true'] at h
    exact ⟨h.1.1.1, h.1.1.2, okT_of h.1.2, fieldsOk_of fs ks (n + 1) h.2⟩
  | [], _ :: _, _, h => by cases h
  | _ :: _, [], _, h => by cases h
class EqT (P : Program) (t : Nat) (ks : outParam (List FK)) : Prop where
  u : P.underlying t = some (.struct (P.fieldsOf t))
  f : fieldsOkB P 0 (P.fieldsOf t).toList ks = true
  guard : P.eqGuardType P.depth t = false
  held : P.stoodInHeld t = false

section
variable {P : Program} {w : World}
theorem okT_agg {t : TypeId} {k : FK} (h : okT P t k) (w : World) : (isAgg t).run P w = .ok false w := by
  cases k with
  | i k => have h : P.underlying t = some (.int k) := h; simp [isAgg, run_underlying h]
  | b => have h : P.underlying t = some .bool := h; simp [isAgg, run_underlying h]
  | s => have h : P.underlying t = some .string := h; simp [isAgg, run_underlying h]
theorem okT_eq {t : TypeId} {k : FK} (h : okT P t k) (d : Nat) {a b : Value} (ha : fitK k a = true) (hb : fitK k b = true) (w : World) : (Op.equalIn (d + 1) t a b).run P w = .ok (eqCell a b) w := by
  cases k with
  | i k =>
    cases a <;> simp only [fitK, Bool.false_eq_true] at ha
    cases b <;> simp only [fitK, Bool.false_eq_true] at hb
    split at ha
    · rename_i h1 _
      split at hb
      · rename_i h2 _
        subst h1; subst h2
        exact run_equalIn_int w d t _ k _ _ h
      · cases hb
    · cases ha
  | b =>
    cases a <;> simp only [fitK, Bool.false_eq_true] at ha
    cases b <;> simp only [fitK, Bool.false_eq_true] at hb
    exact run_equalIn_bool' w d t _ _ h
  | s =>
    cases a <;> simp only [fitK, Bool.false_eq_true] at ha
    cases b <;> simp only [fitK, Bool.false_eq_true] at hb
    exact run_equalIn_string w d t _ _ h
theorem fitsK_cons {k : FK} {ks : List FK} {l : List Value} (h : fitsK (k :: ks) l = true) : ∃ v vs, l = v :: vs ∧ fitK k v = true ∧ fitsK ks vs = true := by
  cases l with
  | nil => cases h
  | cons v vs =>
    simp only [fitsK] at h
    split at h
    · rename_i hk; exact ⟨v, vs, rfl, hk, h⟩
    · cases h
theorem eqFields_run (d : Nat) (xs ys : Array Value) : ∀ (fs : List Field) (ks : List FK) (n : Nat) (l1 l2 : List Value), fieldsOk P n fs ks → xs.toList.drop n = l1 → ys.toList.drop n = l2 → fitsK ks l1 = true → fitsK ks l2 = true →
    (Op.eqFields (d + 1) xs ys fs).run P w = .ok (eqCells l1 l2) w
  | [], [], n, l1, l2, _, _, _, ha, hb => by
    cases l1 <;> cases l2 <;> first | rfl | (cases ha) | (cases hb)
  | f :: fs, k :: ks, n, l1, l2, ⟨h1, h2, h3, h4⟩, hx, hy, ha, hb => by
    obtain ⟨a, l1, rfl, ha1, ha2⟩ := fitsK_cons ha
    obtain ⟨b, l2, rfl, hb1, hb2⟩ := fitsK_cons hb
    have ex : xs[n]? = some a := by
      have : (xs.toList.drop n)[0]? = some a := by rw [hx]; rfl
      simpa using this
    have ey : ys[n]? = some b := by
      have : (ys.toList.drop n)[0]? = some b := by rw [hy]; rfl
      simpa using this
    have hx' : xs.toList.drop (n + 1) = l1 := by rw [← List.drop_drop, hx]; rfl
    have hy' : ys.toList.drop (n + 1) = l2 := by rw [← List.drop_drop, hy]; rfl
    have ih := eqFields_run d xs ys fs ks (n + 1) l1 l2 h4 hx' hy' ha2 hb2
    have hn : ¬ f.name = "_" := by simpa using h2
    have e1 : (part f.type xs f.offset).run P w = .ok a w := by simp [part, okT_agg h3, h1, ex]
    have e2 : (part f.type ys f.offset).run P w = .ok b w := by simp [part, okT_agg h3, h1, ey]
    have e3 := okT_eq h3 d ha1 hb1 w
    have e4 : eqCells (a :: l1) (b :: l2) = (eqCell a b && eqCells l1 l2) := by
      cases l1 with
      | nil =>
        cases l2 with
        | nil => simp [eqCells]
        | cons => cases ks with
          | nil => simp [fitsK] at hb2
          | cons => simp [fitsK] at ha2
      | cons a' l1' => cases l2 <;> simp [eqCells]
    rw [e4]
    unfold Op.eqFields
    simp only [Sem.run_bind, Sem.run_ite, hn, ne_eq, not_false_eq_true, if_true, e1, e2, e3, Result.andThen_ok]
    cases eqCell a b
    · simp
    · simpa using ih
  | [], _ :: _, _, _, _, h, _, _, _, _ => h.elim
  | _ :: _, [], _, _, _, h, _, _, _, _ => h.elim

theorem eq_run {t : Nat} {ks : List FK} [EqT P t ks] {xs ys : Array Value} (hx : fitsK ks xs.toList = true) (hy : fitsK ks ys.toList = true) : (Op.equalIn 10000 t (.agg xs) (.agg ys)).run P w = .ok (eqCells xs.toList ys.toList) w := by
  rw [show (10000 : Nat) = 9999 + 1 from rfl, run_equalIn_struct w 9999 t xs ys (EqT.u (ks := ks)) (EqT.held (ks := ks))]
  exact eqFields_run 9998 xs ys _ ks 0 _ _ (fieldsOk_of _ _ _ EqT.f) (by simp) (by simp) hx hy
variable {K : Value → World → Prop}
theorem bin_agg {op : BinOp} {t : TypeId} {x y : Operand} {xs ys : Array Value} {v : Value} (hg : P.eqGuardType P.depth t = false) (h : (binOp op t (.agg xs) (.agg ys)).run P w = .ok v w) : (binSem op t x y (.agg xs) (.agg ys)).run P w = .ok v w := by
  unfold binSem
  rw [Sem.run_bind, run_eqGuard_agg w op t x y xs ys hg]
  exact h
theorem aq {t : Nat} {ks : List FK} [EqT P t ks] {x y : Operand} {xs ys : Array Value} (hx : fitsK ks xs.toList = true) (hy : fitsK ks ys.toList = true) (k : K (.bool (eqCells xs.toList ys.toList)) w) : RunP P (binSem .eql t x y (.agg xs) (.agg ys)) K w :=
  rn _ _ (bin_agg (EqT.guard (ks := ks)) (by rw [run_eql_struct, eq_run (ks := ks) hx hy]; rfl)) k
theorem anq {t : Nat} {ks : List FK} [EqT P t ks] {x y : Operand} {xs ys : Array Value} (hx : fitsK ks xs.toList = true) (hy : fitsK ks ys.toList = true) (k : K (.bool (!eqCells xs.toList ys.toList)) w) : RunP P (binSem .neq t x y (.agg xs) (.agg ys)) K w :=
  rn _ _ (bin_agg (EqT.guard (ks := ks)) (by rw [run_neq_struct, eq_run (ks := ks) hx hy]; rfl)) k
end
instance {a b : Bool} {p q : Prop} [i : BoolIs a p] [j : BoolIs b q] : BoolIs (a && b) (p ∧ q) := ⟨by have := i.h; have := j.h; cases a <;> cases b <;> simp_all⟩
instance {k k' : IntKind} {a b : Int} : BoolIs (eqCell (.int k a) (.int k' b)) (a = b) := ⟨by simp [eqCell]⟩
theorem eqCell_refl {k : FK} {a : Value} (h : fitK k a = true) : eqCell a a = true := by
  cases k <;> cases a <;> first | (simp [eqCell]; done) | (simp [fitK] at h)
theorem eqCells_refl : ∀ (ks : List FK) (l : List Value), fitsK ks l = true → eqCells l l = true
  | [], [], _ => rfl
  | k :: ks, l, h => by
    obtain ⟨v, vs, rfl, h1, h2⟩ := fitsK_cons h
    cases vs with
    | nil => exact eqCell_refl h1
    | cons u us => simp only [eqCells]; rw [eqCell_refl h1, eqCells_refl ks _ h2]; rfl
  | [], _ :: _, h => by cases h
end Go.Proofs.Ytklbeipdigancaa
