/- Functions compared with nil; single cells of longer elements. -/
import Derived.Test.YtblngbagjieeiaaV17
namespace Go.Proofs.Ytblngbagjieeiaa
open Go.RowKit
class FnT (P : Program) (t : Nat) : Prop where
  u : ∃ a b c, P.underlying t = some (.func a b c)
section
variable {P : Program} {K : Value → World → Prop} {w : World}
theorem equalIn_fn {t : Nat} [FnT P t] (d : Nat) {f : Go.Fn} {xs ys : Array Value} : (Op.equalIn (d + 1) t (.func f xs ys) .nilFunc).run P w = .ok false w := by
  obtain ⟨a, b, c, h⟩ := FnT.u (P := P) (t := t)
  simp [Op.equalIn, run_underlying h]
theorem equalIn_fn0 {t : Nat} [FnT P t] (d : Nat) : (Op.equalIn (d + 1) t .nilFunc .nilFunc).run P w = .ok true w := by
  obtain ⟨a, b, c, h⟩ := FnT.u (P := P) (t := t)
  simp [Op.equalIn, run_underlying h]
theorem equal_fn {t : Nat} [FnT P t] {f : Go.Fn} {xs ys : Array Value} : (Op.equal t (.func f xs ys) .nilFunc).run P w = .ok false w := equalIn_fn 9999
theorem equal_fn0 {t : Nat} [FnT P t] : (Op.equal t .nilFunc .nilFunc).run P w = .ok true w := equalIn_fn0 9999
theorem fn_eq {t : Nat} [FnT P t] {x y : Operand} {f : Go.Fn} {xs ys : Array Value} (k : K (.bool false) w) : RunP P (binSem .eql t x y (.func f xs ys) .nilFunc) K w :=
  rn _ _ (bin_of rfl (by simp only [binOp]; simp [equal_fn])) k
theorem fn_eq0 {t : Nat} [FnT P t] {x y : Operand} (k : K (.bool true) w) : RunP P (binSem .eql t x y .nilFunc .nilFunc) K w :=
  rn _ _ (bin_of rfl (by simp only [binOp]; simp [equal_fn0])) k
theorem stC {t e size : Nat} [One P t] {K : World → Prop} {v u : Value} {n : Nat} {xs : List Value} {g o c : Nat} (j : Nat) {a : Nat} (h : Sl w e size v n xs) (hv : v = .slice (some ⟨g, o, none⟩) n c) (hj : j < n * size) (ha : a = o + j) (hu : u.oneCell' = true)
    (k : ∀ w', Sl w' e size v n (xs.set j u) → Upd [g] w w' → w'.heap.size = w.heap.size → K w') : RunU P (Instr.storeAt t (.pointer (some ⟨g, a, none⟩)) u) K w := by
  have h1 := h.cells hv j hj
  have h2 : j < xs.length := by rw [h.1]; omega
  subst ha
  exact ⟨⟨_, run_store1 (u := xs[j]) (by rw [h1.1]; simp [h2]) h1.2 hu, k _ (h.store hv j hj u) ((Upd.refl [g] w).setCell (.inl (by simp)) u) (by simp [World.setCell])⟩⟩
end
end Go.Proofs.Ytblngbagjieeiaa
