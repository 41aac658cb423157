/- Bytes: arrays by value, bytes made to strings. -/
import Derived.Test.YtklbeipdigancaaV8
import Derived.Laws.BytesArg
namespace Go.Proofs.Ytklbeipdigancaa
open Go.RowKit
section
variable {P : Program} {K : Value → World → Prop} {w : World}
/-- an element of an array by value -/
theorem ixv {t len e : Nat} [ArrT P t len e 1] [One P e] {cs : Array Value} {k' : IntKind} {i : Int} {v : Value} (j : Nat) (hi : i = (j : Int)) (hj : j < len) (h : cs.toList[j]? = some v) (k : K v w) : RunP P (Instr.index t (.agg cs) (.int k' i)) K w := by
  subst hi
  have h1 : (0 : Int) ≤ (j : Int) ∧ (j : Int) < (len : Int) := by omega
  have h5 : cs[j]? = some v := by simpa using h
  exact rn v w (by simp [Instr.index, asIntOf, run_underlying (ArrT.u (P := P) (t := t) (len := len) (e := e) (n := 1)), hj, ArrT.size (P := P) (t := t) (len := len) (e := e) (n := 1), part, One.agg, h5]) k
/-- bytes made a string -/
theorem cvb {s d e : Nat} [SlT P s e 1] [IntT P e .u8] [StrT P d] {b o cap len : Nat} (xs : List Int) (hl : xs.length = len) (h : ∀ i, i < len → w.cell? ⟨b, o + i, none⟩ = some (.int .u8 (xs.getD i 0))) (k : K (.string (strOfNums xs)) w) : RunP P (convert s d (.slice (some ⟨b, o, none⟩) len cap)) K w :=
  rn _ _ (run_convert_bytes_arg w s e (SlT.u (P := P) (t := s) (e := e) (n := 1)) (IntT.u (P := P) (t := e) (k := .u8)) b o len cap xs hl h d StrT.u) k
theorem Sl.bytes {e : TypeId} {v : Value} {g o c n : Nat} {xs : List Int} (h : Sl w e 1 v n (xs.map (.int .u8))) (hv : v = .slice (some ⟨g, o, none⟩) n c) : ∀ i, i < n → w.cell? ⟨g, o + i, none⟩ = some (.int .u8 (xs.getD i 0)) := by
  intro i hi
  rw [(h.cells hv i (by omega)).1]
  have : xs.length = n := by have := h.1; simpa using this
  simp [List.getD, show i < xs.length by omega]
end
end Go.Proofs.Ytklbeipdigancaa
