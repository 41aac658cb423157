/- Strings: sums, cuts, ranges over them; functions without a body. -/
import Derived.Test.YtklbeipdigancaaV9
import Derived.Laws.RangeAny
import Derived.Lib.Bytealg
namespace Go.Proofs.Ytklbeipdigancaa
open Go.RowKit
/-- an iterator over a string -/
def Itr (w : World) (g : Nat) (s : ByteArray) (p : Nat) : Prop := w.heap[g]? = some (.stringIter s p)
section
variable {P : Program} {K : Value → World → Prop} {w : World}
theorem sadd {t : Nat} {x y : Operand} {a b : ByteArray} (h : a.size + b.size ≤ 9223372036854775807) (k : K (.string (a ++ b)) w) : RunP P (binSem .add t x y (.string a) (.string b)) K w :=
  rn _ _ (by
    have : ¬ ((a.size + b.size : Nat) : Int) > IntKind.i64.max := by
      have e : IntKind.i64.max = 9223372036854775807 := rfl
      rw [e]; omega
    simp [binSem, eqGuard, binOp, Op.stringOp]
    omega) k
theorem s_lo {t : Nat} [StrT P t] {s : ByteArray} {k1 : IntKind} {i : Int} (a : Nat) (hi : i = (a : Int)) (ha : a ≤ s.size) (k : K (.string (s.extract a s.size)) w) : RunP P (Instr.sliceAt t (.string s) (some (.int k1 i)) none none) K w := by
  subst hi
  exact rn _ _ (by simp [Instr.sliceAt, Instr.slice, Instr.sliceBounds, Instr.sliceBound, asIntOf, run_underlying (StrT.u (P := P) (t := t)), ha]) k
theorem s_hi {t : Nat} [StrT P t] {s : ByteArray} {k1 : IntKind} {i : Int} (a : Nat) (hi : i = (a : Int)) (ha : a ≤ s.size) (k : K (.string (s.extract 0 a)) w) : RunP P (Instr.sliceAt t (.string s) none (some (.int k1 i)) none) K w := by
  subst hi
  exact rn _ _ (by simp [Instr.sliceAt, Instr.slice, Instr.sliceBounds, Instr.sliceBound, asIntOf, run_underlying (StrT.u (P := P) (t := t)), ha]) k
theorem s_lohi {t : Nat} [StrT P t] {s : ByteArray} {k1 k2 : IntKind} {i j : Int} (a b : Nat) (hi : i = (a : Int)) (hj : j = (b : Int)) (hab : a ≤ b) (hb : b ≤ s.size) (k : K (.string (s.extract a b)) w) : RunP P (Instr.sliceAt t (.string s) (some (.int k1 i)) (some (.int k2 j)) none) K w := by
  subst hi; subst hj
  exact rn _ _ (by simp [Instr.sliceAt, Instr.slice, Instr.sliceBounds, Instr.sliceBound, asIntOf, run_underlying (StrT.u (P := P) (t := t)), hab, hb]) k
/-- a function without a body -/
theorem ex {f : Nat} {args : Array Value} (v : Value) (w' : World) (h : (callFunc f args).run P w = .ok (.value v) w') (k : K v w') : CallP P f args K w := ⟨.inr ⟨v, w', h, k⟩⟩

theorem Itr.lt {g p : Nat} {s : ByteArray} (h : Itr w g s p) : g < w.heap.size := by
  rcases Nat.lt_or_ge g w.heap.size with hlt | hge
  · exact hlt
  · unfold Itr at h; rw [Array.getElem?_eq_none hge] at h; cases h
theorem Itr.upd {w' : World} {S : List Nat} {g p : Nat} {s : ByteArray} (h : Itr w g s p) (hu : Upd S w w') (hg : g ∉ S) : Itr w' g s p := (hu.block g h.lt hg).trans h
theorem rg {t : Nat} [StrT P t] {s : ByteArray} (k : ∀ w', Itr w' w.heap.size s 0 → Upd [] w w' → w'.heap.size = w.heap.size + 1 → K (.pointer (some ⟨w.heap.size, 0, none⟩)) w') : RunP P (Instr.range t (.string s)) K w :=
  rn _ _ (run_range_string w t s (StrT.u (P := P) (t := t))) (k _ (World.iter_heap w s 0) ((Upd.refl [] w).alloc _) (by simp [World.iter]))
theorem nx0 {ty g p : Nat} {s : ByteArray} (h : Itr w g s p) (hp : ¬ p < s.size) (k : K (.tuple #[.bool false]) w) : RunP P (Instr.next (.pointer (some ⟨g, 0, none⟩)) true ty) K w :=
  rn _ _ (by unfold Itr at h; simp [Instr.next, getObj, Sem.run, h, hp]) k
theorem nx1 {ty g p : Nat} {s : ByteArray} (h : Itr w g s p) (hp : p < s.size) (k : ∀ w', Itr w' g s (p + (Utf8.decode s p).2) → Upd [g] w w' → w'.heap.size = w.heap.size → K (.tuple #[.bool true, .int .i64 p, .int .i32 (Utf8.decode s p).1]) w') :
    RunP P (Instr.next (.pointer (some ⟨g, 0, none⟩)) true ty) K w := by
  have hlt := h.lt
  refine rn _ { w with heap := w.heap.setIfInBounds g (.stringIter s (p + (Utf8.decode s p).2)) } ?_ (k _ ?_ ?_ (by simp))
  · unfold Itr at h
    simp only [Instr.next, getObj, setObj, Sem.run_bind, Sem.run, h, Result.andThen, hp, if_true]
    simp [goInt]
  · unfold Itr; simp [hlt]
  · exact ⟨rfl, rfl, rfl, by simp, fun k _ hk => by simp only [List.mem_singleton] at hk; simp [Array.getElem?_setIfInBounds, Ne.symm hk]⟩
end
end Go.Proofs.Ytklbeipdigancaa
