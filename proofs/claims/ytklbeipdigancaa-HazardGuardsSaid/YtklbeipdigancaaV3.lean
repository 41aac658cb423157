/- The reader's rules for operations. -/
import Derived.Test.YtklbeipdigancaaV2
import Derived.Test.YtklbeipdigancaaSlice
import Derived.IntWalk
import Derived.Laws.Pointers
import Derived.Laws.StructEq
namespace Go.Proofs.Ytklbeipdigancaa
open Go.RowKit

class FOff (P : Program) (s f : Nat) (off : outParam Nat) : Prop where
  h : ∀ b o w, (Instr.fieldAt s (.pointer (some ⟨b, o, none⟩)) f).run P w = .ok (.pointer (some ⟨b, o + off, none⟩)) w
class One (P : Program) (t : Nat) : Prop where
  agg : ∀ w, (isAgg t).run P w = .ok false w
  size : ∀ w, (sizeOf t).run P w = .ok 1 w
class SlT (P : Program) (t : Nat) (e n : outParam Nat) : Prop where
  u : P.underlying t = some (.slice e)
  size : ∀ w, (sizeOf e).run P w = .ok n w
class StrT (P : Program) (t : Nat) : Prop where
  u : P.underlying t = some .string
class PtrT (P : Program) (t : Nat) : Prop where
  u : P.underlying t = some (.pointer (P.pointee t))
class ElemT (P : Program) (e : Nat) (n bytes : outParam Nat) : Prop where
  h : ∃ i z, P.info? e = some i ∧ i.zero = some z ∧ i.size = n ∧ i.bytes = bytes ∧ z.cells.size = n ∧ 0 < n
class HasBody (P : Program) (f : Nat) : Prop where
  h : ∀ args w, (callFunc f args).run P w = .ok (.enter f args) w

section
variable {P : Program} {K : Value → World → Prop} {w : World}

theorem rn (v : Value) (w' : World) {s : Sem Value} (h : s.run P w = .ok v w') (k : K v w') : RunP P s K w := ⟨⟨v, w', h, k⟩⟩
theorem fa {s f off b o : Nat} [FOff P s f off] (k : K (.pointer (some ⟨b, o + off, none⟩)) w) : RunP P (Instr.fieldAt s (.pointer (some ⟨b, o, none⟩)) f) K w := rn _ _ (FOff.h b o w) k
theorem ld {t : Nat} [One P t] {a : Addr} {v : Value} (h : w.cell? a = some v) (k : K v w) : RunP P (Instr.loadAt t (.pointer (some a))) K w :=
  rn v w (by simp [Instr.loadAt, Instr.sureAddr, loadVar, One.agg, h]) k
theorem ldb {t : Nat} [One P t] {g T i : Nat} {cs : Array Value} {v : Value} (hb : Blk w g T cs) (h : cs.toList[i]? = some v) (k : K v w) : RunP P (Instr.loadAt t (.pointer (some ⟨g, i, none⟩))) K w := ld (by rw [hb.cell]; simpa using h) k
theorem cl {f : Nat} {args : Array Value} {R : Value → World → Prop} [HasBody P f] (h : Fn P f args w R) (k : ∀ v w', R v w' → K v w') : CallP P f args K w :=
  ⟨.inl ⟨HasBody.h args w, h.mono fun _ _ ⟨v, he, hr⟩ => ⟨v, he, k _ _ hr⟩⟩⟩
theorem ix {t e n : Nat} [SlT P t e n] {b o len cap : Nat} {k' : IntKind} {i : Int} (j : Nat) (hi : i = (j : Int)) (hj : j < len) (k : K (.pointer (some ⟨b, o + j * n, none⟩)) w) :
    RunP P (Instr.indexAt t (.slice (some ⟨b, o, none⟩) len cap) (.int k' i)) K w := by
  subst hi
  have h1 : (0 : Int) ≤ (j : Int) ∧ (j : Int) < (len : Int) := by omega
  exact rn _ _ (by simp [Instr.indexAt, asIntOf, run_underlying (SlT.u (P := P) (t := t) (e := e) (n := n)), hj, SlT.size (P := P) (t := t) (e := e) (n := n), Addr.add_lit]) k
theorem len_sl {t e n ty : Nat} [SlT P t e n] {a : Option Addr} {len cap : Nat} (k : K (.int .i64 len) w) : RunP P (Builtin.len_ #[t] ty #[.slice a len cap]) K w :=
  rn _ _ (by simp [Builtin.len_, run_underlying (SlT.u (P := P) (t := t) (e := e) (n := n)), goInt]) k
theorem len_str {t ty : Nat} [StrT P t] {s : ByteArray} (k : K (.int .i64 s.size) w) : RunP P (Builtin.len_ #[t] ty #[.string s]) K w :=
  rn _ _ (by simp [Builtin.len_, run_underlying (StrT.u (P := P) (t := t)), goInt]) k
theorem ar {k' : IntKind} {n : Int} (h : k'.wrap n = n) (k : K (.int k' n) w) : ValP k' (k'.wrap n) K w := ⟨by rw [h]; exact k⟩
theorem ar64 {n : Int} (h : -9223372036854775808 ≤ n ∧ n ≤ 9223372036854775807) (k : K (.int .i64 n) w) : ValP .i64 (IntKind.i64.wrap n) K w := ar (IntWalk.i64_in n h) k
theorem arU {n : Int} (h : 0 ≤ n ∧ n ≤ 18446744073709551615) (k : K (.int .u64 n) w) : ValP .u64 (IntKind.u64.wrap n) K w := ar (by rw [IntKind.wrap_u64]; omega) k
theorem ar8 {n : Int} (h : 0 ≤ n ∧ n ≤ 255) (k : K (.int .u8 n) w) : ValP .u8 (IntKind.u8.wrap n) K w := ar (IntWalk.u8_in n h) k
theorem ar32 {n : Int} (h : 0 ≤ n ∧ n ≤ 4294967295) (k : K (.int .u32 n) w) : ValP .u32 (IntKind.u32.wrap n) K w := ar (by rw [IntKind.wrap_u32]; omega) k
theorem val {k' : IntKind} {n : Int} (m : Int) (h : n = m) (k : K (.int k' m) w) : ValP k' n K w := ⟨h ▸ k⟩
theorem bin_of {op : BinOp} {t : TypeId} {x y : Operand} {a b v : Value} {w' : World} (h1 : eqGuard op t x y a b = pure ()) (h2 : (binOp op t a b).run P w = .ok v w') : (binSem op t x y a b).run P w = .ok v w' := by
  unfold binSem
  rw [h1]
  exact h2
theorem ptr_ne {t : Nat} [PtrT P t] {x y : Operand} {a : Addr} (k : K (.bool true) w) : RunP P (binSem .neq t x y (.pointer (some a)) (.pointer none)) K w := rn _ _ (bin_of rfl (run_neq_pointer_nil w t (some a) PtrT.u)) k
theorem ptr_ne0 {t : Nat} [PtrT P t] {x y : Operand} (k : K (.bool false) w) : RunP P (binSem .neq t x y (.pointer none) (.pointer none)) K w := rn _ _ (bin_of rfl (run_neq_pointer_nil w t none PtrT.u)) k
theorem ptr_eq {t : Nat} [PtrT P t] {x y : Operand} {a : Addr} (k : K (.bool false) w) : RunP P (binSem .eql t x y (.pointer (some a)) (.pointer none)) K w := rn _ _ (bin_of rfl (run_eql_pointer_nil w t (some a) PtrT.u)) k
theorem ptr_eq0 {t : Nat} [PtrT P t] {x y : Operand} (k : K (.bool true) w) : RunP P (binSem .eql t x y (.pointer none) (.pointer none)) K w := rn _ _ (bin_of rfl (run_eql_pointer_nil w t none PtrT.u)) k

/-! new blocks -/
theorem nb {s : Sem Value} {v : Value} {t : Nat} (cs : Array Value) (h : s.run P w = .ok v (w.alloc (.cells cs t))) (k : ∀ w', Blk w' w.heap.size t cs → Upd [] w w' → w'.heap.size = w.heap.size + 1 → K v w') : RunP P s K w :=
  rn _ _ h (k _ (Blk.new w t cs) ((Upd.refl [] w).alloc _) (by simp))
theorem bx {t : Nat} {v : Value} (k : ∀ w', Blk w' w.heap.size t v.cells → Upd [] w w' → w'.heap.size = w.heap.size + 1 → K (.pointer (some ⟨w.heap.size, 0, none⟩)) w') : RunP P (Instr.box t v) K w := nb v.cells rfl k
theorem bs {t e m n : Nat} [SlT P t e m] {ps : Array (Nat × Value)} (cs : Array Value) (h : ∀ w, (Instr.buildSlice t n ps).run P w = .ok (.slice (some ⟨w.heap.size, 0, none⟩) n n) (w.alloc (.cells cs e)))
    (k : ∀ w', Blk w' w.heap.size e cs → Upd [] w w' → w'.heap.size = w.heap.size + 1 → K (.slice (some ⟨w.heap.size, 0, none⟩) n n) w') : RunP P (Instr.buildSlice t n ps) K w := nb cs (h w) k
theorem al {t : Nat} (cs : Array Value) (h : ∀ w, (Instr.alloc t true (.tuple #[])).run P w = .ok (.pointer (some ⟨w.heap.size, 0, none⟩)) (w.alloc (.cells cs t)))
    (k : ∀ w', Blk w' w.heap.size t cs → Upd [] w w' → w'.heap.size = w.heap.size + 1 → K (.pointer (some ⟨w.heap.size, 0, none⟩)) w') : RunP P (Instr.alloc t true (.tuple #[])) K w := nb cs (h w) k

/-! stores -/
theorem run_store1 {t : Nat} [One P t] {a : Addr} {u v : Value} (h : w.cell? a = some u) (hf : w.frozen? a = false) (hv : v.oneCell' = true) : (Instr.storeAt t (.pointer (some a)) v).run P w = .ok () (w.setCell a v) := by
  have h1 : v.cells = #[v] := by cases v <;> first | rfl | cases hv
  have h2 : (store a v .plain).run P w = .ok () (w.setCell a v) := by
    rw [run_store P w a v .plain hv]
    simp [stored, h, hf]
  have h3 : a.add 0 = a := by simp [Addr.add]
  simp [Instr.storeAt, Instr.sureAddr, storeVar, One.size, h1, storeCells, h2, h3]
theorem st {t T : Nat} [One P t] {K : World → Prop} {g i : Nat} {cs : Array Value} {v : Value} (hb : Blk w g T cs) (hi : i < cs.size) (hv : v.oneCell' = true)
    (k : ∀ w', Blk w' g T (cs.setIfInBounds i v) → Upd [g] w w' → w'.heap.size = w.heap.size → K w') : RunU P (Instr.storeAt t (.pointer (some ⟨g, i, none⟩)) v) K w :=
  ⟨⟨_, run_store1 (u := cs[i]) (by rw [hb.cell]; simp [hi]) (hb.frozen _) hv, k _ (hb.set_ i v) ((Upd.refl [g] w).setCell (.inl (by simp)) v) (by simp [World.setCell])⟩⟩
end

/-! slices -/
section
variable {P : Program} {K : Value → World → Prop} {w : World}
theorem sl_hi {t e n : Nat} [SlT P t e n] {a : Option Addr} {len cap : Nat} {k' : IntKind} {i : Int} (j : Nat) (hi : i = (j : Int)) (hj : j ≤ cap) (k : K (.slice a j cap) w) :
    RunP P (Instr.sliceAt t (.slice a len cap) none (some (.int k' i)) none) K w := by
  subst hi
  have h1 : (if cap = 0 then a else a.map fun x => x.add 0) = a := by
    split
    · rfl
    · cases a <;> simp [Addr.add]
  refine rn (.slice a j cap) w ?_ k
  simp [Instr.sliceAt, Instr.slice, Instr.sliceBounds, Instr.sliceBound, asIntOf, run_underlying (SlT.u (P := P) (t := t) (e := e) (n := n)), hj, SlT.size (P := P) (t := t) (e := e) (n := n), Addr.add]
theorem sl_lo {t e n : Nat} [SlT P t e n] {a : Option Addr} {len cap : Nat} {k' : IntKind} {i : Int} (j : Nat) (hi : i = (j : Int)) (hj : j ≤ len) (k : K (.slice (if cap = j then a else a.map (·.add (j * n))) (len - j) (cap - j)) w) :
    RunP P (Instr.sliceAt t (.slice a len cap) (some (.int k' i)) none none) K w := by
  subst hi
  refine rn _ w ?_ k
  simp [Instr.sliceAt, Instr.slice, Instr.sliceBounds, Instr.sliceBound, asIntOf, run_underlying (SlT.u (P := P) (t := t) (e := e) (n := n)), hj, SlT.size (P := P) (t := t) (e := e) (n := n)]
theorem sl_lohi {t e n : Nat} [SlT P t e n] {a : Option Addr} {len cap : Nat} {k1 k2 : IntKind} {i1 i2 : Int} (l h : Nat) (h1 : i1 = (l : Int)) (h2 : i2 = (h : Int)) (hl : l ≤ h) (hh : h ≤ cap) (k : K (.slice (if cap = l then a else a.map (·.add (l * n))) (h - l) (cap - l)) w) :
    RunP P (Instr.sliceAt t (.slice a len cap) (some (.int k1 i1)) (some (.int k2 i2)) none) K w := by
  subst h1; subst h2
  refine rn _ w ?_ k
  simp [Instr.sliceAt, Instr.slice, Instr.sliceBounds, Instr.sliceBound, asIntOf, run_underlying (SlT.u (P := P) (t := t) (e := e) (n := n)), hl, hh, SlT.size (P := P) (t := t) (e := e) (n := n)]
theorem app {t e n bytes ty : Nat} [SlT P t e n] [ElemT P e n bytes] {v : Value} {len : Nat} {xs : List Value} {g m c : Nat} {cs : Array Value} (hs : Sl w e n v len xs) (hb : Blk w g e cs) (hcs : cs.toList.length = m * n) (h1 : cs.toList.all (·.oneCell') = true)
    (hm : 0 < m) (h63 : len + m ≤ maxLen) (hby : (len + m) * bytes ≤ 140737488355328)
    (k : ∀ g' off cap w', Sl w' e n (.slice (some ⟨g', off, none⟩) (len + m) cap) (len + m) (xs ++ cs.toList) → Upd v.ownBlock.toList w w' → (v.ownBlock = some g' ∨ g' = w.heap.size) → K (.slice (some ⟨g', off, none⟩) (len + m) cap) w') :
    RunP P (Builtin.append_ #[t, t] ty #[v, .slice (some ⟨g, 0, none⟩) m c]) K w := by
  obtain ⟨i, z, hi, hz, hsi, hbi, hzs, hn⟩ := ElemT.h (P := P) (e := e) (n := n) (bytes := bytes)
  obtain ⟨g', off, cap, w', hr, h2, h3, h4⟩ := run_append_sl (P := P) w t ty e i z n bytes (SlT.u (P := P) (t := t) (e := e) (n := n)) hi hz hsi hbi hzs hn v len xs hs ⟨g, 0, none⟩ m c cs.toList hcs
    (fun j u hu => by rw [Addr.add_lit, hb.cell]; simpa using hu) (fun u hu => List.all_eq_true.1 h1 u hu) hm h63 hby
  exact rn _ _ hr (k g' off cap w' h2 ((Upd.refl _ w).grown h3 fun k hk => .inl (by simp [hk])) h4)
end

/-! tests -/
class BoolIs (b : Bool) (p : outParam Prop) : Prop where
  h : b = true ↔ p
instance {p : Prop} [Decidable p] : BoolIs (decide p) p := ⟨by simp⟩
instance {x y : Int} : BoolIs (x == y) (x = y) := ⟨by simp⟩
instance {x y : Int} : BoolIs (x != y) (x ≠ y) := ⟨by simp⟩
instance {x y : Bool} : BoolIs (x == y) (x = y) := ⟨by simp⟩
instance {x y : List UInt8} : BoolIs (x == y) (x = y) := ⟨by simp⟩
instance {b : Bool} {p : Prop} [i : BoolIs b p] : BoolIs (!b) (¬ p) := ⟨by have := i.h; cases b <;> simp_all⟩
section
variable {b : Bool} {p X Y : Prop}
theorem cd [i : BoolIs b p] (h1 : p → X) (h2 : ¬ p → Y) : (Bool.rec (motive := fun _ => Prop) Y X b : Prop) := CondP.mk' (fun h => h1 (i.h.1 h)) (fun h => h2 (fun hp => by rw [i.h.2 hp] at h; cases h))
theorem cY [BoolIs b p] (hp : p) (h1 : X) : (Bool.rec (motive := fun _ => Prop) Y X b : Prop) := cd (fun _ => h1) (fun h => absurd hp h)
theorem cN [BoolIs b p] (hp : ¬ p) (h1 : Y) : (Bool.rec (motive := fun _ => Prop) Y X b : Prop) := cd (fun h => absurd h hp) (fun _ => h1)
end
end Go.Proofs.Ytklbeipdigancaa
