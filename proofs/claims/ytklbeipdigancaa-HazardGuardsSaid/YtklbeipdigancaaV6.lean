/- More rules for operations: structs, made slices, appends of slices, conversions, division, bits. -/
import Derived.Test.YtklbeipdigancaaV5
import Derived.Deep.MidRow
namespace Go.Proofs.Ytklbeipdigancaa
open Go.RowKit

class AggT (P : Program) (t : Nat) (n : outParam Nat) : Prop where
  u : ∃ d, P.underlying t = some d ∧ d.isRow = true
  i : (P.info? t).map (·.size) = some n
class ElemZ (P : Program) (e : Nat) (z : outParam Value) (bytes : outParam Nat) : Prop where
  h : (P.info? e).map (fun i => (i.zero, i.size, i.bytes)) = some (some z, 1, bytes)
  c : z.cells = #[z]
class FldOne (P : Program) (t i : Nat) (off : outParam Nat) : Prop where
  h : ∃ fs f, P.underlying t = some (.struct fs) ∧ fs[i]? = some f ∧ f.offset = off ∧ One P f.type
class IntT (P : Program) (t : Nat) (k : outParam IntKind) : Prop where
  u : P.underlying t = some (.int k)
class BoolT (P : Program) (t : Nat) : Prop where
  u : P.underlying t = some .bool

section
variable {P : Program} {K : Value → World → Prop} {w : World}

/-- a struct or array, read whole -/
theorem lda {t n b o : Nat} [AggT P t n] (cs : List Value) (hl : cs.length = n) (h : ∀ j v, cs[j]? = some v → w.cell? ⟨b, o + j, none⟩ = some v) (k : K (.agg cs.toArray) w) : RunP P (Instr.loadAt t (.pointer (some ⟨b, o, none⟩))) K w := by
  obtain ⟨d, h1, h2⟩ := AggT.u (P := P) (t := t) (n := n)
  exact rn _ _ (run_loadAt_mid w b o t cs d h h1 h2 (by rw [AggT.i (P := P) (t := t) (n := n), hl])) k
theorem ldw {t n g T : Nat} [AggT P t n] {cs : Array Value} (hb : Blk w g T cs) (hl : cs.toList.length = n) (k : K (.agg cs) w) : RunP P (Instr.loadAt t (.pointer (some ⟨g, 0, none⟩))) K w :=
  lda cs.toList hl (fun j v hv => by rw [Nat.zero_add, hb.cell]; simpa using hv) (by simpa using k)

theorem run_setCells_blk (g T : Nat) : ∀ (vs : List Value) (o : Nat) (w : World) (cs : Array Value), Blk w g T cs → Blk (w.setCells g o vs) g T (vs.zipIdx.foldl (fun cs (v, i) => cs.setIfInBounds (o + i) v) cs)
    ∧ Upd [g] w (w.setCells g o vs) ∧ (w.setCells g o vs).heap.size = w.heap.size := by
  intro vs
  induction vs with
  | nil => intro o w cs h; exact ⟨h, Upd.refl _ _, rfl⟩
  | cons v vs ih =>
    intro o w cs h
    obtain ⟨h1, h2, h3⟩ := ih (o + 1) (w.setCell ⟨g, o, none⟩ v) _ (h.set_ o v)
    refine ⟨?_, ((Upd.refl [g] w).setCell (.inl (by simp)) v).trans h2, by rw [World.setCells, h3]; simp [World.setCell]⟩
    have e : ∀ (vs : List Value) (k : Nat) (cs : Array Value), (vs.zipIdx (k + 1)).foldl (fun cs (p : Value × Nat) => cs.setIfInBounds (o + p.2) p.1) cs = (vs.zipIdx k).foldl (fun cs (p : Value × Nat) => cs.setIfInBounds (o + 1 + p.2) p.1) cs := by
      intro vs
      induction vs with
      | nil => intro k cs; rfl
      | cons u vs ih2 =>
        intro k cs
        simp only [List.zipIdx_cons, List.foldl_cons]
        rw [ih2 (k + 1), show o + (k + 1) = o + 1 + k by omega]
    simp only [World.setCells, List.zipIdx_cons, List.foldl_cons, Nat.add_zero]
    rw [show (0 : Nat) + 1 = 0 + 1 from rfl, e vs 0]
    exact h1
/-- a struct or array, written whole: over a block of its own -/
theorem foldl_all (l : List Value) (cs : Array Value) (h : cs.size = l.length) : l.zipIdx.foldl (fun cs (p : Value × Nat) => cs.setIfInBounds (0 + p.2) p.1) cs = l.toArray := by
  have key : ∀ (l : List Value) (k : Nat) (cs : Array Value), cs.size = k + l.length → (l.zipIdx k).foldl (fun cs (p : Value × Nat) => cs.setIfInBounds (0 + p.2) p.1) cs = (cs.toList.take k ++ l).toArray := by
    intro l
    induction l with
    | nil => intro k cs h; simp only [List.zipIdx_nil, List.foldl_nil, List.append_nil]; apply Array.ext'; simp; rw [List.take_of_length_le (by simp at h ⊢; omega)]
    | cons v l ih =>
      intro k cs h
      simp only [List.zipIdx_cons, List.foldl_cons]
      rw [ih (k + 1) _ (by simp at h ⊢; omega)]
      congr 1
      simp only [Nat.zero_add, Array.toList_setIfInBounds]
      have hk : k < cs.toList.length := by simp at h ⊢; omega
      rw [List.take_set, List.take_add_one, List.getElem?_eq_getElem hk]
      simp only [Option.toList]
      rw [List.set_append_right _ _ (by simp; omega)]
      have : k - (cs.toList.take k).length = 0 := by simp; omega
      rw [this]
      simp
  rw [key l 0 cs (by omega)]
  simp
theorem stw {t n g T : Nat} [AggT P t n] {K : World → Prop} {cs new : Array Value} (hb : Blk w g T cs) (hl : cs.toList.length = n) (hn : new.toList.length = n) (h1 : new.toList.all (·.oneCell') = true)
    (k : ∀ w', Blk w' g T new → Upd [g] w w' → w'.heap.size = w.heap.size → K w') : RunU P (Instr.storeAt t (.pointer (some ⟨g, 0, none⟩)) (.agg new)) K w := by
  have hs : cs.size = new.toList.length := by simp at hl hn ⊢; omega
  obtain ⟨h2, h3, h4⟩ := run_setCells_blk g T new.toList 0 w cs hb
  rw [foldl_all _ _ hs] at h2
  refine ⟨⟨_, run_storeAt_mid w g 0 t new (fun j hj => ?_) (by rw [AggT.i (P := P) (t := t) (n := n)]; simpa using hn.symm) (by rw [← Array.all_toList]; exact h1), k _ (by simpa using h2) h3 h4⟩⟩
  rw [Nat.zero_add]
  refine ⟨?_, hb.frozen j⟩
  rw [hb.cell]
  simp at hs
  simp; omega

theorem made_row1 (z : Value) (n : Nat) : madeCells #[z] n = (List.replicate n z).toArray := by
  apply Array.ext
  · simp [madeCells]
  · intro i h1 h2
    simp [madeCells, Nat.mod_one]
/-- make -/
theorem mks {t e m bytes : Nat} {z : Value} [SlT P t e m] [ElemZ P e z bytes] {kl kc : IntKind} {i1 i2 : Int} (n : Nat) (h1 : i1 = (n : Int)) (h2 : i2 = (n : Int)) (hb : bytes * n ≤ 281474976710656) (h63 : n ≤ 9223372036854775807)
    (k : ∀ w', Blk w' w.heap.size e (madeCells #[z] n) → Upd [] w w' → w'.heap.size = w.heap.size + 1 → K (.slice (some ⟨w.heap.size, 0, none⟩) n n) w') : RunP P (Instr.makeSlice t (.int kl i1) (.int kc i2)) K w := by
  subst h1; subst h2
  exact nb _ (run_make_row' t e z bytes (SlT.u (P := P) (t := t) (e := e) (n := m)) ElemZ.h (ElemZ.c P e (z := z) (bytes := bytes)) kl kc n hb h63 w) k
/-- append a slice that is read -/
theorem apr {t e n bytes ty : Nat} [SlT P t e n] [ElemT P e n bytes] {v : Value} {len : Nat} {xs : List Value} {g o m c : Nat} (news : List Value) (hs : Sl w e n v len xs) (hcs : news.length = m * n) (hr : ∀ j u, news[j]? = some u → w.cell? ⟨g, o + j, none⟩ = some u) (h1 : ∀ u ∈ news, u.oneCell' = true)
    (hm : 0 < m) (h63 : len + m ≤ maxLen) (hby : (len + m) * bytes ≤ 140737488355328)
    (k : ∀ g' off cap w', Sl w' e n (.slice (some ⟨g', off, none⟩) (len + m) cap) (len + m) (xs ++ news) → Upd v.ownBlock.toList w w' → (v.ownBlock = some g' ∨ g' = w.heap.size) → K (.slice (some ⟨g', off, none⟩) (len + m) cap) w') :
    RunP P (Builtin.append_ #[t, t] ty #[v, .slice (some ⟨g, o, none⟩) m c]) K w := by
  obtain ⟨i, z, hi, hz, hsi, hbi, hzs, hn⟩ := ElemT.h (P := P) (e := e) (n := n) (bytes := bytes)
  obtain ⟨g', off, cap, w', hr, h2, h3, h4⟩ := run_append_sl (P := P) w t ty e i z n bytes (SlT.u (P := P) (t := t) (e := e) (n := n)) hi hz hsi hbi hzs hn v len xs hs ⟨g, o, none⟩ m c news hcs
    (fun j u hu => by rw [Addr.add_lit]; exact hr j u hu) h1 hm h63 hby
  exact rn _ _ hr (k g' off cap w' h2 ((Upd.refl _ w).grown h3 fun k hk => .inl (by simp [hk])) h4)
/-- append nothing -/
theorem ap0 {t e n bytes ty : Nat} [SlT P t e n] [ElemT P e n bytes] {b a : Option Addr} {len cap c : Nat} (h : len ≤ cap) (k : K (.slice b len cap) w) : RunP P (Builtin.append_ #[t, t] ty #[.slice b len cap, .slice a 0 c]) K w := by
  obtain ⟨i, z, hi, -⟩ := ElemT.h (P := P) (e := e) (n := n) (bytes := bytes)
  exact rn _ _ (run_append_none (P := P) w t ty e i (SlT.u (P := P) (t := t) (e := e) (n := n)) hi b len cap h a c) k

/-- a field of a struct by value -/
theorem fl {t i off : Nat} [FldOne P t i off] {cs : Array Value} {v : Value} (h : cs.toList[off]? = some v) (k : K v w) : RunP P (Instr.field t (.agg cs) i) K w :=
  rn v w (by
    obtain ⟨fs, f, h1, h2, h3, h4⟩ := FldOne.h (P := P) (t := t) (i := i) (off := off)
    have h5 : cs[off]? = some v := by simpa using h
    simp [Instr.field, run_underlying h1, h2, h3, asAgg, part, h4.agg, h5]) k
/-- a struct made of its parts: the cells told -/
theorem bd {t : Nat} {ps : Array (Nat × Value)} (cs : Array Value) (h : ∀ w, (Instr.build t ps).run P w = .ok (.agg cs) w) (k : K (.agg cs) w) : RunP P (Instr.build t ps) K w := rn _ _ (h w) k

/-- between whole numbers -/
theorem cv {s d : Nat} {k1 k2 k' : IntKind} [IntT P s k1] [IntT P d k2] {n : Int} (k : ValP k2 (k2.wrap n) K w) : RunP P (convert s d (.int k' n)) K w :=
  rn _ _ (by simp [convert, run_underlying (IntT.u (P := P) (t := s) (k := k1)), run_underlying (IntT.u (P := P) (t := d) (k := k2)), Conv.intToInt]) k.h
theorem qu {t : Nat} {x y : Operand} {k' : IntKind} {a b : Int} (hb : b ≠ 0) (k : ValP k' (k'.wrap (a.tdiv b)) K w) : RunP P (binSem .quo t x y (.int k' a) (.int k' b)) K w :=
  rn _ _ (by simp [binSem, eqGuard, binOp, Op.intDiv, hb]) k.h
theorem rm {t : Nat} {x y : Operand} {k' : IntKind} {a b : Int} (hb : b ≠ 0) (k : ValP k' (a.tmod b) K w) : RunP P (binSem .rem t x y (.int k' a) (.int k' b)) K w :=
  rn _ _ (by simp [binSem, eqGuard, binOp, Op.intDiv, hb]) k.h
theorem sh_r {t : Nat} {x y : Operand} {k' yk : IntKind} {a b : Int} (hb : 0 ≤ b) (k : ValP k' (a.fdiv (2 ^ min b.toNat k'.bits)) K w) : RunP P (binSem .shr t x y (.int k' a) (.int yk b)) K w :=
  rn _ _ (by simp [binSem, eqGuard, binOp, Op.shift, show ¬ b < 0 by omega]) k.h
theorem sh_l {t : Nat} {x y : Operand} {k' yk : IntKind} {a b : Int} (hb : 0 ≤ b) (k : ValP k' (k'.wrap (a * 2 ^ min b.toNat k'.bits)) K w) : RunP P (binSem .shl t x y (.int k' a) (.int yk b)) K w :=
  rn _ _ (by simp [binSem, eqGuard, binOp, Op.shift, show ¬ b < 0 by omega]) k.h
theorem mn2 {ats : Array TypeId} {ty : Nat} {k1 k2 : IntKind} {a b : Int} (k : ValP k1 (if b < a then b else a) K w) : RunP P (Builtin.min_ ats ty #[.int k1 a, .int k2 b]) K w :=
  rn _ _ (by simp [Builtin.min_, Builtin.min2]) k.h
theorem mx2 {ats : Array TypeId} {ty : Nat} {k1 k2 : IntKind} {a b : Int} (k : ValP k1 (if b > a then b else a) K w) : RunP P (Builtin.max_ ats ty #[.int k1 a, .int k2 b]) K w :=
  rn _ _ (by simp [Builtin.max_, Builtin.max2]) k.h
theorem bq {t : Nat} [BoolT P t] {x y : Operand} {a b : Bool} (k : K (.bool (a == b)) w) : RunP P (binSem .eql t x y (.bool a) (.bool b)) K w :=
  rn _ _ (bin_of rfl (by simp only [binOp]; simp [Op.equal, Op.maxDepth, run_equalIn_bool' w 9999 t a b BoolT.u])) k
theorem bnq {t : Nat} [BoolT P t] {x y : Operand} {a b : Bool} (k : K (.bool (!(a == b))) w) : RunP P (binSem .neq t x y (.bool a) (.bool b)) K w :=
  rn _ _ (bin_of rfl (by simp only [binOp]; simp [Op.equal, Op.maxDepth, run_equalIn_bool' w 9999 t a b BoolT.u])) k
theorem sl_eq {t e n : Nat} [SlT P t e n] {x y : Operand} {a : Option Addr} {l c : Nat} (k : K (.bool a.isNone) w) : RunP P (binSem .eql t x y (.slice a l c) (.slice none 0 0)) K w :=
  rn _ _ (bin_of rfl (by simp only [binOp]; simp [Op.equal, Op.maxDepth, Lib.run_equalIn_slice_nil w 9999 t e a l c 0 0 (SlT.u (P := P) (t := t) (e := e) (n := n))])) k
theorem sl_ne {t e n : Nat} [SlT P t e n] {x y : Operand} {a : Option Addr} {l c : Nat} (k : K (.bool (!a.isNone)) w) : RunP P (binSem .neq t x y (.slice a l c) (.slice none 0 0)) K w :=
  rn _ _ (bin_of rfl (by simp only [binOp]; simp [Op.equal, Op.maxDepth, Lib.run_equalIn_slice_nil w 9999 t e a l c 0 0 (SlT.u (P := P) (t := t) (e := e) (n := n))])) k
/-- a byte of a string -/
theorem ixs {t : Nat} [StrT P t] {s : ByteArray} {k' : IntKind} {i : Int} (j : Nat) (hi : i = (j : Int)) (hj : j < s.size) (k : K (.int .u8 (s[j]'hj).toNat) w) : RunP P (Instr.index t (.string s) (.int k' i)) K w := by
  subst hi
  exact rn _ _ (by simp [Instr.index, asIntOf, run_underlying (StrT.u (P := P) (t := t)), hj]) k
/-- an element of a slice of one-cell values, read and written -/
theorem Sl.get {α : Type} {f : α → Value} {e : TypeId} {v : Value} {l : List α} {g o c : Nat} (h : Sl w e 1 v l.length (l.map f)) (hv : v = .slice (some ⟨g, o, none⟩) l.length c) (j : Nat) (hj : j < l.length) : w.cell? ⟨g, o + j * 1, none⟩ = some (f l[j]) := by
  rw [Nat.mul_one, (h.cells hv j (by omega)).1]
  simp [hj]
theorem Sl.getD_ {f : Int → Value} {e : TypeId} {v : Value} {l : List Int} {g o c : Nat} (h : Sl w e 1 v l.length (l.map f)) (hv : v = .slice (some ⟨g, o, none⟩) l.length c) (j : Nat) (hj : j < l.length) : w.cell? ⟨g, o + j * 1, none⟩ = some (f (l.getD j 0)) := by
  rw [h.get hv j hj]; simp [List.getD, hj]
theorem stS {t e : Nat} [One P t] {K : World → Prop} {v u : Value} {n : Nat} {xs : List Value} {g o c j : Nat} (h : Sl w e 1 v n xs) (hv : v = .slice (some ⟨g, o, none⟩) n c) (hj : j < n) (hu : u.oneCell' = true)
    (k : ∀ w', Sl w' e 1 v n (xs.set j u) → Upd [g] w w' → w'.heap.size = w.heap.size → K w') : RunU P (Instr.storeAt t (.pointer (some ⟨g, o + j * 1, none⟩)) u) K w := by
  have h1 := h.cells hv j (by omega)
  have h2 : j < xs.length := by rw [h.1]; omega
  rw [Nat.mul_one]
  exact ⟨⟨_, run_store1 (u := xs[j]) (by rw [h1.1]; simp [h2]) h1.2 hu, k _ (h.store hv j (by omega) u) ((Upd.refl [g] w).setCell (.inl (by simp)) u) (by simp [World.setCell])⟩⟩
theorem Sl.some_ {e size : Nat} {v : Value} {n : Nat} {xs : List Value} (h : Sl w e size v n xs) (hn : 0 < n) : ∃ g o c, v = .slice (some ⟨g, o, none⟩) n c ∧ n ≤ c := by
  rcases h.2 with ⟨h1, h2⟩ | ⟨g, off, cap', cur, h1, _, h2, -⟩
  · omega
  · exact ⟨g, off, cap', h1, h2⟩
end
end Go.Proofs.Ytklbeipdigancaa
