/- Maps whose keys are ints. -/
import Derived.Test.YtblngbagjieeiaaV17
import Derived.MapKept
namespace Go.Proofs.Ytblngbagjieeiaa
open Go.RowKit
attribute [local irreducible] Instr.loadAt Instr.storeAt Instr.fieldAt Instr.indexAt Instr.sliceAt Instr.buildSlice Instr.box Instr.alloc Builtin.append_ Builtin.len_ Builtin.min_ Builtin.max_ Calls Instr.build Instr.makeSlice binSem convert Instr.index Instr.range Instr.next

attribute [local irreducible] Instr.lookup Instr.mapUpdate Instr.makeMap Builtin.delete_ zeroValue
class MapT (P : Program) (t : Nat) (k : outParam Nat) (e : outParam Nat) : Prop where
  t : P.underlying t = some (.map k e)
  k : P.underlying k = some (.int .i64)
class ZeroT (P : Program) (e : Nat) (z : outParam Value) : Prop where
  h : (P.info? e).map (fun i => i.zero) = some (some z)
/-- block b is a map that holds f -/
def MapF (w : World) (b : Nat) (f : Int → Option Value) : Prop :=
  ∃ es clock, w.heap[b]? = some (.map es clock) ∧ (∀ x ∈ es.toList, ∃ k, x.key = .int .i64 k) ∧ (es.toList.map (·.key)).Nodup ∧ ∀ k v, f k = some v ↔ ∃ x ∈ es.toList, x.key = .int .i64 k ∧ x.val = v
def updF (f : Int → Option Value) (k : Int) (v : Option Value) : Int → Option Value := fun j => if j = k then v else f j
section
variable {w w' : World} {b : Nat} {f : Int → Option Value}
theorem MapF.lt (h : MapF w b f) : b < w.heap.size := by
  obtain ⟨es, clock, hb, -⟩ := h
  exact (Array.getElem?_eq_some_iff.1 hb).1
theorem MapF.upd {S : List Nat} (h : MapF w b f) (hu : Upd S w w') (hS : b ∉ S) : MapF w' b f := by
  have hlt := h.lt
  obtain ⟨es, clock, hb, r⟩ := h
  exact ⟨es, clock, (hu.block b hlt hS).trans hb, r⟩
theorem MapF.drew (h : MapF w b f) : MapF w.drew b f := h
theorem keys_is {es : Array MapEntry} (h : ∀ x ∈ es.toList, ∃ k, x.key = .int .i64 k) : ∀ x ∈ es.toList, MapKept.IsKey (.int .i64) x.key := fun x hx => by
  obtain ⟨k, e⟩ := h x hx
  rw [e]; rfl
theorem upd_set {w : World} {r : Nat} {o o' : Obj} : Upd [r] w { w with heap := w.heap.setIfInBounds r o' } := by
  refine ⟨rfl, rfl, rfl, by simp, fun k hk hn => ?_⟩
  have hne : r ≠ k := fun e => hn (by simp [e])
  simp [hne]
theorem run_zero {P : Program} {e : Nat} {z : Value} [h : ZeroT P e z] (w : World) : (zeroValue e).run P w = .ok z w := by
  have h := h.h
  cases hi : P.info? e with
  | none => rw [hi] at h; cases h
  | some i =>
    rw [hi] at h
    have hz : i.zero = some z := Option.some.inj h
    unfold zeroValue typeInfo
    simp [hi, hz, Result.andThen, Sem.run_bind]
end
section
variable {P : Program} {K : Value → World → Prop} {w : World} {b : Nat} {f : Int → Option Value}
theorem mkm {t : Nat} (k : ∀ w', MapF w' w.heap.size (fun _ => none) → Upd [] w w' → w'.heap.size = w.heap.size + 1 → K (.map (some w.heap.size)) w') : RunP P (Instr.makeMap t none) K w := by
  refine rn (.map (some w.heap.size)) (w.alloc (.map #[] 0)) (by unfold Instr.makeMap; simp [Result.andThen]) (k _ ⟨#[], 0, (MapKept.heap_alloc w _).1, by simp, by simp, by simp⟩ ((Upd.refl [] w).alloc _) ?_)
  show (w.heap.push _).size = _
  simp
theorem look_f {t kt e : Nat} {z : Value} [T : MapT P t kt e] [ZeroT P e z] (h : MapF w b f) (key : Int) : (Instr.lookup t (.map (some b)) (.int .i64 key) true).run P w = .ok (match f key with | some v => .tuple #[v, .bool true] | none => .tuple #[z, .bool false]) w ∧ (Instr.lookup t (.map (some b)) (.int .i64 key) false).run P w = .ok (match f key with | some v => v | none => z) w := by
  obtain ⟨es, clock, hb, hk, hn, hf⟩ := h
  have hkey : MapKept.IsKey (.int .i64) (.int .i64 key) := rfl
  rcases MapKept.findNow_spec hkey es.toList 0 (keys_is hk) with ⟨h1, h2⟩ | ⟨j, x, h1, h2, h3⟩
  · have e1 : f key = none := by
      cases hfk : f key with
      | none => rfl
      | some v =>
        obtain ⟨x, hx, hxk, -⟩ := (hf key v).1 hfk
        exact absurd hxk (h2 x hx)
    rw [e1]
    constructor <;> (unfold Instr.lookup; simp [run_underlying T.t, MapKept.run_getObj_map hb, MapKept.run_checkKey T.k hkey, MapKept.run_findKey T.k h1, run_zero, Result.andThen, Sem.run_bind])
  · have e1 : f key = some x.val := (hf key x.val).2 ⟨x, List.mem_of_getElem? h2, h3, rfl⟩
    rw [e1]
    constructor <;> (unfold Instr.lookup; simp [run_underlying T.t, MapKept.run_getObj_map hb, MapKept.run_checkKey T.k hkey, MapKept.run_findKey T.k h1, Result.andThen, Sem.run_bind])
/-- v, ok := m[k] -/
theorem mlk {t kt e : Nat} {z : Value} [MapT P t kt e] [ZeroT P e z] (h : MapF w b f) {key : Int} (k : K (match f key with | some v => .tuple #[v, .bool true] | none => .tuple #[z, .bool false]) w) : RunP P (Instr.lookup t (.map (some b)) (.int .i64 key) true) K w := rn _ _ (look_f h key).1 k
theorem mlk1 {t kt e : Nat} {z : Value} [MapT P t kt e] [ZeroT P e z] (h : MapF w b f) {key : Int} (k : K (match f key with | some v => v | none => z) w) : RunP P (Instr.lookup t (.map (some b)) (.int .i64 key) false) K w := rn _ _ (look_f h key).2 k
theorem mlk0 {t kt e : Nat} {z : Value} [T : MapT P t kt e] [ZeroT P e z] {key : Int} (k : K (.tuple #[z, .bool false]) w) : RunP P (Instr.lookup t (.map none) (.int .i64 key) true) K w := by
  refine rn _ w ?_ k
  have hkey : MapKept.IsKey (.int .i64) (.int .i64 key) := rfl
  unfold Instr.lookup
  simp [run_underlying T.t, MapKept.run_checkKey T.k hkey, MapKept.run_findKey (l := []) T.k rfl, run_zero, Result.andThen, Sem.run_bind]
theorem split_at {α : Type} {l : List α} {j : Nat} {x : α} (h : l[j]? = some x) : l = l.take j ++ x :: l.drop (j + 1) ∧ j < l.length := by
  obtain ⟨hj, rfl⟩ := List.getElem?_eq_some_iff.1 h
  exact ⟨by rw [List.getElem_cons_drop, List.take_append_drop], hj⟩
/-- m[k] = v -/
theorem mup {K : World → Prop} {t kt e : Nat} [T : MapT P t kt e] (h : MapF w b f) {key : Int} {v : Value} (k : ∀ w', MapF w' b (updF f key (some v)) → Upd [b] w w' → w'.heap.size = w.heap.size → K w') : RunU P (Instr.mapUpdate t (.map (some b)) (.int .i64 key) v) K w := by
  obtain ⟨es, clock, hb, hk, hn, hf⟩ := h
  have hkey : MapKept.IsKey (.int .i64) (.int .i64 key) := rfl
  rcases MapKept.findNow_spec hkey es.toList 0 (keys_is hk) with ⟨h1, h2⟩ | ⟨j, x, h1, h2, h3⟩
  · refine ⟨⟨{ w with heap := w.heap.setIfInBounds b (.map (es.push { key := .int .i64 key, val := v, born := clock }) (clock + 1)) }, ?_, k _ ⟨_, _, (MapKept.heap_set hb).1, ?_, ?_, ?_⟩ (upd_set (o := .map es clock)) (by simp)⟩⟩
    · unfold Instr.mapUpdate
      simp [run_underlying T.t, MapKept.run_getObj_map hb, MapKept.run_checkKey T.k hkey, MapKept.run_findKey T.k h1, MapKept.run_setObj_map _ hb, Result.andThen, Sem.run_bind]
    · intro x hx
      simp only [Array.toList_push, List.mem_append, List.mem_singleton] at hx
      rcases hx with hx | rfl
      · exact hk x hx
      · exact ⟨key, rfl⟩
    · simp only [Array.toList_push, List.map_append, List.map_cons, List.map_nil]
      refine List.nodup_append.2 ⟨hn, by simp, fun a ha c hc => ?_⟩
      obtain ⟨x, hx, rfl⟩ := List.mem_map.1 ha
      rw [List.mem_singleton.1 hc]
      exact h2 x hx
    · intro q u
      simp only [Array.toList_push, List.mem_append, List.mem_singleton]
      unfold updF
      by_cases hq : q = key
      · subst hq
        rw [if_pos rfl]
        constructor
        · intro e; cases e; exact ⟨_, .inr rfl, rfl, rfl⟩
        · rintro ⟨x, hx | rfl, hxk, hxv⟩
          · exact absurd hxk (h2 x hx)
          · exact congrArg some hxv
      · rw [if_neg hq, hf q u]
        constructor
        · rintro ⟨x, hx, r⟩; exact ⟨x, .inl hx, r⟩
        · rintro ⟨x, hx | rfl, hxk, hxv⟩
          · exact ⟨x, hx, hxk, hxv⟩
          · exact absurd (by injection hxk with _ e; exact e.symm) hq
  · obtain ⟨hsp, hj⟩ := split_at h2
    have hjs : j < es.size := by simpa using hj
    have hm : (es.modify j fun e => { e with key := .int .i64 key, val := v }).toList = es.toList.take j ++ { x with key := .int .i64 key, val := v } :: es.toList.drop (j + 1) := by
      rw [Array.toList_modify]
      have e1 : es.toList.modify j (fun e => { e with key := .int .i64 key, val := v }) = es.toList.set j { x with key := .int .i64 key, val := v } := by
        apply List.ext_getElem?
        intro i
        rw [List.getElem?_modify, List.getElem?_set]
        by_cases hi : j = i
        · subst hi
          rw [h2]; simp [hjs]
        · simp [hi]
      rw [e1, List.set_eq_take_append_cons_drop, if_pos hj]
    have hx : es[j]? = some x := by simpa using h2
    refine ⟨⟨{ w with heap := w.heap.setIfInBounds b (.map (es.modify j fun e => { e with key := .int .i64 key, val := v }) clock) }, ?_, k _ ⟨_, _, (MapKept.heap_set hb).1, ?_, ?_, ?_⟩ (upd_set (o := .map es clock)) (by simp)⟩⟩
    · unfold Instr.mapUpdate
      simp [run_underlying T.t, MapKept.run_getObj_map hb, MapKept.run_checkKey T.k hkey, MapKept.run_findKey T.k h1, hx, h3, MapKept.run_keyThatStays hkey, MapKept.run_setObj_map _ hb, Result.andThen, Sem.run_bind]
    · rw [hm]
      intro y hy
      simp only [List.mem_append, List.mem_cons] at hy
      rcases hy with hy | rfl | hy
      · exact hk y (List.mem_of_mem_take hy)
      · exact ⟨key, rfl⟩
      · exact hk y (List.mem_of_mem_drop hy)
    · rw [hm]
      rw [hsp] at hn
      simp only [List.map_append, List.map_cons] at hn ⊢
      rw [h3] at hn
      exact hn
    · intro q u
      rw [hm]
      rw [hsp] at hn
      simp only [List.map_append, List.map_cons] at hn
      rw [h3] at hn
      obtain ⟨n1, n2, n3⟩ := List.nodup_append.1 hn
      obtain ⟨n4, n5⟩ := List.nodup_cons.1 n2
      have o1 : ∀ y ∈ es.toList.take j, y.key ≠ .int .i64 key := fun y hy e => n3 _ (List.mem_map.2 ⟨y, hy, rfl⟩) _ List.mem_cons_self e
      have o2 : ∀ y ∈ es.toList.drop (j + 1), y.key ≠ .int .i64 key := fun y hy e => n4 (List.mem_map.2 ⟨y, hy, e⟩)
      simp only [List.mem_append, List.mem_cons]
      unfold updF
      by_cases hq : q = key
      · subst hq
        rw [if_pos rfl]
        constructor
        · intro e; cases e; exact ⟨_, .inr (.inl rfl), rfl, rfl⟩
        · rintro ⟨y, hy | rfl | hy, hyk, hyv⟩
          · exact absurd hyk (o1 y hy)
          · exact congrArg some hyv
          · exact absurd hyk (o2 y hy)
      · rw [if_neg hq, hf q u]
        constructor
        · rintro ⟨y, hy, hyk, hyv⟩
          rw [hsp] at hy
          simp only [List.mem_append, List.mem_cons] at hy
          rcases hy with hy | rfl | hy
          · exact ⟨y, .inl hy, hyk, hyv⟩
          · rw [h3] at hyk
            exact absurd (by injection hyk with _ e; exact e.symm) hq
          · exact ⟨y, .inr (.inr hy), hyk, hyv⟩
        · rintro ⟨y, hy | rfl | hy, hyk, hyv⟩
          · exact ⟨y, List.mem_of_mem_take hy, hyk, hyv⟩
          · exact absurd (by injection hyk with _ e; exact e.symm) hq
          · exact ⟨y, List.mem_of_mem_drop hy, hyk, hyv⟩
/-- delete(m, k) -/
theorem mdl {t kt e ty : Nat} [T : MapT P t kt e] (h : MapF w b f) {key : Int} (k : ∀ w', MapF w' b (updF f key none) → Upd [b] w w' → w'.heap.size = w.heap.size → K (.tuple #[]) w') : RunP P (Builtin.delete_ #[t, kt] ty #[.map (some b), .int .i64 key]) K w := by
  obtain ⟨es, clock, hb, hk, hn, hf⟩ := h
  have hkey : MapKept.IsKey (.int .i64) (.int .i64 key) := rfl
  rcases MapKept.findNow_spec hkey es.toList 0 (keys_is hk) with ⟨h1, h2⟩ | ⟨j, x, h1, h2, h3⟩
  · refine rn (.tuple #[]) { w with heap := w.heap.setIfInBounds b (.map es clock) } ?_ (k _ ⟨es, clock, (MapKept.heap_set hb).1, hk, hn, ?_⟩ (upd_set (o := .map es clock)) (by simp))
    · unfold Builtin.delete_
      simp [run_underlying T.t, MapKept.run_getObj_map hb, MapKept.run_checkKey T.k hkey, MapKept.run_findKey T.k h1, MapKept.run_setObj_map _ hb, Result.andThen, Sem.run_bind]
    · intro q u
      unfold updF
      by_cases hq : q = key
      · subst hq
        rw [if_pos rfl]
        constructor
        · intro e; cases e
        · rintro ⟨x, hx, hxk, -⟩; exact absurd hxk (h2 x hx)
      · rw [if_neg hq]; exact hf q u
  · obtain ⟨hsp, hj⟩ := split_at h2
    have hjs : j < es.size := by simpa using hj
    have hm : (es.eraseIdxIfInBounds j).toList = es.toList.take j ++ es.toList.drop (j + 1) := by
      unfold Array.eraseIdxIfInBounds
      rw [dif_pos hjs, Array.toList_eraseIdx, List.eraseIdx_eq_take_drop_succ]
    refine rn (.tuple #[]) { w with heap := w.heap.setIfInBounds b (.map (es.eraseIdxIfInBounds j) clock) } ?_ (k _ ⟨_, _, (MapKept.heap_set hb).1, ?_, ?_, ?_⟩ (upd_set (o := .map es clock)) (by simp))
    · unfold Builtin.delete_
      simp [run_underlying T.t, MapKept.run_getObj_map hb, MapKept.run_checkKey T.k hkey, MapKept.run_findKey T.k h1, MapKept.run_setObj_map _ hb, Result.andThen, Sem.run_bind]
    · rw [hm]
      intro y hy
      simp only [List.mem_append] at hy
      rcases hy with hy | hy
      · exact hk y (List.mem_of_mem_take hy)
      · exact hk y (List.mem_of_mem_drop hy)
    · rw [hm]
      rw [hsp] at hn
      simp only [List.map_append, List.map_cons] at hn ⊢
      obtain ⟨n1, n2, n3⟩ := List.nodup_append.1 hn
      exact List.nodup_append.2 ⟨n1, (List.nodup_cons.1 n2).2, fun a ha c hc => n3 a ha c (List.mem_cons_of_mem _ hc)⟩
    · intro q u
      rw [hm]
      rw [hsp] at hn
      simp only [List.map_append, List.map_cons] at hn
      rw [h3] at hn
      obtain ⟨n1, n2, n3⟩ := List.nodup_append.1 hn
      obtain ⟨n4, n5⟩ := List.nodup_cons.1 n2
      have o1 : ∀ y ∈ es.toList.take j, y.key ≠ .int .i64 key := fun y hy e => n3 _ (List.mem_map.2 ⟨y, hy, rfl⟩) _ List.mem_cons_self e
      have o2 : ∀ y ∈ es.toList.drop (j + 1), y.key ≠ .int .i64 key := fun y hy e => n4 (List.mem_map.2 ⟨y, hy, e⟩)
      simp only [List.mem_append]
      unfold updF
      by_cases hq : q = key
      · subst hq
        rw [if_pos rfl]
        constructor
        · intro e; cases e
        · rintro ⟨y, hy | hy, hyk, -⟩
          · exact absurd hyk (o1 y hy)
          · exact absurd hyk (o2 y hy)
      · rw [if_neg hq, hf q u]
        constructor
        · rintro ⟨y, hy, hyk, hyv⟩
          rw [hsp] at hy
          simp only [List.mem_append, List.mem_cons] at hy
          rcases hy with hy | rfl | hy
          · exact ⟨y, .inl hy, hyk, hyv⟩
          · rw [h3] at hyk
            exact absurd (by injection hyk with _ e; exact e.symm) hq
          · exact ⟨y, .inr hy, hyk, hyv⟩
        · rintro ⟨y, hy | hy, hyk, hyv⟩
          · exact ⟨y, List.mem_of_mem_take hy, hyk, hyv⟩
          · exact ⟨y, List.mem_of_mem_drop hy, hyk, hyv⟩
end
end Go.Proofs.Ytblngbagjieeiaa
