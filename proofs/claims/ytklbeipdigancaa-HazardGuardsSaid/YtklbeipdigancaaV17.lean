/- Arrays sliced whole; copies. -/
import Derived.Test.YtklbeipdigancaaV16
import Derived.Laws.CopyRow
import Derived.Laws.IdiomCopy
namespace Go.Proofs.Ytklbeipdigancaa
open Go.RowKit
section
variable {P : Program} {K : Value → World → Prop} {w : World}
theorem sla {t len e n : Nat} [ArrT P t len e n] {b o : Nat} (k : K (.slice (some ⟨b, o, none⟩) len len) w) : RunP P (Instr.sliceAt t (.pointer (some ⟨b, o, none⟩)) none none none) K w := by
  have hu := ArrT.u (P := P) (t := t) (len := len) (e := e) (n := n)
  have e1 : P.arrayLen t = len := by simp [Program.arrayLen, hu]
  have e2 : P.elem t = e := by simp [Program.elem, hu]
  refine rn _ w ?_ k
  rw [run_sliceAt_array_all w t ⟨b, o, none⟩ (by rw [e1, e2]; exact hu), e1, e2, ArrT.size (P := P) (t := t) (len := len) (e := e) (n := n)]
  have e3 : (if len = 0 then (⟨b, o, none⟩ : Addr) else (⟨b, o, none⟩ : Addr).add (0 * n)) = ⟨b, o, none⟩ := by split <;> simp [Addr.add]
  simp [Result.andThen, slicedAt, e3]
  intro _
  simp [Addr.add]
theorem cpy {dT sT ty e bytes : Nat} [SlT P dT e 1] [ElemT P e 1 bytes] {g o dLen dCap m : Nat} {T : TypeId} {cur : Array Value} {u : Value} {news : List Value} (hb : Blk w g T cur) (hr : RdL w 1 u m news) (hfit : o + dLen ≤ cur.size) (h1 : ∀ x ∈ news, x.oneCell' = true)
    (k : ∀ w', Blk w' g T (cur.toList.take o ++ news.take dLen ++ cur.toList.drop (o + min m dLen)).toArray → Upd [g] w w' → w'.heap.size = w.heap.size → K (.int .i64 ((min m dLen : Nat) : Int)) w') :
    RunP P (Builtin.copy_ #[dT, sT] ty #[.slice (some ⟨g, o, none⟩) dLen dCap, u]) K w := by
  obtain ⟨a, c, rfl, hl, hc⟩ := hr.h
  have hs : (P.info? e).map (·.size) = some 1 := by
    obtain ⟨i, z, hi, -, hz, -⟩ := ElemT.h (P := P) (e := e) (n := 1) (bytes := bytes)
    simp [hi, hz]
  have hu := SlT.u (P := P) (t := dT) (e := e) (n := 1)
  by_cases h0 : min m dLen = 0
  · have hn : news.take dLen = [] := by
      apply List.eq_nil_of_length_eq_zero
      rw [List.length_take]; omega
    refine rn _ w (run_copy_none w dT sT ty e _ a dLen dCap m c hu hs h0) ?_
    have := k w (by rw [hn, h0, List.append_nil, Nat.add_zero, List.take_append_drop]; simpa using hb) (Upd.refl _ _) rfl
    rw [h0] at this
    exact this
  · obtain ⟨b, o', rfl, hcell⟩ := hc (by omega)
    have hlen : (news.take dLen).length = min m dLen := by rw [List.length_take]; omega
    refine rn _ _ (run_copy_row P w dT sT ty e g o dLen dCap ⟨b, o', none⟩ m c cur T (news.take dLen) hu hs hb hlen (fun j v hj => ?_) (by rw [hlen]; omega) (fun v hv => h1 v (List.mem_of_mem_take hv))) ?_
    · rw [List.getElem?_take] at hj
      split at hj
      · rw [Addr.add_lit]; exact hcell j v hj
      · cases hj
    · rw [hlen]
      exact k _ (setRow_heap w g cur _ T (0, 0) hb) ⟨rfl, rfl, rfl, by simp, fun q hq hn => setRow_other w g q _ (by simpa using hn)⟩ (by simp)
end
end Go.Proofs.Ytklbeipdigancaa
