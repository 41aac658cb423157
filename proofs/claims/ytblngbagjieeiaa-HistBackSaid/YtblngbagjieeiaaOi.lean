/- Histories: Right of both; same; busy. -/
import Derived.Test.YtblngbagjieeiaaOh
namespace Go.Proofs.Ytblngbagjieeiaa
open Go.RowKit
attribute [local irreducible] Instr.loadAt Instr.storeAt Instr.fieldAt Instr.indexAt Instr.sliceAt Instr.buildSlice Instr.box Instr.alloc Builtin.append_ Builtin.len_ Builtin.min_ Builtin.max_ Calls Instr.build Instr.makeSlice binSem convert Instr.index Instr.range Instr.next
attribute [local irreducible] Builtin.unsafeSliceData_ Builtin.unsafeString_ Instr.lookup Instr.mapUpdate Instr.makeMap Builtin.delete_
instance (l : List EvD) : Decidable (rightH l) := by unfold rightH; exact inferInstance
def okN (f : BF) (e : EvD) : Prop := evE f e = 0 ∧ nullP e
instance (f : BF) (e : EvD) : Decidable (okN f e) := by unfold okN; exact inferInstance
theorem not_rightH {l : List EvD} {i : Nat} (hi : i < l.length) (h : ¬ okN (fOf (l.take i)) (l.getD i evZ)) : ¬ rightH l := fun hr => h (hr i hi)
theorem rightH_take {l : List EvD} {i : Nat} (hi : i < l.length) (h : rightH (l.take i)) (h1 : okN (fOf (l.take i)) (l.getD i evZ)) : rightH (l.take (i + 1)) := by
  rw [take_snoc evZ l i hi]
  exact rightH_app h h1.1 h1.2
set_option maxRecDepth 10000 in
theorem rrightH_c {w : World} {v : Value} {l : List EvD} (h : RdE w v l) (hl : l.length ≤ 1000) : Fn Try.prog 17 #[v] w fun r w' => r = .bool (decide (rightH l)) ∧ Upd [] w w' := by
  obtain ⟨va, vc, rfl, hl1, hl2⟩ := h.form
  refine fn_enter Try.func17 rfl rfl ?_
  refine loop_rule [0] [3] (fun vs w' mm => ∃ i : Nat, vs = [.int .i64 (i : Int)] ∧ i ≤ l.length ∧ mm = l.length - i ∧ rightH (l.take i) ∧ Upd [] w w') rfl [.int .i64 0] l.length rfl ⟨0, rfl, by omega, rfl, rightH_nil, Upd.refl _ _⟩ ?_
  rintro _ w2 mm ⟨i, rfl, hi, rfl, hR, hU⟩
  refine len_sl ?_
  refine cd (fun hlt => ?_) (fun hlt => ?_)
  · have hlt : i < l.length := by omega
    have h2 := h.upd0 hU
    obtain ⟨b, o, c, hv, -⟩ := h2.some_ (by omega)
    cases hv
    refine cl (rmayH_c h2 i hlt) ?_
    rintro _ w3 ⟨rfl, hu3⟩
    have hU3 := hU.trans hu3
    have h3 := h2.upd0 hu3
    have hmE : mayE l i = evE (fOf (l.take i)) (l.getD i evZ) := rfl
    have hno : ¬ okN (fOf (l.take i)) (l.getD i evZ) → decide (rightH l) = false := fun h => decide_eq_false (not_rightH hlt h)
    by_cases q1 : mayE l i = 0
    rotate_left
    · refine cY q1 ?_
      rw [hno (fun h => q1 h.1)]
      exact ⟨rfl, hU3⟩
    refine cN (fun h => h q1) ?_
    refine ix i rfl hlt ?_
    refine fa ?_
    refine ld (v := .bool (l.getD i evZ).bk) (h3.cell rfl i 1 hlt (by omega)) ?_
    cases hbk : (l.getD i evZ).bk with
    | true =>
      have hn : nullP (l.getD i evZ) ↔ (l.getD i evZ).c = z3 := by unfold nullP; rw [hbk]; simp
      refine ix i rfl hlt ?_
      refine fa ?_
      refine lda (c3V (l.getD i evZ).c).toList rfl (h3.lc rfl i hlt) ?_
      refine bd (c3V z3) (fun _ => by kernel_rfl) ?_
      refine anq3 ?_
      by_cases q2 : (l.getD i evZ).c = z3
      · refine cN (fun h => h q2) ?_
        refine ix i rfl hlt ?_
        refine fa ?_
        refine ld (v := .bool true) (by rw [← hbk]; exact h3.cell rfl i 1 hlt (by omega)) ?_
        refine ar64 (by omega) ?_
        exact round_mk [.int .i64 ((i + 1 : Nat) : Int)] (l.length - (i + 1)) rfl rfl ⟨i + 1, rfl, by omega, rfl, rightH_take hlt hR ⟨q1, hn.2 q2⟩, hU3⟩ (by omega)
      · refine cY q2 ?_
        rw [hno (fun h => q2 (hn.1 h.2))]
        exact ⟨rfl, hU3⟩
    | false =>
      have hn : nullP (l.getD i evZ) ↔ (l.getD i evZ).a = z3 := by unfold nullP; rw [hbk]; simp
      refine ix i rfl hlt ?_
      refine fa ?_
      refine ld (v := .bool false) (by rw [← hbk]; exact h3.cell rfl i 1 hlt (by omega)) ?_
      refine ix i rfl hlt ?_
      refine fa ?_
      refine lda (c3V (l.getD i evZ).a).toList rfl (h3.la rfl i hlt) ?_
      refine bd (c3V z3) (fun _ => by kernel_rfl) ?_
      refine anq3 ?_
      by_cases q2 : (l.getD i evZ).a = z3
      · refine cN (fun h => h q2) ?_
        refine ar64 (by omega) ?_
        exact round_mk [.int .i64 ((i + 1 : Nat) : Int)] (l.length - (i + 1)) rfl rfl ⟨i + 1, rfl, by omega, rfl, rightH_take hlt hR ⟨q1, hn.2 q2⟩, hU3⟩ (by omega)
      · refine cY q2 ?_
        rw [hno (fun h => q2 (hn.1 h.2))]
        exact ⟨rfl, hU3⟩
  · have hie : i = l.length := by omega
    subst hie
    rw [List.take_length] at hR
    exact ⟨by rw [decide_eq_true hR]; rfl, hU⟩
section
variable {w w' : World} {g : Nat} {lv mv : Value} {l : List EvD} {f : BF}
set_option maxRecDepth 10000 in
theorem again_c (h : IsH w g lv mv l f) (hl : l.length ≤ 100000) (e : EvD) : Fn Try.prog 35 #[ptrV g, .agg (evV e)] w fun r w' => r = .bool (decide (okN f e)) ∧ (¬ okN f e → Upd [] w w') ∧
    (okN f e → ∃ lv' mv', IsH w' g lv' mv' (l ++ [e]) (stepF f e) ∧ To w (footH g lv mv) w' (footH g lv' mv')) := by
  refine fn_enter Try.func35 rfl rfl ?_
  refine bx fun w1 hb1 hu1 hs1 => ?_
  have hb1 : Blk w1 w.heap.size TEv (evV e) := hb1
  have h1 := h.upd0 hu1
  refine fa ?_
  refine ldb hb1 (v := .bool e.bk) rfl ?_
  obtain ⟨th, bk, c, a⟩ := e
  cases bk with
  | true =>
    refine fa ?_
    refine lda (c3V c).toList rfl (ev_c hb1) ?_
    refine bd (c3V z3) (fun _ => by kernel_rfl) ?_
    refine aq3 ?_
    by_cases q2 : c = z3
    rotate_left
    · refine cN q2 ?_
      have hn : ¬ okN f ⟨th, true, c, a⟩ := fun h => q2 h.2
      exact ⟨by rw [decide_eq_false hn]; rfl, fun _ => hu1, fun h => absurd h hn⟩
    refine cY q2 ?_
    subst q2
    refine fa ?_
    refine ldb hb1 (v := .int .i64 th) rfl ?_
    refine fa ?_
    refine lda (c3V a).toList rfl (ev_a hb1) ?_
    refine cl (respond_c h1 hl th a) ?_
    rintro _ w2 ⟨rfl, r1, r2⟩
    have he : okN f ⟨th, true, z3, a⟩ ↔ resE f th a = 0 := ⟨fun h => h.1, fun h => ⟨h, rfl⟩⟩
    refine ⟨bl (by simp [he]), fun h => hu1.trans (r1 (fun h2 => h (he.2 h2))), fun h => ?_⟩
    obtain ⟨lv', mv', i1, i2⟩ := r2 (he.1 h)
    exact ⟨lv', mv', i1, (To.of0 _ hu1).trans i2⟩
  | false =>
    refine fa ?_
    refine lda (c3V a).toList rfl (ev_a hb1) ?_
    refine bd (c3V z3) (fun _ => by kernel_rfl) ?_
    refine aq3 ?_
    by_cases q2 : a = z3
    rotate_left
    · refine cN q2 ?_
      have hn : ¬ okN f ⟨th, false, c, a⟩ := fun h => q2 h.2
      exact ⟨by rw [decide_eq_false hn]; rfl, fun _ => hu1, fun h => absurd h hn⟩
    refine cY q2 ?_
    subst q2
    refine fa ?_
    refine ldb hb1 (v := .int .i64 th) rfl ?_
    refine fa ?_
    refine lda (c3V c).toList rfl (ev_c hb1) ?_
    refine cl (invoke_c h1 hl th c) ?_
    rintro _ w2 ⟨rfl, r1, r2⟩
    have he : okN f ⟨th, false, c, z3⟩ ↔ invE f th c = 0 := ⟨fun h => h.1, fun h => ⟨h, rfl⟩⟩
    refine ⟨bl (by simp [he]), fun h => hu1.trans (r1 (fun h2 => h (he.2 h2))), fun h => ?_⟩
    obtain ⟨lv', mv', i1, i2⟩ := r2 (he.1 h)
    exact ⟨lv', mv', i1, (To.of0 _ hu1).trans i2⟩
end
set_option maxRecDepth 10000 in
theorem rightH_c {w : World} {v : Value} {l : List EvD} (h : RdE w v l) (hl : l.length ≤ 1000) : Fn Try.prog 15 #[v] w fun r w' => r = .bool (decide (rightH l)) ∧ Upd [] w w' := by
  obtain ⟨va, vc, rfl, hl1, hl2⟩ := h.form
  refine fn_enter Try.func15 rfl rfl ?_
  refine al #[.slice none 0 0, .map none] (fun _ => by kernel_rfl) fun w1 hb1 hu1 hs1 => ?_
  have hb1 : Blk w1 w.heap.size TH #[.slice none 0 0, .map none] := hb1
  refine len_sl ?_
  have I1 : IsH w1 w.heap.size (.slice none 0 0) (.map none) [] (fOf []) := ⟨hb1, Sl.nil_ _ _ _, .inl ⟨rfl, fun _ => rfl⟩⟩
  refine loop_rule [3, 6, 7] [8] (fun vs w' mm => ∃ (i : Nat) (lv mv : Value), vs = [.int .i64 (i : Int)] ∧ i ≤ l.length ∧ mm = l.length - i ∧ rightH (l.take i) ∧ Upd [] w w' ∧ IsH w' w.heap.size lv mv (l.take i) (fOf (l.take i)) ∧ ∀ k ∈ footH w.heap.size lv mv, w.heap.size ≤ k) rfl [.int .i64 0] l.length rfl
    ⟨0, _, _, rfl, by omega, rfl, rightH_nil, hu1, I1, by simp [footH, mvOwn, Value.ownBlock]⟩ ?_
  rintro _ w2 mm ⟨i, lv, mv, rfl, hi, rfl, hR, hU, I, hF⟩
  refine cd (fun hlt => ?_) (fun hlt => ?_)
  · have hlt : i < l.length := by omega
    have h2 := h.upd0 hU
    obtain ⟨b, o, c, hv, -⟩ := h2.some_ (by omega)
    cases hv
    refine ix i rfl hlt ?_
    refine lda (evL (l.getD i evZ)) rfl (h2.ldE rfl i hlt) ?_
    refine al (evV evZ) (fun _ => by kernel_rfl) fun w3 hb3 hu3 hs3 => ?_
    refine stw hb3 rfl rfl rfl fun w4 hb4 hu4 hs4 => ?_
    have hb4 : Blk w4 w2.heap.size TEv (evV (l.getD i evZ)) := hb4
    have hU4 : Upd [] w2 w4 := hu3.step hu4 (by simp)
    refine ldw hb4 rfl ?_
    have hln : (l.take i).length ≤ 100000 := by rw [List.length_take]; omega
    refine cl (again_c (I.upd0 hU4) hln (l.getD i evZ)) ?_
    rintro _ w5 ⟨rfl, r1, r2⟩
    by_cases q1 : okN (fOf (l.take i)) (l.getD i evZ)
    · refine cN (fun h => h q1) ?_
      obtain ⟨lv', mv', i1, i2⟩ := r2 q1
      obtain ⟨n1, n2⟩ := i2.new (hU.trans hU4) hF
      refine ar64 (by omega) ?_
      refine round_mk [.int .i64 ((i + 1 : Nat) : Int)] (l.length - (i + 1)) rfl rfl ⟨i + 1, lv', mv', rfl, by omega, rfl, rightH_take hlt hR q1, n1, ?_, n2⟩ (by omega)
      rw [take_snoc evZ l i hlt, fOf_app]
      exact i1
    · refine cY q1 ?_
      rw [decide_eq_false (not_rightH hlt q1)]
      exact ⟨rfl, (hU.trans hU4).trans (r1 q1)⟩
  · have hie : i = l.length := by omega
    subst hie
    rw [List.take_length] at hR
    exact ⟨by rw [decide_eq_true hR]; rfl, hU⟩
end Go.Proofs.Ytblngbagjieeiaa
