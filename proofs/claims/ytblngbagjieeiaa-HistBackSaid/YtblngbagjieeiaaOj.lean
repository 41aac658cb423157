/- Histories: sameness; who is busy; the example. -/
import Derived.Test.YtblngbagjieeiaaOi
namespace Go.Proofs.Ytblngbagjieeiaa
open Go.RowKit
attribute [local irreducible] Instr.loadAt Instr.storeAt Instr.fieldAt Instr.indexAt Instr.sliceAt Instr.buildSlice Instr.box Instr.alloc Builtin.append_ Builtin.len_ Builtin.min_ Builtin.max_ Calls Instr.build Instr.makeSlice binSem convert Instr.index Instr.range Instr.next
attribute [local irreducible] Builtin.unsafeSliceData_ Builtin.unsafeString_ Instr.lookup Instr.mapUpdate Instr.makeMap Builtin.delete_
instance : DecidableEq EvD := fun x y => decidable_of_iff (x.th = y.th ∧ x.bk = y.bk ∧ x.c = y.c ∧ x.a = y.a) (by
  obtain ⟨a1, a2, a3, a4⟩ := x
  obtain ⟨b1, b2, b3, b4⟩ := y
  simp)
theorem eqFields_one {P : Program} {w : World} {d : Nat} {f : Field} {fs : List Field} {xs ys : Array Value} {a b : Value} {e r : Bool} (hn : (f.name == "_") = false) (h1 : (part f.type xs f.offset).run P w = .ok a w) (h2 : (part f.type ys f.offset).run P w = .ok b w) (h3 : (Op.equalIn d f.type a b).run P w = .ok e w) (h4 : (Op.eqFields d xs ys fs).run P w = .ok r w) : (Op.eqFields d xs ys (f :: fs)).run P w = .ok (e && r) w := by
  have hn : ¬ f.name = "_" := by simpa using hn
  unfold Op.eqFields
  simp only [Sem.run_bind, Sem.run_ite, hn, ne_eq, not_false_eq_true, if_true, h1, h2, h3, Result.andThen_ok]
  cases e
  · simp
  · simpa using h4
def fld (f : Field) (t o : Nat) : Bool := decide (f.type = t) && decide (f.offset = o) && !(f.name == "_")
def evTB (l : List Field) : Bool := match l with
  | [a, b, c, d] => fld a 3 0 && fld b 4 1 && fld c TCl 2 && fld d TAn 5
  | _ => false
theorem fld_of {f : Field} {t o : Nat} (h : fld f t o = true) : f.type = t ∧ f.offset = o ∧ (f.name == "_") = false := by
  unfold fld at h
  simp only [Bool.and_eq_true, decide_eq_true_eq, Bool.not_eq_true'] at h
  exact ⟨h.1.1, h.1.2, h.2⟩
theorem eqT_run {P : Program} {w : World} {t : Nat} {ks : List FK} [EqT P t ks] {xs ys : Array Value} (d : Nat) (hx : fitsK ks xs.toList = true) (hy : fitsK ks ys.toList = true) : (Op.equalIn (d + 2) t (.agg xs) (.agg ys)).run P w = .ok (eqCells xs.toList ys.toList) w := by
  rw [show d + 2 = (d + 1) + 1 from rfl, run_equalIn_struct w (d + 1) t xs ys (EqT.u (ks := ks)) (EqT.held (ks := ks))]
  exact eqFields_run d xs ys _ ks 0 _ _ (fieldsOk_of _ _ _ EqT.f) (by simp) (by simp) hx hy
theorem eq3_run {T : Nat} [EqT Try.prog T [.i .i64, .i .u32, .i .u32]] (d : Nat) (a b : C3) (w : World) : (Op.equalIn (d + 2) T (.agg (c3V a)) (.agg (c3V b))).run Try.prog w = .ok (decide (a = b)) w := by
  rw [← eq3_dec]
  exact eqT_run (ks := [.i .i64, .i .u32, .i .u32]) d rfl rfl
theorem evU : Try.prog.underlying TEv = some (.struct (Try.prog.fieldsOf TEv)) := by kernel_rfl
theorem evH : Try.prog.stoodInHeld TEv = false := by kernel_rfl
theorem evG : Try.prog.eqGuardType Try.prog.depth TEv = false := by kernel_rfl
theorem evF (x y : EvD) {f0 f1 f2 f3 : Field} (n0 : (f0.name == "_") = false) (n1 : (f1.name == "_") = false) (n2 : (f2.name == "_") = false) (n3 : (f3.name == "_") = false) (t0 : f0.type = 3) (t1 : f1.type = 4) (t2 : f2.type = TCl) (t3 : f3.type = TAn) (o0 : f0.offset = 0) (o1 : f1.offset = 1) (o2 : f2.offset = 2) (o3 : f3.offset = 5) (n : Nat) (w : World) : (Op.eqFields (n + 2) (evV x) (evV y) [f0, f1, f2, f3]).run Try.prog w = .ok (x.th == y.th && (x.bk == y.bk && (decide (x.c = y.c) && (decide (x.a = y.a) && true)))) w := by
  refine eqFields_one (a := .int .i64 x.th) (b := .int .i64 y.th) n0 (by rw [t0, o0]; kernel_rfl) (by rw [t0, o0]; kernel_rfl) (by rw [t0]; exact run_equalIn_int w (n + 1) _ _ _ _ _ Try.underlying3) ?_
  refine eqFields_one (a := .bool x.bk) (b := .bool y.bk) n1 (by rw [t1, o1]; kernel_rfl) (by rw [t1, o1]; kernel_rfl) (by rw [t1]; exact run_equalIn_bool' w (n + 1) _ _ _ Try.underlying4) ?_
  refine eqFields_one (a := .agg (c3V x.c)) (b := .agg (c3V y.c)) n2 (by rw [t2, o2]; kernel_rfl) (by rw [t2, o2]; kernel_rfl) (by rw [t2]; exact eq3_run n _ _ w) ?_
  refine eqFields_one (a := .agg (c3V x.a)) (b := .agg (c3V y.a)) n3 (by rw [t3, o3]; kernel_rfl) (by rw [t3, o3]; kernel_rfl) (by rw [t3]; exact eq3_run n _ _ w) ?_
  rfl
theorem eqEv (x y : EvD) (w : World) : (Op.equalIn 10000 TEv (.agg (evV x)) (.agg (evV y))).run Try.prog w = .ok (decide (x = y)) w := by
  rw [show (10000 : Nat) = 9999 + 1 from rfl, run_equalIn_struct w 9999 TEv _ _ evU evH]
  obtain ⟨f0, f1, f2, f3, hl, h0, h1, h2, h3⟩ : ∃ f0 f1 f2 f3, (Try.prog.fieldsOf TEv).toList = [f0, f1, f2, f3] ∧ fld f0 3 0 = true ∧ fld f1 4 1 = true ∧ fld f2 TCl 2 = true ∧ fld f3 TAn 5 = true := by
    have hB : evTB (Try.prog.fieldsOf TEv).toList = true := by kernel_rfl
    unfold evTB at hB
    split at hB
    · rename_i a b c d he
      simp only [Bool.and_eq_true] at hB
      exact ⟨a, b, c, d, he, hB.1.1.1, hB.1.1.2, hB.1.2, hB.2⟩
    · cases hB
  rw [hl]
  obtain ⟨t0, o0, n0⟩ := fld_of h0
  obtain ⟨t1, o1, n1⟩ := fld_of h1
  obtain ⟨t2, o2, n2⟩ := fld_of h2
  obtain ⟨t3, o3, n3⟩ := fld_of h3
  have key := evF x y n0 n1 n2 n3 t0 t1 t2 t3 o0 o1 o2 o3 9997 w
  rw [key]
  refine congrArg (fun b => Result.ok b w) ?_
  obtain ⟨a1, a2, a3, a4⟩ := x
  obtain ⟨b1, b2, b3, b4⟩ := y
  by_cases e1 : a1 = b1 <;> by_cases e2 : a2 = b2 <;> by_cases e3 : a3 = b3 <;> by_cases e4 : a4 = b4 <;> simp [e1, e2, e3, e4]
section
variable {K : Value → World → Prop} {w : World} {a b : EvD} {x y : Operand}
theorem anqE (k : K (.bool (!decide (a = b))) w) : RunP Try.prog (binSem .neq TEv x y (.agg (evV a)) (.agg (evV b))) K w :=
  rn _ _ (bin_agg evG (by rw [run_neq_struct, eqEv]; rfl)) k
end
theorem same_take {α : Type} {d : α} {l m : List α} (hl : l.length = m.length) (h : ∀ i, i < l.length → l.getD i d = m.getD i d) : l = m := by
  apply List.ext_getElem hl
  intro i h1 h2
  have := h i h1
  simpa [List.getD, h1, h2] using this
theorem same_c {w : World} {v1 v2 : Value} {l1 l2 : List EvD} (h1 : RdE w v1 l1) (h2 : RdE w v2 l2) : Fn Try.prog 13 #[v1, v2] w fun r w' => r = .bool (decide (l1 = l2)) ∧ Upd [] w w' := by
  obtain ⟨a1, c1, rfl, hl1, hm1⟩ := h1.form
  obtain ⟨a2, c2, rfl, hl2, hm2⟩ := h2.form
  have hmx : l1.length ≤ 9223372036854775807 := by simp only [maxLen] at hm1; omega
  refine fn_enter Try.func13 rfl rfl ?_
  refine len_sl ?_
  refine len_sl ?_
  by_cases hl : l1.length = l2.length
  rotate_left
  · refine cY (by omega) ?_
    exact ⟨by rw [decide_eq_false (fun h => hl (congrArg List.length h))]; rfl, Upd.refl _ _⟩
  refine cN (by omega) ?_
  refine loop_rule [0, 1] [5] (fun vs w' mm => ∃ i : Nat, vs = [.int .i64 (i : Int)] ∧ i ≤ l1.length ∧ mm = l1.length - i ∧ (∀ j, j < i → l1.getD j evZ = l2.getD j evZ) ∧ Upd [] w w') rfl [.int .i64 0] l1.length rfl ⟨0, rfl, by omega, rfl, fun j hj => absurd hj (by omega), Upd.refl _ _⟩ ?_
  rintro _ w3 mm ⟨i, rfl, hi, rfl, hE, hU⟩
  refine len_sl ?_
  refine cd (fun hlt => ?_) (fun hlt => ?_)
  · have hlt : i < l1.length := by omega
    have k1 := h1.upd0 hU
    have k2 := h2.upd0 hU
    obtain ⟨b1, o1, c1', hv, -⟩ := k1.some_ (by omega)
    cases hv
    obtain ⟨b2, o2, c2', hv, -⟩ := k2.some_ (by omega)
    cases hv
    refine draw_all (fun w' => w' = w3.drew) (by decide +kernel) rfl ?_
    refine q_ix i rfl hlt ?_
    refine rq (.agg (evV (l1.getD i evZ))) (by rintro _ rfl; exact lda (evL (l1.getD i evZ)) rfl (k1.ldE rfl i hlt) ⟨rfl, rfl⟩) ?_
    refine q_ix i rfl (by omega) ?_
    refine rq (.agg (evV (l2.getD i evZ))) (by rintro _ rfl; exact lda (evL (l2.getD i evZ)) rfl (k2.ldE rfl i (by omega)) ⟨rfl, rfl⟩) ?_
    refine rq (.bool (!decide (l1.getD i evZ = l2.getD i evZ))) (fun _ _ => anqE ⟨rfl, rfl⟩) ?_
    rintro _ rfl
    by_cases q : l1.getD i evZ = l2.getD i evZ
    · refine cN (fun h => h q) ?_
      refine ar64 (by omega) ?_
      refine round_mk [.int .i64 ((i + 1 : Nat) : Int)] (l1.length - (i + 1)) rfl rfl ⟨i + 1, rfl, by omega, rfl, fun j hj => ?_, hU.drew⟩ (by omega)
      rcases Nat.lt_or_ge j i with h | h
      · exact hE j h
      · have : j = i := by omega
        subst this; exact q
    · refine cY q ?_
      exact ⟨by rw [decide_eq_false (fun h => q (by rw [h]))]; rfl, hU.drew⟩
  · have hie : i = l1.length := by omega
    subst hie
    exact ⟨by rw [decide_eq_true (same_take hl hE)]; rfl, hU⟩
theorem busyL_c {w : World} {v : Value} {l : List EvD} (h : RdE w v l) (th : Int) : Fn Try.prog 12 #[v, .int .i64 th] w fun r w' => r = .bool (fOf l th).isSome ∧ w' = w := by
  obtain ⟨va, vc, rfl, hl1, hm1⟩ := h.form
  have hmx : l.length ≤ 9223372036854775807 := by simp only [maxLen] at hm1; omega
  refine fn_enter Try.func12 rfl rfl ?_
  refine loop_rule [0, 1] [5, 6] (fun vs w' mm => ∃ i : Nat, vs = [.bool (fOf (l.take i) th).isSome, .int .i64 (i : Int)] ∧ i ≤ l.length ∧ mm = l.length - i ∧ w' = w) rfl [.bool false, .int .i64 0] l.length rfl ⟨0, rfl, by omega, rfl, rfl⟩ ?_
  rintro _ w3 mm ⟨i, rfl, hi, rfl, rfl⟩
  refine len_sl ?_
  refine cd (fun hlt => ?_) (fun hlt => ?_)
  · have hlt : i < l.length := by omega
    obtain ⟨b1, o1, c1', hv, -⟩ := h.some_ (by omega)
    cases hv
    have hb := busy_last (l.take i) (l.getD i evZ) th
    rw [← take_snoc evZ l i hlt] at hb
    refine ix i rfl hlt ?_
    refine fa ?_
    refine ld (v := .int .i64 (l.getD i evZ).th) (h.cell0 rfl i hlt) ?_
    by_cases q : (l.getD i evZ).th = th
    · refine cY q ?_
      rw [if_pos q] at hb
      refine ix i rfl hlt ?_
      refine fa ?_
      refine ld (v := .bool (l.getD i evZ).bk) (h.cell rfl i 1 hlt (by omega)) ?_
      refine ar64 (by omega) ?_
      exact round_mk [.bool (!(l.getD i evZ).bk), .int .i64 ((i + 1 : Nat) : Int)] (l.length - (i + 1)) rfl rfl ⟨i + 1, by rw [hb], by omega, rfl, rfl⟩ (by omega)
    · refine cN q ?_
      rw [if_neg q] at hb
      refine ar64 (by omega) ?_
      exact round_mk [.bool (fOf (l.take i) th).isSome, .int .i64 ((i + 1 : Nat) : Int)] (l.length - (i + 1)) rfl rfl ⟨i + 1, by rw [hb], by omega, rfl, rfl⟩ (by omega)
  · have hie : i = l.length := by omega
    subst hie
    rw [List.take_length]
    exact ⟨rfl, rfl⟩
theorem lives12 (w : World) : Fn Try.prog 7 #[] w fun r w' => r = .bool true ∧ Upd [] w w' := by
  refine fn_enter Try.func7 rfl rfl ?_
  refine al #[.slice none 0 0, .map none] (fun _ => by kernel_rfl) fun w1 hb1 hu1 hs1 => ?_
  have I1 : IsH w1 w.heap.size (.slice none 0 0) (.map none) [] (fun _ => none) := ⟨hb1, Sl.nil_ _ _ _, .inl ⟨rfl, fun _ => rfl⟩⟩
  refine bd (c3V (2, 0, 0)) (fun _ => by kernel_rfl) ?_
  refine cl (invoke_c I1 (by decide) 1 (2, 0, 0)) ?_
  rintro _ w2 ⟨rfl, -, r2⟩
  obtain ⟨lv, mv, I2, t2⟩ := r2 (by decide +kernel)
  refine bd (c3V (3, 0, 0)) (fun _ => by kernel_rfl) ?_
  refine cl (respond_c I2 (by decide) 1 (3, 0, 0)) ?_
  rintro _ w3 ⟨rfl, -, r3⟩
  obtain ⟨lv3, mv3, I3, t3⟩ := r3 (by decide +kernel)
  obtain ⟨u3, f3⟩ := (t2.trans t3).new hu1 (by simp [footH, mvOwn, Value.ownBlock])
  refine cl (events_c I3 (by decide)) ?_
  rintro ev w4 ⟨h4, hu4⟩
  refine cl (show_h (RdR.of_sl h4) (by
    intro e he
    simp only [List.nil_append, List.cons_append, List.mem_cons, List.not_mem_nil, or_false] at he
    rcases he with rfl | rfl <;> exact ⟨⟨⟨by decide, by decide⟩, ⟨by decide, by decide⟩⟩, ⟨by decide, by decide⟩, ⟨by decide, by decide⟩⟩) (by decide)) ?_
  rintro _ w5 ⟨rfl, hu5⟩
  have e : textL ([] ++ [⟨1, false, (2, 0, 0), z3⟩] ++ [⟨1, true, z3, (3, 0, 0)⟩]) = [49, 32, 60, 32, 112, 101, 101, 107, 109, 105, 110, 10, 49, 32, 62, 32, 101, 109, 112, 116, 121, 10] := by decide +kernel
  rw [e]
  have e2 : ((strOfNums [49, 32, 60, 32, 112, 101, 101, 107, 109, 105, 110, 10, 49, 32, 62, 32, 101, 109, 112, 116, 121, 10]).toList == (ByteArray.mk #[49, 32, 60, 32, 112, 101, 101, 107, 109, 105, 110, 10, 49, 32, 62, 32, 101, 109, 112, 116, 121, 10]).toList) = true := by decide +kernel
  refine ⟨?_, (u3.trans hu4).trans hu5⟩
  exact congrArg Value.bool e2
end Go.Proofs.Ytblngbagjieeiaa
