/- The law HistOpers: its walk. -/
import Derived.Test.YtblngbagjieeiaaOq
import Derived.Test.YtblngbagjieeiaaOm
namespace Go.Proofs.Ytblngbagjieeiaa
open Go.RowKit
attribute [local irreducible] Instr.loadAt Instr.storeAt Instr.fieldAt Instr.indexAt Instr.sliceAt Instr.buildSlice Instr.box Instr.alloc Builtin.append_ Builtin.len_ Builtin.min_ Builtin.max_ Calls Instr.build Instr.makeSlice binSem convert Instr.index Instr.range Instr.next
attribute [local irreducible] Builtin.unsafeSliceData_ Builtin.unsafeString_ Instr.lookup Instr.mapUpdate Instr.makeMap Builtin.delete_
def opTB (l : List Field) : Bool := match l with
  | [a, b, c, d, e] => fld a 3 0 && fld b TCl 1 && fld c TAn 4 && fld d 3 7 && fld e 3 8
  | _ => false
theorem opU : Try.prog.underlying TOp = some (.struct (Try.prog.fieldsOf TOp)) := by kernel_rfl
theorem opH : Try.prog.stoodInHeld TOp = false := by kernel_rfl
theorem opG : Try.prog.eqGuardType Try.prog.depth TOp = false := by kernel_rfl
theorem opEqF (x y : OpD) {f0 f1 f2 f3 f4 : Field} (n0 : (f0.name == "_") = false) (n1 : (f1.name == "_") = false) (n2 : (f2.name == "_") = false) (n3 : (f3.name == "_") = false) (n4 : (f4.name == "_") = false) (t0 : f0.type = 3) (t1 : f1.type = TCl) (t2 : f2.type = TAn) (t3 : f3.type = 3) (t4 : f4.type = 3) (o0 : f0.offset = 0) (o1 : f1.offset = 1) (o2 : f2.offset = 4) (o3 : f3.offset = 7) (o4 : f4.offset = 8) (n : Nat) (w : World) : (Op.eqFields (n + 2) (opV x) (opV y) [f0, f1, f2, f3, f4]).run Try.prog w = .ok (x.th == y.th && (decide (x.c = y.c) && (decide (x.a = y.a) && (x.frm == y.frm && (x.to == y.to && true))))) w := by
  refine eqFields_one (a := .int .i64 x.th) (b := .int .i64 y.th) n0 (by rw [t0, o0]; kernel_rfl) (by rw [t0, o0]; kernel_rfl) (by rw [t0]; exact run_equalIn_int w (n + 1) _ _ _ _ _ Try.underlying3) ?_
  refine eqFields_one (a := .agg (c3V x.c)) (b := .agg (c3V y.c)) n1 (by rw [t1, o1]; kernel_rfl) (by rw [t1, o1]; kernel_rfl) (by rw [t1]; exact eq3_run n _ _ w) ?_
  refine eqFields_one (a := .agg (c3V x.a)) (b := .agg (c3V y.a)) n2 (by rw [t2, o2]; kernel_rfl) (by rw [t2, o2]; kernel_rfl) (by rw [t2]; exact eq3_run n _ _ w) ?_
  refine eqFields_one (a := .int .i64 x.frm) (b := .int .i64 y.frm) n3 (by rw [t3, o3]; kernel_rfl) (by rw [t3, o3]; kernel_rfl) (by rw [t3]; exact run_equalIn_int w (n + 1) _ _ _ _ _ Try.underlying3) ?_
  refine eqFields_one (a := .int .i64 x.to) (b := .int .i64 y.to) n4 (by rw [t4, o4]; kernel_rfl) (by rw [t4, o4]; kernel_rfl) (by rw [t4]; exact run_equalIn_int w (n + 1) _ _ _ _ _ Try.underlying3) ?_
  rfl
theorem eqOp (x y : OpD) (w : World) : (Op.equalIn 10000 TOp (.agg (opV x)) (.agg (opV y))).run Try.prog w = .ok (decide (x = y)) w := by
  rw [show (10000 : Nat) = 9999 + 1 from rfl, run_equalIn_struct w 9999 TOp _ _ opU opH]
  obtain ⟨f0, f1, f2, f3, f4, hl, h0, h1, h2, h3, h4⟩ : ∃ f0 f1 f2 f3 f4, (Try.prog.fieldsOf TOp).toList = [f0, f1, f2, f3, f4] ∧ fld f0 3 0 = true ∧ fld f1 TCl 1 = true ∧ fld f2 TAn 4 = true ∧ fld f3 3 7 = true ∧ fld f4 3 8 = true := by
    have hB : opTB (Try.prog.fieldsOf TOp).toList = true := by kernel_rfl
    unfold opTB at hB
    split at hB
    · rename_i a b c d e he
      simp only [Bool.and_eq_true] at hB
      exact ⟨a, b, c, d, e, he, hB.1.1.1.1, hB.1.1.1.2, hB.1.1.2, hB.1.2, hB.2⟩
    · cases hB
  rw [hl]
  obtain ⟨t0, o0, n0⟩ := fld_of h0
  obtain ⟨t1, o1, n1⟩ := fld_of h1
  obtain ⟨t2, o2, n2⟩ := fld_of h2
  obtain ⟨t3, o3, n3⟩ := fld_of h3
  obtain ⟨t4, o4, n4⟩ := fld_of h4
  have key := opEqF x y n0 n1 n2 n3 n4 t0 t1 t2 t3 t4 o0 o1 o2 o3 o4 9997 w
  rw [key]
  refine congrArg (fun b => Result.ok b w) ?_
  obtain ⟨a1, a2, a3, a4, a5⟩ := x
  obtain ⟨b1, b2, b3, b4, b5⟩ := y
  by_cases e1 : a1 = b1 <;> by_cases e2 : a2 = b2 <;> by_cases e3 : a3 = b3 <;> by_cases e4 : a4 = b4 <;> by_cases e5 : a5 = b5 <;> simp [e1, e2, e3, e4, e5]
theorem anqO {K : Value → World → Prop} {w : World} {a b : OpD} {x y : Operand} (k : K (.bool (!decide (a = b))) w) : RunP Try.prog (binSem .neq TOp x y (.agg (opV a)) (.agg (opV b))) K w :=
  rn _ _ (bin_agg opG (by rw [run_neq_struct, eqOp]; rfl)) k
abbrev RdO (w : World) (v : Value) (l : List OpD) : Prop := RdR w 9 opL v l
theorem RdO_of {w : World} {v : Value} {l : List OpD} (h : Sl w TOp 9 v l.length (opsC l)) : RdO w v l := by
  obtain ⟨a, cap, rfl, hc, h0⟩ := h.form
  have h' := h
  rcases h.2 with ⟨h1, h2⟩ | ⟨g, off, cap', cur, h1, hb, hcc, hm, hs, ht⟩
  · injection h1 with e1 e2 e3
    subst e1; subst e3
    exact ⟨none, 0, rfl, hc, by decide, fun hp => by omega⟩
  · injection h1 with e1 e2 e3
    subst e1; subst e3
    refine ⟨_, _, rfl, hc, hm, fun hp => ⟨g, off, rfl, h'.lt g rfl, fun i j hi hj => ?_⟩⟩
    rw [Nat.add_assoc, (h'.cells rfl (i * 9 + j) (by omega)).1, opsC_at l i j hi hj]
    simp [List.getD, hi]
theorem RdO_cell {w : World} {v : Value} {l : List OpD} (h : RdO w v l) {b o k c : Nat} (hv : v = .slice (some ⟨b, o, none⟩) k c) (i j : Nat) (hi : i < l.length) (hj : j < 9) : w.cell? ⟨b, o + i * 9 + j, none⟩ = (opL (l.getD i opZ))[j]? := by
  rw [h.at_ hv i j hi hj]
  simp [List.getD, hi]
theorem RdO_ld {w : World} {v : Value} {l : List OpD} (h : RdO w v l) {b o k c : Nat} (hv : v = .slice (some ⟨b, o, none⟩) k c) (i : Nat) (hi : i < l.length) : ∀ (j : Nat) (u : Value), (opL (l.getD i opZ))[j]? = some u → w.cell? ⟨b, o + i * 9 + j, none⟩ = some u := fun j u hu => by
  have hj : j < 9 := by
    rcases Nat.lt_or_ge j 9 with h | h
    · exact h
    · rw [List.getElem?_eq_none (show 9 ≤ j from h)] at hu; cases hu
  rw [RdO_cell h hv i j hi hj]; exact hu
set_option maxRecDepth 100000 in
theorem opers_law {w : World} {v : Value} {l : List EvD} (h : RdE w v l) (hok : ∀ e ∈ l, okE e) : Fn Try.prog 4 #[v] w fun r w' => r = .bool true ∧ Upd [] w w' := by
  have hh := h
  obtain ⟨va, vc, rfl, hl1, hl2⟩ := h.form
  refine fn_enter Try.func4 rfl rfl ?_
  refine len_sl ?_
  by_cases q0 : (l.length : Int) > 200
  · refine cY q0 ?_
    refine cl (lives12 w) ?_
    rintro _ wx ⟨rfl, hux⟩
    exact ⟨rfl, hux⟩
  refine cN q0 ?_
  refine cl (opers_c h (by omega)) ?_
  rintro r w1 ⟨c1, c2⟩
  have hU1 : Upd [] w w1 := by
    by_cases hR : rightH l
    · obtain ⟨ov, -, -, hu⟩ := c2 hR; exact hu
    · exact (c1 hR).2
  obtain ⟨ov, er, rfl⟩ : ∃ ov er, r = .tuple #[ov, .int .i64 er] := by
    by_cases hR : rightH l
    · obtain ⟨ov, h1, -, -⟩ := c2 hR; exact ⟨_, _, h1⟩
    · exact ⟨_, _, (c1 hR).1⟩
  have h1 := h.upd0 hU1
  refine cl (rrightH_c h1 (by omega)) ?_
  rintro _ w2 ⟨rfl, hu2⟩
  have h2 := h1.upd0 hu2
  refine cl (rightH_c h2 (by omega)) ?_
  rintro _ w3 ⟨rfl, hu3⟩
  have h3 := h2.upd0 hu3
  have hbb : ∀ (b : Bool), (!(b == b)) = false := fun b => by cases b <;> rfl
  refine bnq ?_
  rw [hbb]
  refine cl (show_h h3 hok (by omega)) ?_
  rintro _ w4 ⟨rfl, hu4⟩
  have h4 := h3.upd0 hu4
  refine cl (rshow_h h4 hok (by omega)) ?_
  rintro _ w5 ⟨rfl, hu5⟩
  have h5 := h4.upd0 hu5
  have hU5 := (((hU1.trans hu2).trans hu3).trans hu4).trans hu5
  have hss : (!((strOfNums (textL l)).toList == (strOfNums (textL l)).toList)) = false := by simp
  refine CondP.mk' (fun hb => ?_) (fun _ => ?_)
  · have hb : (!((strOfNums (textL l)).toList == (strOfNums (textL l)).toList)) = true := hb
    rw [hss] at hb; cases hb
  by_cases hR : rightH l
  rotate_left
  · obtain ⟨e1, -⟩ := c1 hR
    injection e1 with e1
    injection e1 with e1
    injection e1 with e1 e2
    injection e2 with e2
    subst e1
    injection e2 with _ e2
    subst e2
    refine cY hR ?_
    refine len_sl ?_
    refine cl (lives12 w5) ?_
    rintro _ w6 ⟨rfl, hu6⟩
    exact ⟨rfl, hU5.trans hu6⟩
  obtain ⟨ov', e1, hS, -⟩ := c2 hR
  injection e1 with e1
  injection e1 with e1
  injection e1 with e1 e2
  injection e2 with e2
  subst e1
  injection e2 with _ e2
  subst e2
  refine cN (fun h => h hR) ?_
  refine cl (ropers_c h5 (by omega)) ?_
  rintro rv w6 ⟨hS6, hu6⟩
  rw [ref_opF l hR] at hS6
  have o1 := (RdO_of hS).upd0 (((hu2.trans hu3).trans hu4).trans (hu5.trans hu6))
  have o2 := RdO_of hS6
  obtain ⟨a1, k1, hv1, -⟩ := o1.form
  obtain ⟨a2, k2, hv2, -⟩ := o2.form
  have hol := opF_len l
  rw [hv1, hv2]
  refine len_sl ?_
  refine len_sl ?_
  refine cN (fun h => h rfl) ?_
  rw [← hv1, ← hv2]
  have hU6 := hU5.trans hu6
  refine loop_rule [3, 6] [7] (fun vs w' mm => ∃ i : Nat, vs = [.int .i64 (i : Int)] ∧ i ≤ (opF l).length ∧ mm = (opF l).length - i ∧ Upd [] w6 w') rfl [.int .i64 0] (opF l).length rfl ⟨0, rfl, by omega, rfl, Upd.refl _ _⟩ ?_
  rintro _ w7 mm ⟨i, rfl, hi, rfl, hu7⟩
  rw [hv1]
  refine len_sl ?_
  rw [← hv1]
  refine cd (fun hlt => ?_) (fun hlt => ?_)
  · have hlt : i < (opF l).length := by omega
    have p1 := o1.upd0 hu7
    have p2 := o2.upd0 hu7
    obtain ⟨b1, s1, d1, hw1, -⟩ := p1.some_ (by omega)
    obtain ⟨b2, s2, d2, hw2, -⟩ := p2.some_ (by omega)
    rw [hw1, hw2]
    refine draw_all (fun w' => w' = w7.drew) (by decide +kernel) rfl ?_
    refine q_ix i rfl hlt ?_
    refine rq (.agg (opV ((opF l).getD i opZ))) (by rintro _ rfl; exact lda (opL ((opF l).getD i opZ)) rfl (RdO_ld p1 hw1 i hlt) ⟨rfl, rfl⟩) ?_
    refine q_ix i rfl hlt ?_
    refine rq (.agg (opV ((opF l).getD i opZ))) (by rintro _ rfl; exact lda (opL ((opF l).getD i opZ)) rfl (RdO_ld p2 hw2 i hlt) ⟨rfl, rfl⟩) ?_
    refine rq (.bool false) (fun _ _ => anqO ⟨by rw [decide_eq_true rfl]; rfl, rfl⟩) ?_
    rintro _ rfl
    refine ar64 (by omega) ?_
    rw [← hw1, ← hw2]
    exact round_mk [.int .i64 ((i + 1 : Nat) : Int)] ((opF l).length - (i + 1)) rfl rfl ⟨i + 1, rfl, by omega, rfl, hu7.drew⟩ (by omega)
  · refine cl (lives12 w7) ?_
    rintro _ w8 ⟨rfl, hu8⟩
    exact ⟨rfl, (hU6.trans hu7).trans hu8⟩
theorem HistOpers_walk (w : World) (v : Value) (l : List EvD) (h : RdE w v l) (hok : ∀ e ∈ l, okE e) : Calls Try.prog 4 #[v] w fun e w' => e = .returned (.bool true) ∧ Below w.heap.size w w' :=
  (opers_law h hok).mono fun _ _ ⟨_, he, hv, hu⟩ => ⟨by rw [he, hv], hu.below⟩
end Go.Proofs.Ytblngbagjieeiaa
