/- Joined: Ia Ib Ic Id Ie If. -/
import Derived.Test.YtbnbbafffihapaaGreatJ2
import Derived.Test.YtbnbbafffihapaaGreatJ1
/- Contracts: the address of a slot; hazard.ptr. -/
namespace Go.Proofs.YtbnbbafffihapaaGreat
open Go.RowKit
attribute [local irreducible] Instr.loadAt Instr.storeAt Instr.fieldAt Instr.indexAt Instr.sliceAt Instr.buildSlice Instr.box Instr.alloc Builtin.append_ Builtin.len_ Builtin.min_ Builtin.max_ Calls Instr.build Instr.makeSlice binSem convert Instr.index Instr.range Instr.next
abbrev TPn : Nat := 45
abbrev TCf : Nat := 43
theorem eq_runD {P : Program} {w : World} {t : Nat} {ks : List FK} [EqT P t ks] (d : Nat) {xs ys : Array Value} (hx : fitsK ks xs.toList = true) (hy : fitsK ks ys.toList = true) : (Op.equalIn (d + 2) t (.agg xs) (.agg ys)).run P w = .ok (eqCells xs.toList ys.toList) w := by
  rw [show d + 2 = (d + 1) + 1 from rfl, run_equalIn_struct w (d + 1) t xs ys (EqT.u (ks := ks)) (EqT.held (ks := ks))]
  exact eqFields_run d xs ys _ ks 0 _ _ (fieldsOk_of _ _ _ EqT.f) (by simp) (by simp) hx hy
theorem conf_ne {w : World} {c : Cf} (d : Nat) (hT : c.T ≠ 0) : (Op.equalIn (d + 2) TCf (.agg (cf7 c)) (.agg (cf7 ⟨0, 0, 0, 0, 0, 0, 0⟩))).run Tryz.prog w = .ok false w := by
  have e : eqCells (cf7 c).toList (cf7 ⟨0, 0, 0, 0, 0, 0, 0⟩).toList = false := by
    obtain ⟨A, T, N, L, B, P, S⟩ := c
    have hT : T ≠ 0 := hT
    show (A == 0 && (T == 0 && (N == 0 && (L == 0 && (B == 0 && (P == 0 && S == 0)))))) = false
    simp [hT]
  rw [← e]
  exact eq_runD d (by cases c; rfl) rfl
theorem plan_ne {w : World} {c : Cf} {x y : Operand} (hT : c.T ≠ 0) : (binSem .eql TPn x y (.agg (planC c)) (.agg z15)).run Tryz.prog w = .ok (.bool false) w := by
  refine bin_agg (by decide +kernel) ?_
  have hu : Tryz.prog.underlying TPn = some (.struct (Tryz.prog.fieldsOf TPn)) := by kernel_rfl
  rw [run_eql_struct, show (10000 : Nat) = 9999 + 1 from rfl, run_equalIn_struct w 9999 TPn _ _ hu (by decide +kernel)]
  obtain ⟨f0, rest, hf, ho, hn, ht⟩ : ∃ f0 rest, (Tryz.prog.fieldsOf TPn).toList = f0 :: rest ∧ f0.offset = 0 ∧ f0.name ≠ "_" ∧ f0.type = TCf := by
    refine ⟨(Tryz.prog.fieldsOf TPn).toList.head!, (Tryz.prog.fieldsOf TPn).toList.tail, by kernel_rfl, by kernel_rfl, by decide +kernel, by kernel_rfl⟩
  rw [hf]
  have e1 : (part f0.type (planC c) f0.offset).run Tryz.prog w = .ok (.agg (cf7 c)) w := by
    rw [ht, ho]; obtain ⟨A, T, N, L, B, P, S⟩ := c; kernel_rfl
  have e2 : (part f0.type z15 f0.offset).run Tryz.prog w = .ok (.agg (cf7 ⟨0, 0, 0, 0, 0, 0, 0⟩)) w := by
    rw [ht, ho]; kernel_rfl
  have e3 : (Op.equalIn 9999 f0.type (.agg (cf7 c)) (.agg (cf7 ⟨0, 0, 0, 0, 0, 0, 0⟩))).run Tryz.prog w = .ok false w := by
    rw [ht]; exact conf_ne 9997 hT
  unfold Op.eqFields
  simp only [Sem.run_bind, Sem.run_ite, hn, ne_eq, not_false_eq_true, if_true, e1, e2, e3, Result.andThen_ok]
  rfl
def hazA (A T L i k : Int) : Int := if (0 ≤ i ∧ i ≤ T - 1) ∧ 0 ≤ k ∧ k ≤ slotsP A L - 1 then 8 + i * slotsP A L + k else -1
def Cf.haz (c : Cf) (i k : Int) : Int := hazA c.A c.T c.L i k
def Cf.slots (c : Cf) : Int := slotsP c.A c.L
theorem pslots_c (c : Cf) (w : World) : Fn Tryz.prog 73 #[.agg (planC c)] w fun r w' => r = .int .i64 c.slots ∧ Upd [] w w' := by
  obtain ⟨A, T, N, L, B, P, S⟩ := c
  refine fn_enter Tryz.func73 rfl rfl ?_
  refine bx fun w1 hb1 hu1 hs1 => ?_
  have hb1 : Blk w1 w.heap.size TPn (planC ⟨A, T, N, L, B, P, S⟩) := hb1
  refine fa ?_
  refine ldb hb1 (v := .int .i64 (slotsP A L)) rfl ?_
  exact ⟨rfl, hu1⟩
set_option maxRecDepth 10000 in
theorem haz_c {c : Cf} (hr : rightC c) (i k : Int) (w : World) : Fn Tryz.prog 53 #[.agg (planC c), .int .i64 i, .int .i64 k] w fun r w' => r = .int .i64 (c.haz i k) ∧ Upd [] w w' := by
  obtain ⟨A, T, N, L, B, P, S⟩ := c
  obtain ⟨b1, b2, b3, b4, b5, b6, b7, b8, b9, b10, b11, b12⟩ := plan_bd hr
  refine fn_enter Tryz.func53 rfl rfl ?_
  refine bx fun w1 hb1 hu1 hs1 => ?_
  have hb1 : Blk w1 w.heap.size TPn (planC ⟨A, T, N, L, B, P, S⟩) := hb1
  refine ldw hb1 rfl ?_
  refine bd z15 (fun _ => by kernel_rfl) ?_
  refine rn _ _ (plan_ne (c := ⟨A, T, N, L, B, P, S⟩) (show T ≠ 0 by omega)) ?_
  refine fa ?_
  refine fa ?_
  refine ldb hb1 (v := .int .i64 T) rfl ?_
  refine ar64 (by omega) ?_
  refine bd #[.int .i64 i, .int .i64 0, .int .i64 (T - 1)] (fun _ => by kernel_rfl) ?_
  refine fa ?_
  refine ldb hb1 (v := .int .i64 (slotsP A L)) rfl ?_
  refine ar64 (by omega) ?_
  refine bd #[.int .i64 k, .int .i64 0, .int .i64 (slotsP A L - 1)] (fun _ => by kernel_rfl) ?_
  refine bs (spanC [(i, 0, T - 1), (k, 0, slotsP A L - 1)]) (fun _ => by kernel_rfl) fun w2 hb2 hu2 hs2 => ?_
  refine cl (within_c _ hb2 (by show 2 ≤ 100; omega)) ?_
  rintro _ w3 ⟨⟨b, rfl, hb⟩, hu3⟩
  have hU3 := (hu1.trans hu2).trans hu3
  by_cases hn : (0 ≤ i ∧ i ≤ T - 1) ∧ 0 ≤ k ∧ k ≤ slotsP A L - 1
  · have : b = true := hb.2 (fun j hj => by
      have : j < 2 := hj
      rcases (show j = 0 ∨ j = 1 by omega) with rfl | rfl
      · exact hn.1
      · exact hn.2)
    subst this
    have hb3 := (hb1.upd hu2 (by simp)).upd hu3 (by simp)
    have hm := mul_bd (a := i) (b := slotsP A L) (x := 6) (y := 14) (by omega) (by omega)
    refine fa ?_
    refine ldb hb3 (v := .int .i64 8) rfl ?_
    refine fa ?_
    refine ldb hb3 (v := .int .i64 (slotsP A L)) rfl ?_
    refine ar64 (by omega) ?_
    refine ar64 (by omega) ?_
    refine ar64 (by omega) ?_
    exact ⟨by rw [Cf.haz, hazA, if_pos hn]; rfl, hU3⟩
  · have : b = false := by
      cases b
      · rfl
      · exact absurd ⟨hb.1 rfl 0 (by simp), hb.1 rfl 1 (by simp)⟩ hn
    subst this
    exact ⟨by rw [Cf.haz, hazA, if_neg hn]; rfl, hU3⟩
theorem hptr_c {x : Int} (hx : u64R x) (w : World) : Fn Tryz.prog 71 #[.int .u64 x] w fun r w' => r = .int .u64 (ptrW x) ∧ w' = w := by
  have hb := ptrW_bd (x := x)
  refine fn_enter Tryz.func71 rfl rfl ?_
  refine cl (wptr_c hx w) ?_
  rintro _ w ⟨rfl, rfl⟩
  refine cv ?_
  refine arU (by omega) ?_
  exact ⟨rfl, rfl⟩
end Go.Proofs.YtbnbbafffihapaaGreat

/- Contracts: hazard.protect, hazard.wipe. -/
namespace Go.Proofs.YtbnbbafffihapaaGreat
open Go.RowKit
attribute [local irreducible] Instr.loadAt Instr.storeAt Instr.fieldAt Instr.indexAt Instr.sliceAt Instr.buildSlice Instr.box Instr.alloc Builtin.append_ Builtin.len_ Builtin.min_ Builtin.max_ Calls Instr.build Instr.makeSlice binSem convert Instr.index Instr.range Instr.next
def hzProtect (p : PS) (i : Nat) (t : PT) (fs : List Fr) (f : Fr) : PS :=
  if f.pc = 0 then (if ptrW (p.ldv (toI (f.R.getD 1 0))) = 0 then (p.load (toI (f.R.getD 1 0))).put i (popped t fs (p.ldv (toI (f.R.getD 1 0)))) else (p.load (toI (f.R.getD 1 0))).put i (topped t fs ⟨f.fn, 1, regI f.R 2 (p.ldv (toI (f.R.getD 1 0)))⟩))
  else if f.pc = 1 then (p.store (p.c.haz i (toI (f.R.getD 0 0))) (ptrW (f.R.getD 2 0))).put i (topped t fs { f with pc := 2 })
  else if p.ldv (toI (f.R.getD 1 0)) = f.R.getD 2 0 ∨ ptrW (p.ldv (toI (f.R.getD 1 0))) = 0 then (p.load (toI (f.R.getD 1 0))).put i (popped t fs (p.ldv (toI (f.R.getD 1 0))))
  else (p.load (toI (f.R.getD 1 0))).put i (topped t fs ⟨f.fn, 1, regI f.R 2 (p.ldv (toI (f.R.getD 1 0)))⟩)
def hzWipe (p : PS) (i : Nat) (t : PT) (fs : List Fr) (f : Fr) : PS :=
  if f.pc ≥ p.c.slots then p.put i { t with fs := fs, r := (0, 0, 0) } else (p.store (p.c.haz i f.pc) 0).put i (topped t fs { f with pc := f.pc + 1 })
section
variable {w w' : World} {X : Mc} {b : Int} {i : Nat} {t : Th} {fs : List Fr} {f : Fr} {fb fo fc : Nat}
theorem Mach.id_ (h : Mach w X) (hi : X.ths[i]? = some t) : w.cell? ⟨t.g, 0 + 0, none⟩ = some (.int .i64 (i : Int)) := (h.core hi).blk.cell 0
set_option maxRecDepth 10000 in
theorem protect_p (h : Mach w X) (hg : Good X b) (hb : b ≤ 900000) (hi : X.ths[i]? = some t) (hfs : t.fs = fs ++ [f]) (hl : fs.length ≤ 90000) (hfv : t.fv = .slice (some ⟨fb, fo, none⟩) t.fs.length fc) (hR : ∀ j, u64R (f.R.getD j 0)) :
    Fn Tryz.prog 58 #[ptrV X.m, ptrV t.g, .pointer (some ⟨fb, fo + fs.length * 12, none⟩)] w fun _ w' => Ev w X w' (hzProtect X.abs i (absT t) fs f) := by
  have I : TopI w w X X i t fs f fb fo fc := ⟨.refl h, .refl X, hi, hfs, hfv⟩
  have hat : ∀ {w1 : World}, Upd [] w w1 → ∀ j, j < 12 → w1.cell? ⟨fb, fo + fs.length * 12 + j, none⟩ = (frC f)[j]? := fun hu j hj => (I.upd0 hu).at_ j hj
  have h1 := hR 1
  have h2 := hR 2
  have hp2 := ptrW_bd (x := f.R.getD 2 0)
  have hv := PS.ldv_bd hg.ok (toI (f.R.getD 1 0))
  refine fn_enter Tryz.func58 rfl rfl ?_
  refine fa ?_
  refine ixA 1 rfl (by omega) ?_
  refine ld (v := .int .u64 (f.R.getD 1 0)) ((hat (Upd.refl [] w) 3 (by omega)).trans (frC_R0 f 1 (by omega))) ?_
  refine cv ?_
  refine val (toI (f.R.getD 1 0)) rfl ?_
  generalize ha : toI (f.R.getD 1 0) = a at *
  refine fa ?_
  refine ld (v := .int .i64 f.pc) (hat (Upd.refl [] w) 1 (by omega)) ?_
  unfold hzProtect
  rw [ha]
  by_cases c0 : f.pc = 0
  · rw [if_pos c0]
    refine cY c0 ?_
    refine draw_mix 6 [(0, true), (1, true), (2, true), (4, true), (5, true), (3, false)] (fun _ => True) (by decide +kernel) trivial ?_
    refine q_fa ?_
    have I1 := I.upd0 (Upd.refl [] w).drew
    refine cl (load_p I1.p.ok hg (by omega) a) ?_
    rintro _ w2 ⟨rfl, X2, p2, k2, a2, s2⟩
    refine ⟨trivial, ?_⟩
    have I2 := I1.mem p2 k2 s2
    refine ixA 2 rfl (by omega) ?_
    refine I2.st (f' := { f with R := regI f.R 2 (X.abs.ldv a) }) 4 (by omega) rfl rfl (frC_reg f 2 (by omega) _) fun w3 I3 => ?_
    refine fa ?_
    refine I3.st (f' := ⟨f.fn, 1, regI f.R 2 (X.abs.ldv a)⟩) 1 (by omega) rfl rfl rfl fun w4 I4 => ?_
    refine fa ?_
    refine ixA 2 rfl (by omega) ?_
    have hr2 : w4.cell? ⟨fb, fo + fs.length * 12 + 2 + 2 * 1, none⟩ = some (.int .u64 (X.abs.ldv a)) := (I4.at_ 4 (by omega)).trans ((frC_R0 _ 2 (by omega)).trans (by rw [regI_at _ _ _ _ (by omega)]; rfl))
    refine ld (v := .int .u64 (X.abs.ldv a)) hr2 ?_
    refine cl (hptr_c hv w4) ?_
    rintro _ w4 ⟨rfl, rfl⟩
    have ea : ∀ (t' : PT), ((({ ({ X2 with ths := X2.ths.set i { t with fs := fs ++ [{ f with R := regI f.R 2 (X.abs.ldv a) }] } } : Mc) with ths := (X2.ths.set i { t with fs := fs ++ [{ f with R := regI f.R 2 (X.abs.ldv a) }] }).set i { t with fs := fs ++ [⟨f.fn, 1, regI f.R 2 (X.abs.ldv a)⟩] } } : Mc)).abs.put i t') = (X.abs.load a).put i t' := fun t' => by
      rw [← a2]
      unfold Mc.abs PS.put
      simp [List.map_set]
    by_cases cp : ptrW (X.abs.ldv a) = 0
    · rw [if_pos cp]
      refine cY cp ?_
      refine fa ?_
      refine ixA 2 rfl (by omega) ?_
      refine ld (v := .int .u64 (X.abs.ldv a)) hr2 ?_
      refine bs #[.int .u64 (X.abs.ldv a)] (fun _ => by kernel_rfl) fun w5 hb5 hu5 hs5 => ?_
      have I5 := I4.upd0 hu5
      have hne : w4.heap.size ≠ t.g := by have := (I4.p.ok.core I4.i).blk.lt; intro e; rw [e] at this; exact absurd this (Nat.lt_irrefl _)
      refine cl (I5.pop (l := [X.abs.ldv a]) (by omega) (fun w' hu => one_rd (hb5.upd hu (by simpa using hne)))) ?_
      rintro _ w6 e
      rw [ea] at e
      exact e
    · rw [if_neg cp]
      refine cN cp ?_
      have := I4.ev
      rw [abs_set, abs_set, put_put, a2] at this
      exact this
  rw [if_neg c0]
  refine cN c0 ?_
  by_cases c1 : f.pc = 1
  · rw [if_pos c1]
    refine cY c1 ?_
    refine draw_mix 20 [(0, true), (1, true), (3, true), (4, true), (5, true), (6, true), (7, true), (8, true), (9, true), (10, true), (11, true), (12, true), (14, true), (15, true), (16, true), (17, true), (18, true), (2, false), (13, false), (19, false)] (fun w' => Upd [] w w') (by decide +kernel) (Upd.refl [] w).drew ?_
    refine q_fa ?_
    refine q_ld (v := .int .i64 (i : Int)) (fun w' hw' => (h.upd0 hw').id_ hi) ?_
    refine q_fa ?_
    refine q_ixA 0 rfl (by omega) ?_
    refine q_ld (v := .int .u64 (f.R.getD 0 0)) (fun w' hw' => (hat hw' 2 (by omega)).trans (frC_R0 f 0 (by omega))) ?_
    refine rq (.int .i64 (toI (f.R.getD 0 0))) (fun _ _ => cv (val _ rfl ⟨rfl, rfl⟩)) ?_
    refine q_fa ?_
    refine q_ixA 2 rfl (by omega) ?_
    refine q_ld (v := .int .u64 (f.R.getD 2 0)) (fun w' hw' => (hat hw' 4 (by omega)).trans (frC_R0 f 2 (by omega))) ?_
    have I1 := I.upd0 (Upd.refl [] w).drew
    refine cl (plan_mm I1.p.ok) ?_
    rintro _ w2 ⟨rfl, hu2⟩
    have hU2 : Upd [] w w2 := (Upd.refl [] w).drew.trans hu2
    refine ⟨hU2, ?_⟩
    refine cl (haz_c hg.ok.r _ _ w2) ?_
    rintro _ w3 ⟨rfl, hu3⟩
    have hU3 := hU2.trans hu3
    refine ⟨hU3, ?_⟩
    refine cl (hptr_c h2 w3) ?_
    rintro _ w3 ⟨rfl, rfl⟩
    refine ⟨hU3, ?_⟩
    have I3 := I.upd0 hU3
    refine cl (store_p I3.p.ok hg (by omega) _ (ptrW (f.R.getD 2 0))) ?_
    rintro _ w4 ⟨X4, p4, k4, a4, s4⟩
    have I4 := I3.mem p4 k4 s4
    refine fa ?_
    refine I4.st (f' := { f with pc := 2 }) 1 (by omega) rfl rfl (frC_pc f 2) fun w5 I5 => ?_
    have := I5.ev
    rw [abs_set, a4] at this
    exact this
  rw [if_neg c1]
  refine cN c1 ?_
  refine cl (load_p h hg (by omega) a) ?_
  rintro _ w2 ⟨rfl, X2, p2, k2, a2, s2⟩
  have I2 := I.mem p2 k2 s2
  refine fa ?_
  refine ixA 2 rfl (by omega) ?_
  refine ld (v := .int .u64 (f.R.getD 2 0)) ((I2.at_ 4 (by omega)).trans (frC_R0 f 2 (by omega))) ?_
  by_cases ce : X.abs.ldv a = f.R.getD 2 0
  · rw [if_pos (.inl ce)]
    refine cY ce ?_
    refine bs #[.int .u64 (X.abs.ldv a)] (fun _ => by kernel_rfl) fun w5 hb5 hu5 hs5 => ?_
    have I5 := I2.upd0 hu5
    have hne : w2.heap.size ≠ t.g := by have := (I2.p.ok.core I2.i).blk.lt; intro e; rw [e] at this; exact absurd this (Nat.lt_irrefl _)
    refine cl (I5.pop (l := [X.abs.ldv a]) (by omega) (fun w' hu => one_rd (hb5.upd hu (by simpa using hne)))) ?_
    rintro _ w6 e
    rw [a2] at e
    exact e
  refine cN ce ?_
  refine cl (hptr_c hv w2) ?_
  rintro _ w2 ⟨rfl, rfl⟩
  by_cases cp : ptrW (X.abs.ldv a) = 0
  · rw [if_pos (.inr cp)]
    refine cY cp ?_
    refine bs #[.int .u64 (X.abs.ldv a)] (fun _ => by kernel_rfl) fun w5 hb5 hu5 hs5 => ?_
    have I5 := I2.upd0 hu5
    have hne : w2.heap.size ≠ t.g := by have := (I2.p.ok.core I2.i).blk.lt; intro e; rw [e] at this; exact absurd this (Nat.lt_irrefl _)
    refine cl (I5.pop (l := [X.abs.ldv a]) (by omega) (fun w' hu => one_rd (hb5.upd hu (by simpa using hne)))) ?_
    rintro _ w6 e
    rw [a2] at e
    exact e
  rw [if_neg (fun h => h.elim ce cp)]
  refine cN cp ?_
  refine fa ?_
  refine ixA 2 rfl (by omega) ?_
  refine I2.st (f' := { f with R := regI f.R 2 (X.abs.ldv a) }) 4 (by omega) rfl rfl (frC_reg f 2 (by omega) _) fun w3 I3 => ?_
  refine fa ?_
  refine I3.st (f' := ⟨f.fn, 1, regI f.R 2 (X.abs.ldv a)⟩) 1 (by omega) rfl rfl rfl fun w4 I4 => ?_
  have := I4.ev
  rw [abs_set, abs_set, put_put, a2] at this
  exact this
set_option maxRecDepth 10000 in
theorem wipe_p (h : Mach w X) (hg : Good X b) (hb : b ≤ 900000) (hpc : 0 ≤ f.pc) (hi : X.ths[i]? = some t) (hfs : t.fs = fs ++ [f]) (hl : fs.length ≤ 90000) (hfv : t.fv = .slice (some ⟨fb, fo, none⟩) t.fs.length fc) :
    Fn Tryz.prog 59 #[ptrV X.m, ptrV t.g, .pointer (some ⟨fb, fo + fs.length * 12, none⟩)] w fun _ w' => Ev w X w' (hzWipe X.abs i (absT t) fs f) := by
  have I : TopI w w X X i t fs f fb fo fc := ⟨.refl h, .refl X, hi, hfs, hfv⟩
  have hat : ∀ {w1 : World}, Upd [] w w1 → ∀ j, j < 12 → w1.cell? ⟨fb, fo + fs.length * 12 + j, none⟩ = (frC f)[j]? := fun hu j hj => (I.upd0 hu).at_ j hj
  have hsl : X.abs.c.slots ≤ 14 := by
    have hr := hg.ok.r
    generalize X.abs.c = c at *
    obtain ⟨A, T, N, L, B, P, S⟩ := c
    exact (plan_bd hr).1.2
  refine fn_enter Tryz.func59 rfl rfl ?_
  refine draw_all (fun w' => Upd [] w w') (by decide +kernel) (Upd.refl [] w).drew ?_
  refine q_fa ?_
  refine q_ld (v := .int .i64 f.pc) (fun w' hw' => hat hw' 1 (by omega)) ?_
  refine q_cl (.agg (planC X.c)) (fun w' hw' => (plan_mm (h.upd0 hw')).mono fun _ _ ⟨u, he, h1, h2⟩ => ⟨u, he, h1, hw'.trans h2⟩) ?_
  refine q_cl (.int .i64 X.c.slots) (fun w' hw' => (pslots_c X.c w').mono fun _ _ ⟨u, he, h1, h2⟩ => ⟨u, he, h1, hw'.trans h2⟩) ?_
  intro w1 hu1
  have I1 := I.upd0 hu1
  have hcs : X.abs.c = X.c := rfl
  unfold hzWipe
  rw [hcs] at hsl ⊢
  by_cases hge : f.pc ≥ X.c.slots
  · rw [if_pos hge]
    refine cY hge ?_
    refine cl (I1.pop (l := []) (by omega) (fun w' _ => RdK.nil_ w' .u64)) ?_
    rintro _ w2 e
    exact e
  rw [if_neg hge]
  refine cN hge ?_
  refine draw_mix 12 [(0, true), (1, true), (3, true), (4, true), (5, true), (6, true), (7, true), (8, true), (9, true), (10, true), (2, false), (11, false)] (fun w' => Upd [] w w') (by decide +kernel) hu1.drew ?_
  refine q_fa ?_
  refine q_ld (v := .int .i64 (i : Int)) (fun w' hw' => (h.upd0 hw').id_ hi) ?_
  refine q_fa ?_
  refine q_ld (v := .int .i64 f.pc) (fun w' hw' => hat hw' 1 (by omega)) ?_
  have I2 := I.upd0 hu1.drew
  refine cl (plan_mm I2.p.ok) ?_
  rintro _ w2 ⟨rfl, hu2⟩
  have hU2 : Upd [] w w2 := hu1.drew.trans hu2
  refine ⟨hU2, ?_⟩
  refine cl (haz_c hg.ok.r _ _ w2) ?_
  rintro _ w3 ⟨rfl, hu3⟩
  have hU3 := hU2.trans hu3
  refine ⟨hU3, ?_⟩
  have I3 := I.upd0 hU3
  refine cl (store_p I3.p.ok hg (by omega) _ 0) ?_
  rintro _ w4 ⟨X4, p4, k4, a4, s4⟩
  have I4 := I3.mem p4 k4 s4
  refine fa ?_
  refine ld (v := .int .i64 f.pc) (I4.at_ 1 (by omega)) ?_
  refine ar64 (by omega) ?_
  refine fa ?_
  refine I4.st (f' := { f with pc := f.pc + 1 }) 1 (by omega) rfl rfl (frC_pc f (f.pc + 1)) fun w5 I5 => ?_
  have := I5.ev
  rw [abs_set, a4] at this
  exact this
end
end Go.Proofs.YtbnbbafffihapaaGreat

/- Contracts: hazard.retire. -/
namespace Go.Proofs.YtbnbbafffihapaaGreat
open Go.RowKit
attribute [local irreducible] Instr.loadAt Instr.storeAt Instr.fieldAt Instr.indexAt Instr.sliceAt Instr.buildSlice Instr.box Instr.alloc Builtin.append_ Builtin.len_ Builtin.min_ Builtin.max_ Calls Instr.build Instr.makeSlice binSem convert Instr.index Instr.range Instr.next
theorem push_cell {w : World} {pg pi T : Nat} {cs : Array Value} {v : Value} {l : List Int} (hb : Blk w pg T cs) (hcs : cs[pi]? = some v) (hs : Sl w 3 1 v l.length (l.map (.int .i64))) (hl : l.length ≤ 100000) (hT : 3 ≠ T) (x : Int) :
    Fn Tryz.prog 75 #[.pointer (some ⟨pg, pi, none⟩), .int .i64 x] w fun _ w' => ∃ w2 v', Sl w2 3 1 v' (l ++ [x]).length ((l ++ [x]).map (.int .i64)) ∧ To w v.ownBlock.toList w2 v'.ownBlock.toList ∧ Blk w' pg T (cs.setIfInBounds pi v') ∧ Upd [pg] w2 w' := by
  have hpi : pi < cs.size := by
    rcases Nat.lt_or_ge pi cs.size with h | h
    · exact h
    · rw [Array.getElem?_eq_none h] at hcs; cases hcs
  refine fn_enter Tryz.func75 rfl rfl ?_
  refine ptr_ne ?_
  refine fa ?_
  refine ld (v := v) (by rw [hb.cell]; exact hcs) ?_
  refine bs #[.int .i64 x] (fun _ => by kernel_rfl) fun w1 hb1 hu1 hs1 => ?_
  refine apg (hs.upd hu1 (by simp)) hb1 rfl rfl (by decide) (by simp only [maxLen]; omega) (by omega) fun v2 w2 hs2 hG2 => ?_
  have hne := hs.blk_ne hb hT
  have hb2 := (hb.upd hu1 (by simp)).upd hG2.up (by simpa using hne)
  obtain ⟨a2, c2, rfl, -⟩ := hs2.form
  refine fa ?_
  refine st hb2 (by show pi + 0 < _; omega) rfl fun w3 hb3 hu3 hs3 => ?_
  refine ⟨w2, _, ?_, (To.of0 _ hu1).trans (Upd.own hG2), hb3, hu3⟩
  rw [List.length_append, List.map_append]
  exact hs2
section
variable {w w' : World} {X : Mc} {b : Int} {i : Nat} {t : Th} {fs : List Fr} {f : Fr} {fb fo fc : Nat}
/-- a thread's retired ones (its 8th cell) have become others -/
theorem Mach.setR (h : Mach w X) (hi : X.ths[i]? = some t) {w2 w3 : World} {v' : Value} {R' : List Int} (hs : Sl w2 3 1 v' R'.length (R'.map (.int .i64))) (ht : To w t.rv.ownBlock.toList w2 v'.ownBlock.toList)
    (hb : Blk w3 t.g TT (thrC (i : Int) t.fv t.r t.pv t.sv t.wv v' t.ov)) (hu : Upd [t.g] w2 w3) : Post w X w3 { X with ths := X.ths.set i { t with rv := v', R := R' } } := by
  have S0 := h.thr hi
  have S1 := Sep.set (i := 4) (x := obI t.rv t.R) (y := obI v' R') S0 rfl hs ht
  have hc := S0.at_ (i := 0) (x := obCore (i : Int) t) rfl
  have hap := S0.apart_ (i := 0) (j := 4) (x := obCore (i : Int) t) (y := obI t.rv t.R) rfl rfl (by decide)
  have hc : IsThr w t.g (i : Int) t.fv t.fs t.r t.pv t.sv t.wv t.rv t.ov := hc
  have hnb := hc.fr.blk_ne hc.blk (by decide)
  have hfr2 := hc.fr.upd ht.up (fun g hg hm => hap g (by simp [obCore, hg]) hm)
  have hfr3 := hfr2.upd hu (fun g hg => by simp; intro e; subst e; exact hnb hg)
  have t2 : To w2 (obCore (i : Int) t).foot w3 (obCore (i : Int) { t with rv := v', R := R' }).foot := ⟨hu.mono (by intro k hk; rw [List.mem_singleton.1 hk]; exact List.mem_cons_self), fun k hk => .inl hk⟩
  have S2 := Sep.set (i := 0) (x := obCore (i : Int) t) (y := obCore (i : Int) { t with rv := v', R := R' }) S1 rfl ⟨hb, hfr3⟩ t2
  have T1 := To.set (l := t.obs (i : Int)) (i := 4) (x := obI t.rv t.R) (y := obI v' R') rfl ht
  have T2 := To.set (l := (t.obs (i : Int)).set 4 (obI v' R')) (i := 0) (x := obCore (i : Int) t) (y := obCore (i : Int) { t with rv := v', R := R' }) rfl t2
  exact h.setTh (t' := { t with rv := v', R := R' }) hi rfl S2 (T1.trans T2)
theorem Mach.rv_ (h : Mach w X) (hi : X.ths[i]? = some t) : Sl w 3 1 t.rv t.R.length (t.R.map (.int .i64)) := Sep.at_ (i := 4) (x := obI t.rv t.R) (h.thr hi) rfl
theorem Mach.ov_ (h : Mach w X) (hi : X.ths[i]? = some t) : Sl w 3 1 t.ov t.O.length (t.O.map (.int .i64)) := Sep.at_ (i := 5) (x := obI t.ov t.O) (h.thr hi) rfl
theorem rpush_mm (h : Mach w X) (hi : X.ths[i]? = some t) (hl : t.R.length ≤ 100000) (x : Int) : Fn Tryz.prog 75 #[.pointer (some ⟨t.g, 8, none⟩), .int .i64 x] w fun _ w' => ∃ v', Post w X w' { X with ths := X.ths.set i { t with rv := v', R := t.R ++ [x] } } :=
  (push_cell (h.core hi).blk (pi := 8) rfl (h.rv_ hi) hl (by decide) x).mono fun _ w' ⟨u, he, w2, v', h1, h2, h3, h4⟩ => ⟨u, he, v', h.setR hi h1 h2 h3 h4⟩
theorem conf_c2 (c : Cf) (w : World) : Fn Tryz.prog 28 #[.agg (planC c)] w fun r w' => r = .agg (cf7 c) ∧ Upd [] w w' := by
  obtain ⟨A, T, N, L, B, P, S⟩ := c
  exact conf_c A T N L B P S w
def hzRetire (p : PS) (i : Nat) (t : PT) (fs : List Fr) (f : Fr) : PS :=
  if (t.R.length : Int) + 1 ≥ p.c.S then (p.deed (toI (f.R.getD 0 0)) 1 2 2).put i { t with fs := fs ++ [⟨6, 0, []⟩], r := (0, 0, 0), R := t.R ++ [toI (f.R.getD 0 0)] }
  else (p.deed (toI (f.R.getD 0 0)) 1 2 2).put i { t with fs := fs, r := (0, 0, 0), R := t.R ++ [toI (f.R.getD 0 0)] }
set_option maxRecDepth 10000 in
theorem retire_p (h : Mach w X) (hg : Good X b) (hi : X.ths[i]? = some t) (hfs : t.fs = fs ++ [f]) (hl : fs.length ≤ 90000) (hRl : t.R.length ≤ 90000) (hfv : t.fv = .slice (some ⟨fb, fo, none⟩) t.fs.length fc) (hR : ∀ j, u64R (f.R.getD j 0)) :
    Fn Tryz.prog 60 #[ptrV X.m, ptrV t.g, .pointer (some ⟨fb, fo + fs.length * 12, none⟩)] w fun _ w' => Ev w X w' (hzRetire X.abs i (absT t) fs f) := by
  have I : TopI w w X X i t fs f fb fo fc := ⟨.refl h, .refl X, hi, hfs, hfv⟩
  refine fn_enter Tryz.func60 rfl rfl ?_
  refine fa ?_
  refine ixA 0 rfl (by omega) ?_
  refine ld (v := .int .u64 (f.R.getD 0 0)) ((I.at_ 2 (by omega)).trans (frC_R0 f 0 (by omega))) ?_
  refine cv ?_
  refine val (toI (f.R.getD 0 0)) rfl ?_
  unfold hzRetire
  generalize toI (f.R.getD 0 0) = nd at *
  refine cl (gone_p h hg nd) ?_
  rintro _ w2 ⟨X2, p2, k2, a2, s2⟩
  have I2 := I.mem p2 k2 s2
  refine fa ?_
  refine cl (rpush_mm I2.p.ok I2.i (by omega) nd) ?_
  rintro _ w3 ⟨rv', p3⟩
  have k3 := kin_set X2 (t' := { t with rv := rv', R := t.R ++ [nd] }) I2.i rfl
  have a3 := abs_set X2 i { t with rv := rv', R := t.R ++ [nd] }
  rw [a2] at a3
  have I3 : TopI w w3 X _ i { t with rv := rv', R := t.R ++ [nd] } fs f fb fo fc := ⟨I2.p.trans p3, I2.k.trans k3, set_at I2.i, hfs, hfv⟩
  generalize ({ X2 with ths := X2.ths.set i { t with rv := rv', R := t.R ++ [nd] } } : Mc) = X3 at *
  refine cl (I3.pop (l := []) (by omega) (fun w' _ => RdK.nil_ w' .u64)) ?_
  rintro _ w4 ⟨X4, p4, k4, a4⟩
  obtain ⟨t4, ht4, hg4⟩ := k4.g hi
  have hth := abs_at a4 ht4
  have hi3 : X3.abs.ths[i]? = some _ := abs_th X3 I3.i
  rw [put_th hi3] at hth
  have hth := Option.some.inj hth
  have hc4 : X4.c = X.c := by
    have h1 : X4.c = X3.c := congrArg PS.c a4
    have h2 : X3.c = X.c := congrArg PS.c a3
    exact h1.trans h2
  have hR4 : t4.R = t.R ++ [nd] := congrArg PT.R hth.symm
  have hf4 : t4.fs = fs := congrArg PT.fs hth.symm
  refine fa ?_
  obtain ⟨ra, rc, hrv, -⟩ := (p4.ok.rv_ ht4).form
  have hcell : w4.cell? ⟨t.g, 8, none⟩ = some (.slice ra t4.R.length rc) := by
    have := (p4.ok.core ht4).blk.cell 8
    rw [hg4] at this
    rw [this, ← hrv]; rfl
  refine cl (len_p hcell) ?_
  rintro _ w4 ⟨rfl, rfl⟩
  have hpl := plan_mm p4.ok
  rw [k4.m] at hpl
  refine cl hpl ?_
  rintro _ w5 ⟨rfl, hu5⟩
  rw [hc4]
  refine cl (conf_c2 X.c w5) ?_
  rintro _ w6 ⟨rfl, hu6⟩
  have h6 := (p4.ok.upd0 hu5).upd0 hu6
  have p6 : Post w X w6 X4 := (p4.upd0 hu5).upd0 hu6
  refine fl (v := .int .i64 X.c.S) (by cases X.c; rfl) ?_
  have e4 : X4.abs = (X.abs.deed nd 1 2 2).put i { absT t with fs := fs, r := (0, 0, 0), R := t.R ++ [nd] } := by
    rw [a4, a3, put_put]; rfl
  have hl4 : (t4.R.length : Int) = (t.R.length : Int) + 1 := by rw [hR4]; simp
  rw [hl4]
  by_cases hge : (t.R.length : Int) + 1 ≥ X.c.S
  · refine cY hge ?_
    have hps := push_mm h6 ht4 (by rw [hf4]; omega) (RdK.nil_ w6 .u64) (by simp) 6
    rw [← hg4]
    refine cl hps ?_
    rintro _ w7 ⟨fv7, p7⟩
    have k7 := kin_set X4 (t' := { t4 with fv := fv7, fs := t4.fs ++ [⟨6, 0, []⟩] }) ht4 rfl
    have a7 := abs_set X4 i { t4 with fv := fv7, fs := t4.fs ++ [⟨6, 0, []⟩] }
    refine ⟨_, p6.trans p7, k4.trans k7, a7.trans ?_⟩
    have hge' : ((absT t).R.length : Int) + 1 ≥ X.abs.c.S := hge
    rw [if_pos hge', e4, put_put]
    refine congrArg (PS.put _ i) ?_
    show (⟨t4.fs ++ [⟨6, 0, []⟩], t4.r, t4.P, t4.S, t4.W, t4.R, t4.O⟩ : PT) = _
    have h1 : t4.r = (0, 0, 0) := congrArg PT.r hth.symm
    have h2 : t4.P = t.P := congrArg PT.P hth.symm
    have h3 : t4.S = t.S := congrArg PT.S hth.symm
    have h5 : t4.W = t.W := congrArg PT.W hth.symm
    have h8 : t4.O = t.O := congrArg PT.O hth.symm
    rw [hf4, h1, h2, h3, h5, hR4, h8]; rfl
  · refine cN hge ?_
    have hge' : ¬ ((absT t).R.length : Int) + 1 ≥ X.abs.c.S := hge
    rw [if_neg hge']
    exact ⟨X4, p6, k4, e4⟩
end
end Go.Proofs.YtbnbbafffihapaaGreat

/- Contracts: hazard.scan. -/
namespace Go.Proofs.YtbnbbafffihapaaGreat
open Go.RowKit
attribute [local irreducible] Instr.loadAt Instr.storeAt Instr.fieldAt Instr.indexAt Instr.sliceAt Instr.buildSlice Instr.box Instr.alloc Builtin.append_ Builtin.len_ Builtin.min_ Builtin.max_ Calls Instr.build Instr.makeSlice binSem convert Instr.index Instr.range Instr.next
def hasI (l : List Int) (s : Int) : Bool := l.any fun x => decide (x = s)
theorem hasI_s (l : List Int) (s : Int) (j : Nat) (h : j < l.length) : hasI (l.take (j + 1)) s = (hasI (l.take j) s || decide (l.getD j 0 = s)) := by
  unfold hasI
  rw [getD_take l j h, List.any_append]; simp
theorem indexI {w : World} {v : Value} {l : List Int} (h : Sl w 3 1 v l.length (l.map (.int .i64))) (s : Int) : Fn Tryz.prog 88 #[v, .int .i64 s] w fun r w' => (∃ i : Int, r = .int .i64 i ∧ decide (i ≥ 0) = hasI l s) ∧ w' = w := by
  have hle := h.le
  simp only [maxLen] at hle
  obtain ⟨a, cap, rfl, -⟩ := h.form
  refine fn_enter Tryz.func88 rfl rfl ?_
  refine len_sl ?_
  refine loop_rule [0, 1, 7] [8] (fun vs w' m => ∃ j : Nat, vs = [.int .i64 j] ∧ j ≤ l.length ∧ m = l.length - j ∧ hasI (l.take j) s = false ∧ w' = w) rfl [.int .i64 0] l.length rfl ⟨0, rfl, by omega, rfl, rfl, rfl⟩ ?_
  rintro _ w1 m ⟨j, rfl, hj, rfl, ht, rfl⟩
  refine cd (fun hlt => ?_) (fun hlt => ?_)
  · have hlt : j < l.length := by omega
    obtain ⟨b, o, c2, he, -⟩ := h.some_ (by omega)
    cases he
    refine ix j rfl hlt ?_
    refine ld (v := .int .i64 (l.getD j 0)) (h.getD_ rfl j hlt) ?_
    have hst := hasI_s l s j hlt
    refine cd (fun heq => ?_) (fun heq => ?_)
    · refine ⟨⟨(j : Int), rfl, ?_⟩, rfl⟩
      have : hasI l s = true := by
        unfold hasI
        rw [List.any_eq_true]
        exact ⟨l.getD j 0, by simp [List.getD, hlt], by simp [heq]⟩
      rw [this]
      exact decide_eq_true (by omega)
    · refine ar64 (by omega) ?_
      refine round_mk [.int .i64 ((j + 1 : Nat) : Int)] (l.length - (j + 1)) rfl rfl ⟨j + 1, rfl, by omega, rfl, ?_, rfl⟩ (by omega)
      rw [hst, ht, Bool.false_or]
      exact decide_eq_false (fun e => heq e.symm)
  · have hj : j = l.length := by omega
    subst hj
    rw [List.take_length] at ht
    exact ⟨⟨-1, rfl, by rw [ht]; rfl⟩, rfl⟩
theorem contI {w : World} {v : Value} {l : List Int} (h : Sl w 3 1 v l.length (l.map (.int .i64))) (s : Int) : Fn Tryz.prog 78 #[v, .int .i64 s] w fun r w' => r = .bool (hasI l s) ∧ w' = w := by
  refine fn_enter Tryz.func78 rfl rfl ?_
  refine cl (indexI h s) ?_
  rintro _ w ⟨⟨i, rfl, hi⟩, rfl⟩
  exact ⟨by rw [← hi]; rfl, rfl⟩
theorem cloneI {w : World} {v : Value} {l : List Int} (h : Sl w 3 1 v l.length (l.map (.int .i64))) (hl : l.length ≤ 4294967296) : Fn Tryz.prog 89 #[v] w fun r w' => Sl w' 3 1 r l.length (l.map (.int .i64)) ∧ Upd [] w w' := by
  have h' := h
  obtain ⟨a, cap, rfl, hc, h0⟩ := h.form
  refine fn_enter Tryz.func89 rfl rfl ?_
  refine sl_eq ?_
  cases a with
  | none =>
    obtain ⟨h1, h2⟩ := h0 rfl
    obtain rfl := List.length_eq_zero_iff.1 h1
    exact ⟨Sl.nil_ _ _ _, Upd.refl _ _⟩
  | some a =>
    refine bs #[] (fun _ => by kernel_rfl) fun w1 hb1 hu1 hs1 => ?_
    have hz : Sl w1 3 1 (.slice (some ⟨w.heap.size, 0, none⟩) 0 0) 0 [] := Sl.lit hb1 rfl (by simp [maxLen])
    refine apx hz (h'.upd hu1 (by simp)).rd (by intro x hx; obtain ⟨y, -, rfl⟩ := List.mem_map.1 hx; rfl) (by simp only [maxLen]; omega) (by omega) fun v2 w2 hs2 hG2 => ?_
    refine ⟨by simpa using hs2, hu1.step hG2.up (by simp [Value.ownBlock])⟩
theorem list_cell {w : World} {pg pi : Nat} {v : Value} {l : List Int} (hb : w.cell? ⟨pg, pi, none⟩ = some v) (hs : Sl w 3 1 v l.length (l.map (.int .i64))) (hl : l.length ≤ 4294967296) : Fn Tryz.prog 79 #[.pointer (some ⟨pg, pi, none⟩)] w fun r w' => Sl w' 3 1 r l.length (l.map (.int .i64)) ∧ Upd [] w w' := by
  refine fn_enter Tryz.func79 rfl rfl ?_
  refine ptr_eq ?_
  refine fa ?_
  refine ld (v := v) hb ?_
  refine cl (cloneI hs hl) ?_
  rintro r w' ⟨h1, h2⟩
  obtain ⟨a2, c2, rfl, -⟩ := h1.form
  exact ⟨h1, h2⟩
/-- the function that tells which nodes stay -/
theorem stays_k {g tg : Nat} {cs : Array Value} {v : Value} {O : List Int} (hcs : cs[9]? = some v) (l : List Int) : KeepV Tryz.prog (.func (.func 77) #[] #[.pointer (some ⟨g, 0, none⟩)]) l (hasI O) (obEv [obBlk g 33 #[ptrV tg], obBlk tg TT cs, obI v O]) := by
  refine ⟨_, _, rfl, HasBody.h, fun x hx w hB => ?_⟩
  have h1 : Blk w g 33 #[ptrV tg] := hB (obBlk g 33 #[ptrV tg]) (by simp)
  have h2 : Blk w tg TT cs := hB (obBlk tg TT cs) (by simp)
  have h3 : Sl w 3 1 v O.length (O.map (.int .i64)) := hB (obI v O) (by simp)
  refine fn_enter Tryz.func77 rfl rfl ?_
  refine ldb h1 rfl ?_
  refine fa ?_
  refine ld (v := v) (by rw [h2.cell]; exact hcs) ?_
  refine cl (contI h3 x) ?_
  rintro _ w ⟨rfl, rfl⟩
  exact ⟨rfl, Upd.refl _ _⟩
section
variable {w w' : World} {X : Mc} {b : Int} {i : Nat} {t : Th} {fs : List Fr} {f : Fr} {fb fo fc : Nat}
/-- a thread's found ones (its 9th cell) have become others -/
theorem Mach.setO (h : Mach w X) (hi : X.ths[i]? = some t) {w2 w3 : World} {v' : Value} {O' : List Int} (hs : Sl w2 3 1 v' O'.length (O'.map (.int .i64))) (ht : To w t.ov.ownBlock.toList w2 v'.ownBlock.toList)
    (hb : Blk w3 t.g TT (thrC (i : Int) t.fv t.r t.pv t.sv t.wv t.rv v')) (hu : Upd [t.g] w2 w3) : Post w X w3 { X with ths := X.ths.set i { t with ov := v', O := O' } } := by
  have S0 := h.thr hi
  have S1 := Sep.set (i := 5) (x := obI t.ov t.O) (y := obI v' O') S0 rfl hs ht
  have hc := S0.at_ (i := 0) (x := obCore (i : Int) t) rfl
  have hap := S0.apart_ (i := 0) (j := 5) (x := obCore (i : Int) t) (y := obI t.ov t.O) rfl rfl (by decide)
  have hc : IsThr w t.g (i : Int) t.fv t.fs t.r t.pv t.sv t.wv t.rv t.ov := hc
  have hnb := hc.fr.blk_ne hc.blk (by decide)
  have hfr2 := hc.fr.upd ht.up (fun g hg hm => hap g (by simp [obCore, hg]) hm)
  have hfr3 := hfr2.upd hu (fun g hg => by simp; intro e; subst e; exact hnb hg)
  have t2 : To w2 (obCore (i : Int) t).foot w3 (obCore (i : Int) { t with ov := v', O := O' }).foot := ⟨hu.mono (by intro k hk; rw [List.mem_singleton.1 hk]; exact List.mem_cons_self), fun k hk => .inl hk⟩
  have S2 := Sep.set (i := 0) (x := obCore (i : Int) t) (y := obCore (i : Int) { t with ov := v', O := O' }) S1 rfl ⟨hb, hfr3⟩ t2
  have T1 := To.set (l := t.obs (i : Int)) (i := 5) (x := obI t.ov t.O) (y := obI v' O') rfl ht
  have T2 := To.set (l := (t.obs (i : Int)).set 5 (obI v' O')) (i := 0) (x := obCore (i : Int) t) (y := obCore (i : Int) { t with ov := v', O := O' }) rfl t2
  exact h.setTh (t' := { t with ov := v', O := O' }) hi rfl S2 (T1.trans T2)
end
def scEnd (p : PS) (i : Nat) (t : PT) (fs : List Fr) (f : Fr) : List Int → PS
  | [] => p.put i { t with fs := fs, r := (0, 0, 0), O := [] }
  | n :: O => p.put i { t with fs := fs ++ [f] ++ [⟨2, 0, [IntKind.u64.wrap n]⟩], O := O }
def PS.slotV (p : PS) (k : Int) : Int := p.c.haz (k.tdiv p.c.slots) (k.tmod p.c.slots)
def hzScan (p : PS) (i : Nat) (t : PT) (fs : List Fr) (f : Fr) : PS :=
  if f.pc < p.c.slots * p.c.T then (p.load (p.slotV f.pc)).put i { t with fs := fs ++ [{ f with pc := f.pc + 1 }], O := (if f.pc = 0 then [] else t.O) ++ [toI (p.ldv (p.slotV f.pc))] }
  else if f.pc = p.c.slots * p.c.T then scEnd p i { t with R := t.R.filter (hasI t.O) } fs { f with pc := f.pc + 1 } (t.R.filter fun y => !hasI t.O y)
  else scEnd p i t fs f t.O
end Go.Proofs.YtbnbbafffihapaaGreat

/- Contracts: hazard.scan, its walk. -/
namespace Go.Proofs.YtbnbbafffihapaaGreat
open Go.RowKit
attribute [local irreducible] Instr.loadAt Instr.storeAt Instr.fieldAt Instr.indexAt Instr.sliceAt Instr.buildSlice Instr.box Instr.alloc Builtin.append_ Builtin.len_ Builtin.min_ Builtin.max_ Calls Instr.build Instr.makeSlice binSem convert Instr.index Instr.range Instr.next
section
variable {w w' : World} {X : Mc} {b : Int} {i : Nat} {t : Th} {fs : List Fr} {f : Fr} {fb fo fc : Nat}
/-- the walk of scan: its own two boxes beside the machine -/
structure Sc (w0 w : World) (X0 X : Mc) (i : Nat) (t : Th) (fs : List Fr) (f : Fr) (fb fo fc : Nat) (g4 g6 : Nat) (c : Cf) : Prop where
  I : TopI w0 w X0 X i t fs f fb fo fc
  b4 : Aside w X g4 33 #[ptrV t.g]
  b6 : Aside w X g6 45 (planC c)
theorem Sc.upd0 {w0 : World} {X0 : Mc} {g4 g6 : Nat} {c : Cf} (h : Sc w0 w X0 X i t fs f fb fo fc g4 g6 c) (hu : Upd [] w w') : Sc w0 w' X0 X i t fs f fb fo fc g4 g6 c := ⟨h.I.upd0 hu, h.b4.upd0 hu, h.b6.upd0 hu⟩
theorem Sc.mem {w0 : World} {X0 X' : Mc} {g4 g6 : Nat} {c : Cf} (h : Sc w0 w X0 X i t fs f fb fo fc g4 g6 c) (p : Post w X w' X') (k : Kin X X') (hs : X'.ths = X.ths) : Sc w0 w' X0 X' i t fs f fb fo fc g4 g6 c := ⟨h.I.mem p k hs, h.b4.post p, h.b6.post p⟩
theorem Sc.ov {w0 : World} {X0 : Mc} {g4 g6 : Nat} {c : Cf} (h : Sc w0 w X0 X i t fs f fb fo fc g4 g6 c) {w2 w3 : World} {v' : Value} {O' : List Int} (hs : Sl w2 3 1 v' O'.length (O'.map (.int .i64))) (ht : To w t.ov.ownBlock.toList w2 v'.ownBlock.toList)
    (hb : Blk w3 t.g TT (thrC (i : Int) t.fv t.r t.pv t.sv t.wv t.rv v')) (hu : Upd [t.g] w2 w3) : Sc w0 w3 X0 { X with ths := X.ths.set i { t with ov := v', O := O' } } i { t with ov := v', O := O' } fs f fb fo fc g4 g6 c := by
  have p := h.I.p.ok.setO h.I.i hs ht hb hu
  exact ⟨⟨h.I.p.trans p, h.I.k.trans (kin_set X h.I.i rfl), set_at h.I.i, h.I.f, h.I.v⟩, h.b4.post p, h.b6.post p⟩
/-- what the reads of a scan find -/
structure SR (w : World) (t : Th) (ov : Value) (f : Fr) (fb o : Nat) (g4 g6 : Nat) (c : Cf) : Prop where
  fr : ∀ j, j < 12 → w.cell? ⟨fb, o + j, none⟩ = (frC f)[j]?
  ov : w.cell? ⟨t.g, 9, none⟩ = some ov
  b4 : Blk w g4 33 #[ptrV t.g]
  b6 : Blk w g6 45 (planC c)
theorem Sc.rd {w0 : World} {X0 : Mc} {g4 g6 : Nat} {c : Cf} (h : Sc w0 w X0 X i t fs f fb fo fc g4 g6 c) : SR w t t.ov f fb (fo + fs.length * 12) g4 g6 c := ⟨fun j hj => h.I.at_ j hj, (h.I.p.ok.core h.I.i).blk.cell 9, h.b4.b, h.b6.b⟩
theorem ov_feet {X : Mc} {i : Nat} {t : Th} (hi : X.ths[i]? = some t) : ∀ k ∈ t.ov.ownBlock.toList, k ∈ X.feet := fun k hk =>
  mem_feet.2 ⟨obThr (i : Int) t, List.mem_of_getElem? (obs_thr X i t hi), mem_feet.2 ⟨obI t.ov t.O, by simp [Th.obs], hk⟩⟩
theorem Sc.grow {w0 : World} {X0 : Mc} {g4 g6 : Nat} {c : Cf} (h : Sc w0 w X0 X i t fs f fb fo fc g4 g6 c) (hu : Upd t.ov.ownBlock.toList w w') : SR w' t t.ov f fb (fo + fs.length * 12) g4 g6 c ∧ Blk w' t.g TT (thrC (i : Int) t.fv t.r t.pv t.sv t.wv t.rv t.ov) := by
  have S0 := h.I.p.ok.thr h.I.i
  have hap := S0.apart_ (i := 0) (j := 5) (x := obCore (i : Int) t) (y := obI t.ov t.O) rfl rfl (by decide)
  have hlt := (obCore (i : Int) t).lt (S0.at_ (i := 0) (x := obCore (i : Int) t) rfl)
  have hfb : fb ∈ (obCore (i : Int) t).foot := by
    show fb ∈ t.g :: t.fv.ownBlock.toList
    rw [h.I.v]; simp [Value.ownBlock]
  have hblk := (h.I.p.ok.core h.I.i).blk.upd hu (hap t.g List.mem_cons_self)
  exact ⟨⟨fun j hj => by rw [hu.cell (hlt fb hfb) (hap fb hfb)]; exact h.I.at_ j hj, hblk.cell 9, h.b4.b.upd hu (fun hm => h.b4.n (ov_feet h.I.i _ hm)), h.b6.b.upd hu (fun hm => h.b6.n (ov_feet h.I.i _ hm))⟩, hblk⟩
theorem Sep.put {l : List Ob} {i : Nat} {x y : Ob} (h : Sep w l) (hi : l[i]? = some x) (hy : y.ok w) (hf : ∀ k ∈ y.foot, k ∈ x.foot ∨ k ∉ feet l) : Sep w (l.set i y) := by
  have other : ∀ j z, j ≠ i → l[j]? = some z → ∀ k ∈ y.foot, k ∉ z.foot := fun j z hj hz k hk hk2 => by
    rcases hf k hk with h1 | h1
    · exact h.apart_ hi hz (Ne.symm hj) k h1 hk2
    · exact h1 (mem_feet.2 ⟨z, List.mem_of_getElem? hz, hk2⟩)
  refine ⟨fun z hz => ?_, List.pairwise_iff_getElem.2 fun a b ha hb hab => ?_⟩
  · rcases List.mem_or_eq_of_mem_set hz with h1 | h1
    · exact h.ok z h1
    · rw [h1]; exact hy
  · have ha' : a < l.length := by simpa using ha
    have hb' : b < l.length := by simpa using hb
    rw [List.getElem_set, List.getElem_set]
    by_cases h1 : i = a
    · subst h1
      rw [if_pos rfl, if_neg (by omega)]
      exact other b _ (by omega) (List.getElem?_eq_getElem hb')
    · rw [if_neg h1]
      by_cases h2 : i = b
      · subst h2
        rw [if_pos rfl]
        exact fun k hk hk2 => other a _ (by omega) (List.getElem?_eq_getElem ha') k hk2 hk
      · rw [if_neg h2]
        exact List.pairwise_iff_getElem.1 h.apart a b ha' hb' hab
/-- a thing of the caller's own becomes the machine's -/
theorem Mach.setF (h : Mach w X) (hi : X.ths[i]? = some t) {t' : Th} {w3 : World} {y : Ob} {j : Nat} (hj : j ≠ 0) (hg : t'.g = t.g) (hc : (obCore (i : Int) t').ok w3) (hfv : t'.fv = t.fv) (hu : Upd [t.g] w w3) (hy : y.ok w3) (hjl : j < 6)
    (hobs : t'.obs (i : Int) = ((t.obs (i : Int)).set 0 (obCore (i : Int) t')).set j y) (hyf : ∀ k ∈ y.foot, k ∉ X.feet) : Mach w3 { X with ths := X.ths.set i t' } ∧ (∀ k ∈ Mc.feet { X with ths := X.ths.set i t' }, k ∈ X.feet ∨ k ∈ y.foot) ∧ Upd X.feet w w3 := by
  have S0 := h.thr hi
  have hcf : (obCore (i : Int) t').foot = (obCore (i : Int) t).foot := by
    show t'.g :: t'.fv.ownBlock.toList = t.g :: t.fv.ownBlock.toList
    rw [hg, hfv]
  have t1 : To w (obCore (i : Int) t).foot w3 (obCore (i : Int) t').foot := ⟨hu.mono (by intro k hk; rw [List.mem_singleton.1 hk]; exact List.mem_cons_self), fun k hk => .inl (by rw [← hcf]; exact hk)⟩
  have S1 := Sep.set (i := 0) (x := obCore (i : Int) t) (y := obCore (i : Int) t') S0 rfl hc t1
  have T1 := To.set (l := t.obs (i : Int)) (i := 0) (x := obCore (i : Int) t) (y := obCore (i : Int) t') rfl t1
  have hf1 : ∀ k, k ∈ feet ((t.obs (i : Int)).set 0 (obCore (i : Int) t')) → k ∈ feet (t.obs (i : Int)) := fun k hk => by
    obtain ⟨z, hz, hk⟩ := mem_feet.1 hk
    rcases List.mem_or_eq_of_mem_set hz with h1 | h1
    · exact mem_feet.2 ⟨z, h1, hk⟩
    · subst h1; rw [hcf] at hk
      exact mem_feet.2 ⟨_, List.mem_of_getElem? (i := 0) rfl, hk⟩
  have hobt := obs_thr X i t hi
  have hin : ∀ k, k ∈ feet (t.obs (i : Int)) → k ∈ X.feet := fun k hk => mem_feet.2 ⟨obThr (i : Int) t, List.mem_of_getElem? hobt, hk⟩
  have hfl : ∀ k ∈ y.foot, k ∉ feet ((t.obs (i : Int)).set 0 (obCore (i : Int) t')) := fun k hk hm => hyf k hk (hin k (hf1 k hm))
  have hjx : ((t.obs (i : Int)).set 0 (obCore (i : Int) t'))[j]? = some (((t.obs (i : Int)).set 0 (obCore (i : Int) t'))[j]'(by rw [List.length_set]; exact hjl)) := List.getElem?_eq_getElem _
  have S2 := S1.put hjx hy (fun k hk => .inr (hfl k hk))
  rw [← hobs] at S2
  -- the machine with the raw list
  have M1 : Sep w3 (X.obs.set (5 + i) (obAll ((t.obs (i : Int)).set 0 (obCore (i : Int) t')))) := Sep.set (x := obThr (i : Int) t) (y := obAll ((t.obs (i : Int)).set 0 (obCore (i : Int) t'))) h hobt S1 T1
  have hl5 : 5 + i < X.obs.length := (List.getElem?_eq_some_iff.1 hobt).1
  have hg1 : (X.obs.set (5 + i) (obAll ((t.obs (i : Int)).set 0 (obCore (i : Int) t'))))[5 + i]? = some (obAll ((t.obs (i : Int)).set 0 (obCore (i : Int) t'))) := by
    rw [List.getElem?_set, if_pos rfl, if_pos hl5]
  have hff : ∀ k, k ∈ feet (X.obs.set (5 + i) (obAll ((t.obs (i : Int)).set 0 (obCore (i : Int) t')))) → k ∈ X.feet := fun k hk => by
    obtain ⟨z, hz, hk⟩ := mem_feet.1 hk
    rcases List.mem_or_eq_of_mem_set hz with h1 | h1
    · exact mem_feet.2 ⟨z, h1, hk⟩
    · subst h1; exact hin k (hf1 k hk)
  have hty : ∀ k, k ∈ feet (t'.obs (i : Int)) → k ∈ feet ((t.obs (i : Int)).set 0 (obCore (i : Int) t')) ∨ k ∈ y.foot := fun k hk => by
    rw [hobs] at hk
    obtain ⟨z, hz, hk2⟩ := mem_feet.1 hk
    rcases List.mem_or_eq_of_mem_set hz with h1 | h1
    · exact .inl (mem_feet.2 ⟨z, h1, hk2⟩)
    · rw [h1] at hk2; exact .inr hk2
  have M2 := M1.put hg1 (y := obThr (i : Int) t') S2 (fun k hk => by
    rcases hty k hk with h1 | h1
    · exact .inl h1
    · exact .inr (fun hm => hyf k h1 (hff k hm)))
  rw [List.set_set] at M2
  have e := obs_set X i t t' hi hg
  refine ⟨?_, fun k hk => ?_, hu.mono (fun k hk => by rw [List.mem_singleton.1 hk]; exact feet_thr hi _ List.mem_cons_self)⟩
  · show Sep w3 (Mc.obs _)
    rw [e]; exact M2
  · have hk : k ∈ feet (Mc.obs { X with ths := X.ths.set i t' }) := hk
    rw [e] at hk
    obtain ⟨z, hz, hk2⟩ := mem_feet.1 hk
    rcases List.mem_or_eq_of_mem_set hz with h1 | h1
    · exact .inl (mem_feet.2 ⟨z, h1, hk2⟩)
    · rw [h1] at hk2
      rcases hty k hk2 with h2 | h2
      · exact .inl (hin k (hf1 k h2))
      · exact .inr h2
theorem Sc.setF {w0 : World} {X0 : Mc} {g4 g6 : Nat} {c : Cf} (h : Sc w0 w X0 X i t fs f fb fo fc g4 g6 c) {t' : Th} {w3 : World} {y : Ob} {j : Nat} (hj : j ≠ 0) (hg : t'.g = t.g) (hc : (obCore (i : Int) t').ok w3) (hfv : t'.fv = t.fv) (hfs : t'.fs = t.fs) (hu : Upd [t.g] w w3) (hy : y.ok w3) (hjl : j < 6)
    (hobs : t'.obs (i : Int) = ((t.obs (i : Int)).set 0 (obCore (i : Int) t')).set j y) (hyf : ∀ k ∈ y.foot, k ∉ X.feet ∧ k ≠ g4 ∧ k ≠ g6 ∧ w0.heap.size ≤ k) : Sc w0 w3 X0 { X with ths := X.ths.set i t' } i t' fs f fb fo fc g4 g6 c := by
  obtain ⟨m1, m2, m3⟩ := h.I.p.ok.setF h.I.i hj hg hc hfv hu hy hjl hobs (fun k hk => (hyf k hk).1)
  have hgt : t.g ∈ X.feet := feet_thr h.I.i _ List.mem_cons_self
  have hn : ∀ g, g ∉ X.feet → (∀ k ∈ y.foot, k ≠ g) → g ∉ Mc.feet { X with ths := X.ths.set i t' } := fun g h1 h2 hm => by
    rcases m2 g hm with h3 | h3
    · exact h1 h3
    · exact h2 g h3 rfl
  refine ⟨⟨⟨m1, ⟨h.I.p.to.up.step m3 (fun k hk => h.I.p.to.sub k hk), fun k hk => ?_⟩⟩, h.I.k.trans (kin_set X h.I.i hg), set_at h.I.i, hfs.trans h.I.f, by rw [hfv, hfs]; exact h.I.v⟩, ⟨?_, hn g4 h.b4.n (fun k hk => (hyf k hk).2.1)⟩, ⟨h.b6.b.upd hu (by simp; intro e; exact h.b6.n (by rw [e]; exact hgt)), hn g6 h.b6.n (fun k hk => (hyf k hk).2.2.1)⟩⟩
  · rcases m2 k hk with h1 | h1
    · exact h.I.p.to.sub k h1
    · exact .inr (hyf k h1).2.2.2
  · rw [hg]
    exact h.b4.b.upd hu (by simp; intro e; exact h.b4.n (by rw [e]; exact hgt))
theorem Sc.st {w0 : World} {X0 : Mc} {g4 g6 : Nat} {c : Cf} {ty : Nat} [One Tryz.prog ty] {K : World → Prop} (h : Sc w0 w X0 X i t fs f fb fo fc g4 g6 c) {f' : Fr} (j : Nat) (hj : j < 12) {a : Nat} (ha : a = fo + fs.length * 12 + j) {u : Value} (hu : u.oneCell' = true)
    (hf : frC f' = (frC f).set j u) (k : ∀ w', Sc w0 w' X0 { X with ths := X.ths.set i { t with fs := fs ++ [f'] } } i { t with fs := fs ++ [f'] } fs f' fb fo fc g4 g6 c → K w') : RunU Tryz.prog (Instr.storeAt ty (.pointer (some ⟨fb, a, none⟩)) u) K w :=
  st_fr h.I.p.ok h.I.i h.I.f h.I.v j hj ha hu hf fun w' p => k w' ⟨⟨h.I.p.trans p, h.I.k.trans (kin_set X h.I.i rfl), set_at h.I.i, rfl, by
    show t.fv = .slice _ (fs ++ [f']).length fc
    rw [h.I.v, h.I.f]; simp⟩, h.b4.post p, h.b6.post p⟩
theorem stays_fn {w : World} {g tg : Nat} {cs : Array Value} {v : Value} {O : List Int} (h1 : Blk w g 33 #[ptrV tg]) (h2 : Blk w tg TT cs) (hcs : cs[9]? = some v) (h3 : Sl w 3 1 v O.length (O.map (.int .i64))) (x : Int) : Fn Tryz.prog 77 #[.int .i64 x, .pointer (some ⟨g, 0, none⟩)] w fun r w' => r = .bool (hasI O x) ∧ w' = w := by
  refine fn_enter Tryz.func77 rfl rfl ?_
  refine ldb h1 rfl ?_
  refine fa ?_
  refine ld (v := v) (by rw [h2.cell]; exact hcs) ?_
  refine cl (contI h3 x) ?_
  rintro _ w ⟨rfl, rfl⟩
  exact ⟨rfl, rfl⟩
theorem scEnd_nil {p : PS} {i : Nat} {t : PT} {fs : List Fr} {f : Fr} (h : t.O = []) : scEnd p i t fs f t.O = p.put i { t with fs := fs, r := (0, 0, 0) } := by
  obtain ⟨a1, a2, a3, a4, a5, a6, a7⟩ := t
  have h : a7 = [] := h
  subst h; rfl
theorem scEnd_cons {p : PS} {i : Nat} {t : PT} {fs : List Fr} {f : Fr} {n : Int} {O : List Int} (h : t.O = n :: O) (hf : t.fs = fs ++ [f]) : scEnd p i t fs f t.O = p.put i { t with O := O, fs := t.fs ++ [⟨2, 0, [IntKind.u64.wrap n]⟩] } := by
  rw [h, hf]; rfl
theorem tail_sl {w : World} {b o c : Nat} {x : Int} {l : List Int} (h : Sl w 3 1 (.slice (some ⟨b, o, none⟩) (x :: l).length c) (x :: l).length ((x :: l).map (.int .i64))) (hc : (x :: l).length ≤ c) :
    Sl w 3 1 (.slice (if c = 1 then some ⟨b, o, none⟩ else (some ⟨b, o, none⟩ : Option Addr).map (·.add (1 * 1))) ((x :: l).length - 1) (c - 1)) l.length (l.map (.int .i64)) ∧
    (Value.slice (if c = 1 then some ⟨b, o, none⟩ else (some ⟨b, o, none⟩ : Option Addr).map (·.add (1 * 1))) ((x :: l).length - 1) (c - 1)).ownBlock = some b := by
  by_cases hc1 : c = 1
  · rw [if_pos hc1]
    have hl1 : l = [] := by
      cases l with
      | nil => rfl
      | cons y l => simp at hc; omega
    subst hl1; subst hc1
    exact ⟨h.empty_at rfl, rfl⟩
  · rw [if_neg hc1]
    have := h.drop_ rfl 1 (by simp)
    exact ⟨by simpa [Addr.add_lit] using this, by simp [Value.ownBlock, Addr.add_lit]⟩
set_option maxRecDepth 10000 in
set_option maxHeartbeats 1000000 in
theorem scan_p (h : Mach w X) (hg : Good X b) (hb : b ≤ 900000) (hpc : 0 ≤ f.pc ∧ f.pc ≤ 100000) (hi : X.ths[i]? = some t) (hfs : t.fs = fs ++ [f]) (hl : fs.length ≤ 90000) (hRl : t.R.length ≤ 90000) (hOl : t.O.length ≤ 90000) (hfv : t.fv = .slice (some ⟨fb, fo, none⟩) t.fs.length fc) :
    Fn Tryz.prog 61 #[ptrV X.m, ptrV t.g, .pointer (some ⟨fb, fo + fs.length * 12, none⟩)] w fun _ w' => Ev w X w' (hzScan X.abs i (absT t) fs f) := by
  have I : TopI w w X X i t fs f fb fo fc := ⟨.refl h, .refl X, hi, hfs, hfv⟩
  have hr := hg.ok.r
  have hcc : X.abs.c = X.c := rfl
  have hsl : 2 ≤ X.c.slots ∧ X.c.slots ≤ 14 ∧ 1 ≤ X.c.T ∧ X.c.T ≤ 6 := by
    rw [hcc] at hr
    generalize X.c = c at *
    obtain ⟨A, T, N, L, B, P, S⟩ := c
    have := plan_bd hr
    exact ⟨this.1.1, this.1.2, this.2.2.2.1.1, this.2.2.2.1.2⟩
  have hml := mul_bd (a := X.c.slots) (b := X.c.T) (x := 14) (y := 6) (by omega) (by omega)
  refine fn_enter Tryz.func61 rfl rfl ?_
  refine bx fun w1 hb1 hu1 hs1 => ?_
  have h1 := h.upd0 hu1
  refine cl (plan_mm h1) ?_
  rintro _ w2 ⟨rfl, hu2⟩
  refine al z15 (fun _ => by kernel_rfl) fun w3 hb3 hu3 hs3 => ?_
  refine stw hb3 rfl (planC_len X.c) (planC_one X.c) fun w4 hb4 hu4 hs4 => ?_
  have hz1 := hu1.size; have hz2 := hu2.size; have hz3 := hu3.size
  have hft : ∀ k ∈ X.feet, k < w.heap.size := fun k hk => Sep.lt h k hk
  have hne : w.heap.size ≠ w2.heap.size := by omega
  have hbx : Blk w4 w.heap.size 33 #[ptrV t.g] := ((hb1.upd hu2 (by simp)).upd hu3 (by simp)).upd hu4 (by simp; omega)
  have hU4 : Upd [] w w4 := (((hu1.trans hu2).trans hu3).step hu4 (by simp; omega))
  have S4 : Sc w w4 X X i t fs f fb fo fc w.heap.size w2.heap.size X.c := ⟨I.upd0 hU4, ⟨hbx, fun hm => by have := hft _ hm; omega⟩, ⟨hb4, fun hm => by have := hft _ hm; omega⟩⟩
  generalize w.heap.size = g4 at *
  generalize w2.heap.size = g6 at *
  refine draw_all (fun w' => Upd [] w4 w') (by decide +kernel) (Upd.refl [] w4).drew ?_
  refine rq (.agg (planC X.c)) (fun w' hw' => ldw (S4.upd0 hw').b6.b rfl ⟨rfl, rfl⟩) ?_
  refine q_cl (.int .i64 X.c.slots) (fun w' hw' => (pslots_c X.c w').mono fun _ _ ⟨u, he, h1, h2⟩ => ⟨u, he, h1, hw'.trans h2⟩) ?_
  refine rq (.agg (planC X.c)) (fun w' hw' => ldw (S4.upd0 hw').b6.b rfl ⟨rfl, rfl⟩) ?_
  refine q_cl (.agg (cf7 X.c)) (fun w' hw' => (conf_c2 X.c w').mono fun _ _ ⟨u, he, h1, h2⟩ => ⟨u, he, h1, hw'.trans h2⟩) ?_
  refine rq (.int .i64 X.c.T) (fun w' hw' => fl (by cases X.c; rfl) ⟨rfl, rfl⟩) ?_
  refine q_ar64 (by omega) ?_
  intro w5 hu5
  have S5 := S4.upd0 hu5
  refine fa ?_
  refine ld (v := .int .i64 f.pc) (S5.rd.fr 1 (by omega)) ?_
  unfold hzScan
  rw [hcc]
  by_cases c0 : f.pc = 0
  · refine cY c0 ?_
    refine ldb S5.b4.b rfl ?_
    refine fa ?_
    have hblk5 := (S5.I.p.ok.core S5.I.i).blk
    refine st hblk5 (by show 9 < 10; omega) rfl fun w6 hb6 hu6 hs6 => ?_
    have S6 := S5.ov (O' := []) (Sl.nil_ _ _ _) ⟨(Upd.refl [] w5).mono (by simp), fun k hk => by simp [Value.ownBlock] at hk⟩ hb6 hu6
    have hc1 : f.pc < X.c.slots * X.c.T := by
      have := Int.mul_le_mul hsl.1 hsl.2.2.1 (by omega) (by omega)
      omega
    rw [if_pos hc1, if_pos c0]
    have hg6 : Good { X with ths := X.ths.set i { t with ov := .slice none 0 0, O := [] } } b := hg.of (kin_set X hi rfl) (abs_set X i _) (hg.ok.put _ _)
    refine fa ?_
    refine ld (v := .int .i64 f.pc) (S6.rd.fr 1 (by omega)) ?_
    refine cY hc1 ?_
    refine draw_mix 26 [(0, true), (1, true), (2, true), (3, true), (4, true), (5, true), (6, true), (7, true), (8, true), (9, true), (10, true), (11, true), (14, true), (15, true), (16, true), (17, true), (18, true), (12, false), (13, true), (19, false), (20, true), (21, false), (22, false), (23, true), (24, false), (25, false)] (fun w' => SR w' ({ t with ov := .slice none 0 0, O := [] } : Th) (({ t with ov := .slice none 0 0, O := [] } : Th)).ov f fb (fo + fs.length * 12) g4 g6 X.c) (by decide +kernel) ((S6).upd0 (Upd.refl [] _).drew).rd ?_
    refine q_ld (v := ptrV t.g) (fun w' hw' => hw'.b4.cell 0) ?_
    refine q_ld (v := ptrV t.g) (fun w' hw' => hw'.b4.cell 0) ?_
    refine q_fa ?_
    refine q_ld (v := (({ t with ov := .slice none 0 0, O := [] } : Th)).ov) (fun w' hw' => hw'.ov) ?_
    refine rq (.agg (planC X.c)) (fun w' hw' => ldw hw'.b6 rfl ⟨rfl, rfl⟩) ?_
    refine q_fa ?_
    refine q_ld (v := .int .i64 f.pc) (fun w' hw' => hw'.fr 1 (by omega)) ?_
    refine rq (.agg (planC X.c)) (fun w' hw' => ldw hw'.b6 rfl ⟨rfl, rfl⟩) ?_
    refine q_fa ?_
    refine q_ld (v := .int .i64 f.pc) (fun w' hw' => hw'.fr 1 (by omega)) ?_
    refine rq (.agg (planC X.c)) (fun w' hw' => ldw hw'.b6 rfl ⟨rfl, rfl⟩) ?_
    have S6 := (S6).upd0 (Upd.refl [] _).drew
    refine cl (pslots_c X.c _) ?_
    rintro _ w7 ⟨rfl, hu7⟩
    have S7 := S6.upd0 hu7
    refine ⟨S7.rd, ?_⟩
    refine rq (.int .i64 (f.pc.tdiv X.c.slots)) (fun _ _ => qu (by omega) (ar64 (by
      have h1 := Int.tdiv_nonneg hpc.1 (show 0 ≤ X.c.slots by omega)
      have h2 := Int.tdiv_le_self X.c.slots hpc.1
      omega) ⟨rfl, rfl⟩)) ?_
    refine cl (pslots_c X.c _) ?_
    rintro _ w8 ⟨rfl, hu8⟩
    have S8 := S7.upd0 hu8
    refine ⟨S8.rd, ?_⟩
    refine rq (.int .i64 (f.pc.tmod X.c.slots)) (fun _ _ => rm (by omega) (val _ rfl ⟨rfl, rfl⟩)) ?_
    refine cl (haz_c hr _ _ w8) ?_
    rintro _ w9 ⟨rfl, hu9⟩
    have S9 := S8.upd0 hu9
    refine ⟨S9.rd, ?_⟩
    refine cl (load_p S9.I.p.ok hg6 (by omega) (X.abs.slotV f.pc)) ?_
    rintro _ w10 ⟨rfl, X10, p10, k10, a10, s10⟩
    have S10 := S9.mem p10 k10 s10
    refine ⟨S10.rd, ?_⟩
    refine rq (.int .i64 (toI ((({ X with ths := X.ths.set i { t with ov := .slice none 0 0, O := [] } } : Mc)).abs.ldv (X.abs.slotV f.pc)))) (fun _ _ => cv (val _ rfl ⟨rfl, rfl⟩)) ?_
    refine bs #[.int .i64 (toI ((({ X with ths := X.ths.set i { t with ov := .slice none 0 0, O := [] } } : Mc)).abs.ldv (X.abs.slotV f.pc)))] (fun _ => by kernel_rfl) fun w11 hb11 hu11 hs11 => ?_
    have S11 := S10.upd0 hu11
    refine ⟨S11.rd, ?_⟩
    refine apg (S11.I.p.ok.ov_ S11.I.i) hb11 rfl rfl (by decide) (by simp only [maxLen]; first | omega | (simp; done)) (by first | omega | (simp; done)) fun ov' w12 hs12 hG12 => ?_
    obtain ⟨r12, hblk12⟩ := S11.grow hG12.up
    refine ⟨r12, ?_⟩
    obtain ⟨oa, oc, rfl, -⟩ := hs12.form
    refine fa ?_
    refine st hblk12 (by show 9 < 10; omega) rfl fun w13 hb13 hu13 hs13 => ?_
    have S13 := S11.ov (O' := (({ t with ov := .slice none 0 0, O := [] } : Th)).O ++ [toI ((({ X with ths := X.ths.set i { t with ov := .slice none 0 0, O := [] } } : Mc)).abs.ldv (X.abs.slotV f.pc))]) (by rw [List.length_append, List.map_append]; exact hs12) (Upd.own hG12) hb13 hu13
    refine fa ?_
    refine ld (v := .int .i64 f.pc) (S13.I.at_ 1 (by omega)) ?_
    refine ar64 (by omega) ?_
    refine fa ?_
    refine S13.I.st (f' := { f with pc := f.pc + 1 }) 1 (by omega) rfl rfl (frC_pc f (f.pc + 1)) fun w14 I14 => ?_
    have e14 := I14.ev
    rw [abs_set, abs_set, put_put, a10, abs_set, put_load, put_put] at e14
    exact e14
  refine cN c0 ?_
  rw [if_neg c0]
  refine fa ?_
  refine ld (v := .int .i64 f.pc) (S5.rd.fr 1 (by omega)) ?_
  by_cases c1 : f.pc < X.c.slots * X.c.T
  · refine cY c1 ?_
    rw [if_pos c1]
    refine draw_mix 26 [(0, true), (1, true), (2, true), (3, true), (4, true), (5, true), (6, true), (7, true), (8, true), (9, true), (10, true), (11, true), (14, true), (15, true), (16, true), (17, true), (18, true), (12, false), (13, true), (19, false), (20, true), (21, false), (22, false), (23, true), (24, false), (25, false)] (fun w' => SR w' t (t).ov f fb (fo + fs.length * 12) g4 g6 X.c) (by decide +kernel) ((S5).upd0 (Upd.refl [] _).drew).rd ?_
    refine q_ld (v := ptrV t.g) (fun w' hw' => hw'.b4.cell 0) ?_
    refine q_ld (v := ptrV t.g) (fun w' hw' => hw'.b4.cell 0) ?_
    refine q_fa ?_
    refine q_ld (v := (t).ov) (fun w' hw' => hw'.ov) ?_
    refine rq (.agg (planC X.c)) (fun w' hw' => ldw hw'.b6 rfl ⟨rfl, rfl⟩) ?_
    refine q_fa ?_
    refine q_ld (v := .int .i64 f.pc) (fun w' hw' => hw'.fr 1 (by omega)) ?_
    refine rq (.agg (planC X.c)) (fun w' hw' => ldw hw'.b6 rfl ⟨rfl, rfl⟩) ?_
    refine q_fa ?_
    refine q_ld (v := .int .i64 f.pc) (fun w' hw' => hw'.fr 1 (by omega)) ?_
    refine rq (.agg (planC X.c)) (fun w' hw' => ldw hw'.b6 rfl ⟨rfl, rfl⟩) ?_
    have S6 := (S5).upd0 (Upd.refl [] _).drew
    refine cl (pslots_c X.c _) ?_
    rintro _ w7 ⟨rfl, hu7⟩
    have S7 := S6.upd0 hu7
    refine ⟨S7.rd, ?_⟩
    refine rq (.int .i64 (f.pc.tdiv X.c.slots)) (fun _ _ => qu (by omega) (ar64 (by
      have h1 := Int.tdiv_nonneg hpc.1 (show 0 ≤ X.c.slots by omega)
      have h2 := Int.tdiv_le_self X.c.slots hpc.1
      omega) ⟨rfl, rfl⟩)) ?_
    refine cl (pslots_c X.c _) ?_
    rintro _ w8 ⟨rfl, hu8⟩
    have S8 := S7.upd0 hu8
    refine ⟨S8.rd, ?_⟩
    refine rq (.int .i64 (f.pc.tmod X.c.slots)) (fun _ _ => rm (by omega) (val _ rfl ⟨rfl, rfl⟩)) ?_
    refine cl (haz_c hr _ _ w8) ?_
    rintro _ w9 ⟨rfl, hu9⟩
    have S9 := S8.upd0 hu9
    refine ⟨S9.rd, ?_⟩
    refine cl (load_p S9.I.p.ok hg (by omega) (X.abs.slotV f.pc)) ?_
    rintro _ w10 ⟨rfl, X10, p10, k10, a10, s10⟩
    have S10 := S9.mem p10 k10 s10
    refine ⟨S10.rd, ?_⟩
    refine rq (.int .i64 (toI ((X).abs.ldv (X.abs.slotV f.pc)))) (fun _ _ => cv (val _ rfl ⟨rfl, rfl⟩)) ?_
    refine bs #[.int .i64 (toI ((X).abs.ldv (X.abs.slotV f.pc)))] (fun _ => by kernel_rfl) fun w11 hb11 hu11 hs11 => ?_
    have S11 := S10.upd0 hu11
    refine ⟨S11.rd, ?_⟩
    refine apg (S11.I.p.ok.ov_ S11.I.i) hb11 rfl rfl (by decide) (by simp only [maxLen]; first | omega | (simp; done)) (by first | omega | (simp; done)) fun ov' w12 hs12 hG12 => ?_
    obtain ⟨r12, hblk12⟩ := S11.grow hG12.up
    refine ⟨r12, ?_⟩
    obtain ⟨oa, oc, rfl, -⟩ := hs12.form
    refine fa ?_
    refine st hblk12 (by show 9 < 10; omega) rfl fun w13 hb13 hu13 hs13 => ?_
    have S13 := S11.ov (O' := (t).O ++ [toI ((X).abs.ldv (X.abs.slotV f.pc))]) (by rw [List.length_append, List.map_append]; exact hs12) (Upd.own hG12) hb13 hu13
    refine fa ?_
    refine ld (v := .int .i64 f.pc) (S13.I.at_ 1 (by omega)) ?_
    refine ar64 (by omega) ?_
    refine fa ?_
    refine S13.I.st (f' := { f with pc := f.pc + 1 }) 1 (by omega) rfl rfl (frC_pc f (f.pc + 1)) fun w14 I14 => ?_
    have e14 := I14.ev
    rw [abs_set, abs_set, put_put, a10] at e14
    exact e14
  refine cN c1 ?_
  rw [if_neg c1]
  refine fa ?_
  refine ld (v := .int .i64 f.pc) (S5.rd.fr 1 (by omega)) ?_
  by_cases c2 : f.pc = X.c.slots * X.c.T
  · refine cY c2 ?_
    rw [if_pos c2]
    refine ldb S5.b4.b rfl ?_
    refine fa ?_
    refine cl (list_cell (pi := 8) (v := t.rv) ((S5.I.p.ok.core S5.I.i).blk.cell 8) (S5.I.p.ok.rv_ S5.I.i) (by omega)) ?_
    rintro lv w6 ⟨hs6, hu6⟩
    have S6 := S5.upd0 hu6
    obtain ⟨la, lc, hlv, -⟩ := hs6.form
    rw [hlv]
    refine len_sl ?_
    rw [← hlv]
    have hlt6 : ∀ k ∈ X.feet, k < w6.heap.size := fun k hk => Sep.lt S6.I.p.ok k hk
    refine loop_rule [0, 1, 2, 4, 6, 7, 8, 80, 81] [9, 82] (fun vs w' m => ∃ (j : Nat) (out : Value), vs = [out, .int .i64 (j : Int)] ∧ j ≤ t.R.length ∧ m = t.R.length - j ∧ Sl w' 3 1 out ((t.R.take j).filter fun y => !hasI t.O y).length (((t.R.take j).filter fun y => !hasI t.O y).map (.int .i64)) ∧ (∀ k ∈ out.ownBlock.toList, w6.heap.size ≤ k) ∧ Upd [] w6 w') rfl [.slice none 0 0, .int .i64 0] t.R.length rfl ⟨0, _, rfl, by omega, rfl, Sl.nil_ _ _ _, by simp [Value.ownBlock], Upd.refl _ _⟩ ?_
    rintro _ w7 m ⟨j, out, rfl, hj, rfl, hso, hfo, hu7⟩
    have S7 := S6.upd0 hu7
    refine cd (fun hlt => ?_) (fun hlt => ?_)
    · have hlt : j < t.R.length := by omega
      have hs7 := hs6.upd hu7 (by simp)
      obtain ⟨lb, lo, lc2, hlv2, -⟩ := hs7.some_ (by omega)
      rw [hlv2]
      refine ix j rfl hlt ?_
      refine ld (v := .int .i64 (t.R.getD j 0)) (hs7.getD_ hlv2 j hlt) ?_
      refine cl (stays_fn S7.b4.b (S7.I.p.ok.core S7.I.i).blk rfl (S7.I.p.ok.ov_ S7.I.i) (t.R.getD j 0)) ?_
      rintro _ w7 ⟨rfl, rfl⟩
      rw [← hlv2]
      have htk := getD_take t.R j hlt
      cases hh : hasI t.O (t.R.getD j 0) with
      | true =>
        have hsm : (t.R.take (j + 1)).filter (fun y => !hasI t.O y) = (t.R.take j).filter fun y => !hasI t.O y := by
          rw [htk, List.filter_append, List.filter_cons_of_neg (by show ¬ (!hasI t.O (t.R.getD j 0)) = true; rw [hh]; decide), List.filter_nil, List.append_nil]
        refine ar64 (by omega) ?_
        exact round_mk [_, .int .i64 ((j + 1 : Nat) : Int)] (t.R.length - (j + 1)) rfl rfl ⟨j + 1, out, rfl, by omega, rfl, by rw [hsm]; exact hso, hfo, hu7⟩ (by omega)
      | false =>
        have hsm : (t.R.take (j + 1)).filter (fun y => !hasI t.O y) = ((t.R.take j).filter fun y => !hasI t.O y) ++ [t.R.getD j 0] := by
          rw [htk, List.filter_append, List.filter_cons_of_pos (by show (!hasI t.O (t.R.getD j 0)) = true; rw [hh]; decide), List.filter_nil]
        refine bs #[.int .i64 (t.R.getD j 0)] (fun _ => by kernel_rfl) fun w8 hb8 hu8 hs8 => ?_
        have hfl : ((t.R.take j).filter fun y => !hasI t.O y).length ≤ 90000 := by
          have := List.length_filter_le (fun y : Int => !hasI t.O y) (t.R.take j)
          rw [List.length_take] at this
          omega
        refine apg (hso.upd hu8 (by simp)) hb8 rfl rfl (by decide) (by simp only [maxLen]; omega) (by omega) fun out' w9 hs9 hG9 => ?_
        have hz := hu7.size; have hz8 := hu8.size
        refine ar64 (by omega) ?_
        exact round_mk [_, .int .i64 ((j + 1 : Nat) : Int)] (t.R.length - (j + 1)) rfl rfl ⟨j + 1, out', rfl, by omega, rfl, (by rw [hsm, List.length_append, List.map_append]; exact hs9), (fun k hk => by
          rcases hG9.own k (by simpa using hk) with h1 | h1
          · exact hfo k (by simpa using h1)
          · omega), (hu7.trans hu8).step hG9.up (fun k hk => .inr (hfo k hk))⟩ (by omega)
    have hj : j = t.R.length := by omega
    subst hj
    rw [List.take_length] at hso
    generalize hOut : (t.R.filter fun y => !hasI t.O y) = Out at *
    have hz7 := hu7.size
    refine ldb S7.b4.b rfl ?_
    refine fa ?_
    have hblk7 := (S7.I.p.ok.core S7.I.i).blk
    have hB : (obEv [obBlk g4 33 #[ptrV t.g], obBlk t.g TT (thrC (i : Int) t.fv t.r t.pv t.sv t.wv t.rv t.ov), obI t.ov t.O]).ok w7 := fun x hx => by
      simp only [List.mem_cons, List.not_mem_nil, or_false] at hx
      rcases hx with rfl | rfl | rfl
      · exact S7.b4.b
      · exact hblk7
      · exact S7.I.p.ok.ov_ S7.I.i
    refine cl (keep_c (pi := 8) (p := hasI t.O) hblk7 rfl (S7.I.p.ok.rv_ S7.I.i) (by omega) (by decide) (stays_k (tg := t.g) (v := t.ov) rfl t.R) hB) ?_
    rintro _ w8 ⟨rv', rfl, hb8, hs8, hu8, hf8⟩
    have hgt : t.g ∈ X.feet := feet_thr hi _ List.mem_cons_self
    have h7f : ∀ k ∈ X.feet, k < w7.heap.size := fun k hk => Sep.lt S7.I.p.ok k hk
    have hg4w : g4 < w7.heap.size := S7.b4.b.lt
    have hg6w : g6 < w7.heap.size := S7.b6.b.lt
    have hfr8 : (obCore (i : Int) { t with rv := rv', R := t.R.filter (hasI t.O) }).ok w8 := by
      refine ⟨hb8, ?_⟩
      have hc := S7.I.p.ok.core S7.I.i
      have hnb := hc.fr.blk_ne hc.blk (by decide)
      exact hc.fr.upd hu8 (fun g hg => by simp; intro e; subst e; exact hnb hg)
    have S8 := S7.setF (t' := { t with rv := rv', R := t.R.filter (hasI t.O) }) (y := obI rv' (t.R.filter (hasI t.O))) (j := 4) (by decide) rfl hfr8 rfl rfl hu8 hs8 (by decide) rfl (fun k hk => by
      have h1 := hf8 k (by simpa [obSl] using hk)
      have h2 := S7.I.p.to.up.size
      exact ⟨fun hm => by have := h7f k hm; omega, by omega, by omega, by omega⟩)
    have hso8 := hso.upd hu8 (fun g hg => by
      have := hfo g (by simp [hg])
      simp; intro e; subst e
      have := hlt6 _ hgt; omega)
    have m8 := (S7.I.p.ok.setF S7.I.i (t' := { t with rv := rv', R := t.R.filter (hasI t.O) }) (y := obI rv' (t.R.filter (hasI t.O))) (j := 4) (by decide) rfl hfr8 rfl hu8 hs8 (by decide) rfl (fun k hk hm => by
      have h1 := hf8 k (by simpa [obSl] using hk)
      have := h7f k hm; omega)).2.1
    refine ldb S8.b4.b rfl ?_
    obtain ⟨ua, uc, rfl, -⟩ := hso8.form
    have hblk8 := (S8.I.p.ok.core S8.I.i).blk
    refine fa ?_
    refine st hblk8 (by show 9 < 10; omega) rfl fun w9 hb9 hu9 hs9 => ?_
    have hfr9 : (obCore (i : Int) ({ t with rv := rv', R := t.R.filter (hasI t.O), ov := .slice ua Out.length uc, O := Out } : Th)).ok w9 := by
      refine ⟨hb9, ?_⟩
      have hc := S8.I.p.ok.core S8.I.i
      have hnb := hc.fr.blk_ne hc.blk (by decide)
      exact hc.fr.upd hu9 (fun g hg => by simp; intro e; subst e; exact hnb hg)
    have S9 := S8.setF (t' := ({ t with rv := rv', R := t.R.filter (hasI t.O), ov := .slice ua Out.length uc, O := Out } : Th)) (y := obI (.slice ua Out.length uc) Out) (j := 5) (by decide) rfl hfr9 rfl rfl hu9 (hso8.upd hu9 (fun g hg => by
      have := hfo g (by simp [hg])
      simp; intro e; subst e
      have := hlt6 _ hgt; omega)) (by decide) rfl (fun k hk => by
      have h1 := hfo k (by simpa [obSl] using hk)
      have h2 := hso.lt k (by simpa [obSl] using hk)
      have h3 := S6.b4.b.lt
      have h4 := S6.b6.b.lt
      have h5 := S6.I.p.to.up.size
      refine ⟨fun hm => ?_, by omega, by omega, by omega⟩
      rcases m8 k hm with h6 | h6
      · have := hlt6 k h6; omega
      · have := hf8 k (by simpa [obSl] using h6); omega)
    refine fa ?_
    refine ld (v := .int .i64 f.pc) (S9.rd.fr 1 (by omega)) ?_
    refine ar64 (by omega) ?_
    refine fa ?_
    refine S9.st (f' := { f with pc := f.pc + 1 }) 1 (by omega) rfl rfl (frC_pc f (f.pc + 1)) fun w10 S10 => ?_
    have a10 : Mc.abs ({ X with ths := ((X.ths.set i ({ t with rv := rv', R := t.R.filter (hasI t.O) } : Th)).set i ({ t with rv := rv', R := t.R.filter (hasI t.O), ov := .slice ua Out.length uc, O := Out } : Th)).set i ({ t with rv := rv', R := t.R.filter (hasI t.O), ov := .slice ua Out.length uc, O := Out, fs := fs ++ [{ f with pc := f.pc + 1 }] } : Th) } : Mc) = X.abs.put i (absT ({ t with rv := rv', R := t.R.filter (hasI t.O), ov := .slice ua Out.length uc, O := Out, fs := fs ++ [{ f with pc := f.pc + 1 }] } : Th)) := by
      have := abs_set ({ X with ths := (X.ths.set i ({ t with rv := rv', R := t.R.filter (hasI t.O) } : Th)).set i ({ t with rv := rv', R := t.R.filter (hasI t.O), ov := .slice ua Out.length uc, O := Out } : Th) } : Mc) i ({ t with rv := rv', R := t.R.filter (hasI t.O), ov := .slice ua Out.length uc, O := Out, fs := fs ++ [{ f with pc := f.pc + 1 }] } : Th)
      refine this.trans ?_
      have := abs_set ({ X with ths := X.ths.set i ({ t with rv := rv', R := t.R.filter (hasI t.O) } : Th) } : Mc) i ({ t with rv := rv', R := t.R.filter (hasI t.O), ov := .slice ua Out.length uc, O := Out } : Th)
      rw [show Mc.abs ({ X with ths := (X.ths.set i ({ t with rv := rv', R := t.R.filter (hasI t.O) } : Th)).set i ({ t with rv := rv', R := t.R.filter (hasI t.O), ov := .slice ua Out.length uc, O := Out } : Th) } : Mc) = (Mc.abs ({ X with ths := X.ths.set i ({ t with rv := rv', R := t.R.filter (hasI t.O) } : Th) } : Mc)).put i (absT ({ t with rv := rv', R := t.R.filter (hasI t.O), ov := .slice ua Out.length uc, O := Out } : Th)) from this, show Mc.abs ({ X with ths := X.ths.set i ({ t with rv := rv', R := t.R.filter (hasI t.O) } : Th) } : Mc) = X.abs.put i (absT ({ t with rv := rv', R := t.R.filter (hasI t.O) } : Th)) from abs_set X i ({ t with rv := rv', R := t.R.filter (hasI t.O) } : Th), put_put, put_put]
    have hOl10 : Out.length ≤ 90000 := by
      rw [← hOut]
      have := List.length_filter_le (fun y : Int => !hasI t.O y) t.R
      omega
    have hsE : ∀ (Q : List Int), scEnd X.abs i { absT t with R := (absT t).R.filter (hasI (absT t).O) } fs { f with pc := f.pc + 1 } Q = scEnd X.abs i (absT ({ t with rv := rv', R := t.R.filter (hasI t.O), ov := .slice ua Out.length uc, O := Out, fs := fs ++ [{ f with pc := f.pc + 1 }] } : Th)) fs { f with pc := f.pc + 1 } Q := fun Q => by
      cases Q <;> rfl
    have hOutE : ((absT t).R.filter fun y => !hasI (absT t).O y) = Out := hOut
    rw [hOutE, hsE]
    have hblkF := ((S10).I.p.ok.core (S10).I.i).blk
    have hslF := (S10).I.p.ok.ov_ (S10).I.i
    refine ldb (S10).b4.b rfl ?_
    refine fa ?_
    refine ld (v := (({ t with rv := rv', R := t.R.filter (hasI t.O), ov := .slice ua Out.length uc, O := Out, fs := fs ++ [{ f with pc := f.pc + 1 }] } : Th)).ov) ((S10).rd.ov) ?_
    obtain ⟨oa, oc, hov, -⟩ := hslF.form
    rw [hov]
    refine len_sl ?_
    cases hO : (({ t with rv := rv', R := t.R.filter (hasI t.O), ov := .slice ua Out.length uc, O := Out, fs := fs ++ [{ f with pc := f.pc + 1 }] } : Th)).O with
    | nil =>
      refine ldb (S10).b4.b rfl ?_
      refine cl ((S10).I.pop (l := []) (by omega) (fun w' _ => RdK.nil_ w' .u64)) ?_
      rintro _ wz e
      exact (show Ev w X wz (scEnd X.abs i (absT ({ t with rv := rv', R := t.R.filter (hasI t.O), ov := .slice ua Out.length uc, O := Out, fs := fs ++ [{ f with pc := f.pc + 1 }] } : Th)) fs { f with pc := f.pc + 1 } (absT ({ t with rv := rv', R := t.R.filter (hasI t.O), ov := .slice ua Out.length uc, O := Out, fs := fs ++ [{ f with pc := f.pc + 1 }] } : Th)).O) by rw [scEnd_nil (t := absT ({ t with rv := rv', R := t.R.filter (hasI t.O), ov := .slice ua Out.length uc, O := Out, fs := fs ++ [{ f with pc := f.pc + 1 }] } : Th)) hO]; rw [a10, put_put] at e; exact e)
    | cons n O' =>
      rw [hO] at hslF hov
      rw [← hov]
      refine ldb (S10).b4.b rfl ?_
      refine fa ?_
      refine ld (v := (({ t with rv := rv', R := t.R.filter (hasI t.O), ov := .slice ua Out.length uc, O := Out, fs := fs ++ [{ f with pc := f.pc + 1 }] } : Th)).ov) ((S10).rd.ov) ?_
      obtain ⟨ob, oo, oc2, hov2, hoc2⟩ := hslF.some_ (by simp)
      rw [hov2]
      refine ix 0 rfl (by simp) ?_
      refine ld (v := .int .i64 n) (hslF.getD_ hov2 0 (by simp)) ?_
      rw [← hov2]
      have SD := (S10).upd0 (Upd.refl [] _).drew
      obtain ⟨hsl1, hown1⟩ := tail_sl (by rw [← hov2]; exact hslF.drew) hoc2
      refine draw_tail 6 (by decide +kernel) ?_
      refine q_ld (v := ptrV t.g) (by rintro _ rfl; exact SD.b4.b.cell 0) ?_
      refine q_ld (v := ptrV t.g) (by rintro _ rfl; exact SD.b4.b.cell 0) ?_
      refine q_fa ?_
      refine q_ld (v := (({ t with rv := rv', R := t.R.filter (hasI t.O), ov := .slice ua Out.length uc, O := Out, fs := fs ++ [{ f with pc := f.pc + 1 }] } : Th)).ov) (by rintro _ rfl; exact SD.rd.ov) ?_
      rw [hov2]
      refine rq (.slice (if oc2 = 1 then some ⟨ob, oo, none⟩ else (some ⟨ob, oo, none⟩ : Option Addr).map (·.add (1 * 1))) ((n :: O').length - 1) (oc2 - 1)) (fun _ _ => sl_lo 1 rfl (by simp) ⟨rfl, rfl⟩) ?_
      refine fa ?_
      refine st (SD.I.p.ok.core SD.I.i).blk (by show 9 < 10; omega) rfl fun wy hby huy hsy => ?_
      have SE := SD.ov (O' := O') hsl1 ⟨(Upd.refl [] _).mono (by simp), fun k hk => .inl (by
        rw [hown1] at hk
        rw [hov2]; exact hk)⟩ hby huy
      refine ldb SE.b4.b rfl ?_
      refine cv ?_
      refine val (IntKind.u64.wrap n) rfl ?_
      refine bs #[.int .u64 (IntKind.u64.wrap n)] (fun _ => by kernel_rfl) fun wx hbx hux hsx => ?_
      have SF := SE.upd0 hux
      have hps := push_mm SF.I.p.ok SF.I.i (by rw [SF.I.f]; simp; omega) (one_rd hbx) (by simp) 2
      refine cl hps ?_
      rintro _ wv ⟨fvv, pv⟩
      have kv := kin_set _ (t' := { (({ t with rv := rv', R := t.R.filter (hasI t.O), ov := .slice ua Out.length uc, O := Out, fs := fs ++ [{ f with pc := f.pc + 1 }] } : Th)) with ov := (.slice (if oc2 = 1 then some ⟨ob, oo, none⟩ else (some ⟨ob, oo, none⟩ : Option Addr).map (·.add (1 * 1))) ((n :: O').length - 1) (oc2 - 1)), O := O', fv := fvv, fs := (({ t with rv := rv', R := t.R.filter (hasI t.O), ov := .slice ua Out.length uc, O := Out, fs := fs ++ [{ f with pc := f.pc + 1 }] } : Th)).fs ++ [⟨2, 0, [IntKind.u64.wrap n]⟩] }) SF.I.i rfl
      refine ⟨_, SF.I.p.trans pv, SF.I.k.trans kv, ?_⟩
      rw [abs_set, abs_set, abs_set, abs_set, abs_set, put_put, put_put, put_put, put_put]; exact (scEnd_cons (t := absT ({ t with rv := rv', R := t.R.filter (hasI t.O), ov := .slice ua Out.length uc, O := Out, fs := fs ++ [{ f with pc := f.pc + 1 }] } : Th)) hO rfl).symm
  refine cN c2 ?_
  rw [if_neg c2]
  have hblkF := ((S5).I.p.ok.core (S5).I.i).blk
  have hslF := (S5).I.p.ok.ov_ (S5).I.i
  refine ldb (S5).b4.b rfl ?_
  refine fa ?_
  refine ld (v := (t).ov) ((S5).rd.ov) ?_
  obtain ⟨oa, oc, hov, -⟩ := hslF.form
  rw [hov]
  refine len_sl ?_
  cases hO : (t).O with
  | nil =>
    refine ldb (S5).b4.b rfl ?_
    refine cl ((S5).I.pop (l := []) (by omega) (fun w' _ => RdK.nil_ w' .u64)) ?_
    rintro _ wz e
    exact (show Ev w X wz (scEnd X.abs i (absT t) fs f (absT t).O) by rw [scEnd_nil (t := absT t) hO]; exact e)
  | cons n O' =>
    rw [hO] at hslF hov
    rw [← hov]
    refine ldb (S5).b4.b rfl ?_
    refine fa ?_
    refine ld (v := (t).ov) ((S5).rd.ov) ?_
    obtain ⟨ob, oo, oc2, hov2, hoc2⟩ := hslF.some_ (by simp)
    rw [hov2]
    refine ix 0 rfl (by simp) ?_
    refine ld (v := .int .i64 n) (hslF.getD_ hov2 0 (by simp)) ?_
    rw [← hov2]
    have SD := (S5).upd0 (Upd.refl [] _).drew
    obtain ⟨hsl1, hown1⟩ := tail_sl (by rw [← hov2]; exact hslF.drew) hoc2
    refine draw_tail 6 (by decide +kernel) ?_
    refine q_ld (v := ptrV t.g) (by rintro _ rfl; exact SD.b4.b.cell 0) ?_
    refine q_ld (v := ptrV t.g) (by rintro _ rfl; exact SD.b4.b.cell 0) ?_
    refine q_fa ?_
    refine q_ld (v := (t).ov) (by rintro _ rfl; exact SD.rd.ov) ?_
    rw [hov2]
    refine rq (.slice (if oc2 = 1 then some ⟨ob, oo, none⟩ else (some ⟨ob, oo, none⟩ : Option Addr).map (·.add (1 * 1))) ((n :: O').length - 1) (oc2 - 1)) (fun _ _ => sl_lo 1 rfl (by simp) ⟨rfl, rfl⟩) ?_
    refine fa ?_
    refine st (SD.I.p.ok.core SD.I.i).blk (by show 9 < 10; omega) rfl fun wy hby huy hsy => ?_
    have SE := SD.ov (O' := O') hsl1 ⟨(Upd.refl [] _).mono (by simp), fun k hk => .inl (by
      rw [hown1] at hk
      rw [hov2]; exact hk)⟩ hby huy
    refine ldb SE.b4.b rfl ?_
    refine cv ?_
    refine val (IntKind.u64.wrap n) rfl ?_
    refine bs #[.int .u64 (IntKind.u64.wrap n)] (fun _ => by kernel_rfl) fun wx hbx hux hsx => ?_
    have SF := SE.upd0 hux
    have hps := push_mm SF.I.p.ok SF.I.i (by rw [SF.I.f]; simp; omega) (one_rd hbx) (by simp) 2
    refine cl hps ?_
    rintro _ wv ⟨fvv, pv⟩
    have kv := kin_set _ (t' := { (t) with ov := (.slice (if oc2 = 1 then some ⟨ob, oo, none⟩ else (some ⟨ob, oo, none⟩ : Option Addr).map (·.add (1 * 1))) ((n :: O').length - 1) (oc2 - 1)), O := O', fv := fvv, fs := (t).fs ++ [⟨2, 0, [IntKind.u64.wrap n]⟩] }) SF.I.i rfl
    refine ⟨_, SF.I.p.trans pv, SF.I.k.trans kv, ?_⟩
    rw [abs_set, abs_set, put_put]; exact (scEnd_cons (t := absT t) hO hfs).symm
end
end Go.Proofs.YtbnbbafffihapaaGreat

/- Contracts: hazard.Do; a step with it; a routine done alone. -/
namespace Go.Proofs.YtbnbbafffihapaaGreat
open Go.RowKit
attribute [local irreducible] Instr.loadAt Instr.storeAt Instr.fieldAt Instr.indexAt Instr.sliceAt Instr.buildSlice Instr.box Instr.alloc Builtin.append_ Builtin.len_ Builtin.min_ Builtin.max_ Calls Instr.build Instr.makeSlice binSem convert Instr.index Instr.range Instr.next
def hzDo (p : PS) (i : Nat) (t : PT) (fs : List Fr) (f : Fr) : PS :=
  if f.fn = 3 then hzProtect p i t fs f else if f.fn = 4 then hzWipe p i t fs f else if f.fn = 5 then hzRetire p i t fs f else if f.fn = 6 then hzScan p i t fs f else arDo p i t fs f
section
variable {w w' : World} {X : Mc} {b : Int} {i : Nat} {t : Th} {fs : List Fr} {f : Fr} {fb fo fc : Nat}
set_option maxRecDepth 10000 in
theorem hzdo_p (h : Mach w X) (hg : Good X b) (hb : b ≤ 900000) (hi : X.ths[i]? = some t) (hfs : t.fs = fs ++ [f]) (hl : fs.length ≤ 90000) (hR : ∀ j, u64R (f.R.getD j 0)) (hpc : 0 ≤ f.pc ∧ f.pc ≤ 100000) (hRl : t.R.length ≤ 90000) (hOl : t.O.length ≤ 90000) :
    Fn Tryz.prog 36 #[ptrV X.m, ptrV t.g] w fun _ w' => Ev w X w' (hzDo X.abs i (absT t) fs f) := by
  obtain ⟨fb, fo, fc, hfv⟩ := h.fr_ hi (by rw [hfs]; simp)
  refine fn_enter Tryz.func36 rfl rfl ?_
  refine cl (top_mm h hi hfs (by omega) hfv) ?_
  rintro _ _ ⟨rfl, rfl⟩
  have p1 : Post w X w.drew X := .of0 h (Upd.refl [] w).drew
  have I1 : TopI w w.drew X X i t fs f fb fo fc := ⟨p1, .refl X, hi, hfs, hfv⟩
  refine ptr_eq ?_
  refine ptr_eq ?_
  unfold hzDo
  refine fa ?_
  refine ld (v := .int .i64 f.fn) (I1.at_ 0 (by omega)) ?_
  by_cases c3 : f.fn = 3
  · rw [if_pos c3]
    refine cY c3 ?_
    refine cl (protect_p p1.ok hg hb hi hfs hl hfv hR) ?_
    rintro _ w2 e
    exact Ev.before p1 (.refl X) e
  rw [if_neg c3]
  refine cN c3 ?_
  refine fa ?_
  refine ld (v := .int .i64 f.fn) (I1.at_ 0 (by omega)) ?_
  by_cases c4 : f.fn = 4
  · rw [if_pos c4]
    refine cY c4 ?_
    refine cl (wipe_p p1.ok hg hb hpc.1 hi hfs hl hfv) ?_
    rintro _ w2 e
    exact Ev.before p1 (.refl X) e
  rw [if_neg c4]
  refine cN c4 ?_
  refine fa ?_
  refine ld (v := .int .i64 f.fn) (I1.at_ 0 (by omega)) ?_
  by_cases c5 : f.fn = 5
  · rw [if_pos c5]
    refine cY c5 ?_
    refine cl (retire_p p1.ok hg hi hfs hl hRl hfv hR) ?_
    rintro _ w2 e
    exact Ev.before p1 (.refl X) e
  rw [if_neg c5]
  refine cN c5 ?_
  refine fa ?_
  refine ld (v := .int .i64 f.fn) (I1.at_ 0 (by omega)) ?_
  by_cases c6 : f.fn = 6
  · rw [if_pos c6]
    refine cY c6 ?_
    refine cl (scan_p p1.ok hg hb hpc hi hfs hl hRl hOl hfv) ?_
    rintro _ w2 e
    exact Ev.before p1 (.refl X) e
  rw [if_neg c6]
  refine cN c6 ?_
  refine cl (do_p p1.ok hg hb hi hfs hl hR) ?_
  rintro _ w2 e
  exact Ev.before p1 (.refl X) e
/-- the rounds of one step of thread i -/
def Rnd (i : Nat) : Nat → PS → PS → Prop
  | 0, p, q => p = q ∧ (q.acted = true ∨ topL q i = 0) ∧ topL q i ≤ 90000
  | n + 1, p, q => p.acted = false ∧ ∃ t fs f, p.ths[i]? = some t ∧ t.fs = fs ++ [f] ∧ fs.length ≤ 90000 ∧ (∀ j, u64R (f.R.getD j 0)) ∧ (0 ≤ f.pc ∧ f.pc ≤ 100000) ∧ t.R.length ≤ 90000 ∧ t.O.length ≤ 90000 ∧ p.Ok 900000 ∧ Rnd i n (hzDo p i t fs f) q
theorem topL_at {p : PS} {i : Nat} {t : PT} (h : p.ths[i]? = some t) : topL p i = t.fs.length := by unfold topL; rw [h]
set_option maxRecDepth 10000 in
theorem step_hz (h : Mach w X) (hc : X.s.on = false ∧ X.s.L = []) (hX : X.ths.length ≤ 100) (hi : X.ths[i]? = some t) {n : Nat} {q : PS} (hr : Rnd i n (calm0 X.abs) q) :
    Fn Tryz.prog 21 #[ptrV X.m, .int .i64 (i : Int), .func (.func 36) #[] #[]] w fun r w' => r = .bool (decide (0 < topL q i)) ∧ Ev w X w' q := by
  refine (step_mm (f := 36) (ys := #[]) (fun Y w' n => Post w X w' Y ∧ Kin X Y ∧ Rnd i n Y.abs q) n h hi rfl hX (fun w' p => ⟨p, ⟨rfl, rfl, rfl, rfl, id⟩, hr⟩) ?_ ?_).mono ?_
  · rintro Y w' n ⟨p, k, r⟩
    obtain ⟨t2, h2, hg2⟩ := k.g hi
    refine ⟨p.ok, k.m, t2, h2, hg2, ?_⟩
    have h3 := abs_th Y h2
    cases n with
    | zero =>
      obtain ⟨rfl, -, hl⟩ := r
      rw [topL_at h3] at hl
      have : (absT t2).fs = t2.fs := rfl
      rw [this] at hl; omega
    | succ n =>
      obtain ⟨-, t3, fs, f, e1, e2, e3, -⟩ := r
      rw [h3] at e1
      have e1 := Option.some.inj e1
      have : t2.fs = fs ++ [f] := by rw [← e2, ← e1]; rfl
      rw [this]; simp; omega
  · rintro Y w' n t2 ⟨p, k, r⟩ h2 hac hne
    have h3 := abs_th Y h2
    cases n with
    | zero =>
      exfalso
      obtain ⟨rfl, hor, hl⟩ := r
      rcases hor with h4 | h4
      · rw [show Y.abs.acted = Y.acted from rfl, hac] at h4; cases h4
      · rw [topL_at h3] at h4
        exact hne (List.length_eq_zero_iff.1 h4)
    | succ n =>
      obtain ⟨-, t3, fs, f, e1, e2, e3, e4, e5, e6, e7, e8, r⟩ := r
      rw [h3] at e1
      obtain rfl := Option.some.inj e1
      have hg : Good Y 900000 := ⟨e8, k.calm hc⟩
      obtain ⟨t2', h2', hg2⟩ := k.g hi
      rw [h2] at h2'
      obtain rfl := Option.some.inj h2'
      have := hzdo_p p.ok hg (by omega) h2 e2 e3 e4 e5 e6 e7
      rw [show (#[] ++ [ptrV X.m, ptrV t.g].toArray ++ #[] : Array Value) = #[ptrV Y.m, ptrV t2.g] by rw [k.m, hg2]; simp]
      refine this.mono ?_
      rintro e w2 ⟨u, he, X2, p2, k2, a2⟩
      exact ⟨u, he, X2, n, ⟨p.trans p2, k.trans k2, by rw [a2]; exact r⟩, by omega⟩
  · rintro e w' ⟨r, he, Y, n, t2, ⟨p, k, rr⟩, h2, hor, rfl⟩
    have h3 := abs_th Y h2
    have hz : Y.abs = q := by
      cases n with
      | zero => exact rr.1
      | succ n =>
        exfalso
        obtain ⟨hac, t3, fs, f, e1, e2, -⟩ := rr
        rcases hor with h4 | h4
        · rw [show Y.abs.acted = Y.acted from rfl, h4] at hac; cases hac
        · rw [h3] at e1
          have e1 := Option.some.inj e1
          have : t2.fs = fs ++ [f] := by rw [← e2, ← e1]; rfl
          rw [h4] at this; simp at this
    refine ⟨_, he, ?_, Y, p, k, hz⟩
    rw [hz] at h3
    rw [topL_at h3]
    exact congrArg Value.bool (by
      show decide ((t2.fs.length : Int) > 0) = decide (0 < t2.fs.length)
      exact decide_eq_decide.2 (by omega))
/-- a routine of thread i, done alone -/
def RunH (i : Nat) : Nat → PS → PS → Prop
  | 0, _, _ => False
  | n + 1, p, q => ∃ m p', Rnd i m (calm0 p) p' ∧ ((topL p' i = 0 ∧ p' = q) ∨ (0 < topL p' i ∧ RunH i n p' q))
def pushH (p : PS) (i : Nat) (fn : Int) (l : List Int) : PS := match p.ths[i]? with | some t => p.put i { t with fs := t.fs ++ [⟨fn, 0, l⟩] } | none => p
end
end Go.Proofs.YtbnbbafffihapaaGreat

