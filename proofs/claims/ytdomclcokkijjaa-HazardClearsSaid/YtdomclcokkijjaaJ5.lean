/- Joined: Ia Ib Ic Id Ie If Ig Ih Ii Ij. -/
import Derived.Test.YtdomclcokkijjaaJ4
import Derived.Test.YtdomclcokkijjaaEu
/- Contracts: the address of a slot; hazard.ptr. -/
namespace Go.Proofs.Ytdomclcokkijjaa
open Go.RowKit
attribute [local irreducible] Instr.loadAt Instr.storeAt Instr.fieldAt Instr.indexAt Instr.sliceAt Instr.buildSlice Instr.box Instr.alloc Builtin.append_ Builtin.len_ Builtin.min_ Builtin.max_ Calls Instr.build Instr.makeSlice binSem convert Instr.index Instr.range Instr.next
abbrev TPn : Nat := 66
abbrev TCf : Nat := 42
theorem eq_runD {P : Program} {w : World} {t : Nat} {ks : List FK} [EqT P t ks] (d : Nat) {xs ys : Array Value} (hx : fitsK ks xs.toList = true) (hy : fitsK ks ys.toList = true) : (Op.equalIn (d + 2) t (.agg xs) (.agg ys)).run P w = .ok (eqCells xs.toList ys.toList) w := by
  rw [show d + 2 = (d + 1) + 1 from rfl, run_equalIn_struct w (d + 1) t xs ys (EqT.u (ks := ks)) (EqT.held (ks := ks))]
  exact eqFields_run d xs ys _ ks 0 _ _ (fieldsOk_of _ _ _ EqT.f) (by simp) (by simp) hx hy
theorem conf_ne {w : World} {c : Cf} (d : Nat) (hT : c.T ≠ 0) : (Op.equalIn (d + 2) TCf (.agg (cf7 c)) (.agg (cf7 ⟨0, 0, 0, 0, 0, 0, 0⟩))).run Try.prog w = .ok false w := by
  have e : eqCells (cf7 c).toList (cf7 ⟨0, 0, 0, 0, 0, 0, 0⟩).toList = false := by
    obtain ⟨A, T, N, L, B, P, S⟩ := c
    have hT : T ≠ 0 := hT
    show (A == 0 && (T == 0 && (N == 0 && (L == 0 && (B == 0 && (P == 0 && S == 0)))))) = false
    simp [hT]
  rw [← e]
  exact eq_runD d (by cases c; rfl) rfl
theorem plan_ne {w : World} {c : Cf} {x y : Operand} (hT : c.T ≠ 0) : (binSem .eql TPn x y (.agg (planC c)) (.agg z15)).run Try.prog w = .ok (.bool false) w := by
  refine bin_agg (by decide +kernel) ?_
  have hu : Try.prog.underlying TPn = some (.struct (Try.prog.fieldsOf TPn)) := by kernel_rfl
  rw [run_eql_struct, show (10000 : Nat) = 9999 + 1 from rfl, run_equalIn_struct w 9999 TPn _ _ hu (by decide +kernel)]
  obtain ⟨f0, rest, hf, ho, hn, ht⟩ : ∃ f0 rest, (Try.prog.fieldsOf TPn).toList = f0 :: rest ∧ f0.offset = 0 ∧ f0.name ≠ "_" ∧ f0.type = TCf := by
    refine ⟨(Try.prog.fieldsOf TPn).toList.head!, (Try.prog.fieldsOf TPn).toList.tail, by kernel_rfl, by kernel_rfl, by decide +kernel, by kernel_rfl⟩
  rw [hf]
  have e1 : (part f0.type (planC c) f0.offset).run Try.prog w = .ok (.agg (cf7 c)) w := by
    rw [ht, ho]; obtain ⟨A, T, N, L, B, P, S⟩ := c; kernel_rfl
  have e2 : (part f0.type z15 f0.offset).run Try.prog w = .ok (.agg (cf7 ⟨0, 0, 0, 0, 0, 0, 0⟩)) w := by
    rw [ht, ho]; kernel_rfl
  have e3 : (Op.equalIn 9999 f0.type (.agg (cf7 c)) (.agg (cf7 ⟨0, 0, 0, 0, 0, 0, 0⟩))).run Try.prog w = .ok false w := by
    rw [ht]; exact conf_ne 9997 hT
  unfold Op.eqFields
  simp only [Sem.run_bind, Sem.run_ite, hn, ne_eq, not_false_eq_true, if_true, e1, e2, e3, Result.andThen_ok]
  rfl
def hazA (A T L i k : Int) : Int := if (0 ≤ i ∧ i ≤ T - 1) ∧ 0 ≤ k ∧ k ≤ slotsP A L - 1 then 8 + i * slotsP A L + k else -1
def Cf.haz (c : Cf) (i k : Int) : Int := hazA c.A c.T c.L i k
def Cf.slots (c : Cf) : Int := slotsP c.A c.L
theorem pslots_c (c : Cf) (w : World) : Fn Try.prog 57 #[.agg (planC c)] w fun r w' => r = .int .i64 c.slots ∧ Upd [] w w' := by
  obtain ⟨A, T, N, L, B, P, S⟩ := c
  refine fn_enter Try.func57 rfl rfl ?_
  refine bx fun w1 hb1 hu1 hs1 => ?_
  have hb1 : Blk w1 w.heap.size TPn (planC ⟨A, T, N, L, B, P, S⟩) := hb1
  refine fa ?_
  refine ldb hb1 (v := .int .i64 (slotsP A L)) rfl ?_
  exact ⟨rfl, hu1⟩
set_option maxRecDepth 10000 in
theorem haz_c {c : Cf} (hr : rightC c) (i k : Int) (w : World) : Fn Try.prog 59 #[.agg (planC c), .int .i64 i, .int .i64 k] w fun r w' => r = .int .i64 (c.haz i k) ∧ Upd [] w w' := by
  obtain ⟨A, T, N, L, B, P, S⟩ := c
  obtain ⟨b1, b2, b3, b4, b5, b6, b7, b8, b9, b10, b11, b12⟩ := plan_bd hr
  refine fn_enter Try.func59 rfl rfl ?_
  refine bx fun w1 hb1 hu1 hs1 => ?_
  have hb1 : Blk w1 w.heap.size TPn (planC ⟨A, T, N, L, B, P, S⟩) := hb1
  refine ldw hb1 rfl ?_
  refine bd z15 (fun _ => by kernel_rfl) ?_
  refine rn _ _ (plan_ne (c := ⟨A, T, N, L, B, P, S⟩) (show T ≠ 0 by omega)) ?_
  refine fa ?_
  refine fa ?_
  refine ldb hb1 (v := .int .i64 T) rfl ?_
  refine ar64 (by omega) ?_
  refine bd #[.int .i64 i, .int .i64 0, .int .i64 (T - 1)] (fun _ => by kernel_rfl) ?_
  refine fa ?_
  refine ldb hb1 (v := .int .i64 (slotsP A L)) rfl ?_
  refine ar64 (by omega) ?_
  refine bd #[.int .i64 k, .int .i64 0, .int .i64 (slotsP A L - 1)] (fun _ => by kernel_rfl) ?_
  refine bs (spanC [(i, 0, T - 1), (k, 0, slotsP A L - 1)]) (fun _ => by kernel_rfl) fun w2 hb2 hu2 hs2 => ?_
  refine cl (within_c _ hb2 (by show 2 ≤ 100; omega)) ?_
  rintro _ w3 ⟨⟨b, rfl, hb⟩, hu3⟩
  have hU3 := (hu1.trans hu2).trans hu3
  by_cases hn : (0 ≤ i ∧ i ≤ T - 1) ∧ 0 ≤ k ∧ k ≤ slotsP A L - 1
  · have : b = true := hb.2 (fun j hj => by
      have : j < 2 := hj
      rcases (show j = 0 ∨ j = 1 by omega) with rfl | rfl
      · exact hn.1
      · exact hn.2)
    subst this
    have hb3 := (hb1.upd hu2 (by simp)).upd hu3 (by simp)
    have hm := mul_bd (a := i) (b := slotsP A L) (x := 6) (y := 14) (by omega) (by omega)
    refine fa ?_
    refine ldb hb3 (v := .int .i64 8) rfl ?_
    refine fa ?_
    refine ldb hb3 (v := .int .i64 (slotsP A L)) rfl ?_
    refine ar64 (by omega) ?_
    refine ar64 (by omega) ?_
    refine ar64 (by omega) ?_
    exact ⟨by rw [Cf.haz, hazA, if_pos hn]; rfl, hU3⟩
  · have : b = false := by
      cases b
      · rfl
      · exact absurd ⟨hb.1 rfl 0 (by simp), hb.1 rfl 1 (by simp)⟩ hn
    subst this
    exact ⟨by rw [Cf.haz, hazA, if_neg hn]; rfl, hU3⟩
theorem hptr_c {x : Int} (hx : u64R x) (w : World) : Fn Try.prog 106 #[.int .u64 x] w fun r w' => r = .int .u64 (ptrW x) ∧ w' = w := by
  have hb := ptrW_bd (x := x)
  refine fn_enter Try.func106 rfl rfl ?_
  refine cl (wptr_c hx w) ?_
  rintro _ w ⟨rfl, rfl⟩
  refine cv ?_
  refine arU (by omega) ?_
  exact ⟨rfl, rfl⟩
end Go.Proofs.Ytdomclcokkijjaa

/- Contracts: hazard.protect, hazard.wipe. -/
namespace Go.Proofs.Ytdomclcokkijjaa
open Go.RowKit
attribute [local irreducible] Instr.loadAt Instr.storeAt Instr.fieldAt Instr.indexAt Instr.sliceAt Instr.buildSlice Instr.box Instr.alloc Builtin.append_ Builtin.len_ Builtin.min_ Builtin.max_ Calls Instr.build Instr.makeSlice binSem convert Instr.index Instr.range Instr.next
def hzProtect (p : PS) (i : Nat) (t : PT) (fs : List Fr) (f : Fr) : PS :=
  if f.pc = 0 then (if ptrW (p.ldv (toI (f.R.getD 1 0))) = 0 then (p.load (toI (f.R.getD 1 0))).put i (popped t fs (p.ldv (toI (f.R.getD 1 0)))) else (p.load (toI (f.R.getD 1 0))).put i (topped t fs ⟨f.fn, 1, regI f.R 2 (p.ldv (toI (f.R.getD 1 0)))⟩))
  else if f.pc = 1 then (p.store (p.c.haz i (toI (f.R.getD 0 0))) (ptrW (f.R.getD 2 0))).put i (topped t fs { f with pc := 2 })
  else if p.ldv (toI (f.R.getD 1 0)) = f.R.getD 2 0 ∨ ptrW (p.ldv (toI (f.R.getD 1 0))) = 0 then (p.load (toI (f.R.getD 1 0))).put i (popped t fs (p.ldv (toI (f.R.getD 1 0))))
  else (p.load (toI (f.R.getD 1 0))).put i (topped t fs ⟨f.fn, 1, regI f.R 2 (p.ldv (toI (f.R.getD 1 0)))⟩)
def hzWipe (p : PS) (i : Nat) (t : PT) (fs : List Fr) (f : Fr) : PS :=
  if f.pc ≥ p.c.slots then p.put i { t with fs := fs, r := (0, 0, 0) } else (p.store (p.c.haz i f.pc) 0).put i (topped t fs { f with pc := f.pc + 1 })
section
variable {w w' : World} {X : Mc} {b : Int} {i : Nat} {t : Th} {fs : List Fr} {f : Fr} {fb fo fc : Nat}
theorem Mach.id_ (h : Mach w X) (hi : X.ths[i]? = some t) : w.cell? ⟨t.g, 0 + 0, none⟩ = some (.int .i64 (i : Int)) := (h.core hi).blk.cell 0
set_option maxRecDepth 10000 in
theorem protect_p (h : Mach w X) (hg : Good X b) (hb : b ≤ 900000) (hi : X.ths[i]? = some t) (hfs : t.fs = fs ++ [f]) (hl : fs.length ≤ 90000) (hfv : t.fv = .slice (some ⟨fb, fo, none⟩) t.fs.length fc) (hR : ∀ j, u64R (f.R.getD j 0)) :
    Fn Try.prog 88 #[ptrV X.m, ptrV t.g, .pointer (some ⟨fb, fo + fs.length * 12, none⟩)] w fun _ w' => Ev w X w' (hzProtect X.abs i (absT t) fs f) := by
  have I : TopI w w X X i t fs f fb fo fc := ⟨.refl h, .refl X, hi, hfs, hfv⟩
  have hat : ∀ {w1 : World}, Upd [] w w1 → ∀ j, j < 12 → w1.cell? ⟨fb, fo + fs.length * 12 + j, none⟩ = (frC f)[j]? := fun hu j hj => (I.upd0 hu).at_ j hj
  have h1 := hR 1
  have h2 := hR 2
  have hp2 := ptrW_bd (x := f.R.getD 2 0)
  have hv := PS.ldv_bd hg.ok (toI (f.R.getD 1 0))
  refine fn_enter Try.func88 rfl rfl ?_
  refine fa ?_
  refine ixA 1 rfl (by omega) ?_
  refine ld (v := .int .u64 (f.R.getD 1 0)) ((hat (Upd.refl [] w) 3 (by omega)).trans (frC_R0 f 1 (by omega))) ?_
  refine cv ?_
  refine val (toI (f.R.getD 1 0)) rfl ?_
  generalize ha : toI (f.R.getD 1 0) = a at *
  refine fa ?_
  refine ld (v := .int .i64 f.pc) (hat (Upd.refl [] w) 1 (by omega)) ?_
  unfold hzProtect
  rw [ha]
  by_cases c0 : f.pc = 0
  · rw [if_pos c0]
    refine cY c0 ?_
    refine draw_mix 6 [(0, true), (1, true), (2, true), (4, true), (5, true), (3, false)] (fun _ => True) (by decide +kernel) trivial ?_
    refine q_fa ?_
    have I1 := I.upd0 (Upd.refl [] w).drew
    refine cl (load_p I1.p.ok hg (by omega) a) ?_
    rintro _ w2 ⟨rfl, X2, p2, k2, a2, s2⟩
    refine ⟨trivial, ?_⟩
    have I2 := I1.mem p2 k2 s2
    refine ixA 2 rfl (by omega) ?_
    refine I2.st (f' := { f with R := regI f.R 2 (X.abs.ldv a) }) 4 (by omega) rfl rfl (frC_reg f 2 (by omega) _) fun w3 I3 => ?_
    refine fa ?_
    refine I3.st (f' := ⟨f.fn, 1, regI f.R 2 (X.abs.ldv a)⟩) 1 (by omega) rfl rfl rfl fun w4 I4 => ?_
    refine fa ?_
    refine ixA 2 rfl (by omega) ?_
    have hr2 : w4.cell? ⟨fb, fo + fs.length * 12 + 2 + 2 * 1, none⟩ = some (.int .u64 (X.abs.ldv a)) := (I4.at_ 4 (by omega)).trans ((frC_R0 _ 2 (by omega)).trans (by rw [regI_at _ _ _ _ (by omega)]; rfl))
    refine ld (v := .int .u64 (X.abs.ldv a)) hr2 ?_
    refine cl (hptr_c hv w4) ?_
    rintro _ w4 ⟨rfl, rfl⟩
    have ea : ∀ (t' : PT), ((({ ({ X2 with ths := X2.ths.set i { t with fs := fs ++ [{ f with R := regI f.R 2 (X.abs.ldv a) }] } } : Mc) with ths := (X2.ths.set i { t with fs := fs ++ [{ f with R := regI f.R 2 (X.abs.ldv a) }] }).set i { t with fs := fs ++ [⟨f.fn, 1, regI f.R 2 (X.abs.ldv a)⟩] } } : Mc)).abs.put i t') = (X.abs.load a).put i t' := fun t' => by
      rw [← a2]
      unfold Mc.abs PS.put
      simp [List.map_set]
    by_cases cp : ptrW (X.abs.ldv a) = 0
    · rw [if_pos cp]
      refine cY cp ?_
      refine fa ?_
      refine ixA 2 rfl (by omega) ?_
      refine ld (v := .int .u64 (X.abs.ldv a)) hr2 ?_
      refine bs #[.int .u64 (X.abs.ldv a)] (fun _ => by kernel_rfl) fun w5 hb5 hu5 hs5 => ?_
      have I5 := I4.upd0 hu5
      have hne : w4.heap.size ≠ t.g := by have := (I4.p.ok.core I4.i).blk.lt; intro e; rw [e] at this; exact absurd this (Nat.lt_irrefl _)
      refine cl (I5.pop (l := [X.abs.ldv a]) (by omega) (fun w' hu => one_rd (hb5.upd hu (by simpa using hne)))) ?_
      rintro _ w6 e
      rw [ea] at e
      exact e
    · rw [if_neg cp]
      refine cN cp ?_
      have := I4.ev
      rw [abs_set, abs_set, put_put, a2] at this
      exact this
  rw [if_neg c0]
  refine cN c0 ?_
  by_cases c1 : f.pc = 1
  · rw [if_pos c1]
    refine cY c1 ?_
    refine draw_mix 20 [(0, true), (1, true), (3, true), (4, true), (5, true), (6, true), (7, true), (8, true), (9, true), (10, true), (11, true), (12, true), (14, true), (15, true), (16, true), (17, true), (18, true), (2, false), (13, false), (19, false)] (fun w' => Upd [] w w') (by decide +kernel) (Upd.refl [] w).drew ?_
    refine q_fa ?_
    refine q_ld (v := .int .i64 (i : Int)) (fun w' hw' => (h.upd0 hw').id_ hi) ?_
    refine q_fa ?_
    refine q_ixA 0 rfl (by omega) ?_
    refine q_ld (v := .int .u64 (f.R.getD 0 0)) (fun w' hw' => (hat hw' 2 (by omega)).trans (frC_R0 f 0 (by omega))) ?_
    refine rq (.int .i64 (toI (f.R.getD 0 0))) (fun _ _ => cv (val _ rfl ⟨rfl, rfl⟩)) ?_
    refine q_fa ?_
    refine q_ixA 2 rfl (by omega) ?_
    refine q_ld (v := .int .u64 (f.R.getD 2 0)) (fun w' hw' => (hat hw' 4 (by omega)).trans (frC_R0 f 2 (by omega))) ?_
    have I1 := I.upd0 (Upd.refl [] w).drew
    refine cl (plan_mm I1.p.ok) ?_
    rintro _ w2 ⟨rfl, hu2⟩
    have hU2 : Upd [] w w2 := (Upd.refl [] w).drew.trans hu2
    refine ⟨hU2, ?_⟩
    refine cl (haz_c hg.ok.r _ _ w2) ?_
    rintro _ w3 ⟨rfl, hu3⟩
    have hU3 := hU2.trans hu3
    refine ⟨hU3, ?_⟩
    refine cl (hptr_c h2 w3) ?_
    rintro _ w3 ⟨rfl, rfl⟩
    refine ⟨hU3, ?_⟩
    have I3 := I.upd0 hU3
    refine cl (store_p I3.p.ok hg (by omega) _ (ptrW (f.R.getD 2 0))) ?_
    rintro _ w4 ⟨X4, p4, k4, a4, s4⟩
    have I4 := I3.mem p4 k4 s4
    refine fa ?_
    refine I4.st (f' := { f with pc := 2 }) 1 (by omega) rfl rfl (frC_pc f 2) fun w5 I5 => ?_
    have := I5.ev
    rw [abs_set, a4] at this
    exact this
  rw [if_neg c1]
  refine cN c1 ?_
  refine cl (load_p h hg (by omega) a) ?_
  rintro _ w2 ⟨rfl, X2, p2, k2, a2, s2⟩
  have I2 := I.mem p2 k2 s2
  refine fa ?_
  refine ixA 2 rfl (by omega) ?_
  refine ld (v := .int .u64 (f.R.getD 2 0)) ((I2.at_ 4 (by omega)).trans (frC_R0 f 2 (by omega))) ?_
  by_cases ce : X.abs.ldv a = f.R.getD 2 0
  · rw [if_pos (.inl ce)]
    refine cY ce ?_
    refine bs #[.int .u64 (X.abs.ldv a)] (fun _ => by kernel_rfl) fun w5 hb5 hu5 hs5 => ?_
    have I5 := I2.upd0 hu5
    have hne : w2.heap.size ≠ t.g := by have := (I2.p.ok.core I2.i).blk.lt; intro e; rw [e] at this; exact absurd this (Nat.lt_irrefl _)
    refine cl (I5.pop (l := [X.abs.ldv a]) (by omega) (fun w' hu => one_rd (hb5.upd hu (by simpa using hne)))) ?_
    rintro _ w6 e
    rw [a2] at e
    exact e
  refine cN ce ?_
  refine cl (hptr_c hv w2) ?_
  rintro _ w2 ⟨rfl, rfl⟩
  by_cases cp : ptrW (X.abs.ldv a) = 0
  · rw [if_pos (.inr cp)]
    refine cY cp ?_
    refine bs #[.int .u64 (X.abs.ldv a)] (fun _ => by kernel_rfl) fun w5 hb5 hu5 hs5 => ?_
    have I5 := I2.upd0 hu5
    have hne : w2.heap.size ≠ t.g := by have := (I2.p.ok.core I2.i).blk.lt; intro e; rw [e] at this; exact absurd this (Nat.lt_irrefl _)
    refine cl (I5.pop (l := [X.abs.ldv a]) (by omega) (fun w' hu => one_rd (hb5.upd hu (by simpa using hne)))) ?_
    rintro _ w6 e
    rw [a2] at e
    exact e
  rw [if_neg (fun h => h.elim ce cp)]
  refine cN cp ?_
  refine fa ?_
  refine ixA 2 rfl (by omega) ?_
  refine I2.st (f' := { f with R := regI f.R 2 (X.abs.ldv a) }) 4 (by omega) rfl rfl (frC_reg f 2 (by omega) _) fun w3 I3 => ?_
  refine fa ?_
  refine I3.st (f' := ⟨f.fn, 1, regI f.R 2 (X.abs.ldv a)⟩) 1 (by omega) rfl rfl rfl fun w4 I4 => ?_
  have := I4.ev
  rw [abs_set, abs_set, put_put, a2] at this
  exact this
set_option maxRecDepth 10000 in
theorem wipe_p (h : Mach w X) (hg : Good X b) (hb : b ≤ 900000) (hpc : 0 ≤ f.pc) (hi : X.ths[i]? = some t) (hfs : t.fs = fs ++ [f]) (hl : fs.length ≤ 90000) (hfv : t.fv = .slice (some ⟨fb, fo, none⟩) t.fs.length fc) :
    Fn Try.prog 89 #[ptrV X.m, ptrV t.g, .pointer (some ⟨fb, fo + fs.length * 12, none⟩)] w fun _ w' => Ev w X w' (hzWipe X.abs i (absT t) fs f) := by
  have I : TopI w w X X i t fs f fb fo fc := ⟨.refl h, .refl X, hi, hfs, hfv⟩
  have hat : ∀ {w1 : World}, Upd [] w w1 → ∀ j, j < 12 → w1.cell? ⟨fb, fo + fs.length * 12 + j, none⟩ = (frC f)[j]? := fun hu j hj => (I.upd0 hu).at_ j hj
  have hsl : X.abs.c.slots ≤ 14 := by
    have hr := hg.ok.r
    generalize X.abs.c = c at *
    obtain ⟨A, T, N, L, B, P, S⟩ := c
    exact (plan_bd hr).1.2
  refine fn_enter Try.func89 rfl rfl ?_
  refine draw_all (fun w' => Upd [] w w') (by decide +kernel) (Upd.refl [] w).drew ?_
  refine q_fa ?_
  refine q_ld (v := .int .i64 f.pc) (fun w' hw' => hat hw' 1 (by omega)) ?_
  refine q_cl (.agg (planC X.c)) (fun w' hw' => (plan_mm (h.upd0 hw')).mono fun _ _ ⟨u, he, h1, h2⟩ => ⟨u, he, h1, hw'.trans h2⟩) ?_
  refine q_cl (.int .i64 X.c.slots) (fun w' hw' => (pslots_c X.c w').mono fun _ _ ⟨u, he, h1, h2⟩ => ⟨u, he, h1, hw'.trans h2⟩) ?_
  intro w1 hu1
  have I1 := I.upd0 hu1
  have hcs : X.abs.c = X.c := rfl
  unfold hzWipe
  rw [hcs] at hsl ⊢
  by_cases hge : f.pc ≥ X.c.slots
  · rw [if_pos hge]
    refine cY hge ?_
    refine cl (I1.pop (l := []) (by omega) (fun w' _ => RdK.nil_ w' .u64)) ?_
    rintro _ w2 e
    exact e
  rw [if_neg hge]
  refine cN hge ?_
  refine draw_mix 12 [(0, true), (1, true), (3, true), (4, true), (5, true), (6, true), (7, true), (8, true), (9, true), (10, true), (2, false), (11, false)] (fun w' => Upd [] w w') (by decide +kernel) hu1.drew ?_
  refine q_fa ?_
  refine q_ld (v := .int .i64 (i : Int)) (fun w' hw' => (h.upd0 hw').id_ hi) ?_
  refine q_fa ?_
  refine q_ld (v := .int .i64 f.pc) (fun w' hw' => hat hw' 1 (by omega)) ?_
  have I2 := I.upd0 hu1.drew
  refine cl (plan_mm I2.p.ok) ?_
  rintro _ w2 ⟨rfl, hu2⟩
  have hU2 : Upd [] w w2 := hu1.drew.trans hu2
  refine ⟨hU2, ?_⟩
  refine cl (haz_c hg.ok.r _ _ w2) ?_
  rintro _ w3 ⟨rfl, hu3⟩
  have hU3 := hU2.trans hu3
  refine ⟨hU3, ?_⟩
  have I3 := I.upd0 hU3
  refine cl (store_p I3.p.ok hg (by omega) _ 0) ?_
  rintro _ w4 ⟨X4, p4, k4, a4, s4⟩
  have I4 := I3.mem p4 k4 s4
  refine fa ?_
  refine ld (v := .int .i64 f.pc) (I4.at_ 1 (by omega)) ?_
  refine ar64 (by omega) ?_
  refine fa ?_
  refine I4.st (f' := { f with pc := f.pc + 1 }) 1 (by omega) rfl rfl (frC_pc f (f.pc + 1)) fun w5 I5 => ?_
  have := I5.ev
  rw [abs_set, a4] at this
  exact this
end
end Go.Proofs.Ytdomclcokkijjaa

/- Contracts: hazard.retire. -/
namespace Go.Proofs.Ytdomclcokkijjaa
open Go.RowKit
attribute [local irreducible] Instr.loadAt Instr.storeAt Instr.fieldAt Instr.indexAt Instr.sliceAt Instr.buildSlice Instr.box Instr.alloc Builtin.append_ Builtin.len_ Builtin.min_ Builtin.max_ Calls Instr.build Instr.makeSlice binSem convert Instr.index Instr.range Instr.next
theorem push_cell {w : World} {pg pi T : Nat} {cs : Array Value} {v : Value} {l : List Int} (hb : Blk w pg T cs) (hcs : cs[pi]? = some v) (hs : Sl w 3 1 v l.length (l.map (.int .i64))) (hl : l.length ≤ 100000) (hT : 3 ≠ T) (x : Int) :
    Fn Try.prog 107 #[.pointer (some ⟨pg, pi, none⟩), .int .i64 x] w fun _ w' => ∃ w2 v', Sl w2 3 1 v' (l ++ [x]).length ((l ++ [x]).map (.int .i64)) ∧ To w v.ownBlock.toList w2 v'.ownBlock.toList ∧ Blk w' pg T (cs.setIfInBounds pi v') ∧ Upd [pg] w2 w' := by
  have hpi : pi < cs.size := by
    rcases Nat.lt_or_ge pi cs.size with h | h
    · exact h
    · rw [Array.getElem?_eq_none h] at hcs; cases hcs
  refine fn_enter Try.func107 rfl rfl ?_
  refine ptr_ne ?_
  refine fa ?_
  refine ld (v := v) (by rw [hb.cell]; exact hcs) ?_
  refine bs #[.int .i64 x] (fun _ => by kernel_rfl) fun w1 hb1 hu1 hs1 => ?_
  refine apg (hs.upd hu1 (by simp)) hb1 rfl rfl (by decide) (by simp only [maxLen]; omega) (by omega) fun v2 w2 hs2 hG2 => ?_
  have hne := hs.blk_ne hb hT
  have hb2 := (hb.upd hu1 (by simp)).upd hG2.up (by simpa using hne)
  obtain ⟨a2, c2, rfl, -⟩ := hs2.form
  refine fa ?_
  refine st hb2 (by show pi + 0 < _; omega) rfl fun w3 hb3 hu3 hs3 => ?_
  refine ⟨w2, _, ?_, (To.of0 _ hu1).trans (Upd.own hG2), hb3, hu3⟩
  rw [List.length_append, List.map_append]
  exact hs2
section
variable {w w' : World} {X : Mc} {b : Int} {i : Nat} {t : Th} {fs : List Fr} {f : Fr} {fb fo fc : Nat}
/-- a thread's retired ones (its 8th cell) have become others -/
theorem Mach.setR (h : Mach w X) (hi : X.ths[i]? = some t) {w2 w3 : World} {v' : Value} {R' : List Int} (hs : Sl w2 3 1 v' R'.length (R'.map (.int .i64))) (ht : To w t.rv.ownBlock.toList w2 v'.ownBlock.toList)
    (hb : Blk w3 t.g TT (thrC (i : Int) t.fv t.r t.pv t.sv t.wv v' t.ov)) (hu : Upd [t.g] w2 w3) : Post w X w3 { X with ths := X.ths.set i { t with rv := v', R := R' } } := by
  have S0 := h.thr hi
  have S1 := Sep.set (i := 4) (x := obI t.rv t.R) (y := obI v' R') S0 rfl hs ht
  have hc := S0.at_ (i := 0) (x := obCore (i : Int) t) rfl
  have hap := S0.apart_ (i := 0) (j := 4) (x := obCore (i : Int) t) (y := obI t.rv t.R) rfl rfl (by decide)
  have hc : IsThr w t.g (i : Int) t.fv t.fs t.r t.pv t.sv t.wv t.rv t.ov := hc
  have hnb := hc.fr.blk_ne hc.blk (by decide)
  have hfr2 := hc.fr.upd ht.up (fun g hg hm => hap g (by simp [obCore, hg]) hm)
  have hfr3 := hfr2.upd hu (fun g hg => by simp; intro e; subst e; exact hnb hg)
  have t2 : To w2 (obCore (i : Int) t).foot w3 (obCore (i : Int) { t with rv := v', R := R' }).foot := ⟨hu.mono (by intro k hk; rw [List.mem_singleton.1 hk]; exact List.mem_cons_self), fun k hk => .inl hk⟩
  have S2 := Sep.set (i := 0) (x := obCore (i : Int) t) (y := obCore (i : Int) { t with rv := v', R := R' }) S1 rfl ⟨hb, hfr3⟩ t2
  have T1 := To.set (l := t.obs (i : Int)) (i := 4) (x := obI t.rv t.R) (y := obI v' R') rfl ht
  have T2 := To.set (l := (t.obs (i : Int)).set 4 (obI v' R')) (i := 0) (x := obCore (i : Int) t) (y := obCore (i : Int) { t with rv := v', R := R' }) rfl t2
  exact h.setTh (t' := { t with rv := v', R := R' }) hi rfl S2 (T1.trans T2)
theorem Mach.rv_ (h : Mach w X) (hi : X.ths[i]? = some t) : Sl w 3 1 t.rv t.R.length (t.R.map (.int .i64)) := Sep.at_ (i := 4) (x := obI t.rv t.R) (h.thr hi) rfl
theorem Mach.ov_ (h : Mach w X) (hi : X.ths[i]? = some t) : Sl w 3 1 t.ov t.O.length (t.O.map (.int .i64)) := Sep.at_ (i := 5) (x := obI t.ov t.O) (h.thr hi) rfl
theorem rpush_mm (h : Mach w X) (hi : X.ths[i]? = some t) (hl : t.R.length ≤ 100000) (x : Int) : Fn Try.prog 107 #[.pointer (some ⟨t.g, 8, none⟩), .int .i64 x] w fun _ w' => ∃ v', Post w X w' { X with ths := X.ths.set i { t with rv := v', R := t.R ++ [x] } } :=
  (push_cell (h.core hi).blk (pi := 8) rfl (h.rv_ hi) hl (by decide) x).mono fun _ w' ⟨u, he, w2, v', h1, h2, h3, h4⟩ => ⟨u, he, v', h.setR hi h1 h2 h3 h4⟩
theorem conf_c2 (c : Cf) (w : World) : Fn Try.prog 38 #[.agg (planC c)] w fun r w' => r = .agg (cf7 c) ∧ Upd [] w w' := by
  obtain ⟨A, T, N, L, B, P, S⟩ := c
  exact conf_c A T N L B P S w
def hzRetire (p : PS) (i : Nat) (t : PT) (fs : List Fr) (f : Fr) : PS :=
  if (t.R.length : Int) + 1 ≥ p.c.S then (p.deed (toI (f.R.getD 0 0)) 1 2 2).put i { t with fs := fs ++ [⟨6, 0, []⟩], r := (0, 0, 0), R := t.R ++ [toI (f.R.getD 0 0)] }
  else (p.deed (toI (f.R.getD 0 0)) 1 2 2).put i { t with fs := fs, r := (0, 0, 0), R := t.R ++ [toI (f.R.getD 0 0)] }
set_option maxRecDepth 10000 in
theorem retire_p (h : Mach w X) (hg : Good X b) (hi : X.ths[i]? = some t) (hfs : t.fs = fs ++ [f]) (hl : fs.length ≤ 90000) (hRl : t.R.length ≤ 90000) (hfv : t.fv = .slice (some ⟨fb, fo, none⟩) t.fs.length fc) (hR : ∀ j, u64R (f.R.getD j 0)) :
    Fn Try.prog 90 #[ptrV X.m, ptrV t.g, .pointer (some ⟨fb, fo + fs.length * 12, none⟩)] w fun _ w' => Ev w X w' (hzRetire X.abs i (absT t) fs f) := by
  have I : TopI w w X X i t fs f fb fo fc := ⟨.refl h, .refl X, hi, hfs, hfv⟩
  refine fn_enter Try.func90 rfl rfl ?_
  refine fa ?_
  refine ixA 0 rfl (by omega) ?_
  refine ld (v := .int .u64 (f.R.getD 0 0)) ((I.at_ 2 (by omega)).trans (frC_R0 f 0 (by omega))) ?_
  refine cv ?_
  refine val (toI (f.R.getD 0 0)) rfl ?_
  unfold hzRetire
  generalize toI (f.R.getD 0 0) = nd at *
  refine cl (gone_p h hg nd) ?_
  rintro _ w2 ⟨X2, p2, k2, a2, s2⟩
  have I2 := I.mem p2 k2 s2
  refine fa ?_
  refine cl (rpush_mm I2.p.ok I2.i (by omega) nd) ?_
  rintro _ w3 ⟨rv', p3⟩
  have k3 := kin_set X2 (t' := { t with rv := rv', R := t.R ++ [nd] }) I2.i rfl
  have a3 := abs_set X2 i { t with rv := rv', R := t.R ++ [nd] }
  rw [a2] at a3
  have I3 : TopI w w3 X _ i { t with rv := rv', R := t.R ++ [nd] } fs f fb fo fc := ⟨I2.p.trans p3, I2.k.trans k3, set_at I2.i, hfs, hfv⟩
  generalize ({ X2 with ths := X2.ths.set i { t with rv := rv', R := t.R ++ [nd] } } : Mc) = X3 at *
  refine cl (I3.pop (l := []) (by omega) (fun w' _ => RdK.nil_ w' .u64)) ?_
  rintro _ w4 ⟨X4, p4, k4, a4⟩
  obtain ⟨t4, ht4, hg4⟩ := k4.g hi
  have hth := abs_at a4 ht4
  have hi3 : X3.abs.ths[i]? = some _ := abs_th X3 I3.i
  rw [put_th hi3] at hth
  have hth := Option.some.inj hth
  have hc4 : X4.c = X.c := by
    have h1 : X4.c = X3.c := congrArg PS.c a4
    have h2 : X3.c = X.c := congrArg PS.c a3
    exact h1.trans h2
  have hR4 : t4.R = t.R ++ [nd] := congrArg PT.R hth.symm
  have hf4 : t4.fs = fs := congrArg PT.fs hth.symm
  refine fa ?_
  obtain ⟨ra, rc, hrv, -⟩ := (p4.ok.rv_ ht4).form
  have hcell : w4.cell? ⟨t.g, 8, none⟩ = some (.slice ra t4.R.length rc) := by
    have := (p4.ok.core ht4).blk.cell 8
    rw [hg4] at this
    rw [this, ← hrv]; rfl
  refine cl (len_p hcell) ?_
  rintro _ w4 ⟨rfl, rfl⟩
  have hpl := plan_mm p4.ok
  rw [k4.m] at hpl
  refine cl hpl ?_
  rintro _ w5 ⟨rfl, hu5⟩
  rw [hc4]
  refine cl (conf_c2 X.c w5) ?_
  rintro _ w6 ⟨rfl, hu6⟩
  have h6 := (p4.ok.upd0 hu5).upd0 hu6
  have p6 : Post w X w6 X4 := (p4.upd0 hu5).upd0 hu6
  refine fl (v := .int .i64 X.c.S) (by cases X.c; rfl) ?_
  have e4 : X4.abs = (X.abs.deed nd 1 2 2).put i { absT t with fs := fs, r := (0, 0, 0), R := t.R ++ [nd] } := by
    rw [a4, a3, put_put]; rfl
  have hl4 : (t4.R.length : Int) = (t.R.length : Int) + 1 := by rw [hR4]; simp
  rw [hl4]
  by_cases hge : (t.R.length : Int) + 1 ≥ X.c.S
  · refine cY hge ?_
    have hps := push_mm h6 ht4 (by rw [hf4]; omega) (RdK.nil_ w6 .u64) (by simp) 6
    rw [← hg4]
    refine cl hps ?_
    rintro _ w7 ⟨fv7, p7⟩
    have k7 := kin_set X4 (t' := { t4 with fv := fv7, fs := t4.fs ++ [⟨6, 0, []⟩] }) ht4 rfl
    have a7 := abs_set X4 i { t4 with fv := fv7, fs := t4.fs ++ [⟨6, 0, []⟩] }
    refine ⟨_, p6.trans p7, k4.trans k7, a7.trans ?_⟩
    have hge' : ((absT t).R.length : Int) + 1 ≥ X.abs.c.S := hge
    rw [if_pos hge', e4, put_put]
    refine congrArg (PS.put _ i) ?_
    show (⟨t4.fs ++ [⟨6, 0, []⟩], t4.r, t4.P, t4.S, t4.W, t4.R, t4.O⟩ : PT) = _
    have h1 : t4.r = (0, 0, 0) := congrArg PT.r hth.symm
    have h2 : t4.P = t.P := congrArg PT.P hth.symm
    have h3 : t4.S = t.S := congrArg PT.S hth.symm
    have h5 : t4.W = t.W := congrArg PT.W hth.symm
    have h8 : t4.O = t.O := congrArg PT.O hth.symm
    rw [hf4, h1, h2, h3, h5, hR4, h8]; rfl
  · refine cN hge ?_
    have hge' : ¬ ((absT t).R.length : Int) + 1 ≥ X.abs.c.S := hge
    rw [if_neg hge']
    exact ⟨X4, p6, k4, e4⟩
end
end Go.Proofs.Ytdomclcokkijjaa

/- Contracts: hazard.scan. -/
namespace Go.Proofs.Ytdomclcokkijjaa
open Go.RowKit
attribute [local irreducible] Instr.loadAt Instr.storeAt Instr.fieldAt Instr.indexAt Instr.sliceAt Instr.buildSlice Instr.box Instr.alloc Builtin.append_ Builtin.len_ Builtin.min_ Builtin.max_ Calls Instr.build Instr.makeSlice binSem convert Instr.index Instr.range Instr.next
def hasI (l : List Int) (s : Int) : Bool := l.any fun x => decide (x = s)
theorem hasI_s (l : List Int) (s : Int) (j : Nat) (h : j < l.length) : hasI (l.take (j + 1)) s = (hasI (l.take j) s || decide (l.getD j 0 = s)) := by
  unfold hasI
  rw [getD_take l j h, List.any_append]; simp
theorem indexI {w : World} {v : Value} {l : List Int} (h : Sl w 3 1 v l.length (l.map (.int .i64))) (s : Int) : Fn Try.prog 114 #[v, .int .i64 s] w fun r w' => (∃ i : Int, r = .int .i64 i ∧ decide (i ≥ 0) = hasI l s) ∧ w' = w := by
  have hle := h.le
  simp only [maxLen] at hle
  obtain ⟨a, cap, rfl, -⟩ := h.form
  refine fn_enter Try.func114 rfl rfl ?_
  refine len_sl ?_
  refine loop_rule [0, 1, 7] [8] (fun vs w' m => ∃ j : Nat, vs = [.int .i64 j] ∧ j ≤ l.length ∧ m = l.length - j ∧ hasI (l.take j) s = false ∧ w' = w) rfl [.int .i64 0] l.length rfl ⟨0, rfl, by omega, rfl, rfl, rfl⟩ ?_
  rintro _ w1 m ⟨j, rfl, hj, rfl, ht, rfl⟩
  refine cd (fun hlt => ?_) (fun hlt => ?_)
  · have hlt : j < l.length := by omega
    obtain ⟨b, o, c2, he, -⟩ := h.some_ (by omega)
    cases he
    refine ix j rfl hlt ?_
    refine ld (v := .int .i64 (l.getD j 0)) (h.getD_ rfl j hlt) ?_
    have hst := hasI_s l s j hlt
    refine cd (fun heq => ?_) (fun heq => ?_)
    · refine ⟨⟨(j : Int), rfl, ?_⟩, rfl⟩
      have : hasI l s = true := by
        unfold hasI
        rw [List.any_eq_true]
        exact ⟨l.getD j 0, by simp [List.getD, hlt], by simp [heq]⟩
      rw [this]
      exact decide_eq_true (by omega)
    · refine ar64 (by omega) ?_
      refine round_mk [.int .i64 ((j + 1 : Nat) : Int)] (l.length - (j + 1)) rfl rfl ⟨j + 1, rfl, by omega, rfl, ?_, rfl⟩ (by omega)
      rw [hst, ht, Bool.false_or]
      exact decide_eq_false (fun e => heq e.symm)
  · have hj : j = l.length := by omega
    subst hj
    rw [List.take_length] at ht
    exact ⟨⟨-1, rfl, by rw [ht]; rfl⟩, rfl⟩
theorem contI {w : World} {v : Value} {l : List Int} (h : Sl w 3 1 v l.length (l.map (.int .i64))) (s : Int) : Fn Try.prog 109 #[v, .int .i64 s] w fun r w' => r = .bool (hasI l s) ∧ w' = w := by
  refine fn_enter Try.func109 rfl rfl ?_
  refine cl (indexI h s) ?_
  rintro _ w ⟨⟨i, rfl, hi⟩, rfl⟩
  exact ⟨by rw [← hi]; rfl, rfl⟩
theorem cloneI {w : World} {v : Value} {l : List Int} (h : Sl w 3 1 v l.length (l.map (.int .i64))) (hl : l.length ≤ 4294967296) : Fn Try.prog 92 #[v] w fun r w' => Sl w' 3 1 r l.length (l.map (.int .i64)) ∧ Upd [] w w' := by
  have h' := h
  obtain ⟨a, cap, rfl, hc, h0⟩ := h.form
  refine fn_enter Try.func92 rfl rfl ?_
  refine sl_eq ?_
  cases a with
  | none =>
    obtain ⟨h1, h2⟩ := h0 rfl
    obtain rfl := List.length_eq_zero_iff.1 h1
    exact ⟨Sl.nil_ _ _ _, Upd.refl _ _⟩
  | some a =>
    refine bs #[] (fun _ => by kernel_rfl) fun w1 hb1 hu1 hs1 => ?_
    have hz : Sl w1 3 1 (.slice (some ⟨w.heap.size, 0, none⟩) 0 0) 0 [] := Sl.lit hb1 rfl (by simp [maxLen])
    refine apx hz (h'.upd hu1 (by simp)).rd (by intro x hx; obtain ⟨y, -, rfl⟩ := List.mem_map.1 hx; rfl) (by simp only [maxLen]; omega) (by omega) fun v2 w2 hs2 hG2 => ?_
    refine ⟨by simpa using hs2, hu1.step hG2.up (by simp [Value.ownBlock])⟩
theorem list_cell {w : World} {pg pi : Nat} {v : Value} {l : List Int} (hb : w.cell? ⟨pg, pi, none⟩ = some v) (hs : Sl w 3 1 v l.length (l.map (.int .i64))) (hl : l.length ≤ 4294967296) : Fn Try.prog 63 #[.pointer (some ⟨pg, pi, none⟩)] w fun r w' => Sl w' 3 1 r l.length (l.map (.int .i64)) ∧ Upd [] w w' := by
  refine fn_enter Try.func63 rfl rfl ?_
  refine ptr_eq ?_
  refine fa ?_
  refine ld (v := v) hb ?_
  refine cl (cloneI hs hl) ?_
  rintro r w' ⟨h1, h2⟩
  obtain ⟨a2, c2, rfl, -⟩ := h1.form
  exact ⟨h1, h2⟩
/-- the function that tells which nodes stay -/
theorem stays_k {g tg : Nat} {cs : Array Value} {v : Value} {O : List Int} (hcs : cs[9]? = some v) (l : List Int) : KeepV Try.prog (.func (.func 108) #[] #[.pointer (some ⟨g, 0, none⟩)]) l (hasI O) (obEv [obBlk g 25 #[ptrV tg], obBlk tg TT cs, obI v O]) := by
  refine ⟨_, _, rfl, HasBody.h, fun x hx w hB => ?_⟩
  have h1 : Blk w g 25 #[ptrV tg] := hB (obBlk g 25 #[ptrV tg]) (by simp)
  have h2 : Blk w tg TT cs := hB (obBlk tg TT cs) (by simp)
  have h3 : Sl w 3 1 v O.length (O.map (.int .i64)) := hB (obI v O) (by simp)
  refine fn_enter Try.func108 rfl rfl ?_
  refine ldb h1 rfl ?_
  refine fa ?_
  refine ld (v := v) (by rw [h2.cell]; exact hcs) ?_
  refine cl (contI h3 x) ?_
  rintro _ w ⟨rfl, rfl⟩
  exact ⟨rfl, Upd.refl _ _⟩
section
variable {w w' : World} {X : Mc} {b : Int} {i : Nat} {t : Th} {fs : List Fr} {f : Fr} {fb fo fc : Nat}
/-- a thread's found ones (its 9th cell) have become others -/
theorem Mach.setO (h : Mach w X) (hi : X.ths[i]? = some t) {w2 w3 : World} {v' : Value} {O' : List Int} (hs : Sl w2 3 1 v' O'.length (O'.map (.int .i64))) (ht : To w t.ov.ownBlock.toList w2 v'.ownBlock.toList)
    (hb : Blk w3 t.g TT (thrC (i : Int) t.fv t.r t.pv t.sv t.wv t.rv v')) (hu : Upd [t.g] w2 w3) : Post w X w3 { X with ths := X.ths.set i { t with ov := v', O := O' } } := by
  have S0 := h.thr hi
  have S1 := Sep.set (i := 5) (x := obI t.ov t.O) (y := obI v' O') S0 rfl hs ht
  have hc := S0.at_ (i := 0) (x := obCore (i : Int) t) rfl
  have hap := S0.apart_ (i := 0) (j := 5) (x := obCore (i : Int) t) (y := obI t.ov t.O) rfl rfl (by decide)
  have hc : IsThr w t.g (i : Int) t.fv t.fs t.r t.pv t.sv t.wv t.rv t.ov := hc
  have hnb := hc.fr.blk_ne hc.blk (by decide)
  have hfr2 := hc.fr.upd ht.up (fun g hg hm => hap g (by simp [obCore, hg]) hm)
  have hfr3 := hfr2.upd hu (fun g hg => by simp; intro e; subst e; exact hnb hg)
  have t2 : To w2 (obCore (i : Int) t).foot w3 (obCore (i : Int) { t with ov := v', O := O' }).foot := ⟨hu.mono (by intro k hk; rw [List.mem_singleton.1 hk]; exact List.mem_cons_self), fun k hk => .inl hk⟩
  have S2 := Sep.set (i := 0) (x := obCore (i : Int) t) (y := obCore (i : Int) { t with ov := v', O := O' }) S1 rfl ⟨hb, hfr3⟩ t2
  have T1 := To.set (l := t.obs (i : Int)) (i := 5) (x := obI t.ov t.O) (y := obI v' O') rfl ht
  have T2 := To.set (l := (t.obs (i : Int)).set 5 (obI v' O')) (i := 0) (x := obCore (i : Int) t) (y := obCore (i : Int) { t with ov := v', O := O' }) rfl t2
  exact h.setTh (t' := { t with ov := v', O := O' }) hi rfl S2 (T1.trans T2)
end
def scEnd (p : PS) (i : Nat) (t : PT) (fs : List Fr) (f : Fr) : List Int → PS
  | [] => p.put i { t with fs := fs, r := (0, 0, 0), O := [] }
  | n :: O => p.put i { t with fs := fs ++ [f] ++ [⟨2, 0, [IntKind.u64.wrap n]⟩], O := O }
def PS.slotV (p : PS) (k : Int) : Int := p.c.haz (k.tdiv p.c.slots) (k.tmod p.c.slots)
def hzScan (p : PS) (i : Nat) (t : PT) (fs : List Fr) (f : Fr) : PS :=
  if f.pc < p.c.slots * p.c.T then (p.load (p.slotV f.pc)).put i { t with fs := fs ++ [{ f with pc := f.pc + 1 }], O := (if f.pc = 0 then [] else t.O) ++ [toI (p.ldv (p.slotV f.pc))] }
  else if f.pc = p.c.slots * p.c.T then scEnd p i { t with R := t.R.filter (hasI t.O) } fs { f with pc := f.pc + 1 } (t.R.filter fun y => !hasI t.O y)
  else scEnd p i t fs f t.O
end Go.Proofs.Ytdomclcokkijjaa

/- Contracts: hazard.scan, its walk. -/
namespace Go.Proofs.Ytdomclcokkijjaa
open Go.RowKit
attribute [local irreducible] Instr.loadAt Instr.storeAt Instr.fieldAt Instr.indexAt Instr.sliceAt Instr.buildSlice Instr.box Instr.alloc Builtin.append_ Builtin.len_ Builtin.min_ Builtin.max_ Calls Instr.build Instr.makeSlice binSem convert Instr.index Instr.range Instr.next
section
variable {w w' : World} {X : Mc} {b : Int} {i : Nat} {t : Th} {fs : List Fr} {f : Fr} {fb fo fc : Nat}
/-- the walk of scan: its own two boxes beside the machine -/
structure Sc (w0 w : World) (X0 X : Mc) (i : Nat) (t : Th) (fs : List Fr) (f : Fr) (fb fo fc : Nat) (g4 g6 : Nat) (c : Cf) : Prop where
  I : TopI w0 w X0 X i t fs f fb fo fc
  b4 : Aside w X g4 25 #[ptrV t.g]
  b6 : Aside w X g6 66 (planC c)
theorem Sc.upd0 {w0 : World} {X0 : Mc} {g4 g6 : Nat} {c : Cf} (h : Sc w0 w X0 X i t fs f fb fo fc g4 g6 c) (hu : Upd [] w w') : Sc w0 w' X0 X i t fs f fb fo fc g4 g6 c := ⟨h.I.upd0 hu, h.b4.upd0 hu, h.b6.upd0 hu⟩
theorem Sc.mem {w0 : World} {X0 X' : Mc} {g4 g6 : Nat} {c : Cf} (h : Sc w0 w X0 X i t fs f fb fo fc g4 g6 c) (p : Post w X w' X') (k : Kin X X') (hs : X'.ths = X.ths) : Sc w0 w' X0 X' i t fs f fb fo fc g4 g6 c := ⟨h.I.mem p k hs, h.b4.post p, h.b6.post p⟩
theorem Sc.ov {w0 : World} {X0 : Mc} {g4 g6 : Nat} {c : Cf} (h : Sc w0 w X0 X i t fs f fb fo fc g4 g6 c) {w2 w3 : World} {v' : Value} {O' : List Int} (hs : Sl w2 3 1 v' O'.length (O'.map (.int .i64))) (ht : To w t.ov.ownBlock.toList w2 v'.ownBlock.toList)
    (hb : Blk w3 t.g TT (thrC (i : Int) t.fv t.r t.pv t.sv t.wv t.rv v')) (hu : Upd [t.g] w2 w3) : Sc w0 w3 X0 { X with ths := X.ths.set i { t with ov := v', O := O' } } i { t with ov := v', O := O' } fs f fb fo fc g4 g6 c := by
  have p := h.I.p.ok.setO h.I.i hs ht hb hu
  exact ⟨⟨h.I.p.trans p, h.I.k.trans (kin_set X h.I.i rfl), set_at h.I.i, h.I.f, h.I.v⟩, h.b4.post p, h.b6.post p⟩
/-- what the reads of a scan find -/
structure SR (w : World) (t : Th) (ov : Value) (f : Fr) (fb o : Nat) (g4 g6 : Nat) (c : Cf) : Prop where
  fr : ∀ j, j < 12 → w.cell? ⟨fb, o + j, none⟩ = (frC f)[j]?
  ov : w.cell? ⟨t.g, 9, none⟩ = some ov
  b4 : Blk w g4 25 #[ptrV t.g]
  b6 : Blk w g6 66 (planC c)
theorem Sc.rd {w0 : World} {X0 : Mc} {g4 g6 : Nat} {c : Cf} (h : Sc w0 w X0 X i t fs f fb fo fc g4 g6 c) : SR w t t.ov f fb (fo + fs.length * 12) g4 g6 c := ⟨fun j hj => h.I.at_ j hj, (h.I.p.ok.core h.I.i).blk.cell 9, h.b4.b, h.b6.b⟩
theorem ov_feet {X : Mc} {i : Nat} {t : Th} (hi : X.ths[i]? = some t) : ∀ k ∈ t.ov.ownBlock.toList, k ∈ X.feet := fun k hk =>
  mem_feet.2 ⟨obThr (i : Int) t, List.mem_of_getElem? (obs_thr X i t hi), mem_feet.2 ⟨obI t.ov t.O, by simp [Th.obs], hk⟩⟩
theorem Sc.grow {w0 : World} {X0 : Mc} {g4 g6 : Nat} {c : Cf} (h : Sc w0 w X0 X i t fs f fb fo fc g4 g6 c) (hu : Upd t.ov.ownBlock.toList w w') : SR w' t t.ov f fb (fo + fs.length * 12) g4 g6 c ∧ Blk w' t.g TT (thrC (i : Int) t.fv t.r t.pv t.sv t.wv t.rv t.ov) := by
  have S0 := h.I.p.ok.thr h.I.i
  have hap := S0.apart_ (i := 0) (j := 5) (x := obCore (i : Int) t) (y := obI t.ov t.O) rfl rfl (by decide)
  have hlt := (obCore (i : Int) t).lt (S0.at_ (i := 0) (x := obCore (i : Int) t) rfl)
  have hfb : fb ∈ (obCore (i : Int) t).foot := by
    show fb ∈ t.g :: t.fv.ownBlock.toList
    rw [h.I.v]; simp [Value.ownBlock]
  have hblk := (h.I.p.ok.core h.I.i).blk.upd hu (hap t.g List.mem_cons_self)
  exact ⟨⟨fun j hj => by rw [hu.cell (hlt fb hfb) (hap fb hfb)]; exact h.I.at_ j hj, hblk.cell 9, h.b4.b.upd hu (fun hm => h.b4.n (ov_feet h.I.i _ hm)), h.b6.b.upd hu (fun hm => h.b6.n (ov_feet h.I.i _ hm))⟩, hblk⟩
theorem Sep.put {l : List Ob} {i : Nat} {x y : Ob} (h : Sep w l) (hi : l[i]? = some x) (hy : y.ok w) (hf : ∀ k ∈ y.foot, k ∈ x.foot ∨ k ∉ feet l) : Sep w (l.set i y) := by
  have other : ∀ j z, j ≠ i → l[j]? = some z → ∀ k ∈ y.foot, k ∉ z.foot := fun j z hj hz k hk hk2 => by
    rcases hf k hk with h1 | h1
    · exact h.apart_ hi hz (Ne.symm hj) k h1 hk2
    · exact h1 (mem_feet.2 ⟨z, List.mem_of_getElem? hz, hk2⟩)
  refine ⟨fun z hz => ?_, List.pairwise_iff_getElem.2 fun a b ha hb hab => ?_⟩
  · rcases List.mem_or_eq_of_mem_set hz with h1 | h1
    · exact h.ok z h1
    · rw [h1]; exact hy
  · have ha' : a < l.length := by simpa using ha
    have hb' : b < l.length := by simpa using hb
    rw [List.getElem_set, List.getElem_set]
    by_cases h1 : i = a
    · subst h1
      rw [if_pos rfl, if_neg (by omega)]
      exact other b _ (by omega) (List.getElem?_eq_getElem hb')
    · rw [if_neg h1]
      by_cases h2 : i = b
      · subst h2
        rw [if_pos rfl]
        exact fun k hk hk2 => other a _ (by omega) (List.getElem?_eq_getElem ha') k hk2 hk
      · rw [if_neg h2]
        exact List.pairwise_iff_getElem.1 h.apart a b ha' hb' hab
/-- a thing of the caller's own becomes the machine's -/
theorem Mach.setF (h : Mach w X) (hi : X.ths[i]? = some t) {t' : Th} {w3 : World} {y : Ob} {j : Nat} (hj : j ≠ 0) (hg : t'.g = t.g) (hc : (obCore (i : Int) t').ok w3) (hfv : t'.fv = t.fv) (hu : Upd [t.g] w w3) (hy : y.ok w3) (hjl : j < 6)
    (hobs : t'.obs (i : Int) = ((t.obs (i : Int)).set 0 (obCore (i : Int) t')).set j y) (hyf : ∀ k ∈ y.foot, k ∉ X.feet) : Mach w3 { X with ths := X.ths.set i t' } ∧ (∀ k ∈ Mc.feet { X with ths := X.ths.set i t' }, k ∈ X.feet ∨ k ∈ y.foot) ∧ Upd X.feet w w3 := by
  have S0 := h.thr hi
  have hcf : (obCore (i : Int) t').foot = (obCore (i : Int) t).foot := by
    show t'.g :: t'.fv.ownBlock.toList = t.g :: t.fv.ownBlock.toList
    rw [hg, hfv]
  have t1 : To w (obCore (i : Int) t).foot w3 (obCore (i : Int) t').foot := ⟨hu.mono (by intro k hk; rw [List.mem_singleton.1 hk]; exact List.mem_cons_self), fun k hk => .inl (by rw [← hcf]; exact hk)⟩
  have S1 := Sep.set (i := 0) (x := obCore (i : Int) t) (y := obCore (i : Int) t') S0 rfl hc t1
  have T1 := To.set (l := t.obs (i : Int)) (i := 0) (x := obCore (i : Int) t) (y := obCore (i : Int) t') rfl t1
  have hf1 : ∀ k, k ∈ feet ((t.obs (i : Int)).set 0 (obCore (i : Int) t')) → k ∈ feet (t.obs (i : Int)) := fun k hk => by
    obtain ⟨z, hz, hk⟩ := mem_feet.1 hk
    rcases List.mem_or_eq_of_mem_set hz with h1 | h1
    · exact mem_feet.2 ⟨z, h1, hk⟩
    · subst h1; rw [hcf] at hk
      exact mem_feet.2 ⟨_, List.mem_of_getElem? (i := 0) rfl, hk⟩
  have hobt := obs_thr X i t hi
  have hin : ∀ k, k ∈ feet (t.obs (i : Int)) → k ∈ X.feet := fun k hk => mem_feet.2 ⟨obThr (i : Int) t, List.mem_of_getElem? hobt, hk⟩
  have hfl : ∀ k ∈ y.foot, k ∉ feet ((t.obs (i : Int)).set 0 (obCore (i : Int) t')) := fun k hk hm => hyf k hk (hin k (hf1 k hm))
  have hjx : ((t.obs (i : Int)).set 0 (obCore (i : Int) t'))[j]? = some (((t.obs (i : Int)).set 0 (obCore (i : Int) t'))[j]'(by rw [List.length_set]; exact hjl)) := List.getElem?_eq_getElem _
  have S2 := S1.put hjx hy (fun k hk => .inr (hfl k hk))
  rw [← hobs] at S2
  -- the machine with the raw list
  have M1 : Sep w3 (X.obs.set (5 + i) (obAll ((t.obs (i : Int)).set 0 (obCore (i : Int) t')))) := Sep.set (x := obThr (i : Int) t) (y := obAll ((t.obs (i : Int)).set 0 (obCore (i : Int) t'))) h hobt S1 T1
  have hl5 : 5 + i < X.obs.length := (List.getElem?_eq_some_iff.1 hobt).1
  have hg1 : (X.obs.set (5 + i) (obAll ((t.obs (i : Int)).set 0 (obCore (i : Int) t'))))[5 + i]? = some (obAll ((t.obs (i : Int)).set 0 (obCore (i : Int) t'))) := by
    rw [List.getElem?_set, if_pos rfl, if_pos hl5]
  have hff : ∀ k, k ∈ feet (X.obs.set (5 + i) (obAll ((t.obs (i : Int)).set 0 (obCore (i : Int) t')))) → k ∈ X.feet := fun k hk => by
    obtain ⟨z, hz, hk⟩ := mem_feet.1 hk
    rcases List.mem_or_eq_of_mem_set hz with h1 | h1
    · exact mem_feet.2 ⟨z, h1, hk⟩
    · subst h1; exact hin k (hf1 k hk)
  have hty : ∀ k, k ∈ feet (t'.obs (i : Int)) → k ∈ feet ((t.obs (i : Int)).set 0 (obCore (i : Int) t')) ∨ k ∈ y.foot := fun k hk => by
    rw [hobs] at hk
    obtain ⟨z, hz, hk2⟩ := mem_feet.1 hk
    rcases List.mem_or_eq_of_mem_set hz with h1 | h1
    · exact .inl (mem_feet.2 ⟨z, h1, hk2⟩)
    · rw [h1] at hk2; exact .inr hk2
  have M2 := M1.put hg1 (y := obThr (i : Int) t') S2 (fun k hk => by
    rcases hty k hk with h1 | h1
    · exact .inl h1
    · exact .inr (fun hm => hyf k h1 (hff k hm)))
  rw [List.set_set] at M2
  have e := obs_set X i t t' hi hg
  refine ⟨?_, fun k hk => ?_, hu.mono (fun k hk => by rw [List.mem_singleton.1 hk]; exact feet_thr hi _ List.mem_cons_self)⟩
  · show Sep w3 (Mc.obs _)
    rw [e]; exact M2
  · have hk : k ∈ feet (Mc.obs { X with ths := X.ths.set i t' }) := hk
    rw [e] at hk
    obtain ⟨z, hz, hk2⟩ := mem_feet.1 hk
    rcases List.mem_or_eq_of_mem_set hz with h1 | h1
    · exact .inl (mem_feet.2 ⟨z, h1, hk2⟩)
    · rw [h1] at hk2
      rcases hty k hk2 with h2 | h2
      · exact .inl (hin k (hf1 k h2))
      · exact .inr h2
theorem Sc.setF {w0 : World} {X0 : Mc} {g4 g6 : Nat} {c : Cf} (h : Sc w0 w X0 X i t fs f fb fo fc g4 g6 c) {t' : Th} {w3 : World} {y : Ob} {j : Nat} (hj : j ≠ 0) (hg : t'.g = t.g) (hc : (obCore (i : Int) t').ok w3) (hfv : t'.fv = t.fv) (hfs : t'.fs = t.fs) (hu : Upd [t.g] w w3) (hy : y.ok w3) (hjl : j < 6)
    (hobs : t'.obs (i : Int) = ((t.obs (i : Int)).set 0 (obCore (i : Int) t')).set j y) (hyf : ∀ k ∈ y.foot, k ∉ X.feet ∧ k ≠ g4 ∧ k ≠ g6 ∧ w0.heap.size ≤ k) : Sc w0 w3 X0 { X with ths := X.ths.set i t' } i t' fs f fb fo fc g4 g6 c := by
  obtain ⟨m1, m2, m3⟩ := h.I.p.ok.setF h.I.i hj hg hc hfv hu hy hjl hobs (fun k hk => (hyf k hk).1)
  have hgt : t.g ∈ X.feet := feet_thr h.I.i _ List.mem_cons_self
  have hn : ∀ g, g ∉ X.feet → (∀ k ∈ y.foot, k ≠ g) → g ∉ Mc.feet { X with ths := X.ths.set i t' } := fun g h1 h2 hm => by
    rcases m2 g hm with h3 | h3
    · exact h1 h3
    · exact h2 g h3 rfl
  refine ⟨⟨⟨m1, ⟨h.I.p.to.up.step m3 (fun k hk => h.I.p.to.sub k hk), fun k hk => ?_⟩⟩, h.I.k.trans (kin_set X h.I.i hg), set_at h.I.i, hfs.trans h.I.f, by rw [hfv, hfs]; exact h.I.v⟩, ⟨?_, hn g4 h.b4.n (fun k hk => (hyf k hk).2.1)⟩, ⟨h.b6.b.upd hu (by simp; intro e; exact h.b6.n (by rw [e]; exact hgt)), hn g6 h.b6.n (fun k hk => (hyf k hk).2.2.1)⟩⟩
  · rcases m2 k hk with h1 | h1
    · exact h.I.p.to.sub k h1
    · exact .inr (hyf k h1).2.2.2
  · rw [hg]
    exact h.b4.b.upd hu (by simp; intro e; exact h.b4.n (by rw [e]; exact hgt))
theorem Sc.st {w0 : World} {X0 : Mc} {g4 g6 : Nat} {c : Cf} {ty : Nat} [One Try.prog ty] {K : World → Prop} (h : Sc w0 w X0 X i t fs f fb fo fc g4 g6 c) {f' : Fr} (j : Nat) (hj : j < 12) {a : Nat} (ha : a = fo + fs.length * 12 + j) {u : Value} (hu : u.oneCell' = true)
    (hf : frC f' = (frC f).set j u) (k : ∀ w', Sc w0 w' X0 { X with ths := X.ths.set i { t with fs := fs ++ [f'] } } i { t with fs := fs ++ [f'] } fs f' fb fo fc g4 g6 c → K w') : RunU Try.prog (Instr.storeAt ty (.pointer (some ⟨fb, a, none⟩)) u) K w :=
  st_fr h.I.p.ok h.I.i h.I.f h.I.v j hj ha hu hf fun w' p => k w' ⟨⟨h.I.p.trans p, h.I.k.trans (kin_set X h.I.i rfl), set_at h.I.i, rfl, by
    show t.fv = .slice _ (fs ++ [f']).length fc
    rw [h.I.v, h.I.f]; simp⟩, h.b4.post p, h.b6.post p⟩
theorem stays_fn {w : World} {g tg : Nat} {cs : Array Value} {v : Value} {O : List Int} (h1 : Blk w g 25 #[ptrV tg]) (h2 : Blk w tg TT cs) (hcs : cs[9]? = some v) (h3 : Sl w 3 1 v O.length (O.map (.int .i64))) (x : Int) : Fn Try.prog 108 #[.int .i64 x, .pointer (some ⟨g, 0, none⟩)] w fun r w' => r = .bool (hasI O x) ∧ w' = w := by
  refine fn_enter Try.func108 rfl rfl ?_
  refine ldb h1 rfl ?_
  refine fa ?_
  refine ld (v := v) (by rw [h2.cell]; exact hcs) ?_
  refine cl (contI h3 x) ?_
  rintro _ w ⟨rfl, rfl⟩
  exact ⟨rfl, rfl⟩
theorem scEnd_nil {p : PS} {i : Nat} {t : PT} {fs : List Fr} {f : Fr} (h : t.O = []) : scEnd p i t fs f t.O = p.put i { t with fs := fs, r := (0, 0, 0) } := by
  obtain ⟨a1, a2, a3, a4, a5, a6, a7⟩ := t
  have h : a7 = [] := h
  subst h; rfl
theorem scEnd_cons {p : PS} {i : Nat} {t : PT} {fs : List Fr} {f : Fr} {n : Int} {O : List Int} (h : t.O = n :: O) (hf : t.fs = fs ++ [f]) : scEnd p i t fs f t.O = p.put i { t with O := O, fs := t.fs ++ [⟨2, 0, [IntKind.u64.wrap n]⟩] } := by
  rw [h, hf]; rfl
theorem tail_sl {w : World} {b o c : Nat} {x : Int} {l : List Int} (h : Sl w 3 1 (.slice (some ⟨b, o, none⟩) (x :: l).length c) (x :: l).length ((x :: l).map (.int .i64))) (hc : (x :: l).length ≤ c) :
    Sl w 3 1 (.slice (if c = 1 then some ⟨b, o, none⟩ else (some ⟨b, o, none⟩ : Option Addr).map (·.add (1 * 1))) ((x :: l).length - 1) (c - 1)) l.length (l.map (.int .i64)) ∧
    (Value.slice (if c = 1 then some ⟨b, o, none⟩ else (some ⟨b, o, none⟩ : Option Addr).map (·.add (1 * 1))) ((x :: l).length - 1) (c - 1)).ownBlock = some b := by
  by_cases hc1 : c = 1
  · rw [if_pos hc1]
    have hl1 : l = [] := by
      cases l with
      | nil => rfl
      | cons y l => simp at hc; omega
    subst hl1; subst hc1
    exact ⟨h.empty_at rfl, rfl⟩
  · rw [if_neg hc1]
    have := h.drop_ rfl 1 (by simp)
    exact ⟨by simpa [Addr.add_lit] using this, by simp [Value.ownBlock, Addr.add_lit]⟩
set_option maxRecDepth 10000 in
set_option maxHeartbeats 1000000 in
theorem scan_p (h : Mach w X) (hg : Good X b) (hb : b ≤ 900000) (hpc : 0 ≤ f.pc ∧ f.pc ≤ 100000) (hi : X.ths[i]? = some t) (hfs : t.fs = fs ++ [f]) (hl : fs.length ≤ 90000) (hRl : t.R.length ≤ 90000) (hOl : t.O.length ≤ 90000) (hfv : t.fv = .slice (some ⟨fb, fo, none⟩) t.fs.length fc) :
    Fn Try.prog 91 #[ptrV X.m, ptrV t.g, .pointer (some ⟨fb, fo + fs.length * 12, none⟩)] w fun _ w' => Ev w X w' (hzScan X.abs i (absT t) fs f) := by
  have I : TopI w w X X i t fs f fb fo fc := ⟨.refl h, .refl X, hi, hfs, hfv⟩
  have hr := hg.ok.r
  have hcc : X.abs.c = X.c := rfl
  have hsl : 2 ≤ X.c.slots ∧ X.c.slots ≤ 14 ∧ 1 ≤ X.c.T ∧ X.c.T ≤ 6 := by
    rw [hcc] at hr
    generalize X.c = c at *
    obtain ⟨A, T, N, L, B, P, S⟩ := c
    have := plan_bd hr
    exact ⟨this.1.1, this.1.2, this.2.2.2.1.1, this.2.2.2.1.2⟩
  have hml := mul_bd (a := X.c.slots) (b := X.c.T) (x := 14) (y := 6) (by omega) (by omega)
  refine fn_enter Try.func91 rfl rfl ?_
  refine bx fun w1 hb1 hu1 hs1 => ?_
  have h1 := h.upd0 hu1
  refine cl (plan_mm h1) ?_
  rintro _ w2 ⟨rfl, hu2⟩
  refine al z15 (fun _ => by kernel_rfl) fun w3 hb3 hu3 hs3 => ?_
  refine stw hb3 rfl (planC_len X.c) (planC_one X.c) fun w4 hb4 hu4 hs4 => ?_
  have hz1 := hu1.size; have hz2 := hu2.size; have hz3 := hu3.size
  have hft : ∀ k ∈ X.feet, k < w.heap.size := fun k hk => Sep.lt h k hk
  have hne : w.heap.size ≠ w2.heap.size := by omega
  have hbx : Blk w4 w.heap.size 25 #[ptrV t.g] := ((hb1.upd hu2 (by simp)).upd hu3 (by simp)).upd hu4 (by simp; omega)
  have hU4 : Upd [] w w4 := (((hu1.trans hu2).trans hu3).step hu4 (by simp; omega))
  have S4 : Sc w w4 X X i t fs f fb fo fc w.heap.size w2.heap.size X.c := ⟨I.upd0 hU4, ⟨hbx, fun hm => by have := hft _ hm; omega⟩, ⟨hb4, fun hm => by have := hft _ hm; omega⟩⟩
  generalize w.heap.size = g4 at *
  generalize w2.heap.size = g6 at *
  refine draw_all (fun w' => Upd [] w4 w') (by decide +kernel) (Upd.refl [] w4).drew ?_
  refine rq (.agg (planC X.c)) (fun w' hw' => ldw (S4.upd0 hw').b6.b rfl ⟨rfl, rfl⟩) ?_
  refine q_cl (.int .i64 X.c.slots) (fun w' hw' => (pslots_c X.c w').mono fun _ _ ⟨u, he, h1, h2⟩ => ⟨u, he, h1, hw'.trans h2⟩) ?_
  refine rq (.agg (planC X.c)) (fun w' hw' => ldw (S4.upd0 hw').b6.b rfl ⟨rfl, rfl⟩) ?_
  refine q_cl (.agg (cf7 X.c)) (fun w' hw' => (conf_c2 X.c w').mono fun _ _ ⟨u, he, h1, h2⟩ => ⟨u, he, h1, hw'.trans h2⟩) ?_
  refine rq (.int .i64 X.c.T) (fun w' hw' => fl (by cases X.c; rfl) ⟨rfl, rfl⟩) ?_
  refine q_ar64 (by omega) ?_
  intro w5 hu5
  have S5 := S4.upd0 hu5
  refine fa ?_
  refine ld (v := .int .i64 f.pc) (S5.rd.fr 1 (by omega)) ?_
  unfold hzScan
  rw [hcc]
  by_cases c0 : f.pc = 0
  · refine cY c0 ?_
    refine ldb S5.b4.b rfl ?_
    refine fa ?_
    have hblk5 := (S5.I.p.ok.core S5.I.i).blk
    refine st hblk5 (by show 9 < 10; omega) rfl fun w6 hb6 hu6 hs6 => ?_
    have S6 := S5.ov (O' := []) (Sl.nil_ _ _ _) ⟨(Upd.refl [] w5).mono (by simp), fun k hk => by simp [Value.ownBlock] at hk⟩ hb6 hu6
    have hc1 : f.pc < X.c.slots * X.c.T := by
      have := Int.mul_le_mul hsl.1 hsl.2.2.1 (by omega) (by omega)
      omega
    rw [if_pos hc1, if_pos c0]
    have hg6 : Good { X with ths := X.ths.set i { t with ov := .slice none 0 0, O := [] } } b := hg.of (kin_set X hi rfl) (abs_set X i _) (hg.ok.put _ _)
    refine fa ?_
    refine ld (v := .int .i64 f.pc) (S6.rd.fr 1 (by omega)) ?_
    refine cY hc1 ?_
    refine draw_mix 26 [(0, true), (1, true), (2, true), (3, true), (4, true), (5, true), (6, true), (7, true), (8, true), (9, true), (10, true), (11, true), (14, true), (15, true), (16, true), (17, true), (18, true), (12, false), (13, true), (19, false), (20, true), (21, false), (22, false), (23, true), (24, false), (25, false)] (fun w' => SR w' ({ t with ov := .slice none 0 0, O := [] } : Th) (({ t with ov := .slice none 0 0, O := [] } : Th)).ov f fb (fo + fs.length * 12) g4 g6 X.c) (by decide +kernel) ((S6).upd0 (Upd.refl [] _).drew).rd ?_
    refine q_ld (v := ptrV t.g) (fun w' hw' => hw'.b4.cell 0) ?_
    refine q_ld (v := ptrV t.g) (fun w' hw' => hw'.b4.cell 0) ?_
    refine q_fa ?_
    refine q_ld (v := (({ t with ov := .slice none 0 0, O := [] } : Th)).ov) (fun w' hw' => hw'.ov) ?_
    refine rq (.agg (planC X.c)) (fun w' hw' => ldw hw'.b6 rfl ⟨rfl, rfl⟩) ?_
    refine q_fa ?_
    refine q_ld (v := .int .i64 f.pc) (fun w' hw' => hw'.fr 1 (by omega)) ?_
    refine rq (.agg (planC X.c)) (fun w' hw' => ldw hw'.b6 rfl ⟨rfl, rfl⟩) ?_
    refine q_fa ?_
    refine q_ld (v := .int .i64 f.pc) (fun w' hw' => hw'.fr 1 (by omega)) ?_
    refine rq (.agg (planC X.c)) (fun w' hw' => ldw hw'.b6 rfl ⟨rfl, rfl⟩) ?_
    have S6 := (S6).upd0 (Upd.refl [] _).drew
    refine cl (pslots_c X.c _) ?_
    rintro _ w7 ⟨rfl, hu7⟩
    have S7 := S6.upd0 hu7
    refine ⟨S7.rd, ?_⟩
    refine rq (.int .i64 (f.pc.tdiv X.c.slots)) (fun _ _ => qu (by omega) (ar64 (by
      have h1 := Int.tdiv_nonneg hpc.1 (show 0 ≤ X.c.slots by omega)
      have h2 := Int.tdiv_le_self X.c.slots hpc.1
      omega) ⟨rfl, rfl⟩)) ?_
    refine cl (pslots_c X.c _) ?_
    rintro _ w8 ⟨rfl, hu8⟩
    have S8 := S7.upd0 hu8
    refine ⟨S8.rd, ?_⟩
    refine rq (.int .i64 (f.pc.tmod X.c.slots)) (fun _ _ => rm (by omega) (val _ rfl ⟨rfl, rfl⟩)) ?_
    refine cl (haz_c hr _ _ w8) ?_
    rintro _ w9 ⟨rfl, hu9⟩
    have S9 := S8.upd0 hu9
    refine ⟨S9.rd, ?_⟩
    refine cl (load_p S9.I.p.ok hg6 (by omega) (X.abs.slotV f.pc)) ?_
    rintro _ w10 ⟨rfl, X10, p10, k10, a10, s10⟩
    have S10 := S9.mem p10 k10 s10
    refine ⟨S10.rd, ?_⟩
    refine rq (.int .i64 (toI ((({ X with ths := X.ths.set i { t with ov := .slice none 0 0, O := [] } } : Mc)).abs.ldv (X.abs.slotV f.pc)))) (fun _ _ => cv (val _ rfl ⟨rfl, rfl⟩)) ?_
    refine bs #[.int .i64 (toI ((({ X with ths := X.ths.set i { t with ov := .slice none 0 0, O := [] } } : Mc)).abs.ldv (X.abs.slotV f.pc)))] (fun _ => by kernel_rfl) fun w11 hb11 hu11 hs11 => ?_
    have S11 := S10.upd0 hu11
    refine ⟨S11.rd, ?_⟩
    refine apg (S11.I.p.ok.ov_ S11.I.i) hb11 rfl rfl (by decide) (by simp only [maxLen]; first | omega | (simp; done)) (by first | omega | (simp; done)) fun ov' w12 hs12 hG12 => ?_
    obtain ⟨r12, hblk12⟩ := S11.grow hG12.up
    refine ⟨r12, ?_⟩
    obtain ⟨oa, oc, rfl, -⟩ := hs12.form
    refine fa ?_
    refine st hblk12 (by show 9 < 10; omega) rfl fun w13 hb13 hu13 hs13 => ?_
    have S13 := S11.ov (O' := (({ t with ov := .slice none 0 0, O := [] } : Th)).O ++ [toI ((({ X with ths := X.ths.set i { t with ov := .slice none 0 0, O := [] } } : Mc)).abs.ldv (X.abs.slotV f.pc))]) (by rw [List.length_append, List.map_append]; exact hs12) (Upd.own hG12) hb13 hu13
    refine fa ?_
    refine ld (v := .int .i64 f.pc) (S13.I.at_ 1 (by omega)) ?_
    refine ar64 (by omega) ?_
    refine fa ?_
    refine S13.I.st (f' := { f with pc := f.pc + 1 }) 1 (by omega) rfl rfl (frC_pc f (f.pc + 1)) fun w14 I14 => ?_
    have e14 := I14.ev
    rw [abs_set, abs_set, put_put, a10, abs_set, put_load, put_put] at e14
    exact e14
  refine cN c0 ?_
  rw [if_neg c0]
  refine fa ?_
  refine ld (v := .int .i64 f.pc) (S5.rd.fr 1 (by omega)) ?_
  by_cases c1 : f.pc < X.c.slots * X.c.T
  · refine cY c1 ?_
    rw [if_pos c1]
    refine draw_mix 26 [(0, true), (1, true), (2, true), (3, true), (4, true), (5, true), (6, true), (7, true), (8, true), (9, true), (10, true), (11, true), (14, true), (15, true), (16, true), (17, true), (18, true), (12, false), (13, true), (19, false), (20, true), (21, false), (22, false), (23, true), (24, false), (25, false)] (fun w' => SR w' t (t).ov f fb (fo + fs.length * 12) g4 g6 X.c) (by decide +kernel) ((S5).upd0 (Upd.refl [] _).drew).rd ?_
    refine q_ld (v := ptrV t.g) (fun w' hw' => hw'.b4.cell 0) ?_
    refine q_ld (v := ptrV t.g) (fun w' hw' => hw'.b4.cell 0) ?_
    refine q_fa ?_
    refine q_ld (v := (t).ov) (fun w' hw' => hw'.ov) ?_
    refine rq (.agg (planC X.c)) (fun w' hw' => ldw hw'.b6 rfl ⟨rfl, rfl⟩) ?_
    refine q_fa ?_
    refine q_ld (v := .int .i64 f.pc) (fun w' hw' => hw'.fr 1 (by omega)) ?_
    refine rq (.agg (planC X.c)) (fun w' hw' => ldw hw'.b6 rfl ⟨rfl, rfl⟩) ?_
    refine q_fa ?_
    refine q_ld (v := .int .i64 f.pc) (fun w' hw' => hw'.fr 1 (by omega)) ?_
    refine rq (.agg (planC X.c)) (fun w' hw' => ldw hw'.b6 rfl ⟨rfl, rfl⟩) ?_
    have S6 := (S5).upd0 (Upd.refl [] _).drew
    refine cl (pslots_c X.c _) ?_
    rintro _ w7 ⟨rfl, hu7⟩
    have S7 := S6.upd0 hu7
    refine ⟨S7.rd, ?_⟩
    refine rq (.int .i64 (f.pc.tdiv X.c.slots)) (fun _ _ => qu (by omega) (ar64 (by
      have h1 := Int.tdiv_nonneg hpc.1 (show 0 ≤ X.c.slots by omega)
      have h2 := Int.tdiv_le_self X.c.slots hpc.1
      omega) ⟨rfl, rfl⟩)) ?_
    refine cl (pslots_c X.c _) ?_
    rintro _ w8 ⟨rfl, hu8⟩
    have S8 := S7.upd0 hu8
    refine ⟨S8.rd, ?_⟩
    refine rq (.int .i64 (f.pc.tmod X.c.slots)) (fun _ _ => rm (by omega) (val _ rfl ⟨rfl, rfl⟩)) ?_
    refine cl (haz_c hr _ _ w8) ?_
    rintro _ w9 ⟨rfl, hu9⟩
    have S9 := S8.upd0 hu9
    refine ⟨S9.rd, ?_⟩
    refine cl (load_p S9.I.p.ok hg (by omega) (X.abs.slotV f.pc)) ?_
    rintro _ w10 ⟨rfl, X10, p10, k10, a10, s10⟩
    have S10 := S9.mem p10 k10 s10
    refine ⟨S10.rd, ?_⟩
    refine rq (.int .i64 (toI ((X).abs.ldv (X.abs.slotV f.pc)))) (fun _ _ => cv (val _ rfl ⟨rfl, rfl⟩)) ?_
    refine bs #[.int .i64 (toI ((X).abs.ldv (X.abs.slotV f.pc)))] (fun _ => by kernel_rfl) fun w11 hb11 hu11 hs11 => ?_
    have S11 := S10.upd0 hu11
    refine ⟨S11.rd, ?_⟩
    refine apg (S11.I.p.ok.ov_ S11.I.i) hb11 rfl rfl (by decide) (by simp only [maxLen]; first | omega | (simp; done)) (by first | omega | (simp; done)) fun ov' w12 hs12 hG12 => ?_
    obtain ⟨r12, hblk12⟩ := S11.grow hG12.up
    refine ⟨r12, ?_⟩
    obtain ⟨oa, oc, rfl, -⟩ := hs12.form
    refine fa ?_
    refine st hblk12 (by show 9 < 10; omega) rfl fun w13 hb13 hu13 hs13 => ?_
    have S13 := S11.ov (O' := (t).O ++ [toI ((X).abs.ldv (X.abs.slotV f.pc))]) (by rw [List.length_append, List.map_append]; exact hs12) (Upd.own hG12) hb13 hu13
    refine fa ?_
    refine ld (v := .int .i64 f.pc) (S13.I.at_ 1 (by omega)) ?_
    refine ar64 (by omega) ?_
    refine fa ?_
    refine S13.I.st (f' := { f with pc := f.pc + 1 }) 1 (by omega) rfl rfl (frC_pc f (f.pc + 1)) fun w14 I14 => ?_
    have e14 := I14.ev
    rw [abs_set, abs_set, put_put, a10] at e14
    exact e14
  refine cN c1 ?_
  rw [if_neg c1]
  refine fa ?_
  refine ld (v := .int .i64 f.pc) (S5.rd.fr 1 (by omega)) ?_
  by_cases c2 : f.pc = X.c.slots * X.c.T
  · refine cY c2 ?_
    rw [if_pos c2]
    refine ldb S5.b4.b rfl ?_
    refine fa ?_
    refine cl (list_cell (pi := 8) (v := t.rv) ((S5.I.p.ok.core S5.I.i).blk.cell 8) (S5.I.p.ok.rv_ S5.I.i) (by omega)) ?_
    rintro lv w6 ⟨hs6, hu6⟩
    have S6 := S5.upd0 hu6
    obtain ⟨la, lc, hlv, -⟩ := hs6.form
    rw [hlv]
    refine len_sl ?_
    rw [← hlv]
    have hlt6 : ∀ k ∈ X.feet, k < w6.heap.size := fun k hk => Sep.lt S6.I.p.ok k hk
    refine loop_rule [0, 1, 2, 4, 6, 7, 8, 80, 81] [9, 82] (fun vs w' m => ∃ (j : Nat) (out : Value), vs = [out, .int .i64 (j : Int)] ∧ j ≤ t.R.length ∧ m = t.R.length - j ∧ Sl w' 3 1 out ((t.R.take j).filter fun y => !hasI t.O y).length (((t.R.take j).filter fun y => !hasI t.O y).map (.int .i64)) ∧ (∀ k ∈ out.ownBlock.toList, w6.heap.size ≤ k) ∧ Upd [] w6 w') rfl [.slice none 0 0, .int .i64 0] t.R.length rfl ⟨0, _, rfl, by omega, rfl, Sl.nil_ _ _ _, by simp [Value.ownBlock], Upd.refl _ _⟩ ?_
    rintro _ w7 m ⟨j, out, rfl, hj, rfl, hso, hfo, hu7⟩
    have S7 := S6.upd0 hu7
    refine cd (fun hlt => ?_) (fun hlt => ?_)
    · have hlt : j < t.R.length := by omega
      have hs7 := hs6.upd hu7 (by simp)
      obtain ⟨lb, lo, lc2, hlv2, -⟩ := hs7.some_ (by omega)
      rw [hlv2]
      refine ix j rfl hlt ?_
      refine ld (v := .int .i64 (t.R.getD j 0)) (hs7.getD_ hlv2 j hlt) ?_
      refine cl (stays_fn S7.b4.b (S7.I.p.ok.core S7.I.i).blk rfl (S7.I.p.ok.ov_ S7.I.i) (t.R.getD j 0)) ?_
      rintro _ w7 ⟨rfl, rfl⟩
      rw [← hlv2]
      have htk := getD_take t.R j hlt
      cases hh : hasI t.O (t.R.getD j 0) with
      | true =>
        have hsm : (t.R.take (j + 1)).filter (fun y => !hasI t.O y) = (t.R.take j).filter fun y => !hasI t.O y := by
          rw [htk, List.filter_append, List.filter_cons_of_neg (by show ¬ (!hasI t.O (t.R.getD j 0)) = true; rw [hh]; decide), List.filter_nil, List.append_nil]
        refine ar64 (by omega) ?_
        exact round_mk [_, .int .i64 ((j + 1 : Nat) : Int)] (t.R.length - (j + 1)) rfl rfl ⟨j + 1, out, rfl, by omega, rfl, by rw [hsm]; exact hso, hfo, hu7⟩ (by omega)
      | false =>
        have hsm : (t.R.take (j + 1)).filter (fun y => !hasI t.O y) = ((t.R.take j).filter fun y => !hasI t.O y) ++ [t.R.getD j 0] := by
          rw [htk, List.filter_append, List.filter_cons_of_pos (by show (!hasI t.O (t.R.getD j 0)) = true; rw [hh]; decide), List.filter_nil]
        refine bs #[.int .i64 (t.R.getD j 0)] (fun _ => by kernel_rfl) fun w8 hb8 hu8 hs8 => ?_
        have hfl : ((t.R.take j).filter fun y => !hasI t.O y).length ≤ 90000 := by
          have := List.length_filter_le (fun y : Int => !hasI t.O y) (t.R.take j)
          rw [List.length_take] at this
          omega
        refine apg (hso.upd hu8 (by simp)) hb8 rfl rfl (by decide) (by simp only [maxLen]; omega) (by omega) fun out' w9 hs9 hG9 => ?_
        have hz := hu7.size; have hz8 := hu8.size
        refine ar64 (by omega) ?_
        exact round_mk [_, .int .i64 ((j + 1 : Nat) : Int)] (t.R.length - (j + 1)) rfl rfl ⟨j + 1, out', rfl, by omega, rfl, (by rw [hsm, List.length_append, List.map_append]; exact hs9), (fun k hk => by
          rcases hG9.own k (by simpa using hk) with h1 | h1
          · exact hfo k (by simpa using h1)
          · omega), (hu7.trans hu8).step hG9.up (fun k hk => .inr (hfo k hk))⟩ (by omega)
    have hj : j = t.R.length := by omega
    subst hj
    rw [List.take_length] at hso
    generalize hOut : (t.R.filter fun y => !hasI t.O y) = Out at *
    have hz7 := hu7.size
    refine ldb S7.b4.b rfl ?_
    refine fa ?_
    have hblk7 := (S7.I.p.ok.core S7.I.i).blk
    have hB : (obEv [obBlk g4 25 #[ptrV t.g], obBlk t.g TT (thrC (i : Int) t.fv t.r t.pv t.sv t.wv t.rv t.ov), obI t.ov t.O]).ok w7 := fun x hx => by
      simp only [List.mem_cons, List.not_mem_nil, or_false] at hx
      rcases hx with rfl | rfl | rfl
      · exact S7.b4.b
      · exact hblk7
      · exact S7.I.p.ok.ov_ S7.I.i
    refine cl (keep_c (pi := 8) (p := hasI t.O) hblk7 rfl (S7.I.p.ok.rv_ S7.I.i) (by omega) (by decide) (stays_k (tg := t.g) (v := t.ov) rfl t.R) hB) ?_
    rintro _ w8 ⟨rv', rfl, hb8, hs8, hu8, hf8⟩
    have hgt : t.g ∈ X.feet := feet_thr hi _ List.mem_cons_self
    have h7f : ∀ k ∈ X.feet, k < w7.heap.size := fun k hk => Sep.lt S7.I.p.ok k hk
    have hg4w : g4 < w7.heap.size := S7.b4.b.lt
    have hg6w : g6 < w7.heap.size := S7.b6.b.lt
    have hfr8 : (obCore (i : Int) { t with rv := rv', R := t.R.filter (hasI t.O) }).ok w8 := by
      refine ⟨hb8, ?_⟩
      have hc := S7.I.p.ok.core S7.I.i
      have hnb := hc.fr.blk_ne hc.blk (by decide)
      exact hc.fr.upd hu8 (fun g hg => by simp; intro e; subst e; exact hnb hg)
    have S8 := S7.setF (t' := { t with rv := rv', R := t.R.filter (hasI t.O) }) (y := obI rv' (t.R.filter (hasI t.O))) (j := 4) (by decide) rfl hfr8 rfl rfl hu8 hs8 (by decide) rfl (fun k hk => by
      have h1 := hf8 k (by simpa [obSl] using hk)
      have h2 := S7.I.p.to.up.size
      exact ⟨fun hm => by have := h7f k hm; omega, by omega, by omega, by omega⟩)
    have hso8 := hso.upd hu8 (fun g hg => by
      have := hfo g (by simp [hg])
      simp; intro e; subst e
      have := hlt6 _ hgt; omega)
    have m8 := (S7.I.p.ok.setF S7.I.i (t' := { t with rv := rv', R := t.R.filter (hasI t.O) }) (y := obI rv' (t.R.filter (hasI t.O))) (j := 4) (by decide) rfl hfr8 rfl hu8 hs8 (by decide) rfl (fun k hk hm => by
      have h1 := hf8 k (by simpa [obSl] using hk)
      have := h7f k hm; omega)).2.1
    refine ldb S8.b4.b rfl ?_
    obtain ⟨ua, uc, rfl, -⟩ := hso8.form
    have hblk8 := (S8.I.p.ok.core S8.I.i).blk
    refine fa ?_
    refine st hblk8 (by show 9 < 10; omega) rfl fun w9 hb9 hu9 hs9 => ?_
    have hfr9 : (obCore (i : Int) ({ t with rv := rv', R := t.R.filter (hasI t.O), ov := .slice ua Out.length uc, O := Out } : Th)).ok w9 := by
      refine ⟨hb9, ?_⟩
      have hc := S8.I.p.ok.core S8.I.i
      have hnb := hc.fr.blk_ne hc.blk (by decide)
      exact hc.fr.upd hu9 (fun g hg => by simp; intro e; subst e; exact hnb hg)
    have S9 := S8.setF (t' := ({ t with rv := rv', R := t.R.filter (hasI t.O), ov := .slice ua Out.length uc, O := Out } : Th)) (y := obI (.slice ua Out.length uc) Out) (j := 5) (by decide) rfl hfr9 rfl rfl hu9 (hso8.upd hu9 (fun g hg => by
      have := hfo g (by simp [hg])
      simp; intro e; subst e
      have := hlt6 _ hgt; omega)) (by decide) rfl (fun k hk => by
      have h1 := hfo k (by simpa [obSl] using hk)
      have h2 := hso.lt k (by simpa [obSl] using hk)
      have h3 := S6.b4.b.lt
      have h4 := S6.b6.b.lt
      have h5 := S6.I.p.to.up.size
      refine ⟨fun hm => ?_, by omega, by omega, by omega⟩
      rcases m8 k hm with h6 | h6
      · have := hlt6 k h6; omega
      · have := hf8 k (by simpa [obSl] using h6); omega)
    refine fa ?_
    refine ld (v := .int .i64 f.pc) (S9.rd.fr 1 (by omega)) ?_
    refine ar64 (by omega) ?_
    refine fa ?_
    refine S9.st (f' := { f with pc := f.pc + 1 }) 1 (by omega) rfl rfl (frC_pc f (f.pc + 1)) fun w10 S10 => ?_
    have a10 : Mc.abs ({ X with ths := ((X.ths.set i ({ t with rv := rv', R := t.R.filter (hasI t.O) } : Th)).set i ({ t with rv := rv', R := t.R.filter (hasI t.O), ov := .slice ua Out.length uc, O := Out } : Th)).set i ({ t with rv := rv', R := t.R.filter (hasI t.O), ov := .slice ua Out.length uc, O := Out, fs := fs ++ [{ f with pc := f.pc + 1 }] } : Th) } : Mc) = X.abs.put i (absT ({ t with rv := rv', R := t.R.filter (hasI t.O), ov := .slice ua Out.length uc, O := Out, fs := fs ++ [{ f with pc := f.pc + 1 }] } : Th)) := by
      have := abs_set ({ X with ths := (X.ths.set i ({ t with rv := rv', R := t.R.filter (hasI t.O) } : Th)).set i ({ t with rv := rv', R := t.R.filter (hasI t.O), ov := .slice ua Out.length uc, O := Out } : Th) } : Mc) i ({ t with rv := rv', R := t.R.filter (hasI t.O), ov := .slice ua Out.length uc, O := Out, fs := fs ++ [{ f with pc := f.pc + 1 }] } : Th)
      refine this.trans ?_
      have := abs_set ({ X with ths := X.ths.set i ({ t with rv := rv', R := t.R.filter (hasI t.O) } : Th) } : Mc) i ({ t with rv := rv', R := t.R.filter (hasI t.O), ov := .slice ua Out.length uc, O := Out } : Th)
      rw [show Mc.abs ({ X with ths := (X.ths.set i ({ t with rv := rv', R := t.R.filter (hasI t.O) } : Th)).set i ({ t with rv := rv', R := t.R.filter (hasI t.O), ov := .slice ua Out.length uc, O := Out } : Th) } : Mc) = (Mc.abs ({ X with ths := X.ths.set i ({ t with rv := rv', R := t.R.filter (hasI t.O) } : Th) } : Mc)).put i (absT ({ t with rv := rv', R := t.R.filter (hasI t.O), ov := .slice ua Out.length uc, O := Out } : Th)) from this, show Mc.abs ({ X with ths := X.ths.set i ({ t with rv := rv', R := t.R.filter (hasI t.O) } : Th) } : Mc) = X.abs.put i (absT ({ t with rv := rv', R := t.R.filter (hasI t.O) } : Th)) from abs_set X i ({ t with rv := rv', R := t.R.filter (hasI t.O) } : Th), put_put, put_put]
    have hOl10 : Out.length ≤ 90000 := by
      rw [← hOut]
      have := List.length_filter_le (fun y : Int => !hasI t.O y) t.R
      omega
    have hsE : ∀ (Q : List Int), scEnd X.abs i { absT t with R := (absT t).R.filter (hasI (absT t).O) } fs { f with pc := f.pc + 1 } Q = scEnd X.abs i (absT ({ t with rv := rv', R := t.R.filter (hasI t.O), ov := .slice ua Out.length uc, O := Out, fs := fs ++ [{ f with pc := f.pc + 1 }] } : Th)) fs { f with pc := f.pc + 1 } Q := fun Q => by
      cases Q <;> rfl
    have hOutE : ((absT t).R.filter fun y => !hasI (absT t).O y) = Out := hOut
    rw [hOutE, hsE]
    have hblkF := ((S10).I.p.ok.core (S10).I.i).blk
    have hslF := (S10).I.p.ok.ov_ (S10).I.i
    refine ldb (S10).b4.b rfl ?_
    refine fa ?_
    refine ld (v := (({ t with rv := rv', R := t.R.filter (hasI t.O), ov := .slice ua Out.length uc, O := Out, fs := fs ++ [{ f with pc := f.pc + 1 }] } : Th)).ov) ((S10).rd.ov) ?_
    obtain ⟨oa, oc, hov, -⟩ := hslF.form
    rw [hov]
    refine len_sl ?_
    cases hO : (({ t with rv := rv', R := t.R.filter (hasI t.O), ov := .slice ua Out.length uc, O := Out, fs := fs ++ [{ f with pc := f.pc + 1 }] } : Th)).O with
    | nil =>
      refine ldb (S10).b4.b rfl ?_
      refine cl ((S10).I.pop (l := []) (by omega) (fun w' _ => RdK.nil_ w' .u64)) ?_
      rintro _ wz e
      exact (show Ev w X wz (scEnd X.abs i (absT ({ t with rv := rv', R := t.R.filter (hasI t.O), ov := .slice ua Out.length uc, O := Out, fs := fs ++ [{ f with pc := f.pc + 1 }] } : Th)) fs { f with pc := f.pc + 1 } (absT ({ t with rv := rv', R := t.R.filter (hasI t.O), ov := .slice ua Out.length uc, O := Out, fs := fs ++ [{ f with pc := f.pc + 1 }] } : Th)).O) by rw [scEnd_nil (t := absT ({ t with rv := rv', R := t.R.filter (hasI t.O), ov := .slice ua Out.length uc, O := Out, fs := fs ++ [{ f with pc := f.pc + 1 }] } : Th)) hO]; rw [a10, put_put] at e; exact e)
    | cons n O' =>
      rw [hO] at hslF hov
      rw [← hov]
      refine ldb (S10).b4.b rfl ?_
      refine fa ?_
      refine ld (v := (({ t with rv := rv', R := t.R.filter (hasI t.O), ov := .slice ua Out.length uc, O := Out, fs := fs ++ [{ f with pc := f.pc + 1 }] } : Th)).ov) ((S10).rd.ov) ?_
      obtain ⟨ob, oo, oc2, hov2, hoc2⟩ := hslF.some_ (by simp)
      rw [hov2]
      refine ix 0 rfl (by simp) ?_
      refine ld (v := .int .i64 n) (hslF.getD_ hov2 0 (by simp)) ?_
      rw [← hov2]
      have SD := (S10).upd0 (Upd.refl [] _).drew
      obtain ⟨hsl1, hown1⟩ := tail_sl (by rw [← hov2]; exact hslF.drew) hoc2
      refine draw_tail 6 (by decide +kernel) ?_
      refine q_ld (v := ptrV t.g) (by rintro _ rfl; exact SD.b4.b.cell 0) ?_
      refine q_ld (v := ptrV t.g) (by rintro _ rfl; exact SD.b4.b.cell 0) ?_
      refine q_fa ?_
      refine q_ld (v := (({ t with rv := rv', R := t.R.filter (hasI t.O), ov := .slice ua Out.length uc, O := Out, fs := fs ++ [{ f with pc := f.pc + 1 }] } : Th)).ov) (by rintro _ rfl; exact SD.rd.ov) ?_
      rw [hov2]
      refine rq (.slice (if oc2 = 1 then some ⟨ob, oo, none⟩ else (some ⟨ob, oo, none⟩ : Option Addr).map (·.add (1 * 1))) ((n :: O').length - 1) (oc2 - 1)) (fun _ _ => sl_lo 1 rfl (by simp) ⟨rfl, rfl⟩) ?_
      refine fa ?_
      refine st (SD.I.p.ok.core SD.I.i).blk (by show 9 < 10; omega) rfl fun wy hby huy hsy => ?_
      have SE := SD.ov (O' := O') hsl1 ⟨(Upd.refl [] _).mono (by simp), fun k hk => .inl (by
        rw [hown1] at hk
        rw [hov2]; exact hk)⟩ hby huy
      refine ldb SE.b4.b rfl ?_
      refine cv ?_
      refine val (IntKind.u64.wrap n) rfl ?_
      refine bs #[.int .u64 (IntKind.u64.wrap n)] (fun _ => by kernel_rfl) fun wx hbx hux hsx => ?_
      have SF := SE.upd0 hux
      have hps := push_mm SF.I.p.ok SF.I.i (by rw [SF.I.f]; simp; omega) (one_rd hbx) (by simp) 2
      refine cl hps ?_
      rintro _ wv ⟨fvv, pv⟩
      have kv := kin_set _ (t' := { (({ t with rv := rv', R := t.R.filter (hasI t.O), ov := .slice ua Out.length uc, O := Out, fs := fs ++ [{ f with pc := f.pc + 1 }] } : Th)) with ov := (.slice (if oc2 = 1 then some ⟨ob, oo, none⟩ else (some ⟨ob, oo, none⟩ : Option Addr).map (·.add (1 * 1))) ((n :: O').length - 1) (oc2 - 1)), O := O', fv := fvv, fs := (({ t with rv := rv', R := t.R.filter (hasI t.O), ov := .slice ua Out.length uc, O := Out, fs := fs ++ [{ f with pc := f.pc + 1 }] } : Th)).fs ++ [⟨2, 0, [IntKind.u64.wrap n]⟩] }) SF.I.i rfl
      refine ⟨_, SF.I.p.trans pv, SF.I.k.trans kv, ?_⟩
      rw [abs_set, abs_set, abs_set, abs_set, abs_set, put_put, put_put, put_put, put_put]; exact (scEnd_cons (t := absT ({ t with rv := rv', R := t.R.filter (hasI t.O), ov := .slice ua Out.length uc, O := Out, fs := fs ++ [{ f with pc := f.pc + 1 }] } : Th)) hO rfl).symm
  refine cN c2 ?_
  rw [if_neg c2]
  have hblkF := ((S5).I.p.ok.core (S5).I.i).blk
  have hslF := (S5).I.p.ok.ov_ (S5).I.i
  refine ldb (S5).b4.b rfl ?_
  refine fa ?_
  refine ld (v := (t).ov) ((S5).rd.ov) ?_
  obtain ⟨oa, oc, hov, -⟩ := hslF.form
  rw [hov]
  refine len_sl ?_
  cases hO : (t).O with
  | nil =>
    refine ldb (S5).b4.b rfl ?_
    refine cl ((S5).I.pop (l := []) (by omega) (fun w' _ => RdK.nil_ w' .u64)) ?_
    rintro _ wz e
    exact (show Ev w X wz (scEnd X.abs i (absT t) fs f (absT t).O) by rw [scEnd_nil (t := absT t) hO]; exact e)
  | cons n O' =>
    rw [hO] at hslF hov
    rw [← hov]
    refine ldb (S5).b4.b rfl ?_
    refine fa ?_
    refine ld (v := (t).ov) ((S5).rd.ov) ?_
    obtain ⟨ob, oo, oc2, hov2, hoc2⟩ := hslF.some_ (by simp)
    rw [hov2]
    refine ix 0 rfl (by simp) ?_
    refine ld (v := .int .i64 n) (hslF.getD_ hov2 0 (by simp)) ?_
    rw [← hov2]
    have SD := (S5).upd0 (Upd.refl [] _).drew
    obtain ⟨hsl1, hown1⟩ := tail_sl (by rw [← hov2]; exact hslF.drew) hoc2
    refine draw_tail 6 (by decide +kernel) ?_
    refine q_ld (v := ptrV t.g) (by rintro _ rfl; exact SD.b4.b.cell 0) ?_
    refine q_ld (v := ptrV t.g) (by rintro _ rfl; exact SD.b4.b.cell 0) ?_
    refine q_fa ?_
    refine q_ld (v := (t).ov) (by rintro _ rfl; exact SD.rd.ov) ?_
    rw [hov2]
    refine rq (.slice (if oc2 = 1 then some ⟨ob, oo, none⟩ else (some ⟨ob, oo, none⟩ : Option Addr).map (·.add (1 * 1))) ((n :: O').length - 1) (oc2 - 1)) (fun _ _ => sl_lo 1 rfl (by simp) ⟨rfl, rfl⟩) ?_
    refine fa ?_
    refine st (SD.I.p.ok.core SD.I.i).blk (by show 9 < 10; omega) rfl fun wy hby huy hsy => ?_
    have SE := SD.ov (O' := O') hsl1 ⟨(Upd.refl [] _).mono (by simp), fun k hk => .inl (by
      rw [hown1] at hk
      rw [hov2]; exact hk)⟩ hby huy
    refine ldb SE.b4.b rfl ?_
    refine cv ?_
    refine val (IntKind.u64.wrap n) rfl ?_
    refine bs #[.int .u64 (IntKind.u64.wrap n)] (fun _ => by kernel_rfl) fun wx hbx hux hsx => ?_
    have SF := SE.upd0 hux
    have hps := push_mm SF.I.p.ok SF.I.i (by rw [SF.I.f]; simp; omega) (one_rd hbx) (by simp) 2
    refine cl hps ?_
    rintro _ wv ⟨fvv, pv⟩
    have kv := kin_set _ (t' := { (t) with ov := (.slice (if oc2 = 1 then some ⟨ob, oo, none⟩ else (some ⟨ob, oo, none⟩ : Option Addr).map (·.add (1 * 1))) ((n :: O').length - 1) (oc2 - 1)), O := O', fv := fvv, fs := (t).fs ++ [⟨2, 0, [IntKind.u64.wrap n]⟩] }) SF.I.i rfl
    refine ⟨_, SF.I.p.trans pv, SF.I.k.trans kv, ?_⟩
    rw [abs_set, abs_set, put_put]; exact (scEnd_cons (t := absT t) hO hfs).symm
end
end Go.Proofs.Ytdomclcokkijjaa

/- Contracts: hazard.Do; a step with it; a routine done alone. -/
namespace Go.Proofs.Ytdomclcokkijjaa
open Go.RowKit
attribute [local irreducible] Instr.loadAt Instr.storeAt Instr.fieldAt Instr.indexAt Instr.sliceAt Instr.buildSlice Instr.box Instr.alloc Builtin.append_ Builtin.len_ Builtin.min_ Builtin.max_ Calls Instr.build Instr.makeSlice binSem convert Instr.index Instr.range Instr.next
def hzDo (p : PS) (i : Nat) (t : PT) (fs : List Fr) (f : Fr) : PS :=
  if f.fn = 3 then hzProtect p i t fs f else if f.fn = 4 then hzWipe p i t fs f else if f.fn = 5 then hzRetire p i t fs f else if f.fn = 6 then hzScan p i t fs f else arDo p i t fs f
section
variable {w w' : World} {X : Mc} {b : Int} {i : Nat} {t : Th} {fs : List Fr} {f : Fr} {fb fo fc : Nat}
set_option maxRecDepth 10000 in
theorem hzdo_p (h : Mach w X) (hg : Good X b) (hb : b ≤ 900000) (hi : X.ths[i]? = some t) (hfs : t.fs = fs ++ [f]) (hl : fs.length ≤ 90000) (hR : ∀ j, u64R (f.R.getD j 0)) (hpc : 0 ≤ f.pc ∧ f.pc ≤ 100000) (hRl : t.R.length ≤ 90000) (hOl : t.O.length ≤ 90000) :
    Fn Try.prog 62 #[ptrV X.m, ptrV t.g] w fun _ w' => Ev w X w' (hzDo X.abs i (absT t) fs f) := by
  obtain ⟨fb, fo, fc, hfv⟩ := h.fr_ hi (by rw [hfs]; simp)
  refine fn_enter Try.func62 rfl rfl ?_
  refine cl (top_mm h hi hfs (by omega) hfv) ?_
  rintro _ _ ⟨rfl, rfl⟩
  have p1 : Post w X w.drew X := .of0 h (Upd.refl [] w).drew
  have I1 : TopI w w.drew X X i t fs f fb fo fc := ⟨p1, .refl X, hi, hfs, hfv⟩
  refine ptr_eq ?_
  refine ptr_eq ?_
  unfold hzDo
  refine fa ?_
  refine ld (v := .int .i64 f.fn) (I1.at_ 0 (by omega)) ?_
  by_cases c3 : f.fn = 3
  · rw [if_pos c3]
    refine cY c3 ?_
    refine cl (protect_p p1.ok hg hb hi hfs hl hfv hR) ?_
    rintro _ w2 e
    exact Ev.before p1 (.refl X) e
  rw [if_neg c3]
  refine cN c3 ?_
  refine fa ?_
  refine ld (v := .int .i64 f.fn) (I1.at_ 0 (by omega)) ?_
  by_cases c4 : f.fn = 4
  · rw [if_pos c4]
    refine cY c4 ?_
    refine cl (wipe_p p1.ok hg hb hpc.1 hi hfs hl hfv) ?_
    rintro _ w2 e
    exact Ev.before p1 (.refl X) e
  rw [if_neg c4]
  refine cN c4 ?_
  refine fa ?_
  refine ld (v := .int .i64 f.fn) (I1.at_ 0 (by omega)) ?_
  by_cases c5 : f.fn = 5
  · rw [if_pos c5]
    refine cY c5 ?_
    refine cl (retire_p p1.ok hg hi hfs hl hRl hfv hR) ?_
    rintro _ w2 e
    exact Ev.before p1 (.refl X) e
  rw [if_neg c5]
  refine cN c5 ?_
  refine fa ?_
  refine ld (v := .int .i64 f.fn) (I1.at_ 0 (by omega)) ?_
  by_cases c6 : f.fn = 6
  · rw [if_pos c6]
    refine cY c6 ?_
    refine cl (scan_p p1.ok hg hb hpc hi hfs hl hRl hOl hfv) ?_
    rintro _ w2 e
    exact Ev.before p1 (.refl X) e
  rw [if_neg c6]
  refine cN c6 ?_
  refine cl (do_p p1.ok hg hb hi hfs hl hR) ?_
  rintro _ w2 e
  exact Ev.before p1 (.refl X) e
/-- the rounds of one step of thread i -/
def Rnd (i : Nat) : Nat → PS → PS → Prop
  | 0, p, q => p = q ∧ (q.acted = true ∨ topL q i = 0) ∧ topL q i ≤ 90000
  | n + 1, p, q => p.acted = false ∧ ∃ t fs f, p.ths[i]? = some t ∧ t.fs = fs ++ [f] ∧ fs.length ≤ 90000 ∧ (∀ j, u64R (f.R.getD j 0)) ∧ (0 ≤ f.pc ∧ f.pc ≤ 100000) ∧ t.R.length ≤ 90000 ∧ t.O.length ≤ 90000 ∧ p.Ok 900000 ∧ Rnd i n (hzDo p i t fs f) q
theorem topL_at {p : PS} {i : Nat} {t : PT} (h : p.ths[i]? = some t) : topL p i = t.fs.length := by unfold topL; rw [h]
set_option maxRecDepth 10000 in
theorem step_hz (h : Mach w X) (hc : X.s.on = false ∧ X.s.L = []) (hX : X.ths.length ≤ 100) (hi : X.ths[i]? = some t) {n : Nat} {q : PS} (hr : Rnd i n (calm0 X.abs) q) :
    Fn Try.prog 47 #[ptrV X.m, .int .i64 (i : Int), .func (.func 62) #[] #[]] w fun r w' => r = .bool (decide (0 < topL q i)) ∧ Ev w X w' q := by
  refine (step_mm (f := 62) (ys := #[]) (fun Y w' n => Post w X w' Y ∧ Kin X Y ∧ Rnd i n Y.abs q) n h hi rfl hX (fun w' p => ⟨p, ⟨rfl, rfl, rfl, rfl, id⟩, hr⟩) ?_ ?_).mono ?_
  · rintro Y w' n ⟨p, k, r⟩
    obtain ⟨t2, h2, hg2⟩ := k.g hi
    refine ⟨p.ok, k.m, t2, h2, hg2, ?_⟩
    have h3 := abs_th Y h2
    cases n with
    | zero =>
      obtain ⟨rfl, -, hl⟩ := r
      rw [topL_at h3] at hl
      have : (absT t2).fs = t2.fs := rfl
      rw [this] at hl; omega
    | succ n =>
      obtain ⟨-, t3, fs, f, e1, e2, e3, -⟩ := r
      rw [h3] at e1
      have e1 := Option.some.inj e1
      have : t2.fs = fs ++ [f] := by rw [← e2, ← e1]; rfl
      rw [this]; simp; omega
  · rintro Y w' n t2 ⟨p, k, r⟩ h2 hac hne
    have h3 := abs_th Y h2
    cases n with
    | zero =>
      exfalso
      obtain ⟨rfl, hor, hl⟩ := r
      rcases hor with h4 | h4
      · rw [show Y.abs.acted = Y.acted from rfl, hac] at h4; cases h4
      · rw [topL_at h3] at h4
        exact hne (List.length_eq_zero_iff.1 h4)
    | succ n =>
      obtain ⟨-, t3, fs, f, e1, e2, e3, e4, e5, e6, e7, e8, r⟩ := r
      rw [h3] at e1
      obtain rfl := Option.some.inj e1
      have hg : Good Y 900000 := ⟨e8, k.calm hc⟩
      obtain ⟨t2', h2', hg2⟩ := k.g hi
      rw [h2] at h2'
      obtain rfl := Option.some.inj h2'
      have := hzdo_p p.ok hg (by omega) h2 e2 e3 e4 e5 e6 e7
      rw [show (#[] ++ [ptrV X.m, ptrV t.g].toArray ++ #[] : Array Value) = #[ptrV Y.m, ptrV t2.g] by rw [k.m, hg2]; simp]
      refine this.mono ?_
      rintro e w2 ⟨u, he, X2, p2, k2, a2⟩
      exact ⟨u, he, X2, n, ⟨p.trans p2, k.trans k2, by rw [a2]; exact r⟩, by omega⟩
  · rintro e w' ⟨r, he, Y, n, t2, ⟨p, k, rr⟩, h2, hor, rfl⟩
    have h3 := abs_th Y h2
    have hz : Y.abs = q := by
      cases n with
      | zero => exact rr.1
      | succ n =>
        exfalso
        obtain ⟨hac, t3, fs, f, e1, e2, -⟩ := rr
        rcases hor with h4 | h4
        · rw [show Y.abs.acted = Y.acted from rfl, h4] at hac; cases hac
        · rw [h3] at e1
          have e1 := Option.some.inj e1
          have : t2.fs = fs ++ [f] := by rw [← e2, ← e1]; rfl
          rw [h4] at this; simp at this
    refine ⟨_, he, ?_, Y, p, k, hz⟩
    rw [hz] at h3
    rw [topL_at h3]
    exact congrArg Value.bool (by
      show decide ((t2.fs.length : Int) > 0) = decide (0 < t2.fs.length)
      exact decide_eq_decide.2 (by omega))
/-- a routine of thread i, done alone -/
def RunH (i : Nat) : Nat → PS → PS → Prop
  | 0, _, _ => False
  | n + 1, p, q => ∃ m p', Rnd i m (calm0 p) p' ∧ ((topL p' i = 0 ∧ p' = q) ∨ (0 < topL p' i ∧ RunH i n p' q))
def pushH (p : PS) (i : Nat) (fn : Int) (l : List Int) : PS := match p.ths[i]? with | some t => p.put i { t with fs := t.fs ++ [⟨fn, 0, l⟩] } | none => p
set_option maxRecDepth 10000 in
theorem alone18_c {q : PS} (h : Mach w X) (hc : X.s.on = false ∧ X.s.L = []) (hT : X.ths.length ≤ 100) (ht : X.ths[i]? = some t) (hfs : t.fs = []) (n : Nat) (hn : n ≤ 2900) (fn : Int) {v : Value} {l : List Int} (hv : RdK w .u64 v l) (hl : l.length ≤ 100000) (hr : RunH i n (pushH X.abs i fn l) q) :
    Fn Try.prog 60 #[ptrV X.m, .int .i64 (i : Int), .int .i64 fn, v] w fun r w' => r = .bool true ∧ Ev w X w' q := by
  obtain ⟨va, vc, rfl, -⟩ := hv.form
  refine fn_enter Try.func60 rfl rfl ?_
  refine cl (thread_mm (i := i) h ht hT) ?_
  rintro _ w ⟨rfl, rfl⟩
  refine cl (push_mm h ht (by rw [hfs]; simp) hv hl fn) ?_
  rintro _ w2 ⟨fv, p2⟩
  have k2 := kin_set X (t' := { t with fv := fv, fs := t.fs ++ [⟨fn, 0, l⟩] }) ht rfl
  have a2 : ({ X with ths := X.ths.set i { t with fv := fv, fs := t.fs ++ [⟨fn, 0, l⟩] } } : Mc).abs = pushH X.abs i fn l := by
    rw [abs_set]; unfold pushH; rw [abs_th X ht]; rfl
  generalize hY : ({ X with ths := X.ths.set i { t with fv := fv, fs := t.fs ++ [⟨fn, 0, l⟩] } } : Mc) = Y at *
  refine loop_rule [0, 1] [9] (fun vs w' m => ∃ (j : Int) (n : Nat) (p : PS), vs = [.int .i64 j] ∧ Ev w X w' p ∧ RunH i n p q ∧ (0 ≤ j ∧ (n : Int) + j ≤ 2900) ∧ m = n) rfl [.int .i64 0] n rfl ⟨0, n, _, rfl, ⟨Y, p2, k2, a2⟩, hr, by omega, rfl⟩ ?_
  rintro _ w3 m ⟨j, m, p, rfl, ⟨Z, p3, k3, a3⟩, hrun, hmj, rfl⟩
  cases m with
  | zero => exact hrun.elim
  | succ m =>
    obtain ⟨mm, p', hrd, hor⟩ := hrun
    obtain ⟨tz, hz, hzg⟩ := k3.g ht
    rw [← a3] at hrd
    have hst := step_hz p3.ok (k3.calm hc) (by rw [k3.len]; exact hT) hz hrd
    rw [show Z.m = X.m from k3.m] at hst
    refine cY (show j < 3000 by omega) ?_
    refine cl hst ?_
    rintro _ w4 ⟨rfl, e4⟩
    have e4' : Ev w X w4 p' := Ev.before p3 k3 e4
    rcases hor with ⟨h0, rfl⟩ | ⟨h1, hrun⟩
    · rw [h0]
      exact ⟨rfl, e4'⟩
    · rw [show decide (0 < topL p' i) = true from decide_eq_true h1]
      refine ar64 (by omega) ?_
      exact round_mk [.int .i64 (j + 1)] m rfl rfl ⟨j + 1, m, _, rfl, e4', hrun, by omega, rfl⟩ (by omega)
end
end Go.Proofs.Ytdomclcokkijjaa

/- Rounds that are computed. -/
namespace Go.Proofs.Ytdomclcokkijjaa
open Go.RowKit
attribute [local irreducible] Instr.loadAt Instr.storeAt Instr.fieldAt Instr.indexAt Instr.sliceAt Instr.buildSlice Instr.box Instr.alloc Builtin.append_ Builtin.len_ Builtin.min_ Builtin.max_ Calls Instr.build Instr.makeSlice binSem convert Instr.index Instr.range Instr.next
def okR (f : Fr) : Bool := f.R.all fun x => decide (0 ≤ x) && decide (x ≤ 18446744073709551615)
def okPB (p : PS) : Bool := decide (rightC p.c) && decide (p.tagl.length ≤ 64) && decide (0 ≤ p.k) && decide (p.k ≤ 900000) && (p.W.all fun x => decide (0 ≤ x) && decide (x ≤ 18446744073709551615)) && decide (p.W.length = (sizeP p.c.A p.c.T p.c.N p.c.L).toNat)
theorem okPB_ok {p : PS} (h : okPB p = true) : p.Ok 900000 := by
  unfold okPB at h
  simp only [Bool.and_eq_true, decide_eq_true_eq, List.all_eq_true] at h
  obtain ⟨⟨⟨⟨⟨h1, h2⟩, h3⟩, h4⟩, h5⟩, h6⟩ := h
  exact ⟨h1, h2, h3, h4, fun x hx => h5 x hx, h6⟩
theorem okR_ok {f : Fr} (h : okR f = true) (j : Nat) : u64R (f.R.getD j 0) := by
  unfold okR at h
  simp only [Bool.and_eq_true, decide_eq_true_eq, List.all_eq_true] at h
  exact u64_getD (fun x hx => h x hx) j
def exR (i : Nat) : Nat → PS → Option PS
  | 0, _ => none
  | n + 1, p => if p.acted = true ∨ topL p i = 0 then (if topL p i ≤ 90000 then some p else none) else
    match p.ths[i]? with
    | none => none
    | some t => match t.fs.getLast? with
      | none => none
      | some f => if (okR f && okPB p) = true ∧ t.fs.dropLast.length ≤ 90000 ∧ (0 ≤ f.pc ∧ f.pc ≤ 100000) ∧ t.R.length ≤ 90000 ∧ t.O.length ≤ 90000 then exR i n (hzDo p i t t.fs.dropLast f) else none
theorem exR_sound (i : Nat) : ∀ (n : Nat) (p q : PS), exR i n p = some q → ∃ m, Rnd i m p q
  | 0, _, _, h => by cases h
  | n + 1, p, q, h => by
    unfold exR at h
    split at h
    · rename_i h1
      split at h
      · rename_i h2
        cases h
        exact ⟨0, rfl, h1, h2⟩
      · cases h
    · rename_i h1
      split at h
      · cases h
      · rename_i t ht
        split at h
        · cases h
        · rename_i f hf
          split at h
          · rename_i hc
            obtain ⟨ha, hb, hd, he, hg⟩ := hc
            rw [Bool.and_eq_true] at ha
            obtain ⟨m, hm⟩ := exR_sound i n _ _ h
            refine ⟨m + 1, ?_, t, t.fs.dropLast, f, ht, ?_, hb, okR_ok ha.1, hd, he, hg, okPB_ok ha.2, hm⟩
            · cases hac : p.acted with
              | false => rfl
              | true => exact absurd (.inl hac) h1
            · obtain ⟨hne, hl⟩ := List.getLast?_eq_some_iff.1 hf
              rw [hl]; simp
          · cases h
def exH (i : Nat) : Nat → PS → Option PS
  | 0, _ => none
  | n + 1, p => match exR i 200 (calm0 p) with
    | none => none
    | some p' => if topL p' i = 0 then some p' else exH i n p'
theorem exH_sound (i : Nat) : ∀ (n : Nat) (p q : PS), exH i n p = some q → RunH i n p q ∧ topL q i = 0
  | 0, _, _, h => by cases h
  | n + 1, p, q, h => by
    unfold exH at h
    split at h
    · cases h
    · rename_i p' hp
      obtain ⟨m, hm⟩ := exR_sound i _ _ _ hp
      split at h
      · rename_i h0
        cases h
        exact ⟨⟨m, _, hm, .inl ⟨h0, rfl⟩⟩, h0⟩
      · rename_i h0
        obtain ⟨h1, h2⟩ := exH_sound i n _ _ h
        exact ⟨⟨m, _, hm, .inr ⟨by omega, h1⟩⟩, h2⟩
end Go.Proofs.Ytdomclcokkijjaa

/- Stores and loads of the law's own; lives of chapter 18. -/
namespace Go.Proofs.Ytdomclcokkijjaa
open Go.RowKit
attribute [local irreducible] Instr.loadAt Instr.storeAt Instr.fieldAt Instr.indexAt Instr.sliceAt Instr.buildSlice Instr.box Instr.alloc Builtin.append_ Builtin.len_ Builtin.min_ Builtin.max_ Calls Instr.build Instr.makeSlice binSem convert Instr.index Instr.range Instr.next
def PS.poke (p : PS) (a x : Int) : PS := if p.okP a then { p with W := p.W.set a.toNat x, k := p.k + 1 } else p
def PS.peek (p : PS) (a : Int) : PS := if p.okP a then { p with k := p.k + 1 } else p
def P18 : PS := ⟨⟨0, 1, 2, 1, 1, 1, 1⟩, (layS 0 1 2 1 (newMS (sizeP 0 1 2 1).toNat)).W, (layS 0 1 2 1 (newMS (sizeP 0 1 2 1).toNat)).k, some (liveL 2 0, 0, 0), false, false, [⟨[], (0, 0, 0), [0], [0], [0], [], []⟩]⟩
def unO (x : Option PS) : PS := match x with | some p => p | none => P18
def Q1 : PS := unO (exH 0 10 (pushH P18 0 1 []))
def Q2 : PS := Q1.poke 9 1
def Q3 : PS := unO (exH 0 20 (pushH Q2 0 5 [1]))
def Q4 : PS := unO (exH 0 20 (pushH Q3 0 4 []))
def Q5 : PS := unO (exH 0 20 (pushH Q4 0 6 []))
theorem some_unO {x : Option PS} (h : x.isSome = true) : x = some (unO x) := by
  cases x with
  | none => cases h
  | some p => rfl
theorem r1 : exH 0 10 (pushH P18 0 1 []) = some Q1 := some_unO (by decide +kernel)
theorem r3 : exH 0 20 (pushH Q2 0 5 [1]) = some Q3 := some_unO (by decide +kernel)
theorem r4 : exH 0 20 (pushH Q3 0 4 []) = some Q4 := some_unO (by decide +kernel)
theorem r5 : exH 0 20 (pushH Q4 0 6 []) = some Q5 := some_unO (by decide +kernel)
theorem g3 : Q3.gh = some ([2, 0], 0, 0) ∧ (Q3.ths[0]?.map (·.R)) = some [1] := by decide +kernel
theorem g5 : Q5.gh = some ([0, 0], 0, 0) ∧ Q5.bad = false := by decide +kernel
section
variable {w w' w'' : World} {X : Mc} {p q : PS}
theorem poke_p (h : Mach w X) (hc : X.s.on = false ∧ X.s.L = []) (hk : 0 ≤ X.s.k ∧ X.s.k ≤ 1000000) (a x : Int) : Fn Try.prog 58 #[ptrV X.mp, .int .i64 a, .int .u64 x] w fun _ w' => EvM w X w' (X.abs.poke a x) := by
  have hroom : Roomy X.s := ⟨hk.1, by omega, by rw [hc.2]; decide⟩
  refine (store_c h.mem hroom a x).mono ?_
  rintro e w2 ⟨u, he, h1, h2⟩
  by_cases ho : okA X.s a
  · obtain ⟨-, hp⟩ := h1 ho
    obtain ⟨lv, p⟩ := h.memPost hp
    refine ⟨u, he, _, p, ⟨rfl, rfl, rfl, rfl, fun hc => ⟨hc.1, by show (if X.s.on then _ else X.s.L) = []; rw [hc.1]; exact hc.2⟩⟩, ?_, rfl⟩
    unfold PS.poke
    rw [if_pos ((okA_abs X a).1 ho)]; rfl
  · obtain ⟨-, hp⟩ := h2 ho
    obtain ⟨lv, p⟩ := h.memPost hp
    refine ⟨u, he, _, p, ⟨rfl, rfl, rfl, rfl, id⟩, ?_, rfl⟩
    unfold PS.poke
    rw [if_neg (fun h => ho ((okA_abs X a).2 h))]; rfl
theorem peek_p (h : Mach w X) (hc : X.s.on = false ∧ X.s.L = []) (hk : 0 ≤ X.s.k ∧ X.s.k ≤ 1000000) (a : Int) (ha : X.abs.okP a) : Fn Try.prog 61 #[ptrV X.mp, .int .i64 a] w fun r w' => r = .tuple #[.int .u64 (X.abs.rd a), .int .i64 0] ∧ EvM w X w' (X.abs.peek a) := by
  have hroom : Roomy X.s := ⟨hk.1, by omega, by rw [hc.2]; decide⟩
  refine (load_c h.mem hroom a).mono ?_
  rintro e w2 ⟨u, he, h1, h2⟩
  obtain ⟨hr, hp⟩ := h1 ((okA_abs X a).2 ha)
  obtain ⟨lv, p⟩ := h.memPost hp
  refine ⟨u, he, hr, _, p, ⟨rfl, rfl, rfl, rfl, fun hc => ⟨hc.1, by show (if X.s.on then _ else X.s.L) = []; rw [hc.1]; exact hc.2⟩⟩, ?_, rfl⟩
  unfold PS.peek
  rw [if_pos ha]; rfl
/-- a machine of the call's own, and what it holds -/
structure Hz (w w' : World) (X : Mc) (p : PS) : Prop where
  new : New w w' X
  a : X.abs = p
  calm : X.s.on = false ∧ X.s.L = []
  tl : X.ths.length ≤ 100
theorem Hz.upd0 (h : Hz w w' X p) (hu : Upd [] w' w'') : Hz w w'' X p := ⟨⟨h.new.ok.upd0 hu, h.new.up.trans hu, h.new.fr⟩, h.a, h.calm, h.tl⟩
theorem Hz.to (h : Hz w w' X p) (e : Ev w' X w'' q) : ∃ Y, Hz w w'' Y q ∧ Y.m = X.m := by
  obtain ⟨Y, p, k, a⟩ := e
  exact ⟨Y, ⟨h.new.post p, a, k.calm h.calm, by rw [k.len]; exact h.tl⟩, k.m⟩
theorem Hz.th (h : Hz w w' X p) {i : Nat} {t : PT} (hi : p.ths[i]? = some t) : ∃ t', X.ths[i]? = some t' ∧ absT t' = t := by
  have h1 : (X.ths.map absT)[i]? = some t := by
    have : X.abs.ths[i]? = some t := by rw [h.a]; exact hi
    exact this
  rw [List.getElem?_map] at h1
  cases h3 : X.ths[i]? with
  | none => rw [h3] at h1; cases h1
  | some t' => rw [h3] at h1; exact ⟨t', rfl, Option.some.inj h1⟩
theorem Hz.th0 (h : Hz w w' X p) {i : Nat} (hi : i < p.ths.length) (h0 : topL p i = 0) : ∃ t', X.ths[i]? = some t' ∧ t'.fs = [] := by
  have h1 : p.ths[i]? = some (p.ths[i]'hi) := List.getElem?_eq_getElem _
  obtain ⟨t', h2, h3⟩ := h.th h1
  rw [topL_at h1, ← h3] at h0
  exact ⟨t', h2, List.length_eq_zero_iff.1 h0⟩
theorem Hz.alone (h : Hz w w' X p) {i : Nat} (hi : i < p.ths.length) (h0 : topL p i = 0) {n : Nat} (hn : n ≤ 2900) {fn : Int} {v : Value} {l : List Int} (hv : RdK w' .u64 v l) (hl : l.length ≤ 100000) (hr : RunH i n (pushH p i fn l) q) :
    Fn Try.prog 60 #[ptrV X.m, .int .i64 (i : Int), .int .i64 fn, v] w' fun r w'' => r = .bool true ∧ ∃ Y, Hz w w'' Y q ∧ Y.m = X.m := by
  obtain ⟨t, ht, hf⟩ := h.th0 hi h0
  rw [← h.a] at hr
  refine (alone18_c h.new.ok h.calm h.tl ht hf n hn fn hv hl hr).mono ?_
  rintro e w2 ⟨r, he, hr, hev⟩
  exact ⟨r, he, hr, h.to hev⟩
theorem Hz.ghost (h : Hz w w' X p) {tg : List Int} {a b : Int} (hg : p.gh = some (tg, a, b)) : ∃ gp v, gvOf X.gs = ptrV gp ∧ IsG w' gp v tg a b := by
  have h1 : X.gs.map absG = some (tg, a, b) := by rw [← hg, ← h.a]; rfl
  have h2 := h.new.ok.gh
  cases hz : X.gs with
  | none => rw [hz] at h1; cases h1
  | some g =>
    rw [hz] at h1 h2
    have h3 : absG g = (tg, a, b) := Option.some.inj h1
    have e1 : g.tags = tg := congrArg (fun x => x.1) h3
    have e2 : g.k = a := congrArg (fun x => x.2.1) h3
    have e3 : g.n = b := congrArg (fun x => x.2.2) h3
    refine ⟨g.p, g.v, rfl, ?_⟩
    rw [← e1, ← e2, ← e3]; exact h2
end
set_option maxRecDepth 10000 in
theorem lives18 (w : World) : Fn Try.prog 56 #[] w fun r w' => r = .bool true ∧ Upd [] w w' := by
  refine fn_enter Try.func56 rfl rfl ?_
  refine bd (cf7 ⟨0, 1, 2, 1, 1, 1, 1⟩) (fun _ => by kernel_rfl) ?_
  refine cl (core_new2 (draws := []) true (RdK.nil_ w .u8) (by decide)) ?_
  rintro r w1 ⟨-, hy⟩
  obtain ⟨m, mp, mv, lv, fp, fv, gs, tv, ths, rfl, I, hT, hths, -, hgs⟩ := hy (by decide)
  obtain ⟨gp, gv, rfl⟩ := hgs rfl
  obtain ⟨t0, rfl⟩ : ∃ t0, ths = [t0] := by
    match ths, hT with
    | [t0], _ => exact ⟨t0, rfl⟩
    | [], h => simp at h
    | _ :: _ :: _, h => simp at h; omega
  obtain ⟨g0, pv0, sv0, wv0, rfl⟩ := hths t0 (by simp)
  have hq := layS_q (A := 0) (T := 1) (N := 2) (L := 1) (B := 1) (P := 1) (S := 1) (by decide)
  have H : Hz w w1 _ P18 := ⟨I, rfl, ⟨hq.on, hq.L⟩, by show 1 ≤ 100; omega⟩
  generalize hX : mc0 m ⟨0, 1, 2, 1, 1, 1, 1⟩ mp mv lv (layS 0 1 2 1 (newMS (sizeP 0 1 2 1).toNat)) (some ⟨gp, gv, liveL (2 : Int).toNat (sentP 0).toNat, 0, 0⟩) fp fv [] tv [thZ g0 pv0 sv0 wv0 (1 : Int).toNat] = X at *
  have hm : X.m = m := by rw [← hX]; rfl
  rw [← hm]
  refine ptr_eq ?_
  obtain ⟨R1, T1⟩ := exH_sound 0 10 _ _ r1
  refine cl (H.alone (i := 0) (by decide) (by decide) (by omega) (RdK.nil_ w1 .u64) (by decide) R1) ?_
  rintro _ w2 ⟨rfl, X1, H1, m1⟩
  rw [← m1]
  refine cl (mem_mm H1.new.ok) ?_
  rintro _ w2 ⟨rfl, rfl⟩
  refine cl (plan_mm H1.new.ok) ?_
  rintro _ w3 ⟨rfl, hu3⟩
  have hc1 : X1.c = Q1.c := congrArg PS.c H1.a
  rw [hc1]
  refine cl (haz_c (by decide +kernel) 0 1 w3) ?_
  rintro _ w4 ⟨rfl, hu4⟩
  have H1' := (H1.upd0 hu3).upd0 hu4
  have hk1 : 0 ≤ X1.s.k ∧ X1.s.k ≤ 1000000 := by
    have : X1.s.k = Q1.k := congrArg PS.k H1.a
    rw [this]; decide +kernel
  refine cl (poke_p H1'.new.ok H1.calm hk1 _ 1) ?_
  rintro _ w5 hev
  obtain ⟨X2, H2, m2⟩ := H1'.to hev.ev
  rw [H1.a, show Q1.c.haz 0 1 = 9 by decide +kernel] at H2
  have H2 : Hz w w5 X2 Q2 := H2
  rw [← m2]
  refine bs #[.int .u64 1] (fun _ => by kernel_rfl) fun w6 hb6 hu6 hs6 => ?_
  have H2' := H2.upd0 hu6
  obtain ⟨R3, T3⟩ := exH_sound 0 20 _ _ r3
  refine cl (H2'.alone (i := 0) (by decide +kernel) (by decide +kernel) (by omega) (one_rd hb6) (by decide) R3) ?_
  rintro _ w7 ⟨rfl, X3, H3, m3⟩
  rw [← m3]
  obtain ⟨gp3, gv3, hg3, hG3⟩ := H3.ghost g3.1
  refine cl (ghost_mm H3.new.ok) ?_
  rintro _ w7 ⟨rfl, rfl⟩
  rw [hg3]
  refine cl (tag_c hG3 (by decide) 1) ?_
  rintro _ w7 ⟨rfl, rfl⟩
  obtain ⟨t3, ht3, ha3⟩ : ∃ t3, X3.ths[0]? = some t3 ∧ t3.R = [1] := by
    have h1 := g3.2
    cases h2 : Q3.ths[0]? with
    | none => rw [h2] at h1; cases h1
    | some t =>
      rw [h2] at h1
      obtain ⟨t', h3, h4⟩ := H3.th h2
      refine ⟨t', h3, ?_⟩
      have h5 : t.R = [1] := Option.some.inj h1
      rw [← h5, ← h4]; rfl
  refine cl (thread_mm (i := 0) H3.new.ok ht3 H3.tl) ?_
  rintro _ w7 ⟨rfl, rfl⟩
  refine fa ?_
  obtain ⟨ra, rc, hrv, -⟩ := (H3.new.ok.rv_ ht3).form
  have hcell : w7.cell? ⟨t3.g, 8, none⟩ = some (.slice ra t3.R.length rc) := by
    have := (H3.new.ok.core ht3).blk.cell 8
    rw [this, ← hrv]; rfl
  rw [ha3] at hcell
  refine cl (len_p hcell) ?_
  rintro _ w7 ⟨rfl, rfl⟩
  obtain ⟨R4, T4⟩ := exH_sound 0 20 _ _ r4
  refine cl (H3.alone (i := 0) (by decide +kernel) T3 (by omega) (RdK.nil_ w7 .u64) (by decide) R4) ?_
  rintro _ w8 ⟨rfl, X4, H4, m4⟩
  rw [← m4]
  obtain ⟨R5, T5⟩ := exH_sound 0 20 _ _ r5
  refine cl (H4.alone (i := 0) (by decide +kernel) T4 (by omega) (RdK.nil_ w8 .u64) (by decide) R5) ?_
  rintro _ w9 ⟨rfl, X5, H5, m5⟩
  rw [← m5]
  obtain ⟨gp5, gv5, hg5, hG5⟩ := H5.ghost g5.1
  refine cl (ghost_mm H5.new.ok) ?_
  rintro _ w9 ⟨rfl, rfl⟩
  rw [hg5]
  refine cl (tag_c hG5 (by decide) 1) ?_
  rintro _ w9 ⟨rfl, rfl⟩
  have hflt := fault_mm H5.new.ok
  have hb5 : X5.bad = false := by
    have := congrArg PS.bad H5.a
    exact this.trans g5.2
  have hf5 : faultG X5.gs = false := by
    have h1 : X5.gs.map absG = some ([0, 0], 0, 0) := by rw [← g5.1, ← H5.a]; rfl
    cases hz : X5.gs with
    | none => rfl
    | some g =>
      rw [hz] at h1
      have h3 : absG g = _ := Option.some.inj h1
      have h4 : g.k = 0 := congrArg (fun x => x.2.1) h3
      have h5 : g.n = 0 := congrArg (fun x => x.2.2) h3
      show decide (¬ (g.k = 0 ∧ g.n = 0)) = false
      exact decide_eq_false (fun h => h ⟨h4, h5⟩)
  rw [hb5, hf5] at hflt
  refine cl hflt ?_
  rintro _ w10 ⟨rfl, hu10⟩
  exact ⟨rfl, H5.new.up.trans hu10⟩
end Go.Proofs.Ytdomclcokkijjaa

/- The law HazardProtects. -/
namespace Go.Proofs.Ytdomclcokkijjaa
open Go.RowKit
attribute [local irreducible] Instr.loadAt Instr.storeAt Instr.fieldAt Instr.indexAt Instr.sliceAt Instr.buildSlice Instr.box Instr.alloc Builtin.append_ Builtin.len_ Builtin.min_ Builtin.max_ Calls Instr.build Instr.makeSlice binSem convert Instr.index Instr.range Instr.next
theorem haz_at {c : Cf} (hr : rightC c) {i k : Int} (hi : 0 ≤ i ∧ i < c.T) (hk : 0 ≤ k ∧ k < c.slots) : (c.where_ (c.haz i k)).1 ≠ 3 ∧ 8 ≤ c.haz i k ∧ c.haz i k < sizeP c.A c.T c.N c.L ∧ c.haz i k = 8 + i * c.slots + k := by
  obtain ⟨A, T, N, L, B, P, S⟩ := c
  obtain ⟨b1, b2, b3, b4, b5, b6, b7, b8, b9, b10, b11, b12⟩ := plan_bd hr
  have hi : 0 ≤ i ∧ i < T := hi
  have hk : 0 ≤ k ∧ k < slotsP A L := hk
  have e : Cf.haz ⟨A, T, N, L, B, P, S⟩ i k = 8 + i * slotsP A L + k := by
    show (if (0 ≤ i ∧ i ≤ T - 1) ∧ 0 ≤ k ∧ k ≤ slotsP A L - 1 then 8 + i * slotsP A L + k else -1) = _
    rw [if_pos (by omega)]
  have h1 : i * slotsP A L + slotsP A L ≤ T * slotsP A L := by
    have := Int.mul_le_mul_of_nonneg_right (show i + 1 ≤ T by omega) (show 0 ≤ slotsP A L by omega)
    rw [Int.add_mul] at this; omega
  have h0 : 0 ≤ i * slotsP A L := Int.mul_nonneg hi.1 (by omega)
  have hlk : linksP A T L = 8 + T * slotsP A L := rfl
  rw [e]
  refine ⟨?_, by omega, (by omega : 8 + i * slotsP A L + k < sizeP A T N L), rfl⟩
  unfold Cf.where_ whereP
  simp only
  rw [if_neg (by omega), if_neg (by omega), if_pos (by omega)]
  show (1 : Int) ≠ 3
  decide
theorem where_g {c : Cf} (hr : rightC c) {a : Int} (ha : 0 ≤ a ∧ a < 8) : (c.where_ a).1 ≠ 3 := by
  have hz := size_bd hr
  unfold Cf.where_ whereP
  rw [if_neg (by omega), if_pos (by omega)]
  show (0 : Int) ≠ 3
  decide
structure PrIn (p : PS) (t : PT) (slot place v : Int) : Prop where
  ok : p.Ok 800000
  th : p.ths[0]? = some t
  fs : t.fs = []
  R : t.R = []
  O : t.O = []
  sl : 0 ≤ slot ∧ slot < p.c.slots
  pl : 0 ≤ place ∧ place < 8
  v : p.W.getD place.toNat 0 = v
  g : ∃ tg, p.gh = some (tg, 0, 0) ∧ tg.length ≤ 64
theorem M_ok' {p : PS} {a : Bool} {k : Int} {W : List Int} {t : PT} {b b' : Int} (h : p.Ok b) (hk : 0 ≤ k ∧ k ≤ b') (hW : ∀ x ∈ W, u64R x) (hl : W.length = p.W.length) (hg : ∃ tg, p.gh = some (tg, 0, 0) ∧ tg.length ≤ 64) : (M p a k W p.gh t).Ok b' := by
  obtain ⟨tg, h1, h2⟩ := hg
  rw [h1]
  exact M_ok h hk hW hl h2 0 0
theorem prot_spec {p : PS} {t : PT} {slot place v : Int} (I : PrIn p t slot place v) (hT : 1 ≤ p.c.T) :
    (ptrW v = 0 → RunH 0 1 (pushH p 0 3 [slot, place]) (M p true (p.k + 1) p.W p.gh { t with fs := [], r := (v, 0, 0) })) ∧
    (ptrW v ≠ 0 → RunH 0 3 (pushH p 0 3 [slot, place]) (M p true (p.k + 3) (p.W.set (p.c.haz 0 slot).toNat (ptrW v)) p.gh { t with fs := [], r := (v, 0, 0) })) := by
  have hr := I.ok.r
  have hz := size_bd hr
  have hWl := I.ok.l
  have hk0 := I.ok.k0
  have hk1 := I.ok.k1
  obtain ⟨p1, p2⟩ := I.pl
  obtain ⟨s1, s2⟩ := I.sl
  obtain ⟨h1, h2, h3, h4⟩ := haz_at hr (i := 0) (k := slot) ⟨by omega, by omega⟩ ⟨s1, s2⟩
  have hsl : p.c.slots ≤ 14 := by
    generalize p.c = c at *
    obtain ⟨A, T, N, L, B, P, S⟩ := c
    exact (plan_bd hr).1.2
  have hwg := where_g hr (a := place) ⟨p1, p2⟩
  have hpl : 0 ≤ place ∧ place < p.W.length := by omega
  have hhz : 0 ≤ p.c.haz 0 slot ∧ p.c.haz 0 slot < p.W.length := by omega
  have hIs : toI slot = slot := toI_small (by omega)
  have hIp : toI place = place := toI_small (by omega)
  have hvu : u64R v := by rw [← I.v]; exact u64_getD I.ok.w _
  have e0 : pushH p 0 3 [slot, place] = M p p.acted p.k p.W p.gh { t with fs := [⟨3, 0, [slot, place]⟩] } := by
    unfold pushH
    rw [I.th]
    show p.put 0 { t with fs := t.fs ++ [⟨3, 0, [slot, place]⟩] } = _
    rw [I.fs]; rfl
  have hreg : ∀ j, u64R (([slot, place] : List Int).getD j 0)
    | 0 => (⟨by omega, by omega⟩ : u64R slot)
    | 1 => (⟨by omega, by omega⟩ : u64R place)
    | _ + 2 => (⟨by decide, by decide⟩ : u64R 0)
  have hRl : t.R.length ≤ 90000 := by rw [I.R]; decide
  have hOl : t.O.length ≤ 90000 := by rw [I.O]; decide
  rw [e0]
  -- the first step
  have d1 : ∀ a, hzDo (M p a p.k p.W p.gh { t with fs := [⟨3, 0, [slot, place]⟩] }) 0 { t with fs := [⟨3, 0, [slot, place]⟩] } [] ⟨3, 0, [slot, place]⟩ =
      if ptrW v = 0 then M p true (p.k + 1) p.W p.gh { t with fs := [], r := (v, 0, 0) } else M p true (p.k + 1) p.W p.gh { t with fs := [⟨3, 1, regI [slot, place] 2 v⟩] } := fun a => by
    unfold hzDo hzProtect
    rw [if_pos rfl, if_pos rfl]
    show (if ptrW ((M p a p.k p.W p.gh _).ldv (toI place)) = 0 then ((M p a p.k p.W p.gh _).load (toI place)).put 0 (popped _ [] ((M p a p.k p.W p.gh _).ldv (toI place))) else ((M p a p.k p.W p.gh _).load (toI place)).put 0 (topped _ [] ⟨3, 1, regI [slot, place] 2 ((M p a p.k p.W p.gh _).ldv (toI place))⟩)) = _
    rw [hIp, M_ldv hpl, M_load hpl hwg, M_put, M_put, I.v]; rfl
  refine ⟨fun hv0 => ?_, fun hv0 => ?_⟩
  · refine ⟨1, _, ⟨rfl, _, [], _, M_th I.th, rfl, by decide, hreg, (show (0 : Int) ≤ 0 ∧ (0 : Int) ≤ 100000 by decide), hRl, hOl, (show PS.Ok (M p false p.k p.W p.gh _) 900000 from M_ok' I.ok ⟨by omega, by omega⟩ I.ok.w rfl I.g), ?_⟩, .inl ⟨?_, rfl⟩⟩
    · rw [M_calm, d1, if_pos hv0]
      refine ⟨rfl, .inl rfl, ?_⟩
      rw [topL_at (M_th I.th)]; simp
    · rw [topL_at (M_th I.th)]; rfl
  · refine ⟨1, M p true (p.k + 1) p.W p.gh { t with fs := [⟨3, 1, regI [slot, place] 2 v⟩] }, ⟨rfl, _, [], _, M_th I.th, rfl, by decide, hreg, (show (0 : Int) ≤ 0 ∧ (0 : Int) ≤ 100000 by decide), hRl, hOl, (show PS.Ok (M p false p.k p.W p.gh _) 900000 from M_ok' I.ok ⟨by omega, by omega⟩ I.ok.w rfl I.g), ?_⟩, .inr ⟨?_, ?_⟩⟩
    · rw [M_calm, d1, if_neg hv0]
      refine ⟨rfl, .inl rfl, ?_⟩
      rw [topL_at (M_th I.th)]; simp
    · rw [topL_at (M_th I.th)]; simp
    have hreg2 := regs_I (k := 2) hreg hvu
    have g0 : (regI [slot, place] 2 v).getD 0 0 = slot := by rw [regI_at _ _ _ _ (by omega)]; rfl
    have g1 : (regI [slot, place] 2 v).getD 1 0 = place := by rw [regI_at _ _ _ _ (by omega)]; rfl
    have g2 : (regI [slot, place] 2 v).getD 2 0 = v := by rw [regI_at _ _ _ _ (by omega)]; rfl
    generalize regI [slot, place] 2 v = rg at *
    have hpb := ptrW_bd (x := v)
    have d2 : ∀ a, hzDo (M p a (p.k + 1) p.W p.gh { t with fs := [⟨3, 1, rg⟩] }) 0 { t with fs := [⟨3, 1, rg⟩] } [] ⟨3, 1, rg⟩ = M p true (p.k + 1 + 1) (p.W.set (p.c.haz 0 slot).toNat (ptrW v)) p.gh { t with fs := [⟨3, 2, rg⟩] } := fun a => by
      unfold hzDo hzProtect
      rw [if_pos rfl, if_neg (by show ¬ (1 : Int) = 0; decide), if_pos rfl]
      show ((M p a (p.k + 1) p.W p.gh _).store (p.c.haz 0 (toI (rg.getD 0 0))) (ptrW (rg.getD 2 0))).put 0 (topped _ [] ⟨3, 2, rg⟩) = _
      rw [g0, g2, hIs, M_store hhz h1, M_put]; rfl
    have hW2 : ∀ x ∈ p.W.set (p.c.haz 0 slot).toNat (ptrW v), u64R x := mem_set_ I.ok.w ⟨by omega, by omega⟩
    have hW2l : (p.W.set (p.c.haz 0 slot).toNat (ptrW v)).length = p.W.length := by simp
    have hW2v : (p.W.set (p.c.haz 0 slot).toNat (ptrW v)).getD place.toNat 0 = v := by rw [getD_set (by omega)]; exact I.v
    refine ⟨1, M p true (p.k + 1 + 1) (p.W.set (p.c.haz 0 slot).toNat (ptrW v)) p.gh { t with fs := [⟨3, 2, rg⟩] }, ⟨rfl, _, [], _, M_th I.th, rfl, by decide, hreg2, (show (0 : Int) ≤ 1 ∧ (1 : Int) ≤ 100000 by decide), hRl, hOl, (show PS.Ok (M p false (p.k + 1) p.W p.gh _) 900000 from M_ok' I.ok ⟨by omega, by omega⟩ I.ok.w rfl I.g), ?_⟩, .inr ⟨?_, ?_⟩⟩
    · rw [M_calm, d2]
      refine ⟨rfl, .inl rfl, ?_⟩
      rw [topL_at (M_th I.th)]; simp
    · rw [topL_at (M_th I.th)]; simp
    generalize p.W.set (p.c.haz 0 slot).toNat (ptrW v) = W2 at *
    have d3 : ∀ a, hzDo (M p a (p.k + 1 + 1) W2 p.gh { t with fs := [⟨3, 2, rg⟩] }) 0 { t with fs := [⟨3, 2, rg⟩] } [] ⟨3, 2, rg⟩ = M p true (p.k + 3) W2 p.gh { t with fs := [], r := (v, 0, 0) } := fun a => by
      unfold hzDo hzProtect
      rw [if_pos rfl, if_neg (by show ¬ (2 : Int) = 0; decide), if_neg (by show ¬ (2 : Int) = 1; decide)]
      show (if (M p a (p.k + 1 + 1) W2 p.gh _).ldv (toI (rg.getD 1 0)) = rg.getD 2 0 ∨ _ then ((M p a (p.k + 1 + 1) W2 p.gh _).load (toI (rg.getD 1 0))).put 0 (popped _ [] ((M p a (p.k + 1 + 1) W2 p.gh _).ldv (toI (rg.getD 1 0)))) else _) = _
      rw [g1, g2, hIp, M_ldv (by omega), hW2v, if_pos (.inl rfl), M_load (by omega) hwg, M_put]
      show M p true (p.k + 1 + 1 + 1) _ _ _ = M p true (p.k + 3) _ _ _
      rw [show p.k + 1 + 1 + 1 = p.k + 3 by omega]; rfl
    refine ⟨1, _, ⟨rfl, _, [], _, M_th I.th, rfl, by decide, hreg2, (show (0 : Int) ≤ 2 ∧ (2 : Int) ≤ 100000 by decide), hRl, hOl, (show PS.Ok (M p false (p.k + 1 + 1) W2 p.gh _) 900000 from M_ok' I.ok ⟨by omega, by omega⟩ hW2 hW2l I.g), ?_⟩, .inl ⟨?_, rfl⟩⟩
    · rw [M_calm, d3]
      refine ⟨rfl, .inl rfl, ?_⟩
      rw [topL_at (M_th I.th)]; simp
    · rw [topL_at (M_th I.th)]; rfl
end Go.Proofs.Ytdomclcokkijjaa

/- The law HazardProtects: its walk. -/
namespace Go.Proofs.Ytdomclcokkijjaa
open Go.RowKit
attribute [local irreducible] Instr.loadAt Instr.storeAt Instr.fieldAt Instr.indexAt Instr.sliceAt Instr.buildSlice Instr.box Instr.alloc Builtin.append_ Builtin.len_ Builtin.min_ Builtin.max_ Calls Instr.build Instr.makeSlice binSem convert Instr.index Instr.range Instr.next
theorem Ar.hz {w w' : World} {X : Mc} {l tg : List Int} {b : Int} (h : Ar w w' X l tg b) : Hz w w' X X.abs := ⟨h.new, rfl, h.calm, h.tl⟩
theorem Hz.k_ {w w' : World} {X : Mc} {p : PS} (h : Hz w w' X p) : X.s.k = p.k := congrArg PS.k h.a
theorem Hz.c_ {w w' : World} {X : Mc} {p : PS} (h : Hz w w' X p) : X.c = p.c := congrArg PS.c h.a
theorem Hz.blk {w w' w0 : World} {X : Mc} {p : PS} {g T : Nat} {cs : Array Value} (_h : Hz w w' X p) (hb : Blk w g T cs) (hu : Upd [] w w0) : Blk w0 g T cs := hb.upd hu (by simp)
theorem Hz.to2 {w w' w'' : World} {X : Mc} {p q : PS} (h : Hz w w' X p) (e : Ev w' X w'' q) : ∃ Y, Hz w w'' Y q ∧ Y.m = X.m := h.to e
theorem ar_new2 {A T N L B P S : Int} (hr : rightC ⟨A, T, N, L, B, P, S⟩) (w : World) : Fn Try.prog 20 #[.agg (cf7 ⟨A, T, N, L, B, P, S⟩), .slice none 0 0, .bool true] w fun r w' =>
    ∃ X, r = .tuple #[ptrV X.m, .int .i64 0] ∧ Ar w w' X (freeF N.toNat (N.toNat - (sentP A).toNat)) (liveL N.toNat (sentP A).toNat) 200 ∧ X.abs.c = ⟨A, T, N, L, B, P, S⟩ ∧ (X.ths.length : Int) = T ∧ (∀ t ∈ X.ths, t.fs = [] ∧ t.R = [] ∧ t.O = []) := by
  refine (core_new2 (draws := []) true (RdK.nil_ w .u8) (by decide)).mono ?_
  rintro e w1 ⟨r, he, -, hy⟩
  obtain ⟨m, mp, mv, lv, fp, fv, gs, tv, ths, hrt, I, hT, hths, -, hgs⟩ := hy hr
  obtain ⟨gp, gv, rfl⟩ := hgs rfl
  obtain ⟨b1, b2, b3, b4, b5, b6, -⟩ := plan_bd hr
  have hall : ∀ t ∈ ths, t.fs = [] ∧ t.R = [] ∧ t.O = [] := fun t ht => by
    obtain ⟨g, pv, sv, wv, rfl⟩ := hths t ht
    exact ⟨rfl, rfl, rfl⟩
  have h0 : ths[0]? = some (ths[0]'(by omega)) := List.getElem?_eq_getElem _
  have hq := layS_q hr
  refine ⟨r, he, _, hrt, ⟨I, rep0 hr h0 (hall _ (List.getElem_mem _)).1, ⟨hq.on, hq.L⟩, ?_⟩, rfl, hT, hall⟩
  show ths.length ≤ 100
  omega
set_option maxRecDepth 10000 in
set_option maxHeartbeats 2000000 in
theorem protects_law {w : World} {c : Cf} {v a0 a1 : Int} (hv : u64R v) (ha0 : -9223372036854775808 ≤ a0 ∧ a0 ≤ 9223372036854775807) (ha1 : -9223372036854775808 ≤ a1 ∧ a1 ≤ 9223372036854775807) : Fn Try.prog 11 #[.agg (cf7 c), .int .u64 v, .agg #[.int .i64 a0, .int .i64 a1]] w fun r w' => r = .bool true ∧ Upd [] w w' := by
  obtain ⟨A, T, N, L, B, P, S⟩ := c
  refine fn_enter Try.func11 rfl rfl ?_
  refine bx fun w1 hb1 hu1 hs1 => ?_
  have hb1 : Blk w1 w.heap.size 42 (cf7 ⟨A, T, N, L, B, P, S⟩) := hb1
  refine bx fun w2 hb2 hu2 hs2 => ?_
  have hb2 : Blk w2 w1.heap.size 96 #[.int .i64 a0, .int .i64 a1] := hb2
  have hc2 := hb1.upd hu2 (by simp)
  refine ldw hc2 rfl ?_
  refine cl (rright_c ⟨A, T, N, L, B, P, S⟩ w2) ?_
  rintro _ w3 ⟨rfl, hu3⟩
  have hU3 := (hu1.trans hu2).trans hu3
  by_cases hr : rightC ⟨A, T, N, L, B, P, S⟩
  rotate_left
  · refine cY hr ?_
    refine cl (lives18 _) ?_
    rintro _ wx ⟨rfl, hux⟩
    exact ⟨rfl, hU3.trans hux⟩
  refine cN (fun h => h hr) ?_
  have hc3 := hc2.upd hu3 (by simp)
  have hb3 := hb2.upd hu3 (by simp)
  refine ldw hc3 rfl ?_
  refine cl (ar_new2 hr w3) ?_
  rintro _ w4 ⟨X, rfl, H, hc, hT, hall⟩
  refine ptr_eq ?_
  refine cl (plan_mm H.new.ok) ?_
  rintro _ w5 ⟨rfl, hu5⟩
  refine al z15 (fun _ => by kernel_rfl) fun w6 hb6 hu6 hs6 => ?_
  refine stw hb6 rfl (planC_len X.c) (planC_one X.c) fun w7 hb7 hu7 hs7 => ?_
  have hcX : X.c = ⟨A, T, N, L, B, P, S⟩ := hc
  rw [hcX] at hb7
  have hu7' : Upd [] w5 w7 := hu6.step hu7 (by simp)
  have H7 := (H.hz.upd0 hu5).upd0 hu7'
  have hU7 : Upd [] w3 w7 := (H.new.up.trans hu5).trans hu7'
  have hb3' := hb3.upd hU7 (by simp)
  have hn6 : w5.heap.size ∉ X.feet := fun hm => by
    have h1 := Sep.lt H.new.ok _ hm
    have h2 := hu5.size
    omega
  generalize w5.heap.size = g6 at *
  generalize w1.heap.size = g5 at *
  obtain ⟨b1, b2, b3, b4, b5, b6', b7, b8, b9, b10, b11, b12⟩ := plan_bd hr
  have hslt : ∀ x : Int, -(slotsP A L) < x.tmod (slotsP A L) ∧ x.tmod (slotsP A L) < slotsP A L := fun x => by
    have h1 := Int.tmod_lt_of_pos x (show 0 < slotsP A L by omega)
    have h2 := Int.lt_tmod_of_pos x (show 0 < slotsP A L by omega)
    omega
  have hs0 : (Cf.slots ⟨A, T, N, L, B, P, S⟩) = slotsP A L := rfl
  obtain ⟨sl, hsl, hsl0, hsl1⟩ : ∃ sl : Int, (a0.tmod (slotsP A L) + slotsP A L).tmod (slotsP A L) = sl ∧ 0 ≤ sl ∧ sl < slotsP A L := by
    have h1 := hslt a0
    refine ⟨_, rfl, Int.tmod_nonneg _ (by omega), (hslt _).2⟩
  have hat0 := hslt a0
  refine draw_all (fun w' => Upd [] w7 w') (by decide +kernel) (Upd.refl [] w7).drew ?_
  refine q_ixA 0 rfl (by omega) ?_
  refine q_ld (v := .int .i64 a0) (fun w' hw' => (hb3'.upd hw' (by simp)).cell 0) ?_
  refine rq (.agg (planC ⟨A, T, N, L, B, P, S⟩)) (fun w' hw' => ldw (hb7.upd hw' (by simp)) rfl ⟨rfl, rfl⟩) ?_
  refine q_cl (.int .i64 (slotsP A L)) (fun w' hw' => (pslots_c ⟨A, T, N, L, B, P, S⟩ w').mono fun _ _ ⟨u, he, h1, h2⟩ => ⟨u, he, h1, hw'.trans h2⟩) ?_
  refine rq (.int .i64 (a0.tmod (slotsP A L))) (fun _ _ => rm (by omega) (val _ rfl ⟨rfl, rfl⟩)) ?_
  refine rq (.agg (planC ⟨A, T, N, L, B, P, S⟩)) (fun w' hw' => ldw (hb7.upd hw' (by simp)) rfl ⟨rfl, rfl⟩) ?_
  refine q_cl (.int .i64 (slotsP A L)) (fun w' hw' => (pslots_c ⟨A, T, N, L, B, P, S⟩ w').mono fun _ _ ⟨u, he, h1, h2⟩ => ⟨u, he, h1, hw'.trans h2⟩) ?_
  refine q_ar64 (by omega) ?_
  refine rq (.agg (planC ⟨A, T, N, L, B, P, S⟩)) (fun w' hw' => ldw (hb7.upd hw' (by simp)) rfl ⟨rfl, rfl⟩) ?_
  refine q_cl (.int .i64 (slotsP A L)) (fun w' hw' => (pslots_c ⟨A, T, N, L, B, P, S⟩ w').mono fun _ _ ⟨u, he, h1, h2⟩ => ⟨u, he, h1, hw'.trans h2⟩) ?_
  refine rq (.int .i64 sl) (fun _ _ => rm (by omega) (val sl hsl ⟨rfl, rfl⟩)) ?_
  intro w8 hu8
  have H8 := H7.upd0 hu8
  have hb8 := hb7.upd hu8 (by simp)
  have ha8 := hb3'.upd hu8 (by simp)
  refine ixA 1 rfl (by omega) ?_
  refine ld (v := .int .i64 a1) (ha8.cell 1) ?_
  obtain ⟨pl, hpl, hpl0, hpl1⟩ : ∃ pl : Int, (a1.tmod 8 + 8).tmod 8 = pl ∧ 0 ≤ pl ∧ pl < 8 := by
    have h1 := Int.lt_tmod_of_pos a1 (show (0 : Int) < 8 by decide)
    exact ⟨_, rfl, Int.tmod_nonneg _ (by omega), Int.tmod_lt_of_pos _ (by decide)⟩
  have hat1 := Int.lt_tmod_of_pos a1 (show (0 : Int) < 8 by decide)
  have hat2 := Int.tmod_lt_of_pos a1 (show (0 : Int) < 8 by decide)
  refine rm (by decide) ?_
  refine val (a1.tmod 8) rfl ?_
  refine ar64 (by omega) ?_
  refine rm (by decide) ?_
  refine val pl hpl ?_
  refine cl (mem_mm H8.new.ok) ?_
  rintro _ w8 ⟨rfl, rfl⟩
  have R := H.rep
  have hk8 : 0 ≤ X.s.k ∧ X.s.k ≤ 1000000 := ⟨R.ok.k0, by have : X.s.k ≤ 200 := R.ok.k1; omega⟩
  refine cl (poke_p H8.new.ok H8.calm hk8 pl v) ?_
  rintro _ w9 hev9
  obtain ⟨X9, p9, k9, a9, s9⟩ := hev9
  have A9 : Aside w9 X9 g6 TPn (planC ⟨A, T, N, L, B, P, S⟩) := Aside.post ⟨hb8, hn6⟩ p9
  have H9 : Hz w3 w9 X9 _ := ⟨H8.new.post p9, a9, k9.calm H8.calm, by rw [k9.len]; exact H8.tl⟩
  have hm9 := mem_mm H9.new.ok
  rw [k9.m] at hm9
  -- what is there
  have hsz := size_bd hr
  have hWl : X.abs.W.length = (sizeP A T N L).toNat := by have := R.ok.l; rw [hc] at this; exact this
  obtain ⟨z1, z2, z3, z4⟩ := haz_at hr (i := 0) (k := sl) ⟨by omega, by show (0 : Int) < T; omega⟩ ⟨hsl0, hsl1⟩
  generalize hhz : Cf.haz ⟨A, T, N, L, B, P, S⟩ 0 sl = hz at *
  have hsz' : 10 ≤ sizeP A T N L ∧ sizeP A T N L ≤ 924 := hsz
  have z3' : hz < sizeP A T N L := z3
  have e9 : X.abs.poke pl v = { X.abs with W := X.abs.W.set pl.toNat v, k := X.abs.k + 1 } := by
    unfold PS.poke
    rw [if_pos (show X.abs.okP pl from ⟨hpl0, by omega⟩)]
  have e10 : (X.abs.poke pl v).poke hz 9 = { X.abs with W := (X.abs.W.set pl.toNat v).set hz.toNat 9, k := X.abs.k + 2 } := by
    rw [e9]
    unfold PS.poke
    rw [if_pos (show PS.okP _ hz from ⟨by omega, by show hz < ((X.abs.W.set pl.toNat v).length : Nat); rw [List.length_set]; omega⟩)]
    show (⟨X.abs.c, (X.abs.W.set pl.toNat v).set hz.toNat 9, X.abs.k + 1 + 1, X.abs.gh, X.abs.acted, X.abs.bad, X.abs.ths⟩ : PS) = _
    rw [show X.abs.k + 1 + 1 = X.abs.k + 2 by omega]
  have hk9 : 0 ≤ X9.s.k ∧ X9.s.k ≤ 1000000 := by
    have h1 := H9.k_
    rw [e9] at h1
    have h2 : X9.s.k = X.abs.k + 1 := h1
    have h3 := R.ok.k0
    have h4 := R.ok.k1
    omega
  refine draw_mix 5 [(0, true), (2, true), (3, true), (1, false), (4, false)] (fun w' => Blk w' g6 TPn (planC ⟨A, T, N, L, B, P, S⟩)) (by decide +kernel) A9.b.drew ?_
  refine rq (.agg (planC ⟨A, T, N, L, B, P, S⟩)) (fun w' hw' => ldw hw' rfl ⟨rfl, rfl⟩) ?_
  have H9d := H9.upd0 (Upd.refl [] w9).drew
  have A9d := A9.upd0 (Upd.refl [] w9).drew
  have hm9d := mem_mm H9d.new.ok
  rw [k9.m] at hm9d
  refine cl hm9d ?_
  rintro _ w10 ⟨rfl, hw10⟩
  subst hw10
  refine ⟨A9d.b, ?_⟩
  refine cl (haz_c hr 0 sl _) ?_
  rintro _ w11 ⟨rfl, hu11⟩
  rw [hhz]
  have H11 := H9d.upd0 hu11
  have A11 := A9d.upd0 hu11
  refine ⟨A11.b, ?_⟩
  refine cl (poke_p H11.new.ok H11.calm hk9 hz 9) ?_
  rintro _ w12 ⟨X12, p12, k12, a12, s12⟩
  have A12 := A11.post p12
  rw [H11.a, e10] at a12
  have H12 : Hz w3 w12 X12 _ := ⟨H11.new.post p12, a12, k12.calm H11.calm, by rw [k12.len]; exact H11.tl⟩
  have hm12 : X12.m = X.m := k12.m.trans k9.m
  have hmm := mem_mm H12.new.ok
  rw [hm12] at hmm
  refine cl hmm ?_
  rintro _ w12 ⟨rfl, rfl⟩
  refine cl (steps_c H12.new.ok.mem) ?_
  rintro _ w12 ⟨rfl, rfl⟩
  have hk12 : X12.s.k = X.abs.k + 2 := H12.k_
  rw [hk12]
  refine cv ?_
  refine arU (by omega) ?_
  refine cv ?_
  refine arU (by omega) ?_
  refine bs #[.int .u64 sl, .int .u64 pl] (fun _ => by kernel_rfl) fun w13 hb13 hu13 hs13 => ?_
  obtain ⟨t0, ht0, hf0⟩ := H.t0
  obtain ⟨-, hR0, hO0⟩ := hall t0 (List.mem_of_getElem? ht0)
  have hth : X.abs.ths[0]? = some (absT t0) := abs_th X ht0
  have H13 := H12.upd0 hu13
  have A13 := A12.upd0 hu13
  obtain ⟨t12, ht12, hat12⟩ := H13.th (i := 0) hth
  have hf12 : t12.fs = [] := by
    have := congrArg PT.fs hat12
    exact this.trans hf0
  have hW2l : ((X.abs.W.set pl.toNat v).set hz.toNat 9).length = X.abs.W.length := by simp
  have hW2v : ((X.abs.W.set pl.toNat v).set hz.toNat 9).getD pl.toNat 0 = v := by
    rw [getD_set (by omega), setD_self (by omega)]
  have hW2h : ((X.abs.W.set pl.toNat v).set hz.toNat 9).getD hz.toNat 0 = 9 := setD_self (by rw [List.length_set]; omega)
  have hW2u : ∀ x ∈ (X.abs.W.set pl.toNat v).set hz.toNat 9, u64R x := mem_set_ (mem_set_ R.ok.w hv) (by decide)
  have hk0 := R.ok.k0
  have hk1 := R.ok.k1
  generalize hW2 : (X.abs.W.set pl.toNat v).set hz.toNat 9 = W2 at *
  have PI : PrIn { X.abs with W := W2, k := X.abs.k + 2 } (absT t0) sl pl v := ⟨⟨R.ok.r, R.ok.t, by show 0 ≤ X.abs.k + 2; omega, by show X.abs.k + 2 ≤ 800000; omega, hW2u, hW2l.trans R.ok.l⟩, hth, hf0, hR0, hO0, ⟨hsl0, by show sl < X.abs.c.slots; rw [hc]; exact hsl1⟩, ⟨hpl0, hpl1⟩, hW2v, _, R.gh, by have := R.ok.t; unfold PS.tagl at this; rw [R.gh] at this; exact this⟩
  obtain ⟨ps1, ps2⟩ := prot_spec PI (by show 1 ≤ X.abs.c.T; rw [hc]; exact b4.1)
  have hzz : X.abs.c.haz 0 sl = hz := by rw [hc]; exact hhz
  have hrd : RdK w13 .u64 (.slice (some ⟨w12.heap.size, 0, none⟩) 2 2) [sl, pl] := RdK.of_sl (e := 27) (n := 2) (Sl.lit (n := 2) hb13 rfl (by decide))
  have hzz2 : ({ X.abs with W := W2, k := X.abs.k + 2 } : PS).c.haz 0 sl = hz := hzz
  rw [hzz2] at ps2
  by_cases hp0 : ptrW v = 0
  · have hal := alone18_c (i := 0) H13.new.ok H13.calm H13.tl ht12 hf12 1 (by omega) 3 hrd (by simp) (by rw [H13.a]; exact ps1 hp0)
    rw [hm12] at hal
    refine cl hal ?_
    rintro _ w14 ⟨rfl, X14, p14, k14, a14⟩
    have A14 := A13.post p14
    have H14 : Hz w3 w14 X14 _ := ⟨H13.new.post p14, a14, k14.calm H13.calm, by rw [k14.len]; exact H13.tl⟩
    have hm14 : X14.m = X.m := k14.m.trans hm12
    obtain ⟨t14, ht14, hat14⟩ := H14.th (i := 0) (M_th (p := { X.abs with W := W2, k := X.abs.k + 2 }) hth)
    have htm := thread_mm (i := 0) H14.new.ok ht14 H14.tl
    rw [hm14] at htm
    refine cl htm ?_
    rintro _ w14 ⟨rfl, rfl⟩
    have hr14 : t14.r = (v, 0, 0) := congrArg PT.r hat14
    have hblk14 := (H14.new.ok.core ht14).blk
    rw [hr14] at hblk14
    refine fa ?_
    refine ixA 0 rfl (by omega) ?_
    refine ldb hblk14 rfl ?_
    refine cN (fun h => h rfl) ?_
    have hvq : IntKind.u64.wrap (v.tdiv 2) = v / 2 := by rw [Int.tdiv_eq_ediv_of_nonneg hv.1, IntKind.wrap_u64]; have h1 := hv.1; have h2 := hv.2; omega
    refine qu (by decide) ?_
    refine val (v / 2) hvq ?_
    refine rm (by decide) ?_
    refine val (ptrW v) (by rw [Int.tmod_eq_emod_of_nonneg (by have := hv.1; omega)]; rfl) ?_
    have hmm14 := mem_mm H14.new.ok
    rw [hm14] at hmm14
    refine cl hmm14 ?_
    rintro _ w14 ⟨rfl, rfl⟩
    refine cl (steps_c H14.new.ok.mem) ?_
    rintro _ w14 ⟨rfl, rfl⟩
    have hk14 : X14.s.k = X.abs.k + 2 + 1 := H14.k_
    rw [hk14]
    refine ar64 (by omega) ?_
    refine draw_mixA [(0, true), (2, true), (3, true), (1, false), (4, false), (5, false), (6, true), (7, true), (8, true), (9, true), (10, true)] (fun w' => Blk w' g6 TPn (planC ⟨A, T, N, L, B, P, S⟩)) (by decide +kernel) A14.b.drew ?_
    refine rq (.agg (planC ⟨A, T, N, L, B, P, S⟩)) (fun w' hw' => ldw hw' rfl ⟨rfl, rfl⟩) ?_
    have H14d := H14.upd0 (Upd.refl [] w14).drew
    have A14d := A14.upd0 (Upd.refl [] w14).drew
    have hmm15 := mem_mm H14d.new.ok
    rw [hm14] at hmm15
    refine cl hmm15 ?_
    rintro _ w15 ⟨rfl, hw15⟩
    subst hw15
    refine ⟨A14d.b, ?_⟩
    refine cl (haz_c hr 0 sl _) ?_
    rintro _ w16 ⟨rfl, hu16⟩
    rw [hhz]
    have H16 := H14d.upd0 hu16
    refine ⟨(A14d.upd0 hu16).b, ?_⟩
    have hpk := peek_p H16.new.ok H16.calm ⟨by omega, by omega⟩ hz (by rw [H16.a]; exact ⟨by omega, by show hz < ((W2 : List Int).length : Int); first | omega | (rw [List.length_set]; omega)⟩)
    rw [H16.a] at hpk
    refine cl hpk ?_
    rintro _ w17 ⟨rfl, hev17⟩
    have hA17 : Blk w17 g6 TPn (planC ⟨A, T, N, L, B, P, S⟩) := by
      obtain ⟨X17, p17, -⟩ := hev17
      exact ((A14d.upd0 hu16).post p17).b
    refine ⟨hA17, ?_⟩
    have hnow : PS.rd (M { X.abs with W := W2, k := X.abs.k + 2 } true (X.abs.k + 2 + 1) (W2) X.abs.gh { (absT t0) with fs := [], r := (v, 0, 0) }) hz = 9 := hW2h
    have hU17 : Upd [] w3 w17 := by
      obtain ⟨X17, p17, -⟩ := hev17
      exact (H16.new.post p17).up
    refine cY hp0 ?_
    refine cY (by omega) ?_
    refine cY hnow ?_
    refine cl (lives18 w17) ?_
    rintro _ w18 ⟨rfl, hu18⟩
    exact ⟨rfl, (hU3.trans hU17).trans hu18⟩
  · have hal := alone18_c (i := 0) H13.new.ok H13.calm H13.tl ht12 hf12 3 (by omega) 3 hrd (by simp) (by rw [H13.a]; exact ps2 hp0)
    rw [hm12] at hal
    refine cl hal ?_
    rintro _ w14 ⟨rfl, X14, p14, k14, a14⟩
    have A14 := A13.post p14
    have H14 : Hz w3 w14 X14 _ := ⟨H13.new.post p14, a14, k14.calm H13.calm, by rw [k14.len]; exact H13.tl⟩
    have hm14 : X14.m = X.m := k14.m.trans hm12
    obtain ⟨t14, ht14, hat14⟩ := H14.th (i := 0) (M_th (p := { X.abs with W := W2, k := X.abs.k + 2 }) hth)
    have htm := thread_mm (i := 0) H14.new.ok ht14 H14.tl
    rw [hm14] at htm
    refine cl htm ?_
    rintro _ w14 ⟨rfl, rfl⟩
    have hr14 : t14.r = (v, 0, 0) := congrArg PT.r hat14
    have hblk14 := (H14.new.ok.core ht14).blk
    rw [hr14] at hblk14
    refine fa ?_
    refine ixA 0 rfl (by omega) ?_
    refine ldb hblk14 rfl ?_
    refine cN (fun h => h rfl) ?_
    have hvq : IntKind.u64.wrap (v.tdiv 2) = v / 2 := by rw [Int.tdiv_eq_ediv_of_nonneg hv.1, IntKind.wrap_u64]; have h1 := hv.1; have h2 := hv.2; omega
    refine qu (by decide) ?_
    refine val (v / 2) hvq ?_
    refine rm (by decide) ?_
    refine val (ptrW v) (by rw [Int.tmod_eq_emod_of_nonneg (by have := hv.1; omega)]; rfl) ?_
    have hmm14 := mem_mm H14.new.ok
    rw [hm14] at hmm14
    refine cl hmm14 ?_
    rintro _ w14 ⟨rfl, rfl⟩
    refine cl (steps_c H14.new.ok.mem) ?_
    rintro _ w14 ⟨rfl, rfl⟩
    have hk14 : X14.s.k = X.abs.k + 2 + 3 := H14.k_
    rw [hk14]
    refine ar64 (by omega) ?_
    refine draw_mixA [(0, true), (2, true), (3, true), (1, false), (4, false), (5, false), (6, true), (7, true), (8, true), (9, true), (10, true)] (fun w' => Blk w' g6 TPn (planC ⟨A, T, N, L, B, P, S⟩)) (by decide +kernel) A14.b.drew ?_
    refine rq (.agg (planC ⟨A, T, N, L, B, P, S⟩)) (fun w' hw' => ldw hw' rfl ⟨rfl, rfl⟩) ?_
    have H14d := H14.upd0 (Upd.refl [] w14).drew
    have A14d := A14.upd0 (Upd.refl [] w14).drew
    have hmm15 := mem_mm H14d.new.ok
    rw [hm14] at hmm15
    refine cl hmm15 ?_
    rintro _ w15 ⟨rfl, hw15⟩
    subst hw15
    refine ⟨A14d.b, ?_⟩
    refine cl (haz_c hr 0 sl _) ?_
    rintro _ w16 ⟨rfl, hu16⟩
    rw [hhz]
    have H16 := H14d.upd0 hu16
    refine ⟨(A14d.upd0 hu16).b, ?_⟩
    have hpk := peek_p H16.new.ok H16.calm ⟨by omega, by omega⟩ hz (by rw [H16.a]; exact ⟨by omega, by show hz < ((W2.set hz.toNat (ptrW v) : List Int).length : Int); first | omega | (rw [List.length_set]; omega)⟩)
    rw [H16.a] at hpk
    refine cl hpk ?_
    rintro _ w17 ⟨rfl, hev17⟩
    have hA17 : Blk w17 g6 TPn (planC ⟨A, T, N, L, B, P, S⟩) := by
      obtain ⟨X17, p17, -⟩ := hev17
      exact ((A14d.upd0 hu16).post p17).b
    refine ⟨hA17, ?_⟩
    have hnow : PS.rd (M { X.abs with W := W2, k := X.abs.k + 2 } true (X.abs.k + 2 + 3) (W2.set hz.toNat (ptrW v)) X.abs.gh { (absT t0) with fs := [], r := (v, 0, 0) }) hz = ptrW v := (setD_self (by omega))
    have hU17 : Upd [] w3 w17 := by
      obtain ⟨X17, p17, -⟩ := hev17
      exact (H16.new.post p17).up
    refine cN hp0 ?_
    refine cY (by omega) ?_
    refine cY hnow ?_
    refine cl (lives18 w17) ?_
    rintro _ w18 ⟨rfl, hu18⟩
    exact ⟨rfl, (hU3.trans hU17).trans hu18⟩
theorem HazardProtects_walk (w : World) (l : List Int) (wl : Fits [.i64, .i64, .i64, .i64, .i64, .i64, .i64] l) (v : Int) (wv : (Lit.int .u64 v).wf = true) (a : List Int) (wa : Fits [.i64, .i64] a) :
    Calls Try.prog 11 #[.agg (mkInts [.i64, .i64, .i64, .i64, .i64, .i64, .i64] l).toArray, .int .u64 v, .agg (mkInts [.i64, .i64] a).toArray] w fun e w' => e = .returned (.bool true) ∧ Below w.heap.size w w' := by
  obtain ⟨⟨A, T, N, L, B, P, S⟩, rfl⟩ := cf_of wl
  obtain ⟨a0, a1, rfl⟩ : ∃ a0 a1, a = [a0, a1] := by
    have h := wa.1
    match a, h with
    | [x, y], _ => exact ⟨x, y, rfl⟩
  have h0 : IntKind.i64.min ≤ a0 ∧ a0 ≤ IntKind.i64.max := by simpa [Lit.wf] using wa.2 0 .i64 a0 rfl rfl
  have h1 : IntKind.i64.min ≤ a1 ∧ a1 ≤ IntKind.i64.max := by simpa [Lit.wf] using wa.2 1 .i64 a1 rfl rfl
  have hv : IntKind.u64.min ≤ v ∧ v ≤ IntKind.u64.max := by simpa [Lit.wf] using wv
  exact (protects_law (c := ⟨A, T, N, L, B, P, S⟩) hv h0 h1).mono fun _ _ ⟨_, he, hr, hu⟩ => ⟨by rw [he, hr], hu.below⟩
end Go.Proofs.Ytdomclcokkijjaa

