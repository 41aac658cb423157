/- Joined: Ta Tb Tc Td Te Tf Tg Th Ti. -/
import Derived.Test.YtbnbbafffihapaaGreatJ4
import Derived.Test.YtbnbbafffihapaaGreatJ8
import Derived.Test.YtbnbbafffihapaaGreatJ9
/- Find: where a seeker stands; a row ends; a word is taken. -/
namespace Go.Proofs.YtbnbbafffihapaaGreat
open Go.RowKit
attribute [local irreducible] Instr.loadAt Instr.storeAt Instr.fieldAt Instr.indexAt Instr.sliceAt Instr.buildSlice Instr.box Instr.alloc Builtin.append_ Builtin.len_ Builtin.min_ Builtin.max_ Calls Instr.build Instr.makeSlice binSem convert Instr.index Instr.range Instr.next
abbrev TFp : Nat := 106
abbrev TFk : Nat := 108
theorem lspf {K' : Value → World → Prop} {w : World} {p T m g fb fq : Nat} (hb : Blk w p T (spC m g fb fq)) (k : K' (.agg (spC m g fb fq)) w) : RunP Tryz.prog (Instr.loadAt TFp (.pointer (some ⟨p, 0 + 0, none⟩))) K' w :=
  lda (spC m g fb fq).toList rfl (fun j x hj => by rw [hb.cell, ← Array.getElem?_toList, show 0 + 0 + j = j by omega]; exact hj) (by simpa using k)
theorem lspf0 {K' : Value → World → Prop} {w : World} {p T m g fb fq : Nat} (hb : Blk w p T (spC m g fb fq)) (k : K' (.agg (spC m g fb fq)) w) : RunP Tryz.prog (Instr.loadAt TFp (.pointer (some ⟨p, 0, none⟩))) K' w :=
  lda (spC m g fb fq).toList rfl (fun j x hj => by rw [hb.cell, ← Array.getElem?_toList, show 0 + j = j by omega]; exact hj) (by simpa using k)
section
variable {w : World} {m g fb fq : Nat} {f : Fr}
theorem frow_c (h : FrAt w fb fq f) : Fn Tryz.prog 54 #[.agg (spC m g fb fq)] w fun r w' => r = .int .i64 (toI (f.R.getD 1 0)) ∧ Upd [] w w' := by
  refine fn_enter Tryz.func54 rfl rfl ?_
  refine bx fun w1 hb1 hu1 hs1 => ?_
  refine fa ?_
  refine ldb hb1 (v := .pointer (some ⟨fb, fq, none⟩)) rfl ?_
  refine fa ?_
  refine ixA 1 rfl (by omega) ?_
  refine ld ((h.upd0 hu1).reg 1 (by omega)) ?_
  refine cv ?_
  refine val (toI (f.R.getD 1 0)) rfl ?_
  exact ⟨rfl, hu1⟩
theorem fword_c (h : FrAt w fb fq f) : Fn Tryz.prog 67 #[.agg (spC m g fb fq)] w fun r w' => r = .int .u64 (f.R.getD 3 0) ∧ Upd [] w w' := by
  refine fn_enter Tryz.func67 rfl rfl ?_
  refine bx fun w1 hb1 hu1 hs1 => ?_
  refine fa ?_
  refine ldb hb1 (v := .pointer (some ⟨fb, fq, none⟩)) rfl ?_
  refine fa ?_
  refine ixA 3 rfl (by omega) ?_
  refine ld ((h.upd0 hu1).reg 3 (by omega)) ?_
  exact ⟨rfl, hu1⟩
theorem flink_c {X : Mc} (h : Mach w X) (hr : rightC X.c) (hf : FrAt w fb fq f) (n : Int) {r : Nat} (hR : f.R.getD 1 0 = (r : Int)) (h4 : r < 4) : Fn Tryz.prog 56 #[.agg (spC X.m g fb fq), .int .u64 n] w fun v w' => v = .int .i64 (X.c.node (toI n) (5 + (r : Int))) ∧ Upd [] w w' := by
  have htr : toI (r : Int) = r := IntWalk.i64_in _ (by omega)
  refine fn_enter Tryz.func56 rfl rfl ?_
  refine bx fun w1 hb1 hu1 hs1 => ?_
  have hb1 : Blk w1 w.heap.size TFp (spC X.m g fb fq) := hb1
  refine draw_mix 9 [(0, true), (1, true), (3, true), (4, true), (5, true), (2, false), (6, false), (7, true), (8, false)] (fun w' => Upd [] w1 w') (by decide +kernel) (Upd.refl [] w1).drew ?_
  refine q_fa ?_
  refine q_ld (v := ptrV X.m) (fun w' hw' => (hb1.upd hw' (by simp)).cell 0) ?_
  refine rq (.int .i64 (toI n)) (fun _ _ => cv (val _ rfl ⟨rfl, rfl⟩)) ?_
  refine rq (.agg (spC X.m g fb fq)) (fun w' hw' => ldw (hb1.upd hw' (by simp)) rfl ⟨rfl, rfl⟩) ?_
  have Us : Upd [] w1 w1.drew := (Upd.refl [] w1).drew
  refine cl (plan_mm ((h.upd0 hu1).upd0 Us)) ?_
  rintro _ w2 ⟨rfl, hu2⟩
  have U2 := Us.trans hu2
  refine ⟨U2, ?_⟩
  refine cl (frow_c ((hf.upd0 hu1).upd0 U2)) ?_
  rintro _ w3 ⟨rfl, hu3⟩
  rw [hR, htr]
  have U3 := U2.trans hu3
  refine ⟨U3, ?_⟩
  refine q_ar64 (by omega) ?_
  refine cl (node_a2 hr (toI n) (5 + (r : Int)) w3) ?_
  rintro _ w4 ⟨rfl, hu4⟩
  exact ⟨U3.trans hu4, rfl, (hu1.trans U3).trans hu4⟩
end
section
variable {w w' : World} {X : Mc} {b : Int} {i : Nat} {t : Th} {fs : List Fr} {f : Fr} {fb fo fc : Nat}
structure LF (w' : World) (q : Nat) (sp : Array Value) (g : Nat) (th : Array Value) (fb fq : Nat) (f : Fr) : Prop where
  b : Blk w' q TFk sp
  t : Blk w' g TT th
  f : FrAt w' fb fq f
def fdSettle (p : PS) (i : Nat) (t : PT) (fs : List Fr) (f : Fr) (r : Nat) : PS :=
  if r = 0 then p.put i { t with P := t.P.set r (f.R.getD 2 0), W := t.W.set r (f.R.getD 3 0), S := t.S.set r (ptrW (f.R.getD 3 0)), fs := fs, r := (0, 0, 0) }
  else p.put i { t with P := t.P.set r (f.R.getD 2 0), W := t.W.set r (f.R.getD 3 0), S := t.S.set r (ptrW (f.R.getD 3 0)), fs := fs ++ [⟨f.fn, 1, regI f.R 1 ((r : Int) - 1)⟩] }
set_option maxHeartbeats 1000000 in
set_option maxRecDepth 10000 in
theorem fsettle_p (h : Mach w X) (hi : X.ths[i]? = some t) (hfs : t.fs = fs ++ [f]) (hl : fs.length ≤ 90000) (hfv : t.fv = .slice (some ⟨fb, fo, none⟩) t.fs.length fc) (hR : ∀ j, u64R (f.R.getD j 0)) {r : Nat} (hr : f.R.getD 1 0 = (r : Int)) (h4 : r < 4) (hP : t.P.length = 4) (hS : t.S.length = 4) (hW : t.W.length = 4) :
    Fn Tryz.prog 68 #[.agg (spC X.m t.g fb (fo + fs.length * 12))] w fun _ w' => Ev w X w' (fdSettle X.abs i (absT t) fs f r) := by
  have htr := toI_small (show r < 1000 by omega)
  have hpb := ptrW_bd (x := f.R.getD 3 0)
  obtain ⟨pg, po, pc, hpv, -⟩ := (h.pv_ hi).some_ (by omega)
  obtain ⟨sg, so, sc, hsv, -⟩ := (h.sv_ hi).some_ (by omega)
  obtain ⟨wg, wo, wc, hwv, -⟩ := (h.wv_ hi).some_ (by omega)
  refine fn_enter Tryz.func68 rfl rfl ?_
  refine bx fun w1 hb1 hu1 hs1 => ?_
  have hb1 : Blk w1 w.heap.size TFk (spC X.m t.g fb (fo + fs.length * 12)) := hb1
  have A1 := Aside.new h hb1
  have h1 := h.upd0 hu1
  have J1 : TopI w1 w1 X X i t fs f fb fo fc := ⟨.refl h1, .refl X, hi, hfs, hfv⟩
  refine draw_mix 7 [(0, true), (1, true), (2, true), (3, true), (4, true), (5, false), (6, true)] (fun w' => Upd [] w1 w') (by decide +kernel) (Upd.refl [] w1).drew ?_
  refine q_fa ?_
  refine q_fa ?_
  refine q_ld (v := .pointer (some ⟨fb, fo + fs.length * 12, none⟩)) (fun w' hw' => (hb1.upd hw' (by simp)).cell 2) ?_
  refine q_fa ?_
  refine rq (.agg (spC X.m t.g fb (fo + fs.length * 12))) (fun w' hw' => lspf (hb1.upd hw' (by simp)) ⟨rfl, rfl⟩) ?_
  refine cl (frow_c (J1.upd0 (Upd.refl [] w1).drew).fr) ?_
  rintro _ w2 ⟨rfl, hu2⟩
  have hu2 : Upd [] w1 w2 := (Upd.refl [] w1).drew.trans hu2
  refine ⟨hu2, ?_⟩
  rw [hr, htr]
  have J2 : TopI w1 w2 X X i t fs f fb fo fc := J1.upd0 hu2
  have hLF : ∀ {w' : World} {Y : Mc} {t' : Th}, TopI w1 w' X Y i t' fs f fb fo fc → t'.g = t.g → t'.fv = t.fv → t'.r = t.r → t'.pv = t.pv → t'.sv = t.sv → t'.wv = t.wv → t'.rv = t.rv → t'.ov = t.ov → LF w' w.heap.size (spC X.m t.g fb (fo + fs.length * 12)) t.g (thrC (i : Int) t.fv t.r t.pv t.sv t.wv t.rv t.ov) fb (fo + fs.length * 12) f := fun J e1 e2 e3 e4 e5 e6 e7 e8 =>
    ⟨(A1.post J.p).b, by have := (J.p.ok.core J.i).blk; rw [e1, e2, e3, e4, e5, e6, e7, e8] at this; exact this, J.fr⟩
  refine draw_mix 41 [(0, true), (1, true), (2, true), (3, true), (4, true), (5, true), (6, true), (7, true), (8, true), (9, true), (10, true), (11, true), (12, true), (13, true), (14, true), (15, true), (16, true), (17, true), (18, true), (19, true), (20, true), (21, true), (22, true), (23, true), (24, true), (25, true), (26, true), (27, true), (28, true), (29, true), (30, true), (31, true), (32, true), (33, false), (34, true), (35, true), (36, true), (37, false), (38, true), (39, false), (40, true)] (fun w' => LF w' w.heap.size (spC X.m t.g fb (fo + fs.length * 12)) t.g (thrC (i : Int) t.fv t.r t.pv t.sv t.wv t.rv t.ov) fb (fo + fs.length * 12) f) (by decide +kernel) (hLF (J2.upd0 (Upd.refl [] w2).drew) rfl rfl rfl rfl rfl rfl rfl rfl) ?_
  refine q_fa ?_
  refine q_fa ?_
  refine q_ld (v := ptrV t.g) (fun w' hw' => hw'.b.cell 1) ?_
  refine q_fa ?_
  refine q_ld (v := .slice (some ⟨pg, po, none⟩) t.P.length pc) (fun w' hw' => by rw [← hpv]; exact hw'.t.cell 5) ?_
  refine q_fa ?_
  refine q_fa ?_
  refine q_ld (v := ptrV t.g) (fun w' hw' => hw'.b.cell 1) ?_
  refine q_fa ?_
  refine q_ld (v := .slice (some ⟨wg, wo, none⟩) t.W.length wc) (fun w' hw' => by rw [← hwv]; exact hw'.t.cell 7) ?_
  refine q_fa ?_
  refine q_fa ?_
  refine q_ld (v := ptrV t.g) (fun w' hw' => hw'.b.cell 1) ?_
  refine q_fa ?_
  refine q_ld (v := .slice (some ⟨sg, so, none⟩) t.S.length sc) (fun w' hw' => by rw [← hsv]; exact hw'.t.cell 6) ?_
  refine q_fa ?_
  refine q_ixA 2 rfl (by omega) ?_
  refine q_ld (v := .int .u64 (f.R.getD 2 0)) (fun w' hw' => hw'.f.reg 2 (by omega)) ?_
  refine q_fa ?_
  refine q_ixA 3 rfl (by omega) ?_
  refine q_ld (v := .int .u64 (f.R.getD 3 0)) (fun w' hw' => hw'.f.reg 3 (by omega)) ?_
  refine q_fa ?_
  refine rq (.agg (spC X.m t.g fb (fo + fs.length * 12))) (fun w' hw' => lspf hw'.b ⟨rfl, rfl⟩) ?_
  refine cl (fword_c (J2.upd0 (Upd.refl [] w2).drew).fr) ?_
  rintro _ w3 ⟨rfl, hu3⟩
  have hu3 : Upd [] w2 w3 := (Upd.refl [] w2).drew.trans hu3
  have J3 := J2.upd0 hu3
  refine ⟨hLF J3 rfl rfl rfl rfl rfl rfl rfl rfl, ?_⟩
  refine t_cl (.int .i64 (ptrW (f.R.getD 3 0))) (fun w' hw' => wptr_c (hR 3) w') ?_
  refine rq (.int .u64 (ptrW (f.R.getD 3 0))) (fun _ _ => cv (arU (by omega) ⟨rfl, rfl⟩)) ?_
  refine q_ix r rfl (by omega) ?_
  refine J3.setP r (by omega) hpv (f.R.getD 2 0) fun w4 J4 => ?_
  refine ⟨hLF J4 rfl rfl rfl rfl rfl rfl rfl rfl, ?_⟩
  refine q_ix r rfl (by omega) ?_
  refine J4.setW r (by show r < t.W.length; omega) hwv (f.R.getD 3 0) fun w5 J5 => ?_
  refine ⟨hLF J5 rfl rfl rfl rfl rfl rfl rfl rfl, ?_⟩
  refine q_ix r rfl (by omega) ?_
  refine J5.setS r (by show r < t.S.length; omega) hsv (ptrW (f.R.getD 3 0)) fun w6 J6 => ?_
  have L6 := hLF J6 rfl rfl rfl rfl rfl rfl rfl rfl
  have hq : w.heap.size < w6.heap.size := L6.b.lt
  unfold fdSettle
  by_cases h0 : r = 0
  · subst h0
    refine fa ?_
    refine fa ?_
    refine ldb L6.b (v := ptrV t.g) rfl ?_
    refine cl (J6.pop (l := []) (by omega) (fun w' hu => RdK.nil_ w' .u64)) ?_
    rintro _ w8 e
    rw [abs_set, abs_set, abs_set, put_put, put_put, put_put] at e
    exact Ev.before (.of0 h hu1) (.refl X) e
  · refine cN (by omega) ?_
    refine draw_mix 9 [(0, true), (1, true), (2, true), (3, true), (4, true), (5, true), (6, true), (7, true), (8, true)] (fun w' => LF w' w.heap.size (spC X.m t.g fb (fo + fs.length * 12)) t.g (thrC (i : Int) t.fv t.r t.pv t.sv t.wv t.rv t.ov) fb (fo + fs.length * 12) f) (by decide +kernel) (hLF (J6.upd0 (Upd.refl [] w6).drew) rfl rfl rfl rfl rfl rfl rfl rfl) ?_
    refine q_fa ?_
    refine q_ixA 1 rfl (by omega) ?_
    refine q_ld (v := .int .u64 (r : Int)) (fun w' hw' => by rw [← hr]; exact hw'.f.reg 1 (by omega)) ?_
    refine q_arU (by omega) ?_
    refine q_fa ?_
    refine q_ixA 1 rfl (by omega) ?_
    have J7 := J6.upd0 (Upd.refl [] w6).drew
    refine J7.st (f' := { f with R := regI f.R 1 ((r : Int) - 1) }) 3 (by omega) rfl rfl (frC_reg f 1 (by omega) _) fun w8 J8 => ?_
    refine fa ?_
    refine J8.st (f' := ⟨f.fn, 1, regI f.R 1 ((r : Int) - 1)⟩) 1 (by omega) rfl rfl rfl fun w9 J9 => ?_
    have e := J9.ev
    rw [abs_set, abs_set, abs_set, abs_set, abs_set, put_put, put_put, put_put, put_put] at e
    rw [if_neg h0]
    exact Ev.before (.of0 h hu1) (.refl X) e
def fdTake (p : PS) (i : Nat) (t : PT) (fs : List Fr) (f : Fr) (r : Nat) (x : Int) : PS :=
  if markW x = true then p.put i (topped t fs ⟨f.fn, 8, regI f.R 3 x⟩)
  else if ptrW x = 2 then fdSettle p i t fs { f with R := regI f.R 3 x } r
  else p.put i (topped t fs ⟨f.fn, 3, regI f.R 3 x⟩)
set_option maxRecDepth 10000 in
theorem ftake_p (h : Mach w X) (hi : X.ths[i]? = some t) (hfs : t.fs = fs ++ [f]) (hl : fs.length ≤ 90000) (hfv : t.fv = .slice (some ⟨fb, fo, none⟩) t.fs.length fc) (hR : ∀ j, u64R (f.R.getD j 0)) {r : Nat} (hr : f.R.getD 1 0 = (r : Int)) (h4 : r < 4) (hP : t.P.length = 4) (hS : t.S.length = 4) (hW : t.W.length = 4) {x : Int} (hx : u64R x) :
    Fn Tryz.prog 55 #[.agg (spC X.m t.g fb (fo + fs.length * 12)), .int .u64 x] w fun _ w' => Ev w X w' (fdTake X.abs i (absT t) fs f r x) := by
  refine fn_enter Tryz.func55 rfl rfl ?_
  refine bx fun w1 hb1 hu1 hs1 => ?_
  have hb1 : Blk w1 w.heap.size TFk (spC X.m t.g fb (fo + fs.length * 12)) := hb1
  have A1 := Aside.new h hb1
  have h1 := h.upd0 hu1
  have J1 : TopI w1 w1 X X i t fs f fb fo fc := ⟨.refl h1, .refl X, hi, hfs, hfv⟩
  refine fa ?_
  refine fa ?_
  refine ldb hb1 (v := .pointer (some ⟨fb, fo + fs.length * 12, none⟩)) rfl ?_
  refine fa ?_
  refine ixA 3 rfl (by omega) ?_
  refine J1.stq (f' := { f with R := regI f.R 3 x }) 5 (by omega) rfl rfl (frC_reg f 3 (by omega) _) fun w2 X2 J2 a2 m2 c2 => ?_
  have hb2 := (A1.post J2.p).b
  have hR2 := regI_u64 (k := 3) hR hx
  have hg3 : (regI f.R 3 x).getD 3 0 = x := by rw [regI_at _ _ _ _ (by omega)]; rfl
  have hg1 : (regI f.R 3 x).getD 1 0 = (r : Int) := by rw [regI_at _ _ _ _ (by omega)]; exact hr
  refine fa ?_
  refine lspf hb2 ?_
  refine cl (fword_c J2.fr) ?_
  rintro _ w3 ⟨rfl, hu3⟩
  rw [show ({ f with R := regI f.R 3 x } : Fr).R.getD 3 0 = x from hg3]
  refine cl (wmark_c hx w3) ?_
  rintro _ w3 ⟨rfl, rfl⟩
  have J3 := J2.upd0 hu3
  have hb3 := hb2.upd hu3 (by simp)
  unfold fdTake
  cases hm : markW x with
  | true =>
    rw [if_pos rfl]
    refine fa ?_
    refine fa ?_
    refine ldb hb3 (v := .pointer (some ⟨fb, fo + fs.length * 12, none⟩)) rfl ?_
    refine fa ?_
    refine J3.stq (f' := ⟨f.fn, 8, regI f.R 3 x⟩) 1 (by omega) rfl rfl rfl fun w4 X4 J4 a4 m4 c4 => ?_
    have e := J4.ev
    rw [a4, a2, put_put] at e
    exact Ev.before (.of0 h hu1) (.refl X) e
  | false =>
    rw [if_neg (by decide)]
    refine fa ?_
    refine lspf hb3 ?_
    refine cl (fword_c J3.fr) ?_
    rintro _ w4 ⟨rfl, hu4⟩
    rw [show ({ f with R := regI f.R 3 x } : Fr).R.getD 3 0 = x from hg3]
    refine cl (wptr_c hx w4) ?_
    rintro _ w4 ⟨rfl, rfl⟩
    have J4 := J3.upd0 hu4
    have hb4 := hb3.upd hu4 (by simp)
    by_cases h2 : ptrW x = 2
    · rw [if_pos h2]
      refine cY h2 ?_
      refine ldw hb4 rfl ?_
      have hst := fsettle_p J4.p.ok J4.i J4.f hl J4.v hR2 hg1 h4 hP hS hW
      rw [m2] at hst
      refine cl hst ?_
      rintro _ w5 e
      have e := Ev.before J4.p J4.k e
      unfold fdSettle at e ⊢
      rw [a2] at e
      simp only [put_put] at e
      exact Ev.before (.of0 h hu1) (.refl X) e
    · rw [if_neg h2]
      refine cN h2 ?_
      refine fa ?_
      refine fa ?_
      refine ldb hb4 (v := .pointer (some ⟨fb, fo + fs.length * 12, none⟩)) rfl ?_
      refine fa ?_
      refine J4.stq (f' := ⟨f.fn, 3, regI f.R 3 x⟩) 1 (by omega) rfl rfl rfl fun w5 X5 J5 a5 m5 c5 => ?_
      have e := J5.ev
      rw [a5, a2, put_put] at e
      exact Ev.before (.of0 h hu1) (.refl X) e
end
end Go.Proofs.YtbnbbafffihapaaGreat

/- Find: a bit of the routine; its Do; a step with it. -/
namespace Go.Proofs.YtbnbbafffihapaaGreat
open Go.RowKit
attribute [local irreducible] Instr.loadAt Instr.storeAt Instr.fieldAt Instr.indexAt Instr.sliceAt Instr.buildSlice Instr.box Instr.alloc Builtin.append_ Builtin.len_ Builtin.min_ Builtin.max_ Calls Instr.build Instr.makeSlice binSem convert Instr.index Instr.range Instr.next
def fdBegin (p : PS) (i : Nat) (t : PT) (fs : List Fr) (f : Fr) : PS := p.put i (topped t fs ⟨f.fn, 1, regI (regI f.R 2 1) 1 (p.c.L - 1)⟩)
def fdLook (p : PS) (i : Nat) (t : PT) (fs : List Fr) (f : Fr) (r : Nat) : PS :=
  if f.pc = 3 then (p.store (p.c.haz i (2 * (r : Int) + 1)) (ptrW (f.R.getD 3 0))).put i (topped t fs { f with pc := 4 })
  else if f.pc = 4 then
    (if p.ldv (p.c.node (toI (f.R.getD 2 0)) (5 + (r : Int))) ≠ f.R.getD 3 0 then fdTake (p.load (p.c.node (toI (f.R.getD 2 0)) (5 + (r : Int)))) i t fs f r (p.ldv (p.c.node (toI (f.R.getD 2 0)) (5 + (r : Int))))
     else (p.load (p.c.node (toI (f.R.getD 2 0)) (5 + (r : Int)))).put i (topped t fs { f with pc := 5 }))
  else if f.pc = 5 then (p.load (p.c.node (toI (ptrW (f.R.getD 3 0))) (5 + (r : Int)))).put i (topped t fs ⟨f.fn, if markW (p.ldv (p.c.node (toI (ptrW (f.R.getD 3 0))) (5 + (r : Int)))) = true then 6 else 7, regI f.R 4 (p.ldv (p.c.node (toI (ptrW (f.R.getD 3 0))) (5 + (r : Int))))⟩)
  else if f.pc = 6 then
    (if p.casv (p.c.node (toI (f.R.getD 2 0)) (5 + (r : Int))) (f.R.getD 3 0) = true then fdTake (p.cas (p.c.node (toI (f.R.getD 2 0)) (5 + (r : Int))) (f.R.getD 3 0) (nextW (f.R.getD 3 0) (ptrW (f.R.getD 4 0)))) i t fs f r (nextW (f.R.getD 3 0) (ptrW (f.R.getD 4 0)))
     else (p.cas (p.c.node (toI (f.R.getD 2 0)) (5 + (r : Int))) (f.R.getD 3 0) (nextW (f.R.getD 3 0) (ptrW (f.R.getD 4 0)))).put i (topped t fs { f with pc := 2 }))
  else if f.R.getD 0 0 ≤ p.ldv (p.c.node (toI (ptrW (f.R.getD 3 0))) 0) then fdSettle (p.load (p.c.node (toI (ptrW (f.R.getD 3 0))) 0)) i t fs f r
  else (p.load (p.c.node (toI (ptrW (f.R.getD 3 0))) 0)).put i (topped t fs ⟨f.fn, 1, regI f.R 2 (ptrW (f.R.getD 3 0))⟩)
def fdDo (p : PS) (i : Nat) (t : PT) (fs : List Fr) (f : Fr) (r : Nat) : PS :=
  if f.pc = 0 then fdBegin p i t fs f
  else if f.pc = 1 then (p.store (p.c.haz i (2 * (r : Int))) (f.R.getD 2 0)).put i (topped t fs { f with pc := 2 })
  else if f.pc = 2 then fdTake (p.load (p.c.node (toI (f.R.getD 2 0)) (5 + (r : Int)))) i t fs f r (p.ldv (p.c.node (toI (f.R.getD 2 0)) (5 + (r : Int))))
  else fdLook p i t fs f r
section
variable {w w' : World} {X : Mc} {b : Int} {i : Nat} {t : Th} {fs : List Fr} {f : Fr} {fb fo fc : Nat}
set_option maxRecDepth 10000 in
theorem fbegin_p (h : Mach w X) (hi : X.ths[i]? = some t) (hfs : t.fs = fs ++ [f]) (hfv : t.fv = .slice (some ⟨fb, fo, none⟩) t.fs.length fc) (hL : 1 ≤ X.c.L) (hL2 : X.c.L ≤ 6) :
    Fn Tryz.prog 52 #[.agg (spC X.m t.g fb (fo + fs.length * 12))] w fun _ w' => Ev w X w' (fdBegin X.abs i (absT t) fs f) := by
  refine fn_enter Tryz.func52 rfl rfl ?_
  refine bx fun w1 hb1 hu1 hs1 => ?_
  have hb1 : Blk w1 w.heap.size TFk (spC X.m t.g fb (fo + fs.length * 12)) := hb1
  have A1 := Aside.new h hb1
  have h1 := h.upd0 hu1
  have J1 : TopI w1 w1 X X i t fs f fb fo fc := ⟨.refl h1, .refl X, hi, hfs, hfv⟩
  refine fa ?_
  refine fa ?_
  refine ldb hb1 (v := .pointer (some ⟨fb, fo + fs.length * 12, none⟩)) rfl ?_
  refine fa ?_
  refine ixA 2 rfl (by omega) ?_
  obtain ⟨R1, hR1⟩ : ∃ R, R = regI f.R 2 1 := ⟨_, rfl⟩
  obtain ⟨R2, hR2⟩ : ∃ R, R = regI R1 1 (X.c.L - 1) := ⟨_, rfl⟩
  refine J1.stq (f' := { f with R := R1 }) 4 (by omega) rfl rfl (by rw [hR1]; exact frC_reg f 2 (by omega) _) fun w3 X3 J3 a3 m3 c3 => ?_
  have hb3 := (A1.post J3.p).b
  refine draw_mix 13 [(0, true), (1, true), (2, true), (3, true), (4, true), (5, true), (11, true), (12, true), (6, false), (7, false), (8, true), (9, true), (10, true)] (fun w' => Blk w' w.heap.size TFk (spC X.m t.g fb (fo + fs.length * 12))) (by decide +kernel) hb3.drew ?_
  refine q_fa ?_
  refine q_fa ?_
  refine q_ld (v := .pointer (some ⟨fb, fo + fs.length * 12, none⟩)) (fun w' hw' => hw'.cell 2) ?_
  refine q_fa ?_
  refine q_fa ?_
  refine q_ld (v := ptrV X.m) (fun w' hw' => hw'.cell 0) ?_
  refine q_fa ?_
  have J6 := J3.upd0 (Upd.refl [] w3).drew
  have hpl := plan_mm J6.p.ok
  rw [m3, c3] at hpl
  refine cl hpl ?_
  rintro _ w6 ⟨rfl, hu6⟩
  have J7 := J6.upd0 hu6
  refine ⟨(A1.post J7.p).b, ?_⟩
  refine cl (conf_c2 X.c w6) ?_
  rintro _ w7 ⟨rfl, hu7⟩
  have J8 := J7.upd0 hu7
  refine ⟨(A1.post J8.p).b, ?_⟩
  refine rq (.int .i64 X.c.L) (fun _ _ => fl (by cases X.c; rfl) ⟨rfl, rfl⟩) ?_
  refine q_ar64 (by omega) ?_
  refine rq (.int .u64 (X.c.L - 1)) (fun _ _ => cv (arU (by omega) ⟨rfl, rfl⟩)) ?_
  refine ixA 1 rfl (by omega) ?_
  refine J8.stq (f' := { f with R := R2 }) 3 (by omega) rfl rfl (by rw [hR2]; exact frC_reg { f with R := R1 } 1 (by omega) _) fun w9 X9 J9 a9 m9 c9 => ?_
  refine fa ?_
  refine fa ?_
  refine ldb (A1.post J9.p).b (v := .pointer (some ⟨fb, fo + fs.length * 12, none⟩)) rfl ?_
  refine fa ?_
  refine J9.stq (f' := ⟨f.fn, 1, R2⟩) 1 (by omega) rfl rfl rfl fun w10 X10 J10 a10 m10 c10 => ?_
  have e := J10.ev
  rw [a10, a9, a3, put_put, put_put] at e
  unfold fdBegin
  rw [← hR1, show X.abs.c.L = X.c.L from rfl, ← hR2]
  exact Ev.before (.of0 h hu1) (.refl X) e
set_option maxHeartbeats 1000000 in
set_option maxRecDepth 10000 in
theorem flook_p (h : Mach w X) (hg : Good X b) (hb : b ≤ 900000) (hi : X.ths[i]? = some t) (hfs : t.fs = fs ++ [f]) (hl : fs.length ≤ 90000) (hfv : t.fv = .slice (some ⟨fb, fo, none⟩) t.fs.length fc) (hR : ∀ j, u64R (f.R.getD j 0)) {r : Nat} (hr : f.R.getD 1 0 = (r : Int)) (h4 : r < 4) (hP : t.P.length = 4) (hS : t.S.length = 4) (hW : t.W.length = 4) (hpc : f.pc = 3 ∨ f.pc = 4 ∨ f.pc = 5 ∨ f.pc = 6 ∨ f.pc = 7) :
    Fn Tryz.prog 57 #[.agg (spC X.m t.g fb (fo + fs.length * 12))] w fun _ w' => Ev w X w' (fdLook X.abs i (absT t) fs f r) := by
  have htr := toI_small (show r < 1000 by omega)
  have hp3 := ptrW_bd (x := f.R.getD 3 0)
  refine fn_enter Tryz.func57 rfl rfl ?_
  refine bx fun w1 hb1 hu1 hs1 => ?_
  have hb1 : Blk w1 w.heap.size TFk (spC X.m t.g fb (fo + fs.length * 12)) := hb1
  have A1 := Aside.new h hb1
  have h1 := h.upd0 hu1
  have J1 : TopI w1 w1 X X i t fs f fb fo fc := ⟨.refl h1, .refl X, hi, hfs, hfv⟩
  have fin : ∀ {w' : World} {q : PS}, Ev w1 X w' q → Ev w X w' q := fun e => Ev.before (.of0 h hu1) (.refl X) e
  have hLF : ∀ {w' : World} {Y : Mc} {t' : Th} {f' : Fr}, TopI w1 w' X Y i t' fs f' fb fo fc → LF w' w.heap.size (spC X.m t.g fb (fo + fs.length * 12)) t'.g (thrC (i : Int) t'.fv t'.r t'.pv t'.sv t'.wv t'.rv t'.ov) fb (fo + fs.length * 12) f' := fun J =>
    ⟨(A1.post J.p).b, (J.p.ok.core J.i).blk, J.fr⟩
  refine fa ?_
  refine fa ?_
  refine ldb hb1 (v := .pointer (some ⟨fb, fo + fs.length * 12, none⟩)) rfl ?_
  refine fa ?_
  refine lspf hb1 ?_
  refine cl (fword_c J1.fr) ?_
  rintro _ w2 ⟨rfl, hu2⟩
  refine cl (wptr_c (hR 3) w2) ?_
  rintro _ w2 ⟨rfl, rfl⟩
  refine cv ?_
  refine arU (by omega) ?_
  have J2 := J1.upd0 hu2
  have hb2 := hb1.upd hu2 (by simp)
  refine fa ?_
  refine ld (v := .int .i64 f.pc) (J2.fr 1 (by omega)) ?_
  unfold fdLook
  by_cases c3 : f.pc = 3
  · rw [if_pos c3]
    refine cY c3 ?_
    refine draw_mix 20 [(0, true), (1, true), (2, true), (3, true), (4, true), (5, true), (7, true), (8, true), (9, true), (10, true), (11, true), (12, true), (13, true), (14, true), (19, true), (6, false), (15, false), (16, true), (17, true), (18, false)] (fun w' => LF w' w.heap.size (spC X.m t.g fb (fo + fs.length * 12)) t.g (thrC (i : Int) t.fv t.r t.pv t.sv t.wv t.rv t.ov) fb (fo + fs.length * 12) f) (by decide +kernel) (hLF (J2.upd0 (Upd.refl [] w2).drew)) ?_
    refine q_fa ?_
    refine q_fa ?_
    refine q_ld (v := ptrV X.m) (fun w' hw' => hw'.b.cell 0) ?_
    refine q_fa ?_
    refine q_fa ?_
    refine q_ld (v := ptrV X.m) (fun w' hw' => hw'.b.cell 0) ?_
    refine q_fa ?_
    refine q_fa ?_
    refine q_ld (v := ptrV t.g) (fun w' hw' => hw'.b.cell 1) ?_
    refine q_fa ?_
    refine q_ld (v := .int .i64 (i : Int)) (fun w' hw' => hw'.t.cell 0) ?_
    refine q_fa ?_
    refine rq (.agg (spC X.m t.g fb (fo + fs.length * 12))) (fun w' hw' => lspf hw'.b ⟨rfl, rfl⟩) ?_
    have J3 := J2.upd0 (Upd.refl [] w2).drew
    refine cl (plan_mm J3.p.ok) ?_
    rintro _ w3 ⟨rfl, hu3⟩
    have J4 := J3.upd0 hu3
    refine ⟨hLF J4, ?_⟩
    refine cl (frow_c J4.fr) ?_
    rintro _ w4 ⟨rfl, hu4⟩
    rw [hr, htr]
    have J5 := J4.upd0 hu4
    refine ⟨hLF J5, ?_⟩
    refine q_ar64 (by omega) ?_
    refine q_ar64 (by omega) ?_
    refine cl (haz_c hg.ok.r i (2 * (r : Int) + 1) w4) ?_
    rintro _ w5 ⟨rfl, hu5⟩
    have J6 := J5.upd0 hu5
    refine ⟨hLF J6, ?_⟩
    refine cl (store_p J6.p.ok hg (by omega) (X.c.haz i (2 * (r : Int) + 1)) (ptrW (f.R.getD 3 0))) ?_
    rintro _ w6 ⟨X7, p7, k7, a7, s7⟩
    have J7 := J6.mem p7 k7 s7
    refine fa ?_
    refine J7.stq (f' := { f with pc := 4 }) 1 (by omega) rfl rfl (frC_pc f 4) fun w8 X8 J8 a8 m8 c8 => ?_
    have e := J8.ev
    rw [a8, a7] at e
    exact fin e
  rw [if_neg c3]
  refine cN c3 ?_
  by_cases c4 : f.pc = 4
  · rw [if_pos c4]
    refine cY c4 ?_
    refine draw_mix 12 [(0, true), (1, true), (2, true), (3, true), (4, true), (5, true), (6, true), (7, true), (8, true), (9, true), (10, false), (11, false)] (fun w' => LF w' w.heap.size (spC X.m t.g fb (fo + fs.length * 12)) t.g (thrC (i : Int) t.fv t.r t.pv t.sv t.wv t.rv t.ov) fb (fo + fs.length * 12) f) (by decide +kernel) (hLF (J2.upd0 (Upd.refl [] w2).drew)) ?_
    refine q_fa ?_
    refine q_fa ?_
    refine q_ld (v := ptrV X.m) (fun w' hw' => hw'.b.cell 0) ?_
    refine q_fa ?_
    refine rq (.agg (spC X.m t.g fb (fo + fs.length * 12))) (fun w' hw' => lspf hw'.b ⟨rfl, rfl⟩) ?_
    refine q_fa ?_
    refine q_ixA 2 rfl (by omega) ?_
    refine q_ld (v := .int .u64 (f.R.getD 2 0)) (fun w' hw' => hw'.f.reg 2 (by omega)) ?_
    have J3 := J2.upd0 (Upd.refl [] w2).drew
    refine cl (flink_c J3.p.ok hg.ok.r J3.fr (f.R.getD 2 0) hr h4) ?_
    rintro _ w3 ⟨rfl, hu3⟩
    have J4 := J3.upd0 hu3
    refine ⟨hLF J4, ?_⟩
    obtain ⟨a, ha⟩ : ∃ a, a = X.c.node (toI (f.R.getD 2 0)) (5 + (r : Int)) := ⟨_, rfl⟩
    rw [show X.abs.c = X.c from rfl, ← ha]
    refine cl (load_p J4.p.ok hg (by omega) a) ?_
    rintro _ w4 ⟨rfl, X5, p5, k5, a5, s5⟩
    have J5 := J4.mem p5 k5 s5
    have hv : u64R (X.abs.ldv a) := PS.ldv_bd hg.ok a
    refine ⟨hLF J5, ?_⟩
    refine fa ?_
    refine ixA 3 rfl (by omega) ?_
    refine ld (v := .int .u64 (f.R.getD 3 0)) (J5.fr.reg 3 (by omega)) ?_
    by_cases hne : X.abs.ldv a ≠ f.R.getD 3 0
    · rw [if_pos hne]
      refine cY hne ?_
      refine ldw (A1.post J5.p).b rfl ?_
      have htk := ftake_p J5.p.ok J5.i J5.f hl J5.v hR hr h4 hP hS hW hv
      rw [show X5.m = X.m from k5.m] at htk
      refine cl htk ?_
      rintro _ w6 e
      have e := Ev.before J5.p J5.k e
      unfold fdTake fdSettle at e ⊢
      rw [a5] at e
      exact fin e
    · rw [if_neg hne]
      refine cN hne ?_
      refine fa ?_
      refine J5.stq (f' := { f with pc := 5 }) 1 (by omega) rfl rfl (frC_pc f 5) fun w6 X6 J6 a6 m6 c6 => ?_
      have e := J6.ev
      rw [a6, a5] at e
      exact fin e
  rw [if_neg c4]
  refine cN c4 ?_
  by_cases c5 : f.pc = 5
  · rw [if_pos c5]
    refine cY c5 ?_
    refine draw_mix 11 [(0, true), (1, true), (2, true), (3, true), (4, true), (5, true), (6, true), (9, true), (10, true), (7, false), (8, false)] (fun w' => LF w' w.heap.size (spC X.m t.g fb (fo + fs.length * 12)) t.g (thrC (i : Int) t.fv t.r t.pv t.sv t.wv t.rv t.ov) fb (fo + fs.length * 12) f) (by decide +kernel) (hLF (J2.upd0 (Upd.refl [] w2).drew)) ?_
    refine q_fa ?_
    refine q_fa ?_
    refine q_ld (v := ptrV X.m) (fun w' hw' => hw'.b.cell 0) ?_
    refine q_fa ?_
    refine rq (.agg (spC X.m t.g fb (fo + fs.length * 12))) (fun w' hw' => lspf hw'.b ⟨rfl, rfl⟩) ?_
    refine q_fa ?_
    have J3 := J2.upd0 (Upd.refl [] w2).drew
    refine cl (flink_c J3.p.ok hg.ok.r J3.fr (ptrW (f.R.getD 3 0)) hr h4) ?_
    rintro _ w3 ⟨rfl, hu3⟩
    have J4 := J3.upd0 hu3
    refine ⟨hLF J4, ?_⟩
    obtain ⟨a, ha⟩ : ∃ a, a = X.c.node (toI (ptrW (f.R.getD 3 0))) (5 + (r : Int)) := ⟨_, rfl⟩
    rw [show X.abs.c = X.c from rfl, ← ha]
    refine cl (load_p J4.p.ok hg (by omega) a) ?_
    rintro _ w4 ⟨rfl, X5, p5, k5, a5, s5⟩
    have J5 := J4.mem p5 k5 s5
    have hv : u64R (X.abs.ldv a) := PS.ldv_bd hg.ok a
    generalize X.abs.ldv a = v at *
    refine ⟨hLF J5, ?_⟩
    refine ixA 4 rfl (by omega) ?_
    refine J5.stq (f' := { f with R := regI f.R 4 v }) 6 (by omega) rfl rfl (frC_reg f 4 (by omega) _) fun w6 X6 J6 a6 m6 c6 => ?_
    refine fa ?_
    refine J6.stq (f' := ⟨f.fn, 7, regI f.R 4 v⟩) 1 (by omega) rfl rfl rfl fun w7 X7 J7 a7 m7 c7 => ?_
    have hg4 : (regI f.R 4 v).getD 4 0 = v := by rw [regI_at _ _ _ _ (by omega)]; rfl
    refine fa ?_
    refine ixA 4 rfl (by omega) ?_
    refine ld (v := .int .u64 v) (by rw [← hg4]; exact J7.fr.reg 4 (by omega)) ?_
    refine cl (wmark_c hv w7) ?_
    rintro _ w7 ⟨rfl, rfl⟩
    cases hm : markW v with
    | true =>
      rw [if_pos rfl]
      refine fa ?_
      refine J7.stq (f' := ⟨f.fn, 6, regI f.R 4 v⟩) 1 (by omega) rfl rfl rfl fun w8 X8 J8 a8 m8 c8 => ?_
      have e := J8.ev
      rw [a8, a7, a6, a5, put_put, put_put] at e
      exact fin e
    | false =>
      rw [if_neg (by decide)]
      have e := J7.ev
      rw [a7, a6, a5, put_put] at e
      exact fin e
  rw [if_neg c5]
  refine cN c5 ?_
  by_cases c6 : f.pc = 6
  · rw [if_pos c6]
    refine cY c6 ?_
    refine draw_mix 10 [(0, true), (1, true), (3, true), (4, true), (5, true), (6, true), (7, true), (2, false), (8, false), (9, false)] (fun w' => LF w' w.heap.size (spC X.m t.g fb (fo + fs.length * 12)) t.g (thrC (i : Int) t.fv t.r t.pv t.sv t.wv t.rv t.ov) fb (fo + fs.length * 12) f) (by decide +kernel) (hLF (J2.upd0 (Upd.refl [] w2).drew)) ?_
    refine q_fa ?_
    refine rq (.agg (spC X.m t.g fb (fo + fs.length * 12))) (fun w' hw' => lspf hw'.b ⟨rfl, rfl⟩) ?_
    refine q_fa ?_
    refine q_ixA 4 rfl (by omega) ?_
    refine q_ld (v := .int .u64 (f.R.getD 4 0)) (fun w' hw' => hw'.f.reg 4 (by omega)) ?_
    have J3 := J2.upd0 (Upd.refl [] w2).drew
    refine cl (fword_c J3.fr) ?_
    rintro _ w3 ⟨rfl, hu3⟩
    have J4 := J3.upd0 hu3
    refine ⟨hLF J4, ?_⟩
    refine cl (wptr_c (hR 4) w3) ?_
    rintro _ w3 ⟨rfl, rfl⟩
    refine ⟨hLF J4, ?_⟩
    refine cl (next_c (hR 3) (ptrW (f.R.getD 4 0)) w3) ?_
    rintro _ w3 ⟨rfl, rfl⟩
    refine ⟨hLF J4, ?_⟩
    have hx : u64R (nextW (f.R.getD 3 0) (ptrW (f.R.getD 4 0))) := nextW_bd
    generalize nextW (f.R.getD 3 0) (ptrW (f.R.getD 4 0)) = x at *
    refine draw_mix 18 [(0, true), (1, true), (2, true), (3, true), (4, true), (5, true), (6, true), (7, true), (8, true), (9, true), (11, true), (12, true), (13, true), (14, true), (15, true), (16, true), (10, false), (17, false)] (fun w' => LF w' w.heap.size (spC X.m t.g fb (fo + fs.length * 12)) t.g (thrC (i : Int) t.fv t.r t.pv t.sv t.wv t.rv t.ov) fb (fo + fs.length * 12) f) (by decide +kernel) (hLF (J4.upd0 (Upd.refl [] w3).drew)) ?_
    refine q_fa ?_
    refine q_fa ?_
    refine q_ld (v := ptrV X.m) (fun w' hw' => hw'.b.cell 0) ?_
    refine q_fa ?_
    refine rq (.agg (spC X.m t.g fb (fo + fs.length * 12))) (fun w' hw' => lspf hw'.b ⟨rfl, rfl⟩) ?_
    refine q_fa ?_
    refine q_ixA 2 rfl (by omega) ?_
    refine q_ld (v := .int .u64 (f.R.getD 2 0)) (fun w' hw' => hw'.f.reg 2 (by omega)) ?_
    refine q_fa ?_
    refine q_ixA 3 rfl (by omega) ?_
    refine q_ld (v := .int .u64 (f.R.getD 3 0)) (fun w' hw' => hw'.f.reg 3 (by omega)) ?_
    have J5 := J4.upd0 (Upd.refl [] w3).drew
    refine cl (flink_c J5.p.ok hg.ok.r J5.fr (f.R.getD 2 0) hr h4) ?_
    rintro _ w5 ⟨rfl, hu5⟩
    have J6 := J5.upd0 hu5
    refine ⟨hLF J6, ?_⟩
    obtain ⟨a, ha⟩ : ∃ a, a = X.c.node (toI (f.R.getD 2 0)) (5 + (r : Int)) := ⟨_, rfl⟩
    rw [show X.abs.c = X.c from rfl, ← ha]
    refine cl (cas_p J6.p.ok hg (by omega) a (f.R.getD 3 0) x) ?_
    rintro _ w6 ⟨rfl, X7, p7, k7, a7, s7⟩
    have J7 := J6.mem p7 k7 s7
    refine ⟨hLF J7, ?_⟩
    cases hcv : X.abs.casv a (f.R.getD 3 0) with
    | true =>
      rw [if_pos rfl]
      refine ldw (A1.post J7.p).b rfl ?_
      have htk := ftake_p J7.p.ok J7.i J7.f hl J7.v hR hr h4 hP hS hW hx
      rw [show X7.m = X.m from k7.m] at htk
      refine cl htk ?_
      rintro _ w8 e
      have e := Ev.before J7.p J7.k e
      unfold fdTake fdSettle at e ⊢
      rw [a7] at e
      exact fin e
    | false =>
      rw [if_neg (by decide)]
      refine fa ?_
      refine J7.stq (f' := { f with pc := 2 }) 1 (by omega) rfl rfl (frC_pc f 2) fun w8 X8 J8 a8 m8 c8 => ?_
      have e := J8.ev
      rw [a8, a7] at e
      exact fin e
  rw [if_neg c6]
  refine cN c6 ?_
  have c7 : f.pc = 7 := by omega
  refine cY c7 ?_
  refine draw_mix 16 [(0, true), (1, true), (2, true), (3, true), (4, true), (5, true), (7, true), (8, true), (11, true), (12, true), (13, true), (14, true), (15, true), (6, false), (9, false), (10, false)] (fun w' => LF w' w.heap.size (spC X.m t.g fb (fo + fs.length * 12)) t.g (thrC (i : Int) t.fv t.r t.pv t.sv t.wv t.rv t.ov) fb (fo + fs.length * 12) f) (by decide +kernel) (hLF (J2.upd0 (Upd.refl [] w2).drew)) ?_
  refine q_fa ?_
  refine q_fa ?_
  refine q_ld (v := ptrV X.m) (fun w' hw' => hw'.b.cell 0) ?_
  refine q_fa ?_
  refine q_fa ?_
  refine q_ld (v := ptrV X.m) (fun w' hw' => hw'.b.cell 0) ?_
  refine rq (.int .i64 (toI (ptrW (f.R.getD 3 0)))) (fun _ _ => cv (val _ rfl ⟨rfl, rfl⟩)) ?_
  refine q_fa ?_
  refine q_ixA 0 rfl (by omega) ?_
  refine q_ld (v := .int .u64 (f.R.getD 0 0)) (fun w' hw' => hw'.f.reg 0 (by omega)) ?_
  have J3 := J2.upd0 (Upd.refl [] w2).drew
  refine cl (plan_mm J3.p.ok) ?_
  rintro _ w3 ⟨rfl, hu3⟩
  have J4 := J3.upd0 hu3
  refine ⟨hLF J4, ?_⟩
  refine cl (node_a2 hg.ok.r (toI (ptrW (f.R.getD 3 0))) 0 w3) ?_
  rintro _ w4 ⟨rfl, hu4⟩
  have J5 := J4.upd0 hu4
  refine ⟨hLF J5, ?_⟩
  obtain ⟨a, ha⟩ : ∃ a, a = X.c.node (toI (ptrW (f.R.getD 3 0))) 0 := ⟨_, rfl⟩
  rw [show X.abs.c = X.c from rfl, ← ha]
  refine cl (load_p J5.p.ok hg (by omega) a) ?_
  rintro _ w5 ⟨rfl, X6, p6, k6, a6, s6⟩
  have J6 := J5.mem p6 k6 s6
  refine ⟨hLF J6, ?_⟩
  by_cases hge : f.R.getD 0 0 ≤ X.abs.ldv a
  · rw [if_pos hge]
    refine cY hge ?_
    refine ldw (A1.post J6.p).b rfl ?_
    have hst := fsettle_p J6.p.ok J6.i J6.f hl J6.v hR hr h4 hP hS hW
    rw [show X6.m = X.m from k6.m] at hst
    refine cl hst ?_
    rintro _ w7 e
    have e := Ev.before J6.p J6.k e
    unfold fdSettle at e ⊢
    rw [a6] at e
    exact fin e
  · rw [if_neg hge]
    refine cN hge ?_
    refine fa ?_
    refine ixA 2 rfl (by omega) ?_
    refine J6.stq (f' := { f with R := regI f.R 2 (ptrW (f.R.getD 3 0)) }) 4 (by omega) rfl rfl (frC_reg f 2 (by omega) _) fun w7 X7 J7 a7 m7 c7 => ?_
    refine fa ?_
    refine J7.stq (f' := ⟨f.fn, 1, regI f.R 2 (ptrW (f.R.getD 3 0))⟩) 1 (by omega) rfl rfl rfl fun w8 X8 J8 a8 m8 c8 => ?_
    have e := J8.ev
    rw [a8, a7, a6, put_put] at e
    exact fin e
set_option maxHeartbeats 1000000 in
set_option maxRecDepth 10000 in
theorem fstep_p (h : Mach w X) (hg : Good X b) (hb : b ≤ 900000) (hi : X.ths[i]? = some t) (hfs : t.fs = fs ++ [f]) (hl : fs.length ≤ 90000) (hfv : t.fv = .slice (some ⟨fb, fo, none⟩) t.fs.length fc) (hR : ∀ j, u64R (f.R.getD j 0)) {r : Nat} (hr : f.pc ≠ 0 → f.R.getD 1 0 = (r : Int)) (h4 : r < 4) (hP : t.P.length = 4) (hS : t.S.length = 4) (hW : t.W.length = 4) (hL : 1 ≤ X.c.L) (hL2 : X.c.L ≤ 6) (hpc : 0 ≤ f.pc ∧ f.pc ≤ 7) :
    Fn Tryz.prog 35 #[.agg (spC X.m t.g fb (fo + fs.length * 12))] w fun _ w' => Ev w X w' (fdDo X.abs i (absT t) fs f r) := by
  have htr := toI_small (show r < 1000 by omega)
  refine fn_enter Tryz.func35 rfl rfl ?_
  refine bx fun w1 hb1 hu1 hs1 => ?_
  have hb1 : Blk w1 w.heap.size TFk (spC X.m t.g fb (fo + fs.length * 12)) := hb1
  have A1 := Aside.new h hb1
  have h1 := h.upd0 hu1
  have J1 : TopI w1 w1 X X i t fs f fb fo fc := ⟨.refl h1, .refl X, hi, hfs, hfv⟩
  have fin : ∀ {w' : World} {q : PS}, Ev w1 X w' q → Ev w X w' q := fun e => Ev.before (.of0 h hu1) (.refl X) e
  have hLF : ∀ {w' : World} {Y : Mc} {t' : Th} {f' : Fr}, TopI w1 w' X Y i t' fs f' fb fo fc → LF w' w.heap.size (spC X.m t.g fb (fo + fs.length * 12)) t'.g (thrC (i : Int) t'.fv t'.r t'.pv t'.sv t'.wv t'.rv t'.ov) fb (fo + fs.length * 12) f' := fun J =>
    ⟨(A1.post J.p).b, (J.p.ok.core J.i).blk, J.fr⟩
  refine fa ?_
  refine fa ?_
  refine ldb hb1 (v := .pointer (some ⟨fb, fo + fs.length * 12, none⟩)) rfl ?_
  refine fa ?_
  refine ld (v := .int .i64 f.pc) (J1.fr 1 (by omega)) ?_
  unfold fdDo
  by_cases c0 : f.pc = 0
  · rw [if_pos c0]
    refine cY c0 ?_
    refine ldw hb1 rfl ?_
    refine cl (fbegin_p h1 hi hfs hfv hL hL2) ?_
    rintro _ w2 e
    exact fin e
  rw [if_neg c0]
  refine cN c0 ?_
  have hr := hr c0
  by_cases c1 : f.pc = 1
  · rw [if_pos c1]
    refine cY c1 ?_
    refine draw_mix 23 [(0, true), (1, true), (2, true), (3, true), (4, true), (5, true), (7, true), (8, true), (9, true), (10, true), (11, true), (12, true), (13, true), (14, true), (18, true), (19, true), (20, true), (21, true), (22, true), (6, false), (15, false), (16, true), (17, false)] (fun w' => LF w' w.heap.size (spC X.m t.g fb (fo + fs.length * 12)) t.g (thrC (i : Int) t.fv t.r t.pv t.sv t.wv t.rv t.ov) fb (fo + fs.length * 12) f) (by decide +kernel) (hLF (J1.upd0 (Upd.refl [] w1).drew)) ?_
    refine q_fa ?_
    refine q_fa ?_
    refine q_ld (v := ptrV X.m) (fun w' hw' => hw'.b.cell 0) ?_
    refine q_fa ?_
    refine q_fa ?_
    refine q_ld (v := ptrV X.m) (fun w' hw' => hw'.b.cell 0) ?_
    refine q_fa ?_
    refine q_fa ?_
    refine q_ld (v := ptrV t.g) (fun w' hw' => hw'.b.cell 1) ?_
    refine q_fa ?_
    refine q_ld (v := .int .i64 (i : Int)) (fun w' hw' => hw'.t.cell 0) ?_
    refine q_fa ?_
    refine rq (.agg (spC X.m t.g fb (fo + fs.length * 12))) (fun w' hw' => lspf hw'.b ⟨rfl, rfl⟩) ?_
    refine q_fa ?_
    refine q_ixA 2 rfl (by omega) ?_
    refine q_ld (v := .int .u64 (f.R.getD 2 0)) (fun w' hw' => hw'.f.reg 2 (by omega)) ?_
    have J2 := J1.upd0 (Upd.refl [] w1).drew
    refine cl (plan_mm J2.p.ok) ?_
    rintro _ w3 ⟨rfl, hu3⟩
    have J4 := J2.upd0 hu3
    refine ⟨hLF J4, ?_⟩
    refine cl (frow_c J4.fr) ?_
    rintro _ w4 ⟨rfl, hu4⟩
    rw [hr, htr]
    have J5 := J4.upd0 hu4
    refine ⟨hLF J5, ?_⟩
    refine q_ar64 (by omega) ?_
    refine cl (haz_c hg.ok.r i (2 * (r : Int)) w4) ?_
    rintro _ w5 ⟨rfl, hu5⟩
    have J6 := J5.upd0 hu5
    refine ⟨hLF J6, ?_⟩
    refine cl (store_p J6.p.ok hg (by omega) (X.c.haz i (2 * (r : Int))) (f.R.getD 2 0)) ?_
    rintro _ w6 ⟨X7, p7, k7, a7, s7⟩
    have J7 := J6.mem p7 k7 s7
    refine fa ?_
    refine J7.stq (f' := { f with pc := 2 }) 1 (by omega) rfl rfl (frC_pc f 2) fun w8 X8 J8 a8 m8 c8 => ?_
    have e := J8.ev
    rw [a8, a7] at e
    exact fin e
  rw [if_neg c1]
  refine cN c1 ?_
  by_cases c2 : f.pc = 2
  · rw [if_pos c2]
    refine cY c2 ?_
    refine draw_mix 13 [(0, true), (1, true), (2, true), (3, true), (4, true), (5, true), (6, true), (7, true), (8, true), (9, true), (10, true), (11, false), (12, false)] (fun w' => LF w' w.heap.size (spC X.m t.g fb (fo + fs.length * 12)) t.g (thrC (i : Int) t.fv t.r t.pv t.sv t.wv t.rv t.ov) fb (fo + fs.length * 12) f) (by decide +kernel) (hLF (J1.upd0 (Upd.refl [] w1).drew)) ?_
    refine rq (.agg (spC X.m t.g fb (fo + fs.length * 12))) (fun w' hw' => ldw hw'.b rfl ⟨rfl, rfl⟩) ?_
    refine q_fa ?_
    refine q_fa ?_
    refine q_ld (v := ptrV X.m) (fun w' hw' => hw'.b.cell 0) ?_
    refine q_fa ?_
    refine rq (.agg (spC X.m t.g fb (fo + fs.length * 12))) (fun w' hw' => lspf hw'.b ⟨rfl, rfl⟩) ?_
    refine q_fa ?_
    refine q_ixA 2 rfl (by omega) ?_
    refine q_ld (v := .int .u64 (f.R.getD 2 0)) (fun w' hw' => hw'.f.reg 2 (by omega)) ?_
    have J3 := J1.upd0 (Upd.refl [] w1).drew
    refine cl (flink_c J3.p.ok hg.ok.r J3.fr (f.R.getD 2 0) hr h4) ?_
    rintro _ w3 ⟨rfl, hu3⟩
    have J4 := J3.upd0 hu3
    refine ⟨hLF J4, ?_⟩
    obtain ⟨a, ha⟩ : ∃ a, a = X.c.node (toI (f.R.getD 2 0)) (5 + (r : Int)) := ⟨_, rfl⟩
    rw [show X.abs.c = X.c from rfl, ← ha]
    refine cl (load_p J4.p.ok hg (by omega) a) ?_
    rintro _ w4 ⟨rfl, X5, p5, k5, a5, s5⟩
    have J5 := J4.mem p5 k5 s5
    have hv : u64R (X.abs.ldv a) := PS.ldv_bd hg.ok a
    refine ⟨hLF J5, ?_⟩
    have htk := ftake_p J5.p.ok J5.i J5.f hl J5.v hR hr h4 hP hS hW hv
    rw [show X5.m = X.m from k5.m] at htk
    refine cl htk ?_
    rintro _ w6 e
    have e := Ev.before J5.p J5.k e
    unfold fdTake fdSettle at e ⊢
    rw [a5] at e
    exact fin e
  rw [if_neg c2]
  refine cN c2 ?_
  refine cN (by omega) ?_
  refine ldw hb1 rfl ?_
  refine cl (flook_p h1 hg hb hi hfs hl hfv hR hr h4 hP hS hW (by omega)) ?_
  rintro _ w2 e
  exact fin e
end
end Go.Proofs.YtbnbbafffihapaaGreat

/- Find: rows as chains (plain). -/
namespace Go.Proofs.YtbnbbafffihapaaGreat
open Go.RowKit
attribute [local irreducible] Instr.loadAt Instr.storeAt Instr.fieldAt Instr.indexAt Instr.sliceAt Instr.buildSlice Instr.box Instr.alloc Builtin.append_ Builtin.len_ Builtin.min_ Builtin.max_ Calls Instr.build Instr.makeSlice binSem convert Instr.index Instr.range Instr.next
/-- is the node that one stands on marked? -/
def mkf (mk : Nat → Bool) : Nat → Bool
  | 0 => false
  | j + 1 => mk j
def lastF (f : Nat) : List Nat → Nat
  | [] => f
  | j :: c => lastF (j + 1) c
def Asc (f : Nat) : List Nat → Prop
  | [] => True
  | j :: c => f ≤ j ∧ Asc (j + 1) c
def hdN : List Nat → Int
  | [] => 2
  | j :: _ => (j : Int) + 3
/-- a row from a node on -/
def Chn (W : List Int) (N : Nat) (mk : Nat → Bool) (k : Nat) (f : Nat) : List Nat → Prop
  | [] => ptrW (W.getD (adr N f (5 + k)) 0) = 2 ∧ markW (W.getD (adr N f (5 + k)) 0) = mkf mk f
  | j :: c => ptrW (W.getD (adr N f (5 + k)) 0) = (j : Int) + 3 ∧ markW (W.getD (adr N f (5 + k)) 0) = mkf mk f ∧ Chn W N mk k (j + 1) c
theorem lastF_app (f : Nat) (a b : List Nat) : lastF f (a ++ b) = lastF (lastF f a) b := by
  induction a generalizing f with
  | nil => rfl
  | cons j a ih => exact ih (j + 1)
theorem Asc.weak {f g : Nat} {c : List Nat} (h : Asc f c) (hg : g ≤ f) : Asc g c := by
  cases c with
  | nil => trivial
  | cons j c => exact ⟨by have := h.1; omega, h.2⟩
theorem Asc.ge {f : Nat} {c : List Nat} (h : Asc f c) : ∀ j ∈ c, f ≤ j := by
  induction c generalizing f with
  | nil => intro j hj; cases hj
  | cons i c ih =>
    intro j hj
    rcases List.mem_cons.1 hj with rfl | hj
    · exact h.1
    · have := ih h.2 j hj
      have := h.1
      omega
theorem Asc.right {f : Nat} {a b : List Nat} (h : Asc f (a ++ b)) : Asc (lastF f a) b := by
  induction a generalizing f with
  | nil => exact h
  | cons j a ih => exact ih h.2
theorem Asc.drop {f : Nat} {a : List Nat} {j : Nat} {b : List Nat} (h : Asc f (a ++ j :: b)) : Asc f (a ++ b) := by
  induction a generalizing f with
  | nil => exact Asc.weak h.2 (by have := h.1; omega)
  | cons i a ih => exact ⟨h.1, ih h.2⟩
theorem Asc.left {f : Nat} {a b : List Nat} (h : Asc f (a ++ b)) : Asc f a := by
  induction a generalizing f with
  | nil => trivial
  | cons i a ih => exact ⟨h.1, ih h.2⟩
theorem Asc.lt_last {f : Nat} {a : List Nat} (h : Asc f a) : f ≤ lastF f a ∧ ∀ j ∈ a, j < lastF f a := by
  induction a generalizing f with
  | nil => exact ⟨Nat.le_refl _, fun j hj => by cases hj⟩
  | cons i a ih =>
    obtain ⟨h1, h2⟩ := ih h.2
    have := h.1
    refine ⟨by show f ≤ lastF (i + 1) a; omega, fun j hj => ?_⟩
    rcases List.mem_cons.1 hj with rfl | hj
    · show j < lastF (j + 1) a; omega
    · exact h2 j hj
section
variable {W W' : List Int} {N : Nat} {mk : Nat → Bool} {k f : Nat}
theorem Chn.mark {c : List Nat} (h : Chn W N mk k f c) : ptrW (W.getD (adr N f (5 + k)) 0) = hdN c ∧ markW (W.getD (adr N f (5 + k)) 0) = mkf mk f := by
  cases c with
  | nil => exact h
  | cons j c => exact ⟨h.1, h.2.1⟩
theorem Chn.at_ {a b : List Nat} (h : Chn W N mk k f (a ++ b)) : Chn W N mk k (lastF f a) b := by
  induction a generalizing f with
  | nil => exact h
  | cons j a ih => exact ih h.2.2
theorem Chn.congr {c : List Nat} (h : Chn W N mk k f c) (hf : W'.getD (adr N f (5 + k)) 0 = W.getD (adr N f (5 + k)) 0) (hc : ∀ j ∈ c, W'.getD (adr N (j + 1) (5 + k)) 0 = W.getD (adr N (j + 1) (5 + k)) 0) : Chn W' N mk k f c := by
  induction c generalizing f with
  | nil => unfold Chn; rw [hf]; exact h
  | cons j c ih =>
    unfold Chn
    rw [hf]
    exact ⟨h.1, h.2.1, ih h.2.2 (hc j (List.mem_cons_self ..)) fun i hi => hc i (List.mem_cons_of_mem _ hi)⟩
/-- a place that lies in no row -/
theorem Chn.other {c : List Nat} (h : Chn W N mk k f c) {a : Nat} (ha : ∀ i, a ≠ adr N i (5 + k)) (x : Int) : Chn (W.set a x) N mk k f c :=
  h.congr (getD_set_ne' (ha f) x) fun j _ => getD_set_ne' (ha (j + 1)) x
/-- a node is cut out -/
theorem Chn.cut {a b : List Nat} {j : Nat} (hk : k < 4) (h : Chn W N mk k f (a ++ j :: b)) (hs : Asc f (a ++ j :: b)) {x : Int} (hl : adr N (lastF f a) (5 + k) < W.length) (hp : ptrW x = ptrW (W.getD (adr N (j + 1) (5 + k)) 0)) (hm : markW x = mkf mk (lastF f a)) : Chn (W.set (adr N (lastF f a) (5 + k)) x) N mk k f (a ++ b) := by
  induction a generalizing f with
  | nil =>
    have h2 := h.2.2.mark
    have h1 : j + 1 ≠ f := by have := hs.1; omega
    show Chn (W.set (adr N f (5 + k)) x) N mk k f b
    have hge := hs.2.ge
    have hlt := hs.1
    have hnew : (W.set (adr N f (5 + k)) x).getD (adr N f (5 + k)) 0 = x := getD_set_eq hl x
    have hold : ∀ i ∈ b, (W.set (adr N f (5 + k)) x).getD (adr N (i + 1) (5 + k)) 0 = W.getD (adr N (i + 1) (5 + k)) 0 := fun i hi =>
      getD_set_ne' (adr_ne (by omega) (by omega) (.inl (by have := hge i hi; omega))) x
    have h3 := h.2.2
    cases b with
    | nil =>
      unfold Chn
      rw [hnew, hp]
      exact ⟨h3.1, hm⟩
    | cons i b =>
      unfold Chn
      rw [hnew, hp]
      refine ⟨h3.1, hm, h3.2.2.congr (hold i (List.mem_cons_self ..)) fun q hq => hold q (List.mem_cons_of_mem _ hq)⟩
  | cons i a ih =>
    have hq := ih h.2.2 hs.2 hl hm
    have hle : i + 1 ≤ lastF (i + 1) a := (Asc.lt_last (Asc.left hs.2)).1
    have hne : (W.set (adr N (lastF f (i :: a)) (5 + k)) x).getD (adr N f (5 + k)) 0 = W.getD (adr N f (5 + k)) 0 :=
      getD_set_ne' (adr_ne (by omega) (by omega) (.inl (by show lastF (i + 1) a ≠ f; have := hs.1; omega))) x
    show Chn _ N mk k f (i :: (a ++ b))
    unfold Chn
    rw [hne]
    exact ⟨h.1, h.2.1, hq⟩
end
/-- a row is looked through: what is marked is cut out, what is below is passed -/
def sk (mk lt : Nat → Bool) (a : List Nat) : List Nat → List Nat × List Nat
  | [] => (a, [])
  | j :: b => if mk j then sk mk lt a b else if lt j then sk mk lt (a ++ [j]) b else (a, j :: b)
theorem sk_cut {mk lt : Nat → Bool} {a : List Nat} {j : Nat} {b : List Nat} (h : mk j = true) : sk mk lt a (j :: b) = sk mk lt a b := by rw [sk, if_pos h]
theorem sk_pass {mk lt : Nat → Bool} {a : List Nat} {j : Nat} {b : List Nat} (h : mk j = false) (h2 : lt j = true) : sk mk lt a (j :: b) = sk mk lt (a ++ [j]) b := by rw [sk, if_neg (by rw [h]; decide), if_pos h2]
theorem sk_stop {mk lt : Nat → Bool} {a : List Nat} {j : Nat} {b : List Nat} (h : mk j = false) (h2 : lt j = false) : sk mk lt a (j :: b) = (a, j :: b) := by rw [sk, if_neg (by rw [h]; decide), if_neg (by rw [h2]; decide)]
/-- nothing is cut out -/
def cln (mk lt : Nat → Bool) : List Nat → Bool
  | [] => true
  | j :: b => if mk j then false else if lt j then cln mk lt b else true
/-- where the rows end -/
def rowE (C0 : Nat → List Nat) (mk : Nat → Nat → Bool) (lt : Nat → Bool) : Nat → List Nat × List Nat
  | 0 => ([], [])
  | m + 1 => sk (mk (3 - m)) lt ((C0 (3 - m)).filter (fun j => decide (j < lastF 0 (rowE C0 mk lt m).1))) ((C0 (3 - m)).filter (fun j => !decide (j < lastF 0 (rowE C0 mk lt m).1)))
def endR (C0 : Nat → List Nat) (mk : Nat → Nat → Bool) (lt : Nat → Bool) (k : Nat) : List Nat × List Nat := rowE C0 mk lt (4 - k)
/-- from where a row is looked through -/
def frm (C0 : Nat → List Nat) (mk : Nat → Nat → Bool) (lt : Nat → Bool) (k : Nat) : Nat := lastF 0 (rowE C0 mk lt (3 - k)).1
def lowP (f : Nat) (j : Nat) : Bool := decide (j < f)
theorem endR_eq {C0 : Nat → List Nat} {mk : Nat → Nat → Bool} {lt : Nat → Bool} {k : Nat} (h : k < 4) : endR C0 mk lt k = sk (mk k) lt ((C0 k).filter (lowP (frm C0 mk lt k))) ((C0 k).filter (fun j => !lowP (frm C0 mk lt k) j)) := by
  unfold endR
  rw [show 4 - k = (3 - k) + 1 by omega, rowE, show 3 - (3 - k) = k by omega]
  rfl
theorem frm_s {C0 : Nat → List Nat} {mk : Nat → Nat → Bool} {lt : Nat → Bool} {k : Nat} (h : k < 3) : frm C0 mk lt k = lastF 0 (endR C0 mk lt (k + 1)).1 := by
  unfold frm endR
  rw [show 4 - (k + 1) = 3 - k by omega]
theorem frm_3 {C0 : Nat → List Nat} {mk : Nat → Nat → Bool} {lt : Nat → Bool} : frm C0 mk lt 3 = 0 := rfl
theorem asc_split {f g : Nat} {c : List Nat} (h : Asc f c) : c.filter (lowP g) ++ c.filter (fun j => !lowP g j) = c := by
  induction c generalizing f with
  | nil => rfl
  | cons j c ih =>
    by_cases hj : j < g
    · rw [List.filter_cons_of_pos (by unfold lowP; exact decide_eq_true hj), List.filter_cons_of_neg (by unfold lowP; simpa using hj), List.cons_append, ih h.2]
    · have hall : ∀ i ∈ c, ¬ i < g := fun i hi => by have := h.2.ge i hi; omega
      rw [List.filter_cons_of_neg (by unfold lowP; simpa using hj), List.filter_cons_of_pos (by unfold lowP; simpa using hj)]
      have e1 : c.filter (lowP g) = [] := List.filter_eq_nil_iff.2 fun i hi => by unfold lowP; simpa using hall i hi
      have e2 : c.filter (fun j => !lowP g j) = c := List.filter_eq_self.2 fun i hi => by unfold lowP; simpa using hall i hi
      rw [e1, e2]; rfl
/-- up to a node of the row -/
theorem lastF_filter {f g : Nat} {c : List Nat} (h : Asc f c) (hg : g = 0 ∨ (g - 1 ∈ c ∧ 0 < g)) (hf : f ≤ g) : lastF f (c.filter (lowP g)) = g := by
  induction c generalizing f with
  | nil =>
    rcases hg with rfl | hg
    · show f = 0; omega
    · cases hg.1
  | cons j c ih =>
    by_cases hj : j < g
    · rw [List.filter_cons_of_pos (by unfold lowP; exact decide_eq_true hj)]
      show lastF (j + 1) _ = g
      rcases hg with rfl | ⟨hg, h0⟩
      · omega
      · rcases List.mem_cons.1 hg with hq | hq
        · have hall : ∀ i ∈ c, ¬ i < g := fun i hi => by have := h.2.ge i hi; omega
          have e1 : c.filter (lowP g) = [] := List.filter_eq_nil_iff.2 fun i hi => by unfold lowP; simpa using hall i hi
          rw [e1]
          show j + 1 = g; omega
        · exact ih h.2 (.inr ⟨hq, h0⟩) (by omega)
    · have hall : ∀ i ∈ c, ¬ i < g := fun i hi => by have := h.2.ge i hi; omega
      rw [List.filter_cons_of_neg (by unfold lowP; simpa using hj)]
      have e1 : c.filter (lowP g) = [] := List.filter_eq_nil_iff.2 fun i hi => by unfold lowP; simpa using hall i hi
      rw [e1]
      show f = g
      rcases hg with rfl | ⟨hg, h0⟩
      · omega
      · rcases List.mem_cons.1 hg with hq | hq
        · omega
        · exact absurd (show g - 1 < g by omega) (hall _ hq)
/-- what sk leaves of a row -/
theorem sk_fst {mk lt : Nat → Bool} : ∀ (b a : List Nat), ∃ x y, sk mk lt a b = (a ++ x, y) ∧ (∀ j ∈ x, j ∈ b ∧ mk j = false ∧ lt j = true) ∧ (∀ j ∈ y, j ∈ b) ∧ (∀ f, Asc f (a ++ b) → Asc f (a ++ x ++ y)) := by
  intro b
  induction b with
  | nil => intro a; exact ⟨[], [], by rw [sk, List.append_nil], fun j hj => (by cases hj), fun j hj => (by cases hj), fun f h => by simpa using h⟩
  | cons i b ih =>
    intro a
    cases hm : mk i with
    | true =>
      rw [sk_cut hm]
      obtain ⟨x, y, h1, h2, h3, h4⟩ := ih a
      exact ⟨x, y, h1, fun j hj => ⟨List.mem_cons_of_mem _ (h2 j hj).1, (h2 j hj).2⟩, fun j hj => List.mem_cons_of_mem _ (h3 j hj), fun f h => h4 f h.drop⟩
    | false =>
      cases hl : lt i with
      | true =>
        rw [sk_pass hm hl]
        obtain ⟨x, y, h1, h2, h3, h4⟩ := ih (a ++ [i])
        refine ⟨i :: x, y, by rw [h1, List.append_assoc]; rfl, fun j hj => ?_, fun j hj => List.mem_cons_of_mem _ (h3 j hj), fun f h => ?_⟩
        · rcases List.mem_cons.1 hj with rfl | hj
          · exact ⟨List.mem_cons_self .., hm, hl⟩
          · exact ⟨List.mem_cons_of_mem _ (h2 j hj).1, (h2 j hj).2⟩
        · have := h4 f (by rw [List.append_assoc]; exact h)
          rwa [List.append_assoc a [i] x] at this
      | false =>
        rw [sk_stop hm hl]
        exact ⟨[], i :: b, by simp, fun j hj => (by cases hj), fun j hj => hj, fun f h => by simpa using h⟩
theorem lastF_mem {f : Nat} : ∀ {a : List Nat}, lastF f a = f ∨ (lastF f a - 1 ∈ a ∧ 0 < lastF f a)
  | [] => .inl rfl
  | j :: a => by
    rcases lastF_mem (f := j + 1) (a := a) with h | h
    · right
      show lastF (j + 1) a - 1 ∈ j :: a ∧ 0 < lastF (j + 1) a
      rw [h]
      exact ⟨by simp, by omega⟩
    · right
      exact ⟨List.mem_cons_of_mem _ h.1, h.2⟩
end Go.Proofs.YtbnbbafffihapaaGreat

/- Find: the invariant of a search (plain). -/
namespace Go.Proofs.YtbnbbafffihapaaGreat
open Go.RowKit
attribute [local irreducible] Instr.loadAt Instr.storeAt Instr.fieldAt Instr.indexAt Instr.sliceAt Instr.buildSlice Instr.box Instr.alloc Builtin.append_ Builtin.len_ Builtin.min_ Builtin.max_ Calls Instr.build Instr.makeSlice binSem convert Instr.index Instr.range Instr.next
/-- the search's givens: order numbers, how many nodes, room, marks, the rows as at first, the number, whether nothing is to be cut, the memory as at first -/
structure FP where
  (o : Nat → Int)
  (cnt N : Nat)
  (mr : Nat → Nat → Bool)
  (C0 : Nat → List Nat)
  (n : Int)
  (Q : Prop)
  (Wz : List Int)
def FP.lt (g : FP) (j : Nat) : Bool := decide (g.o j < g.n)
def FP.E (g : FP) (k : Nat) : List Nat × List Nat := endR g.C0 g.mr g.lt k
def FP.fr (g : FP) (k : Nat) : Nat := frm g.C0 g.mr g.lt k
structure FP.Ok (g : FP) : Prop where
  N : g.cnt + 2 ≤ g.N ∧ g.N ≤ 20 ∧ 3 ≤ g.N
  asc : ∀ k, k < 4 → Asc 0 (g.C0 k)
  mem : ∀ k, k < 4 → ∀ j ∈ g.C0 k, j < g.cnt
  pre : ∀ k, k < 4 → g.fr k = 0 ∨ (g.fr k - 1 ∈ g.C0 k ∧ 0 < g.fr k)
  unm : ∀ k, k < 4 → mkf (g.mr k) (g.fr k) = false
  cl : g.Q → ∀ k, k < 4 → cln (g.mr k) g.lt ((g.C0 k).filter (fun j => !lowP (g.fr k) j)) = true
/-- a memory differs from another in its slots alone -/
def SameH (W W0 : List Int) : Prop := W.length = W0.length ∧ ∀ a, ¬ (8 ≤ a ∧ a < 18) → W.getD a 0 = W0.getD a 0
theorem SameH.refl (W : List Int) : SameH W W := ⟨rfl, fun _ _ => rfl⟩
theorem SameH.slot {W W0 : List Int} (h : SameH W W0) {a : Nat} (ha : 8 ≤ a ∧ a < 18) (x : Int) : SameH (W.set a x) W0 := ⟨by rw [List.length_set]; exact h.1, fun b h1 => by
  rw [← h.2 b h1, getD_set_ne' (by omega)]⟩
theorem adr_ge {N i f : Nat} : 18 ≤ adr N i f := by unfold adr; omega
structure Bs (g : FP) (C : Nat → List Nat) (W : List Int) (t : PT) : Prop where
  len : W.length = 18 + 10 * g.N
  u : ∀ x ∈ W, u64R x
  ch : ∀ k, k < 4 → Chn W g.N (g.mr k) k 0 (C k)
  asc : ∀ k, k < 4 → Asc 0 (C k)
  mem : ∀ k, k < 4 → ∀ j ∈ C k, j < g.cnt
  ord : ∀ j, j < g.cnt → W.getD (adr g.N (j + 1) 0) 0 = g.o j
  lens : t.P.length = 4 ∧ t.S.length = 4 ∧ t.W.length = 4
  same : g.Q → SameH W g.Wz
structure Dn (g : FP) (C : Nat → List Nat) (W : List Int) (t : PT) (k : Nat) : Prop where
  p : t.P.getD k 0 = predN (lastF 0 (g.E k).1)
  s : t.S.getD k 0 = hdN (g.E k).2
  w : t.W.getD k 0 = W.getD (adr g.N (lastF 0 (g.E k).1) (5 + k)) 0
  h0 : W.getD (8 + 2 * k) 0 = predN (lastF 0 (g.E k).1)
  h1 : hdN (g.E k).2 ≠ 2 → W.getD (8 + 2 * k + 1) 0 = hdN (g.E k).2
  c : C k = (g.E k).1 ++ (g.E k).2
structure Rn (g : FP) (C : Nat → List Nat) (W : List Int) (t : PT) (R : List Int) (pc : Int) (r : Nat) (a b : List Nat) : Prop where
  r1 : R.getD 1 0 = (r : Int)
  r2 : R.getD 2 0 = predN (lastF 0 a)
  c : C r = a ++ b
  go : sk (g.mr r) g.lt a b = g.E r
  un : mkf (g.mr r) (lastF 0 a) = false
  low : ∀ k, k < r → C k = g.C0 k
  done : ∀ k, r < k → k < 4 → Dn g C W t k
  cl : g.Q → cln (g.mr r) g.lt b = true
  p2 : 2 ≤ pc → W.getD (8 + 2 * r) 0 = predN (lastF 0 a)
  p3 : 3 ≤ pc → R.getD 3 0 = W.getD (adr g.N (lastF 0 a) (5 + r)) 0 ∧ b ≠ []
  p4 : 4 ≤ pc → W.getD (8 + 2 * r + 1) 0 = hdN b
  p6 : pc = 6 → ∃ j b', b = j :: b' ∧ g.mr r j = true ∧ R.getD 4 0 = W.getD (adr g.N (j + 1) (5 + r)) 0
  p7 : pc = 7 → ∃ j b', b = j :: b' ∧ g.mr r j = false
structure SF (g : FP) (C : Nat → List Nat) (W : List Int) (t : PT) (R : List Int) (pc : Int) (r : Nat) (a b : List Nat) : Prop where
  bs : Bs g C W t
  tfs : t.fs = [⟨20, pc, R⟩]
  hR : ∀ j, u64R (R.getD j 0)
  r0 : R.getD 0 0 = g.n
  pcb : 0 ≤ pc ∧ pc ≤ 7
  r4 : r < 4
  ini : pc = 0 → ∀ k, k < 4 → C k = g.C0 k
  run : pc ≠ 0 → Rn g C W t R pc r a b
def muF (pc : Int) (r : Nat) (b : List Nat) : Nat := if pc = 0 then 800 else 8 * (20 * r + b.length) + (8 - pc).toNat
structure FinF (g : FP) (C : Nat → List Nat) (W : List Int) (t : PT) : Prop where
  b : Bs g C W t
  fs : t.fs = []
  all : ∀ k, k < 4 → Dn g C W t k
/-- what a step does -/
def NxF (g : FP) (q : PS) (k : Int) (m : Nat) : Prop :=
  ∃ C' W' t', q = MX 1 g.N W' (k + 1) true t' ∧ (FinF g C' W' t' ∨ ∃ R' pc' r' a' b', SF g C' W' t' R' pc' r' a' b' ∧ pc' ≠ 0 ∧ muF pc' r' b' < m)
section
variable {g : FP} {C : Nat → List Nat} {W W' : List Int} {t t' : PT} {R R' : List Int} {pc pc' : Int} {r : Nat} {a b : List Nat}
theorem Bs.of (h : Bs g C W t) (h1 : t'.P.length = t.P.length) (h2 : t'.S.length = t.S.length) (h3 : t'.W.length = t.W.length) : Bs g C W t' :=
  ⟨h.len, h.u, h.ch, h.asc, h.mem, h.ord, by rw [h1, h2, h3]; exact h.lens, h.same⟩
theorem Bs.slot (h : Bs g C W t) {x : Int} {i : Nat} (hi : 8 ≤ i ∧ i < 18) (hx : u64R x) : Bs g C (W.set i x) t :=
  ⟨by rw [List.length_set]; exact h.len, fun y hy => mem_set_u h.u hx hy, fun k hk => (h.ch k hk).other (fun j => by have := @adr_ge g.N j (5 + k); omega) x, h.asc, h.mem,
    fun j hj => by rw [getD_set_ne' (by have := @adr_ge g.N (j + 1) 0; omega)]; exact h.ord j hj, h.lens, fun hq => (h.same hq).slot hi x⟩
theorem Dn.of {k : Nat} {C' : Nat → List Nat} (h : Dn g C W t k) (hP : t'.P.getD k 0 = t.P.getD k 0) (hS : t'.S.getD k 0 = t.S.getD k 0) (hW : t'.W.getD k 0 = t.W.getD k 0) (h0 : W'.getD (8 + 2 * k) 0 = W.getD (8 + 2 * k) 0) (h1 : W'.getD (8 + 2 * k + 1) 0 = W.getD (8 + 2 * k + 1) 0) (h2 : ∀ f, W'.getD (adr g.N f (5 + k)) 0 = W.getD (adr g.N f (5 + k)) 0) (hC : C' k = C k) : Dn g C' W' t' k :=
  ⟨by rw [hP]; exact h.p, by rw [hS]; exact h.s, by rw [hW, h2]; exact h.w, by rw [h0]; exact h.h0, fun hq => by rw [h1]; exact h.h1 hq, by rw [hC]; exact h.c⟩
theorem asc_len {f m : Nat} {c : List Nat} (h : Asc f c) (hm : ∀ j ∈ c, j < m) (hf : f ≤ m) : c.length + f ≤ m := by
  induction c generalizing f with
  | nil => show 0 + f ≤ m; omega
  | cons j c ih =>
    have h1 := hm j (List.mem_cons_self ..)
    have := ih h.2 (fun i hi => hm i (List.mem_cons_of_mem _ hi)) (by omega)
    have := h.1
    show c.length + 1 + f ≤ m
    omega
theorem lastF_le {f m : Nat} {c : List Nat} (hm : ∀ j ∈ c, j < m) (hf : f ≤ m) : lastF f c ≤ m := by
  induction c generalizing f with
  | nil => exact hf
  | cons j c ih => exact ih (fun i hi => hm i (List.mem_cons_of_mem _ hi)) (hm j (List.mem_cons_self ..))
theorem Rn.start (hk : g.Ok) (h4 : r < 4) (h1 : R.getD 1 0 = (r : Int)) (h2 : R.getD 2 0 = predN (g.fr r)) (hC : ∀ k, k ≤ r → C k = g.C0 k) (hd : ∀ k, r < k → k < 4 → Dn g C W t k) : Rn g C W t R 1 r ((g.C0 r).filter (lowP (g.fr r))) ((g.C0 r).filter (fun j => !lowP (g.fr r) j)) := by
  have hl := lastF_filter (f := 0) (hk.asc r h4) (hk.pre r h4) (Nat.zero_le _)
  exact ⟨h1, by rw [hl]; exact h2, by rw [hC r (Nat.le_refl _), asc_split (hk.asc r h4)], (endR_eq h4).symm, by rw [hl]; exact hk.unm r h4, fun k h => hC k (by omega), hd, fun hq => hk.cl hq r h4, fun h => absurd h (by omega), fun h => absurd h (by omega), fun h => absurd h (by omega), fun h => absurd h (by omega), fun h => absurd h (by omega)⟩
theorem Rn.to (Q : Rn g C W t R pc r a b) (h1 : R'.getD 1 0 = R.getD 1 0) (h2 : R'.getD 2 0 = R.getD 2 0) (hd : ∀ k, r < k → k < 4 → Dn g C W t k → Dn g C W' t' k)
    (p2 : 2 ≤ pc' → W'.getD (8 + 2 * r) 0 = predN (lastF 0 a)) (p3 : 3 ≤ pc' → R'.getD 3 0 = W'.getD (adr g.N (lastF 0 a) (5 + r)) 0 ∧ b ≠ []) (p4 : 4 ≤ pc' → W'.getD (8 + 2 * r + 1) 0 = hdN b)
    (p6 : pc' = 6 → ∃ j b', b = j :: b' ∧ g.mr r j = true ∧ R'.getD 4 0 = W'.getD (adr g.N (j + 1) (5 + r)) 0) (p7 : pc' = 7 → ∃ j b', b = j :: b' ∧ g.mr r j = false) : Rn g C W' t' R' pc' r a b :=
  ⟨by rw [h1]; exact Q.r1, by rw [h2]; exact Q.r2, Q.c, Q.go, Q.un, Q.low, fun k hk h4 => hd k hk h4 (Q.done k hk h4), Q.cl, p2, p3, p4, p6, p7⟩
theorem Rn.la (Q : Rn g C W t R pc r a b) (hB : Bs g C W t) (h4 : r < 4) : lastF 0 a ≤ g.cnt := lastF_le (fun j hj => hB.mem r h4 j (by rw [Q.c]; exact List.mem_append_left _ hj)) (Nat.zero_le _)
theorem Rn.bl (Q : Rn g C W t R pc r a b) (hB : Bs g C W t) (h4 : r < 4) : b.length ≤ g.cnt := by
  have h1 := hB.asc r h4
  rw [Q.c] at h1
  have h2 := asc_len (m := g.cnt) h1.right (fun j hj => hB.mem r h4 j (by rw [Q.c]; exact List.mem_append_right _ hj)) (Q.la hB h4)
  omega
theorem Rn.chn (Q : Rn g C W t R pc r a b) (hB : Bs g C W t) (h4 : r < 4) : Chn W g.N (g.mr r) r (lastF 0 a) b := by
  have h1 := hB.ch r h4
  rw [Q.c] at h1
  exact h1.at_
/-- a row ends -/
theorem settle_F (hk : g.Ok) (hB : Bs g C W t) (hR : ∀ j, u64R (R.getD j 0)) (h0 : R.getD 0 0 = g.n) (h4 : r < 4) (Q : Rn g C W t R pc r a b) (hpc : 2 ≤ pc) (h3 : R.getD 3 0 = W.getD (adr g.N (lastF 0 a) (5 + r)) 0) (hend : sk (g.mr r) g.lt a b = (a, b)) (hs1 : hdN b ≠ 2 → W.getD (8 + 2 * r + 1) 0 = hdN b) (x : Int) (k : Int) {m : Nat} (hm : 160 * r ≤ m) :
    NxF g (fdSettle (MX 1 g.N W (k + 1) true t) 0 t [] ⟨20, x, R⟩ r) k m := by
  obtain ⟨l1, l2, l3⟩ := hB.lens
  have hE : g.E r = (a, b) := by rw [← Q.go]; exact hend
  have hw := (Q.chn hB h4).mark
  have hnew : ∀ t' : PT, t'.P = t.P.set r (R.getD 2 0) → t'.S = t.S.set r (ptrW (R.getD 3 0)) → t'.W = t.W.set r (R.getD 3 0) → ∀ k, r ≤ k → k < 4 → Dn g C W t' k := fun t' e1 e2 e3 k h1 h2 => by
    rcases Nat.lt_or_ge r k with h | h
    · exact (Q.done k h h2).of (by rw [e1, getD_set_ne' (by omega)]) (by rw [e2, getD_set_ne' (by omega)]) (by rw [e3, getD_set_ne' (by omega)]) rfl rfl (fun _ => rfl) rfl
    · obtain rfl : k = r := by omega
      refine ⟨?_, ?_, ?_, ?_, ?_, ?_⟩
      · rw [e1, getD_set_eq (by omega), hE]; exact Q.r2
      · rw [e2, getD_set_eq (by omega), hE, h3]; exact hw.1
      · rw [e3, getD_set_eq (by omega), hE, h3]
      · rw [hE]; exact Q.p2 hpc
      · rw [hE]; exact hs1
      · rw [hE]; exact Q.c
  unfold fdSettle
  by_cases hr : r = 0
  · subst hr
    rw [if_pos rfl]
    exact ⟨C, W, _, rfl, .inl ⟨hB.of (by simp) (by simp) (by simp), rfl, fun k hk => hnew _ rfl rfl rfl k (by omega) hk⟩⟩
  · rw [if_neg hr]
    obtain ⟨s, rfl⟩ : ∃ s, r = s + 1 := ⟨r - 1, by omega⟩
    have hfr : g.fr s = lastF 0 a := by
      have : g.fr s = lastF 0 (g.E (s + 1)).1 := frm_s (by omega)
      rw [this, hE]
    have hB' : Bs g C W { t with P := t.P.set (s + 1) (R.getD 2 0), W := t.W.set (s + 1) (R.getD 3 0), S := t.S.set (s + 1) (ptrW (R.getD 3 0)), fs := [] ++ [⟨20, 1, regI R 1 (((s + 1 : Nat) : Int) - 1)⟩] } := hB.of (by simp) (by simp) (by simp)
    have Q' := Rn.start (W := W) (C := C) (R := regI R 1 (((s + 1 : Nat) : Int) - 1)) (t := { t with P := t.P.set (s + 1) (R.getD 2 0), W := t.W.set (s + 1) (R.getD 3 0), S := t.S.set (s + 1) (ptrW (R.getD 3 0)), fs := [] ++ [⟨20, 1, regI R 1 (((s + 1 : Nat) : Int) - 1)⟩] }) hk (r := s) (by omega) (by rw [regI_at _ _ _ _ (by omega), if_pos rfl]; omega) (by rw [regI_at _ _ _ _ (by omega), if_neg (by omega), hfr]; exact Q.r2) (fun k hk => Q.low k (by omega)) (fun k h1 h2 => hnew _ rfl rfl rfl k (by omega) h2)
    refine ⟨C, W, _, rfl, .inr ⟨_, 1, s, _, _, ⟨hB', rfl, regI_u64 hR ⟨by omega, by omega⟩, by rw [regI_at _ _ _ _ (by omega), if_neg (by omega)]; exact h0, by omega, by omega, fun h => absurd h (by omega), fun _ => Q'⟩, by decide, ?_⟩⟩
    have hbl := Q'.bl hB' (by omega)
    have hN := hk.N
    unfold muF
    rw [if_neg (by decide), show ((8 : Int) - 1).toNat = 7 from rfl]
    omega
/-- a word that points to the next node is taken -/
theorem take_F (hk : g.Ok) (hB : Bs g C W t) (hR : ∀ j, u64R (R.getD j 0)) (h0 : R.getD 0 0 = g.n) (h4 : r < 4) (Q : Rn g C W t R pc r a b) (hpc : 2 ≤ pc) {v : Int} (hv : v = W.getD (adr g.N (lastF 0 a) (5 + r)) 0) (x : Int) (k : Int) {m : Nat} (hm : 8 * (20 * r + b.length) + 5 < m) :
    NxF g (fdTake (MX 1 g.N W (k + 1) true t) 0 t [] ⟨20, x, R⟩ r v) k m := by
  have hw := (Q.chn hB h4).mark
  rw [← hv, Q.un] at hw
  have hN := hk.N
  have hla := Q.la hB h4
  have hu : u64R v := by
    rw [hv]
    exact u64_getD hB.u _
  have g1 : ∀ j, j < 10 → j ≠ 3 → (regI R 3 v).getD j 0 = R.getD j 0 := fun j h1 h2 => by rw [regI_at _ _ _ _ h1, if_neg h2]
  have g3 : (regI R 3 v).getD 3 0 = v := by rw [regI_at _ _ _ _ (by omega), if_pos rfl]
  unfold fdTake
  rw [if_neg (by rw [hw.2]; decide)]
  cases hb : b with
  | nil =>
    rw [hb] at hw Q
    rw [if_pos (show ptrW v = 2 from hw.1)]
    refine settle_F hk hB (regI_u64 hR hu) (by show (regI R 3 v).getD 0 0 = _; rw [g1 0 (by omega) (by omega)]; exact h0) h4 (Q.to (pc' := 2) (R' := regI R 3 v) (W' := W) (t' := t) (g1 1 (by omega) (by omega)) (g1 2 (by omega) (by omega)) (fun _ _ _ d => d) (fun _ => Q.p2 hpc) (fun h => absurd h (by omega)) (fun h => absurd h (by omega)) (fun h => absurd h (by omega)) (fun h => absurd h (by omega))) (by omega) (by rw [g3, hv]) rfl (fun hq => absurd rfl hq) x k (by omega)
  | cons j b' =>
    rw [hb] at hw Q
    have hp : ptrW v = (j : Int) + 3 := hw.1
    rw [if_neg (by omega)]
    refine ⟨C, W, topped t [] ⟨20, 3, regI R 3 v⟩, rfl, .inr ⟨regI R 3 v, 3, r, a, j :: b', ⟨hB.of rfl rfl rfl, rfl, regI_u64 hR hu, by rw [g1 0 (by omega) (by omega)]; exact h0, by omega, h4, fun h => absurd h (by omega), fun _ => ?_⟩, by decide, ?_⟩⟩
    · exact Q.to (pc' := 3) (g1 1 (by omega) (by omega)) (g1 2 (by omega) (by omega)) (fun k _ _ d => d.of rfl rfl rfl rfl rfl (fun _ => rfl) rfl) (fun _ => Q.p2 hpc) (fun _ => ⟨by rw [g3, hv], by simp⟩) (fun h => absurd h (by omega)) (fun h => absurd h (by omega)) (fun h => absurd h (by omega))
    · rw [hb] at hm
      unfold muF
      rw [if_neg (by decide), show ((8 : Int) - 3).toNat = 5 from rfl]
      exact hm
end
end Go.Proofs.YtbnbbafffihapaaGreat

/- Find: a step of a search keeps its invariant (plain). -/
namespace Go.Proofs.YtbnbbafffihapaaGreat
open Go.RowKit
attribute [local irreducible] Instr.loadAt Instr.storeAt Instr.fieldAt Instr.indexAt Instr.sliceAt Instr.buildSlice Instr.box Instr.alloc Builtin.append_ Builtin.len_ Builtin.min_ Builtin.max_ Calls Instr.build Instr.makeSlice binSem convert Instr.index Instr.range Instr.next
section
variable {g : FP} {C : Nat → List Nat} {W : List Int} {t : PT} {R : List Int} {pc : Int} {r : Nat} {a b : List Nat}
theorem node_f {N f r : Nat} (hN : f + 2 ≤ N ∧ N ≤ 20) (hr : r < 4) : (cA 1 (N : Int)).node (toI (predN f)) (5 + (r : Int)) = (adr N f (5 + r) : Int) := by
  have hp : 1 ≤ predN f ∧ predN f ≤ 100 := by unfold predN; split <;> omega
  rw [show toI (predN f) = predN f from IntWalk.i64_in _ (by omega), show (5 : Int) + (r : Int) = ((5 + r : Nat) : Int) by omega, adr_nodeA (.inl rfl) hN.1 (by omega)]
theorem order_f {N j : Nat} (hN : j + 3 ≤ N ∧ N ≤ 20) : (cA 1 (N : Int)).node (toI (predN (j + 1))) 0 = (adr N (j + 1) 0 : Int) := by
  have hp : 1 ≤ predN (j + 1) ∧ predN (j + 1) ≤ 100 := by rw [predN_s]; omega
  rw [show toI (predN (j + 1)) = predN (j + 1) from IntWalk.i64_in _ (by omega), show (0 : Int) = ((0 : Nat) : Int) from rfl, adr_nodeA (.inl rfl) (by omega) (by omega)]
theorem haz_cA {N k : Int} (h1 : 0 ≤ k) (h2 : k ≤ 9) : (cA 1 N).haz ((0 : Nat) : Int) k = 8 + k := by
  show hazA 1 1 4 0 k = _
  unfold hazA
  rw [show slotsP 1 4 = 10 from rfl, if_pos (by omega)]
  omega
theorem MX_casv {A : Int} {N : Nat} {W : List Int} {k : Int} {a : Bool} {t : PT} {x : Nat} (h : x < W.length) {o : Int} (ho : W.getD x 0 = o) : (MX A N W k a t).casv (x : Int) o = true := by
  unfold PS.casv
  exact decide_eq_true ⟨MX_ok h, by show W.getD ((x : Int)).toNat 0 = o; rw [Int.toNat_natCast]; exact ho⟩
theorem MX_cas {A : Int} {N : Nat} {W : List Int} {k : Int} {a : Bool} {t : PT} {x : Nat} (h : x < W.length) {o : Int} (ho : W.getD x 0 = o) (v : Int) : (MX A N W k a t).cas (x : Int) o v = MX A N (W.set x v) (k + 1) true t := by
  unfold PS.cas
  rw [if_pos ⟨MX_ok h, by show W.getD ((x : Int)).toNat 0 = o; rw [Int.toNat_natCast]; exact ho⟩, if_pos (MX_ok h), decide_eq_true (MX_ok h)]; rfl
theorem nextW_ptr {x p : Int} (hp : 0 ≤ p ∧ p < 65536) : ptrW (nextW x p) = p ∧ markW (nextW x p) = false := by
  unfold ptrW markW nextW
  generalize (x / 131072 + 1) % 140737488355328 = v
  exact ⟨by omega, decide_eq_false (by omega)⟩
theorem Bs.cut {j : Nat} {b' : List Nat} (hk : g.Ok) (hB : Bs g C W t) (h4 : r < 4) (hC : C r = a ++ j :: b') (hm : g.mr r j = true) (hun : mkf (g.mr r) (lastF 0 a) = false) (hcl : g.Q → cln (g.mr r) g.lt (j :: b') = true) {x : Int} (hx : u64R x) (hp : ptrW x = ptrW (W.getD (adr g.N (j + 1) (5 + r)) 0)) (hmx : markW x = false) :
    Bs g (fun k => if k = r then a ++ b' else C k) (W.set (adr g.N (lastF 0 a) (5 + r)) x) t := by
  have hN := hk.N
  have hch := hB.ch r h4
  have has := hB.asc r h4
  have hme := hB.mem r h4
  rw [hC] at hch has hme
  have hla : lastF 0 a ≤ g.cnt := lastF_le (fun j hj => hme j (List.mem_append_left _ hj)) (Nat.zero_le _)
  have haL : adr g.N (lastF 0 a) (5 + r) < W.length := by rw [hB.len]; exact adr_lt (by omega) (by omega)
  refine ⟨by rw [List.length_set]; exact hB.len, fun y hy => mem_set_u hB.u hx hy, fun k hk => ?_, fun k hk => ?_, fun k hk => ?_, fun i hi => ?_, hB.lens, fun hq => ?_⟩
  · show Chn _ _ _ k 0 (if k = r then _ else _)
    by_cases hkr : k = r
    · subst hkr
      rw [if_pos rfl]
      exact hch.cut h4 has haL hp (by rw [hmx, hun])
    · rw [if_neg hkr]
      exact (hB.ch k hk).other (fun i => adr_ne (by omega) (by omega) (.inr (by omega))) x
  · show Asc 0 (if k = r then _ else _)
    split
    · exact has.drop
    · exact hB.asc k hk
  · show ∀ i ∈ (if k = r then _ else _), _
    split
    · intro i hi
      refine hme i ?_
      rcases List.mem_append.1 hi with h | h
      · exact List.mem_append_left _ h
      · exact List.mem_append_right _ (List.mem_cons_of_mem _ h)
    · exact hB.mem k hk
  · rw [getD_set_ne' (adr_ne (by omega) (by omega) (.inr (by omega)))]; exact hB.ord i hi
  · have := hcl hq
    rw [cln, if_pos hm] at this
    cases this
set_option maxHeartbeats 1000000 in
theorem fd_step (hk : g.Ok) (h : SF g C W t R pc r a b) (hp : pc ≠ 0) (k : Int) : NxF g (fdDo (MX 1 g.N W k false t) 0 t [] ⟨20, pc, R⟩ r) k (muF pc r b) := by
  obtain ⟨hB, htf, hR, h0, hpc, hr4, -, hrun⟩ := h
  have Q := hrun hp
  have hN := hk.N
  have hla := Q.la hB hr4
  have hlen := hB.len
  have hmu : muF pc r b = 8 * (20 * r + b.length) + (8 - pc).toNat := by unfold muF; rw [if_neg hp]
  have hA := node_f (N := g.N) (f := lastF 0 a) (r := r) ⟨by omega, by omega⟩ hr4
  have haL : adr g.N (lastF 0 a) (5 + r) < W.length := by rw [hB.len]; exact adr_lt (by omega) (by omega)
  have hpu : u64R (predN (lastF 0 a)) := by unfold predN; split <;> exact ⟨by omega, by omega⟩
  have hw := (Q.chn hB hr4).mark
  unfold fdDo
  rw [if_neg hp]
  by_cases c1 : pc = 1
  · subst c1
    rw [if_pos rfl]
    have e : (cA 1 (g.N : Int)).haz ((0 : Nat) : Int) (2 * (r : Int)) = ((8 + 2 * r : Nat) : Int) := by rw [haz_cA (by omega) (by omega)]; omega
    show NxF g (((MX 1 g.N W k false t).store ((cA 1 (g.N : Int)).haz ((0 : Nat) : Int) (2 * (r : Int))) (R.getD 2 0)).put 0 (topped t [] ⟨20, 2, R⟩)) k _
    rw [e, MX_store (by omega), Q.r2]
    refine ⟨C, W.set (8 + 2 * r) (predN (lastF 0 a)), topped t [] ⟨20, 2, R⟩, rfl, .inr ⟨R, 2, r, a, b, ⟨(hB.slot ⟨by omega, by omega⟩ hpu).of rfl rfl rfl, rfl, hR, h0, by omega, hr4, fun h => absurd h (by omega), fun _ => ?_⟩, by decide, ?_⟩⟩
    · exact Q.to (pc' := 2) rfl rfl (fun k' h1 h2 d => d.of rfl rfl rfl (getD_set_ne' (by omega) _) (getD_set_ne' (by omega) _) (fun f => getD_set_ne' (by have := @adr_ge g.N f (5 + k'); omega) _) rfl) (fun _ => getD_set_eq (by omega) _) (fun h => absurd h (by omega)) (fun h => absurd h (by omega)) (fun h => absurd h (by omega)) (fun h => absurd h (by omega))
    · rw [hmu]
      unfold muF
      rw [if_neg (by decide)]
      show _ + 6 < _ + 7
      omega
  rw [if_neg c1]
  by_cases c2 : pc = 2
  · subst c2
    rw [if_pos rfl]
    show NxF g (fdTake ((MX 1 g.N W k false t).load ((cA 1 (g.N : Int)).node (toI (R.getD 2 0)) (5 + (r : Int)))) 0 t [] ⟨20, 2, R⟩ r ((MX 1 g.N W k false t).ldv ((cA 1 (g.N : Int)).node (toI (R.getD 2 0)) (5 + (r : Int))))) k _
    rw [Q.r2, hA, MX_load haL, MX_ldv haL]
    exact take_F hk hB hR h0 hr4 Q (by omega) rfl 2 k (by rw [hmu]; show _ + 5 < _ + 6; omega)
  rw [if_neg c2]
  obtain ⟨h3, hbn⟩ := Q.p3 (by omega)
  obtain ⟨j, b', rfl⟩ : ∃ j b', b = j :: b' := by
    cases b with
    | nil => exact absurd rfl hbn
    | cons j b' => exact ⟨j, b', rfl⟩
  have hj : j < g.cnt := hB.mem r hr4 j (by rw [Q.c]; simp)
  have hptr : ptrW (R.getD 3 0) = predN (j + 1) := by rw [h3, hw.1, predN_s]; rfl
  have hjm := (Q.chn hB hr4).2.2.mark
  unfold fdLook
  by_cases c3 : pc = 3
  · subst c3
    rw [if_pos rfl]
    have e : (cA 1 (g.N : Int)).haz ((0 : Nat) : Int) (2 * (r : Int) + 1) = ((8 + 2 * r + 1 : Nat) : Int) := by rw [haz_cA (by omega) (by omega)]; omega
    show NxF g (((MX 1 g.N W k false t).store ((cA 1 (g.N : Int)).haz ((0 : Nat) : Int) (2 * (r : Int) + 1)) (ptrW (R.getD 3 0))).put 0 (topped t [] ⟨20, 4, R⟩)) k _
    rw [e, MX_store (by omega), hptr]
    have hju : u64R (predN (j + 1)) := by rw [predN_s]; exact ⟨by omega, by omega⟩
    refine ⟨C, W.set (8 + 2 * r + 1) (predN (j + 1)), topped t [] ⟨20, 4, R⟩, rfl, .inr ⟨R, 4, r, a, j :: b', ⟨(hB.slot ⟨by omega, by omega⟩ hju).of rfl rfl rfl, rfl, hR, h0, by omega, hr4, fun h => absurd h (by omega), fun _ => ?_⟩, by decide, ?_⟩⟩
    · exact Q.to (pc' := 4) rfl rfl (fun k' h1 h2 d => d.of rfl rfl rfl (getD_set_ne' (by omega) _) (getD_set_ne' (by omega) _) (fun f => getD_set_ne' (by have := @adr_ge g.N f (5 + k'); omega) _) rfl) (fun _ => by rw [getD_set_ne' (by omega)]; exact Q.p2 (by omega)) (fun _ => ⟨by rw [getD_set_ne' (by have := @adr_ge g.N (lastF 0 a) (5 + r); omega)]; exact h3, hbn⟩) (fun _ => by rw [getD_set_eq (by omega), predN_s]; rfl) (fun h => absurd h (by omega)) (fun h => absurd h (by omega))
    · rw [hmu]
      unfold muF
      rw [if_neg (by decide)]
      show _ + 4 < _ + 5
      omega
  rw [if_neg c3]
  have h4 := Q.p4 (by omega)
  by_cases c4 : pc = 4
  · subst c4
    rw [if_pos rfl]
    show NxF g (if (MX 1 g.N W k false t).ldv ((cA 1 (g.N : Int)).node (toI (R.getD 2 0)) (5 + (r : Int))) ≠ R.getD 3 0 then _ else ((MX 1 g.N W k false t).load ((cA 1 (g.N : Int)).node (toI (R.getD 2 0)) (5 + (r : Int)))).put 0 (topped t [] ⟨20, 5, R⟩)) k _
    rw [Q.r2, hA, MX_load haL, MX_ldv haL, if_neg (fun hn => hn h3.symm)]
    refine ⟨C, W, topped t [] ⟨20, 5, R⟩, rfl, .inr ⟨R, 5, r, a, j :: b', ⟨hB.of rfl rfl rfl, rfl, hR, h0, by omega, hr4, fun h => absurd h (by omega), fun _ => ?_⟩, by decide, ?_⟩⟩
    · exact Q.to (pc' := 5) rfl rfl (fun k' h1 h2 d => d.of rfl rfl rfl rfl rfl (fun _ => rfl) rfl) (fun _ => Q.p2 (by omega)) (fun _ => ⟨h3, hbn⟩) (fun _ => h4) (fun h => absurd h (by omega)) (fun h => absurd h (by omega))
    · rw [hmu]
      unfold muF
      rw [if_neg (by decide)]
      show _ + 3 < _ + 4
      omega
  rw [if_neg c4]
  have hJ := node_f (N := g.N) (f := j + 1) (r := r) ⟨by omega, by omega⟩ hr4
  have hjL : adr g.N (j + 1) (5 + r) < W.length := by rw [hB.len]; exact adr_lt (by omega) (by omega)
  by_cases c5 : pc = 5
  · subst c5
    rw [if_pos rfl]
    show NxF g (((MX 1 g.N W k false t).load ((cA 1 (g.N : Int)).node (toI (ptrW (R.getD 3 0))) (5 + (r : Int)))).put 0 (topped t [] ⟨20, if markW ((MX 1 g.N W k false t).ldv ((cA 1 (g.N : Int)).node (toI (ptrW (R.getD 3 0))) (5 + (r : Int)))) = true then 6 else 7, regI R 4 ((MX 1 g.N W k false t).ldv ((cA 1 (g.N : Int)).node (toI (ptrW (R.getD 3 0))) (5 + (r : Int))))⟩)) k _
    rw [hptr, hJ, MX_load hjL, MX_ldv hjL]
    have hvu := u64_getD hB.u (adr g.N (j + 1) (5 + r))
    have hmk : markW (W.getD (adr g.N (j + 1) (5 + r)) 0) = g.mr r j := hjm.2
    rw [hmk]
    obtain ⟨v, hv⟩ : ∃ v, v = W.getD (adr g.N (j + 1) (5 + r)) 0 := ⟨_, rfl⟩
    rw [← hv] at hvu ⊢
    have gg : ∀ i, i < 10 → i ≠ 4 → (regI R 4 v).getD i 0 = R.getD i 0 := fun i h1 h2 => by rw [regI_at _ _ _ _ h1, if_neg h2]
    have g4 : (regI R 4 v).getD 4 0 = v := by rw [regI_at _ _ _ _ (by omega), if_pos rfl]
    cases hm : g.mr r j with
    | true =>
      rw [if_pos rfl]
      refine ⟨C, W, topped t [] ⟨20, 6, regI R 4 v⟩, rfl, .inr ⟨regI R 4 v, 6, r, a, j :: b', ⟨hB.of rfl rfl rfl, rfl, regI_u64 hR hvu, by rw [gg 0 (by omega) (by omega)]; exact h0, by omega, hr4, fun h => absurd h (by omega), fun _ => ?_⟩, by decide, ?_⟩⟩
      · exact Q.to (pc' := 6) (gg 1 (by omega) (by omega)) (gg 2 (by omega) (by omega)) (fun k' h1 h2 d => d.of rfl rfl rfl rfl rfl (fun _ => rfl) rfl) (fun _ => Q.p2 (by omega)) (fun _ => ⟨by rw [gg 3 (by omega) (by omega)]; exact h3, hbn⟩) (fun _ => h4) (fun _ => ⟨j, b', rfl, hm, by rw [g4, hv]⟩) (fun h => absurd h (by omega))
      · rw [hmu]
        unfold muF
        rw [if_neg (by decide)]
        show _ + 2 < _ + 3
        omega
    | false =>
      rw [if_neg (by decide)]
      refine ⟨C, W, topped t [] ⟨20, 7, regI R 4 v⟩, rfl, .inr ⟨regI R 4 v, 7, r, a, j :: b', ⟨hB.of rfl rfl rfl, rfl, regI_u64 hR hvu, by rw [gg 0 (by omega) (by omega)]; exact h0, by omega, hr4, fun h => absurd h (by omega), fun _ => ?_⟩, by decide, ?_⟩⟩
      · exact Q.to (pc' := 7) (gg 1 (by omega) (by omega)) (gg 2 (by omega) (by omega)) (fun k' h1 h2 d => d.of rfl rfl rfl rfl rfl (fun _ => rfl) rfl) (fun _ => Q.p2 (by omega)) (fun _ => ⟨by rw [gg 3 (by omega) (by omega)]; exact h3, hbn⟩) (fun _ => h4) (fun h => absurd h (by omega)) (fun _ => ⟨j, b', rfl, hm⟩)
      · rw [hmu]
        unfold muF
        rw [if_neg (by decide)]
        show _ + 1 < _ + 3
        omega
  rw [if_neg c5]
  by_cases c6 : pc = 6
  · subst c6
    rw [if_pos rfl]
    obtain ⟨j2, b2, e1, hm, hr4'⟩ := Q.p6 rfl
    obtain ⟨rfl, rfl⟩ := List.cons.inj e1
    show NxF g (if (MX 1 g.N W k false t).casv ((cA 1 (g.N : Int)).node (toI (R.getD 2 0)) (5 + (r : Int))) (R.getD 3 0) = true then fdTake ((MX 1 g.N W k false t).cas ((cA 1 (g.N : Int)).node (toI (R.getD 2 0)) (5 + (r : Int))) (R.getD 3 0) (nextW (R.getD 3 0) (ptrW (R.getD 4 0)))) 0 t [] ⟨20, 6, R⟩ r (nextW (R.getD 3 0) (ptrW (R.getD 4 0))) else _) k _
    rw [Q.r2, hA, MX_casv haL h3.symm, if_pos rfl, MX_cas haL h3.symm]
    have hq := nextW_ptr (x := R.getD 3 0) (p := ptrW (R.getD 4 0)) (by have := ptrW_bd (x := R.getD 4 0); omega)
    have hx : u64R (nextW (R.getD 3 0) (ptrW (R.getD 4 0))) := nextW_bd
    generalize nextW (R.getD 3 0) (ptrW (R.getD 4 0)) = x at *
    rw [hr4'] at hq
    have hB' := hB.cut hk hr4 Q.c hm Q.un Q.cl hx hq.1 hq.2
    have Q' : Rn g (fun k => if k = r then a ++ b' else C k) (W.set (adr g.N (lastF 0 a) (5 + r)) x) t R 2 r a b' :=
      ⟨Q.r1, Q.r2, if_pos rfl, by rw [← Q.go, sk_cut hm], Q.un, fun k hk => (by show (if k = r then _ else _) = _; rw [if_neg (by omega)]; exact Q.low k hk),
        fun k' h1 h2 => (Q.done k' h1 h2).of rfl rfl rfl (getD_set_ne' (by have := @adr_ge g.N (lastF 0 a) (5 + r); omega) _) (getD_set_ne' (by have := @adr_ge g.N (lastF 0 a) (5 + r); omega) _) (fun f => getD_set_ne' (adr_ne (by omega) (by omega) (.inr (by omega))) _) (if_neg (by omega)),
        fun hQ => (by have := Q.cl hQ; rw [cln, if_pos hm] at this; cases this),
        fun _ => by rw [getD_set_ne' (by have := @adr_ge g.N (lastF 0 a) (5 + r); omega)]; exact Q.p2 (by omega), fun h => absurd h (by omega), fun h => absurd h (by omega), fun h => absurd h (by omega), fun h => absurd h (by omega)⟩
    refine take_F hk hB' hR h0 hr4 Q' (by omega) (getD_set_eq haL x).symm 6 k ?_
    rw [hmu]
    show _ + 5 < 8 * (20 * r + (b'.length + 1)) + 2
    omega
  rw [if_neg c6]
  obtain rfl : pc = 7 := by omega
  obtain ⟨j2, b2, e1, hm⟩ := Q.p7 rfl
  obtain ⟨rfl, rfl⟩ := List.cons.inj e1
  have hO := order_f (N := g.N) (j := j) ⟨by omega, by omega⟩
  have hoL : adr g.N (j + 1) 0 < W.length := by rw [hB.len]; exact adr_lt (by omega) (by omega)
  show NxF g (if R.getD 0 0 ≤ (MX 1 g.N W k false t).ldv ((cA 1 (g.N : Int)).node (toI (ptrW (R.getD 3 0))) 0) then fdSettle ((MX 1 g.N W k false t).load ((cA 1 (g.N : Int)).node (toI (ptrW (R.getD 3 0))) 0)) 0 t [] ⟨20, 7, R⟩ r else ((MX 1 g.N W k false t).load ((cA 1 (g.N : Int)).node (toI (ptrW (R.getD 3 0))) 0)).put 0 (topped t [] ⟨20, 1, regI R 2 (ptrW (R.getD 3 0))⟩)) k _
  rw [hptr, hO, MX_ldv hoL, MX_load hoL, hB.ord j hj, h0]
  by_cases hlt : g.n ≤ g.o j
  · rw [if_pos hlt]
    refine settle_F hk hB hR h0 hr4 Q (by omega) h3 (sk_stop hm (by unfold FP.lt; exact decide_eq_false (by omega))) (fun _ => h4) 7 k ?_
    rw [hmu]; omega
  · rw [if_neg hlt]
    have hju : u64R (predN (j + 1)) := by rw [predN_s]; exact ⟨by omega, by omega⟩
    have hl : g.lt j = true := by unfold FP.lt; exact decide_eq_true (by omega)
    have gg : ∀ i, i < 10 → i ≠ 2 → (regI R 2 (predN (j + 1))).getD i 0 = R.getD i 0 := fun i h1 h2 => by rw [regI_at _ _ _ _ h1, if_neg h2]
    refine ⟨C, W, topped t [] ⟨20, 1, regI R 2 (predN (j + 1))⟩, rfl, .inr ⟨regI R 2 (predN (j + 1)), 1, r, a ++ [j], b', ⟨hB.of rfl rfl rfl, rfl, regI_u64 hR hju, by rw [gg 0 (by omega) (by omega)]; exact h0, by omega, hr4, fun h => absurd h (by omega), fun _ => ?_⟩, by decide, ?_⟩⟩
    · have hlast : lastF 0 (a ++ [j]) = j + 1 := by rw [lastF_app]; rfl
      exact ⟨by rw [gg 1 (by omega) (by omega)]; exact Q.r1, by rw [regI_at _ _ _ _ (by omega), if_pos rfl, hlast], by rw [Q.c, List.append_assoc]; rfl, by rw [← Q.go, sk_pass hm hl], by rw [hlast]; exact hm, Q.low, fun k h1 h2 => (Q.done k h1 h2).of rfl rfl rfl rfl rfl (fun _ => rfl) rfl, fun hQ => (by have := Q.cl hQ; rw [cln, if_neg (by rw [hm]; decide), if_pos hl] at this; exact this), fun h => absurd h (by omega), fun h => absurd h (by omega), fun h => absurd h (by omega), fun h => absurd h (by omega), fun h => absurd h (by omega)⟩
    · rw [hmu]
      unfold muF
      rw [if_neg (by decide)]
      show 8 * (20 * r + b'.length) + 7 < 8 * (20 * r + (b'.length + 1)) + 1
      omega
end
end Go.Proofs.YtbnbbafffihapaaGreat

/- Find: its Do; a step with it; a search alone. -/
namespace Go.Proofs.YtbnbbafffihapaaGreat
open Go.RowKit
attribute [local irreducible] Instr.loadAt Instr.storeAt Instr.fieldAt Instr.indexAt Instr.sliceAt Instr.buildSlice Instr.box Instr.alloc Builtin.append_ Builtin.len_ Builtin.min_ Builtin.max_ Calls Instr.build Instr.makeSlice binSem convert Instr.index Instr.range Instr.next
structure FdOk (p : PS) (t : PT) (f : Fr) (r : Nat) : Prop where
  fn : f.fn = 20
  R : ∀ j, u64R (f.R.getD j 0)
  r1 : f.pc ≠ 0 → f.R.getD 1 0 = (r : Int)
  r4 : r < 4
  P : t.P.length = 4
  S : t.S.length = 4
  W : t.W.length = 4
  L : 1 ≤ p.c.L ∧ p.c.L ≤ 6
  pc : 0 ≤ f.pc ∧ f.pc ≤ 7
/-- the rounds of one step of thread i -/
def RndF (i : Nat) : Nat → PS → PS → Prop
  | 0, p, q => p = q ∧ (q.acted = true ∨ topL q i = 0) ∧ topL q i ≤ 90000
  | n + 1, p, q => p.acted = false ∧ ∃ t fs f r, p.ths[i]? = some t ∧ t.fs = fs ++ [f] ∧ fs.length ≤ 90000 ∧ FdOk p t f r ∧ p.Ok 900000 ∧ RndF i n (fdDo p i t fs f r) q
section
variable {w w' : World} {X : Mc} {b : Int} {i : Nat} {t : Th} {fs : List Fr} {f : Fr} {fb fo fc : Nat}
set_option maxRecDepth 10000 in
theorem fdo_p (h : Mach w X) (hg : Good X b) (hb : b ≤ 900000) (hi : X.ths[i]? = some t) (hfs : t.fs = fs ++ [f]) (hl : fs.length ≤ 90000) {r : Nat} (hk : FdOk X.abs (absT t) f r) :
    Fn Tryz.prog 22 #[ptrV X.m, ptrV t.g] w fun _ w' => Ev w X w' (fdDo X.abs i (absT t) fs f r) := by
  obtain ⟨fb, fo, fc, hfv⟩ := h.fr_ hi (by rw [hfs]; simp)
  refine fn_enter Tryz.func22 rfl rfl ?_
  refine cl (top_mm h hi hfs (by omega) hfv) ?_
  rintro _ _ ⟨rfl, rfl⟩
  have p1 : Post w X w.drew X := .of0 h (Upd.refl [] w).drew
  have I1 : TopI w w.drew X X i t fs f fb fo fc := ⟨p1, .refl X, hi, hfs, hfv⟩
  refine ptr_eq ?_
  refine ptr_eq ?_
  refine fa ?_
  refine ld (v := .int .i64 f.fn) (I1.at_ 0 (by omega)) ?_
  refine cY hk.fn ?_
  refine bd (spC X.m t.g fb (fo + fs.length * 12)) (fun _ => by kernel_rfl) ?_
  refine bd (spC X.m t.g fb (fo + fs.length * 12)) (fun _ => by kernel_rfl) ?_
  refine cl (fstep_p p1.ok hg hb hi hfs hl hfv hk.R hk.r1 hk.r4 hk.P hk.S hk.W hk.L.1 hk.L.2 hk.pc) ?_
  rintro _ w2 e
  exact Ev.before p1 (.refl X) e
set_option maxRecDepth 10000 in
theorem step_fd (h : Mach w X) (hc : X.s.on = false ∧ X.s.L = []) (hX : X.ths.length ≤ 100) (hi : X.ths[i]? = some t) {n : Nat} {q : PS} (hr : RndF i n (calm0 X.abs) q) :
    Fn Tryz.prog 21 #[ptrV X.m, .int .i64 (i : Int), .func (.func 22) #[] #[]] w fun r w' => r = .bool (decide (0 < topL q i)) ∧ Ev w X w' q := by
  refine (step_mm (f := 22) (ys := #[]) (fun Y w' n => Post w X w' Y ∧ Kin X Y ∧ RndF i n Y.abs q) n h hi rfl hX (fun w' p => ⟨p, ⟨rfl, rfl, rfl, rfl, id⟩, hr⟩) ?_ ?_).mono ?_
  · rintro Y w' n ⟨p, k, r⟩
    obtain ⟨t2, h2, hg2⟩ := k.g hi
    refine ⟨p.ok, k.m, t2, h2, hg2, ?_⟩
    have h3 := abs_th Y h2
    cases n with
    | zero =>
      obtain ⟨rfl, -, hl⟩ := r
      rw [topL_at h3] at hl
      have : (absT t2).fs = t2.fs := rfl
      rw [this] at hl; omega
    | succ n =>
      obtain ⟨-, t3, fs, f, r, e1, e2, e3, -⟩ := r
      rw [h3] at e1
      have e1 := Option.some.inj e1
      have : t2.fs = fs ++ [f] := by rw [← e2, ← e1]; rfl
      rw [this]; simp; omega
  · rintro Y w' n t2 ⟨p, k, r⟩ h2 hac hne
    have h3 := abs_th Y h2
    cases n with
    | zero =>
      exfalso
      obtain ⟨rfl, hor, hl⟩ := r
      rcases hor with h4 | h4
      · rw [show Y.abs.acted = Y.acted from rfl, hac] at h4; cases h4
      · rw [topL_at h3] at h4
        exact hne (List.length_eq_zero_iff.1 h4)
    | succ n =>
      obtain ⟨-, t3, fs, f, r0, e1, e2, e3, e4, e8, r⟩ := r
      rw [h3] at e1
      obtain rfl := Option.some.inj e1
      have hg : Good Y 900000 := ⟨e8, k.calm hc⟩
      obtain ⟨t2', h2', hg2⟩ := k.g hi
      rw [h2] at h2'
      obtain rfl := Option.some.inj h2'
      have := fdo_p p.ok hg (by omega) h2 e2 e3 e4
      rw [show (#[] ++ [ptrV X.m, ptrV t.g].toArray ++ #[] : Array Value) = #[ptrV Y.m, ptrV t2.g] by rw [k.m, hg2]; simp]
      refine this.mono ?_
      rintro e w2 ⟨u, he, X2, p2, k2, a2⟩
      exact ⟨u, he, X2, n, ⟨p.trans p2, k.trans k2, by rw [a2]; exact r⟩, by omega⟩
  · rintro e w' ⟨r, he, Y, n, t2, ⟨p, k, rr⟩, h2, hor, rfl⟩
    have h3 := abs_th Y h2
    have hz : Y.abs = q := by
      cases n with
      | zero => exact rr.1
      | succ n =>
        exfalso
        obtain ⟨hac, t3, fs, f, r, e1, e2, -⟩ := rr
        rcases hor with h4 | h4
        · rw [show Y.abs.acted = Y.acted from rfl, h4] at hac; cases hac
        · rw [h3] at e1
          have e1 := Option.some.inj e1
          have : t2.fs = fs ++ [f] := by rw [← e2, ← e1]; rfl
          rw [h4] at this; simp at this
    refine ⟨_, he, ?_, Y, p, k, hz⟩
    rw [hz] at h3
    rw [topL_at h3]
    exact congrArg Value.bool (by
      show decide ((t2.fs.length : Int) > 0) = decide (0 < t2.fs.length)
      exact decide_eq_decide.2 (by omega))
end
theorem abs_oneX {A : Int} {N : Nat} {W : List Int} {k : Int} {a : Bool} {Y : Mc} {t : PT} (h : Y.abs = MX A N W k a t) : ∃ t' : Th, Y.ths = [t'] ∧ absT t' = t ∧ Y.gs = none ∧ Y.bad = false := by
  have h1 : Y.ths.map absT = [t] := congrArg PS.ths h
  obtain ⟨t', h2, h3⟩ : ∃ t', Y.ths = [t'] ∧ absT t' = t := by
    cases hy : Y.ths with
    | nil => rw [hy] at h1; cases h1
    | cons x r =>
      rw [hy] at h1
      simp at h1
      exact ⟨x, by rw [h1.2], h1.1⟩
  have h4 : Y.gs.map absG = none := congrArg PS.gh h
  exact ⟨t', h2, h3, by simpa using h4, congrArg PS.bad h⟩
section
variable {g : FP} {C : Nat → List Nat} {W : List Int} {t : PT} {R : List Int} {pc : Int} {r : Nat} {a b : List Nat}
/-- the beginning -/
theorem fd_begin (hk : g.Ok) (h : SF g C W t R 0 r a b) (k : Int) : ∃ R' a' b', fdDo (MX 1 g.N W k false t) 0 t [] ⟨20, 0, R⟩ r = MX 1 g.N W k false (topped t [] ⟨20, 1, R'⟩) ∧ SF g C W (topped t [] ⟨20, 1, R'⟩) R' 1 3 a' b' ∧ muF 1 3 b' < muF 0 r b := by
  obtain ⟨hB, htf, hR, h0, hpc, hr4, hini, -⟩ := h
  have hini := hini rfl
  have hN := hk.N
  have hB' : Bs g C W (topped t [] ⟨20, 1, regI (regI R 2 1) 1 3⟩) := hB.of rfl rfl rfl
  have Q := Rn.start (g := g) (W := W) (C := C) (t := topped t [] ⟨20, 1, regI (regI R 2 1) 1 3⟩) (R := regI (regI R 2 1) 1 3) hk (r := 3) (by omega) (by rw [regI_at _ _ _ _ (by omega), if_pos rfl]; rfl) (by rw [regI_at _ _ _ _ (by omega), if_neg (by omega), regI_at _ _ _ _ (by omega), if_pos rfl, show g.fr 3 = 0 from rfl]; rfl) (fun k hk => hini k (by omega)) (fun k h1 h2 => by omega)
  refine ⟨regI (regI R 2 1) 1 3, _, _, rfl, ⟨hB', rfl, regI_u64 (regI_u64 hR ⟨by omega, by omega⟩) ⟨by omega, by omega⟩, ?_, by omega, by omega, fun h => absurd h (by omega), fun _ => Q⟩, ?_⟩
  · rw [regI_at _ _ _ _ (by omega), if_neg (by omega), regI_at _ _ _ _ (by omega), if_neg (by omega)]; exact h0
  · have hbl := Q.bl hB' (by omega)
    unfold muF
    rw [if_neg (by decide), if_pos rfl, show ((8 : Int) - 1).toNat = 7 from rfl]
    omega
theorem muF_bd (hk : g.Ok) (h : SF g C W t R pc r a b) : muF pc r b ≤ 800 := by
  have hN := hk.N
  unfold muF
  split
  · omega
  · rename_i hp
    have hbl := (h.run hp).bl h.bs h.r4
    have := h.r4
    have := h.pcb
    omega
end
section
variable {w w' : World} {X : Mc} {g : FP} {C : Nat → List Nat} {W : List Int} {t : PT} {R : List Int} {pc : Int} {r : Nat} {a b : List Nat} {k : Int} {ac : Bool}
theorem SF.fok (hS : SF g C W t R pc r a b) (k : Int) : FdOk (MX 1 g.N W k false t) t ⟨20, pc, R⟩ r :=
  ⟨rfl, hS.hR, fun hp => (hS.run hp).r1, hS.r4, hS.bs.lens.1, hS.bs.lens.2.1, hS.bs.lens.2.2, ⟨by show (1 : Int) ≤ 4; decide, by show (4 : Int) ≤ 6; decide⟩, hS.pcb⟩
/-- a step of the search, by the machine -/
theorem step_sf (h : Mach w X) (hc : X.s.on = false ∧ X.s.L = []) (ha : X.abs = MX 1 g.N W k ac t) (hk : g.Ok) (hS : SF g C W t R pc r a b) (hkb : 0 ≤ k ∧ k ≤ 890000) :
    Fn Tryz.prog 21 #[ptrV X.m, .int .i64 0, .func (.func 22) #[] #[]] w fun r' w' => ∃ C' W' t', Ev w X w' (MX 1 g.N W' (k + 1) true t') ∧
      ((r' = .bool false ∧ FinF g C' W' t') ∨ (r' = .bool true ∧ ∃ R' pc' r'' a' b', SF g C' W' t' R' pc' r'' a' b' ∧ muF pc' r'' b' < muF pc r b)) := by
  obtain ⟨t1, h1, h2, -, -⟩ := abs_oneX ha
  have hN := hk.N
  have hi : X.ths[0]? = some t1 := by rw [h1]; rfl
  have key : ∃ n C' W' t', RndF 0 n (calm0 X.abs) (MX 1 g.N W' (k + 1) true t') ∧ (FinF g C' W' t' ∨ ∃ R' pc' r' a' b', SF g C' W' t' R' pc' r' a' b' ∧ muF pc' r' b' < muF pc r b) := by
    have one : ∀ {t : PT} {R : List Int} {pc : Int} {r : Nat} {a b : List Nat}, SF g C W t R pc r a b → pc ≠ 0 → ∃ C' W' t', RndF 0 1 (MX 1 g.N W k false t) (MX 1 g.N W' (k + 1) true t') ∧ (FinF g C' W' t' ∨ ∃ R' pc' r' a' b', SF g C' W' t' R' pc' r' a' b' ∧ muF pc' r' b' < muF pc r b) := fun {t R pc r a b} hS hp => by
      obtain ⟨C', W', t', hq, hor⟩ := fd_step hk hS hp k
      refine ⟨C', W', t', ⟨rfl, t, [], ⟨20, pc, R⟩, r, rfl, hS.tfs, by simp, hS.fok k, MX_Ok (.inl rfl) hN.2.2 hN.2.1 hS.bs.u hS.bs.len (show 0 ≤ k ∧ k ≤ 900000 by omega), hq, .inl rfl, ?_⟩, ?_⟩
      · show t'.fs.length ≤ 90000
        rcases hor with hf | ⟨R', pc', r', a', b', hs, -⟩
        · rw [hf.fs]; simp
        · rw [hs.tfs]; simp
      · rcases hor with hf | ⟨R', pc', r', a', b', hs, -, hm⟩
        · exact .inl hf
        · exact .inr ⟨R', pc', r', a', b', hs, hm⟩
    have e0 : calm0 X.abs = MX 1 g.N W k false t := by rw [ha]; rfl
    rw [e0]
    by_cases hp : pc = 0
    · subst hp
      obtain ⟨R', a', b', hq, hS', hm'⟩ := fd_begin hk hS k
      obtain ⟨C', W', t', hr, hor⟩ := one hS' (by decide)
      refine ⟨2, C', W', t', ⟨rfl, t, [], ⟨20, 0, R⟩, r, rfl, hS.tfs, by simp, hS.fok k, MX_Ok (.inl rfl) hN.2.2 hN.2.1 hS.bs.u hS.bs.len (show 0 ≤ k ∧ k ≤ 900000 by omega), ?_⟩, ?_⟩
      · rw [hq]; exact hr
      · rcases hor with hf | ⟨R2, pc2, r2, a2, b2, hs, hm⟩
        · exact .inl hf
        · exact .inr ⟨R2, pc2, r2, a2, b2, hs, by omega⟩
    · obtain ⟨C', W', t', hr, hor⟩ := one hS hp
      exact ⟨1, C', W', t', hr, hor⟩
  obtain ⟨n, C', W', t', hrn, hor⟩ := key
  have hst := step_fd h hc (by rw [h1]; simp) hi hrn
  refine hst.mono fun _ w2 ⟨u, he, hr, hev⟩ => ⟨u, he, C', W', t', hev, ?_⟩
  have htl : topL (MX 1 g.N W' (k + 1) true t') 0 = t'.fs.length := rfl
  rw [htl] at hr
  rcases hor with hf | ⟨R', pc', r', a', b', hs, hm⟩
  · rw [hf.fs] at hr; exact .inl ⟨hr, hf⟩
  · rw [hs.tfs] at hr; exact .inr ⟨hr, _, _, _, _, _, hs, hm⟩
/-- the thread begins a search -/
theorem push_sf (h : Mach w X) (ha : X.abs = MX 1 g.N W k ac t) (hts : t.fs = []) (hB : Bs g C W t) (hini : ∀ k, k < 4 → C k = g.C0 k) (hn : u64R g.n) : ∃ q : Nat, (∃ t' : Th, X.ths = [t'] ∧ t'.g = q) ∧ ∀ {v : Value} {w1 : World}, Upd [] w w1 → RdK w1 .u64 v [g.n] → Fn Tryz.prog 20 #[ptrV q, .int .i64 20, v] w1 fun _ w' => ∃ t', Ev w X w' (MX 1 g.N W k ac t') ∧ SF g C W t' [g.n] 0 0 [] [] := by
  obtain ⟨t1, h1, h2, -, -⟩ := abs_oneX ha
  have hi : X.ths[0]? = some t1 := by rw [h1]; rfl
  have hf : t1.fs = [] := by have : (absT t1).fs = t.fs := by rw [h2]
                             rw [hts] at this; exact this
  refine ⟨t1.g, ⟨t1, h1, rfl⟩, fun {v w1} hu hv => ?_⟩
  refine (push_mm (h.upd0 hu) hi (by rw [hf]; simp) hv (by simp) 20).mono ?_
  rintro _ w2 ⟨u, he, fv, p⟩
  refine ⟨u, he, { t with fs := [⟨20, 0, [g.n]⟩] }, ⟨_, (Post.of0 h hu).trans p, kin_set X hi rfl, ?_⟩, ⟨hB.of rfl rfl rfl, rfl, fun j => ?_, rfl, by omega, by omega, fun _ => hini, fun hq => absurd rfl hq⟩⟩
  · rw [abs_set, ha]
    show MX 1 g.N W k ac { absT t1 with fs := t1.fs ++ [⟨20, 0, [g.n]⟩] } = _
    rw [h2, hf]; rfl
  · cases j with
    | zero => exact hn
    | succ j => simp [List.getD]; exact ⟨by omega, by omega⟩
set_option maxRecDepth 10000 in
/-- the law's seek -/
theorem seek25 (h : Mach w X) (hc : X.s.on = false ∧ X.s.L = []) (ha : X.abs = MX 1 g.N W k ac t) (hk : g.Ok) (hts : t.fs = []) (hB : Bs g C W t) (hini : ∀ k, k < 4 → C k = g.C0 k) (hn : u64R g.n) (hkb : 0 ≤ k ∧ k ≤ 800000) :
    Fn Tryz.prog 6 #[ptrV X.m, .int .u64 g.n] w fun r w' => r = .bool true ∧ ∃ C' W' k' t', Ev w X w' (MX 1 g.N W' k' true t') ∧ FinF g C' W' t' ∧ 0 ≤ k' ∧ k' ≤ k + 2000 := by
  obtain ⟨t1, h1, h2, -, -⟩ := abs_oneX ha
  have hi : X.ths[0]? = some t1 := by rw [h1]; rfl
  obtain ⟨q, ⟨t1', e1, e2⟩, hpush⟩ := push_sf h ha hts hB hini hn
  have e3 : t1' = t1 := by rw [h1] at e1; exact ((List.cons.inj e1).1).symm
  subst e3
  refine fn_enter Tryz.func6 rfl rfl ?_
  refine cl (thread_mm (i := 0) h hi (by rw [h1]; simp)) ?_
  rintro _ w ⟨rfl, rfl⟩
  refine bs #[.int .u64 g.n] (fun _ => by kernel_rfl) fun w1 hb1 hu1 hs1 => ?_
  rw [e2]
  refine cl (hpush hu1 (one_rd hb1)) ?_
  rintro _ w2 ⟨t2, ev2, hS2⟩
  refine loop_rule [0] [5] (fun vs w' m => ∃ (j : Int) (C' : Nat → List Nat) (W' : List Int) (k' : Int) (a' : Bool) (t' : PT) (R : List Int) (pc : Int) (r : Nat) (a b : List Nat), vs = [.int .i64 j] ∧ Ev w X w' (MX 1 g.N W' k' a' t') ∧ SF g C' W' t' R pc r a b ∧ (0 ≤ j ∧ j + muF pc r b ≤ 800) ∧ (0 ≤ k' ∧ k' + muF pc r b ≤ k + 800) ∧ m = muF pc r b) rfl [.int .i64 0] (muF 0 0 []) rfl
    ⟨0, C, W, k, ac, t2, _, 0, 0, _, _, rfl, ev2, hS2, ⟨by omega, by have := muF_bd hk hS2; omega⟩, ⟨hkb.1, by have := muF_bd hk hS2; omega⟩, rfl⟩ ?_
  rintro _ w3 m ⟨j, C', W', k', a', t', R, pc, r, a, b, rfl, ⟨Y, p3, k3, a3⟩, hS3, hj, hk3, rfl⟩
  refine cY (show j < 20000 by omega) ?_
  have hst := step_sf p3.ok (k3.calm hc) a3 hk hS3 (by omega)
  rw [show Y.m = X.m from k3.m] at hst
  refine cl hst ?_
  rintro _ w4 ⟨C4, W4, t4, ev4, hor⟩
  have ev4' := Ev.before p3 k3 ev4
  rcases hor with ⟨rfl, hf⟩ | ⟨rfl, R4, pc4, r4, f4, d4, hs4, hm⟩
  · obtain ⟨Z, pz, kz, az⟩ := ev4'
    obtain ⟨tz, -, -, hg, hbad⟩ := abs_oneX az
    have hft := fault_mm pz.ok
    rw [hg, hbad, show Z.m = X.m from kz.m] at hft
    refine cl hft ?_
    rintro _ w5 ⟨rfl, hu5⟩
    exact ⟨rfl, C4, W4, k' + 1, t4, ⟨Z, pz.upd0 hu5, kz, az⟩, hf, by omega, by omega⟩
  · refine ar64 (by omega) ?_
    exact round_mk [.int .i64 (j + 1)] (muF pc4 r4 d4) rfl rfl ⟨j + 1, C4, W4, k' + 1, true, t4, R4, pc4, r4, f4, d4, rfl, ev4', hs4, by omega, by omega, rfl⟩ (by omega)
end
end Go.Proofs.YtbnbbafffihapaaGreat

/- Find: nodes that are laid and marked; finding twice (plain). -/
namespace Go.Proofs.YtbnbbafffihapaaGreat
open Go.RowKit
attribute [local irreducible] Instr.loadAt Instr.storeAt Instr.fieldAt Instr.indexAt Instr.sliceAt Instr.buildSlice Instr.box Instr.alloc Builtin.append_ Builtin.len_ Builtin.min_ Builtin.max_ Calls Instr.build Instr.makeSlice binSem convert Instr.index Instr.range Instr.next
/-- behind a row: what was passed, what is left -/
theorem sk_end {mk lt : Nat → Bool} : ∀ (b a : List Nat), ∃ x y, sk mk lt a b = (a ++ x, y) ∧ (∀ j ∈ x, j ∈ b ∧ mk j = false ∧ lt j = true) ∧ (∀ j ∈ y, j ∈ b) ∧ (y = [] ∨ ∃ j y', y = j :: y' ∧ mk j = false ∧ lt j = false) := by
  intro b
  induction b with
  | nil => intro a; exact ⟨[], [], by rw [sk, List.append_nil], fun j hj => (by cases hj), fun j hj => (by cases hj), .inl rfl⟩
  | cons i b ih =>
    intro a
    cases hm : mk i with
    | true =>
      rw [sk_cut hm]
      obtain ⟨x, y, h1, h2, h3, h4⟩ := ih a
      exact ⟨x, y, h1, fun j hj => ⟨List.mem_cons_of_mem _ (h2 j hj).1, (h2 j hj).2⟩, fun j hj => List.mem_cons_of_mem _ (h3 j hj), h4⟩
    | false =>
      cases hl : lt i with
      | true =>
        rw [sk_pass hm hl]
        obtain ⟨x, y, h1, h2, h3, h4⟩ := ih (a ++ [i])
        refine ⟨i :: x, y, by rw [h1, List.append_assoc]; rfl, fun j hj => ?_, fun j hj => List.mem_cons_of_mem _ (h3 j hj), h4⟩
        rcases List.mem_cons.1 hj with rfl | hj
        · exact ⟨List.mem_cons_self .., hm, hl⟩
        · exact ⟨List.mem_cons_of_mem _ (h2 j hj).1, (h2 j hj).2⟩
      | false =>
        rw [sk_stop hm hl]
        exact ⟨[], i :: b, by simp, fun j hj => (by cases hj), fun j hj => hj, .inr ⟨i, b, rfl, hm, hl⟩⟩
theorem sk_again {mk lt : Nat → Bool} {y : List Nat} (hy : y = [] ∨ ∃ j y', y = j :: y' ∧ mk j = false ∧ lt j = false) : ∀ (x a : List Nat), (∀ j ∈ x, mk j = false ∧ lt j = true) → sk mk lt a (x ++ y) = (a ++ x, y) ∧ cln mk lt (x ++ y) = true := by
  intro x
  induction x with
  | nil =>
    intro a _
    rw [List.append_nil, List.nil_append]
    rcases hy with rfl | ⟨j, y', rfl, h1, h2⟩
    · exact ⟨rfl, rfl⟩
    · exact ⟨sk_stop h1 h2, by rw [cln, if_neg (by rw [h1]; decide), if_neg (by rw [h2]; decide)]⟩
  | cons i x ih =>
    intro a h
    have hi := h i (List.mem_cons_self ..)
    obtain ⟨e1, e2⟩ := ih (a ++ [i]) fun j hj => h j (List.mem_cons_of_mem _ hj)
    rw [List.cons_append, sk_pass hi.1 hi.2, e1]
    exact ⟨by rw [List.append_assoc]; rfl, by rw [cln, if_neg (by rw [hi.1]; decide), if_pos hi.2]; exact e2⟩
/-- a row's parts -/
structure Prt (g : FP) (k : Nat) (x y : List Nat) : Prop where
  e : g.E k = ((g.C0 k).filter (lowP (g.fr k)) ++ x, y)
  hx : ∀ j ∈ x, j ∈ g.C0 k ∧ g.fr k ≤ j ∧ g.mr k j = false ∧ g.lt j = true
  hy : ∀ j ∈ y, j ∈ g.C0 k ∧ g.fr k ≤ j
  hz : y = [] ∨ ∃ j y', y = j :: y' ∧ g.mr k j = false ∧ g.lt j = false
theorem FP.prt (g : FP) {k : Nat} (hk : k < 4) : ∃ x y, Prt g k x y := by
  obtain ⟨x, y, h1, h2, h3, h4⟩ := sk_end (mk := g.mr k) (lt := g.lt) ((g.C0 k).filter (fun j => !lowP (g.fr k) j)) ((g.C0 k).filter (lowP (g.fr k)))
  have hb : ∀ j, j ∈ (g.C0 k).filter (fun j => !lowP (g.fr k) j) → j ∈ g.C0 k ∧ g.fr k ≤ j := fun j hj => by
    rw [List.mem_filter] at hj
    refine ⟨hj.1, ?_⟩
    have := hj.2
    unfold lowP at this
    simpa using this
  refine ⟨x, y, ⟨(endR_eq hk).trans h1, fun j hj => ?_, fun j hj => hb j (h3 j hj), h4⟩⟩
  obtain ⟨q1, q2, q3⟩ := h2 j hj
  exact ⟨(hb j q1).1, (hb j q1).2, q2, q3⟩
/-- what makes the givens right -/
structure FP.Pre (g : FP) : Prop where
  N : g.cnt + 2 ≤ g.N ∧ g.N ≤ 20 ∧ 3 ≤ g.N
  asc : ∀ k, k < 4 → Asc 0 (g.C0 k)
  mem : ∀ k, k < 4 → ∀ j ∈ g.C0 k, j < g.cnt
  sub : ∀ k, k < 3 → ∀ j ∈ g.C0 (k + 1), j ∈ g.C0 k
  mono : ∀ k j, g.mr (k + 1) j = false → g.mr k j = false
section
variable {g : FP}
theorem fr_next (hA : ∀ k, k < 4 → Asc 0 (g.C0 k)) {k : Nat} (hk : k < 3) (hp : g.fr (k + 1) = 0 ∨ (g.fr (k + 1) - 1 ∈ g.C0 (k + 1) ∧ 0 < g.fr (k + 1))) {x y : List Nat} (h : Prt g (k + 1) x y) : g.fr k = g.fr (k + 1) ∨ (g.fr k - 1 ∈ x ∧ 0 < g.fr k) := by
  have e : g.fr k = lastF (g.fr (k + 1)) x := by
    have h1 : g.fr k = lastF 0 (g.E (k + 1)).1 := frm_s hk
    rw [h1, h.e]
    show lastF 0 (_ ++ x) = _
    rw [lastF_app, lastF_filter (hA (k + 1) (by omega)) hp (Nat.zero_le _)]
  rw [e]
  exact lastF_mem
theorem FP.Pre.fr (h : g.Pre) : ∀ (m k : Nat), k + m = 3 → (g.fr k = 0 ∨ (g.fr k - 1 ∈ g.C0 k ∧ 0 < g.fr k)) ∧ mkf (g.mr k) (g.fr k) = false := by
  intro m
  induction m with
  | zero =>
    intro k hk
    obtain rfl : k = 3 := by omega
    exact ⟨.inl rfl, rfl⟩
  | succ m ih =>
    intro k hk
    obtain ⟨h1, h2⟩ := ih (k + 1) (by omega)
    obtain ⟨x, y, hp⟩ := g.prt (k := k + 1) (by omega)
    rcases fr_next h.asc (by omega) h1 hp with h3 | ⟨h3, h4⟩
    · rw [h3]
      refine ⟨h1.imp id fun hq => ⟨h.sub k (by omega) _ hq.1, hq.2⟩, ?_⟩
      cases hf : g.fr (k + 1) with
      | zero => rfl
      | succ f => rw [hf] at h2; exact h.mono k f h2
    · obtain ⟨q1, q2, q3, q4⟩ := hp.hx _ h3
      refine ⟨.inr ⟨h.sub k (by omega) _ q1, h4⟩, ?_⟩
      obtain ⟨f, hf⟩ : ∃ f, g.fr k = f + 1 := ⟨g.fr k - 1, by omega⟩
      rw [hf] at q3 ⊢
      exact h.mono k f q3
theorem FP.Pre.ok (h : g.Pre) (hQ : ¬ g.Q) : g.Ok :=
  ⟨h.N, h.asc, h.mem, fun k hk => (h.fr (3 - k) k (by omega)).1, fun k hk => (h.fr (3 - k) k (by omega)).2, fun hq => absurd hq hQ⟩
/-- the same once more -/
def FP.two (g : FP) (W : List Int) : FP := { g with C0 := fun k => (g.E k).1 ++ (g.E k).2, Q := True, Wz := W }
theorem Prt.filt (hA : ∀ k, k < 4 → Asc 0 (g.C0 k)) {k : Nat} (hk : k < 4) {x y : List Nat} (h : Prt g k x y) {f : Nat} (hf : f = g.fr k) : ((g.E k).1 ++ (g.E k).2).filter (lowP f) = (g.C0 k).filter (lowP (g.fr k)) ∧ ((g.E k).1 ++ (g.E k).2).filter (fun j => !lowP f j) = x ++ y := by
  subst hf
  rw [h.e]
  have hx : ∀ j ∈ x ++ y, lowP (g.fr k) j = false := fun j hj => by
    unfold lowP
    rcases List.mem_append.1 hj with h1 | h1
    · have := (h.hx j h1).2.1; exact decide_eq_false (by omega)
    · have := (h.hy j h1).2; exact decide_eq_false (by omega)
  have e1 : (x ++ y).filter (lowP (g.fr k)) = [] := List.filter_eq_nil_iff.2 fun j hj => by rw [hx j hj]; decide
  have e2 : (x ++ y).filter (fun j => !lowP (g.fr k) j) = x ++ y := List.filter_eq_self.2 fun j hj => by rw [hx j hj]; rfl
  have e3 : ((g.C0 k).filter (lowP (g.fr k))).filter (lowP (g.fr k)) = (g.C0 k).filter (lowP (g.fr k)) := List.filter_eq_self.2 fun j hj => (List.mem_filter.1 hj).2
  have e4 : ((g.C0 k).filter (lowP (g.fr k))).filter (fun j => !lowP (g.fr k) j) = [] := List.filter_eq_nil_iff.2 fun j hj => by rw [(List.mem_filter.1 hj).2]; decide
  show (((g.C0 k).filter (lowP (g.fr k)) ++ x) ++ y).filter _ = _ ∧ (((g.C0 k).filter (lowP (g.fr k)) ++ x) ++ y).filter _ = _
  rw [List.append_assoc]
  generalize x ++ y = z at *
  rw [List.filter_append, List.filter_append, e1, e2, e3, e4, List.append_nil]
  exact ⟨rfl, rfl⟩
theorem two_fr (hA : ∀ k, k < 4 → Asc 0 (g.C0 k)) (W : List Int) : ∀ (m k : Nat), k + m = 3 → (g.two W).fr k = g.fr k ∧ (g.two W).E k = g.E k ∧ cln (g.mr k) g.lt (((g.two W).C0 k).filter (fun j => !lowP ((g.two W).fr k) j)) = true := by
  have key : ∀ k, k < 4 → (g.two W).fr k = g.fr k → (g.two W).E k = g.E k ∧ cln (g.mr k) g.lt (((g.two W).C0 k).filter (fun j => !lowP ((g.two W).fr k) j)) = true := fun k hk hf => by
    obtain ⟨x, y, hp⟩ := g.prt hk
    obtain ⟨e1, e2⟩ := hp.filt hA hk hf
    obtain ⟨s1, s2⟩ := sk_again (mk := g.mr k) (lt := g.lt) hp.hz x ((g.C0 k).filter (lowP (g.fr k))) fun j hj => (hp.hx j hj).2.2
    refine ⟨?_, ?_⟩
    · have h1 : (g.two W).E k = sk (g.mr k) g.lt (((g.E k).1 ++ (g.E k).2).filter (lowP ((g.two W).fr k))) (((g.E k).1 ++ (g.E k).2).filter (fun j => !lowP ((g.two W).fr k) j)) := endR_eq hk
      rw [h1, e1, e2, s1, hp.e]
    · show cln _ _ (((g.E k).1 ++ (g.E k).2).filter (fun j => !lowP ((g.two W).fr k) j)) = true
      rw [e2]; exact s2
  intro m
  induction m with
  | zero =>
    intro k hk
    obtain rfl : k = 3 := by omega
    exact ⟨rfl, key 3 (by omega) rfl⟩
  | succ m ih =>
    intro k hk
    have h1 := (ih (k + 1) (by omega)).2.1
    have hf : (g.two W).fr k = g.fr k := by
      have a1 : (g.two W).fr k = lastF 0 ((g.two W).E (k + 1)).1 := frm_s (by omega)
      have a2 : g.fr k = lastF 0 (g.E (k + 1)).1 := frm_s (by omega)
      rw [a1, a2, h1]
    exact ⟨hf, key k (by omega) hf⟩
theorem FP.Pre.two (h : g.Pre) (W : List Int) : (g.two W).Ok := by
  have hf : ∀ k, k < 4 → (g.two W).fr k = g.fr k ∧ cln (g.mr k) g.lt (((g.two W).C0 k).filter (fun j => !lowP ((g.two W).fr k) j)) = true := fun k hk => by
    have := two_fr h.asc W (3 - k) k (by omega)
    exact ⟨this.1, this.2.2⟩
  refine ⟨h.N, fun k hk => ?_, fun k hk j hj => ?_, fun k hk => ?_, fun k hk => ?_, fun _ k hk => (hf k hk).2⟩
  · obtain ⟨x, y, h1, h2, h3, h4⟩ := sk_fst (mk := g.mr k) (lt := g.lt) ((g.C0 k).filter (fun j => !lowP (g.fr k) j)) ((g.C0 k).filter (lowP (g.fr k)))
    have hE : g.E k = ((g.C0 k).filter (lowP (g.fr k)) ++ x, y) := (endR_eq hk).trans h1
    show Asc 0 ((g.E k).1 ++ (g.E k).2)
    rw [hE]
    exact h4 0 (by rw [asc_split (h.asc k hk)]; exact h.asc k hk)
  · obtain ⟨x, y, hp⟩ := g.prt hk
    have hj : j ∈ (g.E k).1 ++ (g.E k).2 := hj
    rw [hp.e, List.mem_append, List.mem_append] at hj
    rcases hj with (h1 | h1) | h1
    · exact h.mem k hk j (List.mem_filter.1 h1).1
    · exact h.mem k hk j (hp.hx j h1).1
    · exact h.mem k hk j (hp.hy j h1).1
  · rw [(hf k hk).1]
    refine (h.fr (3 - k) k (by omega)).1.imp id fun hq => ⟨?_, hq.2⟩
    obtain ⟨x, y, hp⟩ := g.prt hk
    show _ ∈ (g.E k).1 ++ (g.E k).2
    rw [hp.e]
    exact List.mem_append_left _ (List.mem_append_left _ (List.mem_filter.2 ⟨hq.1, by unfold lowP; exact decide_eq_true (by omega)⟩))
  · rw [(hf k hk).1]; exact (h.fr (3 - k) k (by omega)).2
/-- a node that stands where one looks: in a row just if it isn't marked there -/
theorem sk_which {mk lt : Nat → Bool} {q : Nat} (hq : lt q = false) : ∀ (b a : List Nat) (f : Nat), Asc f b → q ∈ b → (∀ j ∈ b, j < q → lt j = true) → (∀ j ∈ a, j < q) → (q ∈ (sk mk lt a b).1 ++ (sk mk lt a b).2 ↔ mk q = false) := by
  intro b
  induction b with
  | nil => intro a f _ h; cases h
  | cons i b ih =>
    intro a f hA hm hl ha
    have hge := hA.2.ge
    by_cases hi : i = q
    · subst hi
      cases hmk : mk i with
      | true =>
        rw [sk_cut hmk]
        refine ⟨fun h => ?_, fun h => (by cases h)⟩
        exfalso
        obtain ⟨x, y, h1, h2, h3, -⟩ := sk_end (mk := mk) (lt := lt) b a
        rw [h1] at h
        have hni : i ∉ b := fun hb => by have := hge i hb; omega
        rcases List.mem_append.1 h with h | h
        · rcases List.mem_append.1 h with h | h
          · have := ha i h; omega
          · exact hni (h2 i h).1
        · exact hni (h3 i h)
      | false =>
        rw [sk_stop hmk hq]
        exact ⟨fun _ => rfl, fun _ => by simp⟩
    · have hb : q ∈ b := (List.mem_cons.1 hm).resolve_left (fun h => hi h.symm)
      have hiq : i < q := by have := hge q hb; omega
      have hl' : ∀ j ∈ b, j < q → lt j = true := fun j hj => hl j (List.mem_cons_of_mem _ hj)
      cases hmk : mk i with
      | true => rw [sk_cut hmk]; exact ih a (i + 1) hA.2 hb hl' ha
      | false =>
        rw [sk_pass hmk (hl i (List.mem_cons_self ..) hiq)]
        exact ih (a ++ [i]) (i + 1) hA.2 hb hl' fun j hj => by
          rcases List.mem_append.1 hj with h | h
          · exact ha j h
          · rw [List.mem_singleton.1 h]; exact hiq
theorem Asc.filt {f : Nat} {c : List Nat} (h : Asc f c) (p : Nat → Bool) : Asc f (c.filter p) := by
  induction c generalizing f with
  | nil => trivial
  | cons i c ih =>
    cases hp : p i with
    | true => rw [List.filter_cons_of_pos hp]; exact ⟨h.1, ih h.2⟩
    | false => rw [List.filter_cons_of_neg (by rw [hp]; decide)]; exact (ih h.2).weak (by have := h.1; omega)
theorem FP.Pre.which (h : g.Pre) {q : Nat} (hn : g.n = g.o q) (hlt : ∀ j, j < g.cnt → (g.lt j = true ↔ j < q)) (hq : q < g.cnt) {k : Nat} (hk : k < 4) : (q ∈ (g.E k).1 ++ (g.E k).2 ↔ q ∈ g.C0 k ∧ g.mr k q = false) := by
  have hfr : ∀ m k, k + m = 3 → g.fr k ≤ q := by
    intro m
    induction m with
    | zero => intro k hk; obtain rfl : k = 3 := by omega
              exact Nat.zero_le _
    | succ m ih =>
      intro k hk
      have h1 := ih (k + 1) (by omega)
      obtain ⟨x, y, hp⟩ := g.prt (k := k + 1) (by omega)
      rcases fr_next h.asc (by omega) (h.fr m (k + 1) (by omega)).1 hp with h3 | ⟨h3, h4⟩
      · omega
      · obtain ⟨q1, q2, q3, q4⟩ := hp.hx _ h3
        have := (hlt _ (h.mem (k + 1) (by omega) _ q1)).1 q4
        omega
  have hf := hfr (3 - k) k (by omega)
  have hql : g.lt q = false := by
    cases hl : g.lt q with
    | false => rfl
    | true => have := (hlt q hq).1 hl; omega
  by_cases hm : q ∈ g.C0 k
  · have hE : g.E k = _ := endR_eq hk
    rw [hE]
    have hb : q ∈ (g.C0 k).filter (fun j => !lowP (g.fr k) j) := List.mem_filter.2 ⟨hm, by unfold lowP; simp; omega⟩
    rw [show g.fr k = frm g.C0 g.mr g.lt k from rfl] at hb hf
    refine (sk_which hql _ _ 0 ((h.asc k hk).filt _) hb (fun j hj hjq => ?_) (fun j hj => ?_)).trans ⟨fun h => ⟨hm, h⟩, fun h => h.2⟩
    · exact (hlt j (h.mem k hk j (List.mem_filter.1 hj).1)).2 hjq
    · have := (List.mem_filter.1 hj).2
      unfold lowP at this
      have := of_decide_eq_true this
      omega
  · refine ⟨fun hh => ?_, fun hh => absurd hh.1 hm⟩
    exfalso
    obtain ⟨x, y, hp⟩ := g.prt hk
    rw [hp.e, List.mem_append, List.mem_append] at hh
    rcases hh with (h1 | h1) | h1
    · exact hm (List.mem_filter.1 h1).1
    · exact hm (hp.hx _ h1).1
    · exact hm (hp.hy _ h1).1
end
end Go.Proofs.YtbnbbafffihapaaGreat

/- Find: nodes that are laid and marked (plain). -/
namespace Go.Proofs.YtbnbbafffihapaaGreat
open Go.RowKit
attribute [local irreducible] Instr.loadAt Instr.storeAt Instr.fieldAt Instr.indexAt Instr.sliceAt Instr.buildSlice Instr.box Instr.alloc Builtin.append_ Builtin.len_ Builtin.min_ Builtin.max_ Calls Instr.build Instr.makeSlice binSem convert Instr.index Instr.range Instr.next
def mkA (ms : List Int) (j : Nat) : Int := if 0 < ms.getD j 0 then ms.getD j 0 else 0
def mkM (ms : List Int) (k j : Nat) : Bool := decide (mkA ms j ≤ (k : Int))
def ordN (l : List Nd) (j : Nat) : Int := (ndAt l j).key * 4294967296 + j
/-- while nodes are marked -/
structure Mks (W : List Int) (l : List Nd) (ms : List Int) (i : Nat) (kk : Int) : Prop where
  len : W.length = 18 + 10 * 20
  u : ∀ x ∈ W, u64R x
  link : ∀ k f : Nat, k < 4 → f ≤ l.length → (f = 0 ∨ (k : Int) < (ndAt l (f - 1)).tall) → W.getD (adr 20 f (5 + k)) 0 = 2 * nodeN l (nx l k f) + (if 0 < f ∧ (f - 1 < i ∨ (f - 1 = i ∧ (k : Int) < kk)) ∧ mkM ms k (f - 1) = true then 1 else 0)
  order : ∀ j, j < l.length → W.getD (adr 20 (j + 1) 0) 0 = ordN l j
theorem lnk_same {l : List Nd} (h : ∀ i, i < l.length → (ndAt l i).dead = false) : lnk 1 l = l := by
  unfold lnk
  rw [if_neg (by decide)]
  apply List.ext_getElem
  · simp
  · intro i h1 h2
    have := h i h2
    have e : ndAt l i = l[i] := by unfold ndAt; simp [List.getD, h2]
    rw [e] at this
    rw [List.getElem_map]
    generalize l[i] = x at this
    obtain ⟨a, b, c, d⟩ := x
    simp at this
    subst this; rfl
section
variable {W : List Int} {l : List Nd} {ms : List Int} {i : Nat} {kk : Int}
theorem Mks.init (h : Lays W 20 l) (hu : ∀ x ∈ W, u64R x) (hd : ∀ i, i < l.length → (ndAt l i).dead = false) : Mks W l ms 0 0 := by
  refine ⟨h.len, hu, fun k f h1 h2 h3 => ?_, fun j hj => ?_⟩
  · have := h.link k f h1 h2 h3
    rw [if_neg (fun hh => by rcases hh.2.1 with h | ⟨_, h⟩ <;> omega)]
    unfold adr
    rw [this]
    unfold wd
    have hm : markN l k (nx l k f) = false := by
      unfold markN
      by_cases hj : nx l k f < l.length
      · rw [hd _ hj]; simp
      · rw [decide_eq_false hj]; simp
    rw [hm]; rfl
  · have := h.order j hj
    unfold adr ordN
    rw [predN_nat, if_neg (by omega), show j + 1 + 2 - 1 = j + 2 by omega, Nat.add_zero]
    exact this
theorem Mks.into (h : Mks W l ms i 0) : Mks W l ms i (mkA ms i) := by
  refine ⟨h.len, h.u, fun k f h1 h2 h3 => ?_, h.order⟩
  rw [h.link k f h1 h2 h3]
  by_cases hc : 0 < f ∧ f - 1 < i ∧ mkM ms k (f - 1) = true
  · rw [if_pos ⟨hc.1, .inl hc.2.1, hc.2.2⟩, if_pos ⟨hc.1, .inl hc.2.1, hc.2.2⟩]
  · rw [if_neg (fun hh => by
      rcases hh.2.1 with h | ⟨_, h⟩
      · exact hc ⟨hh.1, h, hh.2.2⟩
      · omega), if_neg (fun hh => by
      rcases hh.2.1 with h | ⟨e, h⟩
      · exact hc ⟨hh.1, h, hh.2.2⟩
      · have := hh.2.2
        rw [e] at this
        unfold mkM at this
        have := of_decide_eq_true this
        omega)]
theorem Mks.step {q : Nat} (h : Mks W l ms i (q : Int)) (hi : i < l.length) (hl : l.length ≤ 18) (h4 : q < 4) (ht : (q : Int) < (ndAt l i).tall) (hm : mkA ms i ≤ (q : Int)) :
    W.getD (adr 20 (i + 1) (5 + q)) 0 < 1000 ∧ 0 ≤ W.getD (adr 20 (i + 1) (5 + q)) 0 ∧ Mks (W.set (adr 20 (i + 1) (5 + q)) (W.getD (adr 20 (i + 1) (5 + q)) 0 + 1)) l ms i ((q + 1 : Nat) : Int) := by
  have h0 := h.link q (i + 1) h4 (by omega) (.inr (by rw [Nat.add_sub_cancel]; exact ht))
  rw [if_neg (fun hh => by
    rcases hh.2.1 with h | ⟨_, h⟩
    · omega
    · omega)] at h0
  have hn : 0 ≤ nodeN l (nx l q (i + 1)) ∧ nodeN l (nx l q (i + 1)) ≤ 30 := by unfold nodeN; split <;> omega
  have hL : adr 20 (i + 1) (5 + q) < W.length := by rw [h.len]; exact adr_lt (by omega) (by omega)
  refine ⟨by omega, by omega, by rw [List.length_set]; exact h.len, fun y hy => mem_set_u h.u ⟨by omega, by omega⟩ hy, fun k f h1 h2 h3 => ?_, fun j hj => by rw [getD_set_ne' (adr_ne (by omega) (by omega) (.inr (by omega)))]; exact h.order j hj⟩
  by_cases hq : f = i + 1 ∧ k = q
  · obtain ⟨rfl, rfl⟩ := hq
    rw [getD_set_eq hL, h0, if_pos ⟨by omega, .inr ⟨by omega, by omega⟩, by rw [Nat.add_sub_cancel]; unfold mkM; exact decide_eq_true hm⟩]
    omega
  · rw [getD_set_ne' (adr_ne (by omega) (by omega) (by omega)), h.link k f h1 h2 h3]
    by_cases hc : 0 < f ∧ (f - 1 < i ∨ (f - 1 = i ∧ (k : Int) < (q : Int))) ∧ mkM ms k (f - 1) = true
    · rw [if_pos hc, if_pos ⟨hc.1, hc.2.1.imp id (fun h => ⟨h.1, by omega⟩), hc.2.2⟩]
    · rw [if_neg hc, if_neg (fun hh => hc ⟨hh.1, hh.2.1.imp id (fun h => ⟨h.1, by omega⟩), hh.2.2⟩)]
theorem Mks.next (h : Mks W l ms i kk) (hi : i < l.length) (ht : (ndAt l i).tall ≤ kk) : Mks W l ms (i + 1) 0 := by
  refine ⟨h.len, h.u, fun k f h1 h2 h3 => ?_, h.order⟩
  rw [h.link k f h1 h2 h3]
  by_cases hc : 0 < f ∧ f - 1 < i + 1 ∧ mkM ms k (f - 1) = true
  · rw [if_pos ⟨hc.1, by
      rcases Nat.lt_or_ge (f - 1) i with h | h
      · exact .inl h
      · have e : f - 1 = i := by omega
        refine .inr ⟨e, ?_⟩
        have := h3.resolve_left (by omega)
        rw [e] at this; omega, hc.2.2⟩, if_pos ⟨hc.1, .inl hc.2.1, hc.2.2⟩]
  · rw [if_neg (fun hh => hc ⟨hh.1, by rcases hh.2.1 with h | ⟨h, _⟩ <;> omega, hh.2.2⟩), if_neg (fun hh => by
      rcases hh.2.1 with h | ⟨_, h⟩
      · exact hc ⟨hh.1, h, hh.2.2⟩
      · omega)]
theorem Mks.chn (h : Mks W l ms l.length 0) (hl : l.length ≤ 18) {k : Nat} (hk : k < 4) : ∀ (m g : Nat), g ≤ l.length → (g = 0 ∨ (k : Int) < (ndAt l (g - 1)).tall) → l.length - g ≤ m → Chn W 20 (mkM ms k) k g (fromIx l k g) := by
  have hw : ∀ g, g ≤ l.length → (g = 0 ∨ (k : Int) < (ndAt l (g - 1)).tall) → ptrW (W.getD (adr 20 g (5 + k)) 0) = nodeN l (nx l k g) ∧ markW (W.getD (adr 20 g (5 + k)) 0) = mkf (mkM ms k) g := fun g hg ht => by
    rw [h.link k g hk hg ht]
    have hn : 0 ≤ nodeN l (nx l k g) ∧ nodeN l (nx l k g) ≤ 30 := by unfold nodeN; split <;> omega
    cases g with
    | zero =>
      rw [if_neg (fun hh => by omega)]
      unfold ptrW markW
      exact ⟨by omega, decide_eq_false (by omega)⟩
    | succ j =>
      show _ ∧ _ = mkM ms k j
      rw [Nat.add_sub_cancel]
      cases hm : mkM ms k j with
      | true =>
        rw [if_pos ⟨by omega, .inl (by omega), rfl⟩]
        unfold ptrW markW
        exact ⟨by omega, decide_eq_true (by omega)⟩
      | false =>
        rw [if_neg (fun hh => by cases hh.2.2)]
        unfold ptrW markW
        exact ⟨by omega, decide_eq_false (by omega)⟩
  intro m
  induction m with
  | zero =>
    intro g hg ht hm
    have e : fromIx l k g = [] := by unfold fromIx; rw [show l.length - g = 0 by omega]; rfl
    have hwg := hw g hg ht
    rw [nx_end (by omega), nodeN, if_neg (Nat.lt_irrefl _)] at hwg
    rw [e]; exact hwg
  | succ m ih =>
    intro g hg ht hm
    obtain ⟨h1, h2⟩ := fromIx_nx (l := l) (k := k) _ g rfl hg
    have hge := nx_ge (l := l) (k := k) g hg
    have hwg := hw g hg ht
    by_cases hj : nx l k g < l.length
    · rw [nodeN, if_pos hj] at hwg
      rw [h1 hj]
      exact ⟨hwg.1, hwg.2, ih (nx l k g + 1) (by omega) (.inr (by rw [Nat.add_sub_cancel]; exact hge.2.2 hj)) (by omega)⟩
    · rw [nodeN, if_neg hj] at hwg
      rw [h2 hj]; exact hwg
end
theorem asc_range (f n : Nat) : Asc f (List.range' f n) := by
  induction n generalizing f with
  | zero => trivial
  | succ n ih => rw [List.range'_succ]; exact ⟨Nat.le_refl _, ih (f + 1)⟩
theorem tallIx_mem {l : List Nd} {k j : Nat} : j ∈ tallIx l k ↔ j < l.length ∧ (k : Int) < (ndAt l j).tall := by
  unfold tallIx tallP
  rw [List.mem_filter, List.mem_range]
  simp
/-- a search's givens -/
def fpL (l : List Nd) (ms : List Int) (n : Int) : FP := ⟨ordN l, l.length, 20, mkM ms, tallIx l, n, False, []⟩
theorem fpL_pre {l : List Nd} {ms : List Int} {n : Int} (hl : l.length ≤ 18) : (fpL l ms n).Pre := by
  refine ⟨by show l.length + 2 ≤ 20 ∧ 20 ≤ 20 ∧ 3 ≤ 20; omega, fun k hk => ?_, fun k hk j hj => (tallIx_mem.1 hj).1, fun k hk j hj => ?_, fun k j hm => ?_⟩
  · show Asc 0 (tallIx l k)
    unfold tallIx
    rw [List.range_eq_range']
    exact (asc_range 0 _).filt _
  · have := tallIx_mem.1 (show j ∈ tallIx l (k + 1) from hj)
    exact tallIx_mem.2 ⟨this.1, by omega⟩
  · have hm : mkM ms (k + 1) j = false := hm
    unfold mkM at hm
    have := of_decide_eq_false hm
    show mkM ms k j = false
    unfold mkM
    exact decide_eq_false (by omega)
theorem fpL_bs {W : List Int} {l : List Nd} {ms : List Int} {n : Int} {t : PT} (hl : l.length ≤ 18) (h : Mks W l ms l.length 0) (ht : t.P.length = 4 ∧ t.S.length = 4 ∧ t.W.length = 4) : Bs (fpL l ms n) (tallIx l) W t :=
  ⟨h.len, h.u, fun k hk => by rw [← fromIx_0]; exact h.chn hl hk _ 0 (by omega) (.inl rfl) (Nat.le_refl _), (fpL_pre (ms := ms) (n := n) hl).asc, (fpL_pre (ms := ms) (n := n) hl).mem, h.order, ht, fun hq => hq.elim⟩
/-- of no nodes -/
def fpZ (n : Int) : FP := ⟨fun _ => 0, 0, 5, fun _ _ => false, fun _ => [], n, False, []⟩
theorem fpZ_pre (n : Int) : (fpZ n).Pre := ⟨(by decide : 0 + 2 ≤ 5 ∧ 5 ≤ 20 ∧ 3 ≤ 5), fun _ _ => trivial, fun _ _ j hj => (by cases hj), fun _ _ j hj => (by cases hj), fun _ _ _ => rfl⟩
theorem chn5 : ∀ k, k < 4 → ptrW ((WX 1 5).getD (adr 5 0 (5 + k)) 0) = 2 ∧ markW ((WX 1 5).getD (adr 5 0 (5 + k)) 0) = false := by decide +kernel
theorem fpZ_bs {n : Int} {t : PT} (ht : t.P.length = 4 ∧ t.S.length = 4 ∧ t.W.length = 4) : Bs (fpZ n) (fun _ => []) (WX 1 5) t :=
  ⟨okS_1_5.1, okS_1_5.2.1, fun k hk => by
    exact chn5 k hk, fun _ _ => trivial, fun _ _ j hj => (by cases hj), fun j hj => absurd hj (Nat.not_lt_zero j), ht, fun hq => hq.elim⟩
theorem fpZ_E (n : Int) {k : Nat} (hk : k < 4) : (fpZ n).E k = ([], []) := by
  obtain ⟨x, y, h⟩ := (fpZ n).prt hk
  have hx : x = [] := by
    cases x with
    | nil => rfl
    | cons i x => exact absurd (h.hx i (List.mem_cons_self ..)).1 (by intro hh; cases hh)
  have hy : y = [] := by
    cases y with
    | nil => rfl
    | cons i x => exact absurd (h.hy i (List.mem_cons_self ..)).1 (by intro hh; cases hh)
  rw [h.e, hx, hy]; rfl
/-- a machine's row, of a chain -/
theorem rowF_chn {W : List Int} {N : Nat} {mk : Nat → Bool} {k f : Nat} {c : List Nat} (hN : N = 20) (hk : k < 4) (h : Chn W N mk k f c) (hc : ∀ j ∈ c, j < 18) : ∀ m, c.length ≤ m → (rowF (cA 1 ((20 : Nat) : Int)) W (k : Int) m (W.getD (adr N f (5 + k)) 0)).map (·.1) = c.map fun (j : Nat) => (j : Int) + 3 := by
  subst hN
  induction c generalizing f with
  | nil =>
    intro m _
    cases m with
    | zero => rfl
    | succ m => rw [rowF, h.1, if_pos (by omega)]; rfl
  | cons j c ih =>
    intro m hm
    cases m with
    | zero => exact absurd hm (by simp)
    | succ m =>
      have hj := hc j (List.mem_cons_self ..)
      rw [rowF, h.1, if_neg (by omega), List.map_cons, List.map_cons]
      have hat : atV (cA 1 ((20 : Nat) : Int)) W ((j : Int) + 3) (5 + (k : Int)) = W.getD (adr 20 (j + 1) (5 + k)) 0 := by
        rw [← predN_s, show (5 : Int) + (k : Int) = ((5 + k : Nat) : Int) by omega, atV_node (.inl rfl) (by omega) (by omega)]
      rw [hat, ih (fun i hi => hc i (List.mem_cons_of_mem _ hi)) h.2.2 m (by simpa using hm)]
theorem rowI_chn {W : List Int} {mk : Nat → Bool} {k : Nat} {c : List Nat} (h : Chn W 20 mk k 0 c) (hs : Asc 0 c) (hc : ∀ j ∈ c, j < 18) (hk : k < 4) : rowI (cA 1 ((20 : Nat) : Int)) W (k : Int) = c.map fun (j : Nat) => (j : Int) + 3 := by
  have hl := asc_len hs hc (Nat.zero_le _)
  have h0 : atV (cA 1 ((20 : Nat) : Int)) W 1 (5 + (k : Int)) = W.getD (adr 20 0 (5 + k)) 0 := by
    have := atV_node (A := 1) (.inl rfl) (W := W) (i := 0) (f := 5 + k) (by omega) (by omega)
    rw [← this, show (5 : Int) + (k : Int) = ((5 + k : Nat) : Int) by omega]
    rfl
  unfold rowI
  rw [if_neg (by
    rintro (h1 | h1 | h1)
    · cases h1
    · omega
    · have : (4 : Int) ≤ (k : Int) := h1
      omega)]
  unfold rowV
  rw [h0]
  exact rowF_chn rfl hk h hc _ (by show c.length ≤ ((20 : Nat) : Int).toNat; omega)
end Go.Proofs.YtbnbbafffihapaaGreat

/- Find: the law's lives, and its machine on which nodes are laid and marked. -/
namespace Go.Proofs.YtbnbbafffihapaaGreat
open Go.RowKit
attribute [local irreducible] Instr.loadAt Instr.storeAt Instr.fieldAt Instr.indexAt Instr.sliceAt Instr.buildSlice Instr.box Instr.alloc Builtin.append_ Builtin.len_ Builtin.min_ Builtin.max_ Calls Instr.build Instr.makeSlice binSem convert Instr.index Instr.range Instr.next
/-- a list of the call's own, apart from the machine -/
structure FarL (w0 w : World) (X : Mc) (e n : Nat) (v : Value) (len : Nat) (xs : List Value) : Prop where
  sl : Sl w e n v len xs
  n : ∀ g, v.ownBlock = some g → g ∉ X.feet
  fr : ∀ g, v.ownBlock = some g → w0.heap.size ≤ g
theorem FarL.upd0 {w0 w w' : World} {X : Mc} {e n : Nat} {v : Value} {len : Nat} {xs : List Value} (h : FarL w0 w X e n v len xs) (hu : Upd [] w w') : FarL w0 w' X e n v len xs := ⟨h.sl.upd hu (by simp), h.n, h.fr⟩
theorem FarL.post {w0 w w' : World} {X Y : Mc} {e n : Nat} {v : Value} {len : Nat} {xs : List Value} (h : FarL w0 w X e n v len xs) (p : Post w X w' Y) : FarL w0 w' Y e n v len xs := ⟨h.sl.upd p.to.up h.n, fun g hg hm => by
  have hlt := h.sl.lt g hg
  rcases p.to.sub g hm with h1 | h1
  · exact h.n g hg h1
  · omega, h.fr⟩
section
variable {A : Int} {w w' w'' w0 : World} {X : Mc} {N : Nat} {W : List Int} {k : Int} {a : Bool} {t : PT}
theorem LX.thr (h : LX A w w' X N W k a t) : ∃ t', X.ths[0]? = some t' ∧ X.ths.length ≤ 100 ∧ absT t' = t := by
  obtain ⟨t', h1, h2, -⟩ := abs_oneX h.abs
  exact ⟨t', by rw [h1]; rfl, by rw [h1]; simp, h2⟩
/-- something of the call's own, apart from the machine, is changed -/
theorem LX.own (h : LX A w w' X N W k a t) {S : List Nat} (hu : Upd S w' w'') (hn : ∀ g ∈ S, g ∉ X.feet) (hf : ∀ g ∈ S, w.heap.size ≤ g) : LX A w w'' X N W k a t :=
  ⟨⟨Sep.upd h.new.ok hu (fun k hk hm => hn k hm hk), h.new.up.step hu (fun x hx => .inr (hf x hx)), h.new.fr⟩, h.abs, h.calm⟩
theorem LX.good (h : LX A w w' X N W k a t) (hA : inA A) (hN : 3 ≤ N ∧ N ≤ 20) (hu : ∀ x ∈ W, u64R x) (hl : W.length = 18 + 10 * N) (hk : 0 ≤ k ∧ k ≤ 890000) : Good X 900000 :=
  ⟨by rw [h.abs]; exact MX_Ok hA hN.1 hN.2 hu hl (by omega), h.calm⟩
theorem LX.mload (h : LX A w w' X N W k a t) (hA : inA A) (hN : 3 ≤ N ∧ N ≤ 20) (hu : ∀ x ∈ W, u64R x) (hl : W.length = 18 + 10 * N) (hk : 0 ≤ k ∧ k ≤ 890000) {x : Nat} (hx : x < W.length) :
    Fn Tryz.prog 19 #[ptrV X.m, .int .i64 (x : Int)] w' fun r w'' => r = .int .u64 (W.getD x 0) ∧ ∃ Y, LX A w w'' Y N W (k + 1) true t ∧ Y.m = X.m ∧ Post w' X w'' Y := by
  have hlo := load_p h.new.ok (h.good hA hN hu hl hk) (by omega) (x : Int)
  rw [h.abs, MX_ldv hx, MX_load hx] at hlo
  exact hlo.mono fun _ w2 ⟨u, he, hr, hev⟩ => ⟨u, he, hr, h.ev hev.ev⟩
theorem LX.mstore (h : LX A w w' X N W k a t) (hA : inA A) (hN : 3 ≤ N ∧ N ≤ 20) (hu : ∀ x ∈ W, u64R x) (hl : W.length = 18 + 10 * N) (hk : 0 ≤ k ∧ k ≤ 890000) {x : Nat} (hx : x < W.length) (v : Int) :
    Fn Tryz.prog 18 #[ptrV X.m, .int .i64 (x : Int), .int .u64 v] w' fun _ w'' => ∃ Y, LX A w w'' Y N (W.set x v) (k + 1) true t ∧ Y.m = X.m ∧ Post w' X w'' Y := by
  have hlo := store_p h.new.ok (h.good hA hN hu hl hk) (by omega) (x : Int) v
  rw [h.abs, MX_store hx] at hlo
  exact hlo.mono fun _ w2 ⟨u, he, hev⟩ => ⟨u, he, h.ev hev.ev⟩
theorem LX.load (h : LX A w w' X N W k a t) (hk : 0 ≤ k ∧ k ≤ 900000) {x : Nat} (hx : x < W.length) : Fn Tryz.prog 11 #[ptrV X.mp, .int .i64 (x : Int)] w' fun r w'' => r = .tuple #[.int .u64 (W.getD x 0), .int .i64 0] ∧ ∃ Y, LX A w w'' Y N W (k + 1) a t ∧ Y.m = X.m ∧ Y.ths = X.ths ∧ Post w' X w'' Y := by
  have hkX : X.s.k = k := congrArg PS.k h.abs
  have hWX : X.s.W = W := congrArg PS.W h.abs
  have hroom : Roomy X.s := ⟨by omega, by omega, by rw [h.calm.2]; decide⟩
  have ho : okA X.s (x : Int) := (okA_abs X _).2 (by rw [h.abs]; exact MX_ok hx)
  refine (load_c h.new.ok.mem hroom (x : Int)).mono ?_
  rintro e w2 ⟨u, he, h1, -⟩
  obtain ⟨hr, hp⟩ := h1 ho
  obtain ⟨lv, p⟩ := h.new.ok.memPost hp
  refine ⟨u, he, ?_, _, ⟨h.new.post p, ?_, ⟨h.calm.1, by show (if X.s.on then _ else X.s.L) = []; rw [h.calm.1]; exact h.calm.2⟩⟩, rfl, rfl, p⟩
  · rw [hr]
    have : rd X.s (x : Int) = W.getD x 0 := by
      have e1 : rd X.s (x : Int) = X.abs.rd (x : Int) := rfl
      rw [e1, h.abs]; rfl
    rw [this]
  · have e2 := h.abs
    show (⟨X.c, X.s.W, X.s.k + 1, X.gs.map absG, X.acted, X.bad, X.ths.map absT⟩ : PS) = _
    rw [show X.c = cA A (N : Int) from h.c_, hWX, hkX, show X.gs.map absG = none from congrArg PS.gh e2, show X.acted = a from congrArg PS.acted e2, show X.bad = false from congrArg PS.bad e2, show X.ths.map absT = [t] from congrArg PS.ths e2]
    rfl
end
set_option maxRecDepth 10000 in
theorem lives25 (w : World) : Fn Tryz.prog 5 #[] w fun r w' => r = .bool true ∧ Upd [] w w' := by
  refine fn_enter Tryz.func5 rfl rfl ?_
  refine cl (fstx_c (A := 1) (q := 0) (N := 5) (.inl rfl) rfl (.inr rfl) okS_1_5 _) ?_
  rintro _ w1 ⟨X, k, t, rfl, F⟩
  refine ptr_ne ?_
  have hk := F.k0
  refine cl (seek25 (g := fpZ 7) F.new.ok F.calm F.abs ((fpZ_pre 7).ok id) F.fs (fpZ_bs F.lens) (fun _ _ => rfl) (show u64R 7 by decide) ⟨by omega, by omega⟩) ?_
  rintro _ w2 ⟨rfl, C', W', k', t', hev, hF, hk2, hk3⟩
  obtain ⟨Y, H, hm, -⟩ := F.lx.ev hev
  obtain ⟨th, e1, e2, e3⟩ := H.thr
  have htm := thread_mm (i := 0) H.new.ok e1 e2
  rw [hm] at htm
  refine cl htm ?_
  rintro _ w2 ⟨rfl, rfl⟩
  have hb := (H.new.ok.core e1).blk
  obtain ⟨l1, l2, l3⟩ := hF.b.lens
  rw [← e3, absT_P] at l1
  rw [← e3, absT_S] at l2
  obtain ⟨b1, o1, c1, hv1, hc1⟩ := slot_at (H.new.ok.pv_ e1) l1
  obtain ⟨b2, o2, c2, hv2, hc2⟩ := slot_at (H.new.ok.sv_ e1) l2
  have g1 := (hF.all 0 (by omega)).p
  have g2 := (hF.all 3 (by omega)).s
  rw [← e3, absT_P, fpZ_E 7 (by omega)] at g1
  rw [← e3, absT_S, fpZ_E 7 (by omega)] at g2
  have q1 : th.P.getD 0 0 = 1 := g1
  have q2 : th.S.getD 3 0 = 2 := g2
  rw [hv1, hv2] at hb
  refine fa ?_
  refine ldb hb rfl ?_
  refine ix 0 rfl (by omega) ?_
  refine ld (v := .int .u64 1) (by rw [hc1 0 (by omega), q1]) ?_
  refine cl htm ?_
  rintro _ w2 ⟨rfl, rfl⟩
  refine fa ?_
  refine ldb hb rfl ?_
  refine ix 3 rfl (by omega) ?_
  refine ld (v := .int .u64 2) (by rw [hc2 3 (by omega), q2]) ?_
  exact ⟨rfl, H.new.up⟩
/-- may the node not be? -/
def badF (l : List Nd) (i : Nat) : Bool :=
  (decide ((ndAt l i).tall < 1) || decide (4 < (ndAt l i).tall)) || ((ndAt l i).dead || (decide (0 < i) && decide ((ndAt l i).key < (ndAt l (i - 1)).key)))
structure OkF (l : List Nd) (ms : List Int) : Prop where
  l18 : l.length ≤ 18
  lm : l.length ≤ ms.length
  all : ∀ i, i < l.length → badF l i = false
theorem OkF.of {l : List Nd} {ms : List Int} (h : OkF l ms) {i : Nat} (hi : i < l.length) : (1 ≤ (ndAt l i).tall ∧ (ndAt l i).tall ≤ 4) ∧ (ndAt l i).dead = false ∧ (0 < i → (ndAt l (i - 1)).key ≤ (ndAt l i).key) := by
  have hb := h.all i hi
  unfold badF at hb
  simp only [Bool.or_eq_false_iff, Bool.and_eq_false_iff, decide_eq_false_iff_not] at hb
  refine ⟨by omega, hb.2.1, fun h0 => by rcases hb.2.2 with h | h <;> omega⟩
def xC (l : List Nd) (ms : List Int) (j : Nat) : List Value := [.int .u64 (ordN l j), .int .i64 (ndAt l j).tall, .int .i64 (mkA ms j)]
def xL (l : List Nd) (ms : List Int) (i : Nat) : List Value := (List.range i).flatMap (xC l ms)
theorem xL_succ (l : List Nd) (ms : List Int) (i : Nat) : xL l ms (i + 1) = xL l ms i ++ xC l ms i := by unfold xL; rw [List.range_succ, List.flatMap_append]; simp
theorem xL_len (l : List Nd) (ms : List Int) (i : Nat) : (xL l ms i).length = i * 3 := by
  induction i with
  | zero => rfl
  | succ i ih => rw [xL_succ, List.length_append, ih]; show i * 3 + 3 = _; omega
theorem xL_at (l : List Nd) (ms : List Int) {n j f : Nat} (hj : j < n) (hf : f < 3) : (xL l ms n)[j * 3 + f]? = (xC l ms j)[f]? := by
  induction n with
  | zero => omega
  | succ n ih =>
    rw [xL_succ]
    have hl := xL_len l ms n
    by_cases h : j < n
    · rw [List.getElem?_append_left (by omega)]; exact ih h
    · obtain rfl : j = n := by omega
      rw [List.getElem?_append_right (by omega), hl, Nat.add_sub_cancel_left]
abbrev TXn : Nat := 63
/-- a cell of the document's nodes -/
theorem FarL.xcell {w0 w : World} {X : Mc} {l : List Nd} {ms : List Int} {n b o cp : Nat} (h : FarL w0 w X TXn 3 (.slice (some ⟨b, o, none⟩) n cp) n (xL l ms n)) {j f : Nat} (hj : j < n) (hf : f < 3) {v : Value} (hv : (xC l ms j)[f]? = some v) : w.cell? ⟨b, o + j * 3 + f, none⟩ = some v := by
  rw [show o + j * 3 + f = o + (j * 3 + f) by omega, (h.sl.cells rfl (j * 3 + f) (by omega)).1, xL_at l ms hj hf]; exact hv
section
set_option maxRecDepth 100000 in
set_option maxHeartbeats 2000000 in
theorem made_c {w : World} {v mv : Value} {l : List Nd} {ms : List Int} (hl : RdNd w v l) (hu : NdU l) (hms : RdK w .i64 mv ms) : Fn Tryz.prog 4 #[v, mv] w fun r w' =>
    ((∃ xv, r = .tuple #[.pointer none, xv]) ∧ Upd [] w w' ∧ ¬ OkF l ms) ∨ (OkF l ms ∧ ∃ X W k a t xv, r = .tuple #[ptrV X.m, xv] ∧ LX 1 w w' X 20 W k a t ∧ Mks W l ms l.length 0 ∧ FarL w w' X TXn 3 xv l.length (xL l ms l.length) ∧ t.fs = [] ∧ (t.P.length = 4 ∧ t.S.length = 4 ∧ t.W.length = 4) ∧ 0 ≤ k ∧ k ≤ 3000) := by
  obtain ⟨va, vc, rfl, hv1, hv2⟩ := hl.form
  obtain ⟨ma, mc, rfl, hm1, hm2⟩ := hms.form
  refine fn_enter Tryz.func4 rfl rfl ?_
  refine len_sl ?_
  refine cd (fun hlen => ?_) (fun hlen => ?_)
  · exact .inl ⟨⟨_, rfl⟩, .refl _ _, fun hh => by have := hh.l18; omega⟩
  refine len_sl ?_
  refine len_sl ?_
  refine cd (fun hlm => ?_) (fun hlm => ?_)
  · exact .inl ⟨⟨_, rfl⟩, .refl _ _, fun hh => by have := hh.lm; omega⟩
  refine cl (fstx_c (A := 1) (q := 0) (N := 20) (.inl rfl) rfl (.inl rfl) okS_1_20 _) ?_
  rintro _ w1 ⟨X, k, t, rfl, F⟩
  refine ptr_eq ?_
  refine loop_rule [0, 1, 7] [6, 8] (fun vs w' m => ∃ (i : Nat) (xv : Value), vs = [xv, .int .i64 (i : Int)] ∧ i ≤ l.length ∧ m = l.length - i ∧ LX 1 w w' X 20 (WX 1 20) k false t ∧ FarL w w' X TXn 3 xv i (xL l ms i) ∧ ∀ j, j < i → badF l j = false) rfl [.slice none 0 0, .int .i64 0] l.length rfl ⟨0, _, rfl, by omega, rfl, F.lx, ⟨Sl.nil_ _ _ _, fun g hg => (by cases hg), fun g hg => (by cases hg)⟩, fun j hj => by omega⟩ ?_
  rintro _ w1 m ⟨i, xv, rfl, hi, rfl, H, hX, hall⟩
  have hl1 := hl.upd0 H.new.up
  refine len_sl ?_
  refine cd (fun hlt => ?_) (fun hlt => ?_)
  · have hlt : i < l.length := by omega
    obtain ⟨b, o, cap, he, -⟩ := hl.some_ (by omega)
    cases he
    obtain ⟨b2, o2, cap2, he, -⟩ := hms.some_ (by omega)
    cases he
    have hki := (hu.at_ hlt).1
    refine draw_all (fun w' => Upd [] w1 w') (by decide +kernel) (Upd.refl [] w1).drew ?_
    refine q_ix i rfl hlt ?_
    refine q_fa ?_
    refine q_ld (v := .int .i64 (ndAt l i).tall) (fun w' hw' => by rw [(hl1.upd0 hw').nd rfl i hlt 2 (by omega)]; rw [ndL]; rfl) ?_
    refine cd (fun h1 => ?_) (fun h1 => ?_)
    · intro w2 hw2
      exact .inl ⟨⟨_, rfl⟩, H.new.up.trans hw2, fun hh => by have := hh.all i hlt; unfold badF at this; simp only [h1, decide_true] at this; simp at this; try omega⟩
    refine q_ix i rfl hlt ?_
    refine q_fa ?_
    refine q_ld (v := .int .i64 (ndAt l i).tall) (fun w' hw' => by rw [(hl1.upd0 hw').nd rfl i hlt 2 (by omega)]; rw [ndL]; rfl) ?_
    refine cd (fun h2 => ?_) (fun h2 => ?_)
    · intro w2 hw2
      exact .inl ⟨⟨_, rfl⟩, H.new.up.trans hw2, fun hh => by have := hh.all i hlt; unfold badF at this; simp only [h1, h2, decide_true, decide_false] at this; simp at this; try omega⟩
    cases hd : (ndAt l i).dead with
    | true =>
      refine q_ix i rfl hlt ?_
      refine q_fa ?_
      refine q_ld (v := .bool true) (fun w' hw' => by rw [(hl1.upd0 hw').nd rfl i hlt 3 (by omega)]; rw [ndL]; rw [hd]; rfl) ?_
      intro w2 hw2
      exact .inl ⟨⟨_, rfl⟩, H.new.up.trans hw2, fun hh => by have := hh.all i hlt; unfold badF at this; simp only [h1, h2, hd, decide_true, decide_false] at this; simp at this; try omega⟩
    | false =>
      refine q_ix i rfl hlt ?_
      refine q_fa ?_
      refine q_ld (v := .bool false) (fun w' hw' => by rw [(hl1.upd0 hw').nd rfl i hlt 3 (by omega)]; rw [ndL]; rw [hd]; rfl) ?_
      by_cases h3 : i = 0
      · have h3 : ¬ 0 < i := by omega
        refine cN (show ¬ (i : Int) > 0 by omega) ?_
        intro w2 hw2
        have H2 := H.upd0 hw2
        have hl2 := hl1.upd0 hw2
        have hX2 := hX.upd0 hw2
        have hms2 := (hms.upd0 H.new.up).upd0 hw2
        refine draw_mix 23 [(0, true), (1, true), (2, true), (3, true), (4, true), (5, true), (6, true), (7, true), (8, true), (9, true), (10, true), (11, true), (12, true), (13, true), (14, true), (15, true), (16, true), (17, true), (18, true), (19, true), (20, true), (21, true), (22, false)] (fun w' => Upd [] w2 w') (by decide +kernel) (Upd.refl [] w2).drew ?_
        refine q_ix i rfl hlt ?_
        refine q_fa ?_
        refine q_ld (v := .int .u32 (ndAt l i).key) (fun w' hw' => by rw [(hl2.upd0 hw').nd rfl i hlt 0 (by omega)]; rfl) ?_
        refine rq (.int .u64 (ndAt l i).key) (fun _ _ => cv (arU (by omega) ⟨rfl, rfl⟩)) ?_
        refine q_arU (by omega) ?_
        refine rq (.int .u64 (i : Int)) (fun _ _ => cv (arU (by omega) ⟨rfl, rfl⟩)) ?_
        refine q_arU (by omega) ?_
        refine q_ix i rfl hlt ?_
        refine q_fa ?_
        refine q_ld (v := .int .i64 (ndAt l i).tall) (fun w' hw' => by rw [(hl2.upd0 hw').nd rfl i hlt 2 (by omega)]; rfl) ?_
        refine q_ix i rfl (by omega) ?_
        refine q_ld (v := .int .i64 (ms.getD i 0)) (fun w' hw' => (hms2.upd0 hw').at_ rfl i (by omega)) ?_
        refine rq (.int .i64 (mkA ms i)) (fun _ _ => mx2 ⟨⟨rfl, rfl⟩⟩) ?_
        refine rq (.agg #[.int .u64 (ordN l i), .int .i64 (ndAt l i).tall, .int .i64 (mkA ms i)]) (fun _ _ => bd #[.int .u64 (ordN l i), .int .i64 (ndAt l i).tall, .int .i64 (mkA ms i)] (fun _ => by kernel_rfl) ⟨rfl, rfl⟩) ?_
        refine bs #[.int .u64 (ordN l i), .int .i64 (ndAt l i).tall, .int .i64 (mkA ms i)] (fun _ => by kernel_rfl) fun w4 hb4 hu4 hs4 => ?_
        have hu24 : Upd [] w2 w4 := (Upd.refl [] w2).drew.trans hu4
        refine ⟨hu24, ?_⟩
        have H4 := H2.upd0 hu24
        have hX4 := hX2.upd0 hu24
        refine apg hX4.sl hb4 rfl rfl (by decide) (by simp only [maxLen]; omega) (by omega) fun xv5 w5 hs5 hG5 => ?_
        refine ar64 (by omega) ?_
        refine round_mk [xv5, .int .i64 ((i + 1 : Nat) : Int)] (l.length - (i + 1)) rfl rfl ⟨i + 1, xv5, rfl, by omega, rfl, H4.own hG5.up (fun g hg => hX4.n g (by simpa using hg)) (fun g hg => hX4.fr g (by simpa using hg)), ⟨?_, fun g hg => ?_, fun g hg => ?_⟩, fun j hj => ?_⟩ (by omega)
        · rw [xL_succ]; exact hs5
        · rcases hG5.own g hg with h1 | h1
          · exact hX4.n g h1
          · intro hm; have := H4.new.ok.lt g hm; omega
        · rcases hG5.own g hg with h1 | h1
          · exact hX4.fr g h1
          · have := H4.new.up.size; omega
        · rcases Nat.lt_or_ge j i with hji | hji
          · exact hall j hji
          · obtain rfl : j = i := by omega
            unfold badF
            simp only [h1, h2, h3, hd, decide_true, decide_false]
            simp
            try omega
      · refine cY (show (i : Int) > 0 by omega) ?_
        have h3 : 0 < i := by omega
        have hpl : i - 1 < l.length := by omega
        have hkp := (hu.at_ hpl).1
        refine q_ix i rfl hlt ?_
        refine q_fa ?_
        refine q_ld (v := .int .u32 (ndAt l i).key) (fun w' hw' => by rw [(hl1.upd0 hw').nd rfl i hlt 0 (by omega)]; rw [ndL]; rfl) ?_
        refine q_ar64 (by omega) ?_
        rw [show (i : Int) - 1 = ((i - 1 : Nat) : Int) by omega]
        refine q_ix (i - 1) rfl hpl ?_
        refine q_fa ?_
        refine q_ld (v := .int .u32 (ndAt l (i - 1)).key) (fun w' hw' => by rw [(hl1.upd0 hw').nd rfl (i - 1) hpl 0 (by omega)]; rw [ndL]; rfl) ?_
        intro w2 hw2
        refine cd (fun h4 => ?_) (fun h4 => ?_)
        · exact .inl ⟨⟨_, rfl⟩, H.new.up.trans hw2, fun hh => by have := hh.all i hlt; unfold badF at this; simp only [h1, h2, h3, hd, h4, decide_true, decide_false] at this; simp at this⟩
        · have H2 := H.upd0 hw2
          have hl2 := hl1.upd0 hw2
          have hX2 := hX.upd0 hw2
          have hms2 := (hms.upd0 H.new.up).upd0 hw2
          refine draw_mix 23 [(0, true), (1, true), (2, true), (3, true), (4, true), (5, true), (6, true), (7, true), (8, true), (9, true), (10, true), (11, true), (12, true), (13, true), (14, true), (15, true), (16, true), (17, true), (18, true), (19, true), (20, true), (21, true), (22, false)] (fun w' => Upd [] w2 w') (by decide +kernel) (Upd.refl [] w2).drew ?_
          refine q_ix i rfl hlt ?_
          refine q_fa ?_
          refine q_ld (v := .int .u32 (ndAt l i).key) (fun w' hw' => by rw [(hl2.upd0 hw').nd rfl i hlt 0 (by omega)]; rfl) ?_
          refine rq (.int .u64 (ndAt l i).key) (fun _ _ => cv (arU (by omega) ⟨rfl, rfl⟩)) ?_
          refine q_arU (by omega) ?_
          refine rq (.int .u64 (i : Int)) (fun _ _ => cv (arU (by omega) ⟨rfl, rfl⟩)) ?_
          refine q_arU (by omega) ?_
          refine q_ix i rfl hlt ?_
          refine q_fa ?_
          refine q_ld (v := .int .i64 (ndAt l i).tall) (fun w' hw' => by rw [(hl2.upd0 hw').nd rfl i hlt 2 (by omega)]; rfl) ?_
          refine q_ix i rfl (by omega) ?_
          refine q_ld (v := .int .i64 (ms.getD i 0)) (fun w' hw' => (hms2.upd0 hw').at_ rfl i (by omega)) ?_
          refine rq (.int .i64 (mkA ms i)) (fun _ _ => mx2 ⟨⟨rfl, rfl⟩⟩) ?_
          refine rq (.agg #[.int .u64 (ordN l i), .int .i64 (ndAt l i).tall, .int .i64 (mkA ms i)]) (fun _ _ => bd #[.int .u64 (ordN l i), .int .i64 (ndAt l i).tall, .int .i64 (mkA ms i)] (fun _ => by kernel_rfl) ⟨rfl, rfl⟩) ?_
          refine bs #[.int .u64 (ordN l i), .int .i64 (ndAt l i).tall, .int .i64 (mkA ms i)] (fun _ => by kernel_rfl) fun w4 hb4 hu4 hs4 => ?_
          have hu24 : Upd [] w2 w4 := (Upd.refl [] w2).drew.trans hu4
          refine ⟨hu24, ?_⟩
          have H4 := H2.upd0 hu24
          have hX4 := hX2.upd0 hu24
          refine apg hX4.sl hb4 rfl rfl (by decide) (by simp only [maxLen]; omega) (by omega) fun xv5 w5 hs5 hG5 => ?_
          refine ar64 (by omega) ?_
          refine round_mk [xv5, .int .i64 ((i + 1 : Nat) : Int)] (l.length - (i + 1)) rfl rfl ⟨i + 1, xv5, rfl, by omega, rfl, H4.own hG5.up (fun g hg => hX4.n g (by simpa using hg)) (fun g hg => hX4.fr g (by simpa using hg)), ⟨?_, fun g hg => ?_, fun g hg => ?_⟩, fun j hj => ?_⟩ (by omega)
          · rw [xL_succ]; exact hs5
          · rcases hG5.own g hg with h1 | h1
            · exact hX4.n g h1
            · intro hm; have := H4.new.ok.lt g hm; omega
          · rcases hG5.own g hg with h1 | h1
            · exact hX4.fr g h1
            · have := H4.new.up.size; omega
          · rcases Nat.lt_or_ge j i with hji | hji
            · exact hall j hji
            · obtain rfl : j = i := by omega
              unfold badF
              simp only [h1, h2, h3, hd, h4, decide_true, decide_false]
              simp
              try omega
  obtain rfl : i = l.length := by omega
  have hP : OkF l ms := ⟨by omega, by omega, hall⟩
  have htl : tallsOk l := fun j hj => (hP.of hj).1
  have hdd : ∀ j, j < l.length → (ndAt l j).dead = false := fun j hj => (hP.of hj).2.1
  have hk0 := F.k0
  refine cl (layX_1 (q := 0) (l := l) rfl H.new F.calm H.abs (part0x okS_1_20 _) (htl.nds (by omega) hu) (fun x hx => (hu x hx).2) hl ⟨by omega, by omega⟩) ?_
  rintro _ w2 ⟨W', k', a', hev, hL, -, hW, hk2, hk3⟩
  obtain ⟨Y, H2, hm, hp⟩ := H.ev hev
  rw [lnk_same hdd] at hL
  have hX2 := hX.post hp
  have hl2 := hl.upd0 H2.new.up
  obtain ⟨xa, xc, rfl, -⟩ := hX2.sl.form
  have hcr : rightC (cA 1 ((20 : Nat) : Int)) := cA_right (.inl rfl) (by omega) (by omega)
  refine loop_rule [0, 6, 7] [9] (fun vs w' m => ∃ (i : Nat) (Z : Mc) (W : List Int) (kz : Int) (a : Bool), vs = [.int .i64 (i : Int)] ∧ i ≤ l.length ∧ m = l.length - i ∧ LX 1 w w' Z 20 W kz a t ∧ Z.m = X.m ∧ Mks W l ms i 0 ∧ FarL w w' Z TXn 3 (.slice xa l.length xc) l.length (xL l ms l.length) ∧ 0 ≤ kz ∧ kz ≤ 1500 + 8 * i) rfl [.int .i64 0] l.length rfl
    ⟨0, Y, W', k', a', rfl, by omega, rfl, H2, hm, Mks.init hL hW hdd, hX2, by omega, by omega⟩ ?_
  rintro _ w3 m ⟨i, Z, W, kz, a, rfl, hi, rfl, HZ, hmZ, hM, hXZ, hkz, hkz2⟩
  have hlZ := hl.upd0 HZ.new.up
  refine len_sl ?_
  refine cd (fun hlt => ?_) (fun hlt => ?_)
  · have hlt : i < l.length := by omega
    obtain ⟨b, o, cap, he, -⟩ := hl.some_ (by omega)
    cases he
    obtain ⟨b2, o2, cap2, he, -⟩ := hXZ.sl.some_ (by omega)
    cases he
    obtain ⟨ht1, ht2⟩ := (hP.of hlt).1
    have hmk0 : 0 ≤ mkA ms i := by unfold mkA; split <;> omega
    refine ix i rfl (by omega) ?_
    refine fa ?_
    refine ld (v := .int .i64 (mkA ms i)) (hXZ.xcell hlt (by omega) rfl) ?_
    refine loop_rule [0, 6, 7, 9] [10] (fun vs w' m => ∃ (q : Nat) (Z : Mc) (W : List Int) (kz : Int) (a : Bool), vs = [.int .i64 (q : Int)] ∧ mkA ms i ≤ (q : Int) ∧ m = 4 - q ∧ LX 1 w w' Z 20 W kz a t ∧ Z.m = X.m ∧ Mks W l ms i (q : Int) ∧ FarL w w' Z TXn 3 (.slice (some ⟨b2, o2, none⟩) l.length xc) l.length (xL l ms l.length) ∧ 0 ≤ kz ∧ kz ≤ 1500 + 8 * i + 2 * (min q 4 : Nat)) rfl [.int .i64 (mkA ms i)] (4 - (mkA ms i).toNat) rfl
      ⟨(mkA ms i).toNat, Z, W, kz, a, by rw [Int.toNat_of_nonneg hmk0], by omega, rfl, HZ, hmZ, by rw [Int.toNat_of_nonneg hmk0]; exact hM.into, hXZ, by omega, by omega⟩ ?_
    clear hM hXZ HZ hmZ hkz hkz2 hlZ
    rintro _ w4 m ⟨q, Z, W, kz, a, rfl, hq, rfl, HZ, hmZ, hM, hXZ, hkz, hkz2⟩
    have hlZ := hl.upd0 HZ.new.up
    refine ix i rfl hlt ?_
    refine fa ?_
    refine ld (v := .int .i64 (ndAt l i).tall) (by rw [hlZ.nd rfl i hlt 2 (by omega)]; rfl) ?_
    refine cd (fun hqt => ?_) (fun hqt => ?_)
    · have hpm := plan_mm HZ.new.ok
      rw [hmZ, HZ.c_] at hpm
      refine cl hpm ?_
      rintro _ w5 ⟨rfl, hu5⟩
      refine ar64 (by omega) ?_
      refine ar64 (by omega) ?_
      refine cl (node_a2 hcr ((i : Int) + 3) (5 + (q : Int)) w5) ?_
      rintro _ w6 ⟨rfl, hu6⟩
      have H6 := (HZ.upd0 hu5).upd0 hu6
      have hX6 := (hXZ.upd0 hu5).upd0 hu6
      have hA : (cA 1 ((20 : Nat) : Int)).node ((i : Int) + 3) (5 + (q : Int)) = (adr 20 (i + 1) (5 + q) : Int) := by
        rw [← predN_s, show (5 : Int) + (q : Int) = ((5 + q : Nat) : Int) by omega, adr_nodeA (.inl rfl) (by omega) (by omega)]
      rw [hA]
      have hL6 : adr 20 (i + 1) (5 + q) < W.length := by rw [hM.len]; exact adr_lt (by omega) (by omega)
      obtain ⟨s1, s2, s3⟩ := hM.step hlt (by omega) (by omega) hqt hq
      have hml := H6.mload (.inl rfl) (by omega) hM.u hM.len (by omega) hL6
      rw [hmZ] at hml
      refine cl hml ?_
      rintro _ w7 ⟨rfl, Z7, H7, hm7, hp7⟩
      refine arU (by omega) ?_
      have hms7 := H7.mstore (.inl rfl) (by omega) hM.u hM.len (by omega) hL6 (W.getD (adr 20 (i + 1) (5 + q)) 0 + 1)
      rw [hm7] at hms7
      refine cl hms7 ?_
      rintro _ w8 ⟨Z8, H8, hm8, hp8⟩
      refine ar64 (by omega) ?_
      exact round_mk [.int .i64 ((q + 1 : Nat) : Int)] (4 - (q + 1)) rfl rfl ⟨q + 1, Z8, _, kz + 1 + 1, true, rfl, by omega, rfl, H8, hm8, s3, (hX6.post hp7).post hp8, by omega, by omega⟩ (by omega)
    · refine ar64 (by omega) ?_
      exact round_mk [.int .i64 ((i + 1 : Nat) : Int)] (l.length - (i + 1)) rfl rfl ⟨i + 1, Z, W, kz, a, rfl, by omega, rfl, HZ, hmZ, hM.next hlt (by omega), hXZ, by omega, by omega⟩ (by omega)
  · obtain rfl : i = l.length := by omega
    exact .inr ⟨hP, Z, W, kz, a, t, _, by rw [hmZ]; rfl, HZ, hM, hXZ, F.fs, F.lens, by omega, by omega⟩
end
end Go.Proofs.YtbnbbafffihapaaGreat

