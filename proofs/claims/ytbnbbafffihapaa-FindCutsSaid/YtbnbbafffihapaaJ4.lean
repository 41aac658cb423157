/- Joined: La Lb Lc Ld Le Lf Lg Lh Li Lj Lk. -/
import Derived.Test.YtbnbbafffihapaaJ3
import Derived.Test.YtbnbbafffihapaaV23
/- Locate: a thread's rows are written; where a seeker stands. -/
namespace Go.Proofs.Ytbnbbafffihapaa
open Go.RowKit
attribute [local irreducible] Instr.loadAt Instr.storeAt Instr.fieldAt Instr.indexAt Instr.sliceAt Instr.buildSlice Instr.box Instr.alloc Builtin.append_ Builtin.len_ Builtin.min_ Builtin.max_ Calls Instr.build Instr.makeSlice binSem convert Instr.index Instr.range Instr.next
section
variable {w w' : World} {X : Mc} {b : Int} {i : Nat} {t : Th} {fs : List Fr} {f : Fr} {fb fo fc : Nat}
theorem Mach.setP (h : Mach w X) (hi : X.ths[i]? = some t) (r : Nat) (hr : r < t.P.length) {g o c : Nat} (hv : t.pv = .slice (some ⟨g, o, none⟩) t.P.length c) (x : Int) {ty : Nat} [One Try.prog ty] {K : World → Prop}
    (k : ∀ w', Post w X w' { X with ths := X.ths.set i { t with P := t.P.set r x } } → K w') : RunU Try.prog (Instr.storeAt ty (.pointer (some ⟨g, o + r * 1, none⟩)) (.int .u64 x)) K w := by
  have hs : Sl w 47 1 t.pv t.P.length (t.P.map (.int .u64)) := Sep.at_ (i := 1) (x := obU t.pv t.P) (h.thr hi) rfl
  refine stS hs hv hr rfl fun w' hs' hu hz => k w' ?_
  have hs2 : Sl w' 47 1 t.pv (t.P.set r x).length ((t.P.set r x).map (.int .u64)) := by rw [List.length_set, List.map_set]; exact hs'
  have ht : To w t.pv.ownBlock.toList w' t.pv.ownBlock.toList := ⟨hu.mono (by rw [hv]; simp [Value.ownBlock]), fun k hk => .inl hk⟩
  exact h.setTh (t' := { t with P := t.P.set r x }) hi rfl (Sep.set (i := 1) (x := obU t.pv t.P) (y := obU t.pv (t.P.set r x)) (h.thr hi) rfl hs2 ht) (To.set (l := t.obs (i : Int)) (i := 1) (x := obU t.pv t.P) (y := obU t.pv (t.P.set r x)) rfl ht)
theorem TopI.setP {w0 : World} {X0 : Mc} (h : TopI w0 w X0 X i t fs f fb fo fc) (r : Nat) (hr : r < t.P.length) {g o c : Nat} (hv : t.pv = .slice (some ⟨g, o, none⟩) t.P.length c) (x : Int) {ty : Nat} [One Try.prog ty] {K : World → Prop}
    (k : ∀ w', TopI w0 w' X0 { X with ths := X.ths.set i { t with P := t.P.set r x } } i { t with P := t.P.set r x } fs f fb fo fc → K w') : RunU Try.prog (Instr.storeAt ty (.pointer (some ⟨g, o + r * 1, none⟩)) (.int .u64 x)) K w :=
  h.p.ok.setP h.i r hr hv x fun w' p => k w' ⟨h.p.trans p, h.k.trans (kin_set X h.i rfl), set_at h.i, h.f, h.v⟩
theorem Mach.setS (h : Mach w X) (hi : X.ths[i]? = some t) (r : Nat) (hr : r < t.S.length) {g o c : Nat} (hv : t.sv = .slice (some ⟨g, o, none⟩) t.S.length c) (x : Int) {ty : Nat} [One Try.prog ty] {K : World → Prop}
    (k : ∀ w', Post w X w' { X with ths := X.ths.set i { t with S := t.S.set r x } } → K w') : RunU Try.prog (Instr.storeAt ty (.pointer (some ⟨g, o + r * 1, none⟩)) (.int .u64 x)) K w := by
  have hs : Sl w 47 1 t.sv t.S.length (t.S.map (.int .u64)) := Sep.at_ (i := 2) (x := obU t.sv t.S) (h.thr hi) rfl
  refine stS hs hv hr rfl fun w' hs' hu hz => k w' ?_
  have hs2 : Sl w' 47 1 t.sv (t.S.set r x).length ((t.S.set r x).map (.int .u64)) := by rw [List.length_set, List.map_set]; exact hs'
  have ht : To w t.sv.ownBlock.toList w' t.sv.ownBlock.toList := ⟨hu.mono (by rw [hv]; simp [Value.ownBlock]), fun k hk => .inl hk⟩
  exact h.setTh (t' := { t with S := t.S.set r x }) hi rfl (Sep.set (i := 2) (x := obU t.sv t.S) (y := obU t.sv (t.S.set r x)) (h.thr hi) rfl hs2 ht) (To.set (l := t.obs (i : Int)) (i := 2) (x := obU t.sv t.S) (y := obU t.sv (t.S.set r x)) rfl ht)
theorem TopI.setS {w0 : World} {X0 : Mc} (h : TopI w0 w X0 X i t fs f fb fo fc) (r : Nat) (hr : r < t.S.length) {g o c : Nat} (hv : t.sv = .slice (some ⟨g, o, none⟩) t.S.length c) (x : Int) {ty : Nat} [One Try.prog ty] {K : World → Prop}
    (k : ∀ w', TopI w0 w' X0 { X with ths := X.ths.set i { t with S := t.S.set r x } } i { t with S := t.S.set r x } fs f fb fo fc → K w') : RunU Try.prog (Instr.storeAt ty (.pointer (some ⟨g, o + r * 1, none⟩)) (.int .u64 x)) K w :=
  h.p.ok.setS h.i r hr hv x fun w' p => k w' ⟨h.p.trans p, h.k.trans (kin_set X h.i rfl), set_at h.i, h.f, h.v⟩
theorem Mach.setW (h : Mach w X) (hi : X.ths[i]? = some t) (r : Nat) (hr : r < t.W.length) {g o c : Nat} (hv : t.wv = .slice (some ⟨g, o, none⟩) t.W.length c) (x : Int) {ty : Nat} [One Try.prog ty] {K : World → Prop}
    (k : ∀ w', Post w X w' { X with ths := X.ths.set i { t with W := t.W.set r x } } → K w') : RunU Try.prog (Instr.storeAt ty (.pointer (some ⟨g, o + r * 1, none⟩)) (.int .u64 x)) K w := by
  have hs : Sl w 47 1 t.wv t.W.length (t.W.map (.int .u64)) := Sep.at_ (i := 3) (x := obU t.wv t.W) (h.thr hi) rfl
  refine stS hs hv hr rfl fun w' hs' hu hz => k w' ?_
  have hs2 : Sl w' 47 1 t.wv (t.W.set r x).length ((t.W.set r x).map (.int .u64)) := by rw [List.length_set, List.map_set]; exact hs'
  have ht : To w t.wv.ownBlock.toList w' t.wv.ownBlock.toList := ⟨hu.mono (by rw [hv]; simp [Value.ownBlock]), fun k hk => .inl hk⟩
  exact h.setTh (t' := { t with W := t.W.set r x }) hi rfl (Sep.set (i := 3) (x := obU t.wv t.W) (y := obU t.wv (t.W.set r x)) (h.thr hi) rfl hs2 ht) (To.set (l := t.obs (i : Int)) (i := 3) (x := obU t.wv t.W) (y := obU t.wv (t.W.set r x)) rfl ht)
theorem TopI.setW {w0 : World} {X0 : Mc} (h : TopI w0 w X0 X i t fs f fb fo fc) (r : Nat) (hr : r < t.W.length) {g o c : Nat} (hv : t.wv = .slice (some ⟨g, o, none⟩) t.W.length c) (x : Int) {ty : Nat} [One Try.prog ty] {K : World → Prop}
    (k : ∀ w', TopI w0 w' X0 { X with ths := X.ths.set i { t with W := t.W.set r x } } i { t with W := t.W.set r x } fs f fb fo fc → K w') : RunU Try.prog (Instr.storeAt ty (.pointer (some ⟨g, o + r * 1, none⟩)) (.int .u64 x)) K w :=
  h.p.ok.setW h.i r hr hv x fun w' p => k w' ⟨h.p.trans p, h.k.trans (kin_set X h.i rfl), set_at h.i, h.f, h.v⟩
theorem Mach.pv_ (h : Mach w X) (hi : X.ths[i]? = some t) : Sl w 47 1 t.pv t.P.length (t.P.map (.int .u64)) := Sep.at_ (i := 1) (x := obU t.pv t.P) (h.thr hi) rfl
theorem Mach.sv_ (h : Mach w X) (hi : X.ths[i]? = some t) : Sl w 47 1 t.sv t.S.length (t.S.map (.int .u64)) := Sep.at_ (i := 2) (x := obU t.sv t.S) (h.thr hi) rfl
theorem Mach.wv_ (h : Mach w X) (hi : X.ths[i]? = some t) : Sl w 47 1 t.wv t.W.length (t.W.map (.int .u64)) := Sep.at_ (i := 3) (x := obU t.wv t.W) (h.thr hi) rfl
end
def Cf.node (c : Cf) (n f : Int) : Int := nodeA c.A c.T c.N c.L n f
theorem node_a2 {c : Cf} (hr : rightC c) (n f : Int) (w : World) : Fn Try.prog 28 #[.agg (planC c), .int .i64 n, .int .i64 f] w fun r w' => r = .int .i64 (c.node n f) ∧ Upd [] w w' := by
  obtain ⟨A, T, N, L, B, P, S⟩ := c
  exact node_a hr n f w
def markW (x : Int) : Bool := decide (x % 2 = 1)
/-- a frame lies there -/
def FrAt (w : World) (fb fq : Nat) (f : Fr) : Prop := ∀ j, j < 12 → w.cell? ⟨fb, fq + j, none⟩ = (frC f)[j]?
theorem FrAt.reg {w : World} {fb fq : Nat} {f : Fr} (h : FrAt w fb fq f) (k : Nat) (hk : k < 10) : w.cell? ⟨fb, fq + 2 + k * 1, none⟩ = some (.int .u64 (f.R.getD k 0)) := by
  rw [show fq + 2 + k * 1 = fq + (2 + k) by omega, h (2 + k) (by omega), frC_R0 f k hk]
theorem TopI.fr {w w0 : World} {X X0 : Mc} {i : Nat} {t : Th} {fs : List Fr} {f : Fr} {fb fo fc : Nat} (h : TopI w0 w X0 X i t fs f fb fo fc) : FrAt w fb (fo + fs.length * 12) f := fun j hj => h.at_ j hj
/-- a seeker's cells -/
def spC (m g fb fq : Nat) : Array Value := #[ptrV m, ptrV g, .pointer (some ⟨fb, fq, none⟩)]
abbrev TSp : Nat := 142
abbrev TSk : Nat := 144
theorem lsp {K' : Value → World → Prop} {w : World} {p T m g fb fq : Nat} (hb : Blk w p T (spC m g fb fq)) (k : K' (.agg (spC m g fb fq)) w) : RunP Try.prog (Instr.loadAt TSp (.pointer (some ⟨p, 0 + 0, none⟩))) K' w :=
  lda (spC m g fb fq).toList rfl (fun j x hj => by rw [hb.cell, ← Array.getElem?_toList, show 0 + 0 + j = j by omega]; exact hj) (by simpa using k)
section
variable {w : World} {m g fb fq : Nat} {f : Fr}
theorem FrAt.lt (h : FrAt w fb fq f) : fb < w.heap.size := World.block_lt_of_cell? w _ (h 0 (by omega))
theorem FrAt.upd {S : List Nat} {w' : World} (h : FrAt w fb fq f) (hu : Upd S w w') (hS : fb ∉ S) : FrAt w' fb fq f := fun j hj => by rw [hu.cell h.lt hS]; exact h j hj
theorem FrAt.upd0 {w' : World} (h : FrAt w fb fq f) (hu : Upd [] w w') : FrAt w' fb fq f := h.upd hu (by simp)
theorem lrow_c (h : FrAt w fb fq f) : Fn Try.prog 96 #[.agg (spC m g fb fq)] w fun r w' => r = .int .i64 (toI (f.R.getD 2 0)) ∧ Upd [] w w' := by
  refine fn_enter Try.func96 rfl rfl ?_
  refine bx fun w1 hb1 hu1 hs1 => ?_
  refine fa ?_
  refine ldb hb1 (v := .pointer (some ⟨fb, fq, none⟩)) rfl ?_
  refine fa ?_
  refine ixA 2 rfl (by omega) ?_
  refine ld ((h.upd0 hu1).reg 2 (by omega)) ?_
  refine cv ?_
  refine val (toI (f.R.getD 2 0)) rfl ?_
  exact ⟨rfl, hu1⟩
theorem lword_c (h : FrAt w fb fq f) : Fn Try.prog 121 #[.agg (spC m g fb fq)] w fun r w' => r = .int .u64 (f.R.getD 4 0) ∧ Upd [] w w' := by
  refine fn_enter Try.func121 rfl rfl ?_
  refine bx fun w1 hb1 hu1 hs1 => ?_
  refine fa ?_
  refine ldb hb1 (v := .pointer (some ⟨fb, fq, none⟩)) rfl ?_
  refine fa ?_
  refine ixA 4 rfl (by omega) ?_
  refine ld ((h.upd0 hu1).reg 4 (by omega)) ?_
  exact ⟨rfl, hu1⟩
theorem lnext_c (h : FrAt w fb fq f) (hR : u64R (f.R.getD 4 0)) : Fn Try.prog 98 #[.agg (spC m g fb fq)] w fun r w' => r = .int .u64 (ptrW (f.R.getD 4 0)) ∧ Upd [] w w' := by
  have hb := ptrW_bd (x := f.R.getD 4 0)
  refine fn_enter Try.func98 rfl rfl ?_
  refine bx fun w1 hb1 hu1 hs1 => ?_
  refine ldw hb1 rfl ?_
  refine cl (lword_c (h.upd0 hu1)) ?_
  rintro _ w2 ⟨rfl, hu2⟩
  refine cl (wptr_c hR w2) ?_
  rintro _ w2 ⟨rfl, rfl⟩
  refine cv ?_
  refine arU (by omega) ?_
  exact ⟨rfl, hu1.trans hu2⟩
theorem lat_c {X : Mc} (h : Mach w X) (hr : rightC X.c) (n k : Int) : Fn Try.prog 97 #[.agg (spC X.m g fb fq), .int .u64 n, .int .i64 k] w fun r w' => r = .int .i64 (X.c.node (toI n) k) ∧ Upd [] w w' := by
  refine fn_enter Try.func97 rfl rfl ?_
  refine bx fun w1 hb1 hu1 hs1 => ?_
  refine fa ?_
  refine ldb hb1 (v := ptrV X.m) rfl ?_
  refine cl (plan_mm (h.upd0 hu1)) ?_
  rintro _ w2 ⟨rfl, hu2⟩
  refine cv ?_
  refine val (toI n) rfl ?_
  refine cl (node_a2 hr (toI n) k w2) ?_
  rintro _ w3 ⟨rfl, hu3⟩
  exact ⟨rfl, (hu1.trans hu2).trans hu3⟩
theorem lslot_c {X : Mc} {i : Nat} {t : Th} (h : Mach w X) (hr : rightC X.c) (hi : X.ths[i]? = some t) (k : Int) : Fn Try.prog 95 #[.agg (spC X.m t.g fb fq), .int .i64 k] w fun r w' => r = .int .i64 (X.c.haz i k) ∧ Upd [] w w' := by
  refine fn_enter Try.func95 rfl rfl ?_
  refine bx fun w1 hb1 hu1 hs1 => ?_
  have hb1 : Blk w1 w.heap.size TSp (spC X.m t.g fb fq) := hb1
  refine draw_mix 9 [(0, true), (1, true), (3, true), (4, true), (5, true), (6, true), (7, true), (8, true), (2, false)] (fun w' => Upd [] w1 w') (by decide +kernel) (Upd.refl [] w1).drew ?_
  refine q_fa ?_
  refine q_ld (v := ptrV X.m) (fun w' hw' => (hb1.upd hw' (by simp)).cell 0) ?_
  refine q_fa ?_
  refine q_ld (v := ptrV t.g) (fun w' hw' => (hb1.upd hw' (by simp)).cell 1) ?_
  refine q_fa ?_
  refine q_ld (v := .int .i64 (i : Int)) (fun w' hw' => ((h.upd0 hu1).upd0 hw').id_ hi) ?_
  refine cl (plan_mm ((h.upd0 hu1).upd0 (Upd.refl [] w1).drew)) ?_
  rintro _ w2 ⟨rfl, hu2⟩
  have hu2 : Upd [] w1 w2 := (Upd.refl [] w1).drew.trans hu2
  refine ⟨hu2, ?_⟩
  refine cl (haz_c hr i k w2) ?_
  rintro _ w3 ⟨rfl, hu3⟩
  exact ⟨rfl, (hu1.trans hu2).trans hu3⟩
end
end Go.Proofs.Ytbnbbafffihapaa

/- Locate: a row ends; the next node. -/
namespace Go.Proofs.Ytbnbbafffihapaa
open Go.RowKit
attribute [local irreducible] Instr.loadAt Instr.storeAt Instr.fieldAt Instr.indexAt Instr.sliceAt Instr.buildSlice Instr.box Instr.alloc Builtin.append_ Builtin.len_ Builtin.min_ Builtin.max_ Calls Instr.build Instr.makeSlice binSem convert Instr.index Instr.range Instr.next
section
variable {w w' : World} {X : Mc} {b : Int} {i : Nat} {t : Th} {fs : List Fr} {f : Fr} {fb fo fc : Nat}
theorem Aside.new {T : Nat} {cs : Array Value} (h : Mach w X) (hb : Blk w' w.heap.size T cs) : Aside w' X w.heap.size T cs := ⟨hb, fun hm => Nat.lt_irrefl _ (h.lt _ hm)⟩
def lcPass (p : PS) (i : Nat) (t : PT) (fs : List Fr) (f : Fr) : PS := p.put i (topped t fs ⟨f.fn, 1, regI f.R 3 (ptrW (f.R.getD 4 0))⟩)
set_option maxRecDepth 10000 in
theorem lpass_p (h : Mach w X) (hi : X.ths[i]? = some t) (hfs : t.fs = fs ++ [f]) (hfv : t.fv = .slice (some ⟨fb, fo, none⟩) t.fs.length fc) (hR : ∀ j, u64R (f.R.getD j 0)) :
    Fn Try.prog 101 #[.agg (spC X.m t.g fb (fo + fs.length * 12))] w fun _ w' => Ev w X w' (lcPass X.abs i (absT t) fs f) := by
  refine fn_enter Try.func101 rfl rfl ?_
  refine bx fun w1 hb1 hu1 hs1 => ?_
  have hb1 : Blk w1 w.heap.size TSk (spC X.m t.g fb (fo + fs.length * 12)) := hb1
  have A1 := Aside.new h hb1
  have h1 := h.upd0 hu1
  have J1 : TopI w1 w1 X X i t fs f fb fo fc := ⟨.refl h1, .refl X, hi, hfs, hfv⟩
  refine draw_mix 8 [(0, true), (1, true), (2, true), (3, true), (4, true), (6, true), (7, true), (5, false)] (fun w' => Upd [] w1 w') (by decide +kernel) (Upd.refl [] w1).drew ?_
  refine q_fa ?_
  refine q_fa ?_
  refine q_ld (v := .pointer (some ⟨fb, fo + fs.length * 12, none⟩)) (fun w' hw' => (hb1.upd hw' (by simp)).cell 2) ?_
  refine q_fa ?_
  refine rq (.agg (spC X.m t.g fb (fo + fs.length * 12))) (fun w' hw' => lsp (hb1.upd hw' (by simp)) ⟨rfl, rfl⟩) ?_
  refine q_fa ?_
  refine cl (lnext_c (J1.upd0 (Upd.refl [] w1).drew).fr (hR 4)) ?_
  rintro _ w2 ⟨rfl, hu2⟩
  have hu2 : Upd [] w1 w2 := (Upd.refl [] w1).drew.trans hu2
  refine ⟨hu2, ?_⟩
  have J2 := J1.upd0 hu2
  refine ixA 3 rfl (by omega) ?_
  refine J2.st (f' := { f with R := regI f.R 3 (ptrW (f.R.getD 4 0)) }) 5 (by omega) rfl rfl (frC_reg f 3 (by omega) _) fun w3 J3 => ?_
  refine fa ?_
  refine fa ?_
  refine ldb (A1.post J3.p).b (v := .pointer (some ⟨fb, fo + fs.length * 12, none⟩)) rfl ?_
  refine fa ?_
  refine J3.st (f' := ⟨f.fn, 1, regI f.R 3 (ptrW (f.R.getD 4 0))⟩) 1 (by omega) rfl rfl rfl fun w4 J4 => ?_
  have e := J4.ev
  rw [abs_set, abs_set, put_put] at e
  exact Ev.before (.of0 h hu1) (.refl X) e
/-- what is read while a row ends -/
structure LS (w' : World) (q : Nat) (sp : Array Value) (g : Nat) (th : Array Value) (fb fq : Nat) (f : Fr) : Prop where
  b : Blk w' q TSk sp
  t : Blk w' g TT th
  f : FrAt w' fb fq f
def lcSettle (p : PS) (i : Nat) (t : PT) (fs : List Fr) (f : Fr) (r : Nat) : PS :=
  if r = 0 then p.put i { t with P := t.P.set r (f.R.getD 3 0), W := t.W.set r (f.R.getD 4 0), S := t.S.set r (ptrW (f.R.getD 4 0)), fs := fs, r := (f.R.getD 5 0, 0, 0) }
  else p.put i { t with P := t.P.set r (f.R.getD 3 0), W := t.W.set r (f.R.getD 4 0), S := t.S.set r (ptrW (f.R.getD 4 0)), fs := fs ++ [⟨f.fn, 1, regI f.R 2 ((r : Int) - 1)⟩] }
theorem toI_small {r : Nat} (h : r < 1000) : toI (r : Int) = r := IntWalk.i64_in _ (by omega)
set_option maxRecDepth 10000 in
theorem lsettle_p (h : Mach w X) (hi : X.ths[i]? = some t) (hfs : t.fs = fs ++ [f]) (hl : fs.length ≤ 90000) (hfv : t.fv = .slice (some ⟨fb, fo, none⟩) t.fs.length fc) (hR : ∀ j, u64R (f.R.getD j 0)) {r : Nat} (hr : f.R.getD 2 0 = (r : Int)) (h4 : r < 4) (hP : t.P.length = 4) (hS : t.S.length = 4) (hW : t.W.length = 4) :
    Fn Try.prog 99 #[.agg (spC X.m t.g fb (fo + fs.length * 12))] w fun _ w' => Ev w X w' (lcSettle X.abs i (absT t) fs f r) := by
  have htr := toI_small (show r < 1000 by omega)
  obtain ⟨pg, po, pc, hpv, -⟩ := (h.pv_ hi).some_ (by omega)
  obtain ⟨sg, so, sc, hsv, -⟩ := (h.sv_ hi).some_ (by omega)
  obtain ⟨wg, wo, wc, hwv, -⟩ := (h.wv_ hi).some_ (by omega)
  refine fn_enter Try.func99 rfl rfl ?_
  refine bx fun w1 hb1 hu1 hs1 => ?_
  have hb1 : Blk w1 w.heap.size TSk (spC X.m t.g fb (fo + fs.length * 12)) := hb1
  have A1 := Aside.new h hb1
  have h1 := h.upd0 hu1
  have J1 : TopI w1 w1 X X i t fs f fb fo fc := ⟨.refl h1, .refl X, hi, hfs, hfv⟩
  refine draw_mix 7 [(0, true), (1, true), (2, true), (3, true), (4, true), (5, false), (6, true)] (fun w' => Upd [] w1 w') (by decide +kernel) (Upd.refl [] w1).drew ?_
  refine q_fa ?_
  refine q_fa ?_
  refine q_ld (v := .pointer (some ⟨fb, fo + fs.length * 12, none⟩)) (fun w' hw' => (hb1.upd hw' (by simp)).cell 2) ?_
  refine q_fa ?_
  refine rq (.agg (spC X.m t.g fb (fo + fs.length * 12))) (fun w' hw' => lsp (hb1.upd hw' (by simp)) ⟨rfl, rfl⟩) ?_
  refine cl (lrow_c (J1.upd0 (Upd.refl [] w1).drew).fr) ?_
  rintro _ w2 ⟨rfl, hu2⟩
  have hu2 : Upd [] w1 w2 := (Upd.refl [] w1).drew.trans hu2
  refine ⟨hu2, ?_⟩
  rw [hr, htr]
  have J2 : TopI w1 w2 X X i t fs f fb fo fc := J1.upd0 hu2
  have hLS : ∀ {w' : World} {Y : Mc} {t' : Th}, TopI w1 w' X Y i t' fs f fb fo fc → t'.g = t.g → t'.fv = t.fv → t'.r = t.r → t'.pv = t.pv → t'.sv = t.sv → t'.wv = t.wv → t'.rv = t.rv → t'.ov = t.ov → LS w' w.heap.size (spC X.m t.g fb (fo + fs.length * 12)) t.g (thrC (i : Int) t.fv t.r t.pv t.sv t.wv t.rv t.ov) fb (fo + fs.length * 12) f := fun J e1 e2 e3 e4 e5 e6 e7 e8 =>
    ⟨(A1.post J.p).b, by have := (J.p.ok.core J.i).blk; rw [e1, e2, e3, e4, e5, e6, e7, e8] at this; exact this, J.fr⟩
  refine draw_mix 39 [(0, true), (1, true), (2, true), (3, true), (4, true), (5, true), (6, true), (7, true), (8, true), (9, true), (10, true), (11, true), (12, true), (13, true), (14, true), (15, true), (16, true), (17, true), (18, true), (19, true), (20, true), (21, true), (22, true), (23, true), (24, true), (25, true), (26, true), (27, true), (28, true), (29, true), (30, true), (31, true), (32, true), (33, false), (34, true), (35, false), (36, true), (37, false), (38, true)] (fun w' => LS w' w.heap.size (spC X.m t.g fb (fo + fs.length * 12)) t.g (thrC (i : Int) t.fv t.r t.pv t.sv t.wv t.rv t.ov) fb (fo + fs.length * 12) f) (by decide +kernel) (hLS (J2.upd0 (Upd.refl [] w2).drew) rfl rfl rfl rfl rfl rfl rfl rfl) ?_
  refine q_fa ?_
  refine q_fa ?_
  refine q_ld (v := ptrV t.g) (fun w' hw' => hw'.b.cell 1) ?_
  refine q_fa ?_
  refine q_ld (v := .slice (some ⟨pg, po, none⟩) t.P.length pc) (fun w' hw' => by rw [← hpv]; exact hw'.t.cell 5) ?_
  refine q_fa ?_
  refine q_fa ?_
  refine q_ld (v := ptrV t.g) (fun w' hw' => hw'.b.cell 1) ?_
  refine q_fa ?_
  refine q_ld (v := .slice (some ⟨wg, wo, none⟩) t.W.length wc) (fun w' hw' => by rw [← hwv]; exact hw'.t.cell 7) ?_
  refine q_fa ?_
  refine q_fa ?_
  refine q_ld (v := ptrV t.g) (fun w' hw' => hw'.b.cell 1) ?_
  refine q_fa ?_
  refine q_ld (v := .slice (some ⟨sg, so, none⟩) t.S.length sc) (fun w' hw' => by rw [← hsv]; exact hw'.t.cell 6) ?_
  refine q_fa ?_
  refine q_ixA 3 rfl (by omega) ?_
  refine q_ld (v := .int .u64 (f.R.getD 3 0)) (fun w' hw' => hw'.f.reg 3 (by omega)) ?_
  refine q_fa ?_
  refine q_ixA 4 rfl (by omega) ?_
  refine q_ld (v := .int .u64 (f.R.getD 4 0)) (fun w' hw' => hw'.f.reg 4 (by omega)) ?_
  refine q_fa ?_
  refine rq (.agg (spC X.m t.g fb (fo + fs.length * 12))) (fun w' hw' => lsp hw'.b ⟨rfl, rfl⟩) ?_
  refine cl (lnext_c (J2.upd0 (Upd.refl [] w2).drew).fr (hR 4)) ?_
  rintro _ w3 ⟨rfl, hu3⟩
  have hu3 : Upd [] w2 w3 := (Upd.refl [] w2).drew.trans hu3
  have J3 := J2.upd0 hu3
  refine ⟨hLS J3 rfl rfl rfl rfl rfl rfl rfl rfl, ?_⟩
  refine q_ix r rfl (by omega) ?_
  refine J3.setP r (by omega) hpv (f.R.getD 3 0) fun w4 J4 => ?_
  refine ⟨hLS J4 rfl rfl rfl rfl rfl rfl rfl rfl, ?_⟩
  refine q_ix r rfl (by omega) ?_
  refine J4.setW r (by show r < t.W.length; omega) hwv (f.R.getD 4 0) fun w5 J5 => ?_
  refine ⟨hLS J5 rfl rfl rfl rfl rfl rfl rfl rfl, ?_⟩
  refine q_ix r rfl (by omega) ?_
  refine J5.setS r (by show r < t.S.length; omega) hsv (ptrW (f.R.getD 4 0)) fun w6 J6 => ?_
  have L6 := hLS J6 rfl rfl rfl rfl rfl rfl rfl rfl
  have e6 := J6.ev
  have hq : w.heap.size < w6.heap.size := L6.b.lt
  unfold lcSettle
  by_cases h0 : r = 0
  · subst h0
    refine draw_mix 9 [(0, true), (1, true), (2, true), (3, true), (4, true), (5, true), (6, true), (7, true), (8, false)] (fun w' => LS w' w.heap.size (spC X.m t.g fb (fo + fs.length * 12)) t.g (thrC (i : Int) t.fv t.r t.pv t.sv t.wv t.rv t.ov) fb (fo + fs.length * 12) f) (by decide +kernel) (hLS (J6.upd0 (Upd.refl [] w6).drew) rfl rfl rfl rfl rfl rfl rfl rfl) ?_
    refine q_fa ?_
    refine q_fa ?_
    refine q_ld (v := ptrV t.g) (fun w' hw' => hw'.b.cell 1) ?_
    refine q_fa ?_
    refine q_ixA 5 rfl (by omega) ?_
    refine q_ld (v := .int .u64 (f.R.getD 5 0)) (fun w' hw' => hw'.f.reg 5 (by omega)) ?_
    refine bs #[.int .u64 (f.R.getD 5 0)] (fun _ => by kernel_rfl) fun w7 hb7 hu7 hs7 => ?_
    have J7 := (J6.upd0 (Upd.refl [] w6).drew).upd0 hu7
    refine ⟨hLS J7 rfl rfl rfl rfl rfl rfl rfl rfl, ?_⟩
    have hne : w6.heap.size ≠ t.g := by have := L6.t.lt; omega
    refine cl (J7.pop (l := [f.R.getD 5 0]) (by omega) (fun w' hu => one_rd (hb7.upd hu (by simpa using hne)))) ?_
    rintro _ w8 e
    rw [abs_set, abs_set, abs_set, put_put, put_put, put_put] at e
    exact Ev.before (.of0 h hu1) (.refl X) e
  · refine cN (by omega) ?_
    refine draw_mix 8 [(0, true), (1, true), (2, true), (3, true), (4, true), (5, true), (6, true), (7, true)] (fun w' => LS w' w.heap.size (spC X.m t.g fb (fo + fs.length * 12)) t.g (thrC (i : Int) t.fv t.r t.pv t.sv t.wv t.rv t.ov) fb (fo + fs.length * 12) f) (by decide +kernel) (hLS (J6.upd0 (Upd.refl [] w6).drew) rfl rfl rfl rfl rfl rfl rfl rfl) ?_
    refine q_fa ?_
    refine q_ixA 2 rfl (by omega) ?_
    refine q_ld (v := .int .u64 (r : Int)) (fun w' hw' => by rw [← hr]; exact hw'.f.reg 2 (by omega)) ?_
    refine q_arU (by omega) ?_
    refine q_fa ?_
    have J7 := J6.upd0 (Upd.refl [] w6).drew
    refine ixA 2 rfl (by omega) ?_
    refine J7.st (f' := { f with R := regI f.R 2 ((r : Int) - 1) }) 4 (by omega) rfl rfl (frC_reg f 2 (by omega) _) fun w8 J8 => ?_
    refine fa ?_
    refine J8.st (f' := ⟨f.fn, 1, regI f.R 2 ((r : Int) - 1)⟩) 1 (by omega) rfl rfl rfl fun w9 J9 => ?_
    have e := J9.ev
    rw [abs_set, abs_set, abs_set, abs_set, abs_set, put_put, put_put, put_put, put_put] at e
    rw [if_neg h0]
    exact Ev.before (.of0 h hu1) (.refl X) e
end
end Go.Proofs.Ytbnbbafffihapaa

/- Locate: the seeker begins, judges. -/
namespace Go.Proofs.Ytbnbbafffihapaa
open Go.RowKit
attribute [local irreducible] Instr.loadAt Instr.storeAt Instr.fieldAt Instr.indexAt Instr.sliceAt Instr.buildSlice Instr.box Instr.alloc Builtin.append_ Builtin.len_ Builtin.min_ Builtin.max_ Calls Instr.build Instr.makeSlice binSem convert Instr.index Instr.range Instr.next
theorem regI_u64 {R : List Int} {k : Nat} {x : Int} (h : ∀ j, u64R (R.getD j 0)) (hx : u64R x) : ∀ j, u64R ((regI R k x).getD j 0) := fun j => by
  rcases Nat.lt_or_ge j 10 with hj | hj
  · rw [regI_at _ _ _ _ hj]
    split
    · exact hx
    · exact h j
  · have : (regI R k x).getD j 0 = 0 := by simp [regI, List.getD, hj]
    rw [this]; unfold u64R; omega
theorem and1 {P : Program} {K : Value → World → Prop} {w : World} {t : Nat} {y z : Operand} {x : Int} (hx : u64R x) (k : K (.int .u64 (x % 2)) w) : RunP P (binSem .and t y z (.int .u64 x) (.int .u64 1)) K w := by
  obtain ⟨n, rfl⟩ := Int.eq_ofNat_of_zero_le hx.1
  have h1 := hx.2
  have h2 : n < 18446744073709551616 := by omega
  exact rn _ _ (by
    have e : ((BitVec.ofInt 64 (n : Int) &&& BitVec.ofInt 64 1).toNat) = n % 2 := by
      rw [BitVec.toNat_and, BitVec.toNat_ofInt, BitVec.toNat_ofInt]
      rw [show ((n : Int) % (2 ^ 64 : Nat)).toNat = n by omega, show ((1 : Int) % (2 ^ 64 : Nat)).toNat = 2 ^ 1 - 1 by decide, Nat.and_two_pow_sub_one_eq_mod]
    have e2 : IntKind.u64.wrap ((n % 2 : Nat) : Int) = ((n % 2 : Nat) : Int) := by rw [IntKind.wrap_u64, Int.emod_eq_of_lt (by omega) (by omega)]
    simp only [binSem, eqGuard, binOp, Op.intBits]
    show (Sem.pure (Value.int IntKind.u64 (IntKind.u64.wrap ((BitVec.ofInt 64 (n : Int) &&& BitVec.ofInt 64 1).toNat : Int)))).run P w = _
    rw [e, e2]
    rfl) (by simpa using k)
theorem wmark_c {x : Int} (hx : u64R x) (w : World) : Fn Try.prog 78 #[.int .u64 x] w fun r w' => r = .bool (markW x) ∧ w' = w := by
  refine fn_enter Try.func78 rfl rfl ?_
  refine and1 hx ?_
  exact ⟨rfl, rfl⟩
section
variable {w w' : World} {X : Mc} {b : Int} {i : Nat} {t : Th} {fs : List Fr} {f : Fr} {fb fo fc : Nat}
def lcBegin (p : PS) (i : Nat) (t : PT) (fs : List Fr) (f : Fr) : PS := (p.load 1).put i (topped t fs ⟨f.fn, 1, regI (regI (regI (regI f.R 1 (p.ldv 1)) 3 1) 5 0) 2 (p.c.L - 1)⟩)
/-- one cell of the top frame is written; the machine by its own name -/
theorem TopI.stq {w0 : World} {X0 : Mc} {ty : Nat} [One Try.prog ty] {K : World → Prop} (h : TopI w0 w X0 X i t fs f fb fo fc) {f' : Fr} (j : Nat) (hj : j < 12) {a : Nat} (ha : a = fo + fs.length * 12 + j) {u : Value} (hu : u.oneCell' = true)
    (hf : frC f' = (frC f).set j u) (k : ∀ w' Y, TopI w0 w' X0 Y i { t with fs := fs ++ [f'] } fs f' fb fo fc → Y.abs = X.abs.put i (topped (absT t) fs f') → Y.m = X.m → Y.c = X.c → K w') : RunU Try.prog (Instr.storeAt ty (.pointer (some ⟨fb, a, none⟩)) u) K w :=
  h.st j hj ha hu hf fun w' J => k w' _ J (abs_set X i _) rfl rfl
set_option maxRecDepth 10000 in
theorem lbegin_p (h : Mach w X) (hg : Good X b) (hb : b ≤ 900000) (hi : X.ths[i]? = some t) (hfs : t.fs = fs ++ [f]) (hfv : t.fv = .slice (some ⟨fb, fo, none⟩) t.fs.length fc) (hL : 1 ≤ X.c.L) (hL2 : X.c.L ≤ 6) :
    Fn Try.prog 94 #[.agg (spC X.m t.g fb (fo + fs.length * 12))] w fun _ w' => Ev w X w' (lcBegin X.abs i (absT t) fs f) := by
  refine fn_enter Try.func94 rfl rfl ?_
  refine bx fun w1 hb1 hu1 hs1 => ?_
  have hb1 : Blk w1 w.heap.size TSk (spC X.m t.g fb (fo + fs.length * 12)) := hb1
  have A1 := Aside.new h hb1
  have h1 := h.upd0 hu1
  have J1 : TopI w1 w1 X X i t fs f fb fo fc := ⟨.refl h1, .refl X, hi, hfs, hfv⟩
  refine fa ?_
  refine fa ?_
  refine ldb hb1 (v := .pointer (some ⟨fb, fo + fs.length * 12, none⟩)) rfl ?_
  refine draw_mix 7 [(0, true), (1, true), (2, true), (3, true), (5, true), (6, true), (4, false)] (fun w' => Blk w' w.heap.size TSk (spC X.m t.g fb (fo + fs.length * 12))) (by decide +kernel) hb1.drew ?_
  refine q_fa ?_
  refine q_fa ?_
  refine q_ld (v := ptrV X.m) (fun w' hw' => hw'.cell 0) ?_
  refine q_fa ?_
  refine cl (load_p (J1.upd0 (Upd.refl [] w1).drew).p.ok hg (by omega) 1) ?_
  rintro _ w2 ⟨rfl, X2, p2, k2, a2, s2⟩
  have J2 := (J1.upd0 (Upd.refl [] w1).drew).mem p2 k2 s2
  have hv : u64R (X.abs.ldv 1) := PS.ldv_bd hg.ok 1
  refine ⟨(A1.post J2.p).b, ?_⟩
  refine ixA 1 rfl (by omega) ?_
  have hc2 : X2.c = X.c := congrArg PS.c a2
  have hm2 : X2.m = X.m := k2.m
  obtain ⟨R1, hR1⟩ : ∃ R, R = regI f.R 1 (X.abs.ldv 1) := ⟨_, rfl⟩
  obtain ⟨R2, hR2⟩ : ∃ R, R = regI R1 3 1 := ⟨_, rfl⟩
  obtain ⟨R3, hR3⟩ : ∃ R, R = regI R2 5 0 := ⟨_, rfl⟩
  obtain ⟨R4, hR4⟩ : ∃ R, R = regI R3 2 (X.c.L - 1) := ⟨_, rfl⟩
  refine J2.stq (f' := { f with R := R1 }) 3 (by omega) rfl rfl (by rw [hR1]; exact frC_reg f 1 (by omega) _) fun w3 X3 J3 a3 m3 c3 => ?_
  refine draw_mix 8 [(0, true), (1, true), (2, true), (3, true), (4, true), (6, true), (7, true), (5, false)] (fun _ => True) (by decide +kernel) trivial ?_
  refine q_fa ?_
  refine q_ixA 3 rfl (by omega) ?_
  refine q_fa ?_
  refine (J3.upd0 (Upd.refl [] w3).drew).stq (f' := { f with R := R2 }) 5 (by omega) rfl rfl (by rw [hR2]; exact frC_reg { f with R := R1 } 3 (by omega) _) fun w4 X4 J4 a4 m4 c4 => ?_
  refine ⟨trivial, ?_⟩
  refine ixA 5 rfl (by omega) ?_
  refine J4.stq (f' := { f with R := R3 }) 7 (by omega) rfl rfl (by rw [hR3]; exact frC_reg { f with R := R2 } 5 (by omega) _) fun w5 X5 J5 a5 m5 c5 => ?_
  have hb5 := (A1.post J5.p).b
  refine draw_mix 11 [(0, true), (1, true), (2, true), (3, true), (9, true), (10, true), (4, false), (5, false), (6, true), (7, true), (8, true)] (fun w' => Blk w' w.heap.size TSk (spC X.m t.g fb (fo + fs.length * 12))) (by decide +kernel) hb5.drew ?_
  refine q_fa ?_
  refine q_fa ?_
  refine q_ld (v := ptrV X.m) (fun w' hw' => hw'.cell 0) ?_
  refine q_fa ?_
  have J6 := J5.upd0 (Upd.refl [] w5).drew
  have hpl := plan_mm J6.p.ok
  rw [m5, m4, m3, hm2, c5, c4, c3, hc2] at hpl
  refine cl hpl ?_
  rintro _ w6 ⟨rfl, hu6⟩
  have J7 := J6.upd0 hu6
  refine ⟨(A1.post J7.p).b, ?_⟩
  refine cl (conf_c2 X.c w6) ?_
  rintro _ w7 ⟨rfl, hu7⟩
  have J8 := J7.upd0 hu7
  refine ⟨(A1.post J8.p).b, ?_⟩
  refine rq (.int .i64 X.c.L) (fun _ _ => fl (by cases X.c; rfl) ⟨rfl, rfl⟩) ?_
  refine q_ar64 (by omega) ?_
  refine rq (.int .u64 (X.c.L - 1)) (fun _ _ => cv (arU (by omega) ⟨rfl, rfl⟩)) ?_
  refine ixA 2 rfl (by omega) ?_
  refine J8.stq (f' := { f with R := R4 }) 4 (by omega) rfl rfl (by rw [hR4]; exact frC_reg { f with R := R3 } 2 (by omega) _) fun w9 X9 J9 a9 m9 c9 => ?_
  refine fa ?_
  refine J9.stq (f' := ⟨f.fn, 1, R4⟩) 1 (by omega) rfl rfl rfl fun w10 X10 J10 a10 m10 c10 => ?_
  have e := J10.ev
  rw [a10, a9, a5, a4, a3, a2, put_put, put_put, put_put, put_put] at e
  unfold lcBegin
  rw [← hR1, ← hR2, ← hR3, show X.abs.c.L = X.c.L from rfl, ← hR4]
  exact Ev.before (.of0 h hu1) (.refl X) e
def lcJudge (p : PS) (i : Nat) (t : PT) (fs : List Fr) (f : Fr) (r : Nat) : PS :=
  if p.ldv 1 ≠ f.R.getD 1 0 then (p.load 1).put i (topped t fs { f with pc := 0 })
  else if r = 0 ∧ markW (f.R.getD 4 0) = true then lcPass (p.load 1) i t fs { f with R := regI f.R 5 (ptrW (f.R.getD 4 0)) }
  else (p.load 1).put i (topped t fs { f with pc := if r = 0 then 6 else 5 })
set_option maxRecDepth 10000 in
theorem ljudge_p (h : Mach w X) (hg : Good X b) (hb : b ≤ 900000) (hi : X.ths[i]? = some t) (hfs : t.fs = fs ++ [f]) (hfv : t.fv = .slice (some ⟨fb, fo, none⟩) t.fs.length fc) (hR : ∀ j, u64R (f.R.getD j 0)) {r : Nat} (hr : f.R.getD 2 0 = (r : Int)) (h4 : r < 4) :
    Fn Try.prog 100 #[.agg (spC X.m t.g fb (fo + fs.length * 12))] w fun _ w' => Ev w X w' (lcJudge X.abs i (absT t) fs f r) := by
  have htr := toI_small (show r < 1000 by omega)
  refine fn_enter Try.func100 rfl rfl ?_
  refine bx fun w1 hb1 hu1 hs1 => ?_
  have hb1 : Blk w1 w.heap.size TSk (spC X.m t.g fb (fo + fs.length * 12)) := hb1
  have A1 := Aside.new h hb1
  have h1 := h.upd0 hu1
  have J1 : TopI w1 w1 X X i t fs f fb fo fc := ⟨.refl h1, .refl X, hi, hfs, hfv⟩
  have hS : ∀ {w' : World} {Y : Mc} {t' : Th}, TopI w1 w' X Y i t' fs f fb fo fc → LS w' w.heap.size (spC X.m t.g fb (fo + fs.length * 12)) t'.g (thrC (i : Int) t'.fv t'.r t'.pv t'.sv t'.wv t'.rv t'.ov) fb (fo + fs.length * 12) f := fun J =>
    ⟨(A1.post J.p).b, (J.p.ok.core J.i).blk, J.fr⟩
  refine fa ?_
  refine fa ?_
  refine ldb hb1 (v := .pointer (some ⟨fb, fo + fs.length * 12, none⟩)) rfl ?_
  refine draw_mix 10 [(0, true), (1, true), (2, true), (4, true), (5, true), (6, true), (7, true), (8, true), (3, false), (9, true)] (fun w' => LS w' w.heap.size (spC X.m t.g fb (fo + fs.length * 12)) t.g (thrC (i : Int) t.fv t.r t.pv t.sv t.wv t.rv t.ov) fb (fo + fs.length * 12) f) (by decide +kernel) (hS (J1.upd0 (Upd.refl [] w1).drew)) ?_
  refine q_fa ?_
  refine q_fa ?_
  refine q_ld (v := ptrV X.m) (fun w' hw' => hw'.b.cell 0) ?_
  refine q_fa ?_
  refine q_ixA 1 rfl (by omega) ?_
  refine q_ld (v := .int .u64 (f.R.getD 1 0)) (fun w' hw' => hw'.f.reg 1 (by omega)) ?_
  refine cl (load_p (J1.upd0 (Upd.refl [] w1).drew).p.ok hg (by omega) 1) ?_
  rintro _ w2 ⟨rfl, X2, p2, k2, a2, s2⟩
  have J2 := (J1.upd0 (Upd.refl [] w1).drew).mem p2 k2 s2
  refine ⟨hS J2, ?_⟩
  unfold lcJudge
  by_cases hne : X.abs.ldv 1 ≠ f.R.getD 1 0
  · rw [if_pos hne]
    refine cY hne ?_
    refine fa ?_
    refine J2.st (f' := { f with pc := 0 }) 1 (by omega) rfl rfl (frC_pc f 0) fun w3 J3 => ?_
    have e := J3.ev
    rw [abs_set, a2] at e
    exact Ev.before (.of0 h hu1) (.refl X) e
  rw [if_neg hne]
  refine cN hne ?_
  have hb2 := (A1.post J2.p).b
  refine fa ?_
  refine lsp hb2 ?_
  refine cl (lrow_c J2.fr) ?_
  rintro _ w3 ⟨rfl, hu3⟩
  rw [hr, htr]
  have J3 := J2.upd0 hu3
  have hb3 := hb2.upd hu3 (by simp)
  by_cases h0 : r = 0
  · subst h0
    refine fa ?_
    refine lsp hb3 ?_
    refine cl (lword_c J3.fr) ?_
    rintro _ w4 ⟨rfl, hu4⟩
    refine cl (wmark_c (hR 4) w4) ?_
    rintro _ w4 ⟨rfl, rfl⟩
    have J4 := J3.upd0 hu4
    have hb4 := hb3.upd hu4 (by simp)
    cases hm : markW (f.R.getD 4 0) with
    | true =>
      rw [if_pos ⟨rfl, rfl⟩]
      refine draw_mix 6 [(0, true), (1, true), (2, true), (4, true), (5, true), (3, false)] (fun w' => Blk w' w.heap.size TSk (spC X.m t.g fb (fo + fs.length * 12))) (by decide +kernel) hb4.drew ?_
      refine q_fa ?_
      refine rq (.agg (spC X.m t.g fb (fo + fs.length * 12))) (fun w' hw' => lsp hw' ⟨rfl, rfl⟩) ?_
      refine q_fa ?_
      have J5 := J4.upd0 (Upd.refl [] w4).drew
      refine cl (lnext_c J5.fr (hR 4)) ?_
      rintro _ w5 ⟨rfl, hu5⟩
      have J6 := J5.upd0 hu5
      refine ⟨(A1.post J6.p).b, ?_⟩
      refine ixA 5 rfl (by omega) ?_
      refine J6.stq (f' := { f with R := regI f.R 5 (ptrW (f.R.getD 4 0)) }) 7 (by omega) rfl rfl (frC_reg f 5 (by omega) _) fun w7 X7 J7 a7 m7 c7 => ?_
      refine ldw (A1.post J7.p).b rfl ?_
      have hp4 := ptrW_bd (x := f.R.getD 4 0)
      have hps := lpass_p J7.p.ok J7.i J7.f J7.v (regI_u64 hR (show u64R (ptrW (f.R.getD 4 0)) from ⟨by omega, by omega⟩))
      rw [m7, show X2.m = X.m from k2.m] at hps
      refine cl hps ?_
      rintro _ w8 e
      have e := Ev.before J7.p J7.k e
      unfold lcPass at e
      rw [a7, put_put, a2] at e
      exact Ev.before (.of0 h hu1) (.refl X) e
    | false =>
      rw [if_neg (by simp)]
      refine fa ?_
      refine lsp hb4 ?_
      refine cl (lrow_c J4.fr) ?_
      rintro _ w5 ⟨rfl, hu5⟩
      rw [hr, htr]
      have J5 := J4.upd0 hu5
      refine fa ?_
      refine J5.stq (f' := { f with pc := 6 }) 1 (by omega) rfl rfl (frC_pc f 6) fun w6 X6 J6 a6 m6 c6 => ?_
      have e := J6.ev
      rw [a6, a2] at e
      exact Ev.before (.of0 h hu1) (.refl X) e
  · rw [if_neg (fun hq => h0 hq.1), if_neg h0]
    refine cN (by omega) ?_
    refine fa ?_
    refine lsp hb3 ?_
    refine cl (lrow_c J3.fr) ?_
    rintro _ w5 ⟨rfl, hu5⟩
    rw [hr, htr]
    have J5 := J3.upd0 hu5
    refine cY (by omega) ?_
    refine fa ?_
    refine J5.stq (f' := { f with pc := 5 }) 1 (by omega) rfl rfl (frC_pc f 5) fun w6 X6 J6 a6 m6 c6 => ?_
    have e := J6.ev
    rw [a6, a2] at e
    exact Ev.before (.of0 h hu1) (.refl X) e
end
end Go.Proofs.Ytbnbbafffihapaa

/- Locate: a bit of the routine. -/
namespace Go.Proofs.Ytbnbbafffihapaa
open Go.RowKit
attribute [local irreducible] Instr.loadAt Instr.storeAt Instr.fieldAt Instr.indexAt Instr.sliceAt Instr.buildSlice Instr.box Instr.alloc Builtin.append_ Builtin.len_ Builtin.min_ Builtin.max_ Calls Instr.build Instr.makeSlice binSem convert Instr.index Instr.range Instr.next
def lcDo (p : PS) (i : Nat) (t : PT) (fs : List Fr) (f : Fr) (r : Nat) : PS :=
  if f.pc = 0 then lcBegin p i t fs f
  else if f.pc = 1 then (p.store (p.c.haz i (2 * (r : Int))) (f.R.getD 3 0)).put i (topped t fs { f with pc := 2 })
  else if f.pc = 2 then
    (if ptrW (p.ldv (p.c.node (toI (f.R.getD 3 0)) (5 + (r : Int)))) = 2 then lcSettle (p.load (p.c.node (toI (f.R.getD 3 0)) (5 + (r : Int)))) i t fs ⟨f.fn, 3, regI f.R 4 (p.ldv (p.c.node (toI (f.R.getD 3 0)) (5 + (r : Int))))⟩ r
     else (p.load (p.c.node (toI (f.R.getD 3 0)) (5 + (r : Int)))).put i (topped t fs ⟨f.fn, 3, regI f.R 4 (p.ldv (p.c.node (toI (f.R.getD 3 0)) (5 + (r : Int))))⟩))
  else if f.pc = 3 then (p.store (p.c.haz i (2 * (r : Int) + 1)) (ptrW (f.R.getD 4 0))).put i (topped t fs { f with pc := 4 })
  else if f.pc = 4 then lcJudge p i t fs f r
  else if f.pc = 5 then
    (if markW (p.ldv (p.c.node (toI (ptrW (f.R.getD 4 0))) 5)) = true then lcPass (p.load (p.c.node (toI (ptrW (f.R.getD 4 0))) 5)) i t fs { f with pc := 6 }
     else (p.load (p.c.node (toI (ptrW (f.R.getD 4 0))) 5)).put i (topped t fs { f with pc := 6 }))
  else if p.ldv (p.c.node (toI (ptrW (f.R.getD 4 0))) 0) < f.R.getD 0 0 then lcPass (p.load (p.c.node (toI (ptrW (f.R.getD 4 0))) 0)) i t fs f
  else lcSettle (p.load (p.c.node (toI (ptrW (f.R.getD 4 0))) 0)) i t fs f r
theorem put_store (p : PS) (i : Nat) (t : PT) (a x : Int) : (p.put i t).store a x = (p.store a x).put i t := rfl
section
variable {w w' : World} {X : Mc} {b : Int} {i : Nat} {t : Th} {fs : List Fr} {f : Fr} {fb fo fc : Nat}
set_option maxHeartbeats 1000000 in
set_option maxRecDepth 10000 in
theorem lstep_p (h : Mach w X) (hg : Good X b) (hb : b ≤ 900000) (hi : X.ths[i]? = some t) (hfs : t.fs = fs ++ [f]) (hl : fs.length ≤ 90000) (hfv : t.fv = .slice (some ⟨fb, fo, none⟩) t.fs.length fc) (hR : ∀ j, u64R (f.R.getD j 0)) {r : Nat} (hr : f.pc ≠ 0 → f.R.getD 2 0 = (r : Int)) (h4 : r < 4) (hP : t.P.length = 4) (hS : t.S.length = 4) (hW : t.W.length = 4) (hL : 1 ≤ X.c.L) (hL2 : X.c.L ≤ 6) :
    Fn Try.prog 69 #[.agg (spC X.m t.g fb (fo + fs.length * 12))] w fun _ w' => Ev w X w' (lcDo X.abs i (absT t) fs f r) := by
  have htr := toI_small (show r < 1000 by omega)
  refine fn_enter Try.func69 rfl rfl ?_
  refine bx fun w1 hb1 hu1 hs1 => ?_
  have hb1 : Blk w1 w.heap.size TSk (spC X.m t.g fb (fo + fs.length * 12)) := hb1
  have A1 := Aside.new h hb1
  have h1 := h.upd0 hu1
  have J1 : TopI w1 w1 X X i t fs f fb fo fc := ⟨.refl h1, .refl X, hi, hfs, hfv⟩
  have fin : ∀ {w' : World} {q : PS}, Ev w1 X w' q → Ev w X w' q := fun e => Ev.before (.of0 h hu1) (.refl X) e
  have hLS : ∀ {w' : World} {Y : Mc} {t' : Th} {f' : Fr}, TopI w1 w' X Y i t' fs f' fb fo fc → LS w' w.heap.size (spC X.m t.g fb (fo + fs.length * 12)) t'.g (thrC (i : Int) t'.fv t'.r t'.pv t'.sv t'.wv t'.rv t'.ov) fb (fo + fs.length * 12) f' := fun J =>
    ⟨(A1.post J.p).b, (J.p.ok.core J.i).blk, J.fr⟩
  refine fa ?_
  refine fa ?_
  refine ldb hb1 (v := .pointer (some ⟨fb, fo + fs.length * 12, none⟩)) rfl ?_
  refine fa ?_
  refine ld (v := .int .i64 f.pc) (J1.fr 1 (by omega)) ?_
  unfold lcDo
  by_cases c0 : f.pc = 0
  · rw [if_pos c0]
    refine cY c0 ?_
    refine ldw hb1 rfl ?_
    refine cl (lbegin_p h1 hg hb hi hfs hfv hL hL2) ?_
    rintro _ w2 e
    exact fin e
  rw [if_neg c0]
  refine cN c0 ?_
  have hr := hr c0
  by_cases c1 : f.pc = 1
  · rw [if_pos c1]
    refine cY c1 ?_
    refine draw_mix 15 [(0, true), (1, true), (2, true), (3, true), (4, true), (5, true), (6, true), (10, true), (11, true), (12, true), (13, true), (14, true), (7, false), (8, true), (9, false)] (fun w' => LS w' w.heap.size (spC X.m t.g fb (fo + fs.length * 12)) t.g (thrC (i : Int) t.fv t.r t.pv t.sv t.wv t.rv t.ov) fb (fo + fs.length * 12) f) (by decide +kernel) (hLS (J1.upd0 (Upd.refl [] w1).drew)) ?_
    refine q_fa ?_
    refine q_fa ?_
    refine q_ld (v := ptrV X.m) (fun w' hw' => hw'.b.cell 0) ?_
    refine q_fa ?_
    refine rq (.agg (spC X.m t.g fb (fo + fs.length * 12))) (fun w' hw' => lsp hw'.b ⟨rfl, rfl⟩) ?_
    refine q_fa ?_
    refine rq (.agg (spC X.m t.g fb (fo + fs.length * 12))) (fun w' hw' => lsp hw'.b ⟨rfl, rfl⟩) ?_
    refine q_fa ?_
    refine q_ixA 3 rfl (by omega) ?_
    refine q_ld (v := .int .u64 (f.R.getD 3 0)) (fun w' hw' => hw'.f.reg 3 (by omega)) ?_
    have J2 := J1.upd0 (Upd.refl [] w1).drew
    refine cl (lrow_c J2.fr) ?_
    rintro _ w2 ⟨rfl, hu2⟩
    rw [hr, htr]
    have J3 := J2.upd0 hu2
    refine ⟨hLS J3, ?_⟩
    refine q_ar64 (by omega) ?_
    refine cl (lslot_c J3.p.ok hg.ok.r J3.i (2 * (r : Int))) ?_
    rintro _ w3 ⟨rfl, hu3⟩
    have J4 := J3.upd0 hu3
    refine ⟨hLS J4, ?_⟩
    refine cl (store_p J4.p.ok hg (by omega) (X.c.haz i (2 * (r : Int))) (f.R.getD 3 0)) ?_
    rintro _ w4 ⟨X5, p5, k5, a5, s5⟩
    have J5 := J4.mem p5 k5 s5
    refine fa ?_
    refine J5.stq (f' := { f with pc := 2 }) 1 (by omega) rfl rfl (frC_pc f 2) fun w6 X6 J6 a6 m6 c6 => ?_
    have e := J6.ev
    rw [a6, a5] at e
    exact fin e
  rw [if_neg c1]
  refine cN c1 ?_
  by_cases c2 : f.pc = 2
  · rw [if_pos c2]
    refine cY c2 ?_
    refine draw_mix 19 [(0, true), (1, true), (2, true), (3, true), (4, true), (5, true), (6, true), (7, true), (8, true), (9, true), (10, true), (11, true), (12, true), (17, true), (18, true), (13, false), (14, true), (15, false), (16, false)] (fun w' => LS w' w.heap.size (spC X.m t.g fb (fo + fs.length * 12)) t.g (thrC (i : Int) t.fv t.r t.pv t.sv t.wv t.rv t.ov) fb (fo + fs.length * 12) f) (by decide +kernel) (hLS (J1.upd0 (Upd.refl [] w1).drew)) ?_
    refine q_fa ?_
    refine q_fa ?_
    refine q_ld (v := ptrV X.m) (fun w' hw' => hw'.b.cell 0) ?_
    refine q_fa ?_
    refine rq (.agg (spC X.m t.g fb (fo + fs.length * 12))) (fun w' hw' => lsp hw'.b ⟨rfl, rfl⟩) ?_
    refine q_fa ?_
    refine q_ixA 3 rfl (by omega) ?_
    refine q_ld (v := .int .u64 (f.R.getD 3 0)) (fun w' hw' => hw'.f.reg 3 (by omega)) ?_
    refine q_fa ?_
    refine rq (.agg (spC X.m t.g fb (fo + fs.length * 12))) (fun w' hw' => lsp hw'.b ⟨rfl, rfl⟩) ?_
    refine q_fa ?_
    have J2 := J1.upd0 (Upd.refl [] w1).drew
    refine cl (lrow_c J2.fr) ?_
    rintro _ w2 ⟨rfl, hu2⟩
    rw [hr, htr]
    have J3 := J2.upd0 hu2
    refine ⟨hLS J3, ?_⟩
    refine q_ar64 (by omega) ?_
    refine cl (lat_c J3.p.ok hg.ok.r (f.R.getD 3 0) (5 + (r : Int))) ?_
    rintro _ w3 ⟨rfl, hu3⟩
    have J4 := J3.upd0 hu3
    refine ⟨hLS J4, ?_⟩
    obtain ⟨a, ha⟩ : ∃ a, a = X.c.node (toI (f.R.getD 3 0)) (5 + (r : Int)) := ⟨_, rfl⟩
    rw [show X.abs.c = X.c from rfl, ← ha]
    refine cl (load_p J4.p.ok hg (by omega) a) ?_
    rintro _ w4 ⟨rfl, X5, p5, k5, a5, s5⟩
    have J5 := J4.mem p5 k5 s5
    have hv : u64R (X.abs.ldv a) := PS.ldv_bd hg.ok a
    generalize X.abs.ldv a = v at *
    refine ⟨hLS J5, ?_⟩
    refine ixA 4 rfl (by omega) ?_
    refine J5.stq (f' := { f with R := regI f.R 4 v }) 6 (by omega) rfl rfl (frC_reg f 4 (by omega) _) fun w6 X6 J6 a6 m6 c6 => ?_
    refine fa ?_
    refine J6.stq (f' := ⟨f.fn, 3, regI f.R 4 v⟩) 1 (by omega) rfl rfl rfl fun w7 X7 J7 a7 m7 c7 => ?_
    have hR7 := regI_u64 (k := 4) hR hv
    have hg4 : (regI f.R 4 v).getD 4 0 = v := by rw [regI_at _ _ _ _ (by omega)]; rfl
    have hg2 : (regI f.R 4 v).getD 2 0 = (r : Int) := by rw [regI_at _ _ _ _ (by omega)]; exact hr
    have hb7 := (A1.post J7.p).b
    refine fa ?_
    refine lsp hb7 ?_
    refine cl (lnext_c J7.fr (hR7 4)) ?_
    rintro _ w8 ⟨rfl, hu8⟩
    have J8 := J7.upd0 hu8
    rw [show (⟨f.fn, 3, regI f.R 4 v⟩ : Fr).R.getD 4 0 = v from hg4]
    by_cases h2 : ptrW v = 2
    · rw [if_pos h2]
      refine cY h2 ?_
      refine ldw (hb7.upd hu8 (by simp)) rfl ?_
      have hst := lsettle_p J8.p.ok J8.i J8.f hl J8.v hR7 hg2 h4 hP hS hW
      rw [m7, m6, show X5.m = X.m from k5.m] at hst
      refine cl hst ?_
      rintro _ w9 e
      have e := Ev.before J8.p J8.k e
      unfold lcSettle at e ⊢
      rw [a7, a6, a5] at e
      simp only [put_put] at e
      exact fin e
    · rw [if_neg h2]
      refine cN h2 ?_
      have e := J8.ev
      rw [a7, a6, a5, put_put] at e
      exact fin e
  rw [if_neg c2]
  refine cN c2 ?_
  have hp4 := ptrW_bd (x := f.R.getD 4 0)
  by_cases c3 : f.pc = 3
  · rw [if_pos c3]
    refine cY c3 ?_
    refine draw_mix 14 [(0, true), (1, true), (2, true), (3, true), (4, true), (5, true), (6, true), (11, true), (12, true), (7, false), (8, true), (9, true), (10, false), (13, false)] (fun w' => LS w' w.heap.size (spC X.m t.g fb (fo + fs.length * 12)) t.g (thrC (i : Int) t.fv t.r t.pv t.sv t.wv t.rv t.ov) fb (fo + fs.length * 12) f) (by decide +kernel) (hLS (J1.upd0 (Upd.refl [] w1).drew)) ?_
    refine q_fa ?_
    refine q_fa ?_
    refine q_ld (v := ptrV X.m) (fun w' hw' => hw'.b.cell 0) ?_
    refine q_fa ?_
    refine rq (.agg (spC X.m t.g fb (fo + fs.length * 12))) (fun w' hw' => lsp hw'.b ⟨rfl, rfl⟩) ?_
    refine q_fa ?_
    refine rq (.agg (spC X.m t.g fb (fo + fs.length * 12))) (fun w' hw' => lsp hw'.b ⟨rfl, rfl⟩) ?_
    refine q_fa ?_
    refine rq (.agg (spC X.m t.g fb (fo + fs.length * 12))) (fun w' hw' => lsp hw'.b ⟨rfl, rfl⟩) ?_
    have J2 := J1.upd0 (Upd.refl [] w1).drew
    refine cl (lrow_c J2.fr) ?_
    rintro _ w2 ⟨rfl, hu2⟩
    rw [hr, htr]
    have J3 := J2.upd0 hu2
    refine ⟨hLS J3, ?_⟩
    refine q_ar64 (by omega) ?_
    refine q_ar64 (by omega) ?_
    refine cl (lslot_c J3.p.ok hg.ok.r J3.i (2 * (r : Int) + 1)) ?_
    rintro _ w3 ⟨rfl, hu3⟩
    have J4 := J3.upd0 hu3
    refine ⟨hLS J4, ?_⟩
    refine cl (lnext_c J4.fr (hR 4)) ?_
    rintro _ w4 ⟨rfl, hu4⟩
    have J5 := J4.upd0 hu4
    refine ⟨hLS J5, ?_⟩
    refine cl (store_p J5.p.ok hg (by omega) (X.c.haz i (2 * (r : Int) + 1)) (ptrW (f.R.getD 4 0))) ?_
    rintro _ w5 ⟨X6, p6, k6, a6, s6⟩
    have J6 := J5.mem p6 k6 s6
    refine fa ?_
    refine J6.stq (f' := { f with pc := 4 }) 1 (by omega) rfl rfl (frC_pc f 4) fun w7 X7 J7 a7 m7 c7 => ?_
    have e := J7.ev
    rw [a7, a6] at e
    exact fin e
  rw [if_neg c3]
  refine cN c3 ?_
  by_cases c4 : f.pc = 4
  · rw [if_pos c4]
    refine cY c4 ?_
    refine ldw hb1 rfl ?_
    refine cl (ljudge_p h1 hg hb hi hfs hfv hR hr h4) ?_
    rintro _ w2 e
    exact fin e
  rw [if_neg c4]
  refine cN c4 ?_
  by_cases c5 : f.pc = 5
  · rw [if_pos c5]
    refine cY c5 ?_
    refine fa ?_
    refine J1.stq (f' := { f with pc := 6 }) 1 (by omega) rfl rfl (frC_pc f 6) fun w2 X2 J2 a2 m2 c2' => ?_
    have hgX : Good X2 b := by
      refine ⟨?_, ?_⟩
      · have := hg.ok
        rw [a2]
        exact ⟨this.r, this.t, this.k0, this.k1, this.w, this.l⟩
      · exact J2.k.calm hg.calm
    have hld : ∀ a, X2.abs.ldv a = X.abs.ldv a := fun a => by rw [a2]; rfl
    refine draw_mix 10 [(0, true), (1, true), (2, true), (3, true), (4, true), (5, true), (6, true), (7, false), (8, false), (9, false)] (fun w' => LS w' w.heap.size (spC X.m t.g fb (fo + fs.length * 12)) t.g (thrC (i : Int) t.fv t.r t.pv t.sv t.wv t.rv t.ov) fb (fo + fs.length * 12) { f with pc := 6 }) (by decide +kernel) (hLS (t' := { t with fs := fs ++ [{ f with pc := 6 }] }) (J2.upd0 (Upd.refl [] w2).drew)) ?_
    refine q_fa ?_
    refine q_fa ?_
    refine q_ld (v := ptrV X.m) (fun w' hw' => hw'.b.cell 0) ?_
    refine q_fa ?_
    refine rq (.agg (spC X.m t.g fb (fo + fs.length * 12))) (fun w' hw' => lsp hw'.b ⟨rfl, rfl⟩) ?_
    refine q_fa ?_
    refine rq (.agg (spC X.m t.g fb (fo + fs.length * 12))) (fun w' hw' => lsp hw'.b ⟨rfl, rfl⟩) ?_
    have J3 := J2.upd0 (Upd.refl [] w2).drew
    refine cl (lnext_c J3.fr (hR 4)) ?_
    rintro _ w3 ⟨rfl, hu3⟩
    have J4 := J3.upd0 hu3
    refine ⟨hLS (t' := { t with fs := fs ++ [{ f with pc := 6 }] }) J4, ?_⟩
    have hat := lat_c (g := t.g) (fb := fb) (fq := fo + fs.length * 12) J4.p.ok hgX.ok.r (ptrW (f.R.getD 4 0)) 5
    rw [m2, c2'] at hat
    refine cl hat ?_
    rintro _ w4 ⟨rfl, hu4⟩
    have J5 := J4.upd0 hu4
    refine ⟨hLS (t' := { t with fs := fs ++ [{ f with pc := 6 }] }) J5, ?_⟩
    skip
    obtain ⟨a, ha⟩ : ∃ a, a = X.c.node (toI (ptrW (f.R.getD 4 0))) 5 := ⟨_, rfl⟩
    rw [show X.abs.c = X.c from rfl, ← ha]
    have hlo := load_p J5.p.ok hgX (by omega) a
    rw [m2, hld] at hlo
    refine cl hlo ?_
    rintro _ w5 ⟨rfl, X6, p6, k6, a6, s6⟩
    have J6 := J5.mem p6 k6 s6
    refine ⟨hLS (t' := { t with fs := fs ++ [{ f with pc := 6 }] }) J6, ?_⟩
    have hv : u64R (X.abs.ldv a) := PS.ldv_bd hg.ok a
    refine cl (wmark_c hv w5) ?_
    rintro _ w5 ⟨rfl, rfl⟩
    cases hm : markW (X.abs.ldv a) with
    | true =>
      rw [if_pos rfl]
      refine ldw (A1.post J6.p).b rfl ?_
      have hps := lpass_p J6.p.ok J6.i J6.f J6.v (f := { f with pc := 6 }) hR
      rw [show X6.m = X2.m from k6.m, m2] at hps
      refine cl hps ?_
      rintro _ w8 e
      have e := Ev.before J6.p J6.k e
      unfold lcPass at e ⊢
      rw [a6, a2, put_load] at e
      simp only [put_put] at e
      exact fin e
    | false =>
      rw [if_neg (by simp)]
      have e := J6.ev
      rw [a6, a2, put_load] at e
      exact fin e
  rw [if_neg c5]
  refine cN c5 ?_
  refine draw_mix 15 [(0, true), (1, true), (2, true), (3, true), (4, true), (5, true), (6, true), (10, true), (11, true), (12, true), (13, true), (14, true), (7, false), (8, false), (9, false)] (fun w' => LS w' w.heap.size (spC X.m t.g fb (fo + fs.length * 12)) t.g (thrC (i : Int) t.fv t.r t.pv t.sv t.wv t.rv t.ov) fb (fo + fs.length * 12) f) (by decide +kernel) (hLS (J1.upd0 (Upd.refl [] w1).drew)) ?_
  refine q_fa ?_
  refine q_fa ?_
  refine q_ld (v := ptrV X.m) (fun w' hw' => hw'.b.cell 0) ?_
  refine q_fa ?_
  refine rq (.agg (spC X.m t.g fb (fo + fs.length * 12))) (fun w' hw' => lsp hw'.b ⟨rfl, rfl⟩) ?_
  refine q_fa ?_
  refine rq (.agg (spC X.m t.g fb (fo + fs.length * 12))) (fun w' hw' => lsp hw'.b ⟨rfl, rfl⟩) ?_
  refine q_fa ?_
  refine q_ixA 0 rfl (by omega) ?_
  refine q_ld (v := .int .u64 (f.R.getD 0 0)) (fun w' hw' => hw'.f.reg 0 (by omega)) ?_
  have J2 := J1.upd0 (Upd.refl [] w1).drew
  refine cl (lnext_c J2.fr (hR 4)) ?_
  rintro _ w3 ⟨rfl, hu3⟩
  have J3 := J2.upd0 hu3
  refine ⟨hLS J3, ?_⟩
  refine cl (lat_c J3.p.ok hg.ok.r (ptrW (f.R.getD 4 0)) 0) ?_
  rintro _ w4 ⟨rfl, hu4⟩
  have J4 := J3.upd0 hu4
  refine ⟨hLS J4, ?_⟩
  obtain ⟨a, ha⟩ : ∃ a, a = X.c.node (toI (ptrW (f.R.getD 4 0))) 0 := ⟨_, rfl⟩
  rw [show X.abs.c = X.c from rfl, ← ha]
  refine cl (load_p J4.p.ok hg (by omega) a) ?_
  rintro _ w5 ⟨rfl, X6, p6, k6, a6, s6⟩
  have J6 := J4.mem p6 k6 s6
  refine ⟨hLS J6, ?_⟩
  by_cases hlt : X.abs.ldv a < f.R.getD 0 0
  · rw [if_pos hlt]
    refine cY hlt ?_
    refine ldw (A1.post J6.p).b rfl ?_
    have hps := lpass_p J6.p.ok J6.i J6.f J6.v hR
    rw [show X6.m = X.m from k6.m] at hps
    refine cl hps ?_
    rintro _ w8 e
    have e := Ev.before J6.p J6.k e
    unfold lcPass at e ⊢
    rw [a6] at e
    exact fin e
  · rw [if_neg hlt]
    refine cN hlt ?_
    refine ldw (A1.post J6.p).b rfl ?_
    have hst := lsettle_p J6.p.ok J6.i J6.f hl J6.v hR hr h4 hP hS hW
    rw [show X6.m = X.m from k6.m] at hst
    refine cl hst ?_
    rintro _ w9 e
    have e := Ev.before J6.p J6.k e
    unfold lcSettle at e ⊢
    rw [a6] at e
    exact fin e
end
end Go.Proofs.Ytbnbbafffihapaa

/- Locate: its Do; a step with it. -/
namespace Go.Proofs.Ytbnbbafffihapaa
open Go.RowKit
attribute [local irreducible] Instr.loadAt Instr.storeAt Instr.fieldAt Instr.indexAt Instr.sliceAt Instr.buildSlice Instr.box Instr.alloc Builtin.append_ Builtin.len_ Builtin.min_ Builtin.max_ Calls Instr.build Instr.makeSlice binSem convert Instr.index Instr.range Instr.next
structure LcOk (p : PS) (t : PT) (f : Fr) (r : Nat) : Prop where
  fn : f.fn = 30
  R : ∀ j, u64R (f.R.getD j 0)
  r2 : f.pc ≠ 0 → f.R.getD 2 0 = (r : Int)
  r4 : r < 4
  P : t.P.length = 4
  S : t.S.length = 4
  W : t.W.length = 4
  L : 1 ≤ p.c.L ∧ p.c.L ≤ 6
/-- the rounds of one step of thread i -/
def RndL (i : Nat) : Nat → PS → PS → Prop
  | 0, p, q => p = q ∧ (q.acted = true ∨ topL q i = 0) ∧ topL q i ≤ 90000
  | n + 1, p, q => p.acted = false ∧ ∃ t fs f r, p.ths[i]? = some t ∧ t.fs = fs ++ [f] ∧ fs.length ≤ 90000 ∧ LcOk p t f r ∧ p.Ok 900000 ∧ RndL i n (lcDo p i t fs f r) q
section
variable {w w' : World} {X : Mc} {b : Int} {i : Nat} {t : Th} {fs : List Fr} {f : Fr} {fb fo fc : Nat}
set_option maxRecDepth 10000 in
theorem lcdo_p (h : Mach w X) (hg : Good X b) (hb : b ≤ 900000) (hi : X.ths[i]? = some t) (hfs : t.fs = fs ++ [f]) (hl : fs.length ≤ 90000) {r : Nat} (hk : LcOk X.abs (absT t) f r) :
    Fn Try.prog 37 #[ptrV X.m, ptrV t.g] w fun _ w' => Ev w X w' (lcDo X.abs i (absT t) fs f r) := by
  obtain ⟨fb, fo, fc, hfv⟩ := h.fr_ hi (by rw [hfs]; simp)
  refine fn_enter Try.func37 rfl rfl ?_
  refine cl (top_mm h hi hfs (by omega) hfv) ?_
  rintro _ _ ⟨rfl, rfl⟩
  have p1 : Post w X w.drew X := .of0 h (Upd.refl [] w).drew
  have I1 : TopI w w.drew X X i t fs f fb fo fc := ⟨p1, .refl X, hi, hfs, hfv⟩
  refine ptr_eq ?_
  refine ptr_eq ?_
  refine fa ?_
  refine ld (v := .int .i64 f.fn) (I1.at_ 0 (by omega)) ?_
  refine cY hk.fn ?_
  refine bd (spC X.m t.g fb (fo + fs.length * 12)) (fun _ => by kernel_rfl) ?_
  refine bd (spC X.m t.g fb (fo + fs.length * 12)) (fun _ => by kernel_rfl) ?_
  refine cl (lstep_p p1.ok hg hb hi hfs hl hfv hk.R hk.r2 hk.r4 hk.P hk.S hk.W hk.L.1 hk.L.2) ?_
  rintro _ w2 e
  exact Ev.before p1 (.refl X) e
set_option maxRecDepth 10000 in
theorem step_lc (h : Mach w X) (hc : X.s.on = false ∧ X.s.L = []) (hX : X.ths.length ≤ 100) (hi : X.ths[i]? = some t) {n : Nat} {q : PS} (hr : RndL i n (calm0 X.abs) q) :
    Fn Try.prog 36 #[ptrV X.m, .int .i64 (i : Int), .func (.func 37) #[] #[]] w fun r w' => r = .bool (decide (0 < topL q i)) ∧ Ev w X w' q := by
  refine (step_mm (f := 37) (ys := #[]) (fun Y w' n => Post w X w' Y ∧ Kin X Y ∧ RndL i n Y.abs q) n h hi rfl hX (fun w' p => ⟨p, ⟨rfl, rfl, rfl, rfl, id⟩, hr⟩) ?_ ?_).mono ?_
  · rintro Y w' n ⟨p, k, r⟩
    obtain ⟨t2, h2, hg2⟩ := k.g hi
    refine ⟨p.ok, k.m, t2, h2, hg2, ?_⟩
    have h3 := abs_th Y h2
    cases n with
    | zero =>
      obtain ⟨rfl, -, hl⟩ := r
      rw [topL_at h3] at hl
      have : (absT t2).fs = t2.fs := rfl
      rw [this] at hl; omega
    | succ n =>
      obtain ⟨-, t3, fs, f, r, e1, e2, e3, -⟩ := r
      rw [h3] at e1
      have e1 := Option.some.inj e1
      have : t2.fs = fs ++ [f] := by rw [← e2, ← e1]; rfl
      rw [this]; simp; omega
  · rintro Y w' n t2 ⟨p, k, r⟩ h2 hac hne
    have h3 := abs_th Y h2
    cases n with
    | zero =>
      exfalso
      obtain ⟨rfl, hor, hl⟩ := r
      rcases hor with h4 | h4
      · rw [show Y.abs.acted = Y.acted from rfl, hac] at h4; cases h4
      · rw [topL_at h3] at h4
        exact hne (List.length_eq_zero_iff.1 h4)
    | succ n =>
      obtain ⟨-, t3, fs, f, r0, e1, e2, e3, e4, e8, r⟩ := r
      rw [h3] at e1
      obtain rfl := Option.some.inj e1
      have hg : Good Y 900000 := ⟨e8, k.calm hc⟩
      obtain ⟨t2', h2', hg2⟩ := k.g hi
      rw [h2] at h2'
      obtain rfl := Option.some.inj h2'
      have := lcdo_p p.ok hg (by omega) h2 e2 e3 e4
      rw [show (#[] ++ [ptrV X.m, ptrV t.g].toArray ++ #[] : Array Value) = #[ptrV Y.m, ptrV t2.g] by rw [k.m, hg2]; simp]
      refine this.mono ?_
      rintro e w2 ⟨u, he, X2, p2, k2, a2⟩
      exact ⟨u, he, X2, n, ⟨p.trans p2, k.trans k2, by rw [a2]; exact r⟩, by omega⟩
  · rintro e w' ⟨r, he, Y, n, t2, ⟨p, k, rr⟩, h2, hor, rfl⟩
    have h3 := abs_th Y h2
    have hz : Y.abs = q := by
      cases n with
      | zero => exact rr.1
      | succ n =>
        exfalso
        obtain ⟨hac, t3, fs, f, r, e1, e2, -⟩ := rr
        rcases hor with h4 | h4
        · rw [show Y.abs.acted = Y.acted from rfl, h4] at hac; cases hac
        · rw [h3] at e1
          have e1 := Option.some.inj e1
          have : t2.fs = fs ++ [f] := by rw [← e2, ← e1]; rfl
          rw [h4] at this; simp at this
    refine ⟨_, he, ?_, Y, p, k, hz⟩
    rw [hz] at h3
    rw [topL_at h3]
    exact congrArg Value.bool (by
      show decide ((t2.fs.length : Int) > 0) = decide (0 < t2.fs.length)
      exact decide_eq_decide.2 (by omega))
end
end Go.Proofs.Ytbnbbafffihapaa

/- Locate: the plain law of a search. -/
namespace Go.Proofs.Ytbnbbafffihapaa
open Go.RowKit
attribute [local irreducible] Instr.loadAt Instr.storeAt Instr.fieldAt Instr.indexAt Instr.sliceAt Instr.buildSlice Instr.box Instr.alloc Builtin.append_ Builtin.len_ Builtin.min_ Builtin.max_ Calls Instr.build Instr.makeSlice binSem convert Instr.index Instr.range Instr.next
structure Nd where
  (key val tall : Int)
  dead : Bool
instance : Inhabited Nd := ⟨⟨0, 0, 0, false⟩⟩
abbrev ndAt (l : List Nd) (i : Nat) : Nd := l.getD i ⟨0, 0, 0, false⟩
/-- the first node from i on that is so tall -/
def nx (l : List Nd) (k : Nat) (i : Nat) : Nat :=
  if h : i < l.length then (if (k : Int) < (ndAt l i).tall then i else nx l k (i + 1)) else l.length
termination_by l.length - i
theorem nx_hit {l : List Nd} {k i : Nat} (h : i < l.length) (ht : (k : Int) < (ndAt l i).tall) : nx l k i = i := by rw [nx, dif_pos h, if_pos ht]
theorem nx_skip {l : List Nd} {k i : Nat} (h : i < l.length) (ht : ¬ (k : Int) < (ndAt l i).tall) : nx l k i = nx l k (i + 1) := by rw [nx, dif_pos h, if_neg ht]
theorem nx_end {l : List Nd} {k i : Nat} (h : ¬ i < l.length) : nx l k i = l.length := by rw [nx, dif_neg h]
theorem nx_ge {l : List Nd} {k : Nat} : ∀ (i : Nat), i ≤ l.length → i ≤ nx l k i ∧ nx l k i ≤ l.length ∧ (nx l k i < l.length → (k : Int) < (ndAt l (nx l k i)).tall) := by
  intro i
  induction hm : l.length - i generalizing i with
  | zero =>
    intro hi
    rw [nx_end (by omega)]
    exact ⟨by omega, by omega, fun h => by omega⟩
  | succ m ih =>
    intro hi
    have hlt : i < l.length := by omega
    by_cases ht : (k : Int) < (ndAt l i).tall
    · rw [nx_hit hlt ht]; exact ⟨by omega, by omega, fun _ => ht⟩
    · rw [nx_skip hlt ht]
      have := ih (i + 1) (by omega) (by omega)
      exact ⟨by omega, this.2.1, this.2.2⟩
def past (l : List Nd) (n : Int) (k i : Nat) : Bool :=
  if k = 0 ∧ (ndAt l i).dead = true then true
  else if 0 < k ∧ i + 1 < l.length ∧ (ndAt l (i + 1)).dead = true then true
  else decide ((ndAt l i).key * 4294967296 + i < n)
/-- where a row ends: behind the last one that is passed; and the last one that is dead -/
def go (l : List Nd) (n : Int) (k : Nat) (i : Nat) (d : Int) : Nat × Int :=
  if h : nx l k i < l.length ∧ i ≤ l.length then
    (if past l n k (nx l k i) then go l n k (nx l k i + 1) (if k = 0 ∧ (ndAt l (nx l k i)).dead = true then (nx l k i : Int) + 3 else d) else (i, d))
  else (i, d)
termination_by l.length - i
decreasing_by
  have := (nx_ge (l := l) (k := k) i h.2).1
  omega
theorem go_pass {l : List Nd} {n : Int} {k i : Nat} {d : Int} (h : nx l k i < l.length) (hi : i ≤ l.length) (hp : past l n k (nx l k i) = true) : go l n k i d = go l n k (nx l k i + 1) (if k = 0 ∧ (ndAt l (nx l k i)).dead = true then (nx l k i : Int) + 3 else d) := by
  rw [go, dif_pos ⟨h, hi⟩, if_pos hp]
theorem go_stop {l : List Nd} {n : Int} {k i : Nat} {d : Int} (h : nx l k i < l.length → past l n k (nx l k i) = false) : go l n k i d = (i, d) := by
  rw [go]
  split
  · rename_i hq; rw [h hq.1]; simp
  · rfl
/-- where the rows end -/
def rowEnd (l : List Nd) (n : Int) : Nat → Nat × Int
  | 0 => (0, 0)
  | m + 1 => go l n (3 - m) (rowEnd l n m).1 0
/-- row k's end: rows 3, 2, 1, 0 in this order -/
def endK (l : List Nd) (n : Int) (k : Nat) : Nat × Int := rowEnd l n (4 - k)
theorem endK_step {l : List Nd} {n : Int} {k : Nat} (h : k < 3) : endK l n k = go l n k (endK l n (k + 1)).1 0 := by
  unfold endK
  rw [show 4 - k = (3 - k) + 1 by omega, rowEnd, show 3 - (3 - k) = k by omega, show 4 - (k + 1) = 3 - k by omega]
theorem endK_top {l : List Nd} {n : Int} : endK l n 3 = go l n 3 0 0 := rfl
def predN (i : Nat) : Int := if i = 0 then 1 else (i : Int) + 2
def nodeN (l : List Nd) (j : Nat) : Int := if j < l.length then (j : Int) + 3 else 2
def markN (l : List Nd) (k j : Nat) : Bool := decide (k = 0) && decide (j < l.length) && (ndAt l j).dead
def wd (l : List Nd) (k i : Nat) : Int := 2 * nodeN l (nx l k i) + (if markN l k (nx l k i) then 1 else 0)
theorem wd_ptr (l : List Nd) (hl : l.length ≤ 100) (k i : Nat) : ptrW (wd l k i) = nodeN l (nx l k i) ∧ markW (wd l k i) = markN l k (nx l k i) ∧ u64R (wd l k i) := by
  have hb : 2 ≤ nodeN l (nx l k i) ∧ nodeN l (nx l k i) ≤ 103 := by unfold nodeN; split <;> omega
  unfold wd ptrW markW
  cases markN l k (nx l k i) with
  | true => exact ⟨by simp <;> omega, by simp <;> omega, by simp <;> omega⟩
  | false => exact ⟨by simp <;> omega, by simp <;> omega, by simp <;> omega⟩
/-- the machine's configuration -/
def cL (N : Int) : Cf := ⟨2, 1, N, 4, 1, 1, 1⟩
theorem node_cL {N n f : Int} (h1 : 1 ≤ n) (h2 : n ≤ N) (h3 : 0 ≤ f) (h4 : f ≤ 8) : (cL N).node n f = 18 + N + (n - 1) * 9 + f := by
  unfold Cf.node cL nodeA
  rw [show widthP 2 4 = 9 from rfl, if_pos ⟨⟨h1, h2⟩, h3, by omega⟩]
  show linksP 2 1 4 + N + _ + f = _
  rw [show linksP 2 1 4 = 18 from rfl]
theorem haz_cL {N k : Int} (h1 : 0 ≤ k) (h2 : k ≤ 9) : (cL N).haz 0 k = 8 + k := by
  show hazA 2 1 4 0 k = _
  unfold hazA
  rw [show slotsP 2 4 = 10 from rfl, if_pos (by omega)]
  omega
/-- nodes that are laid -/
structure Lays (W : List Int) (N : Nat) (l : List Nd) : Prop where
  len : W.length = 18 + 10 * N
  few : l.length + 2 ≤ N
  n20 : N ≤ 20
  n3 : 3 ≤ N
  link : ∀ (k i : Nat), k < 4 → i ≤ l.length → (i = 0 ∨ (k : Int) < (ndAt l (i - 1)).tall) → W.getD (18 + N + ((predN i).toNat - 1) * 9 + (5 + k)) 0 = wd l k i
  order : ∀ (i : Nat), i < l.length → W.getD (18 + N + (i + 2) * 9) 0 = (ndAt l i).key * 4294967296 + i
  u64 : ∀ (i : Nat), i < l.length → (0 ≤ (ndAt l i).key ∧ (ndAt l i).key ≤ 4294967295) ∧ 1 ≤ (ndAt l i).tall ∧ (ndAt l i).tall ≤ 4
/-- how a memory differs from another: in its slots and its epoch -/
def SameW (W W0 : List Int) : Prop := W.length = W0.length ∧ ∀ a, a ≠ 1 → ¬ (8 ≤ a ∧ a < 18) → W.getD a 0 = W0.getD a 0
theorem SameW.refl (W : List Int) : SameW W W := ⟨rfl, fun _ _ _ => rfl⟩
theorem SameW.slot {W W0 : List Int} (h : SameW W W0) {a : Nat} (ha : 8 ≤ a ∧ a < 18) (x : Int) : SameW (W.set a x) W0 := ⟨by rw [List.length_set]; exact h.1, fun b h1 h2 => by
  rw [← h.2 b h1 h2]
  simp only [List.getD]
  rw [List.getElem?_set_ne (by omega)]⟩
theorem Lays.same {W W0 : List Int} {N : Nat} {l : List Nd} (h : Lays W0 N l) (hs : SameW W W0) : Lays W N l :=
  ⟨by rw [hs.1]; exact h.len, h.few, h.n20, h.n3, fun k i h1 h2 h3 => by rw [hs.2 _ (by omega) (by omega)]; exact h.link k i h1 h2 h3, fun i hi => by rw [hs.2 _ (by omega) (by omega)]; exact h.order i hi, h.u64⟩
end Go.Proofs.Ytbnbbafffihapaa

/- Locate: the invariant of a search, and a step of it (plain). -/
namespace Go.Proofs.Ytbnbbafffihapaa
open Go.RowKit
attribute [local irreducible] Instr.loadAt Instr.storeAt Instr.fieldAt Instr.indexAt Instr.sliceAt Instr.buildSlice Instr.box Instr.alloc Builtin.append_ Builtin.len_ Builtin.min_ Builtin.max_ Calls Instr.build Instr.makeSlice binSem convert Instr.index Instr.range Instr.next
/-- a machine of one thread, with no ghosts -/
def MM (N : Nat) (W : List Int) (k : Int) (a : Bool) (t : PT) : PS := ⟨cL N, W, k, none, a, false, [t]⟩
section
variable {N : Nat} {W : List Int} {k : Int} {a : Bool} {t t' : PT}
theorem MM_ok {x : Nat} (h : x < W.length) : (MM N W k a t).okP (x : Int) := ⟨by omega, by show (x : Int) < (W.length : Int); omega⟩
theorem MM_ldv {x : Nat} (h : x < W.length) : (MM N W k a t).ldv (x : Int) = W.getD x 0 := by
  unfold PS.ldv PS.rd
  rw [if_pos (MM_ok h)]; rfl
theorem MM_load {x : Nat} (h : x < W.length) : (MM N W k a t).load (x : Int) = MM N W (k + 1) true t := by
  unfold PS.load
  rw [if_pos (MM_ok h), decide_eq_true (MM_ok h)]; rfl
theorem MM_store {x : Nat} (h : x < W.length) (v : Int) : (MM N W k a t).store (x : Int) v = MM N (W.set x v) (k + 1) true t := by
  unfold PS.store
  rw [if_pos (MM_ok h), if_pos (MM_ok h), decide_eq_true (MM_ok h)]; rfl
theorem MM_put : (MM N W k a t).put 0 t' = MM N W k a t' := rfl
end
theorem getD_set_eq {W : List Int} {x : Nat} (h : x < W.length) (v : Int) : (W.set x v).getD x 0 = v := by simp [List.getD, h]
theorem getD_set_ne' {W : List Int} {x y : Nat} (h : x ≠ y) (v : Int) : (W.set x v).getD y 0 = W.getD y 0 := by simp [List.getD, List.getElem?_set_ne h]
structure Sett (l : List Nd) (n : Int) (W : List Int) (t : PT) (k : Nat) : Prop where
  p : t.P.getD k 0 = predN (endK l n k).1
  s : t.S.getD k 0 = nodeN l (nx l k (endK l n k).1)
  w : t.W.getD k 0 = wd l k (endK l n k).1
  h0 : W.getD (8 + 2 * k) 0 = predN (endK l n k).1
  h1 : nodeN l (nx l k (endK l n k).1) ≠ 2 → W.getD (8 + 2 * k + 1) 0 = nodeN l (nx l k (endK l n k).1)
theorem Sett.of {l : List Nd} {n : Int} {W W' : List Int} {t t' : PT} {k : Nat} (h : Sett l n W t k) (hP : t'.P.getD k 0 = t.P.getD k 0) (hS : t'.S.getD k 0 = t.S.getD k 0) (hW : t'.W.getD k 0 = t.W.getD k 0) (h0 : W'.getD (8 + 2 * k) 0 = W.getD (8 + 2 * k) 0) (h1 : W'.getD (8 + 2 * k + 1) 0 = W.getD (8 + 2 * k + 1) 0) : Sett l n W' t' k :=
  ⟨by rw [hP]; exact h.p, by rw [hS]; exact h.s, by rw [hW]; exact h.w, by rw [h0]; exact h.h0, fun hq => by rw [h1]; exact h.h1 hq⟩
/-- the thread's search, once begun -/
structure Run (l : List Nd) (n : Int) (W : List Int) (e : Int) (t : PT) (R : List Int) (pc : Int) (r f1 : Nat) (d : Int) (st : Bool) : Prop where
  r2 : R.getD 2 0 = (r : Int)
  r3 : R.getD 3 0 = predN f1
  le : f1 ≤ l.length
  tall : f1 = 0 ∨ (r : Int) < (ndAt l (f1 - 1)).tall
  hgo : go l n r f1 d = endK l n r
  r5 : R.getD 5 0 = d
  d0 : 0 < r → d = 0
  ep : st = false → R.getD 1 0 = e
  done : ∀ k, r < k → k < 4 → Sett l n W t k
  p2 : 2 ≤ pc → W.getD (8 + 2 * r) 0 = predN f1
  p3 : 3 ≤ pc → R.getD 4 0 = wd l r f1 ∧ nx l r f1 < l.length
  p4 : 4 ≤ pc → W.getD (8 + 2 * r + 1) 0 = nodeN l (nx l r f1)
  p5 : pc = 5 → 0 < r
  p6 : pc = 6 → (r = 0 → (ndAt l (nx l r f1)).dead = false) ∧ (0 < r → nx l r f1 + 1 < l.length → (ndAt l (nx l r f1 + 1)).dead = false)
structure Bas (l : List Nd) (n : Int) (N : Nat) (W0 : List Int) (e : Int) (W : List Int) (t : PT) : Prop where
  lays : Lays W0 N l
  same : SameW W W0
  u : ∀ x ∈ W, u64R x
  ep : W.getD 1 0 = e
  lens : t.P.length = 4 ∧ t.S.length = 4 ∧ t.W.length = 4
theorem Bas.of {l : List Nd} {n : Int} {N : Nat} {W0 : List Int} {e : Int} {W : List Int} {t t' : PT} (h : Bas l n N W0 e W t) (h1 : t'.P.length = t.P.length) (h2 : t'.S.length = t.S.length) (h3 : t'.W.length = t.W.length) : Bas l n N W0 e W t' :=
  ⟨h.lays, h.same, h.u, h.ep, by rw [h1, h2, h3]; exact h.lens⟩
theorem Bas.slot {l : List Nd} {n : Int} {N : Nat} {W0 : List Int} {e : Int} {W : List Int} {t : PT} (h : Bas l n N W0 e W t) {a : Nat} (ha : 8 ≤ a ∧ a < 18) {x : Int} (hx : u64R x) : Bas l n N W0 e (W.set a x) t :=
  ⟨h.lays, h.same.slot ha x, fun y hy => by
    rcases List.mem_or_eq_of_mem_set hy with h1 | h1
    · exact h.u y h1
    · rw [h1]; exact hx, by rw [getD_set_ne' (by omega)]; exact h.ep, h.lens⟩
structure SI (l : List Nd) (n : Int) (N : Nat) (W0 : List Int) (e : Int) (W : List Int) (t : PT) (R : List Int) (pc : Int) (r f1 : Nat) (d : Int) (st : Bool) : Prop where
  b : Bas l n N W0 e W t
  tfs : t.fs = [⟨30, pc, R⟩]
  hR : ∀ j, u64R (R.getD j 0)
  r0 : R.getD 0 0 = n
  pcb : 0 ≤ pc ∧ pc ≤ 6
  r4 : r < 4
  run : pc ≠ 0 → Run l n W e t R pc r f1 d st
def mu (l : List Nd) (pc : Int) (r f1 : Nat) (st : Bool) : Nat := (if st then 1000 else 0) + (if pc = 0 then 900 else 8 * (20 * r + (l.length + 1 - f1)) + (7 - pc).toNat)
structure Fin' (l : List Nd) (n : Int) (N : Nat) (W0 : List Int) (e : Int) (W : List Int) (t : PT) : Prop where
  b : Bas l n N W0 e W t
  fs : t.fs = []
  all : ∀ k, k < 4 → Sett l n W t k
  ret : t.r = ((endK l n 0).2, 0, 0)
/-- what a step does -/
def Nxt (l : List Nd) (n : Int) (N : Nat) (W0 : List Int) (e : Int) (q : PS) (k : Int) (m : Nat) : Prop :=
  ∃ W' t', q = MM N W' (k + 1) true t' ∧ (Fin' l n N W0 e W' t' ∨ ∃ R' pc' r' f1' d' st', SI l n N W0 e W' t' R' pc' r' f1' d' st' ∧ mu l pc' r' f1' st' < m)
section
variable {l : List Nd} {n : Int} {N : Nat} {W0 : List Int} {e : Int} {W : List Int} {t : PT} {R : List Int} {pc : Int} {r f1 : Nat} {d : Int} {st : Bool}
theorem Bas.wl (h : Bas l n N W0 e W t) : W.length = 18 + 10 * N := by rw [h.same.1]; exact h.lays.len
theorem predN_bd (h : Lays W0 N l) (hf : f1 ≤ l.length) : 1 ≤ predN f1 ∧ predN f1 ≤ N := by
  have := h.few
  unfold predN
  split <;> omega
/-- the next node is taken -/
theorem pass_case (hB : Bas l n N W0 e W t) (hR : ∀ j, u64R (R.getD j 0)) (h0 : R.getD 0 0 = n) (hr4 : r < 4) (hr2 : R.getD 2 0 = (r : Int)) (hle : f1 ≤ l.length) (hgo : go l n r f1 d = endK l n r) (hd0 : 0 < r → d = 0) (hep : st = false → R.getD 1 0 = e) (hdone : ∀ k, r < k → k < 4 → Sett l n W t k)
    (hw : R.getD 4 0 = wd l r f1) (hj : nx l r f1 < l.length) (hp : past l n r (nx l r f1) = true) (h5 : R.getD 5 0 = if r = 0 ∧ (ndAt l (nx l r f1)).dead = true then (nx l r f1 : Int) + 3 else d) (x : Int) (k : Int) {m : Nat} (hm : 8 * (20 * r + (l.length - nx l r f1)) + 6 + (if st then 1000 else 0) < m) (fn : Int) (hfn : fn = 30) :
    Nxt l n N W0 e (lcPass (MM N W (k + 1) true t) 0 t [] ⟨fn, x, R⟩) k m := by
  subst hfn
  have hl := hB.lays.few
  have hn20 := hB.lays.n20
  obtain ⟨hq1, -, -⟩ := wd_ptr l (by omega) r f1
  have hge := nx_ge (l := l) (k := r) f1 hle
  have hnode : nodeN l (nx l r f1) = (nx l r f1 : Int) + 3 := if_pos hj
  have hpw : ptrW (R.getD 4 0) = (nx l r f1 : Int) + 3 := by rw [hw, hq1, hnode]
  have hb : u64R (ptrW (R.getD 4 0)) := by rw [hpw]; exact ⟨by omega, by omega⟩
  refine ⟨W, topped t [] ⟨30, 1, regI R 3 (ptrW (R.getD 4 0))⟩, rfl, .inr ⟨regI R 3 (ptrW (R.getD 4 0)), 1, r, nx l r f1 + 1, R.getD 5 0, st, ⟨hB.of rfl rfl rfl, rfl, regI_u64 hR hb, by rw [regI_at _ _ _ _ (by omega), if_neg (by omega)]; exact h0, by omega, hr4, fun _ => ?_⟩, ?_⟩⟩
  · refine ⟨by rw [regI_at _ _ _ _ (by omega), if_neg (by omega)]; exact hr2, by rw [regI_at _ _ _ _ (by omega), if_pos rfl, hpw]; unfold predN; rw [if_neg (by omega)]; omega, by omega, .inr (by rw [Nat.add_sub_cancel]; exact hge.2.2 hj), ?_, by rw [regI_at _ _ _ _ (by omega), if_neg (by omega)], fun hr => by rw [h5, if_neg (by omega)]; exact hd0 hr, fun hs => by rw [regI_at _ _ _ _ (by omega), if_neg (by omega)]; exact hep hs, fun k h1 h2 => (hdone k h1 h2).of rfl rfl rfl rfl rfl, fun h => absurd h (by omega), fun h => absurd h (by omega), fun h => absurd h (by omega), fun h => absurd h (by omega), fun h => absurd h (by omega)⟩
    rw [← hgo, go_pass hj hle hp, h5]
  · show (if st = true then 1000 else 0) + (8 * (20 * r + (l.length + 1 - (nx l r f1 + 1))) + 6) < m
    omega
/-- a row ends -/
theorem settle_case (hB : Bas l n N W0 e W t) (hR : ∀ j, u64R (R.getD j 0)) (h0 : R.getD 0 0 = n) (hr4 : r < 4) (hr2 : R.getD 2 0 = (r : Int)) (hr3 : R.getD 3 0 = predN f1) (hle : f1 ≤ l.length) (htall : f1 = 0 ∨ (r : Int) < (ndAt l (f1 - 1)).tall) (hgo : go l n r f1 d = endK l n r) (h5 : R.getD 5 0 = d) (hd0 : 0 < r → d = 0) (hep : st = false → R.getD 1 0 = e) (hdone : ∀ k, r < k → k < 4 → Sett l n W t k)
    (hw : R.getD 4 0 = wd l r f1) (hp : nx l r f1 < l.length → past l n r (nx l r f1) = false) (hs0 : W.getD (8 + 2 * r) 0 = predN f1) (hs1 : nodeN l (nx l r f1) ≠ 2 → W.getD (8 + 2 * r + 1) 0 = nodeN l (nx l r f1)) (x : Int) (k : Int) {m : Nat} (hm : 8 * (20 * r + (l.length + 1 - f1)) + (if st then 1000 else 0) < m) (fn : Int) (hfn : fn = 30) :
    Nxt l n N W0 e (lcSettle (MM N W (k + 1) true t) 0 t [] ⟨fn, x, R⟩ r) k m := by
  subst hfn
  have hl := hB.lays.few
  have hn20 := hB.lays.n20
  obtain ⟨l1, l2, l3⟩ := hB.lens
  obtain ⟨hq1, -, -⟩ := wd_ptr l (by omega) r f1
  have hend : endK l n r = (f1, d) := by rw [← hgo]; exact go_stop hp
  have hnew : ∀ t' : PT, t'.P = t.P.set r (R.getD 3 0) → t'.S = t.S.set r (ptrW (R.getD 4 0)) → t'.W = t.W.set r (R.getD 4 0) → ∀ k, r ≤ k → k < 4 → Sett l n W t' k := fun t' e1 e2 e3 k h1 h2 => by
    rcases Nat.lt_or_ge r k with h | h
    · exact (hdone k h h2).of (by rw [e1, getD_set_ne' (by omega)]) (by rw [e2, getD_set_ne' (by omega)]) (by rw [e3, getD_set_ne' (by omega)]) rfl rfl
    · obtain rfl : k = r := by omega
      refine ⟨?_, ?_, ?_, ?_, ?_⟩
      · rw [e1, getD_set_eq (by omega), hend]; exact hr3
      · rw [e2, getD_set_eq (by omega), hend, hw, hq1]
      · rw [e3, getD_set_eq (by omega), hend, hw]
      · rw [hend]; exact hs0
      · rw [hend]; exact hs1
  unfold lcSettle
  by_cases hr : r = 0
  · subst hr
    rw [if_pos rfl]
    refine ⟨W, _, MM_put, .inl ⟨hB.of (by simp) (by simp) (by simp), rfl, fun k hk => hnew _ rfl rfl rfl k (by omega) hk, ?_⟩⟩
    show (R.getD 5 0, (0 : Int), (0 : Int)) = _
    rw [h5, hend]
  · rw [if_neg hr]
    obtain ⟨s, rfl⟩ : ∃ s, r = s + 1 := ⟨r - 1, by omega⟩
    have hd := hd0 (by omega)
    refine ⟨W, _, MM_put, .inr ⟨regI R 2 (((s + 1 : Nat) : Int) - 1), 1, s, f1, 0, st, ⟨hB.of (by simp) (by simp) (by simp), rfl, regI_u64 hR ⟨by omega, by omega⟩, by rw [regI_at _ _ _ _ (by omega), if_neg (by omega)]; exact h0, by omega, by omega, fun _ => ?_⟩, ?_⟩⟩
    · refine ⟨by rw [regI_at _ _ _ _ (by omega), if_pos rfl]; omega, by rw [regI_at _ _ _ _ (by omega), if_neg (by omega)]; exact hr3, hle, htall.imp id (fun h => by omega), ?_, by rw [regI_at _ _ _ _ (by omega), if_neg (by omega), h5, hd], fun _ => rfl, fun hs => by rw [regI_at _ _ _ _ (by omega), if_neg (by omega)]; exact hep hs, fun k h1 h2 => hnew _ rfl rfl rfl k (by omega) h2, fun h => absurd h (by omega), fun h => absurd h (by omega), fun h => absurd h (by omega), fun h => absurd h (by omega), fun h => absurd h (by omega)⟩
      rw [endK_step (by omega), hend]
    · show (if st = true then 1000 else 0) + (8 * (20 * s + (l.length + 1 - f1)) + 6) < m
      omega
end
end Go.Proofs.Ytbnbbafffihapaa

/- Locate: a step of a search keeps its invariant (plain). -/
namespace Go.Proofs.Ytbnbbafffihapaa
open Go.RowKit
attribute [local irreducible] Instr.loadAt Instr.storeAt Instr.fieldAt Instr.indexAt Instr.sliceAt Instr.buildSlice Instr.box Instr.alloc Builtin.append_ Builtin.len_ Builtin.min_ Builtin.max_ Calls Instr.build Instr.makeSlice binSem convert Instr.index Instr.range Instr.next
section
variable {l : List Nd} {n : Int} {N : Nat} {W0 : List Int} {e : Int} {W : List Int} {t : PT} {R : List Int} {pc : Int} {r f1 : Nat} {d : Int} {st : Bool}
theorem toI_nat {x : Int} (h : 0 ≤ x ∧ x ≤ 1000000) : toI x = x := IntWalk.i64_in _ (by omega)
theorem mu_le (h : f1 ≤ l.length) (hn : pc ≠ 0) (hp : 0 ≤ pc) : mu l pc r f1 st = (if st then 1000 else 0) + (8 * (20 * r + (l.length + 1 - f1)) + (7 - pc).toNat) := by
  unfold mu; rw [if_neg hn]
/-- what a place of a node says -/
theorem at_link (hB : Bas l n N W0 e W t) {k i : Nat} (hk : k < 4) (hi : i ≤ l.length) (ht : i = 0 ∨ (k : Int) < (ndAt l (i - 1)).tall) : ∃ x : Nat, (cL N).node (toI (predN i)) (5 + (k : Int)) = (x : Int) ∧ x < W.length ∧ W.getD x 0 = wd l k i := by
  have hp := predN_bd (f1 := i) hB.lays hi
  have hn20 := hB.lays.n20
  have hwl := hB.wl
  refine ⟨18 + N + ((predN i).toNat - 1) * 9 + (5 + k), ?_, by omega, ?_⟩
  · rw [toI_nat (by omega), node_cL hp.1 hp.2 (by omega) (by omega)]
    omega
  · exact ((hB.lays.same hB.same).link k i hk hi ht)
theorem at_order (hB : Bas l n N W0 e W t) {j : Nat} (hj : j < l.length) : ∃ x : Nat, (cL N).node (toI ((j : Int) + 3)) 0 = (x : Int) ∧ x < W.length ∧ W.getD x 0 = (ndAt l j).key * 4294967296 + j := by
  have hn20 := hB.lays.n20
  have hf := hB.lays.few
  have hwl := hB.wl
  refine ⟨18 + N + (j + 2) * 9, ?_, by omega, ?_⟩
  · rw [toI_nat (by omega), node_cL (by omega) (by omega) (by omega) (by omega)]
    omega
  · exact (hB.lays.same hB.same).order j hj
set_option maxHeartbeats 1000000 in
theorem lc_step (h : SI l n N W0 e W t R pc r f1 d st) (k : Int) : Nxt l n N W0 e (lcDo (MM N W k false t) 0 t [] ⟨30, pc, R⟩ r) k (mu l pc r f1 st) := by
  obtain ⟨hB, htf, hR, h0, hpc, hr4, hrun⟩ := h
  have hl := hB.lays.few
  have hn20 := hB.lays.n20
  have hwl := hB.wl
  have hc : (MM N W k false t).c = cL N := rfl
  have hload1 : (MM N W k false t).load 1 = MM N W (k + 1) true t := MM_load (N := N) (W := W) (k := k) (a := false) (t := t) (x := 1) (by omega)
  have hldv1 : (MM N W k false t).ldv 1 = e := (MM_ldv (N := N) (W := W) (k := k) (a := false) (t := t) (x := 1) (by omega)).trans hB.ep
  have hz : ∀ x : Int, (cL N).haz ((0 : Nat) : Int) x = (cL N).haz 0 x := fun _ => rfl
  have heu : u64R e := by
    rw [← hB.ep]
    have : W.getD 1 0 ∈ W := by simp [List.getD, show 1 < W.length by omega]
    exact hB.u _ this
  unfold lcDo
  by_cases c0 : pc = 0
  · subst c0
    rw [if_pos rfl]
    unfold lcBegin
    rw [hload1, hldv1, hc]
    refine ⟨W, topped t [] ⟨30, 1, regI (regI (regI (regI R 1 e) 3 1) 5 0) 2 ((cL N).L - 1)⟩, rfl, .inr ⟨_, 1, 3, 0, 0, false, ⟨hB.of rfl rfl rfl, rfl, ?_, ?_, by omega, by omega, fun _ => ?_⟩, ?_⟩⟩
    · exact regI_u64 (regI_u64 (regI_u64 (regI_u64 hR heu) ⟨by omega, by omega⟩) ⟨by omega, by omega⟩) (show u64R 3 from ⟨by omega, by omega⟩)
    · rw [regI_at _ _ _ _ (by omega), if_neg (by omega), regI_at _ _ _ _ (by omega), if_neg (by omega), regI_at _ _ _ _ (by omega), if_neg (by omega), regI_at _ _ _ _ (by omega), if_neg (by omega)]; exact h0
    · refine ⟨?_, ?_, by omega, .inl rfl, rfl, ?_, fun _ => rfl, fun _ => ?_, fun k h1 h2 => by omega, fun h => absurd h (by omega), fun h => absurd h (by omega), fun h => absurd h (by omega), fun h => absurd h (by omega), fun h => absurd h (by omega)⟩
      · rw [regI_at _ _ _ _ (by omega), if_pos rfl]; rfl
      · rw [regI_at _ _ _ _ (by omega), if_neg (by omega), regI_at _ _ _ _ (by omega), if_neg (by omega), regI_at _ _ _ _ (by omega), if_pos rfl]; rfl
      · rw [regI_at _ _ _ _ (by omega), if_neg (by omega), regI_at _ _ _ _ (by omega), if_pos rfl]
      · rw [regI_at _ _ _ _ (by omega), if_neg (by omega), regI_at _ _ _ _ (by omega), if_neg (by omega), regI_at _ _ _ _ (by omega), if_neg (by omega), regI_at _ _ _ _ (by omega), if_pos rfl]
    · show 0 + (8 * (20 * 3 + (l.length + 1 - 0)) + 6) < (if st = true then 1000 else 0) + 900
      omega
  rw [if_neg c0]
  have Q := hrun c0
  have hpb := predN_bd hB.lays Q.le
  have hmu := mu_le (l := l) (r := r) (st := st) Q.le c0 hpc.1
  by_cases c1 : pc = 1
  · subst c1
    rw [if_pos rfl, hc, hz, haz_cL (by omega) (by omega), show (8 : Int) + 2 * (r : Int) = ((8 + 2 * r : Nat) : Int) by omega, MM_store (by omega)]
    have hx : R.getD 3 0 = predN f1 := Q.r3
    refine ⟨W.set (8 + 2 * r) (R.getD 3 0), topped t [] ⟨30, 2, R⟩, rfl, .inr ⟨R, 2, r, f1, d, st, ⟨(hB.slot (by omega) (by rw [hx]; exact ⟨by omega, by omega⟩)).of rfl rfl rfl, rfl, hR, h0, by omega, hr4, fun _ => ?_⟩, ?_⟩⟩
    · exact ⟨Q.r2, Q.r3, Q.le, Q.tall, Q.hgo, Q.r5, Q.d0, Q.ep, fun k h1 h2 => (Q.done k h1 h2).of rfl rfl rfl (getD_set_ne' (by omega) _) (getD_set_ne' (by omega) _), fun _ => by rw [getD_set_eq (by omega)]; exact hx, fun h => absurd h (by omega), fun h => absurd h (by omega), fun h => absurd h (by omega), fun h => absurd h (by omega)⟩
    · rw [hmu]
      show (if st = true then 1000 else 0) + (8 * (20 * r + (l.length + 1 - f1)) + 5) < (if st = true then 1000 else 0) + (8 * (20 * r + (l.length + 1 - f1)) + 6)
      omega
  rw [if_neg c1]
  by_cases c2 : pc = 2
  · subst c2
    rw [if_pos rfl, hc]
    obtain ⟨x, hx1, hx2, hx3⟩ := at_link hB hr4 Q.le Q.tall
    obtain ⟨hq1, hq2, hq3⟩ := wd_ptr l (by omega) r f1
    show Nxt l n N W0 e (if ptrW ((MM N W k false t).ldv ((cL N).node (toI (R.getD 3 0)) (5 + (r : Int)))) = 2 then _ else _) k _
    rw [Q.r3, hx1, MM_ldv hx2, MM_load hx2, hx3, hq1]
    have hR' := regI_u64 (k := 4) hR hq3
    have g : ∀ j, j < 10 → j ≠ 4 → (regI R 4 (wd l r f1)).getD j 0 = R.getD j 0 := fun j h1 h2 => by rw [regI_at _ _ _ _ h1, if_neg h2]
    have g4 : (regI R 4 (wd l r f1)).getD 4 0 = wd l r f1 := by rw [regI_at _ _ _ _ (by omega), if_pos rfl]
    have hge := nx_ge (l := l) (k := r) f1 Q.le
    by_cases h2 : nodeN l (nx l r f1) = 2
    · rw [if_pos h2]
      have hnl : ¬ nx l r f1 < l.length := fun hh => by unfold nodeN at h2; rw [if_pos hh] at h2; omega
      refine settle_case (d := d) (f1 := f1) (st := st) hB hR' (by rw [g 0 (by omega) (by omega)]; exact h0) hr4 (by rw [g 2 (by omega) (by omega)]; exact Q.r2) (by rw [g 3 (by omega) (by omega)]; exact Q.r3) Q.le Q.tall Q.hgo (by rw [g 5 (by omega) (by omega)]; exact Q.r5) Q.d0 (fun hs => by rw [g 1 (by omega) (by omega)]; exact Q.ep hs) Q.done g4 (fun hh => absurd hh hnl) (Q.p2 (by omega)) (fun hh => absurd h2 hh) 3 k ?_ 30 rfl
      rw [hmu]
      have : ((7 : Int) - 2).toNat = 5 := rfl
      rw [this]; omega
    · rw [if_neg h2]
      have hnl : nx l r f1 < l.length := by
        rcases Nat.lt_or_ge (nx l r f1) l.length with hh | hh
        · exact hh
        · exact absurd (by unfold nodeN; rw [if_neg (by omega)]) h2
      refine ⟨W, topped t [] ⟨30, 3, regI R 4 (wd l r f1)⟩, rfl, .inr ⟨regI R 4 (wd l r f1), 3, r, f1, d, st, ⟨hB.of rfl rfl rfl, rfl, hR', by rw [g 0 (by omega) (by omega)]; exact h0, by omega, hr4, fun _ => ?_⟩, ?_⟩⟩
      · exact ⟨by rw [g 2 (by omega) (by omega)]; exact Q.r2, by rw [g 3 (by omega) (by omega)]; exact Q.r3, Q.le, Q.tall, Q.hgo, by rw [g 5 (by omega) (by omega)]; exact Q.r5, Q.d0, fun hs => by rw [g 1 (by omega) (by omega)]; exact Q.ep hs, fun k h1 h2 => (Q.done k h1 h2).of rfl rfl rfl rfl rfl, fun _ => Q.p2 (by omega), fun _ => ⟨g4, hnl⟩, fun h => absurd h (by omega), fun h => absurd h (by omega), fun h => absurd h (by omega)⟩
      · rw [hmu]
        show (if st = true then 1000 else 0) + (8 * (20 * r + (l.length + 1 - f1)) + 4) < (if st = true then 1000 else 0) + (8 * (20 * r + (l.length + 1 - f1)) + 5)
        omega
  rw [if_neg c2]
  have hge := nx_ge (l := l) (k := r) f1 Q.le
  obtain ⟨hq1, hq2, hq3⟩ := wd_ptr l (by omega) r f1
  obtain ⟨hw, hj⟩ := Q.p3 (by omega)
  have hnode : nodeN l (nx l r f1) = (nx l r f1 : Int) + 3 := if_pos hj
  by_cases c3 : pc = 3
  · subst c3
    rw [if_pos rfl, hc, hz, haz_cL (by omega) (by omega), show (8 : Int) + (2 * (r : Int) + 1) = ((8 + 2 * r + 1 : Nat) : Int) by omega, MM_store (by omega)]
    have hx : ptrW (R.getD 4 0) = nodeN l (nx l r f1) := by rw [hw, hq1]
    refine ⟨W.set (8 + 2 * r + 1) (ptrW (R.getD 4 0)), topped t [] ⟨30, 4, R⟩, rfl, .inr ⟨R, 4, r, f1, d, st, ⟨(hB.slot (by omega) (by rw [hx, hnode]; exact ⟨by omega, by omega⟩)).of rfl rfl rfl, rfl, hR, h0, by omega, hr4, fun _ => ?_⟩, ?_⟩⟩
    · exact ⟨Q.r2, Q.r3, Q.le, Q.tall, Q.hgo, Q.r5, Q.d0, Q.ep, fun k h1 h2 => (Q.done k h1 h2).of rfl rfl rfl (getD_set_ne' (by omega) _) (getD_set_ne' (by omega) _), fun _ => by rw [getD_set_ne' (by omega)]; exact Q.p2 (by omega), fun _ => ⟨hw, hj⟩, fun _ => by rw [getD_set_eq (by omega)]; exact hx, fun h => absurd h (by omega), fun h => absurd h (by omega)⟩
    · rw [hmu]
      show (if st = true then 1000 else 0) + (8 * (20 * r + (l.length + 1 - f1)) + 3) < (if st = true then 1000 else 0) + (8 * (20 * r + (l.length + 1 - f1)) + 4)
      omega
  rw [if_neg c3]
  have hs1 := Q.p4 (by omega)
  by_cases c4 : pc = 4
  · subst c4
    rw [if_pos rfl]
    unfold lcJudge
    rw [hload1, hldv1]
    have h74 : ((7 : Int) - 4).toNat = 3 := rfl
    by_cases hne : e ≠ R.getD 1 0
    · rw [if_pos hne]
      have hst : st = true := by
        cases st
        · exact absurd (Q.ep rfl).symm hne
        · rfl
      refine ⟨W, topped t [] ⟨30, 0, R⟩, rfl, .inr ⟨R, 0, r, f1, d, false, ⟨hB.of rfl rfl rfl, rfl, hR, h0, by omega, hr4, fun hq => absurd rfl hq⟩, ?_⟩⟩
      rw [hmu, hst]
      show 0 + 900 < 1000 + _
      omega
    rw [if_neg hne]
    by_cases hm : r = 0 ∧ markW (R.getD 4 0) = true
    · rw [if_pos hm]
      obtain ⟨rfl, hmk⟩ := hm
      rw [hw, hq2] at hmk
      have hdead : (ndAt l (nx l 0 f1)).dead = true := by
        unfold markN at hmk
        rw [decide_eq_true hj] at hmk
        simpa using hmk
      have hb : u64R (ptrW (R.getD 4 0)) := by rw [hw, hq1, hnode]; exact ⟨by omega, by omega⟩
      have g : ∀ j, j < 10 → j ≠ 5 → (regI R 5 (ptrW (R.getD 4 0))).getD j 0 = R.getD j 0 := fun j h1 h2 => by rw [regI_at _ _ _ _ h1, if_neg h2]
      refine pass_case (d := d) (f1 := f1) (st := st) hB (regI_u64 hR hb) (by rw [g 0 (by omega) (by omega)]; exact h0) hr4 (by rw [g 2 (by omega) (by omega)]; exact Q.r2) Q.le Q.hgo Q.d0 (fun hs => by rw [g 1 (by omega) (by omega)]; exact Q.ep hs) Q.done (by rw [g 4 (by omega) (by omega)]; exact hw) hj ?_ ?_ 4 k ?_ 30 rfl
      · unfold past; rw [if_pos ⟨rfl, hdead⟩]
      · rw [if_pos ⟨rfl, hdead⟩, regI_at _ _ _ _ (by omega), if_pos rfl, hw, hq1, hnode]
      · rw [hmu, h74]; omega
    · rw [if_neg hm]
      by_cases hr : r = 0
      · subst hr
        rw [if_pos rfl]
        refine ⟨W, topped t [] ⟨30, 6, R⟩, rfl, .inr ⟨R, 6, 0, f1, d, st, ⟨hB.of rfl rfl rfl, rfl, hR, h0, by omega, hr4, fun _ => ?_⟩, ?_⟩⟩
        · refine ⟨Q.r2, Q.r3, Q.le, Q.tall, Q.hgo, Q.r5, Q.d0, Q.ep, fun k h1 h2 => (Q.done k h1 h2).of rfl rfl rfl rfl rfl, fun _ => Q.p2 (by omega), fun _ => ⟨hw, hj⟩, fun _ => hs1, fun h => absurd h (by omega), fun _ => ⟨fun _ => ?_, fun h => absurd h (by omega)⟩⟩
          cases hdead : (ndAt l (nx l 0 f1)).dead with
          | false => rfl
          | true =>
            refine absurd ⟨rfl, ?_⟩ hm
            rw [hw, hq2]
            unfold markN
            rw [decide_eq_true hj, hdead]; rfl
        · rw [hmu, h74]
          show (if st = true then 1000 else 0) + (8 * (20 * 0 + (l.length + 1 - f1)) + 1) < (if st = true then 1000 else 0) + (8 * (20 * 0 + (l.length + 1 - f1)) + 3)
          omega
      · rw [if_neg hr]
        refine ⟨W, topped t [] ⟨30, 5, R⟩, rfl, .inr ⟨R, 5, r, f1, d, st, ⟨hB.of rfl rfl rfl, rfl, hR, h0, by omega, hr4, fun _ => ?_⟩, ?_⟩⟩
        · exact ⟨Q.r2, Q.r3, Q.le, Q.tall, Q.hgo, Q.r5, Q.d0, Q.ep, fun k h1 h2 => (Q.done k h1 h2).of rfl rfl rfl rfl rfl, fun _ => Q.p2 (by omega), fun _ => ⟨hw, hj⟩, fun _ => hs1, fun _ => by omega, fun h => absurd h (by omega)⟩
        · rw [hmu, h74]
          show (if st = true then 1000 else 0) + (8 * (20 * r + (l.length + 1 - f1)) + 2) < (if st = true then 1000 else 0) + (8 * (20 * r + (l.length + 1 - f1)) + 3)
          omega
  rw [if_neg c4]
  have hpw : ptrW (R.getD 4 0) = predN (nx l r f1 + 1) := by rw [hw, hq1, hnode]; unfold predN; rw [if_neg (by omega)]; omega
  by_cases c5 : pc = 5
  · subst c5
    rw [if_pos rfl, hc]
    have hr := Q.p5 rfl
    have h75 : ((7 : Int) - 5).toNat = 2 := rfl
    have htl := hB.lays.u64 (nx l r f1) hj
    obtain ⟨x, hx1, hx2, hx3⟩ := at_link (k := 0) (i := nx l r f1 + 1) hB (by omega) (by omega) (.inr (by rw [Nat.add_sub_cancel]; show (0 : Int) < _; omega))
    have hx1 : (cL N).node (toI (predN (nx l r f1 + 1))) 5 = (x : Int) := hx1
    obtain ⟨-, hm2, -⟩ := wd_ptr l (by omega) 0 (nx l r f1 + 1)
    show Nxt l n N W0 e (if markW ((MM N W k false t).ldv ((cL N).node (toI (ptrW (R.getD 4 0))) 5)) = true then _ else _) k _
    rw [hpw, hx1, MM_ldv hx2, MM_load hx2, hx3, hm2]
    have hnx : nx l r f1 + 1 < l.length → nx l 0 (nx l r f1 + 1) = nx l r f1 + 1 := fun hlt => nx_hit hlt (by have := hB.lays.u64 _ hlt; show (0 : Int) < _; omega)
    by_cases hmk : markN l 0 (nx l 0 (nx l r f1 + 1)) = true
    · rw [if_pos hmk]
      have hlt : nx l r f1 + 1 < l.length := by
        rcases Nat.lt_or_ge (nx l r f1 + 1) l.length with hh | hh
        · exact hh
        · rw [nx_end (by omega)] at hmk
          unfold markN at hmk
          rw [decide_eq_false (Nat.lt_irrefl _)] at hmk
          simp at hmk
      rw [hnx hlt] at hmk
      have hdead : (ndAt l (nx l r f1 + 1)).dead = true := by
        unfold markN at hmk
        rw [decide_eq_true hlt] at hmk
        simpa using hmk
      refine pass_case (d := d) (f1 := f1) (st := st) hB hR h0 hr4 Q.r2 Q.le Q.hgo Q.d0 Q.ep Q.done hw hj ?_ (by rw [if_neg (by omega)]; exact Q.r5) 6 k ?_ 30 rfl
      · unfold past; rw [if_neg (by omega), if_pos ⟨hr, hlt, hdead⟩]
      · rw [hmu, h75]; omega
    · rw [if_neg hmk]
      refine ⟨W, topped t [] ⟨30, 6, R⟩, rfl, .inr ⟨R, 6, r, f1, d, st, ⟨hB.of rfl rfl rfl, rfl, hR, h0, by omega, hr4, fun _ => ?_⟩, ?_⟩⟩
      · refine ⟨Q.r2, Q.r3, Q.le, Q.tall, Q.hgo, Q.r5, Q.d0, Q.ep, fun k h1 h2 => (Q.done k h1 h2).of rfl rfl rfl rfl rfl, fun _ => Q.p2 (by omega), fun _ => ⟨hw, hj⟩, fun _ => hs1, fun h => absurd h (by omega), fun _ => ⟨fun h => absurd h (by omega), fun _ hlt => ?_⟩⟩
        cases hdead : (ndAt l (nx l r f1 + 1)).dead with
        | false => rfl
        | true =>
          refine absurd ?_ hmk
          rw [hnx hlt]
          unfold markN
          rw [decide_eq_true hlt, hdead]; rfl
      · rw [hmu, h75]
        show (if st = true then 1000 else 0) + (8 * (20 * r + (l.length + 1 - f1)) + 1) < (if st = true then 1000 else 0) + (8 * (20 * r + (l.length + 1 - f1)) + 2)
        omega
  rw [if_neg c5]
  obtain rfl : pc = 6 := by omega
  have h76 : ((7 : Int) - 6).toNat = 1 := rfl
  obtain ⟨q0, q1⟩ := Q.p6 rfl
  obtain ⟨x, hx1, hx2, hx3⟩ := at_order hB hj
  have hpw : ptrW (R.getD 4 0) = (nx l r f1 : Int) + 3 := by rw [hw, hq1, hnode]
  rw [hc]
  show Nxt l n N W0 e (if (MM N W k false t).ldv ((cL N).node (toI (ptrW (R.getD 4 0))) 0) < R.getD 0 0 then _ else _) k _
  rw [hpw, hx1, MM_ldv hx2, MM_load hx2, hx3, h0]
  have hpa : past l n r (nx l r f1) = decide ((ndAt l (nx l r f1)).key * 4294967296 + (nx l r f1 : Int) < n) := by
    unfold past
    rw [if_neg (fun hh => by rw [q0 hh.1] at hh; cases hh.2), if_neg (fun hh => by rw [q1 hh.1 hh.2.1] at hh; cases hh.2.2)]
  by_cases hlt : (ndAt l (nx l r f1)).key * 4294967296 + (nx l r f1 : Int) < n
  · rw [if_pos hlt]
    refine pass_case (d := d) (f1 := f1) (st := st) hB hR h0 hr4 Q.r2 Q.le Q.hgo Q.d0 Q.ep Q.done hw hj (by rw [hpa]; exact decide_eq_true hlt) (by rw [if_neg (fun hh => by rw [q0 hh.1] at hh; cases hh.2)]; exact Q.r5) 6 k ?_ 30 rfl
    rw [hmu, h76]; omega
  · rw [if_neg hlt]
    refine settle_case (d := d) (f1 := f1) (st := st) hB hR h0 hr4 Q.r2 Q.r3 Q.le Q.tall Q.hgo Q.r5 Q.d0 Q.ep Q.done hw (fun _ => by rw [hpa]; exact decide_eq_false hlt) (Q.p2 (by omega)) (fun _ => hs1) 6 k ?_ 30 rfl
    rw [hmu, h76]; omega
end
end Go.Proofs.Ytbnbbafffihapaa

/- Locate: a search alone. -/
namespace Go.Proofs.Ytbnbbafffihapaa
open Go.RowKit
attribute [local irreducible] Instr.loadAt Instr.storeAt Instr.fieldAt Instr.indexAt Instr.sliceAt Instr.buildSlice Instr.box Instr.alloc Builtin.append_ Builtin.len_ Builtin.min_ Builtin.max_ Calls Instr.build Instr.makeSlice binSem convert Instr.index Instr.range Instr.next
theorem sizeP_cL (N : Nat) : (sizeP 2 1 (N : Int) 4).toNat = 18 + 10 * N := by
  unfold sizeP treeP nodesP
  rw [show linksP 2 1 4 = 18 from rfl, show widthP 2 4 = 9 from rfl]
  unfold nthP
  simp
  omega
theorem cL_right {N : Nat} (h3 : 3 ≤ N) (h20 : N ≤ 20) : rightC (cL N) := by
  unfold cL rightC
  simp [within]
  omega
theorem MM_Ok {N : Nat} {W : List Int} {k : Int} {a : Bool} {t : PT} {b : Int} (h3 : 3 ≤ N) (h20 : N ≤ 20) (hu : ∀ x ∈ W, u64R x) (hl : W.length = 18 + 10 * N) (hk : 0 ≤ k ∧ k ≤ b) : (MM N W k a t).Ok b :=
  ⟨cL_right h3 h20, by show ([] : List Int).length ≤ 64; decide, hk.1, hk.2, hu, by rw [show (MM N W k a t).W.length = W.length from rfl, hl]; exact (sizeP_cL N).symm⟩
theorem mu_bd {l : List Nd} {pc : Int} {r f1 : Nat} {st : Bool} (hl : l.length ≤ 18) (hr : r < 4) (hp : 0 ≤ pc ∧ pc ≤ 6) : mu l pc r f1 st ≤ 1900 := by
  unfold mu
  have : (if st = true then 1000 else 0) ≤ 1000 := by split <;> omega
  have h2 : (if pc = 0 then 900 else 8 * (20 * r + (l.length + 1 - f1)) + (7 - pc).toNat) ≤ 900 := by split <;> omega
  omega
section
variable {w w' : World} {X : Mc} {l : List Nd} {n : Int} {N : Nat} {W0 : List Int} {e : Int} {W : List Int} {t0 : PT} {k : Int} {a : Bool}
theorem abs_one {Y : Mc} {t : PT} (h : Y.abs = MM N W k a t) : ∃ t' : Th, Y.ths = [t'] ∧ absT t' = t ∧ Y.gs = none ∧ Y.bad = false := by
  have h1 : Y.ths.map absT = [t] := congrArg PS.ths h
  obtain ⟨t', h2, h3⟩ : ∃ t', Y.ths = [t'] ∧ absT t' = t := by
    cases hy : Y.ths with
    | nil => rw [hy] at h1; cases h1
    | cons x r =>
      rw [hy] at h1
      simp at h1
      exact ⟨x, by rw [h1.2], h1.1⟩
  have h4 : Y.gs.map absG = none := congrArg PS.gh h
  exact ⟨t', h2, h3, by simpa using h4, congrArg PS.bad h⟩
/-- a step of the search, by the machine -/
theorem step_si (h : Mach w X) (hc : X.s.on = false ∧ X.s.L = []) {t : PT} (ha : X.abs = MM N W k a t) {R : List Int} {pc : Int} {r f1 : Nat} {d : Int} {st : Bool} (hS : SI l n N W0 e W t R pc r f1 d st) (hk : 0 ≤ k ∧ k ≤ 890000) :
    Fn Try.prog 36 #[ptrV X.m, .int .i64 0, .func (.func 37) #[] #[]] w fun r' w' => ∃ W' t', Ev w X w' (MM N W' (k + 1) true t') ∧
      ((r' = .bool false ∧ Fin' l n N W0 e W' t') ∨ (r' = .bool true ∧ ∃ R' pc' r'' f1' d' st', SI l n N W0 e W' t' R' pc' r'' f1' d' st' ∧ mu l pc' r'' f1' st' < mu l pc r f1 st)) := by
  obtain ⟨t1, h1, h2, -, -⟩ := abs_one ha
  have hfew := hS.b.lays.few
  have hn20 := hS.b.lays.n20
  obtain ⟨W', t', hq, hor⟩ := lc_step hS k
  have h3N : 3 ≤ N ∨ l.length = 0 := by omega
  have hN : 3 ≤ N := by
    have := hS.b.lays.n20
    have := hS.b.lays.few
    exact hS.b.lays.n3
  have hi : X.ths[0]? = some t1 := by rw [h1]; rfl
  have hrn : RndL 0 1 (calm0 X.abs) (MM N W' (k + 1) true t') := by
    rw [ha]
    refine ⟨rfl, t, [], ⟨30, pc, R⟩, r, rfl, hS.tfs, by simp, ⟨rfl, hS.hR, fun hp => (hS.run hp).r2, hS.r4, hS.b.lens.1, hS.b.lens.2.1, hS.b.lens.2.2, by show (1 : Int) ≤ 4; decide, by show (4 : Int) ≤ 6; decide⟩, MM_Ok hN hn20 hS.b.u hS.b.wl (show 0 ≤ k ∧ k ≤ 900000 by omega), hq, .inl rfl, ?_⟩
    show t'.fs.length ≤ 90000
    rcases hor with hf | ⟨R', pc', r'', f1', d', st', hs, -⟩
    · rw [hf.fs]; simp
    · rw [hs.tfs]; simp
  have hst := step_lc h hc (by rw [h1]; simp) hi hrn
  refine hst.mono fun _ w2 ⟨u, he, hr, hev⟩ => ⟨u, he, W', t', hev, ?_⟩
  have htl : topL (MM N W' (k + 1) true t') 0 = t'.fs.length := rfl
  rw [htl] at hr
  rcases hor with hf | ⟨R', pc', r'', f1', d', st', hs, hm⟩
  · rw [hf.fs] at hr; exact .inl ⟨hr, hf⟩
  · rw [hs.tfs] at hr; exact .inr ⟨hr, _, _, _, _, _, _, hs, hm⟩
/-- the thread begins a search -/
theorem push_si (h : Mach w X) {t : PT} (ha : X.abs = MM N W k a t) (hts : t.fs = []) (hB : Bas l n N W0 e W t) (hn : u64R n) : ∃ g : Nat, (∃ t' : Th, X.ths = [t'] ∧ t'.g = g) ∧ ∀ {v : Value} {w1 : World}, Upd [] w w1 → RdK w1 .u64 v [n] → Fn Try.prog 35 #[ptrV g, .int .i64 30, v] w1 fun _ w' => ∃ t', Ev w X w' (MM N W k a t') ∧ SI l n N W0 e W t' [n] 0 0 0 0 true := by
  obtain ⟨t1, h1, h2, -, -⟩ := abs_one ha
  have hi : X.ths[0]? = some t1 := by rw [h1]; rfl
  have hf : t1.fs = [] := by have : (absT t1).fs = t.fs := by rw [h2]
                             rw [hts] at this; exact this
  refine ⟨t1.g, ⟨t1, h1, rfl⟩, fun {v w1} hu hv => ?_⟩
  refine (push_mm (h.upd0 hu) hi (by rw [hf]; simp) hv (by simp) 30).mono ?_
  rintro _ w2 ⟨u, he, fv, p⟩
  refine ⟨u, he, { t with fs := [⟨30, 0, [n]⟩] }, ⟨_, (Post.of0 h hu).trans p, kin_set X hi rfl, ?_⟩, ⟨hB.of rfl rfl rfl, rfl, fun j => ?_, rfl, by omega, by omega, fun hq => absurd rfl hq⟩⟩
  · rw [abs_set, ha]
    show MM N W k a { absT t1 with fs := t1.fs ++ [⟨30, 0, [n]⟩] } = _
    rw [h2, hf]; rfl
  · cases j with
    | zero => exact hn
    | succ j => simp [List.getD]; exact ⟨by omega, by omega⟩
set_option maxRecDepth 10000 in
/-- the law's seek -/
theorem seek_c (h : Mach w X) (hc : X.s.on = false ∧ X.s.L = []) {t : PT} (ha : X.abs = MM N W k a t) (hts : t.fs = []) (hB : Bas l n N W0 e W t) (hn : u64R n) (hk : 0 ≤ k ∧ k ≤ 800000) :
    Fn Try.prog 22 #[ptrV X.m, .int .u64 n] w fun r w' => r = .bool true ∧ ∃ W' k' t', Ev w X w' (MM N W' k' true t') ∧ Fin' l n N W0 e W' t' ∧ 0 ≤ k' ∧ k' ≤ k + 2000 := by
  obtain ⟨t1, h1, h2, -, -⟩ := abs_one ha
  have hi : X.ths[0]? = some t1 := by rw [h1]; rfl
  obtain ⟨g, ⟨t1', e1, e2⟩, hpush⟩ := push_si h ha hts hB hn
  have e3 : t1' = t1 := by rw [h1] at e1; exact ((List.cons.inj e1).1).symm
  subst e3
  have hl := hB.lays.few
  have hn20 := hB.lays.n20
  refine fn_enter Try.func22 rfl rfl ?_
  refine cl (thread_mm (i := 0) h hi (by rw [h1]; simp)) ?_
  rintro _ w ⟨rfl, rfl⟩
  refine bs #[.int .u64 n] (fun _ => by kernel_rfl) fun w1 hb1 hu1 hs1 => ?_
  rw [e2]
  refine cl (hpush hu1 (one_rd hb1)) ?_
  rintro _ w2 ⟨t2, ev2, hS2⟩
  refine loop_rule [0] [5] (fun vs w' m => ∃ (j : Int) (W' : List Int) (k' : Int) (a' : Bool) (t' : PT) (R : List Int) (pc : Int) (r f1 : Nat) (d : Int) (st : Bool), vs = [.int .i64 j] ∧ Ev w X w' (MM N W' k' a' t') ∧ SI l n N W0 e W' t' R pc r f1 d st ∧ (0 ≤ j ∧ j + mu l pc r f1 st ≤ 1900) ∧ (0 ≤ k' ∧ k' + mu l pc r f1 st ≤ k + 1900) ∧ m = mu l pc r f1 st) rfl [.int .i64 0] (mu l 0 0 0 true) rfl
    ⟨0, W, k, a, t2, _, 0, 0, 0, 0, true, rfl, ev2, hS2, ⟨by omega, by have := mu_bd (l := l) (pc := 0) (r := 0) (f1 := 0) (st := true) (by omega) (by omega) (by omega); omega⟩, ⟨hk.1, by have := mu_bd (l := l) (pc := 0) (r := 0) (f1 := 0) (st := true) (by omega) (by omega) (by omega); omega⟩, rfl⟩ ?_
  rintro _ w3 m ⟨j, W', k', a', t', R, pc, r, f1, d, st, rfl, ⟨Y, p3, k3, a3⟩, hS3, hj, hk3, rfl⟩
  refine cY (show j < 20000 by omega) ?_
  have hst := step_si p3.ok (k3.calm hc) a3 hS3 (by omega)
  rw [show Y.m = X.m from k3.m] at hst
  refine cl hst ?_
  rintro _ w4 ⟨W4, t4, ev4, hor⟩
  have ev4' := Ev.before p3 k3 ev4
  rcases hor with ⟨rfl, hf⟩ | ⟨rfl, R4, pc4, r4, f4, d4, st4, hs4, hm⟩
  · obtain ⟨Z, pz, kz, az⟩ := ev4'
    obtain ⟨tz, -, -, hg, hbad⟩ := abs_one az
    have hft := fault_mm pz.ok
    rw [hg, hbad, show Z.m = X.m from kz.m] at hft
    refine cl hft ?_
    rintro _ w5 ⟨rfl, hu5⟩
    exact ⟨rfl, W4, k' + 1, t4, ⟨Z, pz.upd0 hu5, kz, az⟩, hf, by omega, by omega⟩
  · refine ar64 (by omega) ?_
    exact round_mk [.int .i64 (j + 1)] (mu l pc4 r4 f4 st4) rfl rfl ⟨j + 1, W4, k' + 1, true, t4, R4, pc4, r4, f4, d4, st4, rfl, ev4', hs4, by omega, by omega, rfl⟩ (by omega)
end
end Go.Proofs.Ytbnbbafffihapaa

/- Nodes that are laid, one by one (plain). -/
namespace Go.Proofs.Ytbnbbafffihapaa
open Go.RowKit
attribute [local irreducible] Instr.loadAt Instr.storeAt Instr.fieldAt Instr.indexAt Instr.sliceAt Instr.buildSlice Instr.box Instr.alloc Builtin.append_ Builtin.len_ Builtin.min_ Builtin.max_ Calls Instr.build Instr.makeSlice binSem convert Instr.index Instr.range Instr.next
section
variable {l : List Nd} {k : Nat}
theorem nx_eq {g i : Nat} (h : g ≤ i) (hi : i < l.length) (ht : (k : Int) < (ndAt l i).tall) (hn : ∀ j, g ≤ j → j < i → ¬ (k : Int) < (ndAt l j).tall) : nx l k g = i := by
  induction hm : i - g generalizing g with
  | zero =>
    obtain rfl : g = i := by omega
    exact nx_hit hi ht
  | succ m ih =>
    rw [nx_skip (by omega) (hn g (Nat.le_refl _) (by omega))]
    exact ih (by omega) (fun j h1 h2 => hn j (by omega) h2) (by omega)
theorem nx_none {g : Nat} (h : g ≤ l.length) (hn : ∀ j, g ≤ j → j < l.length → ¬ (k : Int) < (ndAt l j).tall) : nx l k g = l.length := by
  induction hm : l.length - g generalizing g with
  | zero => exact nx_end (by omega)
  | succ m ih =>
    rw [nx_skip (by omega) (hn g (Nat.le_refl _) (by omega))]
    exact ih (by omega) (fun j h1 h2 => hn j (by omega) h2) (by omega)
theorem nx_le {g j : Nat} (h : g ≤ j) (hj : j < l.length) (ht : (k : Int) < (ndAt l j).tall) : nx l k g ≤ j := by
  induction hm : j - g generalizing g with
  | zero =>
    obtain rfl : g = j := by omega
    rw [nx_hit hj ht]; exact Nat.le_refl _
  | succ m ih =>
    by_cases hg : (k : Int) < (ndAt l g).tall
    · rw [nx_hit (by omega) hg]; exact h
    · rw [nx_skip (by omega) hg]; exact ih (by omega) (by omega)
end
/-- where a place of a node lies -/
def adr (N : Nat) (i : Nat) (f : Nat) : Nat := 18 + N + ((predN i).toNat - 1) * 9 + f
theorem predN_nat (i : Nat) : (predN i).toNat = if i = 0 then 1 else i + 2 := by
  unfold predN; split <;> omega
theorem adr_ne {N i j f f' : Nat} (hf : f < 9) (hf' : f' < 9) (h : i ≠ j ∨ f ≠ f') : adr N i f ≠ adr N j f' := by
  unfold adr
  rw [predN_nat, predN_nat]
  split <;> split <;> omega
theorem adr_lt {N i f : Nat} (hi : i + 2 ≤ N) (hf : f < 9) : adr N i f < 18 + 10 * N := by
  unfold adr
  rw [predN_nat]
  split <;> omega
theorem adr_node {N i f : Nat} (hi : i + 2 ≤ N) (hf : f < 9) : (cL (N : Int)).node (predN i) (f : Int) = (adr N i f : Int) := by
  have : 1 ≤ predN i ∧ predN i ≤ N := by unfold predN; split <;> omega
  rw [node_cL this.1 this.2 (by omega) (by omega)]
  unfold adr
  omega
/-- how many nodes are known to row k, while node i is laid up to row rr -/
def cnt (i rr k : Nat) : Nat := if k < rr then i + 1 else i
structure Part (W : List Int) (N : Nat) (l : List Nd) (i rr o : Nat) (L : List Int) : Prop where
  len : W.length = 18 + 10 * N
  u : ∀ x ∈ W, u64R x
  L4 : L.length = 4
  last : ∀ k : Nat, k < 4 → ∃ g : Nat, L.getD k 0 = predN g ∧ g ≤ cnt i rr k ∧ (g = 0 ∨ (k : Int) < (ndAt l (g - 1)).tall) ∧ ∀ j, g ≤ j → j < cnt i rr k → ¬ (k : Int) < (ndAt l j).tall
  link : ∀ k f : Nat, k < 4 → f ≤ l.length → (f = 0 ∨ (k : Int) < (ndAt l (f - 1)).tall) → nx l k f < cnt i rr k → W.getD (adr N f (5 + k)) 0 = wd l k f
  order : ∀ j : Nat, j < o → W.getD (adr N (j + 1) 0) 0 = (ndAt l j).key * 4294967296 + j
structure NdsOk (l : List Nd) (N : Nat) : Prop where
  few : l.length + 2 ≤ N
  n20 : N ≤ 20
  n3 : 3 ≤ N
  u64 : ∀ (i : Nat), i < l.length → (0 ≤ (ndAt l i).key ∧ (ndAt l i).key ≤ 4294967295) ∧ 1 ≤ (ndAt l i).tall ∧ (ndAt l i).tall ≤ 4
section
variable {W : List Int} {N : Nat} {l : List Nd} {i rr o : Nat} {L : List Int}
theorem mem_set_u {x y : Int} {a : Nat} (h : ∀ x ∈ W, u64R x) (hx : u64R x) (hy : y ∈ W.set a x) : u64R y := by
  rcases List.mem_or_eq_of_mem_set hy with h1 | h1
  · exact h y h1
  · rw [h1]; exact hx
/-- a place that is no link and no order number -/
theorem Part.other (h : Part W N l i rr o L) {f : Nat} (j : Nat) (hf : f = 1 ∨ f = 3) {x : Int} (hx : u64R x) : Part (W.set (adr N j f) x) N l i rr o L :=
  ⟨by rw [List.length_set]; exact h.len, fun y hy => mem_set_u h.u hx hy, h.L4, h.last, fun k f' h1 h2 h3 h4 => by rw [getD_set_ne' (adr_ne (by omega) (by omega) (.inr (by omega)))]; exact h.link k f' h1 h2 h3 h4,
    fun j' hj => by rw [getD_set_ne' (adr_ne (by omega) (by omega) (.inr (by omega)))]; exact h.order j' hj⟩
theorem Part.ord (h : Part W N l i rr o L) (hl : o + 3 ≤ N) {x : Int} (hx : u64R x) (hv : x = (ndAt l o).key * 4294967296 + o) : Part (W.set (adr N (o + 1) 0) x) N l i rr (o + 1) L :=
  ⟨by rw [List.length_set]; exact h.len, fun y hy => mem_set_u h.u hx hy, h.L4, h.last, fun k f' h1 h2 h3 h4 => by rw [getD_set_ne' (adr_ne (by omega) (by omega) (.inr (by omega)))]; exact h.link k f' h1 h2 h3 h4,
    fun j' hj => by
      by_cases hq : j' = o
      · subst hq; rw [getD_set_eq (by rw [h.len]; exact adr_lt (by omega) (by omega))]; exact hv
      · rw [getD_set_ne' (adr_ne (by omega) (by omega) (.inl (by omega)))]; exact h.order j' (by omega)⟩
/-- a link of node i in row rr -/
theorem Part.row (h : Part W N l i rr o L) (hk : NdsOk l N) (hi : i < l.length) (hr : rr < 4) (ht : (rr : Int) < (ndAt l i).tall) {g : Nat} (hg : L.getD rr 0 = predN g) {x : Int} (hx : u64R x) (hv : x = 2 * ((i : Int) + 3) + (if rr = 0 ∧ (ndAt l i).dead = true then 1 else 0)) :
    Part (W.set (adr N g (5 + rr)) x) N l i (rr + 1) o (L.set rr ((i : Int) + 3)) := by
  obtain ⟨g', e1, e2, e3, e4⟩ := h.last rr hr
  have hgg : g' = g := by
    have : predN g' = predN g := by rw [← e1, hg]
    unfold predN at this
    split at this <;> split at this <;> omega
  subst hgg
  have hci : cnt i rr rr = i := if_neg (by omega)
  rw [hci] at e2 e4
  have hfew := hk.few
  have hnx : nx l rr g' = i := nx_eq e2 hi ht e4
  have hwd : x = wd l rr g' := by
    unfold wd nodeN markN
    rw [hnx, if_pos hi, hv, decide_eq_true hi]
    by_cases h0 : rr = 0
    · subst h0
      cases hd : (ndAt l i).dead <;> simp
    · rw [decide_eq_false h0, if_neg (fun hh => h0 hh.1)]; simp
  refine ⟨by rw [List.length_set]; exact h.len, fun y hy => mem_set_u h.u hx hy, by rw [List.length_set]; exact h.L4, fun k h4 => ?_, fun k f h1 h2 h3 h4 => ?_, fun j hj => ?_⟩
  · by_cases hkr : k = rr
    · subst hkr
      refine ⟨i + 1, ?_, ?_, .inr (by rw [Nat.add_sub_cancel]; exact ht), fun j h1 h2 => ?_⟩
      · rw [getD_set_eq (by rw [h.L4]; exact hr)]; unfold predN; rw [if_neg (by omega)]; omega
      · unfold cnt; rw [if_pos (by omega)]; exact Nat.le_refl _
      · unfold cnt at h2; rw [if_pos (by omega)] at h2; omega
    · obtain ⟨g2, a1, a2, a3, a4⟩ := h.last k h4
      have hc : cnt i (rr + 1) k = cnt i rr k := by unfold cnt; split <;> split <;> omega
      rw [hc]
      exact ⟨g2, by rw [getD_set_ne' (by omega)]; exact a1, a2, a3, a4⟩
  · by_cases hkr : k = rr
    · subst hkr
      have hc : cnt i (k + 1) k = i + 1 := if_pos (by omega)
      rw [hc] at h4
      by_cases hfg : f = g'
      · subst hfg
        rw [getD_set_eq (by rw [h.len]; exact adr_lt (by omega) (by omega))]; exact hwd
      · rw [getD_set_ne' (adr_ne (by omega) (by omega) (.inl (Ne.symm hfg)))]
        refine h.link k f h1 h2 h3 ?_
        rw [hci]
        have hge := nx_ge (l := l) (k := k) f h2
        rcases Nat.lt_or_ge (nx l k f) i with hlt | hlt
        · exact hlt
        · exfalso
          have hni : nx l k f = i := by omega
          rcases Nat.lt_or_ge f g' with hf | hf
          · have hq : (k : Int) < (ndAt l (g' - 1)).tall := e3.resolve_left (by omega)
            have := nx_le (l := l) (k := k) (g := f) (j := g' - 1) (by omega) (by omega) hq
            omega
          · have hq : (k : Int) < (ndAt l (f - 1)).tall := h3.resolve_left (by omega)
            exact e4 (f - 1) (by omega) (by omega) hq
    · have hc : cnt i (rr + 1) k = cnt i rr k := by unfold cnt; split <;> split <;> omega
      rw [hc] at h4
      rw [getD_set_ne' (adr_ne (by omega) (by omega) (.inr (by omega)))]
      exact h.link k f h1 h2 h3 h4
  · rw [getD_set_ne' (adr_ne (by omega) (by omega) (.inr (by omega)))]; exact h.order j hj
/-- behind a node -/
theorem Part.next (h : Part W N l i rr o L) (hi : i < l.length) (ht : (rr : Int) = (ndAt l i).tall) : Part W N l (i + 1) 0 o L := by
  have hc : ∀ k, cnt (i + 1) 0 k = i + 1 := fun k => if_neg (by omega)
  refine ⟨h.len, h.u, h.L4, fun k h4 => ?_, fun k f h1 h2 h3 h4 => ?_, h.order⟩
  · obtain ⟨g, a1, a2, a3, a4⟩ := h.last k h4
    rw [hc]
    refine ⟨g, a1, ?_, a3, fun j h1 h2 => ?_⟩
    · unfold cnt at a2; split at a2 <;> omega
    · by_cases hj : j < cnt i rr k
      · exact a4 j h1 hj
      · have : j = i := by unfold cnt at hj; split at hj <;> omega
        subst this
        unfold cnt at hj
        split at hj <;> omega
  · rw [hc] at h4
    refine h.link k f h1 h2 h3 ?_
    have hge := nx_ge (l := l) (k := k) f h2
    unfold cnt
    split
    · exact h4
    · rcases Nat.lt_or_ge (nx l k f) i with hlt | hlt
      · exact hlt
      · have hni : nx l k f = i := by omega
        have := hge.2.2 (by omega)
        rw [hni] at this
        omega
/-- the last ones' links -/
theorem Part.tail (h : Part W N l l.length 0 o L) (hk : NdsOk l N) (kk : Nat) (hkk : kk < 4) (hdone : ∀ k f : Nat, k < kk → f ≤ l.length → (f = 0 ∨ (k : Int) < (ndAt l (f - 1)).tall) → W.getD (adr N f (5 + k)) 0 = wd l k f) {g : Nat} (hg : L.getD kk 0 = predN g) :
    Part (W.set (adr N g (5 + kk)) 4) N l l.length 0 o L ∧ ∀ k f : Nat, k < kk + 1 → f ≤ l.length → (f = 0 ∨ (k : Int) < (ndAt l (f - 1)).tall) → (W.set (adr N g (5 + kk)) 4).getD (adr N f (5 + k)) 0 = wd l k f := by
  obtain ⟨g', e1, e2, e3, e4⟩ := h.last kk hkk
  have hgg : g' = g := by
    have : predN g' = predN g := by rw [← e1, hg]
    unfold predN at this
    split at this <;> split at this <;> omega
  subst hgg
  have hc : ∀ k, cnt l.length 0 k = l.length := fun k => if_neg (by omega)
  rw [hc] at e2 e4
  have hfew := hk.few
  have hwd : (4 : Int) = wd l kk g' := by
    unfold wd nodeN markN
    rw [nx_none e2 e4, if_neg (Nat.lt_irrefl _), decide_eq_false (Nat.lt_irrefl _)]
    simp
  have huniq : ∀ f, f ≤ l.length → (f = 0 ∨ (kk : Int) < (ndAt l (f - 1)).tall) → ¬ nx l kk f < l.length → f = g' := fun f h1 h2 h3 => by
    rcases Nat.lt_trichotomy f g' with hf | hf | hf
    · have hq : (kk : Int) < (ndAt l (g' - 1)).tall := e3.resolve_left (by omega)
      have := nx_le (l := l) (k := kk) (g := f) (j := g' - 1) (by omega) (by omega) hq
      omega
    · exact hf
    · have hq : (kk : Int) < (ndAt l (f - 1)).tall := h2.resolve_left (by omega)
      exact absurd hq (e4 (f - 1) (by omega) (by omega))
  refine ⟨⟨by rw [List.length_set]; exact h.len, fun y hy => mem_set_u h.u ⟨by omega, by omega⟩ hy, h.L4, h.last, fun k f h1 h2 h3 h4 => ?_, fun j hj => by rw [getD_set_ne' (adr_ne (by omega) (by omega) (.inr (by omega)))]; exact h.order j hj⟩, fun k f h1 h2 h3 => ?_⟩
  · rw [hc] at h4
    by_cases hq : f = g' ∧ k = kk
    · obtain ⟨rfl, rfl⟩ := hq
      rw [nx_none e2 e4] at h4; omega
    · rw [getD_set_ne' (adr_ne (by omega) (by omega) (by omega))]
      exact h.link k f h1 h2 h3 (by rw [hc]; exact h4)
  · by_cases hq : f = g' ∧ k = kk
    · obtain ⟨rfl, rfl⟩ := hq
      rw [getD_set_eq (by rw [h.len]; exact adr_lt (by omega) (by omega))]; exact hwd
    · rw [getD_set_ne' (adr_ne (by omega) (by omega) (by omega))]
      by_cases hkq : k < kk
      · exact hdone k f hkq h2 h3
      · obtain rfl : k = kk := by omega
        refine h.link k f hkk h2 h3 ?_
        rw [hc]
        rcases Nat.lt_or_ge (nx l k f) l.length with hlt | hlt
        · exact hlt
        · exact absurd ⟨huniq f h2 h3 (by omega), rfl⟩ hq
theorem Part.lays (h : Part W N l l.length 0 l.length L) (hk : NdsOk l N) (hdone : ∀ k f : Nat, k < 4 → f ≤ l.length → (f = 0 ∨ (k : Int) < (ndAt l (f - 1)).tall) → W.getD (adr N f (5 + k)) 0 = wd l k f) : Lays W N l :=
  ⟨h.len, hk.few, hk.n20, hk.n3, fun k i h1 h2 h3 => hdone k i h1 h2 h3, fun i hi => by
    have := h.order i hi
    unfold adr at this
    rw [predN_nat, if_neg (by omega), show i + 1 + 2 - 1 = i + 2 by omega, Nat.add_zero] at this
    exact this, hk.u64⟩
end
end Go.Proofs.Ytbnbbafffihapaa

/- A machine as at first, on which nodes are laid. -/
namespace Go.Proofs.Ytbnbbafffihapaa
open Go.RowKit
attribute [local irreducible] Instr.loadAt Instr.storeAt Instr.fieldAt Instr.indexAt Instr.sliceAt Instr.buildSlice Instr.box Instr.alloc Builtin.append_ Builtin.len_ Builtin.min_ Builtin.max_ Calls Instr.build Instr.makeSlice binSem convert Instr.index Instr.range Instr.next
theorem and64 {P : Program} {K : Value → World → Prop} {w : World} {t : Nat} {y z : Operand} {x : Int} (m : Int) (hm : m = x % 2) (k : K (.int .i64 m) w) : RunP P (binSem .and t y z (.int .i64 x) (.int .i64 1)) K w :=
  rn _ _ (by
    have e : ((BitVec.ofInt 64 x &&& BitVec.ofInt 64 1).toNat : Int) = x % 2 := by
      rw [BitVec.toNat_and, BitVec.toNat_ofInt, BitVec.toNat_ofInt]
      rw [show ((1 : Int) % (2 ^ 64 : Nat)).toNat = 2 ^ 1 - 1 by decide, Nat.and_two_pow_sub_one_eq_mod]
      omega
    have e2 : IntKind.i64.wrap (x % 2) = x % 2 := IntWalk.i64_in _ (by omega)
    simp only [binSem, eqGuard, binOp, Op.intBits]
    show (Sem.pure (Value.int IntKind.i64 (IntKind.i64.wrap ((BitVec.ofInt 64 x &&& BitVec.ofInt 64 1).toNat : Int)))).run P w = _
    rw [e, e2, hm]
    rfl) k
def W0 (N : Nat) : List Int := (layS 2 1 (N : Int) 4 (newMS (sizeP 2 1 (N : Int) 4).toNat)).W
theorem W0_20 : (W0 20).length = 218 ∧ (∀ x ∈ W0 20, u64R x) ∧ (0 ≤ (layS 2 1 20 4 (newMS (sizeP 2 1 20 4).toNat)).k ∧ (layS 2 1 20 4 (newMS (sizeP 2 1 20 4).toNat)).k ≤ 1000) ∧ (layS 2 1 20 4 (newMS (sizeP 2 1 20 4).toNat)).on = false ∧ (layS 2 1 20 4 (newMS (sizeP 2 1 20 4).toNat)).L = [] := by decide +kernel
theorem W0_5 : (W0 5).length = 68 ∧ (∀ x ∈ W0 5, u64R x) ∧ (0 ≤ (layS 2 1 5 4 (newMS (sizeP 2 1 5 4).toNat)).k ∧ (layS 2 1 5 4 (newMS (sizeP 2 1 5 4).toNat)).k ≤ 1000) ∧ (layS 2 1 5 4 (newMS (sizeP 2 1 5 4).toNat)).on = false ∧ (layS 2 1 5 4 (newMS (sizeP 2 1 5 4).toNat)).L = [] := by decide +kernel
theorem lays_5 : Lays (W0 5) 5 [] :=
  ⟨W0_5.1, by decide, by decide, by decide, fun k i h1 h2 h3 => by
    obtain rfl : i = 0 := by simpa using h2
    rcases (show k = 0 ∨ k = 1 ∨ k = 2 ∨ k = 3 by omega) with rfl | rfl | rfl | rfl <;> rw [wd, nx_end (by simp)] <;> decide +kernel, fun i hi => by simp at hi, fun i hi => by simp at hi⟩
structure Fst (w w' : World) (X : Mc) (N : Nat) (k : Int) (t : PT) : Prop where
  new : New w w' X
  abs : X.abs = MM N (W0 N) k false t
  calm : X.s.on = false ∧ X.s.L = []
  fs : t.fs = []
  lens : t.P.length = 4 ∧ t.S.length = 4 ∧ t.W.length = 4
  k0 : 0 ≤ k ∧ k ≤ 1000
  wl : (W0 N).length = 18 + 10 * N
  wu : ∀ x ∈ W0 N, u64R x
set_option maxRecDepth 10000 in
theorem fst_c {N : Nat} (h : N = 20 ∨ N = 5) (w : World) : Fn Try.prog 18 #[.int .i64 1, .int .i64 (N : Int)] w fun r w' => ∃ X k t, r = ptrV X.m ∧ Fst w w' X N k t := by
  refine fn_enter Try.func18 rfl rfl ?_
  refine and64 1 (by decide) ?_
  refine ar64 (by omega) ?_
  refine mn2 ?_
  refine val (N : Int) (by rcases h with rfl | rfl <;> rfl) ?_
  refine mx2 ?_
  refine val (N : Int) (by rcases h with rfl | rfl <;> rfl) ?_
  refine bd (cf7 ⟨2, 1, (N : Int), 4, 1, 1, 1⟩) (fun _ => by kernel_rfl) ?_
  refine cl (core_new2 (draws := []) false (RdK.nil_ w .u8) (by decide)) ?_
  rintro _ w1 ⟨-, hyes⟩
  have hr : rightC ⟨2, 1, (N : Int), 4, 1, 1, 1⟩ := cL_right (N := N) (by omega) (by omega)
  obtain ⟨m, mp, mv, lv, fp, fv, gs, tv, ths, rfl, hN, hl, hz, hgs, -⟩ := hyes hr
  obtain rfl := hgs rfl
  obtain ⟨t0, rfl⟩ : ∃ t0, ths = [t0] := by
    cases ths with
    | nil => simp at hl
    | cons x r =>
      cases r with
      | nil => exact ⟨x, rfl⟩
      | cons y r => simp at hl; omega
  obtain ⟨g, pv, sv, wv, rfl⟩ := hz t0 (by simp)
  refine ⟨_, _, _, rfl, hN, rfl, ?_, rfl, ⟨by simp [absT, thZ], by simp [absT, thZ], by simp [absT, thZ]⟩, ?_, ?_, ?_⟩
  · rcases h with rfl | rfl
    · exact W0_20.2.2.2
    · exact W0_5.2.2.2
  · rcases h with rfl | rfl
    · exact W0_20.2.2.1
    · exact W0_5.2.2.1
  · rcases h with rfl | rfl
    · exact W0_20.1
    · exact W0_5.1
  · rcases h with rfl | rfl
    · exact W0_20.2.1
    · exact W0_5.2.1
end Go.Proofs.Ytbnbbafffihapaa

