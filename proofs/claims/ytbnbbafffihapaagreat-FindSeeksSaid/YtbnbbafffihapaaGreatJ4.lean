/- Joined: La Lb Lc Ld Le Lf Lg Lh Li Lj Lk. -/
import Derived.Test.YtbnbbafffihapaaGreatJ3
import Derived.Test.YtbnbbafffihapaaGreatV23
/- Locate: a thread's rows are written; where a seeker stands. -/
namespace Go.Proofs.YtbnbbafffihapaaGreat
open Go.RowKit
attribute [local irreducible] Instr.loadAt Instr.storeAt Instr.fieldAt Instr.indexAt Instr.sliceAt Instr.buildSlice Instr.box Instr.alloc Builtin.append_ Builtin.len_ Builtin.min_ Builtin.max_ Calls Instr.build Instr.makeSlice binSem convert Instr.index Instr.range Instr.next
section
variable {w w' : World} {X : Mc} {b : Int} {i : Nat} {t : Th} {fs : List Fr} {f : Fr} {fb fo fc : Nat}
theorem Mach.setP (h : Mach w X) (hi : X.ths[i]? = some t) (r : Nat) (hr : r < t.P.length) {g o c : Nat} (hv : t.pv = .slice (some ⟨g, o, none⟩) t.P.length c) (x : Int) {ty : Nat} [One Tryz.prog ty] {K : World → Prop}
    (k : ∀ w', Post w X w' { X with ths := X.ths.set i { t with P := t.P.set r x } } → K w') : RunU Tryz.prog (Instr.storeAt ty (.pointer (some ⟨g, o + r * 1, none⟩)) (.int .u64 x)) K w := by
  have hs : Sl w 24 1 t.pv t.P.length (t.P.map (.int .u64)) := Sep.at_ (i := 1) (x := obU t.pv t.P) (h.thr hi) rfl
  refine stS hs hv hr rfl fun w' hs' hu hz => k w' ?_
  have hs2 : Sl w' 24 1 t.pv (t.P.set r x).length ((t.P.set r x).map (.int .u64)) := by rw [List.length_set, List.map_set]; exact hs'
  have ht : To w t.pv.ownBlock.toList w' t.pv.ownBlock.toList := ⟨hu.mono (by rw [hv]; simp [Value.ownBlock]), fun k hk => .inl hk⟩
  exact h.setTh (t' := { t with P := t.P.set r x }) hi rfl (Sep.set (i := 1) (x := obU t.pv t.P) (y := obU t.pv (t.P.set r x)) (h.thr hi) rfl hs2 ht) (To.set (l := t.obs (i : Int)) (i := 1) (x := obU t.pv t.P) (y := obU t.pv (t.P.set r x)) rfl ht)
theorem TopI.setP {w0 : World} {X0 : Mc} (h : TopI w0 w X0 X i t fs f fb fo fc) (r : Nat) (hr : r < t.P.length) {g o c : Nat} (hv : t.pv = .slice (some ⟨g, o, none⟩) t.P.length c) (x : Int) {ty : Nat} [One Tryz.prog ty] {K : World → Prop}
    (k : ∀ w', TopI w0 w' X0 { X with ths := X.ths.set i { t with P := t.P.set r x } } i { t with P := t.P.set r x } fs f fb fo fc → K w') : RunU Tryz.prog (Instr.storeAt ty (.pointer (some ⟨g, o + r * 1, none⟩)) (.int .u64 x)) K w :=
  h.p.ok.setP h.i r hr hv x fun w' p => k w' ⟨h.p.trans p, h.k.trans (kin_set X h.i rfl), set_at h.i, h.f, h.v⟩
theorem Mach.setS (h : Mach w X) (hi : X.ths[i]? = some t) (r : Nat) (hr : r < t.S.length) {g o c : Nat} (hv : t.sv = .slice (some ⟨g, o, none⟩) t.S.length c) (x : Int) {ty : Nat} [One Tryz.prog ty] {K : World → Prop}
    (k : ∀ w', Post w X w' { X with ths := X.ths.set i { t with S := t.S.set r x } } → K w') : RunU Tryz.prog (Instr.storeAt ty (.pointer (some ⟨g, o + r * 1, none⟩)) (.int .u64 x)) K w := by
  have hs : Sl w 24 1 t.sv t.S.length (t.S.map (.int .u64)) := Sep.at_ (i := 2) (x := obU t.sv t.S) (h.thr hi) rfl
  refine stS hs hv hr rfl fun w' hs' hu hz => k w' ?_
  have hs2 : Sl w' 24 1 t.sv (t.S.set r x).length ((t.S.set r x).map (.int .u64)) := by rw [List.length_set, List.map_set]; exact hs'
  have ht : To w t.sv.ownBlock.toList w' t.sv.ownBlock.toList := ⟨hu.mono (by rw [hv]; simp [Value.ownBlock]), fun k hk => .inl hk⟩
  exact h.setTh (t' := { t with S := t.S.set r x }) hi rfl (Sep.set (i := 2) (x := obU t.sv t.S) (y := obU t.sv (t.S.set r x)) (h.thr hi) rfl hs2 ht) (To.set (l := t.obs (i : Int)) (i := 2) (x := obU t.sv t.S) (y := obU t.sv (t.S.set r x)) rfl ht)
theorem TopI.setS {w0 : World} {X0 : Mc} (h : TopI w0 w X0 X i t fs f fb fo fc) (r : Nat) (hr : r < t.S.length) {g o c : Nat} (hv : t.sv = .slice (some ⟨g, o, none⟩) t.S.length c) (x : Int) {ty : Nat} [One Tryz.prog ty] {K : World → Prop}
    (k : ∀ w', TopI w0 w' X0 { X with ths := X.ths.set i { t with S := t.S.set r x } } i { t with S := t.S.set r x } fs f fb fo fc → K w') : RunU Tryz.prog (Instr.storeAt ty (.pointer (some ⟨g, o + r * 1, none⟩)) (.int .u64 x)) K w :=
  h.p.ok.setS h.i r hr hv x fun w' p => k w' ⟨h.p.trans p, h.k.trans (kin_set X h.i rfl), set_at h.i, h.f, h.v⟩
theorem Mach.setW (h : Mach w X) (hi : X.ths[i]? = some t) (r : Nat) (hr : r < t.W.length) {g o c : Nat} (hv : t.wv = .slice (some ⟨g, o, none⟩) t.W.length c) (x : Int) {ty : Nat} [One Tryz.prog ty] {K : World → Prop}
    (k : ∀ w', Post w X w' { X with ths := X.ths.set i { t with W := t.W.set r x } } → K w') : RunU Tryz.prog (Instr.storeAt ty (.pointer (some ⟨g, o + r * 1, none⟩)) (.int .u64 x)) K w := by
  have hs : Sl w 24 1 t.wv t.W.length (t.W.map (.int .u64)) := Sep.at_ (i := 3) (x := obU t.wv t.W) (h.thr hi) rfl
  refine stS hs hv hr rfl fun w' hs' hu hz => k w' ?_
  have hs2 : Sl w' 24 1 t.wv (t.W.set r x).length ((t.W.set r x).map (.int .u64)) := by rw [List.length_set, List.map_set]; exact hs'
  have ht : To w t.wv.ownBlock.toList w' t.wv.ownBlock.toList := ⟨hu.mono (by rw [hv]; simp [Value.ownBlock]), fun k hk => .inl hk⟩
  exact h.setTh (t' := { t with W := t.W.set r x }) hi rfl (Sep.set (i := 3) (x := obU t.wv t.W) (y := obU t.wv (t.W.set r x)) (h.thr hi) rfl hs2 ht) (To.set (l := t.obs (i : Int)) (i := 3) (x := obU t.wv t.W) (y := obU t.wv (t.W.set r x)) rfl ht)
theorem TopI.setW {w0 : World} {X0 : Mc} (h : TopI w0 w X0 X i t fs f fb fo fc) (r : Nat) (hr : r < t.W.length) {g o c : Nat} (hv : t.wv = .slice (some ⟨g, o, none⟩) t.W.length c) (x : Int) {ty : Nat} [One Tryz.prog ty] {K : World → Prop}
    (k : ∀ w', TopI w0 w' X0 { X with ths := X.ths.set i { t with W := t.W.set r x } } i { t with W := t.W.set r x } fs f fb fo fc → K w') : RunU Tryz.prog (Instr.storeAt ty (.pointer (some ⟨g, o + r * 1, none⟩)) (.int .u64 x)) K w :=
  h.p.ok.setW h.i r hr hv x fun w' p => k w' ⟨h.p.trans p, h.k.trans (kin_set X h.i rfl), set_at h.i, h.f, h.v⟩
theorem Mach.pv_ (h : Mach w X) (hi : X.ths[i]? = some t) : Sl w 24 1 t.pv t.P.length (t.P.map (.int .u64)) := Sep.at_ (i := 1) (x := obU t.pv t.P) (h.thr hi) rfl
theorem Mach.sv_ (h : Mach w X) (hi : X.ths[i]? = some t) : Sl w 24 1 t.sv t.S.length (t.S.map (.int .u64)) := Sep.at_ (i := 2) (x := obU t.sv t.S) (h.thr hi) rfl
theorem Mach.wv_ (h : Mach w X) (hi : X.ths[i]? = some t) : Sl w 24 1 t.wv t.W.length (t.W.map (.int .u64)) := Sep.at_ (i := 3) (x := obU t.wv t.W) (h.thr hi) rfl
end
def Cf.node (c : Cf) (n f : Int) : Int := nodeA c.A c.T c.N c.L n f
theorem node_a2 {c : Cf} (hr : rightC c) (n f : Int) (w : World) : Fn Tryz.prog 13 #[.agg (planC c), .int .i64 n, .int .i64 f] w fun r w' => r = .int .i64 (c.node n f) ∧ Upd [] w w' := by
  obtain ⟨A, T, N, L, B, P, S⟩ := c
  exact node_a hr n f w
def markW (x : Int) : Bool := decide (x % 2 = 1)
/-- a frame lies there -/
def FrAt (w : World) (fb fq : Nat) (f : Fr) : Prop := ∀ j, j < 12 → w.cell? ⟨fb, fq + j, none⟩ = (frC f)[j]?
theorem FrAt.reg {w : World} {fb fq : Nat} {f : Fr} (h : FrAt w fb fq f) (k : Nat) (hk : k < 10) : w.cell? ⟨fb, fq + 2 + k * 1, none⟩ = some (.int .u64 (f.R.getD k 0)) := by
  rw [show fq + 2 + k * 1 = fq + (2 + k) by omega, h (2 + k) (by omega), frC_R0 f k hk]
theorem TopI.fr {w w0 : World} {X X0 : Mc} {i : Nat} {t : Th} {fs : List Fr} {f : Fr} {fb fo fc : Nat} (h : TopI w0 w X0 X i t fs f fb fo fc) : FrAt w fb (fo + fs.length * 12) f := fun j hj => h.at_ j hj
/-- a seeker's cells -/
def spC (m g fb fq : Nat) : Array Value := #[ptrV m, ptrV g, .pointer (some ⟨fb, fq, none⟩)]
section
variable {w : World} {fb fq : Nat} {f : Fr}
theorem FrAt.lt (h : FrAt w fb fq f) : fb < w.heap.size := World.block_lt_of_cell? w _ (h 0 (by omega))
theorem FrAt.upd {S : List Nat} {w' : World} (h : FrAt w fb fq f) (hu : Upd S w w') (hS : fb ∉ S) : FrAt w' fb fq f := fun j hj => by rw [hu.cell h.lt hS]; exact h j hj
theorem FrAt.upd0 {w' : World} (h : FrAt w fb fq f) (hu : Upd [] w w') : FrAt w' fb fq f := h.upd hu (by simp)
end
end Go.Proofs.YtbnbbafffihapaaGreat

/- Locate: a row ends; the next node. -/
namespace Go.Proofs.YtbnbbafffihapaaGreat
open Go.RowKit
attribute [local irreducible] Instr.loadAt Instr.storeAt Instr.fieldAt Instr.indexAt Instr.sliceAt Instr.buildSlice Instr.box Instr.alloc Builtin.append_ Builtin.len_ Builtin.min_ Builtin.max_ Calls Instr.build Instr.makeSlice binSem convert Instr.index Instr.range Instr.next
section
variable {w w' : World} {X : Mc}
theorem Aside.new {T : Nat} {cs : Array Value} (h : Mach w X) (hb : Blk w' w.heap.size T cs) : Aside w' X w.heap.size T cs := ⟨hb, fun hm => Nat.lt_irrefl _ (h.lt _ hm)⟩
def lcPass (p : PS) (i : Nat) (t : PT) (fs : List Fr) (f : Fr) : PS := p.put i (topped t fs ⟨f.fn, 1, regI f.R 3 (ptrW (f.R.getD 4 0))⟩)
def lcSettle (p : PS) (i : Nat) (t : PT) (fs : List Fr) (f : Fr) (r : Nat) : PS :=
  if r = 0 then p.put i { t with P := t.P.set r (f.R.getD 3 0), W := t.W.set r (f.R.getD 4 0), S := t.S.set r (ptrW (f.R.getD 4 0)), fs := fs, r := (f.R.getD 5 0, 0, 0) }
  else p.put i { t with P := t.P.set r (f.R.getD 3 0), W := t.W.set r (f.R.getD 4 0), S := t.S.set r (ptrW (f.R.getD 4 0)), fs := fs ++ [⟨f.fn, 1, regI f.R 2 ((r : Int) - 1)⟩] }
theorem toI_small {r : Nat} (h : r < 1000) : toI (r : Int) = r := IntWalk.i64_in _ (by omega)
end
end Go.Proofs.YtbnbbafffihapaaGreat

/- Locate: the seeker begins, judges. -/
namespace Go.Proofs.YtbnbbafffihapaaGreat
open Go.RowKit
attribute [local irreducible] Instr.loadAt Instr.storeAt Instr.fieldAt Instr.indexAt Instr.sliceAt Instr.buildSlice Instr.box Instr.alloc Builtin.append_ Builtin.len_ Builtin.min_ Builtin.max_ Calls Instr.build Instr.makeSlice binSem convert Instr.index Instr.range Instr.next
theorem regI_u64 {R : List Int} {k : Nat} {x : Int} (h : ∀ j, u64R (R.getD j 0)) (hx : u64R x) : ∀ j, u64R ((regI R k x).getD j 0) := fun j => by
  rcases Nat.lt_or_ge j 10 with hj | hj
  · rw [regI_at _ _ _ _ hj]
    split
    · exact hx
    · exact h j
  · have : (regI R k x).getD j 0 = 0 := by simp [regI, List.getD, hj]
    rw [this]; unfold u64R; omega
theorem and1 {P : Program} {K : Value → World → Prop} {w : World} {t : Nat} {y z : Operand} {x : Int} (hx : u64R x) (k : K (.int .u64 (x % 2)) w) : RunP P (binSem .and t y z (.int .u64 x) (.int .u64 1)) K w := by
  obtain ⟨n, rfl⟩ := Int.eq_ofNat_of_zero_le hx.1
  have h1 := hx.2
  have h2 : n < 18446744073709551616 := by omega
  exact rn _ _ (by
    have e : ((BitVec.ofInt 64 (n : Int) &&& BitVec.ofInt 64 1).toNat) = n % 2 := by
      rw [BitVec.toNat_and, BitVec.toNat_ofInt, BitVec.toNat_ofInt]
      rw [show ((n : Int) % (2 ^ 64 : Nat)).toNat = n by omega, show ((1 : Int) % (2 ^ 64 : Nat)).toNat = 2 ^ 1 - 1 by decide, Nat.and_two_pow_sub_one_eq_mod]
    have e2 : IntKind.u64.wrap ((n % 2 : Nat) : Int) = ((n % 2 : Nat) : Int) := by rw [IntKind.wrap_u64, Int.emod_eq_of_lt (by omega) (by omega)]
    simp only [binSem, eqGuard, binOp, Op.intBits]
    show (Sem.pure (Value.int IntKind.u64 (IntKind.u64.wrap ((BitVec.ofInt 64 (n : Int) &&& BitVec.ofInt 64 1).toNat : Int)))).run P w = _
    rw [e, e2]
    rfl) (by simpa using k)
theorem wmark_c {x : Int} (hx : u64R x) (w : World) : Fn Tryz.prog 42 #[.int .u64 x] w fun r w' => r = .bool (markW x) ∧ w' = w := by
  refine fn_enter Tryz.func42 rfl rfl ?_
  refine and1 hx ?_
  exact ⟨rfl, rfl⟩
section
variable {w w' : World} {X : Mc} {b : Int} {i : Nat} {t : Th} {fs : List Fr} {f : Fr} {fb fo fc : Nat}
def lcBegin (p : PS) (i : Nat) (t : PT) (fs : List Fr) (f : Fr) : PS := (p.load 1).put i (topped t fs ⟨f.fn, 1, regI (regI (regI (regI f.R 1 (p.ldv 1)) 3 1) 5 0) 2 (p.c.L - 1)⟩)
def lcJudge (p : PS) (i : Nat) (t : PT) (fs : List Fr) (f : Fr) (r : Nat) : PS :=
  if p.ldv 1 ≠ f.R.getD 1 0 then (p.load 1).put i (topped t fs { f with pc := 0 })
  else if r = 0 ∧ markW (f.R.getD 4 0) = true then lcPass (p.load 1) i t fs { f with R := regI f.R 5 (ptrW (f.R.getD 4 0)) }
  else (p.load 1).put i (topped t fs { f with pc := if r = 0 then 6 else 5 })
/-- one cell of the top frame is written; the machine by its own name -/
theorem TopI.stq {w0 : World} {X0 : Mc} {ty : Nat} [One Tryz.prog ty] {K : World → Prop} (h : TopI w0 w X0 X i t fs f fb fo fc) {f' : Fr} (j : Nat) (hj : j < 12) {a : Nat} (ha : a = fo + fs.length * 12 + j) {u : Value} (hu : u.oneCell' = true)
    (hf : frC f' = (frC f).set j u) (k : ∀ w' Y, TopI w0 w' X0 Y i { t with fs := fs ++ [f'] } fs f' fb fo fc → Y.abs = X.abs.put i (topped (absT t) fs f') → Y.m = X.m → Y.c = X.c → K w') : RunU Tryz.prog (Instr.storeAt ty (.pointer (some ⟨fb, a, none⟩)) u) K w :=
  h.st j hj ha hu hf fun w' J => k w' _ J (abs_set X i _) rfl rfl
end
end Go.Proofs.YtbnbbafffihapaaGreat

/- Locate: a bit of the routine. -/
namespace Go.Proofs.YtbnbbafffihapaaGreat
open Go.RowKit
attribute [local irreducible] Instr.loadAt Instr.storeAt Instr.fieldAt Instr.indexAt Instr.sliceAt Instr.buildSlice Instr.box Instr.alloc Builtin.append_ Builtin.len_ Builtin.min_ Builtin.max_ Calls Instr.build Instr.makeSlice binSem convert Instr.index Instr.range Instr.next
def lcDo (p : PS) (i : Nat) (t : PT) (fs : List Fr) (f : Fr) (r : Nat) : PS :=
  if f.pc = 0 then lcBegin p i t fs f
  else if f.pc = 1 then (p.store (p.c.haz i (2 * (r : Int))) (f.R.getD 3 0)).put i (topped t fs { f with pc := 2 })
  else if f.pc = 2 then
    (if ptrW (p.ldv (p.c.node (toI (f.R.getD 3 0)) (5 + (r : Int)))) = 2 then lcSettle (p.load (p.c.node (toI (f.R.getD 3 0)) (5 + (r : Int)))) i t fs ⟨f.fn, 3, regI f.R 4 (p.ldv (p.c.node (toI (f.R.getD 3 0)) (5 + (r : Int))))⟩ r
     else (p.load (p.c.node (toI (f.R.getD 3 0)) (5 + (r : Int)))).put i (topped t fs ⟨f.fn, 3, regI f.R 4 (p.ldv (p.c.node (toI (f.R.getD 3 0)) (5 + (r : Int))))⟩))
  else if f.pc = 3 then (p.store (p.c.haz i (2 * (r : Int) + 1)) (ptrW (f.R.getD 4 0))).put i (topped t fs { f with pc := 4 })
  else if f.pc = 4 then lcJudge p i t fs f r
  else if f.pc = 5 then
    (if markW (p.ldv (p.c.node (toI (ptrW (f.R.getD 4 0))) 5)) = true then lcPass (p.load (p.c.node (toI (ptrW (f.R.getD 4 0))) 5)) i t fs { f with pc := 6 }
     else (p.load (p.c.node (toI (ptrW (f.R.getD 4 0))) 5)).put i (topped t fs { f with pc := 6 }))
  else if p.ldv (p.c.node (toI (ptrW (f.R.getD 4 0))) 0) < f.R.getD 0 0 then lcPass (p.load (p.c.node (toI (ptrW (f.R.getD 4 0))) 0)) i t fs f
  else lcSettle (p.load (p.c.node (toI (ptrW (f.R.getD 4 0))) 0)) i t fs f r
theorem put_store (p : PS) (i : Nat) (t : PT) (a x : Int) : (p.put i t).store a x = (p.store a x).put i t := rfl
end Go.Proofs.YtbnbbafffihapaaGreat

/- Locate: its Do; a step with it. -/
namespace Go.Proofs.YtbnbbafffihapaaGreat
open Go.RowKit
attribute [local irreducible] Instr.loadAt Instr.storeAt Instr.fieldAt Instr.indexAt Instr.sliceAt Instr.buildSlice Instr.box Instr.alloc Builtin.append_ Builtin.len_ Builtin.min_ Builtin.max_ Calls Instr.build Instr.makeSlice binSem convert Instr.index Instr.range Instr.next
structure LcOk (p : PS) (t : PT) (f : Fr) (r : Nat) : Prop where
  fn : f.fn = 30
  R : ∀ j, u64R (f.R.getD j 0)
  r2 : f.pc ≠ 0 → f.R.getD 2 0 = (r : Int)
  r4 : r < 4
  P : t.P.length = 4
  S : t.S.length = 4
  W : t.W.length = 4
  L : 1 ≤ p.c.L ∧ p.c.L ≤ 6
/-- the rounds of one step of thread i -/
def RndL (i : Nat) : Nat → PS → PS → Prop
  | 0, p, q => p = q ∧ (q.acted = true ∨ topL q i = 0) ∧ topL q i ≤ 90000
  | n + 1, p, q => p.acted = false ∧ ∃ t fs f r, p.ths[i]? = some t ∧ t.fs = fs ++ [f] ∧ fs.length ≤ 90000 ∧ LcOk p t f r ∧ p.Ok 900000 ∧ RndL i n (lcDo p i t fs f r) q
end Go.Proofs.YtbnbbafffihapaaGreat

/- Locate: the plain law of a search. -/
namespace Go.Proofs.YtbnbbafffihapaaGreat
open Go.RowKit
attribute [local irreducible] Instr.loadAt Instr.storeAt Instr.fieldAt Instr.indexAt Instr.sliceAt Instr.buildSlice Instr.box Instr.alloc Builtin.append_ Builtin.len_ Builtin.min_ Builtin.max_ Calls Instr.build Instr.makeSlice binSem convert Instr.index Instr.range Instr.next
structure Nd where
  (key val tall : Int)
  dead : Bool
instance : Inhabited Nd := ⟨⟨0, 0, 0, false⟩⟩
abbrev ndAt (l : List Nd) (i : Nat) : Nd := l.getD i ⟨0, 0, 0, false⟩
/-- the first node from i on that is so tall -/
def nx (l : List Nd) (k : Nat) (i : Nat) : Nat :=
  if h : i < l.length then (if (k : Int) < (ndAt l i).tall then i else nx l k (i + 1)) else l.length
termination_by l.length - i
theorem nx_hit {l : List Nd} {k i : Nat} (h : i < l.length) (ht : (k : Int) < (ndAt l i).tall) : nx l k i = i := by rw [nx, dif_pos h, if_pos ht]
theorem nx_skip {l : List Nd} {k i : Nat} (h : i < l.length) (ht : ¬ (k : Int) < (ndAt l i).tall) : nx l k i = nx l k (i + 1) := by rw [nx, dif_pos h, if_neg ht]
theorem nx_end {l : List Nd} {k i : Nat} (h : ¬ i < l.length) : nx l k i = l.length := by rw [nx, dif_neg h]
theorem nx_ge {l : List Nd} {k : Nat} : ∀ (i : Nat), i ≤ l.length → i ≤ nx l k i ∧ nx l k i ≤ l.length ∧ (nx l k i < l.length → (k : Int) < (ndAt l (nx l k i)).tall) := by
  intro i
  induction hm : l.length - i generalizing i with
  | zero =>
    intro hi
    rw [nx_end (by omega)]
    exact ⟨by omega, by omega, fun h => by omega⟩
  | succ m ih =>
    intro hi
    have hlt : i < l.length := by omega
    by_cases ht : (k : Int) < (ndAt l i).tall
    · rw [nx_hit hlt ht]; exact ⟨by omega, by omega, fun _ => ht⟩
    · rw [nx_skip hlt ht]
      have := ih (i + 1) (by omega) (by omega)
      exact ⟨by omega, this.2.1, this.2.2⟩
def past (l : List Nd) (n : Int) (k i : Nat) : Bool :=
  if k = 0 ∧ (ndAt l i).dead = true then true
  else if 0 < k ∧ i + 1 < l.length ∧ (ndAt l (i + 1)).dead = true then true
  else decide ((ndAt l i).key * 4294967296 + i < n)
/-- where a row ends: behind the last one that is passed; and the last one that is dead -/
def go (l : List Nd) (n : Int) (k : Nat) (i : Nat) (d : Int) : Nat × Int :=
  if h : nx l k i < l.length ∧ i ≤ l.length then
    (if past l n k (nx l k i) then go l n k (nx l k i + 1) (if k = 0 ∧ (ndAt l (nx l k i)).dead = true then (nx l k i : Int) + 3 else d) else (i, d))
  else (i, d)
termination_by l.length - i
decreasing_by
  have := (nx_ge (l := l) (k := k) i h.2).1
  omega
theorem go_pass {l : List Nd} {n : Int} {k i : Nat} {d : Int} (h : nx l k i < l.length) (hi : i ≤ l.length) (hp : past l n k (nx l k i) = true) : go l n k i d = go l n k (nx l k i + 1) (if k = 0 ∧ (ndAt l (nx l k i)).dead = true then (nx l k i : Int) + 3 else d) := by
  rw [go, dif_pos ⟨h, hi⟩, if_pos hp]
theorem go_stop {l : List Nd} {n : Int} {k i : Nat} {d : Int} (h : nx l k i < l.length → past l n k (nx l k i) = false) : go l n k i d = (i, d) := by
  rw [go]
  split
  · rename_i hq; rw [h hq.1]; simp
  · rfl
/-- where the rows end -/
def rowEnd (l : List Nd) (n : Int) : Nat → Nat × Int
  | 0 => (0, 0)
  | m + 1 => go l n (3 - m) (rowEnd l n m).1 0
/-- row k's end: rows 3, 2, 1, 0 in this order -/
def endK (l : List Nd) (n : Int) (k : Nat) : Nat × Int := rowEnd l n (4 - k)
theorem endK_step {l : List Nd} {n : Int} {k : Nat} (h : k < 3) : endK l n k = go l n k (endK l n (k + 1)).1 0 := by
  unfold endK
  rw [show 4 - k = (3 - k) + 1 by omega, rowEnd, show 3 - (3 - k) = k by omega, show 4 - (k + 1) = 3 - k by omega]
theorem endK_top {l : List Nd} {n : Int} : endK l n 3 = go l n 3 0 0 := rfl
def predN (i : Nat) : Int := if i = 0 then 1 else (i : Int) + 2
def nodeN (l : List Nd) (j : Nat) : Int := if j < l.length then (j : Int) + 3 else 2
def markN (l : List Nd) (k j : Nat) : Bool := decide (k = 0) && decide (j < l.length) && (ndAt l j).dead
def wd (l : List Nd) (k i : Nat) : Int := 2 * nodeN l (nx l k i) + (if markN l k (nx l k i) then 1 else 0)
theorem wd_ptr (l : List Nd) (hl : l.length ≤ 100) (k i : Nat) : ptrW (wd l k i) = nodeN l (nx l k i) ∧ markW (wd l k i) = markN l k (nx l k i) ∧ u64R (wd l k i) := by
  have hb : 2 ≤ nodeN l (nx l k i) ∧ nodeN l (nx l k i) ≤ 103 := by unfold nodeN; split <;> omega
  unfold wd ptrW markW
  cases markN l k (nx l k i) with
  | true => exact ⟨by simp <;> omega, by simp <;> omega, by simp <;> omega⟩
  | false => exact ⟨by simp <;> omega, by simp <;> omega, by simp <;> omega⟩
/-- the machine's configuration -/
def cL (N : Int) : Cf := ⟨2, 1, N, 4, 1, 1, 1⟩
theorem node_cL {N n f : Int} (h1 : 1 ≤ n) (h2 : n ≤ N) (h3 : 0 ≤ f) (h4 : f ≤ 8) : (cL N).node n f = 18 + N + (n - 1) * 9 + f := by
  unfold Cf.node cL nodeA
  rw [show widthP 2 4 = 9 from rfl, if_pos ⟨⟨h1, h2⟩, h3, by omega⟩]
  show linksP 2 1 4 + N + _ + f = _
  rw [show linksP 2 1 4 = 18 from rfl]
theorem haz_cL {N k : Int} (h1 : 0 ≤ k) (h2 : k ≤ 9) : (cL N).haz 0 k = 8 + k := by
  show hazA 2 1 4 0 k = _
  unfold hazA
  rw [show slotsP 2 4 = 10 from rfl, if_pos (by omega)]
  omega
/-- nodes that are laid -/
structure Lays (W : List Int) (N : Nat) (l : List Nd) : Prop where
  len : W.length = 18 + 10 * N
  few : l.length + 2 ≤ N
  n20 : N ≤ 20
  n3 : 3 ≤ N
  link : ∀ (k i : Nat), k < 4 → i ≤ l.length → (i = 0 ∨ (k : Int) < (ndAt l (i - 1)).tall) → W.getD (18 + N + ((predN i).toNat - 1) * 9 + (5 + k)) 0 = wd l k i
  order : ∀ (i : Nat), i < l.length → W.getD (18 + N + (i + 2) * 9) 0 = (ndAt l i).key * 4294967296 + i
  u64 : ∀ (i : Nat), i < l.length → (0 ≤ (ndAt l i).key ∧ (ndAt l i).key ≤ 4294967295) ∧ 1 ≤ (ndAt l i).tall ∧ (ndAt l i).tall ≤ 4
/-- how a memory differs from another: in its slots and its epoch -/
def SameW (W W0 : List Int) : Prop := W.length = W0.length ∧ ∀ a, a ≠ 1 → ¬ (8 ≤ a ∧ a < 18) → W.getD a 0 = W0.getD a 0
theorem SameW.refl (W : List Int) : SameW W W := ⟨rfl, fun _ _ _ => rfl⟩
theorem SameW.slot {W W0 : List Int} (h : SameW W W0) {a : Nat} (ha : 8 ≤ a ∧ a < 18) (x : Int) : SameW (W.set a x) W0 := ⟨by rw [List.length_set]; exact h.1, fun b h1 h2 => by
  rw [← h.2 b h1 h2]
  simp only [List.getD]
  rw [List.getElem?_set_ne (by omega)]⟩
theorem Lays.same {W W0 : List Int} {N : Nat} {l : List Nd} (h : Lays W0 N l) (hs : SameW W W0) : Lays W N l :=
  ⟨by rw [hs.1]; exact h.len, h.few, h.n20, h.n3, fun k i h1 h2 h3 => by rw [hs.2 _ (by omega) (by omega)]; exact h.link k i h1 h2 h3, fun i hi => by rw [hs.2 _ (by omega) (by omega)]; exact h.order i hi, h.u64⟩
end Go.Proofs.YtbnbbafffihapaaGreat

/- Locate: the invariant of a search, and a step of it (plain). -/
namespace Go.Proofs.YtbnbbafffihapaaGreat
open Go.RowKit
attribute [local irreducible] Instr.loadAt Instr.storeAt Instr.fieldAt Instr.indexAt Instr.sliceAt Instr.buildSlice Instr.box Instr.alloc Builtin.append_ Builtin.len_ Builtin.min_ Builtin.max_ Calls Instr.build Instr.makeSlice binSem convert Instr.index Instr.range Instr.next
/-- a machine of one thread, with no ghosts -/
def MM (N : Nat) (W : List Int) (k : Int) (a : Bool) (t : PT) : PS := ⟨cL N, W, k, none, a, false, [t]⟩
section
variable {N : Nat} {W : List Int} {k : Int} {a : Bool} {t t' : PT}
theorem MM_ok {x : Nat} (h : x < W.length) : (MM N W k a t).okP (x : Int) := ⟨by omega, by show (x : Int) < (W.length : Int); omega⟩
theorem MM_ldv {x : Nat} (h : x < W.length) : (MM N W k a t).ldv (x : Int) = W.getD x 0 := by
  unfold PS.ldv PS.rd
  rw [if_pos (MM_ok h)]; rfl
theorem MM_load {x : Nat} (h : x < W.length) : (MM N W k a t).load (x : Int) = MM N W (k + 1) true t := by
  unfold PS.load
  rw [if_pos (MM_ok h), decide_eq_true (MM_ok h)]; rfl
theorem MM_store {x : Nat} (h : x < W.length) (v : Int) : (MM N W k a t).store (x : Int) v = MM N (W.set x v) (k + 1) true t := by
  unfold PS.store
  rw [if_pos (MM_ok h), if_pos (MM_ok h), decide_eq_true (MM_ok h)]; rfl
theorem MM_put : (MM N W k a t).put 0 t' = MM N W k a t' := rfl
end
theorem getD_set_eq {W : List Int} {x : Nat} (h : x < W.length) (v : Int) : (W.set x v).getD x 0 = v := by simp [List.getD, h]
theorem getD_set_ne' {W : List Int} {x y : Nat} (h : x ≠ y) (v : Int) : (W.set x v).getD y 0 = W.getD y 0 := by simp [List.getD, List.getElem?_set_ne h]
structure Sett (l : List Nd) (n : Int) (W : List Int) (t : PT) (k : Nat) : Prop where
  p : t.P.getD k 0 = predN (endK l n k).1
  s : t.S.getD k 0 = nodeN l (nx l k (endK l n k).1)
  w : t.W.getD k 0 = wd l k (endK l n k).1
  h0 : W.getD (8 + 2 * k) 0 = predN (endK l n k).1
  h1 : nodeN l (nx l k (endK l n k).1) ≠ 2 → W.getD (8 + 2 * k + 1) 0 = nodeN l (nx l k (endK l n k).1)
theorem Sett.of {l : List Nd} {n : Int} {W W' : List Int} {t t' : PT} {k : Nat} (h : Sett l n W t k) (hP : t'.P.getD k 0 = t.P.getD k 0) (hS : t'.S.getD k 0 = t.S.getD k 0) (hW : t'.W.getD k 0 = t.W.getD k 0) (h0 : W'.getD (8 + 2 * k) 0 = W.getD (8 + 2 * k) 0) (h1 : W'.getD (8 + 2 * k + 1) 0 = W.getD (8 + 2 * k + 1) 0) : Sett l n W' t' k :=
  ⟨by rw [hP]; exact h.p, by rw [hS]; exact h.s, by rw [hW]; exact h.w, by rw [h0]; exact h.h0, fun hq => by rw [h1]; exact h.h1 hq⟩
/-- the thread's search, once begun -/
structure Run (l : List Nd) (n : Int) (W : List Int) (e : Int) (t : PT) (R : List Int) (pc : Int) (r f1 : Nat) (d : Int) (st : Bool) : Prop where
  r2 : R.getD 2 0 = (r : Int)
  r3 : R.getD 3 0 = predN f1
  le : f1 ≤ l.length
  tall : f1 = 0 ∨ (r : Int) < (ndAt l (f1 - 1)).tall
  hgo : go l n r f1 d = endK l n r
  r5 : R.getD 5 0 = d
  d0 : 0 < r → d = 0
  ep : st = false → R.getD 1 0 = e
  done : ∀ k, r < k → k < 4 → Sett l n W t k
  p2 : 2 ≤ pc → W.getD (8 + 2 * r) 0 = predN f1
  p3 : 3 ≤ pc → R.getD 4 0 = wd l r f1 ∧ nx l r f1 < l.length
  p4 : 4 ≤ pc → W.getD (8 + 2 * r + 1) 0 = nodeN l (nx l r f1)
  p5 : pc = 5 → 0 < r
  p6 : pc = 6 → (r = 0 → (ndAt l (nx l r f1)).dead = false) ∧ (0 < r → nx l r f1 + 1 < l.length → (ndAt l (nx l r f1 + 1)).dead = false)
structure Bas (l : List Nd) (n : Int) (N : Nat) (W0 : List Int) (e : Int) (W : List Int) (t : PT) : Prop where
  lays : Lays W0 N l
  same : SameW W W0
  u : ∀ x ∈ W, u64R x
  ep : W.getD 1 0 = e
  lens : t.P.length = 4 ∧ t.S.length = 4 ∧ t.W.length = 4
theorem Bas.of {l : List Nd} {n : Int} {N : Nat} {W0 : List Int} {e : Int} {W : List Int} {t t' : PT} (h : Bas l n N W0 e W t) (h1 : t'.P.length = t.P.length) (h2 : t'.S.length = t.S.length) (h3 : t'.W.length = t.W.length) : Bas l n N W0 e W t' :=
  ⟨h.lays, h.same, h.u, h.ep, by rw [h1, h2, h3]; exact h.lens⟩
theorem Bas.slot {l : List Nd} {n : Int} {N : Nat} {W0 : List Int} {e : Int} {W : List Int} {t : PT} (h : Bas l n N W0 e W t) {a : Nat} (ha : 8 ≤ a ∧ a < 18) {x : Int} (hx : u64R x) : Bas l n N W0 e (W.set a x) t :=
  ⟨h.lays, h.same.slot ha x, fun y hy => by
    rcases List.mem_or_eq_of_mem_set hy with h1 | h1
    · exact h.u y h1
    · rw [h1]; exact hx, by rw [getD_set_ne' (by omega)]; exact h.ep, h.lens⟩
structure SI (l : List Nd) (n : Int) (N : Nat) (W0 : List Int) (e : Int) (W : List Int) (t : PT) (R : List Int) (pc : Int) (r f1 : Nat) (d : Int) (st : Bool) : Prop where
  b : Bas l n N W0 e W t
  tfs : t.fs = [⟨30, pc, R⟩]
  hR : ∀ j, u64R (R.getD j 0)
  r0 : R.getD 0 0 = n
  pcb : 0 ≤ pc ∧ pc ≤ 6
  r4 : r < 4
  run : pc ≠ 0 → Run l n W e t R pc r f1 d st
def mu (l : List Nd) (pc : Int) (r f1 : Nat) (st : Bool) : Nat := (if st then 1000 else 0) + (if pc = 0 then 900 else 8 * (20 * r + (l.length + 1 - f1)) + (7 - pc).toNat)
structure Fin' (l : List Nd) (n : Int) (N : Nat) (W0 : List Int) (e : Int) (W : List Int) (t : PT) : Prop where
  b : Bas l n N W0 e W t
  fs : t.fs = []
  all : ∀ k, k < 4 → Sett l n W t k
  ret : t.r = ((endK l n 0).2, 0, 0)
/-- what a step does -/
def Nxt (l : List Nd) (n : Int) (N : Nat) (W0 : List Int) (e : Int) (q : PS) (k : Int) (m : Nat) : Prop :=
  ∃ W' t', q = MM N W' (k + 1) true t' ∧ (Fin' l n N W0 e W' t' ∨ ∃ R' pc' r' f1' d' st', SI l n N W0 e W' t' R' pc' r' f1' d' st' ∧ mu l pc' r' f1' st' < m)
section
variable {l : List Nd} {n : Int} {N : Nat} {W0 : List Int} {e : Int} {W : List Int} {t : PT} {R : List Int} {pc : Int} {r f1 : Nat} {d : Int} {st : Bool}
theorem Bas.wl (h : Bas l n N W0 e W t) : W.length = 18 + 10 * N := by rw [h.same.1]; exact h.lays.len
theorem predN_bd (h : Lays W0 N l) (hf : f1 ≤ l.length) : 1 ≤ predN f1 ∧ predN f1 ≤ N := by
  have := h.few
  unfold predN
  split <;> omega
/-- the next node is taken -/
theorem pass_case (hB : Bas l n N W0 e W t) (hR : ∀ j, u64R (R.getD j 0)) (h0 : R.getD 0 0 = n) (hr4 : r < 4) (hr2 : R.getD 2 0 = (r : Int)) (hle : f1 ≤ l.length) (hgo : go l n r f1 d = endK l n r) (hd0 : 0 < r → d = 0) (hep : st = false → R.getD 1 0 = e) (hdone : ∀ k, r < k → k < 4 → Sett l n W t k)
    (hw : R.getD 4 0 = wd l r f1) (hj : nx l r f1 < l.length) (hp : past l n r (nx l r f1) = true) (h5 : R.getD 5 0 = if r = 0 ∧ (ndAt l (nx l r f1)).dead = true then (nx l r f1 : Int) + 3 else d) (x : Int) (k : Int) {m : Nat} (hm : 8 * (20 * r + (l.length - nx l r f1)) + 6 + (if st then 1000 else 0) < m) (fn : Int) (hfn : fn = 30) :
    Nxt l n N W0 e (lcPass (MM N W (k + 1) true t) 0 t [] ⟨fn, x, R⟩) k m := by
  subst hfn
  have hl := hB.lays.few
  have hn20 := hB.lays.n20
  obtain ⟨hq1, -, -⟩ := wd_ptr l (by omega) r f1
  have hge := nx_ge (l := l) (k := r) f1 hle
  have hnode : nodeN l (nx l r f1) = (nx l r f1 : Int) + 3 := if_pos hj
  have hpw : ptrW (R.getD 4 0) = (nx l r f1 : Int) + 3 := by rw [hw, hq1, hnode]
  have hb : u64R (ptrW (R.getD 4 0)) := by rw [hpw]; exact ⟨by omega, by omega⟩
  refine ⟨W, topped t [] ⟨30, 1, regI R 3 (ptrW (R.getD 4 0))⟩, rfl, .inr ⟨regI R 3 (ptrW (R.getD 4 0)), 1, r, nx l r f1 + 1, R.getD 5 0, st, ⟨hB.of rfl rfl rfl, rfl, regI_u64 hR hb, by rw [regI_at _ _ _ _ (by omega), if_neg (by omega)]; exact h0, by omega, hr4, fun _ => ?_⟩, ?_⟩⟩
  · refine ⟨by rw [regI_at _ _ _ _ (by omega), if_neg (by omega)]; exact hr2, by rw [regI_at _ _ _ _ (by omega), if_pos rfl, hpw]; unfold predN; rw [if_neg (by omega)]; omega, by omega, .inr (by rw [Nat.add_sub_cancel]; exact hge.2.2 hj), ?_, by rw [regI_at _ _ _ _ (by omega), if_neg (by omega)], fun hr => by rw [h5, if_neg (by omega)]; exact hd0 hr, fun hs => by rw [regI_at _ _ _ _ (by omega), if_neg (by omega)]; exact hep hs, fun k h1 h2 => (hdone k h1 h2).of rfl rfl rfl rfl rfl, fun h => absurd h (by omega), fun h => absurd h (by omega), fun h => absurd h (by omega), fun h => absurd h (by omega), fun h => absurd h (by omega)⟩
    rw [← hgo, go_pass hj hle hp, h5]
  · show (if st = true then 1000 else 0) + (8 * (20 * r + (l.length + 1 - (nx l r f1 + 1))) + 6) < m
    omega
/-- a row ends -/
theorem settle_case (hB : Bas l n N W0 e W t) (hR : ∀ j, u64R (R.getD j 0)) (h0 : R.getD 0 0 = n) (hr4 : r < 4) (hr2 : R.getD 2 0 = (r : Int)) (hr3 : R.getD 3 0 = predN f1) (hle : f1 ≤ l.length) (htall : f1 = 0 ∨ (r : Int) < (ndAt l (f1 - 1)).tall) (hgo : go l n r f1 d = endK l n r) (h5 : R.getD 5 0 = d) (hd0 : 0 < r → d = 0) (hep : st = false → R.getD 1 0 = e) (hdone : ∀ k, r < k → k < 4 → Sett l n W t k)
    (hw : R.getD 4 0 = wd l r f1) (hp : nx l r f1 < l.length → past l n r (nx l r f1) = false) (hs0 : W.getD (8 + 2 * r) 0 = predN f1) (hs1 : nodeN l (nx l r f1) ≠ 2 → W.getD (8 + 2 * r + 1) 0 = nodeN l (nx l r f1)) (x : Int) (k : Int) {m : Nat} (hm : 8 * (20 * r + (l.length + 1 - f1)) + (if st then 1000 else 0) < m) (fn : Int) (hfn : fn = 30) :
    Nxt l n N W0 e (lcSettle (MM N W (k + 1) true t) 0 t [] ⟨fn, x, R⟩ r) k m := by
  subst hfn
  have hl := hB.lays.few
  have hn20 := hB.lays.n20
  obtain ⟨l1, l2, l3⟩ := hB.lens
  obtain ⟨hq1, -, -⟩ := wd_ptr l (by omega) r f1
  have hend : endK l n r = (f1, d) := by rw [← hgo]; exact go_stop hp
  have hnew : ∀ t' : PT, t'.P = t.P.set r (R.getD 3 0) → t'.S = t.S.set r (ptrW (R.getD 4 0)) → t'.W = t.W.set r (R.getD 4 0) → ∀ k, r ≤ k → k < 4 → Sett l n W t' k := fun t' e1 e2 e3 k h1 h2 => by
    rcases Nat.lt_or_ge r k with h | h
    · exact (hdone k h h2).of (by rw [e1, getD_set_ne' (by omega)]) (by rw [e2, getD_set_ne' (by omega)]) (by rw [e3, getD_set_ne' (by omega)]) rfl rfl
    · obtain rfl : k = r := by omega
      refine ⟨?_, ?_, ?_, ?_, ?_⟩
      · rw [e1, getD_set_eq (by omega), hend]; exact hr3
      · rw [e2, getD_set_eq (by omega), hend, hw, hq1]
      · rw [e3, getD_set_eq (by omega), hend, hw]
      · rw [hend]; exact hs0
      · rw [hend]; exact hs1
  unfold lcSettle
  by_cases hr : r = 0
  · subst hr
    rw [if_pos rfl]
    refine ⟨W, _, MM_put, .inl ⟨hB.of (by simp) (by simp) (by simp), rfl, fun k hk => hnew _ rfl rfl rfl k (by omega) hk, ?_⟩⟩
    show (R.getD 5 0, (0 : Int), (0 : Int)) = _
    rw [h5, hend]
  · rw [if_neg hr]
    obtain ⟨s, rfl⟩ : ∃ s, r = s + 1 := ⟨r - 1, by omega⟩
    have hd := hd0 (by omega)
    refine ⟨W, _, MM_put, .inr ⟨regI R 2 (((s + 1 : Nat) : Int) - 1), 1, s, f1, 0, st, ⟨hB.of (by simp) (by simp) (by simp), rfl, regI_u64 hR ⟨by omega, by omega⟩, by rw [regI_at _ _ _ _ (by omega), if_neg (by omega)]; exact h0, by omega, by omega, fun _ => ?_⟩, ?_⟩⟩
    · refine ⟨by rw [regI_at _ _ _ _ (by omega), if_pos rfl]; omega, by rw [regI_at _ _ _ _ (by omega), if_neg (by omega)]; exact hr3, hle, htall.imp id (fun h => by omega), ?_, by rw [regI_at _ _ _ _ (by omega), if_neg (by omega), h5, hd], fun _ => rfl, fun hs => by rw [regI_at _ _ _ _ (by omega), if_neg (by omega)]; exact hep hs, fun k h1 h2 => hnew _ rfl rfl rfl k (by omega) h2, fun h => absurd h (by omega), fun h => absurd h (by omega), fun h => absurd h (by omega), fun h => absurd h (by omega), fun h => absurd h (by omega)⟩
      rw [endK_step (by omega), hend]
    · show (if st = true then 1000 else 0) + (8 * (20 * s + (l.length + 1 - f1)) + 6) < m
      omega
end
end Go.Proofs.YtbnbbafffihapaaGreat

/- Locate: a step of a search keeps its invariant (plain). -/
namespace Go.Proofs.YtbnbbafffihapaaGreat
open Go.RowKit
attribute [local irreducible] Instr.loadAt Instr.storeAt Instr.fieldAt Instr.indexAt Instr.sliceAt Instr.buildSlice Instr.box Instr.alloc Builtin.append_ Builtin.len_ Builtin.min_ Builtin.max_ Calls Instr.build Instr.makeSlice binSem convert Instr.index Instr.range Instr.next
section
variable {l : List Nd} {n : Int} {N : Nat} {W0 : List Int} {e : Int} {W : List Int} {t : PT} {R : List Int} {pc : Int} {r f1 : Nat} {d : Int} {st : Bool}
theorem toI_nat {x : Int} (h : 0 ≤ x ∧ x ≤ 1000000) : toI x = x := IntWalk.i64_in _ (by omega)
theorem mu_le (h : f1 ≤ l.length) (hn : pc ≠ 0) (hp : 0 ≤ pc) : mu l pc r f1 st = (if st then 1000 else 0) + (8 * (20 * r + (l.length + 1 - f1)) + (7 - pc).toNat) := by
  unfold mu; rw [if_neg hn]
/-- what a place of a node says -/
theorem at_link (hB : Bas l n N W0 e W t) {k i : Nat} (hk : k < 4) (hi : i ≤ l.length) (ht : i = 0 ∨ (k : Int) < (ndAt l (i - 1)).tall) : ∃ x : Nat, (cL N).node (toI (predN i)) (5 + (k : Int)) = (x : Int) ∧ x < W.length ∧ W.getD x 0 = wd l k i := by
  have hp := predN_bd (f1 := i) hB.lays hi
  have hn20 := hB.lays.n20
  have hwl := hB.wl
  refine ⟨18 + N + ((predN i).toNat - 1) * 9 + (5 + k), ?_, by omega, ?_⟩
  · rw [toI_nat (by omega), node_cL hp.1 hp.2 (by omega) (by omega)]
    omega
  · exact ((hB.lays.same hB.same).link k i hk hi ht)
theorem at_order (hB : Bas l n N W0 e W t) {j : Nat} (hj : j < l.length) : ∃ x : Nat, (cL N).node (toI ((j : Int) + 3)) 0 = (x : Int) ∧ x < W.length ∧ W.getD x 0 = (ndAt l j).key * 4294967296 + j := by
  have hn20 := hB.lays.n20
  have hf := hB.lays.few
  have hwl := hB.wl
  refine ⟨18 + N + (j + 2) * 9, ?_, by omega, ?_⟩
  · rw [toI_nat (by omega), node_cL (by omega) (by omega) (by omega) (by omega)]
    omega
  · exact (hB.lays.same hB.same).order j hj
set_option maxHeartbeats 1000000 in
theorem lc_step (h : SI l n N W0 e W t R pc r f1 d st) (k : Int) : Nxt l n N W0 e (lcDo (MM N W k false t) 0 t [] ⟨30, pc, R⟩ r) k (mu l pc r f1 st) := by
  obtain ⟨hB, htf, hR, h0, hpc, hr4, hrun⟩ := h
  have hl := hB.lays.few
  have hn20 := hB.lays.n20
  have hwl := hB.wl
  have hc : (MM N W k false t).c = cL N := rfl
  have hload1 : (MM N W k false t).load 1 = MM N W (k + 1) true t := MM_load (N := N) (W := W) (k := k) (a := false) (t := t) (x := 1) (by omega)
  have hldv1 : (MM N W k false t).ldv 1 = e := (MM_ldv (N := N) (W := W) (k := k) (a := false) (t := t) (x := 1) (by omega)).trans hB.ep
  have hz : ∀ x : Int, (cL N).haz ((0 : Nat) : Int) x = (cL N).haz 0 x := fun _ => rfl
  have heu : u64R e := by
    rw [← hB.ep]
    have : W.getD 1 0 ∈ W := by simp [List.getD, show 1 < W.length by omega]
    exact hB.u _ this
  unfold lcDo
  by_cases c0 : pc = 0
  · subst c0
    rw [if_pos rfl]
    unfold lcBegin
    rw [hload1, hldv1, hc]
    refine ⟨W, topped t [] ⟨30, 1, regI (regI (regI (regI R 1 e) 3 1) 5 0) 2 ((cL N).L - 1)⟩, rfl, .inr ⟨_, 1, 3, 0, 0, false, ⟨hB.of rfl rfl rfl, rfl, ?_, ?_, by omega, by omega, fun _ => ?_⟩, ?_⟩⟩
    · exact regI_u64 (regI_u64 (regI_u64 (regI_u64 hR heu) ⟨by omega, by omega⟩) ⟨by omega, by omega⟩) (show u64R 3 from ⟨by omega, by omega⟩)
    · rw [regI_at _ _ _ _ (by omega), if_neg (by omega), regI_at _ _ _ _ (by omega), if_neg (by omega), regI_at _ _ _ _ (by omega), if_neg (by omega), regI_at _ _ _ _ (by omega), if_neg (by omega)]; exact h0
    · refine ⟨?_, ?_, by omega, .inl rfl, rfl, ?_, fun _ => rfl, fun _ => ?_, fun k h1 h2 => by omega, fun h => absurd h (by omega), fun h => absurd h (by omega), fun h => absurd h (by omega), fun h => absurd h (by omega), fun h => absurd h (by omega)⟩
      · rw [regI_at _ _ _ _ (by omega), if_pos rfl]; rfl
      · rw [regI_at _ _ _ _ (by omega), if_neg (by omega), regI_at _ _ _ _ (by omega), if_neg (by omega), regI_at _ _ _ _ (by omega), if_pos rfl]; rfl
      · rw [regI_at _ _ _ _ (by omega), if_neg (by omega), regI_at _ _ _ _ (by omega), if_pos rfl]
      · rw [regI_at _ _ _ _ (by omega), if_neg (by omega), regI_at _ _ _ _ (by omega), if_neg (by omega), regI_at _ _ _ _ (by omega), if_neg (by omega), regI_at _ _ _ _ (by omega), if_pos rfl]
    · show 0 + (8 * (20 * 3 + (l.length + 1 - 0)) + 6) < (if st = true then 1000 else 0) + 900
      omega
  rw [if_neg c0]
  have Q := hrun c0
  have hpb := predN_bd hB.lays Q.le
  have hmu := mu_le (l := l) (r := r) (st := st) Q.le c0 hpc.1
  by_cases c1 : pc = 1
  · subst c1
    rw [if_pos rfl, hc, hz, haz_cL (by omega) (by omega), show (8 : Int) + 2 * (r : Int) = ((8 + 2 * r : Nat) : Int) by omega, MM_store (by omega)]
    have hx : R.getD 3 0 = predN f1 := Q.r3
    refine ⟨W.set (8 + 2 * r) (R.getD 3 0), topped t [] ⟨30, 2, R⟩, rfl, .inr ⟨R, 2, r, f1, d, st, ⟨(hB.slot (by omega) (by rw [hx]; exact ⟨by omega, by omega⟩)).of rfl rfl rfl, rfl, hR, h0, by omega, hr4, fun _ => ?_⟩, ?_⟩⟩
    · exact ⟨Q.r2, Q.r3, Q.le, Q.tall, Q.hgo, Q.r5, Q.d0, Q.ep, fun k h1 h2 => (Q.done k h1 h2).of rfl rfl rfl (getD_set_ne' (by omega) _) (getD_set_ne' (by omega) _), fun _ => by rw [getD_set_eq (by omega)]; exact hx, fun h => absurd h (by omega), fun h => absurd h (by omega), fun h => absurd h (by omega), fun h => absurd h (by omega)⟩
    · rw [hmu]
      show (if st = true then 1000 else 0) + (8 * (20 * r + (l.length + 1 - f1)) + 5) < (if st = true then 1000 else 0) + (8 * (20 * r + (l.length + 1 - f1)) + 6)
      omega
  rw [if_neg c1]
  by_cases c2 : pc = 2
  · subst c2
    rw [if_pos rfl, hc]
    obtain ⟨x, hx1, hx2, hx3⟩ := at_link hB hr4 Q.le Q.tall
    obtain ⟨hq1, hq2, hq3⟩ := wd_ptr l (by omega) r f1
    show Nxt l n N W0 e (if ptrW ((MM N W k false t).ldv ((cL N).node (toI (R.getD 3 0)) (5 + (r : Int)))) = 2 then _ else _) k _
    rw [Q.r3, hx1, MM_ldv hx2, MM_load hx2, hx3, hq1]
    have hR' := regI_u64 (k := 4) hR hq3
    have g : ∀ j, j < 10 → j ≠ 4 → (regI R 4 (wd l r f1)).getD j 0 = R.getD j 0 := fun j h1 h2 => by rw [regI_at _ _ _ _ h1, if_neg h2]
    have g4 : (regI R 4 (wd l r f1)).getD 4 0 = wd l r f1 := by rw [regI_at _ _ _ _ (by omega), if_pos rfl]
    have hge := nx_ge (l := l) (k := r) f1 Q.le
    by_cases h2 : nodeN l (nx l r f1) = 2
    · rw [if_pos h2]
      have hnl : ¬ nx l r f1 < l.length := fun hh => by unfold nodeN at h2; rw [if_pos hh] at h2; omega
      refine settle_case (d := d) (f1 := f1) (st := st) hB hR' (by rw [g 0 (by omega) (by omega)]; exact h0) hr4 (by rw [g 2 (by omega) (by omega)]; exact Q.r2) (by rw [g 3 (by omega) (by omega)]; exact Q.r3) Q.le Q.tall Q.hgo (by rw [g 5 (by omega) (by omega)]; exact Q.r5) Q.d0 (fun hs => by rw [g 1 (by omega) (by omega)]; exact Q.ep hs) Q.done g4 (fun hh => absurd hh hnl) (Q.p2 (by omega)) (fun hh => absurd h2 hh) 3 k ?_ 30 rfl
      rw [hmu]
      have : ((7 : Int) - 2).toNat = 5 := rfl
      rw [this]; omega
    · rw [if_neg h2]
      have hnl : nx l r f1 < l.length := by
        rcases Nat.lt_or_ge (nx l r f1) l.length with hh | hh
        · exact hh
        · exact absurd (by unfold nodeN; rw [if_neg (by omega)]) h2
      refine ⟨W, topped t [] ⟨30, 3, regI R 4 (wd l r f1)⟩, rfl, .inr ⟨regI R 4 (wd l r f1), 3, r, f1, d, st, ⟨hB.of rfl rfl rfl, rfl, hR', by rw [g 0 (by omega) (by omega)]; exact h0, by omega, hr4, fun _ => ?_⟩, ?_⟩⟩
      · exact ⟨by rw [g 2 (by omega) (by omega)]; exact Q.r2, by rw [g 3 (by omega) (by omega)]; exact Q.r3, Q.le, Q.tall, Q.hgo, by rw [g 5 (by omega) (by omega)]; exact Q.r5, Q.d0, fun hs => by rw [g 1 (by omega) (by omega)]; exact Q.ep hs, fun k h1 h2 => (Q.done k h1 h2).of rfl rfl rfl rfl rfl, fun _ => Q.p2 (by omega), fun _ => ⟨g4, hnl⟩, fun h => absurd h (by omega), fun h => absurd h (by omega), fun h => absurd h (by omega)⟩
      · rw [hmu]
        show (if st = true then 1000 else 0) + (8 * (20 * r + (l.length + 1 - f1)) + 4) < (if st = true then 1000 else 0) + (8 * (20 * r + (l.length + 1 - f1)) + 5)
        omega
  rw [if_neg c2]
  have hge := nx_ge (l := l) (k := r) f1 Q.le
  obtain ⟨hq1, hq2, hq3⟩ := wd_ptr l (by omega) r f1
  obtain ⟨hw, hj⟩ := Q.p3 (by omega)
  have hnode : nodeN l (nx l r f1) = (nx l r f1 : Int) + 3 := if_pos hj
  by_cases c3 : pc = 3
  · subst c3
    rw [if_pos rfl, hc, hz, haz_cL (by omega) (by omega), show (8 : Int) + (2 * (r : Int) + 1) = ((8 + 2 * r + 1 : Nat) : Int) by omega, MM_store (by omega)]
    have hx : ptrW (R.getD 4 0) = nodeN l (nx l r f1) := by rw [hw, hq1]
    refine ⟨W.set (8 + 2 * r + 1) (ptrW (R.getD 4 0)), topped t [] ⟨30, 4, R⟩, rfl, .inr ⟨R, 4, r, f1, d, st, ⟨(hB.slot (by omega) (by rw [hx, hnode]; exact ⟨by omega, by omega⟩)).of rfl rfl rfl, rfl, hR, h0, by omega, hr4, fun _ => ?_⟩, ?_⟩⟩
    · exact ⟨Q.r2, Q.r3, Q.le, Q.tall, Q.hgo, Q.r5, Q.d0, Q.ep, fun k h1 h2 => (Q.done k h1 h2).of rfl rfl rfl (getD_set_ne' (by omega) _) (getD_set_ne' (by omega) _), fun _ => by rw [getD_set_ne' (by omega)]; exact Q.p2 (by omega), fun _ => ⟨hw, hj⟩, fun _ => by rw [getD_set_eq (by omega)]; exact hx, fun h => absurd h (by omega), fun h => absurd h (by omega)⟩
    · rw [hmu]
      show (if st = true then 1000 else 0) + (8 * (20 * r + (l.length + 1 - f1)) + 3) < (if st = true then 1000 else 0) + (8 * (20 * r + (l.length + 1 - f1)) + 4)
      omega
  rw [if_neg c3]
  have hs1 := Q.p4 (by omega)
  by_cases c4 : pc = 4
  · subst c4
    rw [if_pos rfl]
    unfold lcJudge
    rw [hload1, hldv1]
    have h74 : ((7 : Int) - 4).toNat = 3 := rfl
    by_cases hne : e ≠ R.getD 1 0
    · rw [if_pos hne]
      have hst : st = true := by
        cases st
        · exact absurd (Q.ep rfl).symm hne
        · rfl
      refine ⟨W, topped t [] ⟨30, 0, R⟩, rfl, .inr ⟨R, 0, r, f1, d, false, ⟨hB.of rfl rfl rfl, rfl, hR, h0, by omega, hr4, fun hq => absurd rfl hq⟩, ?_⟩⟩
      rw [hmu, hst]
      show 0 + 900 < 1000 + _
      omega
    rw [if_neg hne]
    by_cases hm : r = 0 ∧ markW (R.getD 4 0) = true
    · rw [if_pos hm]
      obtain ⟨rfl, hmk⟩ := hm
      rw [hw, hq2] at hmk
      have hdead : (ndAt l (nx l 0 f1)).dead = true := by
        unfold markN at hmk
        rw [decide_eq_true hj] at hmk
        simpa using hmk
      have hb : u64R (ptrW (R.getD 4 0)) := by rw [hw, hq1, hnode]; exact ⟨by omega, by omega⟩
      have g : ∀ j, j < 10 → j ≠ 5 → (regI R 5 (ptrW (R.getD 4 0))).getD j 0 = R.getD j 0 := fun j h1 h2 => by rw [regI_at _ _ _ _ h1, if_neg h2]
      refine pass_case (d := d) (f1 := f1) (st := st) hB (regI_u64 hR hb) (by rw [g 0 (by omega) (by omega)]; exact h0) hr4 (by rw [g 2 (by omega) (by omega)]; exact Q.r2) Q.le Q.hgo Q.d0 (fun hs => by rw [g 1 (by omega) (by omega)]; exact Q.ep hs) Q.done (by rw [g 4 (by omega) (by omega)]; exact hw) hj ?_ ?_ 4 k ?_ 30 rfl
      · unfold past; rw [if_pos ⟨rfl, hdead⟩]
      · rw [if_pos ⟨rfl, hdead⟩, regI_at _ _ _ _ (by omega), if_pos rfl, hw, hq1, hnode]
      · rw [hmu, h74]; omega
    · rw [if_neg hm]
      by_cases hr : r = 0
      · subst hr
        rw [if_pos rfl]
        refine ⟨W, topped t [] ⟨30, 6, R⟩, rfl, .inr ⟨R, 6, 0, f1, d, st, ⟨hB.of rfl rfl rfl, rfl, hR, h0, by omega, hr4, fun _ => ?_⟩, ?_⟩⟩
        · refine ⟨Q.r2, Q.r3, Q.le, Q.tall, Q.hgo, Q.r5, Q.d0, Q.ep, fun k h1 h2 => (Q.done k h1 h2).of rfl rfl rfl rfl rfl, fun _ => Q.p2 (by omega), fun _ => ⟨hw, hj⟩, fun _ => hs1, fun h => absurd h (by omega), fun _ => ⟨fun _ => ?_, fun h => absurd h (by omega)⟩⟩
          cases hdead : (ndAt l (nx l 0 f1)).dead with
          | false => rfl
          | true =>
            refine absurd ⟨rfl, ?_⟩ hm
            rw [hw, hq2]
            unfold markN
            rw [decide_eq_true hj, hdead]; rfl
        · rw [hmu, h74]
          show (if st = true then 1000 else 0) + (8 * (20 * 0 + (l.length + 1 - f1)) + 1) < (if st = true then 1000 else 0) + (8 * (20 * 0 + (l.length + 1 - f1)) + 3)
          omega
      · rw [if_neg hr]
        refine ⟨W, topped t [] ⟨30, 5, R⟩, rfl, .inr ⟨R, 5, r, f1, d, st, ⟨hB.of rfl rfl rfl, rfl, hR, h0, by omega, hr4, fun _ => ?_⟩, ?_⟩⟩
        · exact ⟨Q.r2, Q.r3, Q.le, Q.tall, Q.hgo, Q.r5, Q.d0, Q.ep, fun k h1 h2 => (Q.done k h1 h2).of rfl rfl rfl rfl rfl, fun _ => Q.p2 (by omega), fun _ => ⟨hw, hj⟩, fun _ => hs1, fun _ => by omega, fun h => absurd h (by omega)⟩
        · rw [hmu, h74]
          show (if st = true then 1000 else 0) + (8 * (20 * r + (l.length + 1 - f1)) + 2) < (if st = true then 1000 else 0) + (8 * (20 * r + (l.length + 1 - f1)) + 3)
          omega
  rw [if_neg c4]
  have hpw : ptrW (R.getD 4 0) = predN (nx l r f1 + 1) := by rw [hw, hq1, hnode]; unfold predN; rw [if_neg (by omega)]; omega
  by_cases c5 : pc = 5
  · subst c5
    rw [if_pos rfl, hc]
    have hr := Q.p5 rfl
    have h75 : ((7 : Int) - 5).toNat = 2 := rfl
    have htl := hB.lays.u64 (nx l r f1) hj
    obtain ⟨x, hx1, hx2, hx3⟩ := at_link (k := 0) (i := nx l r f1 + 1) hB (by omega) (by omega) (.inr (by rw [Nat.add_sub_cancel]; show (0 : Int) < _; omega))
    have hx1 : (cL N).node (toI (predN (nx l r f1 + 1))) 5 = (x : Int) := hx1
    obtain ⟨-, hm2, -⟩ := wd_ptr l (by omega) 0 (nx l r f1 + 1)
    show Nxt l n N W0 e (if markW ((MM N W k false t).ldv ((cL N).node (toI (ptrW (R.getD 4 0))) 5)) = true then _ else _) k _
    rw [hpw, hx1, MM_ldv hx2, MM_load hx2, hx3, hm2]
    have hnx : nx l r f1 + 1 < l.length → nx l 0 (nx l r f1 + 1) = nx l r f1 + 1 := fun hlt => nx_hit hlt (by have := hB.lays.u64 _ hlt; show (0 : Int) < _; omega)
    by_cases hmk : markN l 0 (nx l 0 (nx l r f1 + 1)) = true
    · rw [if_pos hmk]
      have hlt : nx l r f1 + 1 < l.length := by
        rcases Nat.lt_or_ge (nx l r f1 + 1) l.length with hh | hh
        · exact hh
        · rw [nx_end (by omega)] at hmk
          unfold markN at hmk
          rw [decide_eq_false (Nat.lt_irrefl _)] at hmk
          simp at hmk
      rw [hnx hlt] at hmk
      have hdead : (ndAt l (nx l r f1 + 1)).dead = true := by
        unfold markN at hmk
        rw [decide_eq_true hlt] at hmk
        simpa using hmk
      refine pass_case (d := d) (f1 := f1) (st := st) hB hR h0 hr4 Q.r2 Q.le Q.hgo Q.d0 Q.ep Q.done hw hj ?_ (by rw [if_neg (by omega)]; exact Q.r5) 6 k ?_ 30 rfl
      · unfold past; rw [if_neg (by omega), if_pos ⟨hr, hlt, hdead⟩]
      · rw [hmu, h75]; omega
    · rw [if_neg hmk]
      refine ⟨W, topped t [] ⟨30, 6, R⟩, rfl, .inr ⟨R, 6, r, f1, d, st, ⟨hB.of rfl rfl rfl, rfl, hR, h0, by omega, hr4, fun _ => ?_⟩, ?_⟩⟩
      · refine ⟨Q.r2, Q.r3, Q.le, Q.tall, Q.hgo, Q.r5, Q.d0, Q.ep, fun k h1 h2 => (Q.done k h1 h2).of rfl rfl rfl rfl rfl, fun _ => Q.p2 (by omega), fun _ => ⟨hw, hj⟩, fun _ => hs1, fun h => absurd h (by omega), fun _ => ⟨fun h => absurd h (by omega), fun _ hlt => ?_⟩⟩
        cases hdead : (ndAt l (nx l r f1 + 1)).dead with
        | false => rfl
        | true =>
          refine absurd ?_ hmk
          rw [hnx hlt]
          unfold markN
          rw [decide_eq_true hlt, hdead]; rfl
      · rw [hmu, h75]
        show (if st = true then 1000 else 0) + (8 * (20 * r + (l.length + 1 - f1)) + 1) < (if st = true then 1000 else 0) + (8 * (20 * r + (l.length + 1 - f1)) + 2)
        omega
  rw [if_neg c5]
  obtain rfl : pc = 6 := by omega
  have h76 : ((7 : Int) - 6).toNat = 1 := rfl
  obtain ⟨q0, q1⟩ := Q.p6 rfl
  obtain ⟨x, hx1, hx2, hx3⟩ := at_order hB hj
  have hpw : ptrW (R.getD 4 0) = (nx l r f1 : Int) + 3 := by rw [hw, hq1, hnode]
  rw [hc]
  show Nxt l n N W0 e (if (MM N W k false t).ldv ((cL N).node (toI (ptrW (R.getD 4 0))) 0) < R.getD 0 0 then _ else _) k _
  rw [hpw, hx1, MM_ldv hx2, MM_load hx2, hx3, h0]
  have hpa : past l n r (nx l r f1) = decide ((ndAt l (nx l r f1)).key * 4294967296 + (nx l r f1 : Int) < n) := by
    unfold past
    rw [if_neg (fun hh => by rw [q0 hh.1] at hh; cases hh.2), if_neg (fun hh => by rw [q1 hh.1 hh.2.1] at hh; cases hh.2.2)]
  by_cases hlt : (ndAt l (nx l r f1)).key * 4294967296 + (nx l r f1 : Int) < n
  · rw [if_pos hlt]
    refine pass_case (d := d) (f1 := f1) (st := st) hB hR h0 hr4 Q.r2 Q.le Q.hgo Q.d0 Q.ep Q.done hw hj (by rw [hpa]; exact decide_eq_true hlt) (by rw [if_neg (fun hh => by rw [q0 hh.1] at hh; cases hh.2)]; exact Q.r5) 6 k ?_ 30 rfl
    rw [hmu, h76]; omega
  · rw [if_neg hlt]
    refine settle_case (d := d) (f1 := f1) (st := st) hB hR h0 hr4 Q.r2 Q.r3 Q.le Q.tall Q.hgo Q.r5 Q.d0 Q.ep Q.done hw (fun _ => by rw [hpa]; exact decide_eq_false hlt) (Q.p2 (by omega)) (fun _ => hs1) 6 k ?_ 30 rfl
    rw [hmu, h76]; omega
end
end Go.Proofs.YtbnbbafffihapaaGreat

/- Locate: a search alone. -/
namespace Go.Proofs.YtbnbbafffihapaaGreat
open Go.RowKit
attribute [local irreducible] Instr.loadAt Instr.storeAt Instr.fieldAt Instr.indexAt Instr.sliceAt Instr.buildSlice Instr.box Instr.alloc Builtin.append_ Builtin.len_ Builtin.min_ Builtin.max_ Calls Instr.build Instr.makeSlice binSem convert Instr.index Instr.range Instr.next
theorem sizeP_cL (N : Nat) : (sizeP 2 1 (N : Int) 4).toNat = 18 + 10 * N := by
  unfold sizeP treeP nodesP
  rw [show linksP 2 1 4 = 18 from rfl, show widthP 2 4 = 9 from rfl]
  unfold nthP
  simp
  omega
theorem cL_right {N : Nat} (h3 : 3 ≤ N) (h20 : N ≤ 20) : rightC (cL N) := by
  unfold cL rightC
  simp [within]
  omega
theorem MM_Ok {N : Nat} {W : List Int} {k : Int} {a : Bool} {t : PT} {b : Int} (h3 : 3 ≤ N) (h20 : N ≤ 20) (hu : ∀ x ∈ W, u64R x) (hl : W.length = 18 + 10 * N) (hk : 0 ≤ k ∧ k ≤ b) : (MM N W k a t).Ok b :=
  ⟨cL_right h3 h20, by show ([] : List Int).length ≤ 64; decide, hk.1, hk.2, hu, by rw [show (MM N W k a t).W.length = W.length from rfl, hl]; exact (sizeP_cL N).symm⟩
theorem mu_bd {l : List Nd} {pc : Int} {r f1 : Nat} {st : Bool} (hl : l.length ≤ 18) (hr : r < 4) (hp : 0 ≤ pc ∧ pc ≤ 6) : mu l pc r f1 st ≤ 1900 := by
  unfold mu
  have : (if st = true then 1000 else 0) ≤ 1000 := by split <;> omega
  have h2 : (if pc = 0 then 900 else 8 * (20 * r + (l.length + 1 - f1)) + (7 - pc).toNat) ≤ 900 := by split <;> omega
  omega
theorem abs_one {N : Nat} {W : List Int} {k : Int} {a : Bool} {Y : Mc} {t : PT} (h : Y.abs = MM N W k a t) : ∃ t' : Th, Y.ths = [t'] ∧ absT t' = t ∧ Y.gs = none ∧ Y.bad = false := by
  have h1 : Y.ths.map absT = [t] := congrArg PS.ths h
  obtain ⟨t', h2, h3⟩ : ∃ t', Y.ths = [t'] ∧ absT t' = t := by
    cases hy : Y.ths with
    | nil => rw [hy] at h1; cases h1
    | cons x r =>
      rw [hy] at h1
      simp at h1
      exact ⟨x, by rw [h1.2], h1.1⟩
  have h4 : Y.gs.map absG = none := congrArg PS.gh h
  exact ⟨t', h2, h3, by simpa using h4, congrArg PS.bad h⟩
end Go.Proofs.YtbnbbafffihapaaGreat

/- Nodes that are laid, one by one (plain). -/
namespace Go.Proofs.YtbnbbafffihapaaGreat
open Go.RowKit
attribute [local irreducible] Instr.loadAt Instr.storeAt Instr.fieldAt Instr.indexAt Instr.sliceAt Instr.buildSlice Instr.box Instr.alloc Builtin.append_ Builtin.len_ Builtin.min_ Builtin.max_ Calls Instr.build Instr.makeSlice binSem convert Instr.index Instr.range Instr.next
section
variable {l : List Nd} {k : Nat}
theorem nx_eq {g i : Nat} (h : g ≤ i) (hi : i < l.length) (ht : (k : Int) < (ndAt l i).tall) (hn : ∀ j, g ≤ j → j < i → ¬ (k : Int) < (ndAt l j).tall) : nx l k g = i := by
  induction hm : i - g generalizing g with
  | zero =>
    obtain rfl : g = i := by omega
    exact nx_hit hi ht
  | succ m ih =>
    rw [nx_skip (by omega) (hn g (Nat.le_refl _) (by omega))]
    exact ih (by omega) (fun j h1 h2 => hn j (by omega) h2) (by omega)
theorem nx_none {g : Nat} (h : g ≤ l.length) (hn : ∀ j, g ≤ j → j < l.length → ¬ (k : Int) < (ndAt l j).tall) : nx l k g = l.length := by
  induction hm : l.length - g generalizing g with
  | zero => exact nx_end (by omega)
  | succ m ih =>
    rw [nx_skip (by omega) (hn g (Nat.le_refl _) (by omega))]
    exact ih (by omega) (fun j h1 h2 => hn j (by omega) h2) (by omega)
theorem nx_le {g j : Nat} (h : g ≤ j) (hj : j < l.length) (ht : (k : Int) < (ndAt l j).tall) : nx l k g ≤ j := by
  induction hm : j - g generalizing g with
  | zero =>
    obtain rfl : g = j := by omega
    rw [nx_hit hj ht]; exact Nat.le_refl _
  | succ m ih =>
    by_cases hg : (k : Int) < (ndAt l g).tall
    · rw [nx_hit (by omega) hg]; exact h
    · rw [nx_skip (by omega) hg]; exact ih (by omega) (by omega)
end
/-- where a place of a node lies -/
def adr (N : Nat) (i : Nat) (f : Nat) : Nat := 18 + N + ((predN i).toNat - 1) * 9 + f
theorem predN_nat (i : Nat) : (predN i).toNat = if i = 0 then 1 else i + 2 := by
  unfold predN; split <;> omega
theorem adr_ne {N i j f f' : Nat} (hf : f < 9) (hf' : f' < 9) (h : i ≠ j ∨ f ≠ f') : adr N i f ≠ adr N j f' := by
  unfold adr
  rw [predN_nat, predN_nat]
  split <;> split <;> omega
theorem adr_lt {N i f : Nat} (hi : i + 2 ≤ N) (hf : f < 9) : adr N i f < 18 + 10 * N := by
  unfold adr
  rw [predN_nat]
  split <;> omega
theorem adr_node {N i f : Nat} (hi : i + 2 ≤ N) (hf : f < 9) : (cL (N : Int)).node (predN i) (f : Int) = (adr N i f : Int) := by
  have : 1 ≤ predN i ∧ predN i ≤ N := by unfold predN; split <;> omega
  rw [node_cL this.1 this.2 (by omega) (by omega)]
  unfold adr
  omega
/-- how many nodes are known to row k, while node i is laid up to row rr -/
def cnt (i rr k : Nat) : Nat := if k < rr then i + 1 else i
structure Part (W : List Int) (N : Nat) (l : List Nd) (i rr o : Nat) (L : List Int) : Prop where
  len : W.length = 18 + 10 * N
  u : ∀ x ∈ W, u64R x
  L4 : L.length = 4
  last : ∀ k : Nat, k < 4 → ∃ g : Nat, L.getD k 0 = predN g ∧ g ≤ cnt i rr k ∧ (g = 0 ∨ (k : Int) < (ndAt l (g - 1)).tall) ∧ ∀ j, g ≤ j → j < cnt i rr k → ¬ (k : Int) < (ndAt l j).tall
  link : ∀ k f : Nat, k < 4 → f ≤ l.length → (f = 0 ∨ (k : Int) < (ndAt l (f - 1)).tall) → nx l k f < cnt i rr k → W.getD (adr N f (5 + k)) 0 = wd l k f
  order : ∀ j : Nat, j < o → W.getD (adr N (j + 1) 0) 0 = (ndAt l j).key * 4294967296 + j
structure NdsOk (l : List Nd) (N : Nat) : Prop where
  few : l.length + 2 ≤ N
  n20 : N ≤ 20
  n3 : 3 ≤ N
  u64 : ∀ (i : Nat), i < l.length → (0 ≤ (ndAt l i).key ∧ (ndAt l i).key ≤ 4294967295) ∧ 1 ≤ (ndAt l i).tall ∧ (ndAt l i).tall ≤ 4
section
variable {W : List Int} {N : Nat} {l : List Nd} {i rr o : Nat} {L : List Int}
theorem mem_set_u {x y : Int} {a : Nat} (h : ∀ x ∈ W, u64R x) (hx : u64R x) (hy : y ∈ W.set a x) : u64R y := by
  rcases List.mem_or_eq_of_mem_set hy with h1 | h1
  · exact h y h1
  · rw [h1]; exact hx
/-- a place that is no link and no order number -/
theorem Part.other (h : Part W N l i rr o L) {f : Nat} (j : Nat) (hf : f = 1 ∨ f = 3) {x : Int} (hx : u64R x) : Part (W.set (adr N j f) x) N l i rr o L :=
  ⟨by rw [List.length_set]; exact h.len, fun y hy => mem_set_u h.u hx hy, h.L4, h.last, fun k f' h1 h2 h3 h4 => by rw [getD_set_ne' (adr_ne (by omega) (by omega) (.inr (by omega)))]; exact h.link k f' h1 h2 h3 h4,
    fun j' hj => by rw [getD_set_ne' (adr_ne (by omega) (by omega) (.inr (by omega)))]; exact h.order j' hj⟩
theorem Part.ord (h : Part W N l i rr o L) (hl : o + 3 ≤ N) {x : Int} (hx : u64R x) (hv : x = (ndAt l o).key * 4294967296 + o) : Part (W.set (adr N (o + 1) 0) x) N l i rr (o + 1) L :=
  ⟨by rw [List.length_set]; exact h.len, fun y hy => mem_set_u h.u hx hy, h.L4, h.last, fun k f' h1 h2 h3 h4 => by rw [getD_set_ne' (adr_ne (by omega) (by omega) (.inr (by omega)))]; exact h.link k f' h1 h2 h3 h4,
    fun j' hj => by
      by_cases hq : j' = o
      · subst hq; rw [getD_set_eq (by rw [h.len]; exact adr_lt (by omega) (by omega))]; exact hv
      · rw [getD_set_ne' (adr_ne (by omega) (by omega) (.inl (by omega)))]; exact h.order j' (by omega)⟩
/-- a link of node i in row rr -/
theorem Part.row (h : Part W N l i rr o L) (hk : NdsOk l N) (hi : i < l.length) (hr : rr < 4) (ht : (rr : Int) < (ndAt l i).tall) {g : Nat} (hg : L.getD rr 0 = predN g) {x : Int} (hx : u64R x) (hv : x = 2 * ((i : Int) + 3) + (if rr = 0 ∧ (ndAt l i).dead = true then 1 else 0)) :
    Part (W.set (adr N g (5 + rr)) x) N l i (rr + 1) o (L.set rr ((i : Int) + 3)) := by
  obtain ⟨g', e1, e2, e3, e4⟩ := h.last rr hr
  have hgg : g' = g := by
    have : predN g' = predN g := by rw [← e1, hg]
    unfold predN at this
    split at this <;> split at this <;> omega
  subst hgg
  have hci : cnt i rr rr = i := if_neg (by omega)
  rw [hci] at e2 e4
  have hfew := hk.few
  have hnx : nx l rr g' = i := nx_eq e2 hi ht e4
  have hwd : x = wd l rr g' := by
    unfold wd nodeN markN
    rw [hnx, if_pos hi, hv, decide_eq_true hi]
    by_cases h0 : rr = 0
    · subst h0
      cases hd : (ndAt l i).dead <;> simp
    · rw [decide_eq_false h0, if_neg (fun hh => h0 hh.1)]; simp
  refine ⟨by rw [List.length_set]; exact h.len, fun y hy => mem_set_u h.u hx hy, by rw [List.length_set]; exact h.L4, fun k h4 => ?_, fun k f h1 h2 h3 h4 => ?_, fun j hj => ?_⟩
  · by_cases hkr : k = rr
    · subst hkr
      refine ⟨i + 1, ?_, ?_, .inr (by rw [Nat.add_sub_cancel]; exact ht), fun j h1 h2 => ?_⟩
      · rw [getD_set_eq (by rw [h.L4]; exact hr)]; unfold predN; rw [if_neg (by omega)]; omega
      · unfold cnt; rw [if_pos (by omega)]; exact Nat.le_refl _
      · unfold cnt at h2; rw [if_pos (by omega)] at h2; omega
    · obtain ⟨g2, a1, a2, a3, a4⟩ := h.last k h4
      have hc : cnt i (rr + 1) k = cnt i rr k := by unfold cnt; split <;> split <;> omega
      rw [hc]
      exact ⟨g2, by rw [getD_set_ne' (by omega)]; exact a1, a2, a3, a4⟩
  · by_cases hkr : k = rr
    · subst hkr
      have hc : cnt i (k + 1) k = i + 1 := if_pos (by omega)
      rw [hc] at h4
      by_cases hfg : f = g'
      · subst hfg
        rw [getD_set_eq (by rw [h.len]; exact adr_lt (by omega) (by omega))]; exact hwd
      · rw [getD_set_ne' (adr_ne (by omega) (by omega) (.inl (Ne.symm hfg)))]
        refine h.link k f h1 h2 h3 ?_
        rw [hci]
        have hge := nx_ge (l := l) (k := k) f h2
        rcases Nat.lt_or_ge (nx l k f) i with hlt | hlt
        · exact hlt
        · exfalso
          have hni : nx l k f = i := by omega
          rcases Nat.lt_or_ge f g' with hf | hf
          · have hq : (k : Int) < (ndAt l (g' - 1)).tall := e3.resolve_left (by omega)
            have := nx_le (l := l) (k := k) (g := f) (j := g' - 1) (by omega) (by omega) hq
            omega
          · have hq : (k : Int) < (ndAt l (f - 1)).tall := h3.resolve_left (by omega)
            exact e4 (f - 1) (by omega) (by omega) hq
    · have hc : cnt i (rr + 1) k = cnt i rr k := by unfold cnt; split <;> split <;> omega
      rw [hc] at h4
      rw [getD_set_ne' (adr_ne (by omega) (by omega) (.inr (by omega)))]
      exact h.link k f h1 h2 h3 h4
  · rw [getD_set_ne' (adr_ne (by omega) (by omega) (.inr (by omega)))]; exact h.order j hj
/-- behind a node -/
theorem Part.next (h : Part W N l i rr o L) (hi : i < l.length) (ht : (rr : Int) = (ndAt l i).tall) : Part W N l (i + 1) 0 o L := by
  have hc : ∀ k, cnt (i + 1) 0 k = i + 1 := fun k => if_neg (by omega)
  refine ⟨h.len, h.u, h.L4, fun k h4 => ?_, fun k f h1 h2 h3 h4 => ?_, h.order⟩
  · obtain ⟨g, a1, a2, a3, a4⟩ := h.last k h4
    rw [hc]
    refine ⟨g, a1, ?_, a3, fun j h1 h2 => ?_⟩
    · unfold cnt at a2; split at a2 <;> omega
    · by_cases hj : j < cnt i rr k
      · exact a4 j h1 hj
      · have : j = i := by unfold cnt at hj; split at hj <;> omega
        subst this
        unfold cnt at hj
        split at hj <;> omega
  · rw [hc] at h4
    refine h.link k f h1 h2 h3 ?_
    have hge := nx_ge (l := l) (k := k) f h2
    unfold cnt
    split
    · exact h4
    · rcases Nat.lt_or_ge (nx l k f) i with hlt | hlt
      · exact hlt
      · have hni : nx l k f = i := by omega
        have := hge.2.2 (by omega)
        rw [hni] at this
        omega
/-- the last ones' links -/
theorem Part.tail (h : Part W N l l.length 0 o L) (hk : NdsOk l N) (kk : Nat) (hkk : kk < 4) (hdone : ∀ k f : Nat, k < kk → f ≤ l.length → (f = 0 ∨ (k : Int) < (ndAt l (f - 1)).tall) → W.getD (adr N f (5 + k)) 0 = wd l k f) {g : Nat} (hg : L.getD kk 0 = predN g) :
    Part (W.set (adr N g (5 + kk)) 4) N l l.length 0 o L ∧ ∀ k f : Nat, k < kk + 1 → f ≤ l.length → (f = 0 ∨ (k : Int) < (ndAt l (f - 1)).tall) → (W.set (adr N g (5 + kk)) 4).getD (adr N f (5 + k)) 0 = wd l k f := by
  obtain ⟨g', e1, e2, e3, e4⟩ := h.last kk hkk
  have hgg : g' = g := by
    have : predN g' = predN g := by rw [← e1, hg]
    unfold predN at this
    split at this <;> split at this <;> omega
  subst hgg
  have hc : ∀ k, cnt l.length 0 k = l.length := fun k => if_neg (by omega)
  rw [hc] at e2 e4
  have hfew := hk.few
  have hwd : (4 : Int) = wd l kk g' := by
    unfold wd nodeN markN
    rw [nx_none e2 e4, if_neg (Nat.lt_irrefl _), decide_eq_false (Nat.lt_irrefl _)]
    simp
  have huniq : ∀ f, f ≤ l.length → (f = 0 ∨ (kk : Int) < (ndAt l (f - 1)).tall) → ¬ nx l kk f < l.length → f = g' := fun f h1 h2 h3 => by
    rcases Nat.lt_trichotomy f g' with hf | hf | hf
    · have hq : (kk : Int) < (ndAt l (g' - 1)).tall := e3.resolve_left (by omega)
      have := nx_le (l := l) (k := kk) (g := f) (j := g' - 1) (by omega) (by omega) hq
      omega
    · exact hf
    · have hq : (kk : Int) < (ndAt l (f - 1)).tall := h2.resolve_left (by omega)
      exact absurd hq (e4 (f - 1) (by omega) (by omega))
  refine ⟨⟨by rw [List.length_set]; exact h.len, fun y hy => mem_set_u h.u ⟨by omega, by omega⟩ hy, h.L4, h.last, fun k f h1 h2 h3 h4 => ?_, fun j hj => by rw [getD_set_ne' (adr_ne (by omega) (by omega) (.inr (by omega)))]; exact h.order j hj⟩, fun k f h1 h2 h3 => ?_⟩
  · rw [hc] at h4
    by_cases hq : f = g' ∧ k = kk
    · obtain ⟨rfl, rfl⟩ := hq
      rw [nx_none e2 e4] at h4; omega
    · rw [getD_set_ne' (adr_ne (by omega) (by omega) (by omega))]
      exact h.link k f h1 h2 h3 (by rw [hc]; exact h4)
  · by_cases hq : f = g' ∧ k = kk
    · obtain ⟨rfl, rfl⟩ := hq
      rw [getD_set_eq (by rw [h.len]; exact adr_lt (by omega) (by omega))]; exact hwd
    · rw [getD_set_ne' (adr_ne (by omega) (by omega) (by omega))]
      by_cases hkq : k < kk
      · exact hdone k f hkq h2 h3
      · obtain rfl : k = kk := by omega
        refine h.link k f hkk h2 h3 ?_
        rw [hc]
        rcases Nat.lt_or_ge (nx l k f) l.length with hlt | hlt
        · exact hlt
        · exact absurd ⟨huniq f h2 h3 (by omega), rfl⟩ hq
theorem Part.lays (h : Part W N l l.length 0 l.length L) (hk : NdsOk l N) (hdone : ∀ k f : Nat, k < 4 → f ≤ l.length → (f = 0 ∨ (k : Int) < (ndAt l (f - 1)).tall) → W.getD (adr N f (5 + k)) 0 = wd l k f) : Lays W N l :=
  ⟨h.len, hk.few, hk.n20, hk.n3, fun k i h1 h2 h3 => hdone k i h1 h2 h3, fun i hi => by
    have := h.order i hi
    unfold adr at this
    rw [predN_nat, if_neg (by omega), show i + 1 + 2 - 1 = i + 2 by omega, Nat.add_zero] at this
    exact this, hk.u64⟩
end
end Go.Proofs.YtbnbbafffihapaaGreat

/- A machine as at first, on which nodes are laid. -/
namespace Go.Proofs.YtbnbbafffihapaaGreat
open Go.RowKit
attribute [local irreducible] Instr.loadAt Instr.storeAt Instr.fieldAt Instr.indexAt Instr.sliceAt Instr.buildSlice Instr.box Instr.alloc Builtin.append_ Builtin.len_ Builtin.min_ Builtin.max_ Calls Instr.build Instr.makeSlice binSem convert Instr.index Instr.range Instr.next
theorem and64 {P : Program} {K : Value → World → Prop} {w : World} {t : Nat} {y z : Operand} {x : Int} (m : Int) (hm : m = x % 2) (k : K (.int .i64 m) w) : RunP P (binSem .and t y z (.int .i64 x) (.int .i64 1)) K w :=
  rn _ _ (by
    have e : ((BitVec.ofInt 64 x &&& BitVec.ofInt 64 1).toNat : Int) = x % 2 := by
      rw [BitVec.toNat_and, BitVec.toNat_ofInt, BitVec.toNat_ofInt]
      rw [show ((1 : Int) % (2 ^ 64 : Nat)).toNat = 2 ^ 1 - 1 by decide, Nat.and_two_pow_sub_one_eq_mod]
      omega
    have e2 : IntKind.i64.wrap (x % 2) = x % 2 := IntWalk.i64_in _ (by omega)
    simp only [binSem, eqGuard, binOp, Op.intBits]
    show (Sem.pure (Value.int IntKind.i64 (IntKind.i64.wrap ((BitVec.ofInt 64 x &&& BitVec.ofInt 64 1).toNat : Int)))).run P w = _
    rw [e, e2, hm]
    rfl) k
def W0 (N : Nat) : List Int := (layS 2 1 (N : Int) 4 (newMS (sizeP 2 1 (N : Int) 4).toNat)).W
theorem W0_20 : (W0 20).length = 218 ∧ (∀ x ∈ W0 20, u64R x) ∧ (0 ≤ (layS 2 1 20 4 (newMS (sizeP 2 1 20 4).toNat)).k ∧ (layS 2 1 20 4 (newMS (sizeP 2 1 20 4).toNat)).k ≤ 1000) ∧ (layS 2 1 20 4 (newMS (sizeP 2 1 20 4).toNat)).on = false ∧ (layS 2 1 20 4 (newMS (sizeP 2 1 20 4).toNat)).L = [] := by decide +kernel
theorem W0_5 : (W0 5).length = 68 ∧ (∀ x ∈ W0 5, u64R x) ∧ (0 ≤ (layS 2 1 5 4 (newMS (sizeP 2 1 5 4).toNat)).k ∧ (layS 2 1 5 4 (newMS (sizeP 2 1 5 4).toNat)).k ≤ 1000) ∧ (layS 2 1 5 4 (newMS (sizeP 2 1 5 4).toNat)).on = false ∧ (layS 2 1 5 4 (newMS (sizeP 2 1 5 4).toNat)).L = [] := by decide +kernel
theorem lays_5 : Lays (W0 5) 5 [] :=
  ⟨W0_5.1, by decide, by decide, by decide, fun k i h1 h2 h3 => by
    obtain rfl : i = 0 := by simpa using h2
    rcases (show k = 0 ∨ k = 1 ∨ k = 2 ∨ k = 3 by omega) with rfl | rfl | rfl | rfl <;> rw [wd, nx_end (by simp)] <;> decide +kernel, fun i hi => by simp at hi, fun i hi => by simp at hi⟩
structure Fst (w w' : World) (X : Mc) (N : Nat) (k : Int) (t : PT) : Prop where
  new : New w w' X
  abs : X.abs = MM N (W0 N) k false t
  calm : X.s.on = false ∧ X.s.L = []
  fs : t.fs = []
  lens : t.P.length = 4 ∧ t.S.length = 4 ∧ t.W.length = 4
  k0 : 0 ≤ k ∧ k ≤ 1000
  wl : (W0 N).length = 18 + 10 * N
  wu : ∀ x ∈ W0 N, u64R x
set_option maxRecDepth 10000 in
theorem fst_c {N : Nat} (h : N = 20 ∨ N = 5) (w : World) : Fn Tryz.prog 16 #[.int .i64 1, .int .i64 (N : Int)] w fun r w' => ∃ X k t, r = ptrV X.m ∧ Fst w w' X N k t := by
  refine fn_enter Tryz.func16 rfl rfl ?_
  refine and64 1 (by decide) ?_
  refine ar64 (by omega) ?_
  refine mn2 ?_
  refine val (N : Int) (by rcases h with rfl | rfl <;> rfl) ?_
  refine mx2 ?_
  refine val (N : Int) (by rcases h with rfl | rfl <;> rfl) ?_
  refine bd (cf7 ⟨2, 1, (N : Int), 4, 1, 1, 1⟩) (fun _ => by kernel_rfl) ?_
  refine cl (core_new2 (draws := []) false (RdK.nil_ w .u8) (by decide)) ?_
  rintro _ w1 ⟨-, hyes⟩
  have hr : rightC ⟨2, 1, (N : Int), 4, 1, 1, 1⟩ := cL_right (N := N) (by omega) (by omega)
  obtain ⟨m, mp, mv, lv, fp, fv, gs, tv, ths, rfl, hN, hl, hz, hgs, -⟩ := hyes hr
  obtain rfl := hgs rfl
  obtain ⟨t0, rfl⟩ : ∃ t0, ths = [t0] := by
    cases ths with
    | nil => simp at hl
    | cons x r =>
      cases r with
      | nil => exact ⟨x, rfl⟩
      | cons y r => simp at hl; omega
  obtain ⟨g, pv, sv, wv, rfl⟩ := hz t0 (by simp)
  refine ⟨_, _, _, rfl, hN, rfl, ?_, rfl, ⟨by simp [absT, thZ], by simp [absT, thZ], by simp [absT, thZ]⟩, ?_, ?_, ?_⟩
  · rcases h with rfl | rfl
    · exact W0_20.2.2.2
    · exact W0_5.2.2.2
  · rcases h with rfl | rfl
    · exact W0_20.2.2.1
    · exact W0_5.2.2.1
  · rcases h with rfl | rfl
    · exact W0_20.1
    · exact W0_5.1
  · rcases h with rfl | rfl
    · exact W0_20.2.1
    · exact W0_5.2.1
end Go.Proofs.YtbnbbafffihapaaGreat

