/- A machine as things that lie apart. -/
import Derived.Test.YtdomclcokkijjaaFa
import Derived.Test.YtdomclcokkijjaaEu
namespace Go.Proofs.Ytdomclcokkijjaa
open Go.RowKit
attribute [local irreducible] Instr.loadAt Instr.storeAt Instr.fieldAt Instr.indexAt Instr.sliceAt Instr.buildSlice Instr.box Instr.alloc Builtin.append_ Builtin.len_ Builtin.min_ Builtin.max_ Calls Instr.build Instr.makeSlice binSem convert Instr.index Instr.range Instr.next
/-- a thread: where its things lie, what they hold -/
structure Th where
  g : Nat
  (fv pv sv wv rv ov : Value)
  fs : List Fr
  r : Int × Int × Int
  (P S W R O : List Int)
structure Gs where
  p : Nat
  v : Value
  tags : List Int
  (k n : Int)
structure Mc where
  m : Nat
  c : Cf
  mp : Nat
  (v lv : Value)
  s : MS
  gs : Option Gs
  fp : Nat
  fv : Value
  draws : List Int
  used : Int
  tv : Value
  (acted bad : Bool)
  ths : List Th
def ptrs (l : List Th) : List Value := l.map fun (t : Th) => ptrV t.g
def gvOf : Option Gs → Value
  | none => .pointer none
  | some g => ptrV g.p
def obMem (p : Nat) (v lv : Value) (s : MS) : Ob := ⟨mfoot p v lv, fun w => IsMem w p v lv s, fun h hu hS => h.upd hu hS, fun h => h.lt⟩
def obFd (p : Nat) (v : Value) (bs : List Int) (u : Int) : Ob := ⟨p :: v.ownBlock.toList, fun w => IsFd w p v bs u, fun h hu hS => ⟨h.blk.upd hu (hS _ (by simp)), h.s.upd hu (fun g hg => hS g (by simp [hg]))⟩, fun h k hk => by
  rcases List.mem_cons.1 hk with h1 | h1
  · rw [h1]; exact h.blk.lt
  · exact h.s.lt k (by simpa using h1)⟩
def ghFoot : Option Gs → List Nat
  | none => []
  | some g => g.p :: g.v.ownBlock.toList
def ghOk (w : World) : Option Gs → Prop
  | none => True
  | some g => IsG w g.p g.v g.tags g.k g.n
def obGh (gs : Option Gs) : Ob := ⟨ghFoot gs, fun w => ghOk w gs, fun {S w w'} h hu hS => by
  cases gs with
  | none => trivial
  | some g => exact (⟨h.blk.upd hu (hS _ (List.mem_cons_self ..)), h.s.upd hu (fun q hq => hS q (List.mem_cons_of_mem _ (by simp [hq])))⟩ : IsG w' g.p g.v g.tags g.k g.n), fun {w} h k hk => by
  cases gs with
  | none => cases hk
  | some g =>
    rcases List.mem_cons.1 hk with h1 | h1
    · rw [h1]; exact (show IsG w g.p g.v g.tags g.k g.n from h).blk.lt
    · exact (show IsG w g.p g.v g.tags g.k g.n from h).s.lt k (by simpa using h1)⟩
theorem IsThr.upd {S : List Nat} {w w' : World} {g : Nat} {id : Int} {fv : Value} {fs : List Fr} {r : Int × Int × Int} {pv sv wv rv ov : Value} (h : IsThr w g id fv fs r pv sv wv rv ov) (hu : Upd S w w') (hS : ∀ k ∈ g :: fv.ownBlock.toList, k ∉ S) : IsThr w' g id fv fs r pv sv wv rv ov :=
  ⟨h.blk.upd hu (hS _ (by simp)), h.fr.upd hu (fun q hq => hS q (by simp [hq]))⟩
def obCore (id : Int) (t : Th) : Ob := ⟨t.g :: t.fv.ownBlock.toList, fun w => IsThr w t.g id t.fv t.fs t.r t.pv t.sv t.wv t.rv t.ov, fun h hu hS => h.upd hu hS, fun h k hk => by
  rcases List.mem_cons.1 hk with h1 | h1
  · rw [h1]; exact h.blk.lt
  · exact h.fr.lt k (by simpa using h1)⟩
abbrev obU (v : Value) (l : List Int) : Ob := obSl 27 1 v l.length (l.map (.int .u64))
abbrev obI (v : Value) (l : List Int) : Ob := obSl 3 1 v l.length (l.map (.int .i64))
def Th.obs (id : Int) (t : Th) : List Ob := [obCore id t, obU t.pv t.P, obU t.sv t.S, obU t.wv t.W, obI t.rv t.R, obI t.ov t.O]
def obThr (id : Int) (t : Th) : Ob := obAll (t.obs id)
def Mc.obM (X : Mc) : Ob := obBlk X.m TM (machC X.c (ptrV X.mp) (gvOf X.gs) (ptrV X.fp) X.tv X.acted X.bad)
def Mc.obs (X : Mc) : List Ob := [X.obM, obMem X.mp X.v X.lv X.s, obGh X.gs, obFd X.fp X.fv X.draws X.used, obSl TTp 1 X.tv X.ths.length (ptrs X.ths)] ++ X.ths.mapIdx fun i t => obThr (i : Int) t
def Mc.feet (X : Mc) : List Nat := Go.Proofs.Ytdomclcokkijjaa.feet X.obs
def Mach (w : World) (X : Mc) : Prop := Sep w X.obs
structure Post (w : World) (X : Mc) (w' : World) (X' : Mc) : Prop where
  ok : Mach w' X'
  to : To w X.feet w' X'.feet
section
variable {w w' w'' : World} {X X' X'' : Mc}
theorem Post.refl (h : Mach w X) : Post w X w X := ⟨h, To.refl _ _⟩
theorem Post.trans (h : Post w X w' X') (k : Post w' X' w'' X'') : Post w X w'' X'' := ⟨k.ok, h.to.trans k.to⟩
theorem Mach.upd0 (h : Mach w X) (hu : Upd [] w w') : Mach w' X := Sep.upd0 h hu
theorem Post.of0 (h : Mach w X) (hu : Upd [] w w') : Post w X w' X := ⟨h.upd0 hu, .of0 _ hu⟩
theorem Post.upd0 (h : Post w X w' X') (hu : Upd [] w' w'') : Post w X w'' X' := h.trans (.of0 h.ok hu)
theorem Mach.blk (h : Mach w X) : Blk w X.m TM (machC X.c (ptrV X.mp) (gvOf X.gs) (ptrV X.fp) X.tv X.acted X.bad) := Sep.at_ (i := 0) (x := X.obM) h rfl
theorem Mach.mem (h : Mach w X) : IsMem w X.mp X.v X.lv X.s := Sep.at_ (i := 1) (x := obMem X.mp X.v X.lv X.s) h rfl
theorem Mach.gh (h : Mach w X) : ghOk w X.gs := Sep.at_ (i := 2) (x := obGh X.gs) h rfl
theorem Mach.fd (h : Mach w X) : IsFd w X.fp X.fv X.draws X.used := Sep.at_ (i := 3) (x := obFd X.fp X.fv X.draws X.used) h rfl
theorem Mach.tvs (h : Mach w X) : Sl w TTp 1 X.tv X.ths.length (ptrs X.ths) := Sep.at_ (i := 4) (x := obSl TTp 1 X.tv X.ths.length (ptrs X.ths)) h rfl
theorem obs_thr (X : Mc) (i : Nat) (t : Th) (hi : X.ths[i]? = some t) : X.obs[5 + i]? = some (obThr (i : Int) t) := by
  unfold Mc.obs
  rw [List.getElem?_append_right (by simp)]
  simp [hi]
theorem Mach.thr (h : Mach w X) {i : Nat} {t : Th} (hi : X.ths[i]? = some t) : Sep w (t.obs (i : Int)) := Sep.at_ h (obs_thr X i t hi)
theorem Mach.core (h : Mach w X) {i : Nat} {t : Th} (hi : X.ths[i]? = some t) : IsThr w t.g (i : Int) t.fv t.fs t.r t.pv t.sv t.wv t.rv t.ov := Sep.at_ (i := 0) (x := obCore (i : Int) t) (h.thr hi) rfl
theorem Mach.setM {a b : Bool} (h : Mach w X) (hb : Blk w' X.m TM (machC X.c (ptrV X.mp) (gvOf X.gs) (ptrV X.fp) X.tv a b)) (hu : Upd [X.m] w w') : Post w X w' { X with acted := a, bad := b } :=
  have t : To w [X.m] w' [X.m] := ⟨hu, fun _ h => .inl h⟩
  ⟨Sep.set (i := 0) (x := X.obM) (y := Mc.obM { X with acted := a, bad := b }) h rfl hb t, To.set (l := X.obs) (i := 0) (x := X.obM) (y := Mc.obM { X with acted := a, bad := b }) rfl t⟩
theorem Mach.setMem {lv : Value} {s : MS} (h : Mach w X) (hm : IsMem w' X.mp X.v lv s) (t : To w (mfoot X.mp X.v X.lv) w' (mfoot X.mp X.v lv)) : Post w X w' { X with lv := lv, s := s } :=
  ⟨Sep.set (i := 1) (x := obMem X.mp X.v X.lv X.s) (y := obMem X.mp X.v lv s) h rfl hm t, To.set (l := X.obs) (i := 1) (x := obMem X.mp X.v X.lv X.s) (y := obMem X.mp X.v lv s) rfl t⟩
theorem Mach.memPost {s : MS} (h : Mach w X) (hp : MemPost w X.mp X.v X.lv s w') : ∃ lv, Post w X w' { X with lv := lv, s := s } := by
  obtain ⟨lv, h1, h2, h3⟩ := hp
  exact ⟨lv, h.setMem h1 ⟨h2, h3⟩⟩
theorem Mach.setGh {g g' : Gs} (h : Mach w X) (hg : X.gs = some g) (hp : g'.p = g.p) (hv : g'.v = g.v) (hm : IsG w' g'.p g'.v g'.tags g'.k g'.n) (hu : Upd (g.p :: g.v.ownBlock.toList) w w') : Post w X w' { X with gs := some g' } := by
  have t : To w (obGh X.gs).foot w' (obGh (some g')).foot := by
    rw [hg]
    show To w (g.p :: g.v.ownBlock.toList) w' (g'.p :: g'.v.ownBlock.toList)
    rw [hp, hv]
    exact ⟨hu, fun _ h => .inl h⟩
  have e : ({ X with gs := some g' } : Mc).obs = X.obs.set 2 (obGh (some g')) := by
    have : gvOf (some g') = gvOf X.gs := by rw [hg]; show ptrV _ = ptrV _; rw [hp]
    unfold Mc.obs Mc.obM
    simp only [this]; rfl
  refine ⟨?_, ?_⟩
  · show Sep w' (Mc.obs _)
    rw [e]
    exact Sep.set (i := 2) (x := obGh X.gs) h rfl hm t
  · show To w X.feet w' (Go.Proofs.Ytdomclcokkijjaa.feet (Mc.obs _))
    rw [e]
    exact To.set (l := X.obs) (i := 2) (x := obGh X.gs) rfl t
theorem obs_set (X : Mc) (i : Nat) (t t' : Th) (hi : X.ths[i]? = some t) (hg : t'.g = t.g) : ({ X with ths := X.ths.set i t' } : Mc).obs = X.obs.set (5 + i) (obThr (i : Int) t') := by
  have e1 : ptrs (X.ths.set i t') = ptrs X.ths := by
    unfold ptrs
    apply List.ext_getElem?
    intro j
    rw [List.getElem?_map, List.getElem?_map, List.getElem?_set]
    by_cases hj : i = j
    · subst hj
      have hlt := (List.getElem?_eq_some_iff.1 hi).1
      rw [if_pos rfl, if_pos hlt, hi]; simp [hg]
    · rw [if_neg hj]
  have e2 : (X.ths.set i t').mapIdx (fun (i : Nat) t => obThr (i : Int) t) = (X.ths.mapIdx fun (i : Nat) t => obThr (i : Int) t).set i (obThr (i : Int) t') := by
    apply List.ext_getElem?
    intro j
    rw [List.getElem?_mapIdx, List.getElem?_set, List.getElem?_set, List.getElem?_mapIdx, List.length_mapIdx]
    by_cases hj : i = j
    · subst hj
      have hlt := (List.getElem?_eq_some_iff.1 hi).1
      rw [if_pos rfl, if_pos hlt, if_pos rfl, if_pos hlt]; rfl
    · rw [if_neg hj, if_neg hj]
  unfold Mc.obs Mc.obM
  simp only [List.length_set, e1, e2]
  rw [Nat.add_comm 5 i]; rfl
theorem Mach.setTh {i : Nat} {t t' : Th} (h : Mach w X) (hi : X.ths[i]? = some t) (hg : t'.g = t.g) (hs : Sep w' (t'.obs (i : Int))) (hto : To w (Go.Proofs.Ytdomclcokkijjaa.feet (t.obs (i : Int))) w' (Go.Proofs.Ytdomclcokkijjaa.feet (t'.obs (i : Int)))) : Post w X w' { X with ths := X.ths.set i t' } := by
  have e := obs_set X i t t' hi hg
  refine ⟨?_, ?_⟩
  · show Sep w' (Mc.obs _)
    rw [e]
    exact Sep.set h (obs_thr X i t hi) hs hto
  · show To w X.feet w' (Go.Proofs.Ytdomclcokkijjaa.feet (Mc.obs _))
    rw [e]
    exact To.set (obs_thr X i t hi) (y := obThr (i : Int) t') hto
/-- a thread's own block and frames change -/
theorem Mach.setCore {i : Nat} {t : Th} {fv : Value} {fs : List Fr} {r : Int × Int × Int} (h : Mach w X) (hi : X.ths[i]? = some t) (hc : IsThr w' t.g (i : Int) fv fs r t.pv t.sv t.wv t.rv t.ov) (hto : To w (t.g :: t.fv.ownBlock.toList) w' (t.g :: fv.ownBlock.toList)) : Post w X w' { X with ths := X.ths.set i { t with fv := fv, fs := fs, r := r } } :=
  h.setTh hi rfl (Sep.set (i := 0) (x := obCore (i : Int) t) (y := obCore (i : Int) { t with fv := fv, fs := fs, r := r }) (h.thr hi) rfl hc hto) (To.set (l := t.obs (i : Int)) (i := 0) (x := obCore (i : Int) t) (y := obCore (i : Int) { t with fv := fv, fs := fs, r := r }) rfl hto)
end
end Go.Proofs.Ytdomclcokkijjaa
