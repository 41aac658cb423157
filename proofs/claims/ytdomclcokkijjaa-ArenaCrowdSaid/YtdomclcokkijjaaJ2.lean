/- Joined: Fa Fb Fc Fd Fe V18 Ff Fg Fh Fi Fj. -/
import Derived.Test.YtdomclcokkijjaaV17
import Derived.Test.YtdomclcokkijjaaEu
/- Things in memory that lie apart. -/
namespace Go.Proofs.Ytdomclcokkijjaa
open Go.RowKit
attribute [local irreducible] Instr.loadAt Instr.storeAt Instr.fieldAt Instr.indexAt Instr.sliceAt Instr.buildSlice Instr.box Instr.alloc Builtin.append_ Builtin.len_ Builtin.min_ Builtin.max_ Calls Instr.build Instr.makeSlice binSem convert Instr.index Instr.range Instr.next
/-- a thing in memory: where it lies, what is so of it -/
structure Ob where
  foot : List Nat
  ok : World → Prop
  keep : ∀ {S : List Nat} {w w' : World}, ok w → Upd S w w' → (∀ k ∈ foot, k ∉ S) → ok w'
  lt : ∀ {w : World}, ok w → ∀ k ∈ foot, k < w.heap.size
def feet (l : List Ob) : List Nat := l.flatMap (·.foot)
structure Sep (w : World) (l : List Ob) : Prop where
  ok : ∀ x ∈ l, x.ok w
  apart : l.Pairwise fun x y => ∀ k ∈ x.foot, k ∉ y.foot
/-- from a world to one behind it: only what lay in F may have changed; what lies in F' lay in F, or is new -/
structure To (w : World) (F : List Nat) (w' : World) (F' : List Nat) : Prop where
  up : Upd F w w'
  sub : ∀ k ∈ F', k ∈ F ∨ w.heap.size ≤ k
theorem To.refl (w : World) (F : List Nat) : To w F w F := ⟨Upd.refl _ _, fun _ h => .inl h⟩
theorem To.trans {w w1 w2 : World} {F F1 F2 : List Nat} (h : To w F w1 F1) (k : To w1 F1 w2 F2) : To w F w2 F2 :=
  ⟨h.up.step k.up h.sub, fun q hq => by
    have := h.up.size
    rcases k.sub q hq with h1 | h1
    · exact h.sub q h1
    · right; omega⟩
theorem To.of0 {w w' : World} (F : List Nat) (hu : Upd [] w w') : To w F w' F := ⟨hu.mono (by simp), fun _ h => .inl h⟩
theorem To.upd0 {w w1 w2 : World} {F F1 : List Nat} (h : To w F w1 F1) (hu : Upd [] w1 w2) : To w F w2 F1 := h.trans (.of0 _ hu)
theorem To.more {w w' : World} {F F' : List Nat} (h : To w F w' F') (G : List Nat) : To w (F ++ G) w' (F' ++ G) := ⟨h.up.mono (by simp; exact fun _ h => .inl h), fun k hk => by
  rcases List.mem_append.1 hk with h1 | h1
  · rcases h.sub k h1 with h2 | h2
    · exact .inl (List.mem_append.2 (.inl h2))
    · exact .inr h2
  · exact .inl (List.mem_append.2 (.inr h1))⟩
/-- all of F is new since w0 -/
theorem To.new {w0 w w' : World} {F F' : List Nat} (h : To w F w' F') (hu : Upd [] w0 w) (hF : ∀ k ∈ F, w0.heap.size ≤ k) : Upd [] w0 w' ∧ ∀ k ∈ F', w0.heap.size ≤ k :=
  ⟨hu.step h.up (fun x hx => .inr (hF x hx)), fun k hk => by
    have := hu.size
    rcases h.sub k hk with h1 | h1
    · exact hF k h1
    · omega⟩
theorem mem_feet {l : List Ob} {k : Nat} : k ∈ feet l ↔ ∃ x ∈ l, k ∈ x.foot := by simp [feet]
theorem feet_app (a b : List Ob) : feet (a ++ b) = feet a ++ feet b := by simp [feet]
theorem Sep.lt {w : World} {l : List Ob} (h : Sep w l) : ∀ k ∈ feet l, k < w.heap.size := fun k hk => by
  obtain ⟨x, hx, hk⟩ := mem_feet.1 hk
  exact x.lt (h.ok x hx) k hk
theorem Sep.upd {S : List Nat} {w w' : World} {l : List Ob} (h : Sep w l) (hu : Upd S w w') (hS : ∀ k ∈ feet l, k ∉ S) : Sep w' l :=
  ⟨fun x hx => x.keep (h.ok x hx) hu fun k hk => hS k (mem_feet.2 ⟨x, hx, hk⟩), h.apart⟩
theorem Sep.upd0 {w w' : World} {l : List Ob} (h : Sep w l) (hu : Upd [] w w') : Sep w' l := h.upd hu (by simp)
def obAll (l : List Ob) : Ob := ⟨feet l, fun w => Sep w l, fun h hu hS => h.upd hu hS, fun h => h.lt⟩
theorem Sep.nil (w : World) : Sep w [] := ⟨by simp, .nil⟩
theorem pw_at {α : Type} {R : α → α → Prop} {l : List α} (h : l.Pairwise R) {i j : Nat} {x y : α} (hi : l[i]? = some x) (hj : l[j]? = some y) (hlt : i < j) : R x y := by
  obtain ⟨hi1, rfl⟩ := List.getElem?_eq_some_iff.1 hi
  obtain ⟨hj1, rfl⟩ := List.getElem?_eq_some_iff.1 hj
  exact List.pairwise_iff_getElem.1 h i j hi1 hj1 hlt
theorem Sep.apart_ {w : World} {l : List Ob} (h : Sep w l) {i j : Nat} {x y : Ob} (hi : l[i]? = some x) (hj : l[j]? = some y) (hne : i ≠ j) : ∀ k ∈ x.foot, k ∉ y.foot := by
  rcases Nat.lt_or_gt_of_ne hne with h1 | h1
  · exact pw_at h.apart hi hj h1
  · exact fun k hk hk2 => pw_at h.apart hj hi h1 k hk2 hk
theorem Sep.at_ {w : World} {l : List Ob} (h : Sep w l) {i : Nat} {x : Ob} (hi : l[i]? = some x) : x.ok w := h.ok x (List.mem_of_getElem? hi)
/-- one of them becomes another -/
theorem Sep.set {w w' : World} {l : List Ob} {i : Nat} {x y : Ob} (h : Sep w l) (hi : l[i]? = some x) (hy : y.ok w') (ht : To w x.foot w' y.foot) : Sep w' (l.set i y) := by
  have hlt := h.lt
  have hil : i < l.length := (List.getElem?_eq_some_iff.1 hi).1
  have other : ∀ j z, j ≠ i → l[j]? = some z → z.ok w' ∧ (∀ k ∈ y.foot, k ∉ z.foot) := fun j z hj hz => by
    have hap := h.apart_ hi hz (Ne.symm hj)
    refine ⟨z.keep (h.at_ hz) ht.up (fun k hk hk2 => hap k hk2 hk), fun k hk hk2 => ?_⟩
    rcases ht.sub k hk with h1 | h1
    · exact hap k h1 hk2
    · have := z.lt (h.at_ hz) k hk2; omega
  refine ⟨fun z hz => ?_, List.pairwise_iff_getElem.2 fun a b ha hb hab => ?_⟩
  · obtain ⟨j, hj, rfl⟩ := List.getElem_of_mem hz
    rw [List.getElem_set]
    split
    · exact hy
    · rename_i hne
      have hj' : j < l.length := by simpa using hj
      exact (other j _ (Ne.symm hne) (List.getElem?_eq_getElem hj')).1
  · have ha' : a < l.length := by simpa using ha
    have hb' : b < l.length := by simpa using hb
    rw [List.getElem_set, List.getElem_set]
    by_cases h1 : i = a
    · subst h1
      rw [if_pos rfl, if_neg (by omega)]
      exact (other b _ (by omega) (List.getElem?_eq_getElem hb')).2
    · rw [if_neg h1]
      by_cases h2 : i = b
      · subst h2
        rw [if_pos rfl]
        exact fun k hk hk2 => (other a _ (by omega) (List.getElem?_eq_getElem ha')).2 k hk2 hk
      · rw [if_neg h2]
        exact List.pairwise_iff_getElem.1 h.apart a b ha' hb' hab
theorem To.set {w w' : World} {l : List Ob} {i : Nat} {x y : Ob} (hi : l[i]? = some x) (ht : To w x.foot w' y.foot) : To w (feet l) w' (feet (l.set i y)) := by
  refine ⟨ht.up.mono fun k hk => mem_feet.2 ⟨x, List.mem_of_getElem? hi, hk⟩, fun k hk0 => ?_⟩
  obtain ⟨z, hz, hk⟩ := mem_feet.1 hk0
  rcases List.mem_or_eq_of_mem_set hz with h1 | h1
  · exact .inl (mem_feet.2 ⟨z, h1, hk⟩)
  · subst h1
    rcases ht.sub k hk with h2 | h2
    · exact .inl (mem_feet.2 ⟨x, List.mem_of_getElem? hi, h2⟩)
    · exact .inr h2
theorem Sep.add {w w' : World} {l : List Ob} {y : Ob} (h : Sep w l) (hu : Upd [] w w') (hy : y.ok w') (hn : ∀ k ∈ y.foot, w.heap.size ≤ k) : Sep w' (l ++ [y]) := by
  refine ⟨fun x hx => ?_, List.pairwise_append.2 ⟨h.apart, List.pairwise_singleton _ _, fun x hx z hz k hk hk2 => ?_⟩⟩
  · rcases List.mem_append.1 hx with h1 | h1
    · exact (h.upd0 hu).ok x h1
    · rw [List.mem_singleton.1 h1]; exact hy
  · rw [List.mem_singleton.1 hz] at hk2
    have := hn k hk2
    have := x.lt (h.ok x hx) k hk
    omega
theorem Sep.cons {w : World} {l : List Ob} {y : Ob} (h : Sep w l) (hy : y.ok w) (hn : ∀ k ∈ y.foot, k ∉ feet l) : Sep w (y :: l) :=
  ⟨fun x hx => by
    rcases List.mem_cons.1 hx with h1 | h1
    · rw [h1]; exact hy
    · exact h.ok x h1, List.pairwise_cons.2 ⟨fun x hx k hk hk2 => hn k hk (mem_feet.2 ⟨x, hx, hk2⟩), h.apart⟩⟩
def obBlk (g T : Nat) (cs : Array Value) : Ob := ⟨[g], fun w => Blk w g T cs, fun h hu hS => h.upd hu (hS g (by simp)), fun h k hk => by
  rw [List.mem_singleton.1 hk]; exact h.lt⟩
def obSl (e n : Nat) (v : Value) (m : Nat) (xs : List Value) : Ob := ⟨v.ownBlock.toList, fun w => Sl w e n v m xs, fun h hu hS => h.upd hu (fun g hg => hS g (by simp [hg])), fun h k hk => h.lt k (by simpa using hk)⟩
end Go.Proofs.Ytdomclcokkijjaa

/- A machine as things that lie apart. -/
namespace Go.Proofs.Ytdomclcokkijjaa
open Go.RowKit
attribute [local irreducible] Instr.loadAt Instr.storeAt Instr.fieldAt Instr.indexAt Instr.sliceAt Instr.buildSlice Instr.box Instr.alloc Builtin.append_ Builtin.len_ Builtin.min_ Builtin.max_ Calls Instr.build Instr.makeSlice binSem convert Instr.index Instr.range Instr.next
/-- a thread: where its things lie, what they hold -/
structure Th where
  g : Nat
  (fv pv sv wv rv ov : Value)
  fs : List Fr
  r : Int × Int × Int
  (P S W R O : List Int)
structure Gs where
  p : Nat
  v : Value
  tags : List Int
  (k n : Int)
structure Mc where
  m : Nat
  c : Cf
  mp : Nat
  (v lv : Value)
  s : MS
  gs : Option Gs
  fp : Nat
  fv : Value
  draws : List Int
  used : Int
  tv : Value
  (acted bad : Bool)
  ths : List Th
def ptrs (l : List Th) : List Value := l.map fun (t : Th) => ptrV t.g
def gvOf : Option Gs → Value
  | none => .pointer none
  | some g => ptrV g.p
def obMem (p : Nat) (v lv : Value) (s : MS) : Ob := ⟨mfoot p v lv, fun w => IsMem w p v lv s, fun h hu hS => h.upd hu hS, fun h => h.lt⟩
def obFd (p : Nat) (v : Value) (bs : List Int) (u : Int) : Ob := ⟨p :: v.ownBlock.toList, fun w => IsFd w p v bs u, fun h hu hS => ⟨h.blk.upd hu (hS _ (by simp)), h.s.upd hu (fun g hg => hS g (by simp [hg]))⟩, fun h k hk => by
  rcases List.mem_cons.1 hk with h1 | h1
  · rw [h1]; exact h.blk.lt
  · exact h.s.lt k (by simpa using h1)⟩
def ghFoot : Option Gs → List Nat
  | none => []
  | some g => g.p :: g.v.ownBlock.toList
def ghOk (w : World) : Option Gs → Prop
  | none => True
  | some g => IsG w g.p g.v g.tags g.k g.n
def obGh (gs : Option Gs) : Ob := ⟨ghFoot gs, fun w => ghOk w gs, fun {S w w'} h hu hS => by
  cases gs with
  | none => trivial
  | some g => exact (⟨h.blk.upd hu (hS _ (List.mem_cons_self ..)), h.s.upd hu (fun q hq => hS q (List.mem_cons_of_mem _ (by simp [hq])))⟩ : IsG w' g.p g.v g.tags g.k g.n), fun {w} h k hk => by
  cases gs with
  | none => cases hk
  | some g =>
    rcases List.mem_cons.1 hk with h1 | h1
    · rw [h1]; exact (show IsG w g.p g.v g.tags g.k g.n from h).blk.lt
    · exact (show IsG w g.p g.v g.tags g.k g.n from h).s.lt k (by simpa using h1)⟩
theorem IsThr.upd {S : List Nat} {w w' : World} {g : Nat} {id : Int} {fv : Value} {fs : List Fr} {r : Int × Int × Int} {pv sv wv rv ov : Value} (h : IsThr w g id fv fs r pv sv wv rv ov) (hu : Upd S w w') (hS : ∀ k ∈ g :: fv.ownBlock.toList, k ∉ S) : IsThr w' g id fv fs r pv sv wv rv ov :=
  ⟨h.blk.upd hu (hS _ (by simp)), h.fr.upd hu (fun q hq => hS q (by simp [hq]))⟩
def obCore (id : Int) (t : Th) : Ob := ⟨t.g :: t.fv.ownBlock.toList, fun w => IsThr w t.g id t.fv t.fs t.r t.pv t.sv t.wv t.rv t.ov, fun h hu hS => h.upd hu hS, fun h k hk => by
  rcases List.mem_cons.1 hk with h1 | h1
  · rw [h1]; exact h.blk.lt
  · exact h.fr.lt k (by simpa using h1)⟩
abbrev obU (v : Value) (l : List Int) : Ob := obSl 27 1 v l.length (l.map (.int .u64))
abbrev obI (v : Value) (l : List Int) : Ob := obSl 3 1 v l.length (l.map (.int .i64))
def Th.obs (id : Int) (t : Th) : List Ob := [obCore id t, obU t.pv t.P, obU t.sv t.S, obU t.wv t.W, obI t.rv t.R, obI t.ov t.O]
def obThr (id : Int) (t : Th) : Ob := obAll (t.obs id)
def Mc.obM (X : Mc) : Ob := obBlk X.m TM (machC X.c (ptrV X.mp) (gvOf X.gs) (ptrV X.fp) X.tv X.acted X.bad)
def Mc.obs (X : Mc) : List Ob := [X.obM, obMem X.mp X.v X.lv X.s, obGh X.gs, obFd X.fp X.fv X.draws X.used, obSl TTp 1 X.tv X.ths.length (ptrs X.ths)] ++ X.ths.mapIdx fun i t => obThr (i : Int) t
def Mc.feet (X : Mc) : List Nat := Go.Proofs.Ytdomclcokkijjaa.feet X.obs
def Mach (w : World) (X : Mc) : Prop := Sep w X.obs
structure Post (w : World) (X : Mc) (w' : World) (X' : Mc) : Prop where
  ok : Mach w' X'
  to : To w X.feet w' X'.feet
section
variable {w w' w'' : World} {X X' X'' : Mc}
theorem Post.refl (h : Mach w X) : Post w X w X := ⟨h, To.refl _ _⟩
theorem Post.trans (h : Post w X w' X') (k : Post w' X' w'' X'') : Post w X w'' X'' := ⟨k.ok, h.to.trans k.to⟩
theorem Mach.upd0 (h : Mach w X) (hu : Upd [] w w') : Mach w' X := Sep.upd0 h hu
theorem Post.of0 (h : Mach w X) (hu : Upd [] w w') : Post w X w' X := ⟨h.upd0 hu, .of0 _ hu⟩
theorem Post.upd0 (h : Post w X w' X') (hu : Upd [] w' w'') : Post w X w'' X' := h.trans (.of0 h.ok hu)
theorem Mach.blk (h : Mach w X) : Blk w X.m TM (machC X.c (ptrV X.mp) (gvOf X.gs) (ptrV X.fp) X.tv X.acted X.bad) := Sep.at_ (i := 0) (x := X.obM) h rfl
theorem Mach.mem (h : Mach w X) : IsMem w X.mp X.v X.lv X.s := Sep.at_ (i := 1) (x := obMem X.mp X.v X.lv X.s) h rfl
theorem Mach.gh (h : Mach w X) : ghOk w X.gs := Sep.at_ (i := 2) (x := obGh X.gs) h rfl
theorem Mach.fd (h : Mach w X) : IsFd w X.fp X.fv X.draws X.used := Sep.at_ (i := 3) (x := obFd X.fp X.fv X.draws X.used) h rfl
theorem Mach.tvs (h : Mach w X) : Sl w TTp 1 X.tv X.ths.length (ptrs X.ths) := Sep.at_ (i := 4) (x := obSl TTp 1 X.tv X.ths.length (ptrs X.ths)) h rfl
theorem obs_thr (X : Mc) (i : Nat) (t : Th) (hi : X.ths[i]? = some t) : X.obs[5 + i]? = some (obThr (i : Int) t) := by
  unfold Mc.obs
  rw [List.getElem?_append_right (by simp)]
  simp [hi]
theorem Mach.thr (h : Mach w X) {i : Nat} {t : Th} (hi : X.ths[i]? = some t) : Sep w (t.obs (i : Int)) := Sep.at_ h (obs_thr X i t hi)
theorem Mach.core (h : Mach w X) {i : Nat} {t : Th} (hi : X.ths[i]? = some t) : IsThr w t.g (i : Int) t.fv t.fs t.r t.pv t.sv t.wv t.rv t.ov := Sep.at_ (i := 0) (x := obCore (i : Int) t) (h.thr hi) rfl
theorem Mach.setM {a b : Bool} (h : Mach w X) (hb : Blk w' X.m TM (machC X.c (ptrV X.mp) (gvOf X.gs) (ptrV X.fp) X.tv a b)) (hu : Upd [X.m] w w') : Post w X w' { X with acted := a, bad := b } :=
  have t : To w [X.m] w' [X.m] := ⟨hu, fun _ h => .inl h⟩
  ⟨Sep.set (i := 0) (x := X.obM) (y := Mc.obM { X with acted := a, bad := b }) h rfl hb t, To.set (l := X.obs) (i := 0) (x := X.obM) (y := Mc.obM { X with acted := a, bad := b }) rfl t⟩
theorem Mach.setMem {lv : Value} {s : MS} (h : Mach w X) (hm : IsMem w' X.mp X.v lv s) (t : To w (mfoot X.mp X.v X.lv) w' (mfoot X.mp X.v lv)) : Post w X w' { X with lv := lv, s := s } :=
  ⟨Sep.set (i := 1) (x := obMem X.mp X.v X.lv X.s) (y := obMem X.mp X.v lv s) h rfl hm t, To.set (l := X.obs) (i := 1) (x := obMem X.mp X.v X.lv X.s) (y := obMem X.mp X.v lv s) rfl t⟩
theorem Mach.memPost {s : MS} (h : Mach w X) (hp : MemPost w X.mp X.v X.lv s w') : ∃ lv, Post w X w' { X with lv := lv, s := s } := by
  obtain ⟨lv, h1, h2, h3⟩ := hp
  exact ⟨lv, h.setMem h1 ⟨h2, h3⟩⟩
theorem Mach.setGh {g g' : Gs} (h : Mach w X) (hg : X.gs = some g) (hp : g'.p = g.p) (hv : g'.v = g.v) (hm : IsG w' g'.p g'.v g'.tags g'.k g'.n) (hu : Upd (g.p :: g.v.ownBlock.toList) w w') : Post w X w' { X with gs := some g' } := by
  have t : To w (obGh X.gs).foot w' (obGh (some g')).foot := by
    rw [hg]
    show To w (g.p :: g.v.ownBlock.toList) w' (g'.p :: g'.v.ownBlock.toList)
    rw [hp, hv]
    exact ⟨hu, fun _ h => .inl h⟩
  have e : ({ X with gs := some g' } : Mc).obs = X.obs.set 2 (obGh (some g')) := by
    have : gvOf (some g') = gvOf X.gs := by rw [hg]; show ptrV _ = ptrV _; rw [hp]
    unfold Mc.obs Mc.obM
    simp only [this]; rfl
  refine ⟨?_, ?_⟩
  · show Sep w' (Mc.obs _)
    rw [e]
    exact Sep.set (i := 2) (x := obGh X.gs) h rfl hm t
  · show To w X.feet w' (Go.Proofs.Ytdomclcokkijjaa.feet (Mc.obs _))
    rw [e]
    exact To.set (l := X.obs) (i := 2) (x := obGh X.gs) rfl t
theorem obs_set (X : Mc) (i : Nat) (t t' : Th) (hi : X.ths[i]? = some t) (hg : t'.g = t.g) : ({ X with ths := X.ths.set i t' } : Mc).obs = X.obs.set (5 + i) (obThr (i : Int) t') := by
  have e1 : ptrs (X.ths.set i t') = ptrs X.ths := by
    unfold ptrs
    apply List.ext_getElem?
    intro j
    rw [List.getElem?_map, List.getElem?_map, List.getElem?_set]
    by_cases hj : i = j
    · subst hj
      have hlt := (List.getElem?_eq_some_iff.1 hi).1
      rw [if_pos rfl, if_pos hlt, hi]; simp [hg]
    · rw [if_neg hj]
  have e2 : (X.ths.set i t').mapIdx (fun (i : Nat) t => obThr (i : Int) t) = (X.ths.mapIdx fun (i : Nat) t => obThr (i : Int) t).set i (obThr (i : Int) t') := by
    apply List.ext_getElem?
    intro j
    rw [List.getElem?_mapIdx, List.getElem?_set, List.getElem?_set, List.getElem?_mapIdx, List.length_mapIdx]
    by_cases hj : i = j
    · subst hj
      have hlt := (List.getElem?_eq_some_iff.1 hi).1
      rw [if_pos rfl, if_pos hlt, if_pos rfl, if_pos hlt]; rfl
    · rw [if_neg hj, if_neg hj]
  unfold Mc.obs Mc.obM
  simp only [List.length_set, e1, e2]
  rw [Nat.add_comm 5 i]; rfl
theorem Mach.setTh {i : Nat} {t t' : Th} (h : Mach w X) (hi : X.ths[i]? = some t) (hg : t'.g = t.g) (hs : Sep w' (t'.obs (i : Int))) (hto : To w (Go.Proofs.Ytdomclcokkijjaa.feet (t.obs (i : Int))) w' (Go.Proofs.Ytdomclcokkijjaa.feet (t'.obs (i : Int)))) : Post w X w' { X with ths := X.ths.set i t' } := by
  have e := obs_set X i t t' hi hg
  refine ⟨?_, ?_⟩
  · show Sep w' (Mc.obs _)
    rw [e]
    exact Sep.set h (obs_thr X i t hi) hs hto
  · show To w X.feet w' (Go.Proofs.Ytdomclcokkijjaa.feet (Mc.obs _))
    rw [e]
    exact To.set (obs_thr X i t hi) (y := obThr (i : Int) t') hto
/-- a thread's own block and frames change -/
theorem Mach.setCore {i : Nat} {t : Th} {fv : Value} {fs : List Fr} {r : Int × Int × Int} (h : Mach w X) (hi : X.ths[i]? = some t) (hc : IsThr w' t.g (i : Int) fv fs r t.pv t.sv t.wv t.rv t.ov) (hto : To w (t.g :: t.fv.ownBlock.toList) w' (t.g :: fv.ownBlock.toList)) : Post w X w' { X with ths := X.ths.set i { t with fv := fv, fs := fs, r := r } } :=
  h.setTh hi rfl (Sep.set (i := 0) (x := obCore (i : Int) t) (y := obCore (i : Int) { t with fv := fv, fs := fs, r := r }) (h.thr hi) rfl hc hto) (To.set (l := t.obs (i : Int)) (i := 0) (x := obCore (i : Int) t) (y := obCore (i : Int) { t with fv := fv, fs := fs, r := r }) rfl hto)
end
end Go.Proofs.Ytdomclcokkijjaa

/- Contracts: core.New, all its things apart. -/
namespace Go.Proofs.Ytdomclcokkijjaa
open Go.RowKit
attribute [local irreducible] Instr.loadAt Instr.storeAt Instr.fieldAt Instr.indexAt Instr.sliceAt Instr.buildSlice Instr.box Instr.alloc Builtin.append_ Builtin.len_ Builtin.min_ Builtin.max_ Calls Instr.build Instr.makeSlice binSem convert Instr.index Instr.range Instr.next
theorem Sep.singles {w : World} : Sep w [] := Sep.nil w
def thZ (g : Nat) (pv sv wv : Value) (l : Nat) : Th := ⟨g, .slice none 0 0, pv, sv, wv, .slice none 0 0, .slice none 0 0, [], (0, 0, 0), List.replicate l 0, List.replicate l 0, List.replicate l 0, [], []⟩
theorem obs_snoc (X : Mc) (tv : Value) (t : Th) : ({ X with tv := tv, ths := X.ths ++ [t] } : Mc).obs = (((X.obs ++ [obThr (X.ths.length : Int) t]).set 4 (obSl TTp 1 tv (X.ths.length + 1) (ptrs X.ths ++ [ptrV t.g]))).set 0 (Mc.obM { X with tv := tv })) := by
  unfold Mc.obs Mc.obM ptrs
  simp [List.mapIdx_append]
/-- a machine that is being made -/
structure New (w w' : World) (X : Mc) : Prop where
  ok : Mach w' X
  up : Upd [] w w'
  fr : ∀ k ∈ X.feet, w.heap.size ≤ k
theorem New.post {w w' w'' : World} {X X' : Mc} (h : New w w' X) (p : Post w' X w'' X') : New w w'' X' := by
  obtain ⟨h1, h2⟩ := p.to.new h.up h.fr
  exact ⟨p.ok, h1, h2⟩
theorem New.rebase {w0 w w' : World} {X : Mc} (h : New w w' X) (hu : Upd [] w0 w) : New w0 w' X := ⟨h.ok, hu.trans h.up, fun k hk => by have := h.fr k hk; have := hu.size; omega⟩
def mc0 (m : Nat) (c : Cf) (mp : Nat) (v lv : Value) (s : MS) (gs : Option Gs) (fp : Nat) (fv : Value) (draws : List Int) (tv : Value) (ths : List Th) : Mc := ⟨m, c, mp, v, lv, s, gs, fp, fv, draws, 0, tv, false, false, ths⟩
theorem thZ_sep {w : World} {g a b c l : Nat} {id : Int} (hb : Blk w g TT (thrC id (.slice none 0 0) (0, 0, 0) (.slice (some ⟨a, 0, none⟩) l l) (.slice (some ⟨b, 0, none⟩) l l) (.slice (some ⟨c, 0, none⟩) l l) (.slice none 0 0) (.slice none 0 0)))
    (h1 : Sl w 27 1 (.slice (some ⟨a, 0, none⟩) l l) l (zerosV l)) (h2 : Sl w 27 1 (.slice (some ⟨b, 0, none⟩) l l) l (zerosV l)) (h3 : Sl w 27 1 (.slice (some ⟨c, 0, none⟩) l l) l (zerosV l)) (n1 : a ≠ b) (n2 : a ≠ c) (n3 : b ≠ c) (n4 : g ≠ a) (n5 : g ≠ b) (n6 : g ≠ c) :
    Sep w ((thZ g (.slice (some ⟨a, 0, none⟩) l l) (.slice (some ⟨b, 0, none⟩) l l) (.slice (some ⟨c, 0, none⟩) l l) l).obs id) := by
  have e : ∀ v : Value, Sl w 27 1 v l (zerosV l) → (obU v (List.replicate l 0)).ok w := fun v h => by
    show Sl w _ 1 v (List.replicate l (0 : Int)).length _
    rw [List.length_replicate]; exact h
  have n0 : (obI (.slice none 0 0) []).ok w := Sl.nil_ _ _ _
  refine Sep.cons (Sep.cons (Sep.cons (Sep.cons (Sep.cons (Sep.cons (Sep.nil w) n0 ?_) n0 ?_) (e _ h3) ?_) (e _ h2) ?_) (e _ h1) ?_) (⟨hb, Sl.nil_ _ _ _⟩) ?_
  all_goals
    simp [feet, obSl, obCore, thZ, Value.ownBlock]
    try omega
set_option maxRecDepth 100000 in
theorem core_new2 {w : World} {v : Value} {draws : List Int} {A T N L B P S : Int} (gh : Bool) (hv : RdK w .u8 v draws) (hl : draws.length ≤ 5000) :
    Fn Try.prog 20 #[.agg (cf7 ⟨A, T, N, L, B, P, S⟩), v, .bool gh] w fun r w' => (¬ rightC ⟨A, T, N, L, B, P, S⟩ → r = .tuple #[.pointer none, .int .i64 6] ∧ Upd [] w w') ∧
      (rightC ⟨A, T, N, L, B, P, S⟩ → ∃ m mp mv lv fp fv gs tv ths, r = .tuple #[ptrV m, .int .i64 0] ∧ New w w' (mc0 m ⟨A, T, N, L, B, P, S⟩ mp mv lv (layS A T N L (newMS (sizeP A T N L).toNat)) gs fp fv draws tv ths) ∧ (ths.length : Int) = T ∧
        (∀ t ∈ ths, ∃ g pv sv wv, t = thZ g pv sv wv L.toNat) ∧ (gh = false → gs = none) ∧ (gh = true → ∃ gp gv', gs = some ⟨gp, gv', liveL N.toNat (sentP A).toNat, 0, 0⟩)) := by
  refine fn_enter Try.func20 rfl rfl ?_
  refine bx fun w1 hb1 hu1 hs1 => ?_
  have hb1 : Blk w1 w.heap.size 42 (cf7 ⟨A, T, N, L, B, P, S⟩) := hb1
  refine ldw hb1 rfl ?_
  refine cl (new_c ⟨A, T, N, L, B, P, S⟩ w1) ?_
  rintro _ w2 ⟨rfl, hu2⟩
  refine al z15 (fun _ => by kernel_rfl) fun w3 hb3 hu3 hs3 => ?_
  by_cases hr : rightC ⟨A, T, N, L, B, P, S⟩
  rotate_left
  · rw [if_neg hr, if_neg hr]
    refine stw hb3 rfl rfl rfl fun w4 hb4 hu4 hs4 => ?_
    exact ⟨fun _ => ⟨rfl, ((hu1.trans hu2).trans hu3).step hu4 (by have := hu1.size; have := hu2.size; simp; omega)⟩, fun h => absurd h hr⟩
  rw [if_pos hr, if_pos hr]
  obtain ⟨b1, b2, b3, b4, b5, b6, b7, b8, b9, b10, b11, b12⟩ := plan_bd hr
  refine stw hb3 rfl rfl rfl fun w4 hb4 hu4 hs4 => ?_
  have hb4 : Blk w4 w2.heap.size TP (planC ⟨A, T, N, L, B, P, S⟩) := hb4
  have hz2 := hu2.size
  have hU4 : Upd [] w w4 := ((hu1.trans hu2).trans hu3).step hu4 (by simp; omega)
  have hc4 := ((hb1.upd hu2 (by simp)).upd hu3 (by simp)).upd hu4 (by simp; omega)
  generalize hg1 : w.heap.size = g1 at hc4
  generalize w2.heap.size = g2 at *
  refine ldw hb4 rfl ?_
  refine cl (size_c A T N L B P S w4) ?_
  rintro _ w5 ⟨rfl, hu5⟩
  obtain ⟨n, hn⟩ : ∃ n : Nat, sizeP A T N L = (n : Int) := ⟨_, (Int.toNat_of_nonneg (by omega)).symm⟩
  have hnn : (sizeP A T N L).toNat = n := by omega
  rw [hnn, hn]
  refine cl (new_yes n w5 (by omega) (by omega)) ?_
  rintro _ w6 ⟨mp, mv, rfl, hm6, hu6, hf6⟩
  have hU6 := (hU4.trans hu5).trans hu6
  have hc6 := (hc4.upd hu5 (by simp)).upd hu6 (by simp)
  have hp6 := (hb4.upd hu5 (by simp)).upd hu6 (by simp)
  refine ldw hp6 rfl ?_
  refine cl (lay_c hm6 ⟨Int.le_refl _, Int.le_refl _, rfl, rfl⟩ hr) ?_
  rintro _ w7 ⟨lv, hm7, hu7, hf7⟩
  have hz46 : w4.heap.size ≤ w5.heap.size := hu5.size
  have hz4 := hU4.size
  have hF : ∀ k ∈ mfoot mp mv lv, w.heap.size ≤ k := fun k hk => by
    have h6 := hU6.size
    rcases hf7 k hk with h | h
    · have := hf6 k h; omega
    · omega
  have hU7 : Upd [] w w7 := hU6.step hu7 (fun k hk => .inr (by have := hf6 k hk; omega))
  have hc7 := hc6.upd hu7 (hm6.off hc6 (by decide) (by decide) (by decide))
  have hp7 := hp6.upd hu7 (hm6.off hp6 (by decide) (by decide) (by decide))
  generalize layS A T N L (newMS n) = ms at *
  refine draw_mix 6 [(0, true), (1, true), (2, true), (3, false), (4, true), (5, false)] (fun w' => Upd [] w7 w') (by decide +kernel) (Upd.refl [] w7).drew ?_
  refine rq (.agg (planC ⟨A, T, N, L, B, P, S⟩)) (fun w' hw' => ldw (hp7.upd hw' (by simp)) rfl ⟨rfl, rfl⟩) ?_
  refine cl (feed_new (hv.upd0 hU7.drew) (by omega)) ?_
  rintro _ w8 ⟨⟨fp, fv, rfl, hfp, hfv, hfd⟩, hu8⟩
  have hu78 : Upd [] w7 w8 := (Upd.refl [] w7).drew.trans hu8
  refine ⟨hu78, ?_⟩
  refine rq (.agg (machC ⟨A, T, N, L, B, P, S⟩ (ptrV mp) (.pointer none) (ptrV fp) (.slice none 0 0) false false)) (fun _ _ => bd _ (fun _ => by kernel_rfl) ⟨rfl, rfl⟩) ?_
  refine bx fun w9 hb9 hu9 hs9 => ?_
  refine ⟨hu78.trans hu9, ?_⟩
  have hb9 : Blk w9 w8.heap.size TM (machC ⟨A, T, N, L, B, P, S⟩ (ptrV mp) (.pointer none) (ptrV fp) (.slice none 0 0) false false) := hb9
  have hu79 := hu78.trans hu9
  have hU9 := hU7.trans hu79
  have e78 : w7.drew.heap.size = w7.heap.size := rfl
  have hz7 := hU7.size
  have hz78 := hu78.size
  have F9 : ∀ k ∈ fp :: fv.ownBlock.toList, w7.heap.size ≤ k := fun k hk => by
    rcases List.mem_cons.1 hk with h | h
    · rw [h]; exact hfp
    · exact hfv k (by simpa using h)
  have S8 : Sep w8 [obMem mp mv lv ms, obGh none, obFd fp fv draws 0, obSl TTp 1 (.slice none 0 0) 0 []] := by
    refine Sep.cons (Sep.cons (Sep.cons (Sep.cons (Sep.nil w8) (Sl.nil_ _ _ _) (by simp [obSl, Value.ownBlock])) hfd ?_) trivial (by simp [obGh, ghFoot])) (hm7.upd hu78 (by simp)) ?_
    · simp [feet, obSl, Value.ownBlock]
    · intro k hk hk2
      have := hm7.lt k hk
      simp only [feet, obGh, ghFoot, obFd, obSl, List.flatMap_cons, List.flatMap_nil, List.append_nil, List.nil_append] at hk2
      rcases List.mem_append.1 hk2 with h | h
      · have := F9 k h; omega
      · simp [Value.ownBlock] at h
  have N9 : New w w9 (mc0 w8.heap.size ⟨A, T, N, L, B, P, S⟩ mp mv lv ms none fp fv draws (.slice none 0 0) []) := by
    refine ⟨?_, hU9, ?_⟩
    · refine Sep.cons (y := obBlk w8.heap.size TM (machC ⟨A, T, N, L, B, P, S⟩ (ptrV mp) (.pointer none) (ptrV fp) (.slice none 0 0) false false)) (S8.upd0 hu9) hb9 ?_
      intro k hk hk2
      have h1 := S8.lt k hk2
      have h2 : k = w8.heap.size := List.mem_singleton.1 hk
      omega
    · intro k hk
      obtain ⟨x, hx, hk⟩ := mem_feet.1 hk
      have hx : x ∈ [obBlk w8.heap.size TM (machC ⟨A, T, N, L, B, P, S⟩ (ptrV mp) (.pointer none) (ptrV fp) (.slice none 0 0) false false), obMem mp mv lv ms, obGh none, obFd fp fv draws 0, obSl TTp 1 (.slice none 0 0) 0 []] := hx
      simp only [List.mem_cons, List.not_mem_nil, or_false] at hx
      rcases hx with rfl | rfl | rfl | rfl | rfl
      · have h2 : k = w8.heap.size := List.mem_singleton.1 hk
        omega
      · exact hF k hk
      · simp [obGh, ghFoot] at hk
      · have := F9 k hk; omega
      · simp [obSl, Value.ownBlock] at hk
  have hc9 := hc7.upd hu79 (by simp)
  have hp9 := hp7.upd hu79 (by simp)
  have hmg1 : w8.heap.size ≠ g1 := fun h => by have := hc7.lt; have := hu78.size; omega
  have hmg2 : w8.heap.size ≠ g2 := fun h => by have := hp7.lt; have := hu78.size; omega
  have hN9m := N9.ok.blk
  generalize w8.heap.size = m at *
  cases gh with
  | false =>
    refine fa ?_
    refine ldb (hc9) (v := .int .i64 T) rfl ?_
    obtain ⟨t, ht⟩ : ∃ t : Nat, T = (t : Int) := ⟨_, (Int.toNat_of_nonneg (by omega)).symm⟩
    refine loop_rule [3, 11, 49] [50] (fun vs w' k => ∃ (i : Nat) (tv : Value) (ths : List Th), vs = [.int .i64 (i : Int)] ∧ i ≤ t ∧ k = t - i ∧ ths.length = i ∧ (∀ t ∈ ths, ∃ g pv sv wv, t = thZ g pv sv wv L.toNat) ∧ New w w' (mc0 m ⟨A, T, N, L, B, P, S⟩ mp mv lv ms (none) fp fv draws tv ths) ∧ Blk w' g1 42 (cf7 ⟨A, T, N, L, B, P, S⟩)) rfl [.int .i64 0] t rfl
      ⟨0, _, _, rfl, by omega, rfl, rfl, (by simp), N9, hc9⟩ ?_
    rintro _ x1 k ⟨i, tv, ths, rfl, hi, rfl, hpl, hz, J, hx1⟩
    refine cd (fun hlt => ?_) (fun hlt => ?_)
    · obtain ⟨l, hL⟩ : ∃ l : Nat, L = (l : Int) := ⟨_, (Int.toNat_of_nonneg (by omega)).symm⟩
      have hLn : L.toNat = l := by omega
      have hne1 : tv.ownBlock ≠ some m := J.ok.tvs.blk_ne J.ok.blk (by decide)
      have hne2 : tv.ownBlock ≠ some g1 := J.ok.tvs.blk_ne hx1 (by decide)
      have hsb : ∀ w', Upd tv.ownBlock.toList x1 w' → Blk w' m TM (machC ⟨A, T, N, L, B, P, S⟩ (ptrV mp) (gvOf (none)) (ptrV fp) tv false false) := fun w' hu => J.ok.blk.upd hu (by show m ∉ _; simpa using hne1)
      have hsc : ∀ w', Upd tv.ownBlock.toList x1 w' → Blk w' g1 42 _ := fun w' hu => hx1.upd hu (by simpa using hne2)
      refine draw_tree 19 treeT (fun w' => Upd tv.ownBlock.toList x1 w') (by decide +kernel) (Upd.refl _ x1).drew ?_
      refine q_fa ?_
      refine q_ld (v := tv) (fun w' hw' => (hsb w' hw').cell 18) ?_
      refine q_fa ?_
      refine q_ld (v := .int .i64 L) (fun w' hw' => (hsc w' hw').cell 3) ?_
      refine q_fa ?_
      refine q_ld (v := .int .i64 L) (fun w' hw' => (hsc w' hw').cell 3) ?_
      refine q_fa ?_
      refine q_ld (v := .int .i64 L) (fun w' hw' => (hsc w' hw').cell 3) ?_
      have Us : Upd tv.ownBlock.toList x1 x1.drew := (Upd.refl _ x1).drew
      refine ⟨?_, ?_, ?_⟩
      · refine mks l hL hL (by omega) (by omega) fun xa ha ua za => ?_
        have Va := (Upd.refl [] x1).drew.trans ua
        refine ⟨Va.mono (by simp), ?_⟩
        refine ⟨?_, ?_⟩
        · refine mks l hL hL (by omega) (by omega) fun xb hb ub zb => ?_
          have Vb := Va.trans ub
          refine ⟨Vb.mono (by simp), ?_⟩
          refine mks l hL hL (by omega) (by omega) fun xc hc uc zc => ?_
          have Vc := Vb.trans uc
          refine ⟨Vc.mono (by simp), ?_⟩
          have sa := ((zeros_sl ha (by omega)).upd ub (by simp)).upd uc (by simp)
          have sb := (zeros_sl hb (by omega)).upd uc (by simp)
          have sc := zeros_sl hc (by omega)
          refine rq (.agg (thrC (i : Int) (.slice none 0 0) (0, 0, 0) (.slice (some ⟨x1.drew.heap.size, 0, none⟩) l l) (.slice (some ⟨xa.heap.size, 0, none⟩) l l) (.slice (some ⟨xb.heap.size, 0, none⟩) l l) (.slice none 0 0) (.slice none 0 0))) (fun _ _ => bd _ (fun _ => by kernel_rfl) ⟨rfl, rfl⟩) ?_
          refine bx fun xd hd ud zd => ?_
          have hd : Blk xd xc.heap.size TT (thrC (i : Int) (.slice none 0 0) (0, 0, 0) (.slice (some ⟨x1.drew.heap.size, 0, none⟩) l l) (.slice (some ⟨xa.heap.size, 0, none⟩) l l) (.slice (some ⟨xb.heap.size, 0, none⟩) l l) (.slice none 0 0) (.slice none 0 0)) := hd
          have Vd := Vc.trans ud
          refine ⟨Vd.mono (by simp), ?_⟩
          refine bs #[ptrV xc.heap.size] (fun _ => by kernel_rfl) fun xe he ue ze => ?_
          have Ve := Vd.trans ue
          refine ⟨Ve.mono (by simp), ?_⟩
          have zx := Vc.size
          have ex1 : x1.drew.heap.size = x1.heap.size := rfl
          refine apg (J.ok.tvs.upd Ve (by simp)) he rfl rfl (by decide) (by simp only [maxLen]; show ths.length + 1 ≤ _; omega) (by show (ths.length + 1) * 8 ≤ _; omega) fun tv2 xf hsf hGf => ?_
          have Uf : Upd tv.ownBlock.toList x1 xf := (Ve.mono (by simp)).trans hGf.up
          refine ⟨Uf, ?_⟩
          obtain ⟨tva, tvc, rfl, -⟩ := hsf.form
          replace hsf : Sl xf TTp 1 (.slice tva (ths.length + 1) tvc) (ths.length + 1) (ptrs ths ++ [ptrV xc.heap.size]) := hsf
          replace hGf : Grow xe xf tv (.slice tva (ths.length + 1) tvc) := hGf
          refine fa ?_
          refine st (hsb xf Uf) (by show 18 < 21; omega) rfl fun xg hg ug zg => ?_
          refine ar64 (by omega) ?_
          have Z : Sep xd ((thZ xc.heap.size (.slice (some ⟨x1.drew.heap.size, 0, none⟩) l l) (.slice (some ⟨xa.heap.size, 0, none⟩) l l) (.slice (some ⟨xb.heap.size, 0, none⟩) l l) l).obs (i : Int)) := thZ_sep hd ((sa).upd ud (by simp)) ((sb).upd ud (by simp)) ((sc).upd ud (by simp)) (by omega) (by omega) (by omega) (by omega) (by omega) (by omega)
          obtain ⟨th, hth⟩ : ∃ th, th = thZ xc.heap.size (.slice (some ⟨x1.drew.heap.size, 0, none⟩) l l) (.slice (some ⟨xa.heap.size, 0, none⟩) l l) (.slice (some ⟨xb.heap.size, 0, none⟩) l l) l := ⟨_, rfl⟩
          rw [← hth] at Z
          have hthg : th.g = xc.heap.size := by rw [hth]; rfl
          have hnew : ∀ k ∈ (obThr (i : Int) th).foot, x1.heap.size ≤ k := by
            rw [hth]
            show ∀ k ∈ feet _, _
            intro k hk
            simp [feet, Th.obs, obSl, obCore, thZ, Value.ownBlock] at hk
            rcases hk with rfl | rfl | rfl | rfl <;> omega
          have S1 := Sep.add (y := obThr (i : Int) th) J.ok Vd Z hnew
          have S2 := S1.upd0 ue
          have T2 : To x1 (Mc.feet (mc0 m ⟨A, T, N, L, B, P, S⟩ mp mv lv ms (none) fp fv draws tv ths)) xe (feet (Mc.obs (mc0 m ⟨A, T, N, L, B, P, S⟩ mp mv lv ms (none) fp fv draws tv ths) ++ [obThr (i : Int) th])) := ⟨Ve.mono (by simp), fun k hk => by
            rw [feet_app] at hk
            rcases List.mem_append.1 hk with h | h
            · exact .inl h
            · exact .inr (hnew k (by simpa [feet] using h))⟩
          have tz : To xe (obSl TTp 1 tv ths.length (ptrs ths)).foot xf (obSl TTp 1 (.slice tva (ths.length + 1) tvc) (ths.length + 1) (ptrs ths ++ [ptrV th.g])).foot := ⟨hGf.up, fun k hk => by
            rcases hGf.own k (by simpa [obSl] using hk) with h | h
            · exact .inl (by simpa [obSl] using h)
            · exact .inr h⟩
          have S3 := Sep.set (i := 4) (x := obSl TTp 1 tv ths.length (ptrs ths)) (y := obSl TTp 1 (.slice tva (ths.length + 1) tvc) (ths.length + 1) (ptrs ths ++ [ptrV th.g])) S2 rfl (by rw [hthg]; exact hsf) tz
          have T3 := T2.trans (To.set (l := Mc.obs (mc0 m ⟨A, T, N, L, B, P, S⟩ mp mv lv ms (none) fp fv draws tv ths) ++ [obThr (i : Int) th]) (i := 4) (x := obSl TTp 1 tv ths.length (ptrs ths)) rfl tz)
          have tm : To xf [m] xg [m] := ⟨ug, fun _ h => .inl h⟩
          have S4 := Sep.set (i := 0) (x := Mc.obM (mc0 m ⟨A, T, N, L, B, P, S⟩ mp mv lv ms (none) fp fv draws tv ths)) (y := Mc.obM (mc0 m ⟨A, T, N, L, B, P, S⟩ mp mv lv ms (none) fp fv draws (.slice tva (ths.length + 1) tvc) ths)) S3 rfl hg tm
          have T4 := T3.trans (To.set (i := 0) (x := Mc.obM (mc0 m ⟨A, T, N, L, B, P, S⟩ mp mv lv ms (none) fp fv draws tv ths)) (y := Mc.obM (mc0 m ⟨A, T, N, L, B, P, S⟩ mp mv lv ms (none) fp fv draws (.slice tva (ths.length + 1) tvc) ths)) rfl tm)
          have eo : Mc.obs (mc0 m ⟨A, T, N, L, B, P, S⟩ mp mv lv ms (none) fp fv draws (.slice tva (ths.length + 1) tvc) (ths ++ [th])) = (((Mc.obs (mc0 m ⟨A, T, N, L, B, P, S⟩ mp mv lv ms (none) fp fv draws tv ths) ++ [obThr (i : Int) th]).set 4 (obSl TTp 1 (.slice tva (ths.length + 1) tvc) (ths.length + 1) (ptrs ths ++ [ptrV th.g]))).set 0 (Mc.obM (mc0 m ⟨A, T, N, L, B, P, S⟩ mp mv lv ms (none) fp fv draws (.slice tva (ths.length + 1) tvc) ths))) := by
            have eo := obs_snoc (mc0 m ⟨A, T, N, L, B, P, S⟩ mp mv lv ms (none) fp fv draws tv ths) (.slice tva (ths.length + 1) tvc) th
            have el : ((mc0 m ⟨A, T, N, L, B, P, S⟩ mp mv lv ms (none) fp fv draws tv ths).ths.length : Int) = (i : Int) := by show (ths.length : Int) = _; rw [hpl]
            rw [el] at eo
            exact eo
          refine round_mk [.int .i64 ((i + 1 : Nat) : Int)] (t - (i + 1)) rfl rfl ⟨i + 1, .slice tva (ths.length + 1) tvc, ths ++ [th], rfl, by omega, rfl, by rw [List.length_append, hpl]; rfl, ?_, ?_, (hsc xf Uf).upd ug (by simp; exact fun h => hmg1 h.symm)⟩ (by omega)
          · intro t ht
            rcases List.mem_append.1 ht with h | h
            · exact hz t h
            · rw [List.mem_singleton.1 h, hth, hLn]
              exact ⟨_, _, _, _, rfl⟩
          · have P4 : Post x1 (mc0 m ⟨A, T, N, L, B, P, S⟩ mp mv lv ms (none) fp fv draws tv ths) xg (mc0 m ⟨A, T, N, L, B, P, S⟩ mp mv lv ms (none) fp fv draws (.slice tva (ths.length + 1) tvc) (ths ++ [th])) := by
              refine ⟨?_, ?_⟩
              · show Sep xg (Mc.obs (mc0 m ⟨A, T, N, L, B, P, S⟩ mp mv lv ms (none) fp fv draws (.slice tva (ths.length + 1) tvc) (ths ++ [th])))
                rw [eo]; exact S4
              · show To x1 (Mc.feet (mc0 m ⟨A, T, N, L, B, P, S⟩ mp mv lv ms (none) fp fv draws tv ths)) xg (feet (Mc.obs (mc0 m ⟨A, T, N, L, B, P, S⟩ mp mv lv ms (none) fp fv draws (.slice tva (ths.length + 1) tvc) (ths ++ [th]))))
                rw [eo]; exact T4
            exact J.post P4
        · refine mks l hL hL (by omega) (by omega) fun xb hb ub zb => ?_
          have Vb := Va.trans ub
          refine ⟨Vb.mono (by simp), ?_⟩
          refine mks l hL hL (by omega) (by omega) fun xc hc uc zc => ?_
          have Vc := Vb.trans uc
          refine ⟨Vc.mono (by simp), ?_⟩
          have sa := ((zeros_sl ha (by omega)).upd ub (by simp)).upd uc (by simp)
          have sb := (zeros_sl hb (by omega)).upd uc (by simp)
          have sc := zeros_sl hc (by omega)
          refine rq (.agg (thrC (i : Int) (.slice none 0 0) (0, 0, 0) (.slice (some ⟨x1.drew.heap.size, 0, none⟩) l l) (.slice (some ⟨xb.heap.size, 0, none⟩) l l) (.slice (some ⟨xa.heap.size, 0, none⟩) l l) (.slice none 0 0) (.slice none 0 0))) (fun _ _ => bd _ (fun _ => by kernel_rfl) ⟨rfl, rfl⟩) ?_
          refine bx fun xd hd ud zd => ?_
          have hd : Blk xd xc.heap.size TT (thrC (i : Int) (.slice none 0 0) (0, 0, 0) (.slice (some ⟨x1.drew.heap.size, 0, none⟩) l l) (.slice (some ⟨xb.heap.size, 0, none⟩) l l) (.slice (some ⟨xa.heap.size, 0, none⟩) l l) (.slice none 0 0) (.slice none 0 0)) := hd
          have Vd := Vc.trans ud
          refine ⟨Vd.mono (by simp), ?_⟩
          refine bs #[ptrV xc.heap.size] (fun _ => by kernel_rfl) fun xe he ue ze => ?_
          have Ve := Vd.trans ue
          refine ⟨Ve.mono (by simp), ?_⟩
          have zx := Vc.size
          have ex1 : x1.drew.heap.size = x1.heap.size := rfl
          refine apg (J.ok.tvs.upd Ve (by simp)) he rfl rfl (by decide) (by simp only [maxLen]; show ths.length + 1 ≤ _; omega) (by show (ths.length + 1) * 8 ≤ _; omega) fun tv2 xf hsf hGf => ?_
          have Uf : Upd tv.ownBlock.toList x1 xf := (Ve.mono (by simp)).trans hGf.up
          refine ⟨Uf, ?_⟩
          obtain ⟨tva, tvc, rfl, -⟩ := hsf.form
          replace hsf : Sl xf TTp 1 (.slice tva (ths.length + 1) tvc) (ths.length + 1) (ptrs ths ++ [ptrV xc.heap.size]) := hsf
          replace hGf : Grow xe xf tv (.slice tva (ths.length + 1) tvc) := hGf
          refine fa ?_
          refine st (hsb xf Uf) (by show 18 < 21; omega) rfl fun xg hg ug zg => ?_
          refine ar64 (by omega) ?_
          have Z : Sep xd ((thZ xc.heap.size (.slice (some ⟨x1.drew.heap.size, 0, none⟩) l l) (.slice (some ⟨xb.heap.size, 0, none⟩) l l) (.slice (some ⟨xa.heap.size, 0, none⟩) l l) l).obs (i : Int)) := thZ_sep hd ((sa).upd ud (by simp)) ((sc).upd ud (by simp)) ((sb).upd ud (by simp)) (by omega) (by omega) (by omega) (by omega) (by omega) (by omega)
          obtain ⟨th, hth⟩ : ∃ th, th = thZ xc.heap.size (.slice (some ⟨x1.drew.heap.size, 0, none⟩) l l) (.slice (some ⟨xb.heap.size, 0, none⟩) l l) (.slice (some ⟨xa.heap.size, 0, none⟩) l l) l := ⟨_, rfl⟩
          rw [← hth] at Z
          have hthg : th.g = xc.heap.size := by rw [hth]; rfl
          have hnew : ∀ k ∈ (obThr (i : Int) th).foot, x1.heap.size ≤ k := by
            rw [hth]
            show ∀ k ∈ feet _, _
            intro k hk
            simp [feet, Th.obs, obSl, obCore, thZ, Value.ownBlock] at hk
            rcases hk with rfl | rfl | rfl | rfl <;> omega
          have S1 := Sep.add (y := obThr (i : Int) th) J.ok Vd Z hnew
          have S2 := S1.upd0 ue
          have T2 : To x1 (Mc.feet (mc0 m ⟨A, T, N, L, B, P, S⟩ mp mv lv ms (none) fp fv draws tv ths)) xe (feet (Mc.obs (mc0 m ⟨A, T, N, L, B, P, S⟩ mp mv lv ms (none) fp fv draws tv ths) ++ [obThr (i : Int) th])) := ⟨Ve.mono (by simp), fun k hk => by
            rw [feet_app] at hk
            rcases List.mem_append.1 hk with h | h
            · exact .inl h
            · exact .inr (hnew k (by simpa [feet] using h))⟩
          have tz : To xe (obSl TTp 1 tv ths.length (ptrs ths)).foot xf (obSl TTp 1 (.slice tva (ths.length + 1) tvc) (ths.length + 1) (ptrs ths ++ [ptrV th.g])).foot := ⟨hGf.up, fun k hk => by
            rcases hGf.own k (by simpa [obSl] using hk) with h | h
            · exact .inl (by simpa [obSl] using h)
            · exact .inr h⟩
          have S3 := Sep.set (i := 4) (x := obSl TTp 1 tv ths.length (ptrs ths)) (y := obSl TTp 1 (.slice tva (ths.length + 1) tvc) (ths.length + 1) (ptrs ths ++ [ptrV th.g])) S2 rfl (by rw [hthg]; exact hsf) tz
          have T3 := T2.trans (To.set (l := Mc.obs (mc0 m ⟨A, T, N, L, B, P, S⟩ mp mv lv ms (none) fp fv draws tv ths) ++ [obThr (i : Int) th]) (i := 4) (x := obSl TTp 1 tv ths.length (ptrs ths)) rfl tz)
          have tm : To xf [m] xg [m] := ⟨ug, fun _ h => .inl h⟩
          have S4 := Sep.set (i := 0) (x := Mc.obM (mc0 m ⟨A, T, N, L, B, P, S⟩ mp mv lv ms (none) fp fv draws tv ths)) (y := Mc.obM (mc0 m ⟨A, T, N, L, B, P, S⟩ mp mv lv ms (none) fp fv draws (.slice tva (ths.length + 1) tvc) ths)) S3 rfl hg tm
          have T4 := T3.trans (To.set (i := 0) (x := Mc.obM (mc0 m ⟨A, T, N, L, B, P, S⟩ mp mv lv ms (none) fp fv draws tv ths)) (y := Mc.obM (mc0 m ⟨A, T, N, L, B, P, S⟩ mp mv lv ms (none) fp fv draws (.slice tva (ths.length + 1) tvc) ths)) rfl tm)
          have eo : Mc.obs (mc0 m ⟨A, T, N, L, B, P, S⟩ mp mv lv ms (none) fp fv draws (.slice tva (ths.length + 1) tvc) (ths ++ [th])) = (((Mc.obs (mc0 m ⟨A, T, N, L, B, P, S⟩ mp mv lv ms (none) fp fv draws tv ths) ++ [obThr (i : Int) th]).set 4 (obSl TTp 1 (.slice tva (ths.length + 1) tvc) (ths.length + 1) (ptrs ths ++ [ptrV th.g]))).set 0 (Mc.obM (mc0 m ⟨A, T, N, L, B, P, S⟩ mp mv lv ms (none) fp fv draws (.slice tva (ths.length + 1) tvc) ths))) := by
            have eo := obs_snoc (mc0 m ⟨A, T, N, L, B, P, S⟩ mp mv lv ms (none) fp fv draws tv ths) (.slice tva (ths.length + 1) tvc) th
            have el : ((mc0 m ⟨A, T, N, L, B, P, S⟩ mp mv lv ms (none) fp fv draws tv ths).ths.length : Int) = (i : Int) := by show (ths.length : Int) = _; rw [hpl]
            rw [el] at eo
            exact eo
          refine round_mk [.int .i64 ((i + 1 : Nat) : Int)] (t - (i + 1)) rfl rfl ⟨i + 1, .slice tva (ths.length + 1) tvc, ths ++ [th], rfl, by omega, rfl, by rw [List.length_append, hpl]; rfl, ?_, ?_, (hsc xf Uf).upd ug (by simp; exact fun h => hmg1 h.symm)⟩ (by omega)
          · intro t ht
            rcases List.mem_append.1 ht with h | h
            · exact hz t h
            · rw [List.mem_singleton.1 h, hth, hLn]
              exact ⟨_, _, _, _, rfl⟩
          · have P4 : Post x1 (mc0 m ⟨A, T, N, L, B, P, S⟩ mp mv lv ms (none) fp fv draws tv ths) xg (mc0 m ⟨A, T, N, L, B, P, S⟩ mp mv lv ms (none) fp fv draws (.slice tva (ths.length + 1) tvc) (ths ++ [th])) := by
              refine ⟨?_, ?_⟩
              · show Sep xg (Mc.obs (mc0 m ⟨A, T, N, L, B, P, S⟩ mp mv lv ms (none) fp fv draws (.slice tva (ths.length + 1) tvc) (ths ++ [th])))
                rw [eo]; exact S4
              · show To x1 (Mc.feet (mc0 m ⟨A, T, N, L, B, P, S⟩ mp mv lv ms (none) fp fv draws tv ths)) xg (feet (Mc.obs (mc0 m ⟨A, T, N, L, B, P, S⟩ mp mv lv ms (none) fp fv draws (.slice tva (ths.length + 1) tvc) (ths ++ [th]))))
                rw [eo]; exact T4
            exact J.post P4
      · refine mks l hL hL (by omega) (by omega) fun xa ha ua za => ?_
        have Va := (Upd.refl [] x1).drew.trans ua
        refine ⟨Va.mono (by simp), ?_⟩
        refine ⟨?_, ?_⟩
        · refine mks l hL hL (by omega) (by omega) fun xb hb ub zb => ?_
          have Vb := Va.trans ub
          refine ⟨Vb.mono (by simp), ?_⟩
          refine mks l hL hL (by omega) (by omega) fun xc hc uc zc => ?_
          have Vc := Vb.trans uc
          refine ⟨Vc.mono (by simp), ?_⟩
          have sa := ((zeros_sl ha (by omega)).upd ub (by simp)).upd uc (by simp)
          have sb := (zeros_sl hb (by omega)).upd uc (by simp)
          have sc := zeros_sl hc (by omega)
          refine rq (.agg (thrC (i : Int) (.slice none 0 0) (0, 0, 0) (.slice (some ⟨xa.heap.size, 0, none⟩) l l) (.slice (some ⟨x1.drew.heap.size, 0, none⟩) l l) (.slice (some ⟨xb.heap.size, 0, none⟩) l l) (.slice none 0 0) (.slice none 0 0))) (fun _ _ => bd _ (fun _ => by kernel_rfl) ⟨rfl, rfl⟩) ?_
          refine bx fun xd hd ud zd => ?_
          have hd : Blk xd xc.heap.size TT (thrC (i : Int) (.slice none 0 0) (0, 0, 0) (.slice (some ⟨xa.heap.size, 0, none⟩) l l) (.slice (some ⟨x1.drew.heap.size, 0, none⟩) l l) (.slice (some ⟨xb.heap.size, 0, none⟩) l l) (.slice none 0 0) (.slice none 0 0)) := hd
          have Vd := Vc.trans ud
          refine ⟨Vd.mono (by simp), ?_⟩
          refine bs #[ptrV xc.heap.size] (fun _ => by kernel_rfl) fun xe he ue ze => ?_
          have Ve := Vd.trans ue
          refine ⟨Ve.mono (by simp), ?_⟩
          have zx := Vc.size
          have ex1 : x1.drew.heap.size = x1.heap.size := rfl
          refine apg (J.ok.tvs.upd Ve (by simp)) he rfl rfl (by decide) (by simp only [maxLen]; show ths.length + 1 ≤ _; omega) (by show (ths.length + 1) * 8 ≤ _; omega) fun tv2 xf hsf hGf => ?_
          have Uf : Upd tv.ownBlock.toList x1 xf := (Ve.mono (by simp)).trans hGf.up
          refine ⟨Uf, ?_⟩
          obtain ⟨tva, tvc, rfl, -⟩ := hsf.form
          replace hsf : Sl xf TTp 1 (.slice tva (ths.length + 1) tvc) (ths.length + 1) (ptrs ths ++ [ptrV xc.heap.size]) := hsf
          replace hGf : Grow xe xf tv (.slice tva (ths.length + 1) tvc) := hGf
          refine fa ?_
          refine st (hsb xf Uf) (by show 18 < 21; omega) rfl fun xg hg ug zg => ?_
          refine ar64 (by omega) ?_
          have Z : Sep xd ((thZ xc.heap.size (.slice (some ⟨xa.heap.size, 0, none⟩) l l) (.slice (some ⟨x1.drew.heap.size, 0, none⟩) l l) (.slice (some ⟨xb.heap.size, 0, none⟩) l l) l).obs (i : Int)) := thZ_sep hd ((sb).upd ud (by simp)) ((sa).upd ud (by simp)) ((sc).upd ud (by simp)) (by omega) (by omega) (by omega) (by omega) (by omega) (by omega)
          obtain ⟨th, hth⟩ : ∃ th, th = thZ xc.heap.size (.slice (some ⟨xa.heap.size, 0, none⟩) l l) (.slice (some ⟨x1.drew.heap.size, 0, none⟩) l l) (.slice (some ⟨xb.heap.size, 0, none⟩) l l) l := ⟨_, rfl⟩
          rw [← hth] at Z
          have hthg : th.g = xc.heap.size := by rw [hth]; rfl
          have hnew : ∀ k ∈ (obThr (i : Int) th).foot, x1.heap.size ≤ k := by
            rw [hth]
            show ∀ k ∈ feet _, _
            intro k hk
            simp [feet, Th.obs, obSl, obCore, thZ, Value.ownBlock] at hk
            rcases hk with rfl | rfl | rfl | rfl <;> omega
          have S1 := Sep.add (y := obThr (i : Int) th) J.ok Vd Z hnew
          have S2 := S1.upd0 ue
          have T2 : To x1 (Mc.feet (mc0 m ⟨A, T, N, L, B, P, S⟩ mp mv lv ms (none) fp fv draws tv ths)) xe (feet (Mc.obs (mc0 m ⟨A, T, N, L, B, P, S⟩ mp mv lv ms (none) fp fv draws tv ths) ++ [obThr (i : Int) th])) := ⟨Ve.mono (by simp), fun k hk => by
            rw [feet_app] at hk
            rcases List.mem_append.1 hk with h | h
            · exact .inl h
            · exact .inr (hnew k (by simpa [feet] using h))⟩
          have tz : To xe (obSl TTp 1 tv ths.length (ptrs ths)).foot xf (obSl TTp 1 (.slice tva (ths.length + 1) tvc) (ths.length + 1) (ptrs ths ++ [ptrV th.g])).foot := ⟨hGf.up, fun k hk => by
            rcases hGf.own k (by simpa [obSl] using hk) with h | h
            · exact .inl (by simpa [obSl] using h)
            · exact .inr h⟩
          have S3 := Sep.set (i := 4) (x := obSl TTp 1 tv ths.length (ptrs ths)) (y := obSl TTp 1 (.slice tva (ths.length + 1) tvc) (ths.length + 1) (ptrs ths ++ [ptrV th.g])) S2 rfl (by rw [hthg]; exact hsf) tz
          have T3 := T2.trans (To.set (l := Mc.obs (mc0 m ⟨A, T, N, L, B, P, S⟩ mp mv lv ms (none) fp fv draws tv ths) ++ [obThr (i : Int) th]) (i := 4) (x := obSl TTp 1 tv ths.length (ptrs ths)) rfl tz)
          have tm : To xf [m] xg [m] := ⟨ug, fun _ h => .inl h⟩
          have S4 := Sep.set (i := 0) (x := Mc.obM (mc0 m ⟨A, T, N, L, B, P, S⟩ mp mv lv ms (none) fp fv draws tv ths)) (y := Mc.obM (mc0 m ⟨A, T, N, L, B, P, S⟩ mp mv lv ms (none) fp fv draws (.slice tva (ths.length + 1) tvc) ths)) S3 rfl hg tm
          have T4 := T3.trans (To.set (i := 0) (x := Mc.obM (mc0 m ⟨A, T, N, L, B, P, S⟩ mp mv lv ms (none) fp fv draws tv ths)) (y := Mc.obM (mc0 m ⟨A, T, N, L, B, P, S⟩ mp mv lv ms (none) fp fv draws (.slice tva (ths.length + 1) tvc) ths)) rfl tm)
          have eo : Mc.obs (mc0 m ⟨A, T, N, L, B, P, S⟩ mp mv lv ms (none) fp fv draws (.slice tva (ths.length + 1) tvc) (ths ++ [th])) = (((Mc.obs (mc0 m ⟨A, T, N, L, B, P, S⟩ mp mv lv ms (none) fp fv draws tv ths) ++ [obThr (i : Int) th]).set 4 (obSl TTp 1 (.slice tva (ths.length + 1) tvc) (ths.length + 1) (ptrs ths ++ [ptrV th.g]))).set 0 (Mc.obM (mc0 m ⟨A, T, N, L, B, P, S⟩ mp mv lv ms (none) fp fv draws (.slice tva (ths.length + 1) tvc) ths))) := by
            have eo := obs_snoc (mc0 m ⟨A, T, N, L, B, P, S⟩ mp mv lv ms (none) fp fv draws tv ths) (.slice tva (ths.length + 1) tvc) th
            have el : ((mc0 m ⟨A, T, N, L, B, P, S⟩ mp mv lv ms (none) fp fv draws tv ths).ths.length : Int) = (i : Int) := by show (ths.length : Int) = _; rw [hpl]
            rw [el] at eo
            exact eo
          refine round_mk [.int .i64 ((i + 1 : Nat) : Int)] (t - (i + 1)) rfl rfl ⟨i + 1, .slice tva (ths.length + 1) tvc, ths ++ [th], rfl, by omega, rfl, by rw [List.length_append, hpl]; rfl, ?_, ?_, (hsc xf Uf).upd ug (by simp; exact fun h => hmg1 h.symm)⟩ (by omega)
          · intro t ht
            rcases List.mem_append.1 ht with h | h
            · exact hz t h
            · rw [List.mem_singleton.1 h, hth, hLn]
              exact ⟨_, _, _, _, rfl⟩
          · have P4 : Post x1 (mc0 m ⟨A, T, N, L, B, P, S⟩ mp mv lv ms (none) fp fv draws tv ths) xg (mc0 m ⟨A, T, N, L, B, P, S⟩ mp mv lv ms (none) fp fv draws (.slice tva (ths.length + 1) tvc) (ths ++ [th])) := by
              refine ⟨?_, ?_⟩
              · show Sep xg (Mc.obs (mc0 m ⟨A, T, N, L, B, P, S⟩ mp mv lv ms (none) fp fv draws (.slice tva (ths.length + 1) tvc) (ths ++ [th])))
                rw [eo]; exact S4
              · show To x1 (Mc.feet (mc0 m ⟨A, T, N, L, B, P, S⟩ mp mv lv ms (none) fp fv draws tv ths)) xg (feet (Mc.obs (mc0 m ⟨A, T, N, L, B, P, S⟩ mp mv lv ms (none) fp fv draws (.slice tva (ths.length + 1) tvc) (ths ++ [th]))))
                rw [eo]; exact T4
            exact J.post P4
        · refine mks l hL hL (by omega) (by omega) fun xb hb ub zb => ?_
          have Vb := Va.trans ub
          refine ⟨Vb.mono (by simp), ?_⟩
          refine mks l hL hL (by omega) (by omega) fun xc hc uc zc => ?_
          have Vc := Vb.trans uc
          refine ⟨Vc.mono (by simp), ?_⟩
          have sa := ((zeros_sl ha (by omega)).upd ub (by simp)).upd uc (by simp)
          have sb := (zeros_sl hb (by omega)).upd uc (by simp)
          have sc := zeros_sl hc (by omega)
          refine rq (.agg (thrC (i : Int) (.slice none 0 0) (0, 0, 0) (.slice (some ⟨xb.heap.size, 0, none⟩) l l) (.slice (some ⟨x1.drew.heap.size, 0, none⟩) l l) (.slice (some ⟨xa.heap.size, 0, none⟩) l l) (.slice none 0 0) (.slice none 0 0))) (fun _ _ => bd _ (fun _ => by kernel_rfl) ⟨rfl, rfl⟩) ?_
          refine bx fun xd hd ud zd => ?_
          have hd : Blk xd xc.heap.size TT (thrC (i : Int) (.slice none 0 0) (0, 0, 0) (.slice (some ⟨xb.heap.size, 0, none⟩) l l) (.slice (some ⟨x1.drew.heap.size, 0, none⟩) l l) (.slice (some ⟨xa.heap.size, 0, none⟩) l l) (.slice none 0 0) (.slice none 0 0)) := hd
          have Vd := Vc.trans ud
          refine ⟨Vd.mono (by simp), ?_⟩
          refine bs #[ptrV xc.heap.size] (fun _ => by kernel_rfl) fun xe he ue ze => ?_
          have Ve := Vd.trans ue
          refine ⟨Ve.mono (by simp), ?_⟩
          have zx := Vc.size
          have ex1 : x1.drew.heap.size = x1.heap.size := rfl
          refine apg (J.ok.tvs.upd Ve (by simp)) he rfl rfl (by decide) (by simp only [maxLen]; show ths.length + 1 ≤ _; omega) (by show (ths.length + 1) * 8 ≤ _; omega) fun tv2 xf hsf hGf => ?_
          have Uf : Upd tv.ownBlock.toList x1 xf := (Ve.mono (by simp)).trans hGf.up
          refine ⟨Uf, ?_⟩
          obtain ⟨tva, tvc, rfl, -⟩ := hsf.form
          replace hsf : Sl xf TTp 1 (.slice tva (ths.length + 1) tvc) (ths.length + 1) (ptrs ths ++ [ptrV xc.heap.size]) := hsf
          replace hGf : Grow xe xf tv (.slice tva (ths.length + 1) tvc) := hGf
          refine fa ?_
          refine st (hsb xf Uf) (by show 18 < 21; omega) rfl fun xg hg ug zg => ?_
          refine ar64 (by omega) ?_
          have Z : Sep xd ((thZ xc.heap.size (.slice (some ⟨xb.heap.size, 0, none⟩) l l) (.slice (some ⟨x1.drew.heap.size, 0, none⟩) l l) (.slice (some ⟨xa.heap.size, 0, none⟩) l l) l).obs (i : Int)) := thZ_sep hd ((sc).upd ud (by simp)) ((sa).upd ud (by simp)) ((sb).upd ud (by simp)) (by omega) (by omega) (by omega) (by omega) (by omega) (by omega)
          obtain ⟨th, hth⟩ : ∃ th, th = thZ xc.heap.size (.slice (some ⟨xb.heap.size, 0, none⟩) l l) (.slice (some ⟨x1.drew.heap.size, 0, none⟩) l l) (.slice (some ⟨xa.heap.size, 0, none⟩) l l) l := ⟨_, rfl⟩
          rw [← hth] at Z
          have hthg : th.g = xc.heap.size := by rw [hth]; rfl
          have hnew : ∀ k ∈ (obThr (i : Int) th).foot, x1.heap.size ≤ k := by
            rw [hth]
            show ∀ k ∈ feet _, _
            intro k hk
            simp [feet, Th.obs, obSl, obCore, thZ, Value.ownBlock] at hk
            rcases hk with rfl | rfl | rfl | rfl <;> omega
          have S1 := Sep.add (y := obThr (i : Int) th) J.ok Vd Z hnew
          have S2 := S1.upd0 ue
          have T2 : To x1 (Mc.feet (mc0 m ⟨A, T, N, L, B, P, S⟩ mp mv lv ms (none) fp fv draws tv ths)) xe (feet (Mc.obs (mc0 m ⟨A, T, N, L, B, P, S⟩ mp mv lv ms (none) fp fv draws tv ths) ++ [obThr (i : Int) th])) := ⟨Ve.mono (by simp), fun k hk => by
            rw [feet_app] at hk
            rcases List.mem_append.1 hk with h | h
            · exact .inl h
            · exact .inr (hnew k (by simpa [feet] using h))⟩
          have tz : To xe (obSl TTp 1 tv ths.length (ptrs ths)).foot xf (obSl TTp 1 (.slice tva (ths.length + 1) tvc) (ths.length + 1) (ptrs ths ++ [ptrV th.g])).foot := ⟨hGf.up, fun k hk => by
            rcases hGf.own k (by simpa [obSl] using hk) with h | h
            · exact .inl (by simpa [obSl] using h)
            · exact .inr h⟩
          have S3 := Sep.set (i := 4) (x := obSl TTp 1 tv ths.length (ptrs ths)) (y := obSl TTp 1 (.slice tva (ths.length + 1) tvc) (ths.length + 1) (ptrs ths ++ [ptrV th.g])) S2 rfl (by rw [hthg]; exact hsf) tz
          have T3 := T2.trans (To.set (l := Mc.obs (mc0 m ⟨A, T, N, L, B, P, S⟩ mp mv lv ms (none) fp fv draws tv ths) ++ [obThr (i : Int) th]) (i := 4) (x := obSl TTp 1 tv ths.length (ptrs ths)) rfl tz)
          have tm : To xf [m] xg [m] := ⟨ug, fun _ h => .inl h⟩
          have S4 := Sep.set (i := 0) (x := Mc.obM (mc0 m ⟨A, T, N, L, B, P, S⟩ mp mv lv ms (none) fp fv draws tv ths)) (y := Mc.obM (mc0 m ⟨A, T, N, L, B, P, S⟩ mp mv lv ms (none) fp fv draws (.slice tva (ths.length + 1) tvc) ths)) S3 rfl hg tm
          have T4 := T3.trans (To.set (i := 0) (x := Mc.obM (mc0 m ⟨A, T, N, L, B, P, S⟩ mp mv lv ms (none) fp fv draws tv ths)) (y := Mc.obM (mc0 m ⟨A, T, N, L, B, P, S⟩ mp mv lv ms (none) fp fv draws (.slice tva (ths.length + 1) tvc) ths)) rfl tm)
          have eo : Mc.obs (mc0 m ⟨A, T, N, L, B, P, S⟩ mp mv lv ms (none) fp fv draws (.slice tva (ths.length + 1) tvc) (ths ++ [th])) = (((Mc.obs (mc0 m ⟨A, T, N, L, B, P, S⟩ mp mv lv ms (none) fp fv draws tv ths) ++ [obThr (i : Int) th]).set 4 (obSl TTp 1 (.slice tva (ths.length + 1) tvc) (ths.length + 1) (ptrs ths ++ [ptrV th.g]))).set 0 (Mc.obM (mc0 m ⟨A, T, N, L, B, P, S⟩ mp mv lv ms (none) fp fv draws (.slice tva (ths.length + 1) tvc) ths))) := by
            have eo := obs_snoc (mc0 m ⟨A, T, N, L, B, P, S⟩ mp mv lv ms (none) fp fv draws tv ths) (.slice tva (ths.length + 1) tvc) th
            have el : ((mc0 m ⟨A, T, N, L, B, P, S⟩ mp mv lv ms (none) fp fv draws tv ths).ths.length : Int) = (i : Int) := by show (ths.length : Int) = _; rw [hpl]
            rw [el] at eo
            exact eo
          refine round_mk [.int .i64 ((i + 1 : Nat) : Int)] (t - (i + 1)) rfl rfl ⟨i + 1, .slice tva (ths.length + 1) tvc, ths ++ [th], rfl, by omega, rfl, by rw [List.length_append, hpl]; rfl, ?_, ?_, (hsc xf Uf).upd ug (by simp; exact fun h => hmg1 h.symm)⟩ (by omega)
          · intro t ht
            rcases List.mem_append.1 ht with h | h
            · exact hz t h
            · rw [List.mem_singleton.1 h, hth, hLn]
              exact ⟨_, _, _, _, rfl⟩
          · have P4 : Post x1 (mc0 m ⟨A, T, N, L, B, P, S⟩ mp mv lv ms (none) fp fv draws tv ths) xg (mc0 m ⟨A, T, N, L, B, P, S⟩ mp mv lv ms (none) fp fv draws (.slice tva (ths.length + 1) tvc) (ths ++ [th])) := by
              refine ⟨?_, ?_⟩
              · show Sep xg (Mc.obs (mc0 m ⟨A, T, N, L, B, P, S⟩ mp mv lv ms (none) fp fv draws (.slice tva (ths.length + 1) tvc) (ths ++ [th])))
                rw [eo]; exact S4
              · show To x1 (Mc.feet (mc0 m ⟨A, T, N, L, B, P, S⟩ mp mv lv ms (none) fp fv draws tv ths)) xg (feet (Mc.obs (mc0 m ⟨A, T, N, L, B, P, S⟩ mp mv lv ms (none) fp fv draws (.slice tva (ths.length + 1) tvc) (ths ++ [th]))))
                rw [eo]; exact T4
            exact J.post P4
      · refine mks l hL hL (by omega) (by omega) fun xa ha ua za => ?_
        have Va := (Upd.refl [] x1).drew.trans ua
        refine ⟨Va.mono (by simp), ?_⟩
        refine ⟨?_, ?_⟩
        · refine mks l hL hL (by omega) (by omega) fun xb hb ub zb => ?_
          have Vb := Va.trans ub
          refine ⟨Vb.mono (by simp), ?_⟩
          refine mks l hL hL (by omega) (by omega) fun xc hc uc zc => ?_
          have Vc := Vb.trans uc
          refine ⟨Vc.mono (by simp), ?_⟩
          have sa := ((zeros_sl ha (by omega)).upd ub (by simp)).upd uc (by simp)
          have sb := (zeros_sl hb (by omega)).upd uc (by simp)
          have sc := zeros_sl hc (by omega)
          refine rq (.agg (thrC (i : Int) (.slice none 0 0) (0, 0, 0) (.slice (some ⟨xa.heap.size, 0, none⟩) l l) (.slice (some ⟨xb.heap.size, 0, none⟩) l l) (.slice (some ⟨x1.drew.heap.size, 0, none⟩) l l) (.slice none 0 0) (.slice none 0 0))) (fun _ _ => bd _ (fun _ => by kernel_rfl) ⟨rfl, rfl⟩) ?_
          refine bx fun xd hd ud zd => ?_
          have hd : Blk xd xc.heap.size TT (thrC (i : Int) (.slice none 0 0) (0, 0, 0) (.slice (some ⟨xa.heap.size, 0, none⟩) l l) (.slice (some ⟨xb.heap.size, 0, none⟩) l l) (.slice (some ⟨x1.drew.heap.size, 0, none⟩) l l) (.slice none 0 0) (.slice none 0 0)) := hd
          have Vd := Vc.trans ud
          refine ⟨Vd.mono (by simp), ?_⟩
          refine bs #[ptrV xc.heap.size] (fun _ => by kernel_rfl) fun xe he ue ze => ?_
          have Ve := Vd.trans ue
          refine ⟨Ve.mono (by simp), ?_⟩
          have zx := Vc.size
          have ex1 : x1.drew.heap.size = x1.heap.size := rfl
          refine apg (J.ok.tvs.upd Ve (by simp)) he rfl rfl (by decide) (by simp only [maxLen]; show ths.length + 1 ≤ _; omega) (by show (ths.length + 1) * 8 ≤ _; omega) fun tv2 xf hsf hGf => ?_
          have Uf : Upd tv.ownBlock.toList x1 xf := (Ve.mono (by simp)).trans hGf.up
          refine ⟨Uf, ?_⟩
          obtain ⟨tva, tvc, rfl, -⟩ := hsf.form
          replace hsf : Sl xf TTp 1 (.slice tva (ths.length + 1) tvc) (ths.length + 1) (ptrs ths ++ [ptrV xc.heap.size]) := hsf
          replace hGf : Grow xe xf tv (.slice tva (ths.length + 1) tvc) := hGf
          refine fa ?_
          refine st (hsb xf Uf) (by show 18 < 21; omega) rfl fun xg hg ug zg => ?_
          refine ar64 (by omega) ?_
          have Z : Sep xd ((thZ xc.heap.size (.slice (some ⟨xa.heap.size, 0, none⟩) l l) (.slice (some ⟨xb.heap.size, 0, none⟩) l l) (.slice (some ⟨x1.drew.heap.size, 0, none⟩) l l) l).obs (i : Int)) := thZ_sep hd ((sb).upd ud (by simp)) ((sc).upd ud (by simp)) ((sa).upd ud (by simp)) (by omega) (by omega) (by omega) (by omega) (by omega) (by omega)
          obtain ⟨th, hth⟩ : ∃ th, th = thZ xc.heap.size (.slice (some ⟨xa.heap.size, 0, none⟩) l l) (.slice (some ⟨xb.heap.size, 0, none⟩) l l) (.slice (some ⟨x1.drew.heap.size, 0, none⟩) l l) l := ⟨_, rfl⟩
          rw [← hth] at Z
          have hthg : th.g = xc.heap.size := by rw [hth]; rfl
          have hnew : ∀ k ∈ (obThr (i : Int) th).foot, x1.heap.size ≤ k := by
            rw [hth]
            show ∀ k ∈ feet _, _
            intro k hk
            simp [feet, Th.obs, obSl, obCore, thZ, Value.ownBlock] at hk
            rcases hk with rfl | rfl | rfl | rfl <;> omega
          have S1 := Sep.add (y := obThr (i : Int) th) J.ok Vd Z hnew
          have S2 := S1.upd0 ue
          have T2 : To x1 (Mc.feet (mc0 m ⟨A, T, N, L, B, P, S⟩ mp mv lv ms (none) fp fv draws tv ths)) xe (feet (Mc.obs (mc0 m ⟨A, T, N, L, B, P, S⟩ mp mv lv ms (none) fp fv draws tv ths) ++ [obThr (i : Int) th])) := ⟨Ve.mono (by simp), fun k hk => by
            rw [feet_app] at hk
            rcases List.mem_append.1 hk with h | h
            · exact .inl h
            · exact .inr (hnew k (by simpa [feet] using h))⟩
          have tz : To xe (obSl TTp 1 tv ths.length (ptrs ths)).foot xf (obSl TTp 1 (.slice tva (ths.length + 1) tvc) (ths.length + 1) (ptrs ths ++ [ptrV th.g])).foot := ⟨hGf.up, fun k hk => by
            rcases hGf.own k (by simpa [obSl] using hk) with h | h
            · exact .inl (by simpa [obSl] using h)
            · exact .inr h⟩
          have S3 := Sep.set (i := 4) (x := obSl TTp 1 tv ths.length (ptrs ths)) (y := obSl TTp 1 (.slice tva (ths.length + 1) tvc) (ths.length + 1) (ptrs ths ++ [ptrV th.g])) S2 rfl (by rw [hthg]; exact hsf) tz
          have T3 := T2.trans (To.set (l := Mc.obs (mc0 m ⟨A, T, N, L, B, P, S⟩ mp mv lv ms (none) fp fv draws tv ths) ++ [obThr (i : Int) th]) (i := 4) (x := obSl TTp 1 tv ths.length (ptrs ths)) rfl tz)
          have tm : To xf [m] xg [m] := ⟨ug, fun _ h => .inl h⟩
          have S4 := Sep.set (i := 0) (x := Mc.obM (mc0 m ⟨A, T, N, L, B, P, S⟩ mp mv lv ms (none) fp fv draws tv ths)) (y := Mc.obM (mc0 m ⟨A, T, N, L, B, P, S⟩ mp mv lv ms (none) fp fv draws (.slice tva (ths.length + 1) tvc) ths)) S3 rfl hg tm
          have T4 := T3.trans (To.set (i := 0) (x := Mc.obM (mc0 m ⟨A, T, N, L, B, P, S⟩ mp mv lv ms (none) fp fv draws tv ths)) (y := Mc.obM (mc0 m ⟨A, T, N, L, B, P, S⟩ mp mv lv ms (none) fp fv draws (.slice tva (ths.length + 1) tvc) ths)) rfl tm)
          have eo : Mc.obs (mc0 m ⟨A, T, N, L, B, P, S⟩ mp mv lv ms (none) fp fv draws (.slice tva (ths.length + 1) tvc) (ths ++ [th])) = (((Mc.obs (mc0 m ⟨A, T, N, L, B, P, S⟩ mp mv lv ms (none) fp fv draws tv ths) ++ [obThr (i : Int) th]).set 4 (obSl TTp 1 (.slice tva (ths.length + 1) tvc) (ths.length + 1) (ptrs ths ++ [ptrV th.g]))).set 0 (Mc.obM (mc0 m ⟨A, T, N, L, B, P, S⟩ mp mv lv ms (none) fp fv draws (.slice tva (ths.length + 1) tvc) ths))) := by
            have eo := obs_snoc (mc0 m ⟨A, T, N, L, B, P, S⟩ mp mv lv ms (none) fp fv draws tv ths) (.slice tva (ths.length + 1) tvc) th
            have el : ((mc0 m ⟨A, T, N, L, B, P, S⟩ mp mv lv ms (none) fp fv draws tv ths).ths.length : Int) = (i : Int) := by show (ths.length : Int) = _; rw [hpl]
            rw [el] at eo
            exact eo
          refine round_mk [.int .i64 ((i + 1 : Nat) : Int)] (t - (i + 1)) rfl rfl ⟨i + 1, .slice tva (ths.length + 1) tvc, ths ++ [th], rfl, by omega, rfl, by rw [List.length_append, hpl]; rfl, ?_, ?_, (hsc xf Uf).upd ug (by simp; exact fun h => hmg1 h.symm)⟩ (by omega)
          · intro t ht
            rcases List.mem_append.1 ht with h | h
            · exact hz t h
            · rw [List.mem_singleton.1 h, hth, hLn]
              exact ⟨_, _, _, _, rfl⟩
          · have P4 : Post x1 (mc0 m ⟨A, T, N, L, B, P, S⟩ mp mv lv ms (none) fp fv draws tv ths) xg (mc0 m ⟨A, T, N, L, B, P, S⟩ mp mv lv ms (none) fp fv draws (.slice tva (ths.length + 1) tvc) (ths ++ [th])) := by
              refine ⟨?_, ?_⟩
              · show Sep xg (Mc.obs (mc0 m ⟨A, T, N, L, B, P, S⟩ mp mv lv ms (none) fp fv draws (.slice tva (ths.length + 1) tvc) (ths ++ [th])))
                rw [eo]; exact S4
              · show To x1 (Mc.feet (mc0 m ⟨A, T, N, L, B, P, S⟩ mp mv lv ms (none) fp fv draws tv ths)) xg (feet (Mc.obs (mc0 m ⟨A, T, N, L, B, P, S⟩ mp mv lv ms (none) fp fv draws (.slice tva (ths.length + 1) tvc) (ths ++ [th]))))
                rw [eo]; exact T4
            exact J.post P4
        · refine mks l hL hL (by omega) (by omega) fun xb hb ub zb => ?_
          have Vb := Va.trans ub
          refine ⟨Vb.mono (by simp), ?_⟩
          refine mks l hL hL (by omega) (by omega) fun xc hc uc zc => ?_
          have Vc := Vb.trans uc
          refine ⟨Vc.mono (by simp), ?_⟩
          have sa := ((zeros_sl ha (by omega)).upd ub (by simp)).upd uc (by simp)
          have sb := (zeros_sl hb (by omega)).upd uc (by simp)
          have sc := zeros_sl hc (by omega)
          refine rq (.agg (thrC (i : Int) (.slice none 0 0) (0, 0, 0) (.slice (some ⟨xb.heap.size, 0, none⟩) l l) (.slice (some ⟨xa.heap.size, 0, none⟩) l l) (.slice (some ⟨x1.drew.heap.size, 0, none⟩) l l) (.slice none 0 0) (.slice none 0 0))) (fun _ _ => bd _ (fun _ => by kernel_rfl) ⟨rfl, rfl⟩) ?_
          refine bx fun xd hd ud zd => ?_
          have hd : Blk xd xc.heap.size TT (thrC (i : Int) (.slice none 0 0) (0, 0, 0) (.slice (some ⟨xb.heap.size, 0, none⟩) l l) (.slice (some ⟨xa.heap.size, 0, none⟩) l l) (.slice (some ⟨x1.drew.heap.size, 0, none⟩) l l) (.slice none 0 0) (.slice none 0 0)) := hd
          have Vd := Vc.trans ud
          refine ⟨Vd.mono (by simp), ?_⟩
          refine bs #[ptrV xc.heap.size] (fun _ => by kernel_rfl) fun xe he ue ze => ?_
          have Ve := Vd.trans ue
          refine ⟨Ve.mono (by simp), ?_⟩
          have zx := Vc.size
          have ex1 : x1.drew.heap.size = x1.heap.size := rfl
          refine apg (J.ok.tvs.upd Ve (by simp)) he rfl rfl (by decide) (by simp only [maxLen]; show ths.length + 1 ≤ _; omega) (by show (ths.length + 1) * 8 ≤ _; omega) fun tv2 xf hsf hGf => ?_
          have Uf : Upd tv.ownBlock.toList x1 xf := (Ve.mono (by simp)).trans hGf.up
          refine ⟨Uf, ?_⟩
          obtain ⟨tva, tvc, rfl, -⟩ := hsf.form
          replace hsf : Sl xf TTp 1 (.slice tva (ths.length + 1) tvc) (ths.length + 1) (ptrs ths ++ [ptrV xc.heap.size]) := hsf
          replace hGf : Grow xe xf tv (.slice tva (ths.length + 1) tvc) := hGf
          refine fa ?_
          refine st (hsb xf Uf) (by show 18 < 21; omega) rfl fun xg hg ug zg => ?_
          refine ar64 (by omega) ?_
          have Z : Sep xd ((thZ xc.heap.size (.slice (some ⟨xb.heap.size, 0, none⟩) l l) (.slice (some ⟨xa.heap.size, 0, none⟩) l l) (.slice (some ⟨x1.drew.heap.size, 0, none⟩) l l) l).obs (i : Int)) := thZ_sep hd ((sc).upd ud (by simp)) ((sb).upd ud (by simp)) ((sa).upd ud (by simp)) (by omega) (by omega) (by omega) (by omega) (by omega) (by omega)
          obtain ⟨th, hth⟩ : ∃ th, th = thZ xc.heap.size (.slice (some ⟨xb.heap.size, 0, none⟩) l l) (.slice (some ⟨xa.heap.size, 0, none⟩) l l) (.slice (some ⟨x1.drew.heap.size, 0, none⟩) l l) l := ⟨_, rfl⟩
          rw [← hth] at Z
          have hthg : th.g = xc.heap.size := by rw [hth]; rfl
          have hnew : ∀ k ∈ (obThr (i : Int) th).foot, x1.heap.size ≤ k := by
            rw [hth]
            show ∀ k ∈ feet _, _
            intro k hk
            simp [feet, Th.obs, obSl, obCore, thZ, Value.ownBlock] at hk
            rcases hk with rfl | rfl | rfl | rfl <;> omega
          have S1 := Sep.add (y := obThr (i : Int) th) J.ok Vd Z hnew
          have S2 := S1.upd0 ue
          have T2 : To x1 (Mc.feet (mc0 m ⟨A, T, N, L, B, P, S⟩ mp mv lv ms (none) fp fv draws tv ths)) xe (feet (Mc.obs (mc0 m ⟨A, T, N, L, B, P, S⟩ mp mv lv ms (none) fp fv draws tv ths) ++ [obThr (i : Int) th])) := ⟨Ve.mono (by simp), fun k hk => by
            rw [feet_app] at hk
            rcases List.mem_append.1 hk with h | h
            · exact .inl h
            · exact .inr (hnew k (by simpa [feet] using h))⟩
          have tz : To xe (obSl TTp 1 tv ths.length (ptrs ths)).foot xf (obSl TTp 1 (.slice tva (ths.length + 1) tvc) (ths.length + 1) (ptrs ths ++ [ptrV th.g])).foot := ⟨hGf.up, fun k hk => by
            rcases hGf.own k (by simpa [obSl] using hk) with h | h
            · exact .inl (by simpa [obSl] using h)
            · exact .inr h⟩
          have S3 := Sep.set (i := 4) (x := obSl TTp 1 tv ths.length (ptrs ths)) (y := obSl TTp 1 (.slice tva (ths.length + 1) tvc) (ths.length + 1) (ptrs ths ++ [ptrV th.g])) S2 rfl (by rw [hthg]; exact hsf) tz
          have T3 := T2.trans (To.set (l := Mc.obs (mc0 m ⟨A, T, N, L, B, P, S⟩ mp mv lv ms (none) fp fv draws tv ths) ++ [obThr (i : Int) th]) (i := 4) (x := obSl TTp 1 tv ths.length (ptrs ths)) rfl tz)
          have tm : To xf [m] xg [m] := ⟨ug, fun _ h => .inl h⟩
          have S4 := Sep.set (i := 0) (x := Mc.obM (mc0 m ⟨A, T, N, L, B, P, S⟩ mp mv lv ms (none) fp fv draws tv ths)) (y := Mc.obM (mc0 m ⟨A, T, N, L, B, P, S⟩ mp mv lv ms (none) fp fv draws (.slice tva (ths.length + 1) tvc) ths)) S3 rfl hg tm
          have T4 := T3.trans (To.set (i := 0) (x := Mc.obM (mc0 m ⟨A, T, N, L, B, P, S⟩ mp mv lv ms (none) fp fv draws tv ths)) (y := Mc.obM (mc0 m ⟨A, T, N, L, B, P, S⟩ mp mv lv ms (none) fp fv draws (.slice tva (ths.length + 1) tvc) ths)) rfl tm)
          have eo : Mc.obs (mc0 m ⟨A, T, N, L, B, P, S⟩ mp mv lv ms (none) fp fv draws (.slice tva (ths.length + 1) tvc) (ths ++ [th])) = (((Mc.obs (mc0 m ⟨A, T, N, L, B, P, S⟩ mp mv lv ms (none) fp fv draws tv ths) ++ [obThr (i : Int) th]).set 4 (obSl TTp 1 (.slice tva (ths.length + 1) tvc) (ths.length + 1) (ptrs ths ++ [ptrV th.g]))).set 0 (Mc.obM (mc0 m ⟨A, T, N, L, B, P, S⟩ mp mv lv ms (none) fp fv draws (.slice tva (ths.length + 1) tvc) ths))) := by
            have eo := obs_snoc (mc0 m ⟨A, T, N, L, B, P, S⟩ mp mv lv ms (none) fp fv draws tv ths) (.slice tva (ths.length + 1) tvc) th
            have el : ((mc0 m ⟨A, T, N, L, B, P, S⟩ mp mv lv ms (none) fp fv draws tv ths).ths.length : Int) = (i : Int) := by show (ths.length : Int) = _; rw [hpl]
            rw [el] at eo
            exact eo
          refine round_mk [.int .i64 ((i + 1 : Nat) : Int)] (t - (i + 1)) rfl rfl ⟨i + 1, .slice tva (ths.length + 1) tvc, ths ++ [th], rfl, by omega, rfl, by rw [List.length_append, hpl]; rfl, ?_, ?_, (hsc xf Uf).upd ug (by simp; exact fun h => hmg1 h.symm)⟩ (by omega)
          · intro t ht
            rcases List.mem_append.1 ht with h | h
            · exact hz t h
            · rw [List.mem_singleton.1 h, hth, hLn]
              exact ⟨_, _, _, _, rfl⟩
          · have P4 : Post x1 (mc0 m ⟨A, T, N, L, B, P, S⟩ mp mv lv ms (none) fp fv draws tv ths) xg (mc0 m ⟨A, T, N, L, B, P, S⟩ mp mv lv ms (none) fp fv draws (.slice tva (ths.length + 1) tvc) (ths ++ [th])) := by
              refine ⟨?_, ?_⟩
              · show Sep xg (Mc.obs (mc0 m ⟨A, T, N, L, B, P, S⟩ mp mv lv ms (none) fp fv draws (.slice tva (ths.length + 1) tvc) (ths ++ [th])))
                rw [eo]; exact S4
              · show To x1 (Mc.feet (mc0 m ⟨A, T, N, L, B, P, S⟩ mp mv lv ms (none) fp fv draws tv ths)) xg (feet (Mc.obs (mc0 m ⟨A, T, N, L, B, P, S⟩ mp mv lv ms (none) fp fv draws (.slice tva (ths.length + 1) tvc) (ths ++ [th]))))
                rw [eo]; exact T4
            exact J.post P4
    · have hi : i = t := by omega
      subst hi
      exact ⟨fun h => absurd hr h, fun _ => ⟨m, mp, mv, lv, fp, fv, _, tv, ths, rfl, J, by omega, hz, (fun _ => rfl), (fun h => (by cases h))⟩⟩
  | true =>
    refine draw_mix 6 [(0, true), (1, true), (2, true), (3, true), (4, false), (5, false)] (fun w' => Upd [] w9 w') (by decide +kernel) (Upd.refl [] w9).drew ?_
    refine q_fa ?_
    refine q_ld (v := .int .i64 N) (fun w' hw' => (hc9.upd hw' (by simp)).cell 2) ?_
    refine rq (.agg (planC ⟨A, T, N, L, B, P, S⟩)) (fun w' hw' => ldw (hp9.upd hw' (by simp)) rfl ⟨rfl, rfl⟩) ?_
    refine cl (sent_c A T N L B P S _) ?_
    rintro _ w10 ⟨rfl, hu10⟩
    have hu910 : Upd [] w9 w10 := (Upd.refl [] w9).drew.trans hu10
    refine ⟨hu910, ?_⟩
    refine cl (ghost_new2 N (sentP A) (by omega) (by omega) w10) ?_
    rintro _ w11 ⟨⟨gp, gv', rfl, hgp, hgv, hG⟩, hu11⟩
    have hu911 := hu910.trans hu11
    refine ⟨hu911, ?_⟩
    refine fa ?_
    have hb11 := hN9m.upd hu911 (by simp)
    have hb11 : Blk w11 m TM (machC ⟨A, T, N, L, B, P, S⟩ (ptrV mp) (.pointer none) (ptrV fp) (.slice none 0 0) false false) := hb11
    refine st hb11 (by show 16 < 21; omega) rfl fun w12 hb12 hu12 hs12 => ?_
    have hb12 : Blk w12 m TM (machC ⟨A, T, N, L, B, P, S⟩ (ptrV mp) (.pointer (some ⟨gp, 0, none⟩)) (ptrV fp) (.slice none 0 0) false false) := hb12
    have N12 : New w w12 (mc0 m ⟨A, T, N, L, B, P, S⟩ mp mv lv ms (some ⟨gp, gv', liveL N.toNat (sentP A).toNat, 0, 0⟩) fp fv draws (.slice none 0 0) []) := by
      have z910 := hu910.size
      have S9 := Sep.upd0 N9.ok hu910
      have ghn : ∀ k ∈ (obGh (some ⟨gp, gv', liveL N.toNat (sentP A).toNat, 0, 0⟩)).foot, w10.heap.size ≤ k := fun k hk => by
        rcases List.mem_cons.1 hk with h | h
        · rw [h]; exact hgp
        · exact hgv k (by simpa using h)
      have tg : To w10 (obGh none).foot w11 (obGh (some ⟨gp, gv', liveL N.toNat (sentP A).toNat, 0, 0⟩)).foot := ⟨hu11.mono (by simp), fun k hk => .inr (ghn k hk)⟩
      have S11 := Sep.set (i := 2) (x := obGh none) (y := obGh (some ⟨gp, gv', liveL N.toNat (sentP A).toNat, 0, 0⟩)) S9 rfl hG tg
      have T11 := To.set (l := Mc.obs (mc0 m ⟨A, T, N, L, B, P, S⟩ mp mv lv ms none fp fv draws (.slice none 0 0) [])) (i := 2) (x := obGh none) rfl tg
      have tm : To w11 [m] w12 [m] := ⟨hu12, fun _ h => .inl h⟩
      have S12 := Sep.set (i := 0) (x := Mc.obM (mc0 m ⟨A, T, N, L, B, P, S⟩ mp mv lv ms none fp fv draws (.slice none 0 0) [])) (y := Mc.obM (mc0 m ⟨A, T, N, L, B, P, S⟩ mp mv lv ms (some ⟨gp, gv', liveL N.toNat (sentP A).toNat, 0, 0⟩) fp fv draws (.slice none 0 0) [])) S11 rfl hb12 tm
      have T12 := ((To.of0 (Mc.feet (mc0 m ⟨A, T, N, L, B, P, S⟩ mp mv lv ms none fp fv draws (.slice none 0 0) [])) hu910).trans T11).trans (To.set (i := 0) (x := Mc.obM (mc0 m ⟨A, T, N, L, B, P, S⟩ mp mv lv ms none fp fv draws (.slice none 0 0) [])) (y := Mc.obM (mc0 m ⟨A, T, N, L, B, P, S⟩ mp mv lv ms (some ⟨gp, gv', liveL N.toNat (sentP A).toNat, 0, 0⟩) fp fv draws (.slice none 0 0) [])) rfl tm)
      exact N9.post ⟨S12, T12⟩
    have hc12 := (hc9.upd hu911 (by simp)).upd hu12 (by simp; exact fun h => hmg1 h.symm)
    refine fa ?_
    refine ldb (hc12) (v := .int .i64 T) rfl ?_
    obtain ⟨t, ht⟩ : ∃ t : Nat, T = (t : Int) := ⟨_, (Int.toNat_of_nonneg (by omega)).symm⟩
    refine loop_rule [3, 11, 49] [50] (fun vs w' k => ∃ (i : Nat) (tv : Value) (ths : List Th), vs = [.int .i64 (i : Int)] ∧ i ≤ t ∧ k = t - i ∧ ths.length = i ∧ (∀ t ∈ ths, ∃ g pv sv wv, t = thZ g pv sv wv L.toNat) ∧ New w w' (mc0 m ⟨A, T, N, L, B, P, S⟩ mp mv lv ms (some ⟨gp, gv', liveL N.toNat (sentP A).toNat, 0, 0⟩) fp fv draws tv ths) ∧ Blk w' g1 42 (cf7 ⟨A, T, N, L, B, P, S⟩)) rfl [.int .i64 0] t rfl
      ⟨0, _, _, rfl, by omega, rfl, rfl, (by simp), N12, hc12⟩ ?_
    rintro _ x1 k ⟨i, tv, ths, rfl, hi, rfl, hpl, hz, J, hx1⟩
    refine cd (fun hlt => ?_) (fun hlt => ?_)
    · obtain ⟨l, hL⟩ : ∃ l : Nat, L = (l : Int) := ⟨_, (Int.toNat_of_nonneg (by omega)).symm⟩
      have hLn : L.toNat = l := by omega
      have hne1 : tv.ownBlock ≠ some m := J.ok.tvs.blk_ne J.ok.blk (by decide)
      have hne2 : tv.ownBlock ≠ some g1 := J.ok.tvs.blk_ne hx1 (by decide)
      have hsb : ∀ w', Upd tv.ownBlock.toList x1 w' → Blk w' m TM (machC ⟨A, T, N, L, B, P, S⟩ (ptrV mp) (gvOf (some ⟨gp, gv', liveL N.toNat (sentP A).toNat, 0, 0⟩)) (ptrV fp) tv false false) := fun w' hu => J.ok.blk.upd hu (by show m ∉ _; simpa using hne1)
      have hsc : ∀ w', Upd tv.ownBlock.toList x1 w' → Blk w' g1 42 _ := fun w' hu => hx1.upd hu (by simpa using hne2)
      refine draw_tree 19 treeT (fun w' => Upd tv.ownBlock.toList x1 w') (by decide +kernel) (Upd.refl _ x1).drew ?_
      refine q_fa ?_
      refine q_ld (v := tv) (fun w' hw' => (hsb w' hw').cell 18) ?_
      refine q_fa ?_
      refine q_ld (v := .int .i64 L) (fun w' hw' => (hsc w' hw').cell 3) ?_
      refine q_fa ?_
      refine q_ld (v := .int .i64 L) (fun w' hw' => (hsc w' hw').cell 3) ?_
      refine q_fa ?_
      refine q_ld (v := .int .i64 L) (fun w' hw' => (hsc w' hw').cell 3) ?_
      have Us : Upd tv.ownBlock.toList x1 x1.drew := (Upd.refl _ x1).drew
      refine ⟨?_, ?_, ?_⟩
      · refine mks l hL hL (by omega) (by omega) fun xa ha ua za => ?_
        have Va := (Upd.refl [] x1).drew.trans ua
        refine ⟨Va.mono (by simp), ?_⟩
        refine ⟨?_, ?_⟩
        · refine mks l hL hL (by omega) (by omega) fun xb hb ub zb => ?_
          have Vb := Va.trans ub
          refine ⟨Vb.mono (by simp), ?_⟩
          refine mks l hL hL (by omega) (by omega) fun xc hc uc zc => ?_
          have Vc := Vb.trans uc
          refine ⟨Vc.mono (by simp), ?_⟩
          have sa := ((zeros_sl ha (by omega)).upd ub (by simp)).upd uc (by simp)
          have sb := (zeros_sl hb (by omega)).upd uc (by simp)
          have sc := zeros_sl hc (by omega)
          refine rq (.agg (thrC (i : Int) (.slice none 0 0) (0, 0, 0) (.slice (some ⟨x1.drew.heap.size, 0, none⟩) l l) (.slice (some ⟨xa.heap.size, 0, none⟩) l l) (.slice (some ⟨xb.heap.size, 0, none⟩) l l) (.slice none 0 0) (.slice none 0 0))) (fun _ _ => bd _ (fun _ => by kernel_rfl) ⟨rfl, rfl⟩) ?_
          refine bx fun xd hd ud zd => ?_
          have hd : Blk xd xc.heap.size TT (thrC (i : Int) (.slice none 0 0) (0, 0, 0) (.slice (some ⟨x1.drew.heap.size, 0, none⟩) l l) (.slice (some ⟨xa.heap.size, 0, none⟩) l l) (.slice (some ⟨xb.heap.size, 0, none⟩) l l) (.slice none 0 0) (.slice none 0 0)) := hd
          have Vd := Vc.trans ud
          refine ⟨Vd.mono (by simp), ?_⟩
          refine bs #[ptrV xc.heap.size] (fun _ => by kernel_rfl) fun xe he ue ze => ?_
          have Ve := Vd.trans ue
          refine ⟨Ve.mono (by simp), ?_⟩
          have zx := Vc.size
          have ex1 : x1.drew.heap.size = x1.heap.size := rfl
          refine apg (J.ok.tvs.upd Ve (by simp)) he rfl rfl (by decide) (by simp only [maxLen]; show ths.length + 1 ≤ _; omega) (by show (ths.length + 1) * 8 ≤ _; omega) fun tv2 xf hsf hGf => ?_
          have Uf : Upd tv.ownBlock.toList x1 xf := (Ve.mono (by simp)).trans hGf.up
          refine ⟨Uf, ?_⟩
          obtain ⟨tva, tvc, rfl, -⟩ := hsf.form
          replace hsf : Sl xf TTp 1 (.slice tva (ths.length + 1) tvc) (ths.length + 1) (ptrs ths ++ [ptrV xc.heap.size]) := hsf
          replace hGf : Grow xe xf tv (.slice tva (ths.length + 1) tvc) := hGf
          refine fa ?_
          refine st (hsb xf Uf) (by show 18 < 21; omega) rfl fun xg hg ug zg => ?_
          refine ar64 (by omega) ?_
          have Z : Sep xd ((thZ xc.heap.size (.slice (some ⟨x1.drew.heap.size, 0, none⟩) l l) (.slice (some ⟨xa.heap.size, 0, none⟩) l l) (.slice (some ⟨xb.heap.size, 0, none⟩) l l) l).obs (i : Int)) := thZ_sep hd ((sa).upd ud (by simp)) ((sb).upd ud (by simp)) ((sc).upd ud (by simp)) (by omega) (by omega) (by omega) (by omega) (by omega) (by omega)
          obtain ⟨th, hth⟩ : ∃ th, th = thZ xc.heap.size (.slice (some ⟨x1.drew.heap.size, 0, none⟩) l l) (.slice (some ⟨xa.heap.size, 0, none⟩) l l) (.slice (some ⟨xb.heap.size, 0, none⟩) l l) l := ⟨_, rfl⟩
          rw [← hth] at Z
          have hthg : th.g = xc.heap.size := by rw [hth]; rfl
          have hnew : ∀ k ∈ (obThr (i : Int) th).foot, x1.heap.size ≤ k := by
            rw [hth]
            show ∀ k ∈ feet _, _
            intro k hk
            simp [feet, Th.obs, obSl, obCore, thZ, Value.ownBlock] at hk
            rcases hk with rfl | rfl | rfl | rfl <;> omega
          have S1 := Sep.add (y := obThr (i : Int) th) J.ok Vd Z hnew
          have S2 := S1.upd0 ue
          have T2 : To x1 (Mc.feet (mc0 m ⟨A, T, N, L, B, P, S⟩ mp mv lv ms (some ⟨gp, gv', liveL N.toNat (sentP A).toNat, 0, 0⟩) fp fv draws tv ths)) xe (feet (Mc.obs (mc0 m ⟨A, T, N, L, B, P, S⟩ mp mv lv ms (some ⟨gp, gv', liveL N.toNat (sentP A).toNat, 0, 0⟩) fp fv draws tv ths) ++ [obThr (i : Int) th])) := ⟨Ve.mono (by simp), fun k hk => by
            rw [feet_app] at hk
            rcases List.mem_append.1 hk with h | h
            · exact .inl h
            · exact .inr (hnew k (by simpa [feet] using h))⟩
          have tz : To xe (obSl TTp 1 tv ths.length (ptrs ths)).foot xf (obSl TTp 1 (.slice tva (ths.length + 1) tvc) (ths.length + 1) (ptrs ths ++ [ptrV th.g])).foot := ⟨hGf.up, fun k hk => by
            rcases hGf.own k (by simpa [obSl] using hk) with h | h
            · exact .inl (by simpa [obSl] using h)
            · exact .inr h⟩
          have S3 := Sep.set (i := 4) (x := obSl TTp 1 tv ths.length (ptrs ths)) (y := obSl TTp 1 (.slice tva (ths.length + 1) tvc) (ths.length + 1) (ptrs ths ++ [ptrV th.g])) S2 rfl (by rw [hthg]; exact hsf) tz
          have T3 := T2.trans (To.set (l := Mc.obs (mc0 m ⟨A, T, N, L, B, P, S⟩ mp mv lv ms (some ⟨gp, gv', liveL N.toNat (sentP A).toNat, 0, 0⟩) fp fv draws tv ths) ++ [obThr (i : Int) th]) (i := 4) (x := obSl TTp 1 tv ths.length (ptrs ths)) rfl tz)
          have tm : To xf [m] xg [m] := ⟨ug, fun _ h => .inl h⟩
          have S4 := Sep.set (i := 0) (x := Mc.obM (mc0 m ⟨A, T, N, L, B, P, S⟩ mp mv lv ms (some ⟨gp, gv', liveL N.toNat (sentP A).toNat, 0, 0⟩) fp fv draws tv ths)) (y := Mc.obM (mc0 m ⟨A, T, N, L, B, P, S⟩ mp mv lv ms (some ⟨gp, gv', liveL N.toNat (sentP A).toNat, 0, 0⟩) fp fv draws (.slice tva (ths.length + 1) tvc) ths)) S3 rfl hg tm
          have T4 := T3.trans (To.set (i := 0) (x := Mc.obM (mc0 m ⟨A, T, N, L, B, P, S⟩ mp mv lv ms (some ⟨gp, gv', liveL N.toNat (sentP A).toNat, 0, 0⟩) fp fv draws tv ths)) (y := Mc.obM (mc0 m ⟨A, T, N, L, B, P, S⟩ mp mv lv ms (some ⟨gp, gv', liveL N.toNat (sentP A).toNat, 0, 0⟩) fp fv draws (.slice tva (ths.length + 1) tvc) ths)) rfl tm)
          have eo : Mc.obs (mc0 m ⟨A, T, N, L, B, P, S⟩ mp mv lv ms (some ⟨gp, gv', liveL N.toNat (sentP A).toNat, 0, 0⟩) fp fv draws (.slice tva (ths.length + 1) tvc) (ths ++ [th])) = (((Mc.obs (mc0 m ⟨A, T, N, L, B, P, S⟩ mp mv lv ms (some ⟨gp, gv', liveL N.toNat (sentP A).toNat, 0, 0⟩) fp fv draws tv ths) ++ [obThr (i : Int) th]).set 4 (obSl TTp 1 (.slice tva (ths.length + 1) tvc) (ths.length + 1) (ptrs ths ++ [ptrV th.g]))).set 0 (Mc.obM (mc0 m ⟨A, T, N, L, B, P, S⟩ mp mv lv ms (some ⟨gp, gv', liveL N.toNat (sentP A).toNat, 0, 0⟩) fp fv draws (.slice tva (ths.length + 1) tvc) ths))) := by
            have eo := obs_snoc (mc0 m ⟨A, T, N, L, B, P, S⟩ mp mv lv ms (some ⟨gp, gv', liveL N.toNat (sentP A).toNat, 0, 0⟩) fp fv draws tv ths) (.slice tva (ths.length + 1) tvc) th
            have el : ((mc0 m ⟨A, T, N, L, B, P, S⟩ mp mv lv ms (some ⟨gp, gv', liveL N.toNat (sentP A).toNat, 0, 0⟩) fp fv draws tv ths).ths.length : Int) = (i : Int) := by show (ths.length : Int) = _; rw [hpl]
            rw [el] at eo
            exact eo
          refine round_mk [.int .i64 ((i + 1 : Nat) : Int)] (t - (i + 1)) rfl rfl ⟨i + 1, .slice tva (ths.length + 1) tvc, ths ++ [th], rfl, by omega, rfl, by rw [List.length_append, hpl]; rfl, ?_, ?_, (hsc xf Uf).upd ug (by simp; exact fun h => hmg1 h.symm)⟩ (by omega)
          · intro t ht
            rcases List.mem_append.1 ht with h | h
            · exact hz t h
            · rw [List.mem_singleton.1 h, hth, hLn]
              exact ⟨_, _, _, _, rfl⟩
          · have P4 : Post x1 (mc0 m ⟨A, T, N, L, B, P, S⟩ mp mv lv ms (some ⟨gp, gv', liveL N.toNat (sentP A).toNat, 0, 0⟩) fp fv draws tv ths) xg (mc0 m ⟨A, T, N, L, B, P, S⟩ mp mv lv ms (some ⟨gp, gv', liveL N.toNat (sentP A).toNat, 0, 0⟩) fp fv draws (.slice tva (ths.length + 1) tvc) (ths ++ [th])) := by
              refine ⟨?_, ?_⟩
              · show Sep xg (Mc.obs (mc0 m ⟨A, T, N, L, B, P, S⟩ mp mv lv ms (some ⟨gp, gv', liveL N.toNat (sentP A).toNat, 0, 0⟩) fp fv draws (.slice tva (ths.length + 1) tvc) (ths ++ [th])))
                rw [eo]; exact S4
              · show To x1 (Mc.feet (mc0 m ⟨A, T, N, L, B, P, S⟩ mp mv lv ms (some ⟨gp, gv', liveL N.toNat (sentP A).toNat, 0, 0⟩) fp fv draws tv ths)) xg (feet (Mc.obs (mc0 m ⟨A, T, N, L, B, P, S⟩ mp mv lv ms (some ⟨gp, gv', liveL N.toNat (sentP A).toNat, 0, 0⟩) fp fv draws (.slice tva (ths.length + 1) tvc) (ths ++ [th]))))
                rw [eo]; exact T4
            exact J.post P4
        · refine mks l hL hL (by omega) (by omega) fun xb hb ub zb => ?_
          have Vb := Va.trans ub
          refine ⟨Vb.mono (by simp), ?_⟩
          refine mks l hL hL (by omega) (by omega) fun xc hc uc zc => ?_
          have Vc := Vb.trans uc
          refine ⟨Vc.mono (by simp), ?_⟩
          have sa := ((zeros_sl ha (by omega)).upd ub (by simp)).upd uc (by simp)
          have sb := (zeros_sl hb (by omega)).upd uc (by simp)
          have sc := zeros_sl hc (by omega)
          refine rq (.agg (thrC (i : Int) (.slice none 0 0) (0, 0, 0) (.slice (some ⟨x1.drew.heap.size, 0, none⟩) l l) (.slice (some ⟨xb.heap.size, 0, none⟩) l l) (.slice (some ⟨xa.heap.size, 0, none⟩) l l) (.slice none 0 0) (.slice none 0 0))) (fun _ _ => bd _ (fun _ => by kernel_rfl) ⟨rfl, rfl⟩) ?_
          refine bx fun xd hd ud zd => ?_
          have hd : Blk xd xc.heap.size TT (thrC (i : Int) (.slice none 0 0) (0, 0, 0) (.slice (some ⟨x1.drew.heap.size, 0, none⟩) l l) (.slice (some ⟨xb.heap.size, 0, none⟩) l l) (.slice (some ⟨xa.heap.size, 0, none⟩) l l) (.slice none 0 0) (.slice none 0 0)) := hd
          have Vd := Vc.trans ud
          refine ⟨Vd.mono (by simp), ?_⟩
          refine bs #[ptrV xc.heap.size] (fun _ => by kernel_rfl) fun xe he ue ze => ?_
          have Ve := Vd.trans ue
          refine ⟨Ve.mono (by simp), ?_⟩
          have zx := Vc.size
          have ex1 : x1.drew.heap.size = x1.heap.size := rfl
          refine apg (J.ok.tvs.upd Ve (by simp)) he rfl rfl (by decide) (by simp only [maxLen]; show ths.length + 1 ≤ _; omega) (by show (ths.length + 1) * 8 ≤ _; omega) fun tv2 xf hsf hGf => ?_
          have Uf : Upd tv.ownBlock.toList x1 xf := (Ve.mono (by simp)).trans hGf.up
          refine ⟨Uf, ?_⟩
          obtain ⟨tva, tvc, rfl, -⟩ := hsf.form
          replace hsf : Sl xf TTp 1 (.slice tva (ths.length + 1) tvc) (ths.length + 1) (ptrs ths ++ [ptrV xc.heap.size]) := hsf
          replace hGf : Grow xe xf tv (.slice tva (ths.length + 1) tvc) := hGf
          refine fa ?_
          refine st (hsb xf Uf) (by show 18 < 21; omega) rfl fun xg hg ug zg => ?_
          refine ar64 (by omega) ?_
          have Z : Sep xd ((thZ xc.heap.size (.slice (some ⟨x1.drew.heap.size, 0, none⟩) l l) (.slice (some ⟨xb.heap.size, 0, none⟩) l l) (.slice (some ⟨xa.heap.size, 0, none⟩) l l) l).obs (i : Int)) := thZ_sep hd ((sa).upd ud (by simp)) ((sc).upd ud (by simp)) ((sb).upd ud (by simp)) (by omega) (by omega) (by omega) (by omega) (by omega) (by omega)
          obtain ⟨th, hth⟩ : ∃ th, th = thZ xc.heap.size (.slice (some ⟨x1.drew.heap.size, 0, none⟩) l l) (.slice (some ⟨xb.heap.size, 0, none⟩) l l) (.slice (some ⟨xa.heap.size, 0, none⟩) l l) l := ⟨_, rfl⟩
          rw [← hth] at Z
          have hthg : th.g = xc.heap.size := by rw [hth]; rfl
          have hnew : ∀ k ∈ (obThr (i : Int) th).foot, x1.heap.size ≤ k := by
            rw [hth]
            show ∀ k ∈ feet _, _
            intro k hk
            simp [feet, Th.obs, obSl, obCore, thZ, Value.ownBlock] at hk
            rcases hk with rfl | rfl | rfl | rfl <;> omega
          have S1 := Sep.add (y := obThr (i : Int) th) J.ok Vd Z hnew
          have S2 := S1.upd0 ue
          have T2 : To x1 (Mc.feet (mc0 m ⟨A, T, N, L, B, P, S⟩ mp mv lv ms (some ⟨gp, gv', liveL N.toNat (sentP A).toNat, 0, 0⟩) fp fv draws tv ths)) xe (feet (Mc.obs (mc0 m ⟨A, T, N, L, B, P, S⟩ mp mv lv ms (some ⟨gp, gv', liveL N.toNat (sentP A).toNat, 0, 0⟩) fp fv draws tv ths) ++ [obThr (i : Int) th])) := ⟨Ve.mono (by simp), fun k hk => by
            rw [feet_app] at hk
            rcases List.mem_append.1 hk with h | h
            · exact .inl h
            · exact .inr (hnew k (by simpa [feet] using h))⟩
          have tz : To xe (obSl TTp 1 tv ths.length (ptrs ths)).foot xf (obSl TTp 1 (.slice tva (ths.length + 1) tvc) (ths.length + 1) (ptrs ths ++ [ptrV th.g])).foot := ⟨hGf.up, fun k hk => by
            rcases hGf.own k (by simpa [obSl] using hk) with h | h
            · exact .inl (by simpa [obSl] using h)
            · exact .inr h⟩
          have S3 := Sep.set (i := 4) (x := obSl TTp 1 tv ths.length (ptrs ths)) (y := obSl TTp 1 (.slice tva (ths.length + 1) tvc) (ths.length + 1) (ptrs ths ++ [ptrV th.g])) S2 rfl (by rw [hthg]; exact hsf) tz
          have T3 := T2.trans (To.set (l := Mc.obs (mc0 m ⟨A, T, N, L, B, P, S⟩ mp mv lv ms (some ⟨gp, gv', liveL N.toNat (sentP A).toNat, 0, 0⟩) fp fv draws tv ths) ++ [obThr (i : Int) th]) (i := 4) (x := obSl TTp 1 tv ths.length (ptrs ths)) rfl tz)
          have tm : To xf [m] xg [m] := ⟨ug, fun _ h => .inl h⟩
          have S4 := Sep.set (i := 0) (x := Mc.obM (mc0 m ⟨A, T, N, L, B, P, S⟩ mp mv lv ms (some ⟨gp, gv', liveL N.toNat (sentP A).toNat, 0, 0⟩) fp fv draws tv ths)) (y := Mc.obM (mc0 m ⟨A, T, N, L, B, P, S⟩ mp mv lv ms (some ⟨gp, gv', liveL N.toNat (sentP A).toNat, 0, 0⟩) fp fv draws (.slice tva (ths.length + 1) tvc) ths)) S3 rfl hg tm
          have T4 := T3.trans (To.set (i := 0) (x := Mc.obM (mc0 m ⟨A, T, N, L, B, P, S⟩ mp mv lv ms (some ⟨gp, gv', liveL N.toNat (sentP A).toNat, 0, 0⟩) fp fv draws tv ths)) (y := Mc.obM (mc0 m ⟨A, T, N, L, B, P, S⟩ mp mv lv ms (some ⟨gp, gv', liveL N.toNat (sentP A).toNat, 0, 0⟩) fp fv draws (.slice tva (ths.length + 1) tvc) ths)) rfl tm)
          have eo : Mc.obs (mc0 m ⟨A, T, N, L, B, P, S⟩ mp mv lv ms (some ⟨gp, gv', liveL N.toNat (sentP A).toNat, 0, 0⟩) fp fv draws (.slice tva (ths.length + 1) tvc) (ths ++ [th])) = (((Mc.obs (mc0 m ⟨A, T, N, L, B, P, S⟩ mp mv lv ms (some ⟨gp, gv', liveL N.toNat (sentP A).toNat, 0, 0⟩) fp fv draws tv ths) ++ [obThr (i : Int) th]).set 4 (obSl TTp 1 (.slice tva (ths.length + 1) tvc) (ths.length + 1) (ptrs ths ++ [ptrV th.g]))).set 0 (Mc.obM (mc0 m ⟨A, T, N, L, B, P, S⟩ mp mv lv ms (some ⟨gp, gv', liveL N.toNat (sentP A).toNat, 0, 0⟩) fp fv draws (.slice tva (ths.length + 1) tvc) ths))) := by
            have eo := obs_snoc (mc0 m ⟨A, T, N, L, B, P, S⟩ mp mv lv ms (some ⟨gp, gv', liveL N.toNat (sentP A).toNat, 0, 0⟩) fp fv draws tv ths) (.slice tva (ths.length + 1) tvc) th
            have el : ((mc0 m ⟨A, T, N, L, B, P, S⟩ mp mv lv ms (some ⟨gp, gv', liveL N.toNat (sentP A).toNat, 0, 0⟩) fp fv draws tv ths).ths.length : Int) = (i : Int) := by show (ths.length : Int) = _; rw [hpl]
            rw [el] at eo
            exact eo
          refine round_mk [.int .i64 ((i + 1 : Nat) : Int)] (t - (i + 1)) rfl rfl ⟨i + 1, .slice tva (ths.length + 1) tvc, ths ++ [th], rfl, by omega, rfl, by rw [List.length_append, hpl]; rfl, ?_, ?_, (hsc xf Uf).upd ug (by simp; exact fun h => hmg1 h.symm)⟩ (by omega)
          · intro t ht
            rcases List.mem_append.1 ht with h | h
            · exact hz t h
            · rw [List.mem_singleton.1 h, hth, hLn]
              exact ⟨_, _, _, _, rfl⟩
          · have P4 : Post x1 (mc0 m ⟨A, T, N, L, B, P, S⟩ mp mv lv ms (some ⟨gp, gv', liveL N.toNat (sentP A).toNat, 0, 0⟩) fp fv draws tv ths) xg (mc0 m ⟨A, T, N, L, B, P, S⟩ mp mv lv ms (some ⟨gp, gv', liveL N.toNat (sentP A).toNat, 0, 0⟩) fp fv draws (.slice tva (ths.length + 1) tvc) (ths ++ [th])) := by
              refine ⟨?_, ?_⟩
              · show Sep xg (Mc.obs (mc0 m ⟨A, T, N, L, B, P, S⟩ mp mv lv ms (some ⟨gp, gv', liveL N.toNat (sentP A).toNat, 0, 0⟩) fp fv draws (.slice tva (ths.length + 1) tvc) (ths ++ [th])))
                rw [eo]; exact S4
              · show To x1 (Mc.feet (mc0 m ⟨A, T, N, L, B, P, S⟩ mp mv lv ms (some ⟨gp, gv', liveL N.toNat (sentP A).toNat, 0, 0⟩) fp fv draws tv ths)) xg (feet (Mc.obs (mc0 m ⟨A, T, N, L, B, P, S⟩ mp mv lv ms (some ⟨gp, gv', liveL N.toNat (sentP A).toNat, 0, 0⟩) fp fv draws (.slice tva (ths.length + 1) tvc) (ths ++ [th]))))
                rw [eo]; exact T4
            exact J.post P4
      · refine mks l hL hL (by omega) (by omega) fun xa ha ua za => ?_
        have Va := (Upd.refl [] x1).drew.trans ua
        refine ⟨Va.mono (by simp), ?_⟩
        refine ⟨?_, ?_⟩
        · refine mks l hL hL (by omega) (by omega) fun xb hb ub zb => ?_
          have Vb := Va.trans ub
          refine ⟨Vb.mono (by simp), ?_⟩
          refine mks l hL hL (by omega) (by omega) fun xc hc uc zc => ?_
          have Vc := Vb.trans uc
          refine ⟨Vc.mono (by simp), ?_⟩
          have sa := ((zeros_sl ha (by omega)).upd ub (by simp)).upd uc (by simp)
          have sb := (zeros_sl hb (by omega)).upd uc (by simp)
          have sc := zeros_sl hc (by omega)
          refine rq (.agg (thrC (i : Int) (.slice none 0 0) (0, 0, 0) (.slice (some ⟨xa.heap.size, 0, none⟩) l l) (.slice (some ⟨x1.drew.heap.size, 0, none⟩) l l) (.slice (some ⟨xb.heap.size, 0, none⟩) l l) (.slice none 0 0) (.slice none 0 0))) (fun _ _ => bd _ (fun _ => by kernel_rfl) ⟨rfl, rfl⟩) ?_
          refine bx fun xd hd ud zd => ?_
          have hd : Blk xd xc.heap.size TT (thrC (i : Int) (.slice none 0 0) (0, 0, 0) (.slice (some ⟨xa.heap.size, 0, none⟩) l l) (.slice (some ⟨x1.drew.heap.size, 0, none⟩) l l) (.slice (some ⟨xb.heap.size, 0, none⟩) l l) (.slice none 0 0) (.slice none 0 0)) := hd
          have Vd := Vc.trans ud
          refine ⟨Vd.mono (by simp), ?_⟩
          refine bs #[ptrV xc.heap.size] (fun _ => by kernel_rfl) fun xe he ue ze => ?_
          have Ve := Vd.trans ue
          refine ⟨Ve.mono (by simp), ?_⟩
          have zx := Vc.size
          have ex1 : x1.drew.heap.size = x1.heap.size := rfl
          refine apg (J.ok.tvs.upd Ve (by simp)) he rfl rfl (by decide) (by simp only [maxLen]; show ths.length + 1 ≤ _; omega) (by show (ths.length + 1) * 8 ≤ _; omega) fun tv2 xf hsf hGf => ?_
          have Uf : Upd tv.ownBlock.toList x1 xf := (Ve.mono (by simp)).trans hGf.up
          refine ⟨Uf, ?_⟩
          obtain ⟨tva, tvc, rfl, -⟩ := hsf.form
          replace hsf : Sl xf TTp 1 (.slice tva (ths.length + 1) tvc) (ths.length + 1) (ptrs ths ++ [ptrV xc.heap.size]) := hsf
          replace hGf : Grow xe xf tv (.slice tva (ths.length + 1) tvc) := hGf
          refine fa ?_
          refine st (hsb xf Uf) (by show 18 < 21; omega) rfl fun xg hg ug zg => ?_
          refine ar64 (by omega) ?_
          have Z : Sep xd ((thZ xc.heap.size (.slice (some ⟨xa.heap.size, 0, none⟩) l l) (.slice (some ⟨x1.drew.heap.size, 0, none⟩) l l) (.slice (some ⟨xb.heap.size, 0, none⟩) l l) l).obs (i : Int)) := thZ_sep hd ((sb).upd ud (by simp)) ((sa).upd ud (by simp)) ((sc).upd ud (by simp)) (by omega) (by omega) (by omega) (by omega) (by omega) (by omega)
          obtain ⟨th, hth⟩ : ∃ th, th = thZ xc.heap.size (.slice (some ⟨xa.heap.size, 0, none⟩) l l) (.slice (some ⟨x1.drew.heap.size, 0, none⟩) l l) (.slice (some ⟨xb.heap.size, 0, none⟩) l l) l := ⟨_, rfl⟩
          rw [← hth] at Z
          have hthg : th.g = xc.heap.size := by rw [hth]; rfl
          have hnew : ∀ k ∈ (obThr (i : Int) th).foot, x1.heap.size ≤ k := by
            rw [hth]
            show ∀ k ∈ feet _, _
            intro k hk
            simp [feet, Th.obs, obSl, obCore, thZ, Value.ownBlock] at hk
            rcases hk with rfl | rfl | rfl | rfl <;> omega
          have S1 := Sep.add (y := obThr (i : Int) th) J.ok Vd Z hnew
          have S2 := S1.upd0 ue
          have T2 : To x1 (Mc.feet (mc0 m ⟨A, T, N, L, B, P, S⟩ mp mv lv ms (some ⟨gp, gv', liveL N.toNat (sentP A).toNat, 0, 0⟩) fp fv draws tv ths)) xe (feet (Mc.obs (mc0 m ⟨A, T, N, L, B, P, S⟩ mp mv lv ms (some ⟨gp, gv', liveL N.toNat (sentP A).toNat, 0, 0⟩) fp fv draws tv ths) ++ [obThr (i : Int) th])) := ⟨Ve.mono (by simp), fun k hk => by
            rw [feet_app] at hk
            rcases List.mem_append.1 hk with h | h
            · exact .inl h
            · exact .inr (hnew k (by simpa [feet] using h))⟩
          have tz : To xe (obSl TTp 1 tv ths.length (ptrs ths)).foot xf (obSl TTp 1 (.slice tva (ths.length + 1) tvc) (ths.length + 1) (ptrs ths ++ [ptrV th.g])).foot := ⟨hGf.up, fun k hk => by
            rcases hGf.own k (by simpa [obSl] using hk) with h | h
            · exact .inl (by simpa [obSl] using h)
            · exact .inr h⟩
          have S3 := Sep.set (i := 4) (x := obSl TTp 1 tv ths.length (ptrs ths)) (y := obSl TTp 1 (.slice tva (ths.length + 1) tvc) (ths.length + 1) (ptrs ths ++ [ptrV th.g])) S2 rfl (by rw [hthg]; exact hsf) tz
          have T3 := T2.trans (To.set (l := Mc.obs (mc0 m ⟨A, T, N, L, B, P, S⟩ mp mv lv ms (some ⟨gp, gv', liveL N.toNat (sentP A).toNat, 0, 0⟩) fp fv draws tv ths) ++ [obThr (i : Int) th]) (i := 4) (x := obSl TTp 1 tv ths.length (ptrs ths)) rfl tz)
          have tm : To xf [m] xg [m] := ⟨ug, fun _ h => .inl h⟩
          have S4 := Sep.set (i := 0) (x := Mc.obM (mc0 m ⟨A, T, N, L, B, P, S⟩ mp mv lv ms (some ⟨gp, gv', liveL N.toNat (sentP A).toNat, 0, 0⟩) fp fv draws tv ths)) (y := Mc.obM (mc0 m ⟨A, T, N, L, B, P, S⟩ mp mv lv ms (some ⟨gp, gv', liveL N.toNat (sentP A).toNat, 0, 0⟩) fp fv draws (.slice tva (ths.length + 1) tvc) ths)) S3 rfl hg tm
          have T4 := T3.trans (To.set (i := 0) (x := Mc.obM (mc0 m ⟨A, T, N, L, B, P, S⟩ mp mv lv ms (some ⟨gp, gv', liveL N.toNat (sentP A).toNat, 0, 0⟩) fp fv draws tv ths)) (y := Mc.obM (mc0 m ⟨A, T, N, L, B, P, S⟩ mp mv lv ms (some ⟨gp, gv', liveL N.toNat (sentP A).toNat, 0, 0⟩) fp fv draws (.slice tva (ths.length + 1) tvc) ths)) rfl tm)
          have eo : Mc.obs (mc0 m ⟨A, T, N, L, B, P, S⟩ mp mv lv ms (some ⟨gp, gv', liveL N.toNat (sentP A).toNat, 0, 0⟩) fp fv draws (.slice tva (ths.length + 1) tvc) (ths ++ [th])) = (((Mc.obs (mc0 m ⟨A, T, N, L, B, P, S⟩ mp mv lv ms (some ⟨gp, gv', liveL N.toNat (sentP A).toNat, 0, 0⟩) fp fv draws tv ths) ++ [obThr (i : Int) th]).set 4 (obSl TTp 1 (.slice tva (ths.length + 1) tvc) (ths.length + 1) (ptrs ths ++ [ptrV th.g]))).set 0 (Mc.obM (mc0 m ⟨A, T, N, L, B, P, S⟩ mp mv lv ms (some ⟨gp, gv', liveL N.toNat (sentP A).toNat, 0, 0⟩) fp fv draws (.slice tva (ths.length + 1) tvc) ths))) := by
            have eo := obs_snoc (mc0 m ⟨A, T, N, L, B, P, S⟩ mp mv lv ms (some ⟨gp, gv', liveL N.toNat (sentP A).toNat, 0, 0⟩) fp fv draws tv ths) (.slice tva (ths.length + 1) tvc) th
            have el : ((mc0 m ⟨A, T, N, L, B, P, S⟩ mp mv lv ms (some ⟨gp, gv', liveL N.toNat (sentP A).toNat, 0, 0⟩) fp fv draws tv ths).ths.length : Int) = (i : Int) := by show (ths.length : Int) = _; rw [hpl]
            rw [el] at eo
            exact eo
          refine round_mk [.int .i64 ((i + 1 : Nat) : Int)] (t - (i + 1)) rfl rfl ⟨i + 1, .slice tva (ths.length + 1) tvc, ths ++ [th], rfl, by omega, rfl, by rw [List.length_append, hpl]; rfl, ?_, ?_, (hsc xf Uf).upd ug (by simp; exact fun h => hmg1 h.symm)⟩ (by omega)
          · intro t ht
            rcases List.mem_append.1 ht with h | h
            · exact hz t h
            · rw [List.mem_singleton.1 h, hth, hLn]
              exact ⟨_, _, _, _, rfl⟩
          · have P4 : Post x1 (mc0 m ⟨A, T, N, L, B, P, S⟩ mp mv lv ms (some ⟨gp, gv', liveL N.toNat (sentP A).toNat, 0, 0⟩) fp fv draws tv ths) xg (mc0 m ⟨A, T, N, L, B, P, S⟩ mp mv lv ms (some ⟨gp, gv', liveL N.toNat (sentP A).toNat, 0, 0⟩) fp fv draws (.slice tva (ths.length + 1) tvc) (ths ++ [th])) := by
              refine ⟨?_, ?_⟩
              · show Sep xg (Mc.obs (mc0 m ⟨A, T, N, L, B, P, S⟩ mp mv lv ms (some ⟨gp, gv', liveL N.toNat (sentP A).toNat, 0, 0⟩) fp fv draws (.slice tva (ths.length + 1) tvc) (ths ++ [th])))
                rw [eo]; exact S4
              · show To x1 (Mc.feet (mc0 m ⟨A, T, N, L, B, P, S⟩ mp mv lv ms (some ⟨gp, gv', liveL N.toNat (sentP A).toNat, 0, 0⟩) fp fv draws tv ths)) xg (feet (Mc.obs (mc0 m ⟨A, T, N, L, B, P, S⟩ mp mv lv ms (some ⟨gp, gv', liveL N.toNat (sentP A).toNat, 0, 0⟩) fp fv draws (.slice tva (ths.length + 1) tvc) (ths ++ [th]))))
                rw [eo]; exact T4
            exact J.post P4
        · refine mks l hL hL (by omega) (by omega) fun xb hb ub zb => ?_
          have Vb := Va.trans ub
          refine ⟨Vb.mono (by simp), ?_⟩
          refine mks l hL hL (by omega) (by omega) fun xc hc uc zc => ?_
          have Vc := Vb.trans uc
          refine ⟨Vc.mono (by simp), ?_⟩
          have sa := ((zeros_sl ha (by omega)).upd ub (by simp)).upd uc (by simp)
          have sb := (zeros_sl hb (by omega)).upd uc (by simp)
          have sc := zeros_sl hc (by omega)
          refine rq (.agg (thrC (i : Int) (.slice none 0 0) (0, 0, 0) (.slice (some ⟨xb.heap.size, 0, none⟩) l l) (.slice (some ⟨x1.drew.heap.size, 0, none⟩) l l) (.slice (some ⟨xa.heap.size, 0, none⟩) l l) (.slice none 0 0) (.slice none 0 0))) (fun _ _ => bd _ (fun _ => by kernel_rfl) ⟨rfl, rfl⟩) ?_
          refine bx fun xd hd ud zd => ?_
          have hd : Blk xd xc.heap.size TT (thrC (i : Int) (.slice none 0 0) (0, 0, 0) (.slice (some ⟨xb.heap.size, 0, none⟩) l l) (.slice (some ⟨x1.drew.heap.size, 0, none⟩) l l) (.slice (some ⟨xa.heap.size, 0, none⟩) l l) (.slice none 0 0) (.slice none 0 0)) := hd
          have Vd := Vc.trans ud
          refine ⟨Vd.mono (by simp), ?_⟩
          refine bs #[ptrV xc.heap.size] (fun _ => by kernel_rfl) fun xe he ue ze => ?_
          have Ve := Vd.trans ue
          refine ⟨Ve.mono (by simp), ?_⟩
          have zx := Vc.size
          have ex1 : x1.drew.heap.size = x1.heap.size := rfl
          refine apg (J.ok.tvs.upd Ve (by simp)) he rfl rfl (by decide) (by simp only [maxLen]; show ths.length + 1 ≤ _; omega) (by show (ths.length + 1) * 8 ≤ _; omega) fun tv2 xf hsf hGf => ?_
          have Uf : Upd tv.ownBlock.toList x1 xf := (Ve.mono (by simp)).trans hGf.up
          refine ⟨Uf, ?_⟩
          obtain ⟨tva, tvc, rfl, -⟩ := hsf.form
          replace hsf : Sl xf TTp 1 (.slice tva (ths.length + 1) tvc) (ths.length + 1) (ptrs ths ++ [ptrV xc.heap.size]) := hsf
          replace hGf : Grow xe xf tv (.slice tva (ths.length + 1) tvc) := hGf
          refine fa ?_
          refine st (hsb xf Uf) (by show 18 < 21; omega) rfl fun xg hg ug zg => ?_
          refine ar64 (by omega) ?_
          have Z : Sep xd ((thZ xc.heap.size (.slice (some ⟨xb.heap.size, 0, none⟩) l l) (.slice (some ⟨x1.drew.heap.size, 0, none⟩) l l) (.slice (some ⟨xa.heap.size, 0, none⟩) l l) l).obs (i : Int)) := thZ_sep hd ((sc).upd ud (by simp)) ((sa).upd ud (by simp)) ((sb).upd ud (by simp)) (by omega) (by omega) (by omega) (by omega) (by omega) (by omega)
          obtain ⟨th, hth⟩ : ∃ th, th = thZ xc.heap.size (.slice (some ⟨xb.heap.size, 0, none⟩) l l) (.slice (some ⟨x1.drew.heap.size, 0, none⟩) l l) (.slice (some ⟨xa.heap.size, 0, none⟩) l l) l := ⟨_, rfl⟩
          rw [← hth] at Z
          have hthg : th.g = xc.heap.size := by rw [hth]; rfl
          have hnew : ∀ k ∈ (obThr (i : Int) th).foot, x1.heap.size ≤ k := by
            rw [hth]
            show ∀ k ∈ feet _, _
            intro k hk
            simp [feet, Th.obs, obSl, obCore, thZ, Value.ownBlock] at hk
            rcases hk with rfl | rfl | rfl | rfl <;> omega
          have S1 := Sep.add (y := obThr (i : Int) th) J.ok Vd Z hnew
          have S2 := S1.upd0 ue
          have T2 : To x1 (Mc.feet (mc0 m ⟨A, T, N, L, B, P, S⟩ mp mv lv ms (some ⟨gp, gv', liveL N.toNat (sentP A).toNat, 0, 0⟩) fp fv draws tv ths)) xe (feet (Mc.obs (mc0 m ⟨A, T, N, L, B, P, S⟩ mp mv lv ms (some ⟨gp, gv', liveL N.toNat (sentP A).toNat, 0, 0⟩) fp fv draws tv ths) ++ [obThr (i : Int) th])) := ⟨Ve.mono (by simp), fun k hk => by
            rw [feet_app] at hk
            rcases List.mem_append.1 hk with h | h
            · exact .inl h
            · exact .inr (hnew k (by simpa [feet] using h))⟩
          have tz : To xe (obSl TTp 1 tv ths.length (ptrs ths)).foot xf (obSl TTp 1 (.slice tva (ths.length + 1) tvc) (ths.length + 1) (ptrs ths ++ [ptrV th.g])).foot := ⟨hGf.up, fun k hk => by
            rcases hGf.own k (by simpa [obSl] using hk) with h | h
            · exact .inl (by simpa [obSl] using h)
            · exact .inr h⟩
          have S3 := Sep.set (i := 4) (x := obSl TTp 1 tv ths.length (ptrs ths)) (y := obSl TTp 1 (.slice tva (ths.length + 1) tvc) (ths.length + 1) (ptrs ths ++ [ptrV th.g])) S2 rfl (by rw [hthg]; exact hsf) tz
          have T3 := T2.trans (To.set (l := Mc.obs (mc0 m ⟨A, T, N, L, B, P, S⟩ mp mv lv ms (some ⟨gp, gv', liveL N.toNat (sentP A).toNat, 0, 0⟩) fp fv draws tv ths) ++ [obThr (i : Int) th]) (i := 4) (x := obSl TTp 1 tv ths.length (ptrs ths)) rfl tz)
          have tm : To xf [m] xg [m] := ⟨ug, fun _ h => .inl h⟩
          have S4 := Sep.set (i := 0) (x := Mc.obM (mc0 m ⟨A, T, N, L, B, P, S⟩ mp mv lv ms (some ⟨gp, gv', liveL N.toNat (sentP A).toNat, 0, 0⟩) fp fv draws tv ths)) (y := Mc.obM (mc0 m ⟨A, T, N, L, B, P, S⟩ mp mv lv ms (some ⟨gp, gv', liveL N.toNat (sentP A).toNat, 0, 0⟩) fp fv draws (.slice tva (ths.length + 1) tvc) ths)) S3 rfl hg tm
          have T4 := T3.trans (To.set (i := 0) (x := Mc.obM (mc0 m ⟨A, T, N, L, B, P, S⟩ mp mv lv ms (some ⟨gp, gv', liveL N.toNat (sentP A).toNat, 0, 0⟩) fp fv draws tv ths)) (y := Mc.obM (mc0 m ⟨A, T, N, L, B, P, S⟩ mp mv lv ms (some ⟨gp, gv', liveL N.toNat (sentP A).toNat, 0, 0⟩) fp fv draws (.slice tva (ths.length + 1) tvc) ths)) rfl tm)
          have eo : Mc.obs (mc0 m ⟨A, T, N, L, B, P, S⟩ mp mv lv ms (some ⟨gp, gv', liveL N.toNat (sentP A).toNat, 0, 0⟩) fp fv draws (.slice tva (ths.length + 1) tvc) (ths ++ [th])) = (((Mc.obs (mc0 m ⟨A, T, N, L, B, P, S⟩ mp mv lv ms (some ⟨gp, gv', liveL N.toNat (sentP A).toNat, 0, 0⟩) fp fv draws tv ths) ++ [obThr (i : Int) th]).set 4 (obSl TTp 1 (.slice tva (ths.length + 1) tvc) (ths.length + 1) (ptrs ths ++ [ptrV th.g]))).set 0 (Mc.obM (mc0 m ⟨A, T, N, L, B, P, S⟩ mp mv lv ms (some ⟨gp, gv', liveL N.toNat (sentP A).toNat, 0, 0⟩) fp fv draws (.slice tva (ths.length + 1) tvc) ths))) := by
            have eo := obs_snoc (mc0 m ⟨A, T, N, L, B, P, S⟩ mp mv lv ms (some ⟨gp, gv', liveL N.toNat (sentP A).toNat, 0, 0⟩) fp fv draws tv ths) (.slice tva (ths.length + 1) tvc) th
            have el : ((mc0 m ⟨A, T, N, L, B, P, S⟩ mp mv lv ms (some ⟨gp, gv', liveL N.toNat (sentP A).toNat, 0, 0⟩) fp fv draws tv ths).ths.length : Int) = (i : Int) := by show (ths.length : Int) = _; rw [hpl]
            rw [el] at eo
            exact eo
          refine round_mk [.int .i64 ((i + 1 : Nat) : Int)] (t - (i + 1)) rfl rfl ⟨i + 1, .slice tva (ths.length + 1) tvc, ths ++ [th], rfl, by omega, rfl, by rw [List.length_append, hpl]; rfl, ?_, ?_, (hsc xf Uf).upd ug (by simp; exact fun h => hmg1 h.symm)⟩ (by omega)
          · intro t ht
            rcases List.mem_append.1 ht with h | h
            · exact hz t h
            · rw [List.mem_singleton.1 h, hth, hLn]
              exact ⟨_, _, _, _, rfl⟩
          · have P4 : Post x1 (mc0 m ⟨A, T, N, L, B, P, S⟩ mp mv lv ms (some ⟨gp, gv', liveL N.toNat (sentP A).toNat, 0, 0⟩) fp fv draws tv ths) xg (mc0 m ⟨A, T, N, L, B, P, S⟩ mp mv lv ms (some ⟨gp, gv', liveL N.toNat (sentP A).toNat, 0, 0⟩) fp fv draws (.slice tva (ths.length + 1) tvc) (ths ++ [th])) := by
              refine ⟨?_, ?_⟩
              · show Sep xg (Mc.obs (mc0 m ⟨A, T, N, L, B, P, S⟩ mp mv lv ms (some ⟨gp, gv', liveL N.toNat (sentP A).toNat, 0, 0⟩) fp fv draws (.slice tva (ths.length + 1) tvc) (ths ++ [th])))
                rw [eo]; exact S4
              · show To x1 (Mc.feet (mc0 m ⟨A, T, N, L, B, P, S⟩ mp mv lv ms (some ⟨gp, gv', liveL N.toNat (sentP A).toNat, 0, 0⟩) fp fv draws tv ths)) xg (feet (Mc.obs (mc0 m ⟨A, T, N, L, B, P, S⟩ mp mv lv ms (some ⟨gp, gv', liveL N.toNat (sentP A).toNat, 0, 0⟩) fp fv draws (.slice tva (ths.length + 1) tvc) (ths ++ [th]))))
                rw [eo]; exact T4
            exact J.post P4
      · refine mks l hL hL (by omega) (by omega) fun xa ha ua za => ?_
        have Va := (Upd.refl [] x1).drew.trans ua
        refine ⟨Va.mono (by simp), ?_⟩
        refine ⟨?_, ?_⟩
        · refine mks l hL hL (by omega) (by omega) fun xb hb ub zb => ?_
          have Vb := Va.trans ub
          refine ⟨Vb.mono (by simp), ?_⟩
          refine mks l hL hL (by omega) (by omega) fun xc hc uc zc => ?_
          have Vc := Vb.trans uc
          refine ⟨Vc.mono (by simp), ?_⟩
          have sa := ((zeros_sl ha (by omega)).upd ub (by simp)).upd uc (by simp)
          have sb := (zeros_sl hb (by omega)).upd uc (by simp)
          have sc := zeros_sl hc (by omega)
          refine rq (.agg (thrC (i : Int) (.slice none 0 0) (0, 0, 0) (.slice (some ⟨xa.heap.size, 0, none⟩) l l) (.slice (some ⟨xb.heap.size, 0, none⟩) l l) (.slice (some ⟨x1.drew.heap.size, 0, none⟩) l l) (.slice none 0 0) (.slice none 0 0))) (fun _ _ => bd _ (fun _ => by kernel_rfl) ⟨rfl, rfl⟩) ?_
          refine bx fun xd hd ud zd => ?_
          have hd : Blk xd xc.heap.size TT (thrC (i : Int) (.slice none 0 0) (0, 0, 0) (.slice (some ⟨xa.heap.size, 0, none⟩) l l) (.slice (some ⟨xb.heap.size, 0, none⟩) l l) (.slice (some ⟨x1.drew.heap.size, 0, none⟩) l l) (.slice none 0 0) (.slice none 0 0)) := hd
          have Vd := Vc.trans ud
          refine ⟨Vd.mono (by simp), ?_⟩
          refine bs #[ptrV xc.heap.size] (fun _ => by kernel_rfl) fun xe he ue ze => ?_
          have Ve := Vd.trans ue
          refine ⟨Ve.mono (by simp), ?_⟩
          have zx := Vc.size
          have ex1 : x1.drew.heap.size = x1.heap.size := rfl
          refine apg (J.ok.tvs.upd Ve (by simp)) he rfl rfl (by decide) (by simp only [maxLen]; show ths.length + 1 ≤ _; omega) (by show (ths.length + 1) * 8 ≤ _; omega) fun tv2 xf hsf hGf => ?_
          have Uf : Upd tv.ownBlock.toList x1 xf := (Ve.mono (by simp)).trans hGf.up
          refine ⟨Uf, ?_⟩
          obtain ⟨tva, tvc, rfl, -⟩ := hsf.form
          replace hsf : Sl xf TTp 1 (.slice tva (ths.length + 1) tvc) (ths.length + 1) (ptrs ths ++ [ptrV xc.heap.size]) := hsf
          replace hGf : Grow xe xf tv (.slice tva (ths.length + 1) tvc) := hGf
          refine fa ?_
          refine st (hsb xf Uf) (by show 18 < 21; omega) rfl fun xg hg ug zg => ?_
          refine ar64 (by omega) ?_
          have Z : Sep xd ((thZ xc.heap.size (.slice (some ⟨xa.heap.size, 0, none⟩) l l) (.slice (some ⟨xb.heap.size, 0, none⟩) l l) (.slice (some ⟨x1.drew.heap.size, 0, none⟩) l l) l).obs (i : Int)) := thZ_sep hd ((sb).upd ud (by simp)) ((sc).upd ud (by simp)) ((sa).upd ud (by simp)) (by omega) (by omega) (by omega) (by omega) (by omega) (by omega)
          obtain ⟨th, hth⟩ : ∃ th, th = thZ xc.heap.size (.slice (some ⟨xa.heap.size, 0, none⟩) l l) (.slice (some ⟨xb.heap.size, 0, none⟩) l l) (.slice (some ⟨x1.drew.heap.size, 0, none⟩) l l) l := ⟨_, rfl⟩
          rw [← hth] at Z
          have hthg : th.g = xc.heap.size := by rw [hth]; rfl
          have hnew : ∀ k ∈ (obThr (i : Int) th).foot, x1.heap.size ≤ k := by
            rw [hth]
            show ∀ k ∈ feet _, _
            intro k hk
            simp [feet, Th.obs, obSl, obCore, thZ, Value.ownBlock] at hk
            rcases hk with rfl | rfl | rfl | rfl <;> omega
          have S1 := Sep.add (y := obThr (i : Int) th) J.ok Vd Z hnew
          have S2 := S1.upd0 ue
          have T2 : To x1 (Mc.feet (mc0 m ⟨A, T, N, L, B, P, S⟩ mp mv lv ms (some ⟨gp, gv', liveL N.toNat (sentP A).toNat, 0, 0⟩) fp fv draws tv ths)) xe (feet (Mc.obs (mc0 m ⟨A, T, N, L, B, P, S⟩ mp mv lv ms (some ⟨gp, gv', liveL N.toNat (sentP A).toNat, 0, 0⟩) fp fv draws tv ths) ++ [obThr (i : Int) th])) := ⟨Ve.mono (by simp), fun k hk => by
            rw [feet_app] at hk
            rcases List.mem_append.1 hk with h | h
            · exact .inl h
            · exact .inr (hnew k (by simpa [feet] using h))⟩
          have tz : To xe (obSl TTp 1 tv ths.length (ptrs ths)).foot xf (obSl TTp 1 (.slice tva (ths.length + 1) tvc) (ths.length + 1) (ptrs ths ++ [ptrV th.g])).foot := ⟨hGf.up, fun k hk => by
            rcases hGf.own k (by simpa [obSl] using hk) with h | h
            · exact .inl (by simpa [obSl] using h)
            · exact .inr h⟩
          have S3 := Sep.set (i := 4) (x := obSl TTp 1 tv ths.length (ptrs ths)) (y := obSl TTp 1 (.slice tva (ths.length + 1) tvc) (ths.length + 1) (ptrs ths ++ [ptrV th.g])) S2 rfl (by rw [hthg]; exact hsf) tz
          have T3 := T2.trans (To.set (l := Mc.obs (mc0 m ⟨A, T, N, L, B, P, S⟩ mp mv lv ms (some ⟨gp, gv', liveL N.toNat (sentP A).toNat, 0, 0⟩) fp fv draws tv ths) ++ [obThr (i : Int) th]) (i := 4) (x := obSl TTp 1 tv ths.length (ptrs ths)) rfl tz)
          have tm : To xf [m] xg [m] := ⟨ug, fun _ h => .inl h⟩
          have S4 := Sep.set (i := 0) (x := Mc.obM (mc0 m ⟨A, T, N, L, B, P, S⟩ mp mv lv ms (some ⟨gp, gv', liveL N.toNat (sentP A).toNat, 0, 0⟩) fp fv draws tv ths)) (y := Mc.obM (mc0 m ⟨A, T, N, L, B, P, S⟩ mp mv lv ms (some ⟨gp, gv', liveL N.toNat (sentP A).toNat, 0, 0⟩) fp fv draws (.slice tva (ths.length + 1) tvc) ths)) S3 rfl hg tm
          have T4 := T3.trans (To.set (i := 0) (x := Mc.obM (mc0 m ⟨A, T, N, L, B, P, S⟩ mp mv lv ms (some ⟨gp, gv', liveL N.toNat (sentP A).toNat, 0, 0⟩) fp fv draws tv ths)) (y := Mc.obM (mc0 m ⟨A, T, N, L, B, P, S⟩ mp mv lv ms (some ⟨gp, gv', liveL N.toNat (sentP A).toNat, 0, 0⟩) fp fv draws (.slice tva (ths.length + 1) tvc) ths)) rfl tm)
          have eo : Mc.obs (mc0 m ⟨A, T, N, L, B, P, S⟩ mp mv lv ms (some ⟨gp, gv', liveL N.toNat (sentP A).toNat, 0, 0⟩) fp fv draws (.slice tva (ths.length + 1) tvc) (ths ++ [th])) = (((Mc.obs (mc0 m ⟨A, T, N, L, B, P, S⟩ mp mv lv ms (some ⟨gp, gv', liveL N.toNat (sentP A).toNat, 0, 0⟩) fp fv draws tv ths) ++ [obThr (i : Int) th]).set 4 (obSl TTp 1 (.slice tva (ths.length + 1) tvc) (ths.length + 1) (ptrs ths ++ [ptrV th.g]))).set 0 (Mc.obM (mc0 m ⟨A, T, N, L, B, P, S⟩ mp mv lv ms (some ⟨gp, gv', liveL N.toNat (sentP A).toNat, 0, 0⟩) fp fv draws (.slice tva (ths.length + 1) tvc) ths))) := by
            have eo := obs_snoc (mc0 m ⟨A, T, N, L, B, P, S⟩ mp mv lv ms (some ⟨gp, gv', liveL N.toNat (sentP A).toNat, 0, 0⟩) fp fv draws tv ths) (.slice tva (ths.length + 1) tvc) th
            have el : ((mc0 m ⟨A, T, N, L, B, P, S⟩ mp mv lv ms (some ⟨gp, gv', liveL N.toNat (sentP A).toNat, 0, 0⟩) fp fv draws tv ths).ths.length : Int) = (i : Int) := by show (ths.length : Int) = _; rw [hpl]
            rw [el] at eo
            exact eo
          refine round_mk [.int .i64 ((i + 1 : Nat) : Int)] (t - (i + 1)) rfl rfl ⟨i + 1, .slice tva (ths.length + 1) tvc, ths ++ [th], rfl, by omega, rfl, by rw [List.length_append, hpl]; rfl, ?_, ?_, (hsc xf Uf).upd ug (by simp; exact fun h => hmg1 h.symm)⟩ (by omega)
          · intro t ht
            rcases List.mem_append.1 ht with h | h
            · exact hz t h
            · rw [List.mem_singleton.1 h, hth, hLn]
              exact ⟨_, _, _, _, rfl⟩
          · have P4 : Post x1 (mc0 m ⟨A, T, N, L, B, P, S⟩ mp mv lv ms (some ⟨gp, gv', liveL N.toNat (sentP A).toNat, 0, 0⟩) fp fv draws tv ths) xg (mc0 m ⟨A, T, N, L, B, P, S⟩ mp mv lv ms (some ⟨gp, gv', liveL N.toNat (sentP A).toNat, 0, 0⟩) fp fv draws (.slice tva (ths.length + 1) tvc) (ths ++ [th])) := by
              refine ⟨?_, ?_⟩
              · show Sep xg (Mc.obs (mc0 m ⟨A, T, N, L, B, P, S⟩ mp mv lv ms (some ⟨gp, gv', liveL N.toNat (sentP A).toNat, 0, 0⟩) fp fv draws (.slice tva (ths.length + 1) tvc) (ths ++ [th])))
                rw [eo]; exact S4
              · show To x1 (Mc.feet (mc0 m ⟨A, T, N, L, B, P, S⟩ mp mv lv ms (some ⟨gp, gv', liveL N.toNat (sentP A).toNat, 0, 0⟩) fp fv draws tv ths)) xg (feet (Mc.obs (mc0 m ⟨A, T, N, L, B, P, S⟩ mp mv lv ms (some ⟨gp, gv', liveL N.toNat (sentP A).toNat, 0, 0⟩) fp fv draws (.slice tva (ths.length + 1) tvc) (ths ++ [th]))))
                rw [eo]; exact T4
            exact J.post P4
        · refine mks l hL hL (by omega) (by omega) fun xb hb ub zb => ?_
          have Vb := Va.trans ub
          refine ⟨Vb.mono (by simp), ?_⟩
          refine mks l hL hL (by omega) (by omega) fun xc hc uc zc => ?_
          have Vc := Vb.trans uc
          refine ⟨Vc.mono (by simp), ?_⟩
          have sa := ((zeros_sl ha (by omega)).upd ub (by simp)).upd uc (by simp)
          have sb := (zeros_sl hb (by omega)).upd uc (by simp)
          have sc := zeros_sl hc (by omega)
          refine rq (.agg (thrC (i : Int) (.slice none 0 0) (0, 0, 0) (.slice (some ⟨xb.heap.size, 0, none⟩) l l) (.slice (some ⟨xa.heap.size, 0, none⟩) l l) (.slice (some ⟨x1.drew.heap.size, 0, none⟩) l l) (.slice none 0 0) (.slice none 0 0))) (fun _ _ => bd _ (fun _ => by kernel_rfl) ⟨rfl, rfl⟩) ?_
          refine bx fun xd hd ud zd => ?_
          have hd : Blk xd xc.heap.size TT (thrC (i : Int) (.slice none 0 0) (0, 0, 0) (.slice (some ⟨xb.heap.size, 0, none⟩) l l) (.slice (some ⟨xa.heap.size, 0, none⟩) l l) (.slice (some ⟨x1.drew.heap.size, 0, none⟩) l l) (.slice none 0 0) (.slice none 0 0)) := hd
          have Vd := Vc.trans ud
          refine ⟨Vd.mono (by simp), ?_⟩
          refine bs #[ptrV xc.heap.size] (fun _ => by kernel_rfl) fun xe he ue ze => ?_
          have Ve := Vd.trans ue
          refine ⟨Ve.mono (by simp), ?_⟩
          have zx := Vc.size
          have ex1 : x1.drew.heap.size = x1.heap.size := rfl
          refine apg (J.ok.tvs.upd Ve (by simp)) he rfl rfl (by decide) (by simp only [maxLen]; show ths.length + 1 ≤ _; omega) (by show (ths.length + 1) * 8 ≤ _; omega) fun tv2 xf hsf hGf => ?_
          have Uf : Upd tv.ownBlock.toList x1 xf := (Ve.mono (by simp)).trans hGf.up
          refine ⟨Uf, ?_⟩
          obtain ⟨tva, tvc, rfl, -⟩ := hsf.form
          replace hsf : Sl xf TTp 1 (.slice tva (ths.length + 1) tvc) (ths.length + 1) (ptrs ths ++ [ptrV xc.heap.size]) := hsf
          replace hGf : Grow xe xf tv (.slice tva (ths.length + 1) tvc) := hGf
          refine fa ?_
          refine st (hsb xf Uf) (by show 18 < 21; omega) rfl fun xg hg ug zg => ?_
          refine ar64 (by omega) ?_
          have Z : Sep xd ((thZ xc.heap.size (.slice (some ⟨xb.heap.size, 0, none⟩) l l) (.slice (some ⟨xa.heap.size, 0, none⟩) l l) (.slice (some ⟨x1.drew.heap.size, 0, none⟩) l l) l).obs (i : Int)) := thZ_sep hd ((sc).upd ud (by simp)) ((sb).upd ud (by simp)) ((sa).upd ud (by simp)) (by omega) (by omega) (by omega) (by omega) (by omega) (by omega)
          obtain ⟨th, hth⟩ : ∃ th, th = thZ xc.heap.size (.slice (some ⟨xb.heap.size, 0, none⟩) l l) (.slice (some ⟨xa.heap.size, 0, none⟩) l l) (.slice (some ⟨x1.drew.heap.size, 0, none⟩) l l) l := ⟨_, rfl⟩
          rw [← hth] at Z
          have hthg : th.g = xc.heap.size := by rw [hth]; rfl
          have hnew : ∀ k ∈ (obThr (i : Int) th).foot, x1.heap.size ≤ k := by
            rw [hth]
            show ∀ k ∈ feet _, _
            intro k hk
            simp [feet, Th.obs, obSl, obCore, thZ, Value.ownBlock] at hk
            rcases hk with rfl | rfl | rfl | rfl <;> omega
          have S1 := Sep.add (y := obThr (i : Int) th) J.ok Vd Z hnew
          have S2 := S1.upd0 ue
          have T2 : To x1 (Mc.feet (mc0 m ⟨A, T, N, L, B, P, S⟩ mp mv lv ms (some ⟨gp, gv', liveL N.toNat (sentP A).toNat, 0, 0⟩) fp fv draws tv ths)) xe (feet (Mc.obs (mc0 m ⟨A, T, N, L, B, P, S⟩ mp mv lv ms (some ⟨gp, gv', liveL N.toNat (sentP A).toNat, 0, 0⟩) fp fv draws tv ths) ++ [obThr (i : Int) th])) := ⟨Ve.mono (by simp), fun k hk => by
            rw [feet_app] at hk
            rcases List.mem_append.1 hk with h | h
            · exact .inl h
            · exact .inr (hnew k (by simpa [feet] using h))⟩
          have tz : To xe (obSl TTp 1 tv ths.length (ptrs ths)).foot xf (obSl TTp 1 (.slice tva (ths.length + 1) tvc) (ths.length + 1) (ptrs ths ++ [ptrV th.g])).foot := ⟨hGf.up, fun k hk => by
            rcases hGf.own k (by simpa [obSl] using hk) with h | h
            · exact .inl (by simpa [obSl] using h)
            · exact .inr h⟩
          have S3 := Sep.set (i := 4) (x := obSl TTp 1 tv ths.length (ptrs ths)) (y := obSl TTp 1 (.slice tva (ths.length + 1) tvc) (ths.length + 1) (ptrs ths ++ [ptrV th.g])) S2 rfl (by rw [hthg]; exact hsf) tz
          have T3 := T2.trans (To.set (l := Mc.obs (mc0 m ⟨A, T, N, L, B, P, S⟩ mp mv lv ms (some ⟨gp, gv', liveL N.toNat (sentP A).toNat, 0, 0⟩) fp fv draws tv ths) ++ [obThr (i : Int) th]) (i := 4) (x := obSl TTp 1 tv ths.length (ptrs ths)) rfl tz)
          have tm : To xf [m] xg [m] := ⟨ug, fun _ h => .inl h⟩
          have S4 := Sep.set (i := 0) (x := Mc.obM (mc0 m ⟨A, T, N, L, B, P, S⟩ mp mv lv ms (some ⟨gp, gv', liveL N.toNat (sentP A).toNat, 0, 0⟩) fp fv draws tv ths)) (y := Mc.obM (mc0 m ⟨A, T, N, L, B, P, S⟩ mp mv lv ms (some ⟨gp, gv', liveL N.toNat (sentP A).toNat, 0, 0⟩) fp fv draws (.slice tva (ths.length + 1) tvc) ths)) S3 rfl hg tm
          have T4 := T3.trans (To.set (i := 0) (x := Mc.obM (mc0 m ⟨A, T, N, L, B, P, S⟩ mp mv lv ms (some ⟨gp, gv', liveL N.toNat (sentP A).toNat, 0, 0⟩) fp fv draws tv ths)) (y := Mc.obM (mc0 m ⟨A, T, N, L, B, P, S⟩ mp mv lv ms (some ⟨gp, gv', liveL N.toNat (sentP A).toNat, 0, 0⟩) fp fv draws (.slice tva (ths.length + 1) tvc) ths)) rfl tm)
          have eo : Mc.obs (mc0 m ⟨A, T, N, L, B, P, S⟩ mp mv lv ms (some ⟨gp, gv', liveL N.toNat (sentP A).toNat, 0, 0⟩) fp fv draws (.slice tva (ths.length + 1) tvc) (ths ++ [th])) = (((Mc.obs (mc0 m ⟨A, T, N, L, B, P, S⟩ mp mv lv ms (some ⟨gp, gv', liveL N.toNat (sentP A).toNat, 0, 0⟩) fp fv draws tv ths) ++ [obThr (i : Int) th]).set 4 (obSl TTp 1 (.slice tva (ths.length + 1) tvc) (ths.length + 1) (ptrs ths ++ [ptrV th.g]))).set 0 (Mc.obM (mc0 m ⟨A, T, N, L, B, P, S⟩ mp mv lv ms (some ⟨gp, gv', liveL N.toNat (sentP A).toNat, 0, 0⟩) fp fv draws (.slice tva (ths.length + 1) tvc) ths))) := by
            have eo := obs_snoc (mc0 m ⟨A, T, N, L, B, P, S⟩ mp mv lv ms (some ⟨gp, gv', liveL N.toNat (sentP A).toNat, 0, 0⟩) fp fv draws tv ths) (.slice tva (ths.length + 1) tvc) th
            have el : ((mc0 m ⟨A, T, N, L, B, P, S⟩ mp mv lv ms (some ⟨gp, gv', liveL N.toNat (sentP A).toNat, 0, 0⟩) fp fv draws tv ths).ths.length : Int) = (i : Int) := by show (ths.length : Int) = _; rw [hpl]
            rw [el] at eo
            exact eo
          refine round_mk [.int .i64 ((i + 1 : Nat) : Int)] (t - (i + 1)) rfl rfl ⟨i + 1, .slice tva (ths.length + 1) tvc, ths ++ [th], rfl, by omega, rfl, by rw [List.length_append, hpl]; rfl, ?_, ?_, (hsc xf Uf).upd ug (by simp; exact fun h => hmg1 h.symm)⟩ (by omega)
          · intro t ht
            rcases List.mem_append.1 ht with h | h
            · exact hz t h
            · rw [List.mem_singleton.1 h, hth, hLn]
              exact ⟨_, _, _, _, rfl⟩
          · have P4 : Post x1 (mc0 m ⟨A, T, N, L, B, P, S⟩ mp mv lv ms (some ⟨gp, gv', liveL N.toNat (sentP A).toNat, 0, 0⟩) fp fv draws tv ths) xg (mc0 m ⟨A, T, N, L, B, P, S⟩ mp mv lv ms (some ⟨gp, gv', liveL N.toNat (sentP A).toNat, 0, 0⟩) fp fv draws (.slice tva (ths.length + 1) tvc) (ths ++ [th])) := by
              refine ⟨?_, ?_⟩
              · show Sep xg (Mc.obs (mc0 m ⟨A, T, N, L, B, P, S⟩ mp mv lv ms (some ⟨gp, gv', liveL N.toNat (sentP A).toNat, 0, 0⟩) fp fv draws (.slice tva (ths.length + 1) tvc) (ths ++ [th])))
                rw [eo]; exact S4
              · show To x1 (Mc.feet (mc0 m ⟨A, T, N, L, B, P, S⟩ mp mv lv ms (some ⟨gp, gv', liveL N.toNat (sentP A).toNat, 0, 0⟩) fp fv draws tv ths)) xg (feet (Mc.obs (mc0 m ⟨A, T, N, L, B, P, S⟩ mp mv lv ms (some ⟨gp, gv', liveL N.toNat (sentP A).toNat, 0, 0⟩) fp fv draws (.slice tva (ths.length + 1) tvc) (ths ++ [th]))))
                rw [eo]; exact T4
            exact J.post P4
    · have hi : i = t := by omega
      subst hi
      exact ⟨fun h => absurd hr h, fun _ => ⟨m, mp, mv, lv, fp, fv, _, tv, ths, rfl, J, by omega, hz, (fun h => (by cases h)), (fun _ => ⟨_, _, rfl⟩)⟩⟩
end Go.Proofs.Ytdomclcokkijjaa

/- Contracts: a machine's steps of memory. -/
namespace Go.Proofs.Ytdomclcokkijjaa
open Go.RowKit
attribute [local irreducible] Instr.loadAt Instr.storeAt Instr.fieldAt Instr.indexAt Instr.sliceAt Instr.buildSlice Instr.box Instr.alloc Builtin.append_ Builtin.len_ Builtin.min_ Builtin.max_ Calls Instr.build Instr.makeSlice binSem convert Instr.index Instr.range Instr.next
theorem tdiv_bd {a b : Int} (h0 : 0 ≤ a) (h1 : a ≤ 2000) (hb : 1 ≤ b) : 0 ≤ a.tdiv b ∧ a.tdiv b ≤ 2000 := by
  rw [Int.tdiv_eq_ediv_of_nonneg h0]
  exact ⟨Int.ediv_nonneg h0 (by omega), Int.le_trans (Int.ediv_le_self _ h0) h1⟩
def whereP (A T N L a : Int) : Int × Int × Int :=
  if a < 0 ∨ a ≥ sizeP A T N L then (5, 0, 0) else if a < 8 then (0, a, 0)
  else if a < linksP A T L then (1, (a - 8).tdiv (slotsP A L), (a - 8).tmod (slotsP A L))
  else if a < nodesP A T N L then (2, a - linksP A T L + 1, 0)
  else if a < treeP A T N L then (3, (a - nodesP A T N L).tdiv (widthP A L) + 1, (a - nodesP A T N L).tmod (widthP A L)) else (4, a - treeP A T N L, 0)
def tupW (x : Int × Int × Int) : Value := .tuple #[.int .i64 x.1, .int .i64 x.2.1, .int .i64 x.2.2]
set_option maxRecDepth 10000 in
theorem where_c {A T N L B P S : Int} (hr : rightC ⟨A, T, N, L, B, P, S⟩) (a : Int) (w : World) : Fn Try.prog 97 #[.agg (planC ⟨A, T, N, L, B, P, S⟩), .int .i64 a] w fun r w' => r = tupW (whereP A T N L a) ∧ Upd [] w w' := by
  obtain ⟨b1, b2, b3, b4, b5, b6, b7, b8, b9, b10, b11, b12⟩ := plan_bd hr
  refine fn_enter Try.func97 rfl rfl ?_
  refine bx fun w1 hb1 hu1 hs1 => ?_
  have hb1 : Blk w1 w.heap.size TP (planC ⟨A, T, N, L, B, P, S⟩) := hb1
  unfold whereP
  by_cases h0 : a < 0
  · refine cY h0 ?_
    rw [if_pos (.inl h0)]
    exact ⟨rfl, hu1⟩
  refine cN h0 ?_
  refine fa ?_
  refine ldb hb1 (v := .int .i64 (sizeP A T N L)) rfl ?_
  by_cases h1 : a ≥ sizeP A T N L
  · refine cY h1 ?_
    rw [if_pos (.inr h1)]
    exact ⟨rfl, hu1⟩
  refine cN h1 ?_
  rw [if_neg (by omega)]
  refine fa ?_
  refine ldb hb1 (v := .int .i64 8) rfl ?_
  by_cases h2 : a < 8
  · refine cY h2 ?_
    rw [if_pos h2]
    exact ⟨rfl, hu1⟩
  refine cN h2 ?_
  rw [if_neg h2]
  refine fa ?_
  refine ldb hb1 (v := .int .i64 (linksP A T L)) rfl ?_
  by_cases h3 : a < linksP A T L
  · refine cY h3 ?_
    rw [if_pos h3]
    have hd := tdiv_bd (a := a - 8) (b := slotsP A L) (by omega) (by omega) (by omega)
    refine draw_all (fun w' => w' = w1.drew) (by decide +kernel) rfl ?_
    refine q_fa ?_
    refine q_ld (v := .int .i64 (8)) (by rintro _ rfl; exact hb1.drew.cell 10) ?_
    refine q_ar64 (by omega) ?_
    refine q_fa ?_
    refine q_ld (v := .int .i64 (slotsP A L)) (by rintro _ rfl; exact hb1.drew.cell 7) ?_
    refine rq (.int .i64 ((a - 8).tdiv (slotsP A L))) (fun _ _ => qu (by omega) (ar64 (by omega) ⟨rfl, rfl⟩)) ?_
    refine q_fa ?_
    refine q_ld (v := .int .i64 (8)) (by rintro _ rfl; exact hb1.drew.cell 10) ?_
    refine q_ar64 (by omega) ?_
    refine q_fa ?_
    refine q_ld (v := .int .i64 (slotsP A L)) (by rintro _ rfl; exact hb1.drew.cell 7) ?_
    refine rq (.int .i64 ((a - 8).tmod (slotsP A L))) (fun _ _ => rm (by omega) (val _ rfl ⟨rfl, rfl⟩)) ?_
    rintro _ rfl
    exact ⟨rfl, hu1.drew⟩
  refine cN h3 ?_
  rw [if_neg h3]
  refine fa ?_
  refine ldb hb1 (v := .int .i64 (nodesP A T N L)) rfl ?_
  by_cases h4 : a < nodesP A T N L
  · refine cY h4 ?_
    rw [if_pos h4]
    refine draw_all (fun w' => w' = w1.drew) (by decide +kernel) rfl ?_
    refine q_fa ?_
    refine q_ld (v := .int .i64 (linksP A T L)) (by rintro _ rfl; exact hb1.drew.cell 11) ?_
    refine q_ar64 (by omega) ?_
    refine q_ar64 (by omega) ?_
    rintro _ rfl
    exact ⟨rfl, hu1.drew⟩
  refine cN h4 ?_
  rw [if_neg h4]
  refine fa ?_
  refine ldb hb1 (v := .int .i64 (treeP A T N L)) rfl ?_
  by_cases h5 : a < treeP A T N L
  · refine cY h5 ?_
    rw [if_pos h5]
    have hd := tdiv_bd (a := a - nodesP A T N L) (b := widthP A L) (by omega) (by omega) (by omega)
    refine draw_all (fun w' => w' = w1.drew) (by decide +kernel) rfl ?_
    refine q_fa ?_
    refine q_ld (v := .int .i64 (nodesP A T N L)) (by rintro _ rfl; exact hb1.drew.cell 12) ?_
    refine q_ar64 (by omega) ?_
    refine q_fa ?_
    refine q_ld (v := .int .i64 (widthP A L)) (by rintro _ rfl; exact hb1.drew.cell 8) ?_
    refine rq (.int .i64 ((a - nodesP A T N L).tdiv (widthP A L))) (fun _ _ => qu (by omega) (ar64 (by omega) ⟨rfl, rfl⟩)) ?_
    refine q_ar64 (by omega) ?_
    refine q_fa ?_
    refine q_ld (v := .int .i64 (nodesP A T N L)) (by rintro _ rfl; exact hb1.drew.cell 12) ?_
    refine q_ar64 (by omega) ?_
    refine q_fa ?_
    refine q_ld (v := .int .i64 (widthP A L)) (by rintro _ rfl; exact hb1.drew.cell 8) ?_
    refine rq (.int .i64 ((a - nodesP A T N L).tmod (widthP A L))) (fun _ _ => rm (by omega) (val _ rfl ⟨rfl, rfl⟩)) ?_
    rintro _ rfl
    exact ⟨rfl, hu1.drew⟩
  refine cN h5 ?_
  rw [if_neg h5]
  refine draw_all (fun w' => w' = w1.drew) (by decide +kernel) rfl ?_
  refine q_fa ?_
  refine q_ld (v := .int .i64 (treeP A T N L)) (by rintro _ rfl; exact hb1.drew.cell 13) ?_
  refine q_ar64 (by omega) ?_
  rintro _ rfl
  exact ⟨rfl, hu1.drew⟩
def gto (tags : List Int) (k n i : Int) : Int × Int := if i < 1 ∨ (tags.length : Int) < i then gf k n 5 i else if tags.getD (i - 1).toNat 0 = 0 then gf k n 4 i else (k, n)
set_option maxRecDepth 10000 in
theorem gtouch_c {w : World} {p : Nat} {v : Value} {tags : List Int} {k n : Int} (h : IsG w p v tags k n) (hl : tags.length ≤ 64) (i : Int) : Fn Try.prog 98 #[ptrV p, .int .i64 i] w fun _ w' =>
    IsG w' p v tags (gto tags k n i).1 (gto tags k n i).2 ∧ Upd [p] w w' := by
  obtain ⟨va, vc, rfl, -⟩ := h.s.form
  refine fn_enter Try.func98 rfl rfl ?_
  refine ptr_eq ?_
  by_cases h1 : i < 1
  · refine cY h1 ?_
    have e : gto tags k n i = gf k n 5 i := if_pos (.inl h1)
    rw [e]
    refine cl (fault_c h 5 i) ?_
    rintro _ w1 ⟨rfl, hg, hu⟩
    exact ⟨hg, hu⟩
  refine cN h1 ?_
  refine fa ?_
  refine ldb h.blk rfl ?_
  refine len_sl ?_
  refine cd (fun h2 => ?_) (fun h2 => ?_)
  · have e : gto tags k n i = gf k n 5 i := if_pos (.inr h2)
    rw [e]
    refine cl (fault_c h 5 i) ?_
    rintro _ w1 ⟨rfl, hg, hu⟩
    exact ⟨hg, hu⟩
  have hi : (i - 1).toNat < tags.length := by omega
  obtain ⟨vb, vo, vc', he, -⟩ := h.s.some_ (by omega)
  cases he
  have hcell := (h.s.cells rfl (i - 1).toNat (by omega)).1
  refine fa ?_
  refine ldb h.blk rfl ?_
  refine ar64 (by omega) ?_
  refine ix (i - 1).toNat (by omega) hi ?_
  refine ld (v := .int .i64 (tags.getD (i - 1).toNat 0)) (by rw [Nat.mul_one, hcell]; exact map_getD hi) ?_
  refine cd (fun h3 => ?_) (fun h3 => ?_)
  · have e : gto tags k n i = gf k n 4 i := by unfold gto; rw [if_neg (by omega), if_pos h3]
    rw [e]
    refine cl (fault_c h 4 i) ?_
    rintro _ w1 ⟨rfl, hg, hu⟩
    exact ⟨hg, hu⟩
  · have e : gto tags k n i = (k, n) := by unfold gto; rw [if_neg (by omega), if_neg h3]
    rw [e]
    exact ⟨h, Upd.refl _ _⟩
def Cf.where_ (c : Cf) (a : Int) : Int × Int × Int := whereP c.A c.T c.N c.L a
def tchG (c : Cf) (g : Gs) (a : Int) : Gs := if (c.where_ a).1 = 3 then { g with k := (gto g.tags g.k g.n (c.where_ a).2.1).1, n := (gto g.tags g.k g.n (c.where_ a).2.1).2 } else g
def tch (c : Cf) (gs : Option Gs) (a : Int) : Option Gs := gs.map fun g => tchG c g a
def tchs (c : Cf) (gs : Option Gs) (l : List Int) : Option Gs := l.foldl (tch c) gs
def gtags : Option Gs → List Int
  | none => []
  | some g => g.tags
theorem tchG_tags (c : Cf) (g : Gs) (a : Int) : (tchG c g a).tags = g.tags := by unfold tchG; split <;> rfl
theorem tch_tags (c : Cf) (gs : Option Gs) (a : Int) : gtags (tch c gs a) = gtags gs := by
  cases gs with
  | none => rfl
  | some g => exact tchG_tags c g a
theorem tchs_snoc (c : Cf) (gs : Option Gs) (l : List Int) (a : Int) : tchs c gs (l ++ [a]) = tch c (tchs c gs l) a := by simp [tchs, List.foldl_append]
theorem tchs_tags (c : Cf) (l : List Int) : ∀ gs, gtags (tchs c gs l) = gtags gs := by
  induction l with
  | nil => intro gs; rfl
  | cons a l ih => intro gs; show gtags (tchs c (tch c gs a) l) = _; rw [ih, tch_tags]
section
variable {w w' : World} {X : Mc}
theorem touchG_m {g : Gs} (h : Mach w X) (hg : X.gs = some g) (hl : g.tags.length ≤ 64) (i : Int) : Fn Try.prog 98 #[ptrV g.p, .int .i64 i] w fun _ w' => Post w X w' { X with gs := some { g with k := (gto g.tags g.k g.n i).1, n := (gto g.tags g.k g.n i).2 } } := by
  have hG := h.gh
  rw [hg] at hG
  exact (gtouch_c (show IsG w g.p g.v g.tags g.k g.n from hG) hl i).mono fun _ w' ⟨u, he, h1, h2⟩ => ⟨u, he, h.setGh hg rfl rfl h1 (h2.mono (by simp))⟩
theorem Mach.m_lt (h : Mach w X) : ∀ k ∈ X.feet, k < w.heap.size := Sep.lt h
set_option maxRecDepth 10000 in
theorem touch_m (h : Mach w X) (hr : rightC X.c) (ht : (gtags X.gs).length ≤ 64) {v : Value} {l : List Int} (hv : ∀ w', Upd X.feet w w' → RdK w' .i64 v l) (hl : l.length ≤ 100) :
    Fn Try.prog 73 #[ptrV X.m, v] w fun r w' => r = .bool true ∧ Post w X w' { X with acted := true, gs := tchs X.c X.gs l } := by
  obtain ⟨va, vc, rfl, -⟩ := (hv w (Upd.refl _ _)).form
  refine fn_enter Try.func73 rfl rfl ?_
  refine ptr_eq ?_
  refine fa ?_
  have hsz : 19 < (machC X.c (ptrV X.mp) (gvOf X.gs) (ptrV X.fp) X.tv X.acted X.bad).size := by cases X.c; show 19 < 21; omega
  refine st h.blk hsz rfl fun w1 hb1 hu1 hs1 => ?_
  have p1 : Post w X w1 { X with acted := true } := h.setM (b := X.bad) (by cases hc : X.c; rw [hc] at hb1; exact hb1) hu1
  refine len_sl ?_
  refine loop_rule [0, 15, 16] [17] (fun vs w' m => ∃ j : Nat, vs = [.int .i64 (j : Int)] ∧ j ≤ l.length ∧ m = l.length - j ∧ Post w X w' { X with acted := true, gs := tchs X.c X.gs (l.take j) }) rfl [.int .i64 0] l.length rfl ⟨0, rfl, by omega, rfl, p1⟩ ?_
  rintro _ w2 m ⟨j, rfl, hj, rfl, p2⟩
  refine cd (fun hlt => ?_) (fun hlt => ?_)
  · have hlt : j < l.length := by omega
    have hv2 := hv w2 p2.to.up
    obtain ⟨vb, vo, vc', he, -⟩ := hv2.some_ (by omega)
    cases he
    refine ix j rfl hlt ?_
    refine ld (hv2.at_ rfl j hlt) ?_
    have e : tchs X.c X.gs (l.take (j + 1)) = tch X.c (tchs X.c X.gs (l.take j)) (l.getD j 0) := by rw [getD_take l j hlt, tchs_snoc]
    have ht2 : (gtags (tchs X.c X.gs (l.take j))).length ≤ 64 := by rw [tchs_tags]; exact ht
    generalize l.getD j 0 = a at *
    generalize tchs X.c X.gs (l.take j) = gs at *
    refine fa ?_
    refine ldplan p2.ok.blk ?_
    refine cl (where_c (A := X.c.A) (T := X.c.T) (N := X.c.N) (L := X.c.L) (B := X.c.B) (P := X.c.P) (S := X.c.S) hr a w2) ?_
    rintro _ w3 ⟨rfl, hu3⟩
    have p3 := p2.upd0 hu3
    refine cd (fun hk => ?_) (fun hk => ?_)
    · replace hk : (X.c.where_ a).1 = 3 := hk
      refine fa ?_
      refine ldb p3.ok.blk (v := gvOf gs) (by cases X.c; rfl) ?_
      cases gs with
      | none =>
        refine ptr_ne0 ?_
        refine ar64 (by omega) ?_
        refine round_mk [.int .i64 ((j + 1 : Nat) : Int)] (l.length - (j + 1)) rfl rfl ⟨j + 1, rfl, by omega, rfl, ?_⟩ (by omega)
        rw [e]; exact p3
      | some g =>
        refine ptr_ne ?_
        refine fa ?_
        refine ldb p3.ok.blk (v := ptrV g.p) (by cases X.c; rfl) ?_
        refine cl (touchG_m p3.ok rfl ht2 _) ?_
        rintro _ w4 p4
        refine ar64 (by omega) ?_
        refine round_mk [.int .i64 ((j + 1 : Nat) : Int)] (l.length - (j + 1)) rfl rfl ⟨j + 1, rfl, by omega, rfl, ?_⟩ (by omega)
        rw [e]
        have e2 : tch X.c (some g) a = some { g with k := (gto g.tags g.k g.n (X.c.where_ a).2.1).1, n := (gto g.tags g.k g.n (X.c.where_ a).2.1).2 } := by
          show some (tchG X.c g a) = _
          unfold tchG
          rw [if_pos hk]
        rw [e2]
        exact p3.trans p4
    · replace hk : ¬ (X.c.where_ a).1 = 3 := hk
      refine ar64 (by omega) ?_
      refine round_mk [.int .i64 ((j + 1 : Nat) : Int)] (l.length - (j + 1)) rfl rfl ⟨j + 1, rfl, by omega, rfl, ?_⟩ (by omega)
      have e2 : tch X.c gs a = gs := by
        cases gs with
        | none => rfl
        | some g =>
          show some (tchG X.c g a) = _
          unfold tchG
          rw [if_neg hk]
      rw [e, e2]; exact p3
  · have hj : j = l.length := by omega
    subst hj
    rw [List.take_length] at p2
    exact ⟨rfl, p2⟩
theorem note_m (h : Mach w X) (e : Int) : Fn Try.prog 74 #[ptrV X.m, .int .i64 e] w fun _ w' => Post w X w' { X with bad := X.bad || e != 0 } := by
  have hsz : 20 < (machC X.c (ptrV X.mp) (gvOf X.gs) (ptrV X.fp) X.tv X.acted X.bad).size := by cases X.c; show 20 < 21; omega
  have hb := h.blk
  refine fn_enter Try.func74 rfl rfl ?_
  refine fa ?_
  refine ldb hb (v := .bool X.bad) (by cases X.c; rfl) ?_
  cases hbad : X.bad with
  | true =>
    refine fa ?_
    refine st hb hsz rfl fun w1 hb1 hu1 hs1 => ?_
    exact h.setM (a := X.acted) (by cases hc : X.c; rw [hc] at hb1; exact hb1) hu1
  | false =>
    refine fa ?_
    refine st hb hsz rfl fun w1 hb1 hu1 hs1 => ?_
    exact h.setM (a := X.acted) (by cases hc : X.c; rw [hc] at hb1; exact hb1) hu1
end
end Go.Proofs.Ytdomclcokkijjaa

/- Contracts: loads, stores and the other steps of a machine. -/
namespace Go.Proofs.Ytdomclcokkijjaa
open Go.RowKit
attribute [local irreducible] Instr.loadAt Instr.storeAt Instr.fieldAt Instr.indexAt Instr.sliceAt Instr.buildSlice Instr.box Instr.alloc Builtin.append_ Builtin.len_ Builtin.min_ Builtin.max_ Calls Instr.build Instr.makeSlice binSem convert Instr.index Instr.range Instr.next
def ldS (s : MS) (a : Int) : MS := if okA s a then tick s (0, a, -1, false) else s
def ldV (s : MS) (a : Int) : Int := if okA s a then rd s a else 0
def casS (s : MS) (a o n : Int) : MS := if okA s a then tick (if rd s a = o then wr s a n else s) (2, a, -1, rd s a == o) else s
def casV (s : MS) (a o : Int) : Bool := decide (okA s a ∧ rd s a = o)
def addS (s : MS) (a d : Int) : MS := if okA s a then tick (wr s a (IntKind.u64.wrap (rd s a + d))) (3, a, -1, true) else s
def ok2 (s : MS) (a b : Int) : Prop := (okA s a ∧ okA s b) ∧ a ≠ b
instance (s : MS) (a b : Int) : Decidable (ok2 s a b) := inferInstanceAs (Decidable (_ ∧ _))
def both (s : MS) (a o b q : Int) : Prop := rd s a = o ∧ rd s b = q
instance (s : MS) (a o b q : Int) : Decidable (both s a o b q) := inferInstanceAs (Decidable (_ ∧ _))
def dcasS (s : MS) (a o n b q r : Int) : MS := if ok2 s a b then tick (if both s a o b q then wr (wr s a n) b r else s) (4, a, b, decide (both s a o b q)) else s
def dcssS (s : MS) (a o n b q : Int) : MS := if okA s a ∧ okA s b then tick (if both s a o b q then wr s a n else s) (5, a, b, decide (both s a o b q)) else s
section
variable {w w' : World} {X : Mc}
theorem Mach.mp_ (h : Mach w X) {K' : Value → World → Prop} {t : Nat} [One Try.prog t] (k : K' (ptrV X.mp) w) : RunP Try.prog (Instr.loadAt t (.pointer (some ⟨X.m, 0 + 15, none⟩))) K' w :=
  ldb h.blk (v := ptrV X.mp) (by cases X.c; rfl) k
theorem fresh_rd {g : Nat} {l : List Int} (h : Mach w X) (hb : Blk w g 3 (l.map (Value.int .i64)).toArray) (hg : g ∉ X.feet) (hl : l.length ≤ 100) : ∀ w', Upd X.feet w w' → RdK w' .i64 (.slice (some ⟨g, 0, none⟩) l.length l.length) l := fun w' hu => by
  have := Sl.lit (n := l.length) (hb.upd hu hg) (by simp) (by simp only [maxLen]; omega)
  exact RdK.of_sl (e := 3) (n := l.length) (by simpa using this)
theorem load_m (h : Mach w X) (hr : rightC X.c) (ht : (gtags X.gs).length ≤ 64) (hq : Roomy X.s) (a : Int) : Fn Try.prog 45 #[ptrV X.m, .int .i64 a] w fun r w' => r = .int .u64 (ldV X.s a) ∧
    ∃ lv, Post w X w' { X with acted := true, gs := tch X.c X.gs a, lv := lv, s := ldS X.s a, bad := X.bad || !decide (okA X.s a) } := by
  refine fn_enter Try.func45 rfl rfl ?_
  refine bs (([a]).map (Value.int .i64)).toArray (fun _ => by kernel_rfl) fun w1 hb1 hu1 hs1 => ?_
  have hgn : w.heap.size ∉ X.feet := fun hm => by have := h.m_lt _ hm; omega
  refine cl (touch_m (h.upd0 hu1) hr ht (fresh_rd (l := [a]) (h.upd0 hu1) hb1 hgn (by simp)) (by simp)) ?_
  rintro _ w2 ⟨rfl, p2⟩
  have q2 := (Post.of0 h hu1).trans p2
  refine fa ?_
  refine q2.ok.mp_ ?_
  refine cl (load_c q2.ok.mem hq a) ?_
  rintro _ w3 ⟨hy, hn⟩
  unfold ldV ldS
  by_cases ha : okA X.s a
  · obtain ⟨rfl, hp⟩ := hy ha
    obtain ⟨lv, p3⟩ := q2.ok.memPost hp
    have q3 := q2.trans p3
    refine cl (note_m (q3).ok _) ?_
    rintro _ w4 p4
    have q4 := (q3).trans p4
    refine ⟨by rw [if_pos ha]; rfl, lv, ?_⟩
    rw [if_pos ha, decide_eq_true ha]
    exact q4
  · obtain ⟨rfl, hp⟩ := hn ha
    obtain ⟨lv, p3⟩ := q2.ok.memPost hp
    have q3 := q2.trans p3
    refine cl (note_m (q3).ok _) ?_
    rintro _ w4 p4
    have q4 := (q3).trans p4
    refine ⟨by rw [if_neg ha]; rfl, lv, ?_⟩
    rw [if_neg ha, decide_eq_false ha]
    exact q4
theorem stM_def (s : MS) (a x : Int) : stM s a x = if okA s a then tick (wr s a x) (1, a, -1, true) else s := rfl
theorem store_mm (h : Mach w X) (hr : rightC X.c) (ht : (gtags X.gs).length ≤ 64) (hq : Roomy X.s) (a x : Int) : Fn Try.prog 77 #[ptrV X.m, .int .i64 a, .int .u64 x] w fun _ w' =>
    ∃ lv, Post w X w' { X with acted := true, gs := tch X.c X.gs a, lv := lv, s := stM X.s a x, bad := X.bad || !decide (okA X.s a) } := by
  refine fn_enter Try.func77 rfl rfl ?_
  refine bs (([a]).map (Value.int .i64)).toArray (fun _ => by kernel_rfl) fun w1 hb1 hu1 hs1 => ?_
  have hgn : w.heap.size ∉ X.feet := fun hm => by have := h.m_lt _ hm; omega
  refine cl (touch_m (h.upd0 hu1) hr ht (fresh_rd (l := [a]) (h.upd0 hu1) hb1 hgn (by simp)) (by simp)) ?_
  rintro _ w2 ⟨rfl, p2⟩
  have q2 := (Post.of0 h hu1).trans p2
  refine fa ?_
  refine q2.ok.mp_ ?_
  refine cl (store_c q2.ok.mem hq a x) ?_
  rintro _ w3 ⟨hy, hn⟩
  rw [stM_def]
  by_cases ha : okA X.s a
  · obtain ⟨rfl, hp⟩ := hy ha
    obtain ⟨lv, p3⟩ := q2.ok.memPost hp
    have q3 := q2.trans p3
    refine cl (note_m (q3).ok _) ?_
    rintro _ w4 p4
    have q4 := (q3).trans p4
    refine ⟨lv, ?_⟩
    rw [if_pos ha, decide_eq_true ha]
    exact q4
  · obtain ⟨rfl, hp⟩ := hn ha
    obtain ⟨lv, p3⟩ := q2.ok.memPost hp
    have q3 := q2.trans p3
    refine cl (note_m (q3).ok _) ?_
    rintro _ w4 p4
    have q4 := (q3).trans p4
    refine ⟨lv, ?_⟩
    rw [if_neg ha, decide_eq_false ha]
    exact q4
theorem cas_m (h : Mach w X) (hr : rightC X.c) (ht : (gtags X.gs).length ≤ 64) (hq : Roomy X.s) (a o n : Int) : Fn Try.prog 78 #[ptrV X.m, .int .i64 a, .int .u64 o, .int .u64 n] w fun r w' => r = .bool (casV X.s a o) ∧
    ∃ lv, Post w X w' { X with acted := true, gs := tch X.c X.gs a, lv := lv, s := casS X.s a o n, bad := X.bad || !decide (okA X.s a) } := by
  refine fn_enter Try.func78 rfl rfl ?_
  refine bs (([a]).map (Value.int .i64)).toArray (fun _ => by kernel_rfl) fun w1 hb1 hu1 hs1 => ?_
  have hgn : w.heap.size ∉ X.feet := fun hm => by have := h.m_lt _ hm; omega
  refine cl (touch_m (h.upd0 hu1) hr ht (fresh_rd (l := [a]) (h.upd0 hu1) hb1 hgn (by simp)) (by simp)) ?_
  rintro _ w2 ⟨rfl, p2⟩
  have q2 := (Post.of0 h hu1).trans p2
  refine fa ?_
  refine q2.ok.mp_ ?_
  refine cl (cas_c q2.ok.mem hq a o n) ?_
  rintro _ w3 ⟨hy, hn⟩
  unfold casV casS
  by_cases ha : okA X.s a
  · obtain ⟨rfl, hp⟩ := hy ha
    obtain ⟨lv, p3⟩ := q2.ok.memPost hp
    have q3 := q2.trans p3
    refine cl (note_m (q3).ok _) ?_
    rintro _ w4 p4
    have q4 := (q3).trans p4
    refine ⟨?_, lv, ?_⟩
    · have : (rd X.s a == o) = decide (okA X.s a ∧ rd X.s a = o) := by
        by_cases h1 : rd X.s a = o
        · rw [decide_eq_true ⟨ha, h1⟩]; simp [h1]
        · rw [decide_eq_false (fun hh => h1 hh.2)]; simp [h1]
      rw [← this]; rfl
    rw [if_pos ha, decide_eq_true ha]
    exact q4
  · obtain ⟨rfl, hp⟩ := hn ha
    obtain ⟨lv, p3⟩ := q2.ok.memPost hp
    have q3 := q2.trans p3
    refine cl (note_m (q3).ok _) ?_
    rintro _ w4 p4
    have q4 := (q3).trans p4
    refine ⟨by rw [decide_eq_false (fun hh => ha hh.1)]; rfl, lv, ?_⟩
    rw [if_neg ha, decide_eq_false ha]
    exact q4
theorem add_m (h : Mach w X) (hr : rightC X.c) (ht : (gtags X.gs).length ≤ 64) (hq : Roomy X.s) (a d : Int) : Fn Try.prog 79 #[ptrV X.m, .int .i64 a, .int .u64 d] w fun r w' => r = .int .u64 (ldV X.s a) ∧
    ∃ lv, Post w X w' { X with acted := true, gs := tch X.c X.gs a, lv := lv, s := addS X.s a d, bad := X.bad || !decide (okA X.s a) } := by
  refine fn_enter Try.func79 rfl rfl ?_
  refine bs (([a]).map (Value.int .i64)).toArray (fun _ => by kernel_rfl) fun w1 hb1 hu1 hs1 => ?_
  have hgn : w.heap.size ∉ X.feet := fun hm => by have := h.m_lt _ hm; omega
  refine cl (touch_m (h.upd0 hu1) hr ht (fresh_rd (l := [a]) (h.upd0 hu1) hb1 hgn (by simp)) (by simp)) ?_
  rintro _ w2 ⟨rfl, p2⟩
  have q2 := (Post.of0 h hu1).trans p2
  refine fa ?_
  refine q2.ok.mp_ ?_
  refine cl (add_c q2.ok.mem hq a d) ?_
  rintro _ w3 ⟨hy, hn⟩
  unfold ldV addS
  by_cases ha : okA X.s a
  · obtain ⟨rfl, hp⟩ := hy ha
    obtain ⟨lv, p3⟩ := q2.ok.memPost hp
    have q3 := q2.trans p3
    refine cl (note_m (q3).ok _) ?_
    rintro _ w4 p4
    have q4 := (q3).trans p4
    refine ⟨by rw [if_pos ha]; rfl, lv, ?_⟩
    rw [if_pos ha, decide_eq_true ha]
    exact q4
  · obtain ⟨rfl, hp⟩ := hn ha
    obtain ⟨lv, p3⟩ := q2.ok.memPost hp
    have q3 := q2.trans p3
    refine cl (note_m (q3).ok _) ?_
    rintro _ w4 p4
    have q4 := (q3).trans p4
    refine ⟨by rw [if_neg ha]; rfl, lv, ?_⟩
    rw [if_neg ha, decide_eq_false ha]
    exact q4
theorem dcas_m (h : Mach w X) (hr : rightC X.c) (ht : (gtags X.gs).length ≤ 64) (hq : Roomy X.s) (a o n b q r : Int) : Fn Try.prog 80 #[ptrV X.m, .int .i64 a, .int .u64 o, .int .u64 n, .int .i64 b, .int .u64 q, .int .u64 r] w fun x w' => x = .bool (decide (ok2 X.s a b ∧ both X.s a o b q)) ∧
    ∃ lv, Post w X w' { X with acted := true, gs := tchs X.c X.gs [a, b], lv := lv, s := dcasS X.s a o n b q r, bad := X.bad || !decide (ok2 X.s a b) } := by
  refine fn_enter Try.func80 rfl rfl ?_
  refine bs (([a, b]).map (Value.int .i64)).toArray (fun _ => by kernel_rfl) fun w1 hb1 hu1 hs1 => ?_
  have hgn : w.heap.size ∉ X.feet := fun hm => by have := h.m_lt _ hm; omega
  refine cl (touch_m (h.upd0 hu1) hr ht (fresh_rd (l := [a, b]) (h.upd0 hu1) hb1 hgn (by simp)) (by simp)) ?_
  rintro _ w2 ⟨rfl, p2⟩
  have q2 := (Post.of0 h hu1).trans p2
  refine fa ?_
  refine q2.ok.mp_ ?_
  refine cl (dcas_c q2.ok.mem hq a o n b q r) ?_
  rintro _ w3 ⟨hy, hn⟩
  unfold dcasS
  by_cases ha : ok2 X.s a b
  · obtain ⟨rfl, hp⟩ := hy ha
    obtain ⟨lv, p3⟩ := q2.ok.memPost hp
    have q3 := q2.trans p3
    refine cl (note_m (q3).ok _) ?_
    rintro _ w4 p4
    have q4 := (q3).trans p4
    refine ⟨?_, lv, ?_⟩
    · have : decide (both X.s a o b q) = decide (ok2 X.s a b ∧ both X.s a o b q) := by
        by_cases h1 : both X.s a o b q
        · rw [decide_eq_true h1, decide_eq_true ⟨ha, h1⟩]
        · rw [decide_eq_false h1, decide_eq_false (fun hh => h1 hh.2)]
      rw [← this]; rfl
    rw [if_pos ha, decide_eq_true ha]
    exact q4
  · obtain ⟨rfl, hp⟩ := hn ha
    obtain ⟨lv, p3⟩ := q2.ok.memPost hp
    have q3 := q2.trans p3
    refine cl (note_m (q3).ok _) ?_
    rintro _ w4 p4
    have q4 := (q3).trans p4
    refine ⟨by rw [decide_eq_false (fun hh => ha hh.1)]; rfl, lv, ?_⟩
    rw [if_neg ha, decide_eq_false ha]
    exact q4
theorem dcss_m (h : Mach w X) (hr : rightC X.c) (ht : (gtags X.gs).length ≤ 64) (hq : Roomy X.s) (a o n b q : Int) : Fn Try.prog 81 #[ptrV X.m, .int .i64 a, .int .u64 o, .int .u64 n, .int .i64 b, .int .u64 q] w fun x w' => x = .bool (decide ((okA X.s a ∧ okA X.s b) ∧ both X.s a o b q)) ∧
    ∃ lv, Post w X w' { X with acted := true, gs := tchs X.c X.gs [a, b], lv := lv, s := dcssS X.s a o n b q, bad := X.bad || !decide (okA X.s a ∧ okA X.s b) } := by
  refine fn_enter Try.func81 rfl rfl ?_
  refine bs (([a, b]).map (Value.int .i64)).toArray (fun _ => by kernel_rfl) fun w1 hb1 hu1 hs1 => ?_
  have hgn : w.heap.size ∉ X.feet := fun hm => by have := h.m_lt _ hm; omega
  refine cl (touch_m (h.upd0 hu1) hr ht (fresh_rd (l := [a, b]) (h.upd0 hu1) hb1 hgn (by simp)) (by simp)) ?_
  rintro _ w2 ⟨rfl, p2⟩
  have q2 := (Post.of0 h hu1).trans p2
  refine fa ?_
  refine q2.ok.mp_ ?_
  refine cl (dcss_c q2.ok.mem hq a o n b q) ?_
  rintro _ w3 ⟨hy, hn⟩
  unfold dcssS
  by_cases ha : okA X.s a ∧ okA X.s b
  · obtain ⟨rfl, hp⟩ := hy ha
    obtain ⟨lv, p3⟩ := q2.ok.memPost hp
    have q3 := q2.trans p3
    refine cl (note_m (q3).ok _) ?_
    rintro _ w4 p4
    have q4 := (q3).trans p4
    refine ⟨?_, lv, ?_⟩
    · have : decide (both X.s a o b q) = decide ((okA X.s a ∧ okA X.s b) ∧ both X.s a o b q) := by
        by_cases h1 : both X.s a o b q
        · rw [decide_eq_true h1, decide_eq_true ⟨ha, h1⟩]
        · rw [decide_eq_false h1, decide_eq_false (fun hh => h1 hh.2)]
      rw [← this]; rfl
    rw [if_pos ha, decide_eq_true ha]
    exact q4
  · obtain ⟨rfl, hp⟩ := hn ha
    obtain ⟨lv, p3⟩ := q2.ok.memPost hp
    have q3 := q2.trans p3
    refine cl (note_m (q3).ok _) ?_
    rintro _ w4 p4
    have q4 := (q3).trans p4
    refine ⟨by rw [decide_eq_false (fun hh => ha hh.1)]; rfl, lv, ?_⟩
    rw [if_neg ha, decide_eq_false ha]
    exact q4
/-! what a machine tells of itself -/
theorem mem_mm (h : Mach w X) : Fn Try.prog 34 #[ptrV X.m] w fun r w' => r = ptrV X.mp ∧ w' = w := by
  refine fn_enter Try.func34 rfl rfl ?_
  refine ptr_eq ?_
  refine fa ?_
  refine h.mp_ ?_
  exact ⟨rfl, rfl⟩
theorem ghost_mm (h : Mach w X) : Fn Try.prog 29 #[ptrV X.m] w fun r w' => r = gvOf X.gs ∧ w' = w := by
  refine fn_enter Try.func29 rfl rfl ?_
  refine ptr_eq ?_
  refine fa ?_
  refine ldb h.blk (v := gvOf X.gs) (by cases X.c; rfl) ?_
  exact ⟨rfl, rfl⟩
theorem plan_mm (h : Mach w X) : Fn Try.prog 37 #[ptrV X.m] w fun r w' => r = .agg (planC X.c) ∧ Upd [] w w' := by
  refine fn_enter Try.func37 rfl rfl ?_
  refine al z15 (fun _ => by kernel_rfl) fun w1 hb1 hu1 hs1 => ?_
  refine ptr_eq ?_
  have hb := h.blk.upd hu1 (by simp)
  refine fa ?_
  refine ldplan hb ?_
  refine stw hb1 rfl (planC_len X.c) (planC_one X.c) fun w2 hb2 hu2 hs2 => ?_
  refine rlw hb2 (planC_len X.c) ?_
  exact ⟨rfl, hu1.step hu2 (by simp)⟩
theorem thread_no (h : Mach w X) (i : Int) (hi : i < 0 ∨ (X.ths.length : Int) ≤ i) : Fn Try.prog 39 #[ptrV X.m, .int .i64 i] w fun r w' => r = .pointer none ∧ w' = w := by
  obtain ⟨ta, tc, hta, -⟩ := h.tvs.form
  refine fn_enter Try.func39 rfl rfl ?_
  refine ptr_eq ?_
  by_cases h1 : i < 0
  · refine cY h1 ?_
    exact ⟨rfl, rfl⟩
  refine cN h1 ?_
  refine fa ?_
  refine ldb h.blk (v := .slice ta X.ths.length tc) (by rw [← hta]; cases X.c; rfl) ?_
  refine len_sl ?_
  refine cY (p := i ≥ (X.ths.length : Int)) (by omega) ?_
  exact ⟨rfl, rfl⟩
theorem thread_mm (h : Mach w X) {i : Nat} {t : Th} (hi : X.ths[i]? = some t) (hl : X.ths.length ≤ 100) : Fn Try.prog 39 #[ptrV X.m, .int .i64 (i : Int)] w fun r w' => r = ptrV t.g ∧ w' = w := by
  have hlt := (List.getElem?_eq_some_iff.1 hi).1
  have htv := h.tvs
  have hb := h.blk
  obtain ⟨tb, to, tc, he, -⟩ := htv.some_ (by omega)
  rw [he] at htv hb
  have hb18 : (machC X.c (ptrV X.mp) (gvOf X.gs) (ptrV X.fp) (.slice (some ⟨tb, to, none⟩) X.ths.length tc) X.acted X.bad).toList[18]? = some (.slice (some ⟨tb, to, none⟩) X.ths.length tc) := by cases X.c; rfl
  refine fn_enter Try.func39 rfl rfl ?_
  refine ptr_eq ?_
  refine fa ?_
  refine ldb hb hb18 ?_
  refine len_sl ?_
  refine cN (p := (i : Int) ≥ (X.ths.length : Int)) (by omega) ?_
  refine fa ?_
  refine ldb hb hb18 ?_
  refine ix i rfl hlt ?_
  refine ld (v := ptrV t.g) (by rw [Nat.mul_one, (htv.cells rfl i (by omega)).1]; simp [ptrs, hi]) ?_
  exact ⟨rfl, rfl⟩
theorem watched_mm (h : Mach w X) : Fn Try.prog 70 #[ptrV X.m] w fun r w' => r = .bool X.gs.isSome ∧ w' = w := by
  have hb16 : (machC X.c (ptrV X.mp) (gvOf X.gs) (ptrV X.fp) X.tv X.acted X.bad).toList[16]? = some (gvOf X.gs) := by cases X.c; rfl
  refine fn_enter Try.func70 rfl rfl ?_
  refine ptr_ne ?_
  refine fa ?_
  refine ldb h.blk hb16 ?_
  cases X.gs with
  | none =>
    refine ptr_ne0 ?_
    exact ⟨rfl, rfl⟩
  | some g =>
    refine ptr_ne ?_
    exact ⟨rfl, rfl⟩
def faultG : Option Gs → Bool
  | none => false
  | some g => decide (¬ (g.k = 0 ∧ g.n = 0))
theorem fault_mm (h : Mach w X) : Fn Try.prog 31 #[ptrV X.m] w fun r w' => r = .bool (X.bad || faultG X.gs) ∧ Upd [] w w' := by
  have hb16 : (machC X.c (ptrV X.mp) (gvOf X.gs) (ptrV X.fp) X.tv X.acted X.bad).toList[16]? = some (gvOf X.gs) := by cases X.c; rfl
  have hb20 : (machC X.c (ptrV X.mp) (gvOf X.gs) (ptrV X.fp) X.tv X.acted X.bad).toList[20]? = some (.bool X.bad) := by cases X.c; rfl
  have hb := h.blk
  have hG := h.gh
  have hw := watched_mm h
  refine fn_enter Try.func31 rfl rfl ?_
  refine ptr_ne ?_
  refine fa ?_
  refine ldb hb hb20 ?_
  cases hbad : X.bad with
  | true => exact ⟨rfl, Upd.refl _ _⟩
  | false =>
    refine cl hw ?_
    rintro _ _ ⟨rfl, rfl⟩
    cases hgs : X.gs with
    | none => exact ⟨rfl, Upd.refl _ _⟩
    | some g =>
      rw [hgs] at hG hb16
      have hG : IsG _ g.p g.v g.tags g.k g.n := hG
      refine fa ?_
      refine ldb hb (by rw [hgs]; exact hb16) ?_
      refine cl (first_c hG) ?_
      rintro _ w2 ⟨rfl, hu2⟩
      refine bd #[.int .i64 0, .int .i64 0] (fun _ => by kernel_rfl) ?_
      refine fne (decide (¬ (g.k = 0 ∧ g.n = 0))) decide_eq_true_iff ?_
      exact ⟨rfl, hu2⟩
end
end Go.Proofs.Ytdomclcokkijjaa

/- Functions compared with nil; single cells of longer elements. -/
namespace Go.Proofs.Ytdomclcokkijjaa
open Go.RowKit
class FnT (P : Program) (t : Nat) : Prop where
  u : ∃ a b c, P.underlying t = some (.func a b c)
section
variable {P : Program} {K : Value → World → Prop} {w : World}
theorem equalIn_fn {t : Nat} [FnT P t] (d : Nat) {f : Go.Fn} {xs ys : Array Value} : (Op.equalIn (d + 1) t (.func f xs ys) .nilFunc).run P w = .ok false w := by
  obtain ⟨a, b, c, h⟩ := FnT.u (P := P) (t := t)
  simp [Op.equalIn, run_underlying h]
theorem equalIn_fn0 {t : Nat} [FnT P t] (d : Nat) : (Op.equalIn (d + 1) t .nilFunc .nilFunc).run P w = .ok true w := by
  obtain ⟨a, b, c, h⟩ := FnT.u (P := P) (t := t)
  simp [Op.equalIn, run_underlying h]
theorem equal_fn {t : Nat} [FnT P t] {f : Go.Fn} {xs ys : Array Value} : (Op.equal t (.func f xs ys) .nilFunc).run P w = .ok false w := equalIn_fn 9999
theorem equal_fn0 {t : Nat} [FnT P t] : (Op.equal t .nilFunc .nilFunc).run P w = .ok true w := equalIn_fn0 9999
theorem fn_eq {t : Nat} [FnT P t] {x y : Operand} {f : Go.Fn} {xs ys : Array Value} (k : K (.bool false) w) : RunP P (binSem .eql t x y (.func f xs ys) .nilFunc) K w :=
  rn _ _ (bin_of rfl (by simp only [binOp]; simp [equal_fn])) k
theorem fn_eq0 {t : Nat} [FnT P t] {x y : Operand} (k : K (.bool true) w) : RunP P (binSem .eql t x y .nilFunc .nilFunc) K w :=
  rn _ _ (bin_of rfl (by simp only [binOp]; simp [equal_fn0])) k
theorem stC {t e size : Nat} [One P t] {K : World → Prop} {v u : Value} {n : Nat} {xs : List Value} {g o c : Nat} (j : Nat) {a : Nat} (h : Sl w e size v n xs) (hv : v = .slice (some ⟨g, o, none⟩) n c) (hj : j < n * size) (ha : a = o + j) (hu : u.oneCell' = true)
    (k : ∀ w', Sl w' e size v n (xs.set j u) → Upd [g] w w' → w'.heap.size = w.heap.size → K w') : RunU P (Instr.storeAt t (.pointer (some ⟨g, a, none⟩)) u) K w := by
  have h1 := h.cells hv j hj
  have h2 : j < xs.length := by rw [h.1]; omega
  subst ha
  exact ⟨⟨_, run_store1 (u := xs[j]) (by rw [h1.1]; simp [h2]) h1.2 hu, k _ (h.store hv j hj u) ((Upd.refl [g] w).setCell (.inl (by simp)) u) (by simp [World.setCell])⟩⟩
end
end Go.Proofs.Ytdomclcokkijjaa

/- Contracts: a machine's frames; a step of a thread. -/
namespace Go.Proofs.Ytdomclcokkijjaa
open Go.RowKit
attribute [local irreducible] Instr.loadAt Instr.storeAt Instr.fieldAt Instr.indexAt Instr.sliceAt Instr.buildSlice Instr.box Instr.alloc Builtin.append_ Builtin.len_ Builtin.min_ Builtin.max_ Calls Instr.build Instr.makeSlice binSem convert Instr.index Instr.range Instr.next
attribute [local irreducible] Builtin.copy_
instance : FnT Try.prog 128 := ⟨⟨_, _, _, Try.underlying128⟩⟩
/-- a block of the caller's own, beside a machine -/
structure Aside (w : World) (X : Mc) (g T : Nat) (cs : Array Value) : Prop where
  b : Blk w g T cs
  n : g ∉ X.feet
section
variable {w w' : World} {X X' : Mc} {g T : Nat} {cs : Array Value}
theorem Aside.post (h : Aside w X g T cs) (p : Post w X w' X') : Aside w' X' g T cs := ⟨h.b.upd p.to.up h.n, fun hm => by
  rcases p.to.sub _ hm with h1 | h1
  · exact h.n h1
  · have := h.b.lt; omega⟩
theorem Aside.upd0 (h : Aside w X g T cs) (hu : Upd [] w w') : Aside w' X g T cs := ⟨h.b.upd hu (by simp), h.n⟩
/-- the caller's own block changes -/
theorem Mach.aside (h : Mach w X) (hg : g ∉ X.feet) (hu : Upd [g] w w') : Mach w' X := Sep.upd h hu (fun k hk hm => by
  have := List.mem_singleton.1 hm
  subst this
  exact hg hk)
theorem ths_lt {i : Nat} {t : Th} (hi : X.ths[i]? = some t) : i < X.ths.length := (List.getElem?_eq_some_iff.1 hi).1
theorem feet_thr {i : Nat} {t : Th} (hi : X.ths[i]? = some t) : ∀ k ∈ t.g :: t.fv.ownBlock.toList, k ∈ X.feet := fun k hk =>
  mem_feet.2 ⟨obThr (i : Int) t, List.mem_of_getElem? (obs_thr X i t hi), mem_feet.2 ⟨obCore (i : Int) t, by simp [Th.obs], hk⟩⟩
theorem push_mm (h : Mach w X) {i : Nat} {t : Th} (hi : X.ths[i]? = some t) (hf : t.fs.length ≤ 100000) {v : Value} {l : List Int} (hv : RdK w .u64 v l) (hl : l.length ≤ 100000) (fn : Int) :
    Fn Try.prog 16 #[ptrV t.g, .int .i64 fn, v] w fun _ w' => ∃ fv', Post w X w' { X with ths := X.ths.set i { t with fv := fv', fs := t.fs ++ [⟨fn, 0, l⟩] } } :=
  (push_c (h.core hi) hf hv hl fn).mono fun _ w' ⟨u, he, fv', h1, h2, h3⟩ => ⟨u, he, fv', h.setCore hi h1 ⟨h2, fun k hk => by
    rcases List.mem_cons.1 hk with e | e
    · exact .inl (by rw [e]; simp)
    · rcases h3 k (by simpa using e) with e1 | e1
      · exact .inl (List.mem_cons_of_mem _ (by simpa using e1))
      · exact .inr e1⟩⟩
theorem pop_mm (h : Mach w X) {i : Nat} {t : Th} (hi : X.ths[i]? = some t) {fs : List Fr} {f : Fr} (hfs : t.fs = fs ++ [f]) (hf : fs.length ≤ 100000) {v : Value} {l : List Int} (hv : ∀ w', Upd [t.g] w w' → RdK w' .u64 v l) :
    Fn Try.prog 17 #[ptrV t.g, v] w fun _ w' => ∃ fv', Post w X w' { X with ths := X.ths.set i { t with fv := fv', fs := fs, r := (l.getD 0 0, l.getD 1 0, l.getD 2 0) } } := by
  have hc := h.core hi
  rw [hfs] at hc
  exact (pop_c hc hf hv).mono fun _ w' ⟨u, he, fv', h1, h2, h3⟩ => ⟨u, he, fv', h.setCore hi h1 ⟨h2.mono (by simp), fun k hk => by
    rw [h3] at hk
    exact .inl hk⟩⟩
theorem top_mm (h : Mach w X) {i : Nat} {t : Th} (hi : X.ths[i]? = some t) {fs : List Fr} {f : Fr} (hfs : t.fs = fs ++ [f]) (hf : fs.length ≤ 100000) {fb fo fc : Nat} (hv : t.fv = .slice (some ⟨fb, fo, none⟩) t.fs.length fc) :
    Fn Try.prog 18 #[ptrV t.g] w fun r w' => r = .pointer (some ⟨fb, fo + fs.length * 12, none⟩) ∧ w' = w.drew := by
  have hc := h.core hi
  rw [hv, hfs] at hc
  exact top_c hc hf
theorem top_no (h : Mach w X) {i : Nat} {t : Th} (hi : X.ths[i]? = some t) (hfs : t.fs = []) : Fn Try.prog 18 #[ptrV t.g] w fun r w' => r = .pointer none ∧ w' = w := by
  have hc := h.core hi
  rw [hfs] at hc
  exact top_none hc
theorem Mach.fr_ (h : Mach w X) {i : Nat} {t : Th} (hi : X.ths[i]? = some t) (hfs : t.fs ≠ []) : ∃ fb fo fc, t.fv = .slice (some ⟨fb, fo, none⟩) t.fs.length fc := by
  obtain ⟨fb, fo, fc, h1, -⟩ := (h.core hi).fr.some_ (List.length_pos_iff.2 hfs)
  exact ⟨fb, fo, fc, h1⟩
theorem Mach.top (h : Mach w X) {i : Nat} {t : Th} (hi : X.ths[i]? = some t) {fs : List Fr} {f : Fr} (hfs : t.fs = fs ++ [f]) {fb fo fc : Nat} (hv : t.fv = .slice (some ⟨fb, fo, none⟩) t.fs.length fc) (j : Nat) (hj : j < 12) : w.cell? ⟨fb, fo + fs.length * 12 + j, none⟩ = (frC f)[j]? := by
  have hc := h.core hi
  rw [hv, hfs] at hc
  exact hc.top j hj
/-- one cell of the top frame is written -/
theorem st_fr {ty : Nat} [One Try.prog ty] {K : World → Prop} (h : Mach w X) {i : Nat} {t : Th} (hi : X.ths[i]? = some t) {fs : List Fr} {f f' : Fr} (hfs : t.fs = fs ++ [f]) {fb fo fc : Nat} (hv : t.fv = .slice (some ⟨fb, fo, none⟩) t.fs.length fc) (j : Nat) (hj : j < 12) {a : Nat} (ha : a = fo + fs.length * 12 + j) {u : Value} (hu : u.oneCell' = true)
    (hf : frC f' = (frC f).set j u) (k : ∀ w', Post w X w' { X with ths := X.ths.set i { t with fs := fs ++ [f'] } } → K w') : RunU Try.prog (Instr.storeAt ty (.pointer (some ⟨fb, a, none⟩)) u) K w := by
  have hc := h.core hi
  have hs := hc.fr
  have hl : t.fs.length = fs.length + 1 := by rw [hfs]; simp
  refine stC (fs.length * 12 + j) hs hv (by omega) (by omega) hu fun w' hs' hu' _ => k w' (h.setCore hi ⟨hc.blk.upd hu' ?_, ?_⟩ ⟨hu'.mono (by rw [hv]; simp [Value.ownBlock]), fun _ h => .inl h⟩)
  · intro hm
    have := hs.blk_ne hc.blk (by decide)
    rw [hv, List.mem_singleton.1 hm] at this
    exact this rfl
  · have e : (framesC t.fs).set (fs.length * 12 + j) u = framesC (fs ++ [f']) := by
      rw [hfs, framesC_app, framesC_app, framesC_one, framesC_one, hf, List.set_append_right _ _ (by rw [framesC_len]; omega), framesC_len]
      congr 2
      omega
    rw [e, hl] at hs'
    rw [List.length_append]
    exact hs'
theorem frC_pc (f : Fr) (x : Int) : frC { f with pc := x } = (frC f).set 1 (.int .i64 x) := rfl
def regI (l : List Int) (k : Nat) (x : Int) : List Int := (List.range 10).map fun j => if j = k then x else l.getD j 0
theorem regI_at (l : List Int) (k : Nat) (x : Int) (j : Nat) (hj : j < 10) : (regI l k x).getD j 0 = if j = k then x else l.getD j 0 := by simp [regI, List.getD, hj]
theorem frC_reg (f : Fr) (k : Nat) (hk : k < 10) (x : Int) : frC { f with R := regI f.R k x } = (frC f).set (2 + k) (.int .u64 x) := by
  rw [show 2 + k = k + 1 + 1 by omega]
  show (Value.int .i64 f.fn) :: (.int .i64 f.pc) :: regsC 10 (regI f.R k x) = (Value.int .i64 f.fn) :: (.int .i64 f.pc) :: (regsC 10 f.R).set k (.int .u64 x)
  congr 2
  apply List.ext_getElem?
  intro j
  rw [List.getElem?_set]
  by_cases hj : j < 10
  · simp only [regsC, List.getElem?_map, List.getElem?_range hj, Option.map_some, List.length_map, List.length_range]
    rw [regI_at _ _ _ _ hj]
    by_cases e : k = j
    · subst e; simp [hk]
    · rw [if_neg (fun h => e h.symm), if_neg e]
  · have : ¬ k = j := by omega
    rw [if_neg this]
    simp [regsC, hj]
end
/-- a step of a thread: J is what is so between the rounds -/
theorem step_mm {w : World} {X : Mc} {i f g0 : Nat} {ys : Array Value} [HasBody Try.prog f] (J : Mc → World → Nat → Prop) (n : Nat) {t0 : Th} (h : Mach w X) (hi : X.ths[i]? = some t0) (hg : t0.g = g0) (hl : X.ths.length ≤ 100)
    (h0 : ∀ w', Post w X w' { X with acted := false } → J { X with acted := false } w' n)
    (hJ : ∀ Y w' n, J Y w' n → Mach w' Y ∧ Y.m = X.m ∧ ∃ t, Y.ths[i]? = some t ∧ t.g = g0 ∧ t.fs.length ≤ 100000)
    (hr : ∀ Y w' n t, J Y w' n → Y.ths[i]? = some t → Y.acted = false → t.fs ≠ [] → Fn Try.prog f (#[] ++ [ptrV X.m, ptrV g0].toArray ++ ys) w' fun _ w'' => ∃ Y' n', J Y' w'' n' ∧ n' < n) :
    Fn Try.prog 47 #[ptrV X.m, .int .i64 (i : Int), .func (.func f) #[] ys] w fun r w' => ∃ Y n' t, J Y w' n' ∧ Y.ths[i]? = some t ∧ (Y.acted = true ∨ t.fs = []) ∧ r = .bool (decide ((t.fs.length : Int) > 0)) := by
  have hsz : 19 < (machC X.c (ptrV X.mp) (gvOf X.gs) (ptrV X.fp) X.tv X.acted X.bad).size := by cases X.c; show 19 < 21; omega
  refine fn_enter Try.func47 rfl rfl ?_
  refine cl (thread_mm h hi hl) ?_
  rintro _ _ ⟨rfl, rfl⟩
  refine ptr_eq ?_
  refine fn_eq ?_
  refine fa ?_
  refine st h.blk hsz rfl fun w1 hb1 hu1 hs1 => ?_
  have p1 : Post _ X w1 { X with acted := false } := h.setM (b := X.bad) (by cases hc : X.c; rw [hc] at hb1; exact hb1) hu1
  refine loop_rule [0, 2, 7] [] (fun vs w' m => vs = [] ∧ ∃ Y, J Y w' m) rfl [] n rfl ⟨rfl, _, h0 w1 p1⟩ ?_
  rintro _ w2 m ⟨rfl, Y, j2⟩
  obtain ⟨hY, hm, t, ht, htg, htl⟩ := hJ Y w2 m j2
  have hb := hY.blk
  rw [hm] at hb
  have hc := (hY.core ht).blk
  rw [htg] at hc
  rw [hg]
  obtain ⟨fa0, fc0, hfv, -⟩ := (hY.core ht).fr.form
  have hlen : thrC (i : Int) t.fv t.r t.pv t.sv t.wv t.rv t.ov = thrC (i : Int) (.slice fa0 t.fs.length fc0) t.r t.pv t.sv t.wv t.rv t.ov := by rw [hfv]
  rw [hlen] at hc
  have hend : ∀ r, r = Value.bool (decide ((t.fs.length : Int) > 0)) → (Y.acted = true ∨ t.fs = []) → ∃ Y n' t, J Y w2 n' ∧ Y.ths[i]? = some t ∧ (Y.acted = true ∨ t.fs = []) ∧ r = .bool (decide ((t.fs.length : Int) > 0)) := fun r hr ho => ⟨Y, m, t, j2, ht, ho, hr⟩
  refine fa ?_
  refine ldb hb (v := .bool Y.acted) (by cases Y.c; rfl) ?_
  cases ha : Y.acted with
  | true =>
    refine fa ?_
    refine ldb hc rfl ?_
    refine len_sl ?_
    exact hend _ rfl (.inl ha)
  | false =>
    refine fa ?_
    refine ldb hc rfl ?_
    refine len_sl ?_
    refine cd (fun hpos => ?_) (fun hpos => ?_)
    · have hne : t.fs ≠ [] := fun e => by rw [e] at hpos; simp at hpos
      refine cl (hr Y w2 m t j2 ht ha hne) ?_
      rintro _ w3 ⟨Y', n', j3, hn'⟩
      exact round_mk [] n' rfl rfl ⟨rfl, Y', j3⟩ hn'
    · refine fa ?_
      refine ldb hc rfl ?_
      refine len_sl ?_
      refine hend _ rfl (.inr (List.eq_nil_of_length_eq_zero (by omega)))
theorem step_no {w : World} {X : Mc} {i : Int} {r : Value} (h : Mach w X) (hi : i < 0 ∨ (X.ths.length : Int) ≤ i) : Fn Try.prog 47 #[ptrV X.m, .int .i64 i, r] w fun r w' => r = .bool false ∧ w' = w := by
  refine fn_enter Try.func47 rfl rfl ?_
  refine cl (thread_no h i hi) ?_
  rintro _ _ ⟨rfl, rfl⟩
  refine ptr_eq0 ?_
  exact ⟨rfl, rfl⟩
theorem step_nil {w : World} {X : Mc} {i : Nat} {t : Th} (h : Mach w X) (hi : X.ths[i]? = some t) (hl : X.ths.length ≤ 100) : Fn Try.prog 47 #[ptrV X.m, .int .i64 (i : Int), .nilFunc] w fun r w' => r = .bool false ∧ w' = w := by
  refine fn_enter Try.func47 rfl rfl ?_
  refine cl (thread_mm h hi hl) ?_
  rintro _ _ ⟨rfl, rfl⟩
  refine ptr_eq ?_
  refine fn_eq0 ?_
  exact ⟨rfl, rfl⟩
theorem step_none (w : World) (i : Int) (r : Value) : Fn Try.prog 47 #[.pointer none, .int .i64 i, r] w fun r w' => r = .bool false ∧ w' = w := by
  refine fn_enter Try.func47 rfl rfl ?_
  have ht : Fn Try.prog 39 #[.pointer none, .int .i64 i] w fun r w' => r = .pointer none ∧ w' = w := by
    refine fn_enter Try.func39 rfl rfl ?_
    refine ptr_eq0 ?_
    exact ⟨rfl, rfl⟩
  refine cl ht ?_
  rintro _ _ ⟨rfl, rfl⟩
  refine ptr_eq0 ?_
  exact ⟨rfl, rfl⟩
theorem fault_none (w : World) : Fn Try.prog 31 #[.pointer none] w fun r w' => r = .bool false ∧ w' = w := by
  refine fn_enter Try.func31 rfl rfl ?_
  refine ptr_ne0 ?_
  exact ⟨rfl, rfl⟩
theorem load_none (w : World) (a : Int) : Fn Try.prog 45 #[.pointer none, .int .i64 a] w fun r w' => r = .int .u64 0 ∧ Upd [] w w' := by
  have ht : ∀ (w : World) (v : Value), Fn Try.prog 73 #[.pointer none, v] w fun r w' => r = .bool false ∧ w' = w := fun w v => by
    refine fn_enter Try.func73 rfl rfl ?_
    refine ptr_eq0 ?_
    exact ⟨rfl, rfl⟩
  refine fn_enter Try.func45 rfl rfl ?_
  refine bs #[.int .i64 a] (fun _ => by kernel_rfl) fun w1 hb1 hu1 hs1 => ?_
  refine cl (ht w1 _) ?_
  rintro _ _ ⟨rfl, rfl⟩
  exact ⟨rfl, hu1⟩
end Go.Proofs.Ytdomclcokkijjaa

/- The law CoreOnce. -/
namespace Go.Proofs.Ytdomclcokkijjaa
open Go.RowKit
attribute [local irreducible] Instr.loadAt Instr.storeAt Instr.fieldAt Instr.indexAt Instr.sliceAt Instr.buildSlice Instr.box Instr.alloc Builtin.append_ Builtin.len_ Builtin.min_ Builtin.max_ Calls Instr.build Instr.makeSlice binSem convert Instr.index Instr.range Instr.next
structure OnI (w0 w' : World) (c : Cf) (T m mp g0 g gc : Nat) (Y : Mc) (fs : List Fr) (r0 : Option Int) (k z : Int) : Prop where
  new : New w0 w' Y
  em : Y.m = m
  emp : Y.mp = mp
  ec : Y.c = c
  eT : Y.ths.length = T
  th : ∃ t, Y.ths[0]? = some t ∧ t.g = g0 ∧ t.fs = fs ∧ ∀ n, r0 = some n → t.r.1 = n
  ot : ∀ j t, Y.ths[j]? = some t → j ≠ 0 → t.fs = []
  tg : (gtags Y.gs).length ≤ 64
  k_ : Y.s.k = k
  on : Y.s.on = false
  L : Y.s.L = []
  W : 10 ≤ Y.s.W.length
  ca : Aside w' Y gc 3 #[.int .i64 z]
  bo : Aside w' Y g 42 (cf7 c)
  gf : w0.heap.size ≤ gc
  ne : g ≠ gc
theorem OnI.upd0 {w0 w' w'' : World} {c : Cf} {T m mp g0 g gc : Nat} {Y : Mc} {fs : List Fr} {r0 : Option Int} {k z : Int} (h : OnI w0 w' c T m mp g0 g gc Y fs r0 k z) (hu : Upd [] w' w'') : OnI w0 w'' c T m mp g0 g gc Y fs r0 k z :=
  ⟨h.new.post (.of0 h.new.ok hu), h.em, h.emp, h.ec, h.eT, h.th, h.ot, h.tg, h.k_, h.on, h.L, h.W, h.ca.upd0 hu, h.bo.upd0 hu, h.gf, h.ne⟩
theorem OnI.core {w0 w' w'' : World} {c : Cf} {T m mp g0 g gc : Nat} {Y : Mc} {fs fs' : List Fr} {r0 r0' : Option Int} {k z : Int} (h : OnI w0 w' c T m mp g0 g gc Y fs r0 k z) {t : Th} (ht : Y.ths[0]? = some t) (hg : t.g = g0) {fv : Value} {r : Int × Int × Int}
    (p : Post w' Y w'' { Y with ths := Y.ths.set 0 { t with fv := fv, fs := fs', r := r } }) (hr : ∀ n, r0' = some n → r.1 = n) : OnI w0 w'' c T m mp g0 g gc { Y with ths := Y.ths.set 0 { t with fv := fv, fs := fs', r := r } } fs' r0' k z := by
  refine ⟨h.new.post p, h.em, h.emp, h.ec, by rw [← h.eT]; simp, ⟨{ t with fv := fv, fs := fs', r := r }, by rw [List.getElem?_set]; simp [ths_lt ht], hg, rfl, hr⟩, fun j u hj hne => ?_, h.tg, h.k_, h.on, h.L, h.W, h.ca.post p, h.bo.post p, h.gf, h.ne⟩
  have hj : (Y.ths.set 0 { t with fv := fv, fs := fs', r := r })[j]? = some u := hj
  rw [List.getElem?_set_ne (by omega)] at hj
  exact h.ot j u hj hne
theorem OnI.memS {w0 w' w'' : World} {c : Cf} {T m mp g0 g gc : Nat} {Y : Mc} {fs : List Fr} {r0 : Option Int} {k k' z : Int} {a b : Bool} {gs : Option Gs} {lv : Value} {s : MS} (h : OnI w0 w' c T m mp g0 g gc Y fs r0 k z) (p : Post w' Y w'' { Y with acted := a, gs := gs, lv := lv, s := s, bad := b })
    (h1 : gtags gs = gtags Y.gs) (h2 : s.k = k') (h3 : s.on = false) (h4 : s.L = []) (h5 : s.W.length = Y.s.W.length) : OnI w0 w'' c T m mp g0 g gc { Y with acted := a, gs := gs, lv := lv, s := s, bad := b } fs r0 k' z :=
  ⟨h.new.post p, h.em, h.emp, h.ec, h.eT, h.th, h.ot, by show (gtags gs).length ≤ 64; rw [h1]; exact h.tg, h2, h3, h4, by show 10 ≤ s.W.length; rw [h5]; exact h.W, h.ca.post p, h.bo.post p, h.gf, h.ne⟩
theorem OnI.call {w0 w' w'' : World} {c : Cf} {T m mp g0 g gc : Nat} {Y : Mc} {fs : List Fr} {r0 : Option Int} {k z z' : Int} (h : OnI w0 w' c T m mp g0 g gc Y fs r0 k z) (hb : Blk w'' gc 3 #[.int .i64 z']) (hu : Upd [gc] w' w'') : OnI w0 w'' c T m mp g0 g gc Y fs r0 k z' :=
  ⟨⟨h.new.ok.aside h.ca.n hu, h.new.up.step hu (by simp; exact h.gf), h.new.fr⟩, h.em, h.emp, h.ec, h.eT, h.th, h.ot, h.tg, h.k_, h.on, h.L, h.W, ⟨hb, h.ca.n⟩, ⟨h.bo.b.upd hu (by simp; exact h.ne), h.bo.n⟩, h.gf, h.ne⟩
theorem OnI.act {w0 w' w'' : World} {c : Cf} {T m mp g0 g gc : Nat} {Y : Mc} {fs : List Fr} {r0 : Option Int} {k z : Int} {a : Bool} (h : OnI w0 w' c T m mp g0 g gc Y fs r0 k z) (p : Post w' Y w'' { Y with acted := a }) : OnI w0 w'' c T m mp g0 g gc { Y with acted := a } fs r0 k z :=
  ⟨h.new.post p, h.em, h.emp, h.ec, h.eT, h.th, h.ot, h.tg, h.k_, h.on, h.L, h.W, h.ca.post p, h.bo.post p, h.gf, h.ne⟩
theorem OnI.roomy {w0 w' : World} {c : Cf} {T m mp g0 g gc : Nat} {Y : Mc} {fs : List Fr} {r0 : Option Int} {k z : Int} (h : OnI w0 w' c T m mp g0 g gc Y fs r0 k z) (h0 : 0 ≤ k) (h1 : k ≤ 1000000) : Roomy Y.s := ⟨by rw [h.k_]; exact h0, by rw [h.k_]; omega, by rw [h.L]; decide⟩
/-- what one call of the routine leaves -/
def OnR (w0 w' : World) (c : Cf) (T m mp g0 g gc : Nat) (pc n k z : Int) (a : Bool) : Prop :=
  (n ≤ pc ∧ ∃ Y, OnI w0 w' c T m mp g0 g gc Y [] (some pc) k (z + 1) ∧ Y.acted = a) ∨
  (pc < n ∧ ((∃ Y, OnI w0 w' c T m mp g0 g gc Y [⟨7, pc + 1, [n]⟩] none (k + 1) (z + 1) ∧ Y.acted = true) ∨ ∃ Y, OnI w0 w' c T m mp g0 g gc Y [⟨7, pc + 1, [n]⟩] none k (z + 1) ∧ Y.acted = a))
set_option maxRecDepth 10000 in
theorem once_r {w0 w : World} {c : Cf} {T m mp g0 g gc : Nat} {Y : Mc} {pc n k z : Int} (hc : rightC c) (I : OnI w0 w c T m mp g0 g gc Y [⟨7, pc, [n]⟩] none k z) (h0 : 0 ≤ pc) (h1 : pc ≤ n) (h2 : n ≤ 30) (k0 : 0 ≤ k) (k1 : k ≤ 1000000) (z0 : 0 ≤ z) (z1 : z ≤ 1000000) :
    Fn Try.prog 44 #[ptrV m, ptrV g0, .pointer (some ⟨gc, 0, none⟩)] w fun _ w' => OnR w0 w' c T m mp g0 g gc pc n k z Y.acted := by
  obtain ⟨t, ht, hg, hfs, -⟩ := I.th
  obtain ⟨fb, fo, fc, hfv⟩ := I.new.ok.fr_ ht (by rw [hfs]; simp)
  have hfs' : t.fs = [] ++ [⟨7, pc, [n]⟩] := hfs
  have em := I.em
  subst em
  subst hg
  refine fn_enter Try.func44 rfl rfl ?_
  have htop := top_mm I.new.ok ht hfs' (by simp) hfv
  refine cl htop ?_
  rintro _ _ ⟨rfl, rfl⟩
  replace I := I.upd0 (Upd.refl [] w).drew
  generalize w.drew = w1 at *
  refine ld (v := .int .i64 z) (I.ca.b.cell 0) ?_
  refine ar64 (by omega) ?_
  refine st I.ca.b (by show 0 < 1; omega) rfl fun w2 hb2 hu2 hs2 => ?_
  replace I : OnI w0 w2 c T Y.m mp t.g g gc Y [⟨7, pc, [n]⟩] none k (z + 1) := I.call hb2 hu2
  have htc : ∀ w', Upd [] w2 w' → ∀ j, j < 12 → w'.cell? ⟨fb, fo + 0 * 12 + j, none⟩ = (frC ⟨7, pc, [n]⟩)[j]? := fun w' hu j hj => (I.new.ok.upd0 hu).top ht hfs' hfv j hj
  refine draw_all (fun w' => Upd [] w2 w') (by decide +kernel) (Upd.refl [] w2).drew ?_
  refine q_fa ?_
  refine q_ld (v := .int .i64 pc) (fun w' hw' => htc w' hw' 1 (by omega)) ?_
  refine q_fa ?_
  refine q_ixA 0 rfl (by omega) ?_
  refine q_ld (v := .int .u64 n) (fun w' hw' => htc w' hw' 2 (by omega)) ?_
  refine rq (.int .i64 n) (fun _ _ => cv (ar64 (by omega) ⟨rfl, rfl⟩)) ?_
  intro w3 hw3
  have htc3 : ∀ j, j < 12 → w3.cell? ⟨fb, fo + 0 * 12 + j, none⟩ = (frC ⟨7, pc, [n]⟩)[j]? := htc w3 hw3
  replace I := I.upd0 hw3
  refine cd (fun hge => ?_) (fun hge => ?_)
  · refine fa ?_
    refine ld (v := .int .i64 pc) (htc3 1 (by omega)) ?_
    refine cv ?_
    refine arU (by omega) ?_
    refine bs #[.int .u64 pc] (fun _ => by kernel_rfl) fun w4 hb4 hu4 hs4 => ?_
    have I4 := I.upd0 hu4
    have hpop := pop_mm (l := [pc]) I4.new.ok ht hfs' (by simp) (v := .slice (some ⟨w3.heap.size, 0, none⟩) 1 1) (fun w' hu => RdK.of_sl (e := 27) (n := 1) (Sl.lit (n := 1) (hb4.upd hu (by
      have := (I.new.ok.core ht).blk.lt
      simp; omega)) rfl (by decide)))
    refine cl hpop ?_
    rintro _ w5 ⟨fv', p5⟩
    exact .inl ⟨hge, _, I4.core (r0' := some pc) ht rfl p5 (fun n hn => by injection hn), rfl⟩
  · refine fa ?_
    refine ld (v := .int .i64 pc) (htc3 1 (by omega)) ?_
    refine ar64 (by omega) ?_
    refine fa ?_
    refine st_fr I.new.ok ht hfs' hfv 1 (by omega) rfl rfl (frC_pc ⟨7, pc, [n]⟩ (pc + 1)) fun w4 p4 => ?_
    have I4 : OnI w0 w4 c T Y.m mp t.g g gc _ [⟨7, pc + 1, [n]⟩] none k (z + 1) := I.core ht rfl p4 (fun n hn => by cases hn)
    obtain ⟨t4, ht4, hg4, hfs4, -⟩ := I4.th
    have hfv4 : t4.fv = .slice (some ⟨fb, fo, none⟩) t4.fs.length fc := by
      have h5 : (Y.ths.set 0 { t with fs := [] ++ [{ (⟨7, pc, [n]⟩ : Fr) with pc := pc + 1 }] })[0]? = some t4 := ht4
      rw [List.getElem?_set] at h5
      simp [ths_lt ht] at h5
      subst h5
      rw [hfv, hfs]; rfl
    refine fa ?_
    refine ld (v := .int .i64 (pc + 1)) (I4.new.ok.top ht4 (fs := []) hfs4 hfv4 1 (by omega)) ?_
    refine rm (by decide) ?_
    refine val _ rfl ?_
    refine cd (fun h3 => ?_) (fun h3 => ?_)
    · have hld := load_m I4.new.ok (by rw [I4.ec]; exact hc) I4.tg (I4.roomy k0 k1) 1
      refine cl hld ?_
      rintro _ w5 ⟨rfl, lv, p5⟩
      have hok : okA Y.s 1 := ⟨by omega, by have := I.W; omega⟩
      have e : ldS Y.s 1 = tick Y.s (0, 1, -1, false) := if_pos hok
      refine .inr ⟨by omega, .inl ⟨_, I4.memS p5 (tch_tags _ _ _) ?_ ?_ ?_ ?_, rfl⟩⟩
      · show (ldS Y.s 1).k = k + 1
        rw [e, ← I.k_]; rfl
      · show (ldS Y.s 1).on = false
        rw [e]; exact I.on
      · show (ldS Y.s 1).L = []
        rw [e]
        show (if Y.s.on then _ else Y.s.L) = []
        rw [I.on]; exact I.L
      · show (ldS Y.s 1).W.length = _
        rw [e]; rfl
    · exact .inr ⟨by omega, .inr ⟨_, I4, rfl⟩⟩
/-- between the rounds of a step -/
def OnJ (w0 : World) (c : Cf) (T m mp g0 g gc : Nat) (n k zb pc0 : Int) (Y : Mc) (w' : World) (ms : Nat) : Prop :=
  (∃ pc z, OnI w0 w' c T m mp g0 g gc Y [⟨7, pc, [n]⟩] none k z ∧ Y.acted = false ∧ pc0 ≤ pc ∧ pc ≤ n ∧ 0 ≤ z ∧ z ≤ zb + pc ∧ ms = (n - pc + 1).toNat) ∨
  (∃ pc z, OnI w0 w' c T m mp g0 g gc Y [⟨7, pc, [n]⟩] none (k + 1) z ∧ Y.acted = true ∧ pc0 < pc ∧ pc ≤ n ∧ 0 ≤ z ∧ z ≤ zb + pc ∧ ms = 0) ∨
  (∃ z, OnI w0 w' c T m mp g0 g gc Y [] (some n) k z ∧ 0 ≤ z ∧ z ≤ zb + n + 1 ∧ ms = 0)
theorem OnJ.info {w0 : World} {c : Cf} {T m mp g0 g gc : Nat} {n k zb pc0 : Int} {Y : Mc} {w' : World} {ms : Nat} (h : OnJ w0 c T m mp g0 g gc n k zb pc0 Y w' ms) : Mach w' Y ∧ Y.m = m ∧ ∃ t, Y.ths[0]? = some t ∧ t.g = g0 ∧ t.fs.length ≤ 100000 := by
  rcases h with ⟨pc, z, I, -⟩ | ⟨pc, z, I, -⟩ | ⟨z, I, -⟩
  all_goals
    obtain ⟨t, h1, h2, h3, -⟩ := I.th
    exact ⟨I.new.ok, I.em, t, h1, h2, by rw [h3]; simp⟩
instance : HasBody Try.prog 44 := inferInstance
theorem once_step {w0 w : World} {c : Cf} {T m mp g0 g gc : Nat} {Y : Mc} {pc n k z zb : Int} (hc : rightC c) (hT : T ≤ 100) (I : OnI w0 w c T m mp g0 g gc Y [⟨7, pc, [n]⟩] none k z) (h0 : 0 ≤ pc) (h1 : pc ≤ n) (h2 : n ≤ 30) (k0 : 0 ≤ k) (k1 : k ≤ 1000000) (z0 : 0 ≤ z) (z1 : z ≤ zb + pc) (hzb : zb ≤ 900000) :
    Fn Try.prog 47 #[ptrV m, .int .i64 0, .func (.func 44) #[] #[.pointer (some ⟨gc, 0, none⟩)]] w fun r w' =>
      (∃ Y pc' z', OnI w0 w' c T m mp g0 g gc Y [⟨7, pc', [n]⟩] none (k + 1) z' ∧ pc < pc' ∧ pc' ≤ n ∧ 0 ≤ z' ∧ z' ≤ zb + pc' ∧ r = .bool true) ∨
      (∃ Y z', OnI w0 w' c T m mp g0 g gc Y [] (some n) k z' ∧ 0 ≤ z' ∧ z' ≤ zb + n + 1 ∧ r = .bool false) := by
  obtain ⟨t, ht, hg, hfs, -⟩ := I.th
  have hst := step_mm (i := 0) (f := 44) (ys := #[.pointer (some ⟨gc, 0, none⟩)]) (OnJ w0 c T m mp g0 g gc n k zb pc) (n - pc + 1).toNat I.new.ok ht hg (by rw [I.eT]; exact hT)
    (fun w' p => .inl ⟨pc, z, I.act p, rfl, by omega, h1, z0, z1, rfl⟩) (fun Y' w' n' hJ => by rw [I.em]; exact hJ.info) (fun Y' w' n' t' hJ ht' ha hne => by
      rw [I.em]
      rcases hJ with ⟨pc1, z1, I1, ha1, q1, q2, q3, q4, rfl⟩ | ⟨pc1, z1, I1, ha1, -⟩ | ⟨z1, I1, -⟩
      · refine (once_r hc I1 (by omega) q2 h2 k0 k1 q3 (by omega)).mono fun e w'' ⟨u, he, hR⟩ => ⟨u, he, ?_⟩
        rcases hR with ⟨r1, Y2, I2, -⟩ | ⟨r1, ⟨Y2, I2, a2⟩ | ⟨Y2, I2, a2⟩⟩
        · have : pc1 = n := by omega
          rw [this] at I2
          exact ⟨Y2, 0, .inr (.inr ⟨_, I2, by omega, by omega, rfl⟩), by omega⟩
        · exact ⟨Y2, 0, .inr (.inl ⟨_, _, I2, a2, by omega, by omega, by omega, by omega, rfl⟩), by omega⟩
        · exact ⟨Y2, (n - (pc1 + 1) + 1).toNat, .inl ⟨_, _, I2, by rw [a2]; exact ha1, by omega, by omega, by omega, by omega, rfl⟩, by omega⟩
      · rw [ha1] at ha; cases ha
      · obtain ⟨t2, g1, -, g3, -⟩ := I1.th
        rw [g1] at ht'
        cases ht'
        exact absurd g3 hne)
  rw [I.em] at hst
  refine hst.mono fun e w' ⟨u, he, Y', n', t', hJ, ht', hor, hr⟩ => ⟨u, he, ?_⟩
  rcases hJ with ⟨pc1, z1, I1, ha1, q1, q2, q3, q4, rfl⟩ | ⟨pc1, z1, I1, ha1, q1, q2, q3, q4, rfl⟩ | ⟨z1, I1, q3, q4, rfl⟩
  · obtain ⟨t2, g1, -, g3, -⟩ := I1.th
    rw [g1] at ht'
    cases ht'
    rcases hor with h | h
    · rw [ha1] at h; cases h
    · rw [g3] at h; cases h
  · obtain ⟨t2, g1, -, g3, -⟩ := I1.th
    rw [g1] at ht'
    cases ht'
    exact .inl ⟨Y', pc1, z1, I1, q1, q2, q3, q4, by rw [hr, g3]; rfl⟩
  · obtain ⟨t2, g1, -, g3, -⟩ := I1.th
    rw [g1] at ht'
    cases ht'
    exact .inr ⟨Y', z1, I1, q3, q4, by rw [hr, g3]; rfl⟩
end Go.Proofs.Ytdomclcokkijjaa

/- The law CoreOnce, whole. -/
namespace Go.Proofs.Ytdomclcokkijjaa
open Go.RowKit
attribute [local irreducible] Instr.loadAt Instr.storeAt Instr.fieldAt Instr.indexAt Instr.sliceAt Instr.buildSlice Instr.box Instr.alloc Builtin.append_ Builtin.len_ Builtin.min_ Builtin.max_ Calls Instr.build Instr.makeSlice binSem convert Instr.index Instr.range Instr.next
theorem layS_q {A T N L B P S : Int} (hr : rightC ⟨A, T, N, L, B, P, S⟩) : Quiet (layS A T N L (newMS (sizeP A T N L).toNat)) 200 := by
  obtain ⟨b1, b2, b3, b4, b5, b6, -⟩ := plan_bd hr
  have q0 : Quiet (newMS (sizeP A T N L).toNat) 0 := ⟨Int.le_refl _, Int.le_refl _, rfl, rfl⟩
  generalize newMS (sizeP A T N L).toNat = s at q0
  have q3 : Quiet (lay3 A T N L s) 100 := by
    have := ((layL_q (A := A) (T := T) (N := N) (L := L) (se := (sentP A).toNat) (q0.st 0 ((2 * ((sentP A).toNat + 1) : Nat) : Int)) (N.toNat - (sentP A).toNat - 1)).st 2 1)
    exact this.up (by omega)
  unfold layS
  split
  · exact q3.up (by omega)
  · have := layN_q (A := A) (T := T) (N := N) (L := L) ((q3.st (nodeA A T N L 1 3) L).st (nodeA A T N L 2 0) 18446744073709551615) L.toNat
    exact this.up (by omega)
theorem once_bound (z : Int) : ∃ n : Nat, n ≤ 30 ∧ (if (if (30 : Int) < z then 30 else z) > 0 then (if (30 : Int) < z then 30 else z) else 0) = (n : Int) := by
  refine ⟨(if (if (30 : Int) < z then 30 else z) > 0 then (if (30 : Int) < z then 30 else z) else 0).toNat, ?_, ?_⟩
  · split <;> split <;> omega
  · split <;> split <;> omega
set_option maxRecDepth 100000 in
theorem once_law {w : World} {c : Cf} {v2 : Value} {waits : List Int} (i : Int) (h2 : RdK w .i64 v2 waits) : Fn Try.prog 6 #[.agg (cf7 c), v2, .int .i64 i] w fun r w' => r = .bool true ∧ Upd [] w w' := by
  obtain ⟨a2, c2, hv2, -⟩ := h2.form
  subst hv2
  obtain ⟨A, T, N, L, B, P, S⟩ := c
  refine fn_enter Try.func6 rfl rfl ?_
  refine bx fun w1 hb1 hu1 hs1 => ?_
  have hb1 : Blk w1 w.heap.size 42 (cf7 ⟨A, T, N, L, B, P, S⟩) := hb1
  refine ldw hb1 rfl ?_
  refine cl (rright_c ⟨A, T, N, L, B, P, S⟩ w1) ?_
  rintro _ w2 ⟨rfl, hu2⟩
  have hU2 := hu1.trans hu2
  by_cases hr : rightC ⟨A, T, N, L, B, P, S⟩
  rotate_left
  · refine cY hr ?_
    refine cl (lives16 _) ?_
    rintro _ wx ⟨rfl, hux⟩
    exact ⟨rfl, (hU2).trans hux⟩
  refine cN (fun h => h hr) ?_
  refine len_sl ?_
  by_cases q1 : (waits.length : Int) > 60
  · refine cY q1 ?_
    refine cl (lives16 _) ?_
    rintro _ wx ⟨rfl, hux⟩
    exact ⟨rfl, (hU2).trans hux⟩
  refine cN q1 ?_
  have hb2 := hb1.upd hu2 (by simp)
  refine ldw hb2 rfl ?_
  refine cl (core_new2 (draws := []) true (RdK.nil_ w2 .u8) (by decide)) ?_
  rintro _ w3 ⟨-, hy⟩
  obtain ⟨m, mp, mv, lv, fp, fv, gs, tv, ths, rfl, N3, hTl, hz, -, hgs⟩ := hy hr
  obtain ⟨gp, gv, rfl⟩ := hgs rfl
  clear hy hgs
  obtain ⟨b1, b2, b3, b4, b5, b6, b7, b8, b9, b10, b11, b12⟩ := plan_bd hr
  refine ptr_eq ?_
  have hb3 := hb2.upd N3.up (by simp)
  refine al #[.int .i64 0] (fun _ => by kernel_rfl) fun w4 hb4 hu4 hs4 => ?_
  refine st hb4 (by show 0 < 1; omega) rfl fun w5 hb5 hu5 hs5 => ?_
  have hb5 : Blk w5 w3.heap.size 3 #[.int .i64 0] := hb5
  have hu35 : Upd [] w3 w5 := hu4.step hu5 (by simp)
  have hq := layS_q hr
  have hW : 10 ≤ (layS A T N L (newMS (sizeP A T N L).toNat)).W.length := by rw [layS_len, newMS_len]; omega
  have hgT : (liveL N.toNat (sentP A).toNat).length ≤ 64 := by rw [liveL_len]; omega
  generalize layS A T N L (newMS (sizeP A T N L).toNat) = ms at *
  have hz2 := hU2.size
  have hz3 := N3.up.size
  have hgl := hb2.lt
  have hT : T.toNat ≤ 100 := by omega
  have hlen : ths.length = T.toNat := by omega
  obtain ⟨t0, ht0⟩ : ∃ t0, ths[0]? = some t0 := ⟨ths[0]'(by omega), List.getElem?_eq_getElem _⟩
  have hfz : ∀ t ∈ ths, t.fs = [] := fun t ht => by
    obtain ⟨_, _, _, _, rfl⟩ := hz t ht
    rfl
  have N5 : New w w5 (mc0 m ⟨A, T, N, L, B, P, S⟩ mp mv lv ms (some ⟨gp, gv, liveL N.toNat (sentP A).toNat, 0, 0⟩) fp fv [] tv ths) := (N3.post (.of0 N3.ok hu35)).rebase hU2
  have I5 : OnI w w5 ⟨A, T, N, L, B, P, S⟩ T.toNat m mp t0.g w.heap.size w3.heap.size (mc0 m ⟨A, T, N, L, B, P, S⟩ mp mv lv ms (some ⟨gp, gv, liveL N.toNat (sentP A).toNat, 0, 0⟩) fp fv [] tv ths) [] none ms.k 0 :=
    ⟨N5, rfl, rfl, rfl, hlen, ⟨t0, ht0, rfl, hfz t0 (List.mem_of_getElem? ht0), fun n hn => by cases hn⟩, fun j t hj _ => hfz t (List.mem_of_getElem? hj), hgT, rfl, hq.on, hq.L, hW,
      ⟨hb5, fun hm => by have := N3.ok.m_lt _ hm; omega⟩, ⟨hb3.upd hu35 (by simp), fun hm => by have := N3.fr _ hm; omega⟩, by omega, by omega⟩
  have k0 := hq.k0; have k1 := hq.k1
  generalize t0.g = g0 at *
  generalize w3.heap.size = gc at *
  clear N5 N3 hb3 hb2 hb5 hb4 ht0
  refine loop_rule [1, 2, 3, 7, 9, 10] [11] (fun vs w' mm => ∃ (j : Nat) (Y : Mc) (r0 : Option Int) (k z : Int), vs = [.int .i64 (j : Int)] ∧ j ≤ waits.length ∧ mm = waits.length - j ∧ OnI w w' ⟨A, T, N, L, B, P, S⟩ T.toNat m mp g0 w.heap.size gc Y [] r0 k z ∧ 0 ≤ k ∧ k ≤ 200 + 40 * j ∧ 0 ≤ z ∧ z ≤ 40 * j) rfl [.int .i64 0] waits.length rfl
    ⟨0, _, _, _, _, rfl, by omega, rfl, I5, k0, by omega, by omega, by omega⟩ ?_
  clear I5
  rintro _ w6 mm ⟨j, Y, r0, k, z, rfl, hj, rfl, I, k0, k1, z0, z1⟩
  refine len_sl ?_
  refine cd (fun hlt => ?_) (fun hlt => ?_)
  · have hlt : j < waits.length := by omega
    obtain ⟨vb, vo, vc, he, -⟩ := h2.some_ (by omega)
    cases he
    refine ix j rfl hlt ?_
    refine ld ((h2.upd0 I.new.up).at_ rfl j hlt) ?_
    obtain ⟨n, hn30, hn⟩ := once_bound (waits.getD j 0)
    refine mn2 ?_
    refine val _ rfl ?_
    refine mx2 ?_
    refine val (n : Int) hn ?_
    obtain ⟨t6, ht6, hg6, hf6, hx6⟩ := (I).th
    have hthr := thread_mm (I).new.ok ht6 (by rw [(I).eT]; exact hT)
    rw [(I).em, hg6] at hthr
    refine cl hthr ?_
    rintro _ w6 ⟨rfl, hthr⟩
    subst hthr
    refine cv ?_
    refine arU (by omega) ?_
    refine bs #[.int .u64 (n : Int)] (fun _ => by kernel_rfl) fun w7 hb7 hu7 hs7 => ?_
    have I7 := I.upd0 hu7
    have hpush := push_mm (l := [(n : Int)]) I7.new.ok ht6 (by rw [hf6]; simp) (v := .slice (some ⟨w6.heap.size, 0, none⟩) 1 1) (RdK.of_sl (e := 27) (n := 1) (Sl.lit (n := 1) hb7 rfl (by decide))) (by simp) 7
    rw [hg6] at hpush
    refine cl hpush ?_
    clear hpush
    rintro _ w8 ⟨fv', p8⟩
    rw [hf6] at p8
    rw [← hg6] at p8
    have I8 := I7.core (fs' := [⟨7, 0, [(n : Int)]⟩]) (r0' := none) ht6 hg6 p8 (fun n hn => by cases hn)
    -- the steps
    refine loop_rule [1, 2, 3, 7, 9, 10, 11, 12] [] (fun vs w' mm => vs = [] ∧ ((∃ Y pc k' z', OnI w w' ⟨A, T, N, L, B, P, S⟩ T.toNat m mp g0 w.heap.size gc Y [⟨7, pc, [(n : Int)]⟩] none k' z' ∧ 0 ≤ pc ∧ pc ≤ n ∧ 0 ≤ k' ∧ k' ≤ 200 + 40 * j + pc ∧ 0 ≤ z' ∧ z' ≤ 40 * j + pc ∧ mm = (n - pc + 1).toNat) ∨
        (∃ Y k' z', OnI w w' ⟨A, T, N, L, B, P, S⟩ T.toNat m mp g0 w.heap.size gc Y [] (some (n : Int)) k' z' ∧ 0 ≤ k' ∧ k' ≤ 200 + 40 * j + n ∧ 0 ≤ z' ∧ z' ≤ 40 * j + n + 1 ∧ mm = 0))) rfl [] (n - 0 + 1) rfl
      ⟨rfl, .inl ⟨_, 0, k, z, I8, by omega, by omega, k0, by omega, z0, by omega, by omega⟩⟩ ?_
    clear I8 I7 I
    rintro _ w9 mm ⟨rfl, hE | hE⟩
    · obtain ⟨Y9, pc, k', z', I9, p0, p1, kk0, kk1, zz0, zz1, rfl⟩ := hE
      obtain ⟨t9, ht9, hg9, hf9, hx9⟩ := (I9).th
      have hthr := thread_mm (I9).new.ok ht9 (by rw [(I9).eT]; exact hT)
      rw [(I9).em, hg9] at hthr
      refine cl hthr ?_
      rintro _ w9 ⟨rfl, hthr⟩
      subst hthr
      obtain ⟨fb, fo, fc, hfv⟩ := I9.new.ok.fr_ ht9 (by rw [hf9]; simp)
      have htop := top_mm I9.new.ok ht9 (fs := []) hf9 (by simp) hfv
      rw [hg9] at htop
      refine cl htop ?_
      clear htop
      rintro _ _ ⟨rfl, rfl⟩
      refine ptr_ne ?_
      have Ia := I9.upd0 (Upd.refl [] w9).drew
      have hmm := mem_mm Ia.new.ok
      rw [Ia.em] at hmm
      refine cl hmm ?_
      clear hmm
      rintro _ _ ⟨rfl, rfl⟩
      have hst := steps_c Ia.new.ok.mem
      rw [Ia.k_] at hst
      rw [Ia.emp]
      rw [Ia.emp] at hst
      refine cl hst ?_
      clear hst
      rintro _ _ ⟨rfl, rfl⟩
      refine cl (once_step (zb := 40 * j) hr hT Ia p0 p1 (by omega) kk0 (by omega) zz0 zz1 (by omega)) ?_
      rintro r wb hR
      rcases hR with ⟨Yb, pc', zb, Ib, q1, q2, q3, q4, rfl⟩ | ⟨Yb, zb, Ib, q3, q4, rfl⟩
      · have hmm := mem_mm Ib.new.ok
        rw [Ib.em] at hmm
        refine cl hmm ?_
        clear hmm
        rintro _ _ ⟨rfl, rfl⟩
        have hst := steps_c Ib.new.ok.mem
        rw [Ib.k_] at hst
        rw [Ib.emp]
        rw [Ib.emp] at hst
        refine cl hst ?_
        clear hst
        rintro _ _ ⟨rfl, rfl⟩
        refine val 1 (by rw [IntWalk.i64_in _ (by omega)]; omega) ?_
        obtain ⟨tb, htb, hgb, hfb, hxb⟩ := (Ib).th
        have hthr := thread_mm (Ib).new.ok htb (by rw [(Ib).eT]; exact hT)
        rw [(Ib).em, hgb] at hthr
        refine cl hthr ?_
        rintro _ wb ⟨rfl, hthr⟩
        subst hthr
        obtain ⟨fb2, fo2, fc2, hfvb⟩ := Ib.new.ok.fr_ htb (by rw [hfb]; simp)
        have htop := top_mm Ib.new.ok htb (fs := []) hfb (by simp) hfvb
        rw [hgb] at htop
        refine cl htop ?_
        clear htop
        rintro _ _ ⟨rfl, rfl⟩
        refine ptr_ne ?_
        refine bnq ?_
        refine round_mk [] (n - pc' + 1).toNat rfl rfl ⟨rfl, .inl ⟨Yb, pc', k' + 1, zb, Ib.upd0 (Upd.refl [] _).drew, by omega, q2, by omega, by omega, q3, q4, rfl⟩⟩ (by omega)
      · have hmm := mem_mm Ib.new.ok
        rw [Ib.em] at hmm
        refine cl hmm ?_
        clear hmm
        rintro _ _ ⟨rfl, rfl⟩
        have hst := steps_c Ib.new.ok.mem
        rw [Ib.k_] at hst
        rw [Ib.emp]
        rw [Ib.emp] at hst
        refine cl hst ?_
        clear hst
        rintro _ _ ⟨rfl, rfl⟩
        refine val 0 (by rw [IntWalk.i64_in _ (by omega)]; omega) ?_
        obtain ⟨tb, htb, hgb, hfb, hxb⟩ := (Ib).th
        have hthr := thread_mm (Ib).new.ok htb (by rw [(Ib).eT]; exact hT)
        rw [(Ib).em, hgb] at hthr
        refine cl hthr ?_
        rintro _ wb ⟨rfl, hthr⟩
        subst hthr
        have htop := top_no Ib.new.ok htb hfb
        rw [hgb] at htop
        refine cl htop ?_
        clear htop
        rintro _ _ ⟨rfl, rfl⟩
        refine ptr_ne0 ?_
        refine bnq ?_
        refine round_mk [] 0 rfl rfl ⟨rfl, .inr ⟨Yb, k', zb, Ib, kk0, by omega, q3, by omega, rfl⟩⟩ (by omega)
    · obtain ⟨Y9, k', z', I9, kk0, kk1, zz0, zz1, rfl⟩ := hE
      obtain ⟨t9, ht9, hg9, hf9, hx9⟩ := (I9).th
      have hthr := thread_mm (I9).new.ok ht9 (by rw [(I9).eT]; exact hT)
      rw [(I9).em, hg9] at hthr
      refine cl hthr ?_
      rintro _ w9 ⟨rfl, hthr⟩
      subst hthr
      have htop := top_no I9.new.ok ht9 hf9
      rw [hg9] at htop
      refine cl htop ?_
      clear htop
      rintro _ _ ⟨rfl, rfl⟩
      refine ptr_ne0 ?_
      obtain ⟨ta, hta, hga, hfa, hxa⟩ := (I9).th
      have hthr := thread_mm (I9).new.ok hta (by rw [(I9).eT]; exact hT)
      rw [(I9).em, hga] at hthr
      refine cl hthr ?_
      rintro _ w9 ⟨rfl, hthr⟩
      subst hthr
      have hret : t9.r.1 = (n : Int) := hx9 _ rfl
      have hcb := (I9.new.ok.core ht9).blk
      rw [hg9] at hcb
      refine fa ?_
      refine ixA 0 rfl (by omega) ?_
      refine ld (v := .int .u64 (n : Int)) (by rw [hcb.cell, ← hret]; rfl) ?_
      refine cv ?_
      refine arU (by omega) ?_
      refine cN (fun h => h rfl) ?_
      refine ar64 (by omega) ?_
      refine round_mk [.int .i64 ((j + 1 : Nat) : Int)] (waits.length - (j + 1)) rfl rfl ⟨j + 1, Y9, _, k', z', rfl, by omega, rfl, I9, kk0, by omega, zz0, by omega⟩ (by omega)
  refine ld (v := .int .i64 z) (I.ca.b.cell 0) ?_
  refine fa ?_
  refine ldb I.bo.b (v := .int .i64 T) rfl ?_
  have out : (i ≥ T ∨ i < 0) → Fn Try.prog 47 #[ptrV m, .int .i64 i, .func (.func 44) #[] #[.pointer (some ⟨gc, 0, none⟩)]] w6 fun r w' => r = .bool false ∧ w' = w6 := fun ho => by
    have := step_no (r := .func (.func 44) #[] #[.pointer (some ⟨gc, 0, none⟩)]) I.new.ok (i := i) (by rw [I.eT]; omega)
    rw [I.em] at this
    exact this
  have last : (i ≥ T ∨ i < 0) → ∀ w', Upd [] w6 w' → Fn Try.prog 15 #[] w' fun r w'' => r = .bool true ∧ Upd [] w6 w'' := fun _ w' hu => (lives16 w').mono fun _ _ ⟨u, he, h1, h2⟩ => ⟨u, he, h1, hu.trans h2⟩
  by_cases hi1 : i ≥ T
  · refine cY hi1 ?_
    refine cl (out (.inl hi1)) ?_
    rintro _ _ ⟨rfl, rfl⟩
    refine ld (v := .int .i64 z) (I.ca.b.cell 0) ?_
    refine cY rfl ?_
    refine cl (step_none _ 0 _) ?_
    rintro _ _ ⟨rfl, rfl⟩
    refine cl (fault_none _) ?_
    rintro _ _ ⟨rfl, rfl⟩
    refine cl (load_none _ 0) ?_
    rintro _ w7 ⟨rfl, hu7⟩
    refine cl (lives16 _) ?_
    rintro _ wx ⟨rfl, hux⟩
    exact ⟨rfl, (I.new.up.trans hu7).trans hux⟩
  refine cN hi1 ?_
  by_cases hi0 : i < 0
  · refine cY hi0 ?_
    refine cl (out (.inr hi0)) ?_
    rintro _ _ ⟨rfl, rfl⟩
    refine ld (v := .int .i64 z) (I.ca.b.cell 0) ?_
    refine cY rfl ?_
    refine cl (step_none _ 0 _) ?_
    rintro _ _ ⟨rfl, rfl⟩
    refine cl (fault_none _) ?_
    rintro _ _ ⟨rfl, rfl⟩
    refine cl (load_none _ 0) ?_
    rintro _ w7 ⟨rfl, hu7⟩
    refine cl (lives16 _) ?_
    rintro _ wx ⟨rfl, hux⟩
    exact ⟨rfl, (I.new.up.trans hu7).trans hux⟩
  refine cN hi0 ?_
  obtain ⟨t6, ht6, hg6, hf6, -⟩ := I.th
  have hsn := step_nil I.new.ok ht6 (by rw [I.eT]; exact hT)
  rw [I.em] at hsn
  refine cl hsn ?_
  rintro _ _ ⟨rfl, rfl⟩
  by_cases hiz : i = 0
  · refine cY hiz ?_
    refine cl (lives16 _) ?_
    rintro _ wx ⟨rfl, hux⟩
    exact ⟨rfl, (I.new.up).trans hux⟩
  · refine cN hiz ?_
    obtain ⟨ii, rfl⟩ := Int.eq_ofNat_of_zero_le (show 0 ≤ i by omega)
    have hil : ii < Y.ths.length := by rw [I.eT]; omega
    have hti : Y.ths[ii]? = some (Y.ths[ii]'hil) := List.getElem?_eq_getElem hil
    have hthr := thread_mm I.new.ok hti (by rw [I.eT]; exact hT)
    rw [I.em] at hthr
    refine cl hthr ?_
    rintro _ _ ⟨rfl, rfl⟩
    refine cl (top_no I.new.ok hti (I.ot ii _ hti (by omega))) ?_
    rintro _ _ ⟨rfl, rfl⟩
    refine ptr_eq0 ?_
    refine cl (lives16 _) ?_
    rintro _ wx ⟨rfl, hux⟩
    exact ⟨rfl, (I.new.up).trans hux⟩
theorem CoreOnce_walk (w : World) (l : List Int) (wl : Fits [.i64, .i64, .i64, .i64, .i64, .i64, .i64] l) (v1 : Value) (l1 : List (List Int)) (h1 : SlRows w w.heap.size [.i64] v1 l1) (i : Int) (wi : (Lit.int .i64 i).wf = true) :
    Calls Try.prog 6 #[.agg (mkInts [.i64, .i64, .i64, .i64, .i64, .i64, .i64] l).toArray, v1, .int .i64 i] w fun e w' => e = .returned (.bool true) ∧ Below w.heap.size w w' := by
  obtain ⟨⟨A, T, N, L, B, P, S⟩, rfl⟩ := cf_of wl
  exact (once_law (c := ⟨A, T, N, L, B, P, S⟩) i (RdK.of_ints h1.ints (Nat.le_refl _))).mono fun _ _ ⟨_, he, hv, hu⟩ => ⟨by rw [he, hv], hu.below⟩
end Go.Proofs.Ytdomclcokkijjaa

/- The reference's steps of memory. -/
namespace Go.Proofs.Ytdomclcokkijjaa
open Go.RowKit
attribute [local irreducible] Instr.loadAt Instr.storeAt Instr.fieldAt Instr.indexAt Instr.sliceAt Instr.buildSlice Instr.box Instr.alloc Builtin.append_ Builtin.len_ Builtin.min_ Builtin.max_ Calls Instr.build Instr.makeSlice binSem convert Instr.index Instr.range Instr.next
structure Op7 where
  (K A B O N P Q : Int)
def o7 (o : Op7) : Array Value := #[.int .i64 o.K, .int .i64 o.A, .int .i64 o.B, .int .u64 o.O, .int .u64 o.N, .int .u64 o.P, .int .u64 o.Q]
def at_ (W : List Int) (a : Int) : Int := W.getD a.toNat 0
def set_ (W : List Int) (a x : Int) : List Int := W.set a.toNat x
def inW (n : Nat) (a : Int) : Prop := 0 ≤ a ∧ a < n
instance (n : Nat) (a : Int) : Decidable (inW n a) := inferInstanceAs (Decidable (_ ∧ _))
def rightO (o : Op7) (n : Nat) : Prop := (0 ≤ o.K ∧ o.K ≤ 5) ∧ inW n o.A ∧ (o.K < 4 ∨ (inW n o.B ∧ (o.K = 5 ∨ o.A ≠ o.B)))
instance (o : Op7) (n : Nat) : Decidable (rightO o n) := inferInstanceAs (Decidable (_ ∧ _))
/-- a step that may be: the words behind it, what it tells, whether something was written -/
def eff (o : Op7) (W : List Int) : List Int × Int × Bool :=
  if o.K = 0 then (W, at_ W o.A, false)
  else if o.K = 1 then (set_ W o.A o.N, 0, true)
  else if o.K = 2 then (if at_ W o.A = o.O then set_ W o.A o.N else W, 0, at_ W o.A == o.O)
  else if o.K = 3 then (set_ W o.A (IntKind.u64.wrap (at_ W o.A + o.N)), at_ W o.A, true)
  else if at_ W o.A = o.O ∧ at_ W o.B = o.P then (if o.K = 4 then set_ (set_ W o.A o.N) o.B o.Q else set_ W o.A o.N, 0, true)
  else (W, 0, false)
theorem eff_length (o : Op7) (W : List Int) : (eff o W).1.length = W.length := by
  unfold eff set_
  repeat' split
  all_goals simp
theorem right_law (o : Op7) (n : Nat) (w : World) : Fn Try.prog 50 #[.agg (o7 o), .int .i64 n] w fun r w' => r = .bool (decide (rightO o n)) ∧ Upd [] w w' := by
  obtain ⟨K, A, B, O, N, P, Q⟩ := o
  have hR : rightO ⟨K, A, B, O, N, P, Q⟩ n ↔ (0 ≤ K ∧ K ≤ 5) ∧ (0 ≤ A ∧ A < n) ∧ (K < 4 ∨ ((0 ≤ B ∧ B < n) ∧ (K = 5 ∨ A ≠ B))) := Iff.rfl
  have hb : ∀ b : Bool, (b = true ↔ rightO ⟨K, A, B, O, N, P, Q⟩ n) → b = decide (rightO ⟨K, A, B, O, N, P, Q⟩ n) := fun b hb => by rw [Bool.eq_iff_iff, hb]; simp
  refine fn_enter Try.func50 rfl rfl ?_
  refine bx fun w1 hb1 hu1 hs1 => ?_
  repeat (first | refine fa ?_ | refine ldb hb1 rfl ?_)
  refine cd (fun c1 => ⟨congrArg Value.bool (hb false (by dsimp only at *; simp [hR]; omega)), hu1⟩) (fun c1 => ?_)
  repeat (first | refine fa ?_ | refine ldb hb1 rfl ?_)
  refine cd (fun c2 => ⟨congrArg Value.bool (hb false (by dsimp only at *; simp [hR]; omega)), hu1⟩) (fun c2 => ?_)
  repeat (first | refine fa ?_ | refine ldb hb1 rfl ?_)
  refine cd (fun c3 => ⟨congrArg Value.bool (hb false (by dsimp only at *; simp [hR]; omega)), hu1⟩) (fun c3 => ?_)
  repeat (first | refine fa ?_ | refine ldb hb1 rfl ?_)
  refine cd (fun c4 => ⟨congrArg Value.bool (hb false (by dsimp only at *; simp [hR]; omega)), hu1⟩) (fun c4 => ?_)
  repeat (first | refine fa ?_ | refine ldb hb1 rfl ?_)
  refine cd (fun c5 => ⟨congrArg Value.bool (hb true (by dsimp only at *; simp [hR]; omega)), hu1⟩) (fun c5 => ?_)
  repeat (first | refine fa ?_ | refine ldb hb1 rfl ?_)
  refine cd (fun c6 => ?_) (fun c6 => ⟨congrArg Value.bool (hb false (by dsimp only at *; simp [hR]; omega)), hu1⟩)
  repeat (first | refine fa ?_ | refine ldb hb1 rfl ?_)
  refine cd (fun c7 => ?_) (fun c7 => ⟨congrArg Value.bool (hb false (by dsimp only at *; simp [hR]; omega)), hu1⟩)
  repeat (first | refine fa ?_ | refine ldb hb1 rfl ?_)
  refine cd (fun c8 => ⟨congrArg Value.bool (hb true (by dsimp only at *; simp [hR]; omega)), hu1⟩) (fun c8 => ?_)
  repeat (first | refine fa ?_ | refine ldb hb1 rfl ?_)
  refine ⟨congrArg Value.bool (hb _ ?_), hu1⟩
  dsimp only at *; simp [hR]; omega

theorem inW_ix {n : Nat} {a : Int} (h : inW n a) : a = (a.toNat : Int) ∧ a.toNat < n := by unfold inW at h; omega
def DoPost (w : World) (n : Nat) (W' : List Int) (u : Int) (d : Bool) (r : Value) (w' : World) : Prop :=
  ∃ rv, r = .tuple #[rv, .int .u64 u, .bool d] ∧ Sl w' 27 1 rv n (W'.map (Value.int .u64)) ∧ Upd [] w w' ∧ ∀ g, rv.ownBlock = some g → w.heap.size ≤ g
theorem Sl.put {w : World} {v : Value} {n j : Nat} {W : List Int} {x : Int} (h : Sl w 27 1 v n ((W.map (Value.int .u64)).set j (.int .u64 x))) : Sl w 27 1 v n ((W.set j x).map (Value.int .u64)) := by rw [List.map_set]; exact h
theorem doref_c {w : World} {v : Value} {W : List Int} (hs : Sl w 27 1 v W.length (W.map (Value.int .u64))) (o : Op7) (ho : rightO o W.length) (hn : W.length < 4294967296) :
    Fn Try.prog 51 #[v, .agg (o7 o)] w fun r w' => DoPost w W.length (eff o W).1 (eff o W).2.1 (eff o W).2.2 r w' := by
  obtain ⟨K, A, B, O, N, P, Q⟩ := o
  obtain ⟨hK, hA, hB⟩ := ho
  dsimp only at hK hA hB
  obtain ⟨e1, e2⟩ := inW_ix hA
  obtain ⟨gv, ov, cv, rfl, -⟩ := hs.some_ (by omega)
  refine fn_enter Try.func51 rfl rfl ?_
  refine bx fun w1 hb1 hu1 hs1 => ?_
  have hs1 := hs.upd hu1 (by simp)
  refine apr (W.map (Value.int .u64)) (Sl.nil_ w1 27 1) (by simp) (fun j u hu => ?_) (by simp only [List.mem_map]; rintro u ⟨x, -, rfl⟩; rfl) (by omega) (by simp [maxLen]; omega) (by omega) fun g off cap w2 hs2 hu2 hg => ?_
  · have hj : j < W.length := by
      rcases Nat.lt_or_ge j W.length with h | h
      · exact h
      · rw [List.getElem?_eq_none (by simpa using h)] at hu; cases hu
    rw [(hs1.cells rfl j (by omega)).1, hu]
  have hb2 := hb1.upd hu2 (by simp [Value.ownBlock])
  have hu02 : Upd [] w w2 := hu1.step hu2 (by simp [Value.ownBlock])
  rw [Nat.zero_add, List.nil_append] at hs2
  have hfr : w.heap.size ≤ g := by
    have := hu1.size
    rcases hg with h | rfl
    · cases h
    · omega
  have hgb : w.heap.size ≠ g := by
    rcases hg with h | rfl
    · cases h
    · have := hb1.lt; omega
  rw [Nat.zero_add]
  repeat (first | refine fa ?_ | refine ldb hb2 rfl ?_)
  refine ix A.toNat e1 e2 ?_
  refine ld (hs2.getD_ rfl A.toNat e2) ?_
  repeat (first | refine fa ?_ | refine ldb hb2 rfl ?_)
  have done : ∀ {w3 : World} {W' : List Int} {u : Int} {d : Bool}, Sl w3 27 1 (.slice (some ⟨g, off, none⟩) W.length cap) W.length (W'.map (Value.int .u64)) → Upd [] w w3 → DoPost w W.length W' u d (.tuple #[.slice (some ⟨g, off, none⟩) W.length cap, .int .u64 u, .bool d]) w3 :=
    fun h1 h2 => ⟨_, rfl, h1, h2, fun q hq => by simp only [Value.ownBlock, Option.some.injEq] at hq; omega⟩
  rcases (show K = 0 ∨ K = 1 ∨ K = 2 ∨ K = 3 ∨ K = 4 ∨ K = 5 by omega) with rfl | rfl | rfl | rfl | rfl | rfl
  · exact done hs2 hu02
  · repeat (first | refine fa ?_ | refine ldb hb2 rfl ?_)
    refine ix A.toNat e1 e2 ?_
    refine stS hs2 rfl e2 rfl fun w3 hs3 hu3 hz3 => ?_
    exact done (W' := W.set A.toNat N) hs3.put (hu02.step hu3 (by simpa using hfr))
  · repeat (first | refine fa ?_ | refine ldb hb2 rfl ?_)
    have hv : at_ W A = W.getD A.toNat 0 := rfl
    refine cd (fun he => ?_) (fun he => ?_)
    · repeat (first | refine fa ?_ | refine ldb hb2 rfl ?_)
      refine ix A.toNat e1 e2 ?_
      refine stS hs2 rfl e2 rfl fun w3 hs3 hu3 hz3 => ?_
      have hb3 := hb2.upd hu3 (by simpa using hgb)
      have hE : eff ⟨2, A, B, O, N, P, Q⟩ W = (W.set A.toNat N, 0, W.getD A.toNat 0 == O) := by simp only [eff, hv]; rw [if_pos he]; rfl
      rw [hE]
      refine draw_all (fun w' => w' = w3.drew) (by decide +kernel) rfl ?_
      refine q_fa ?_
      refine q_ld (v := .int .u64 O) (by rintro _ rfl; exact hb3.cell 3) ?_
      rintro _ rfl
      exact done (W' := W.set A.toNat N) hs3.put.drew (hu02.step hu3 (by simpa using hfr)).drew
    · have hE : eff ⟨2, A, B, O, N, P, Q⟩ W = (W, 0, W.getD A.toNat 0 == O) := by simp only [eff, hv]; rw [if_neg he]; rfl
      rw [hE]
      refine draw_all (fun w' => w' = w2.drew) (by decide +kernel) rfl ?_
      refine q_fa ?_
      refine q_ld (v := .int .u64 O) (by rintro _ rfl; exact hb2.cell 3) ?_
      rintro _ rfl
      exact done (W' := W) hs2.drew hu02.drew
  · repeat (first | refine fa ?_ | refine ldb hb2 rfl ?_)
    refine val _ rfl ?_
    refine ix A.toNat e1 e2 ?_
    refine stS hs2 rfl e2 rfl fun w3 hs3 hu3 hz3 => ?_
    exact done (W' := W.set A.toNat (IntKind.u64.wrap (W.getD A.toNat 0 + N))) hs3.put (hu02.step hu3 (by simpa using hfr))
  all_goals
    obtain ⟨f1, f2⟩ := inW_ix (show inW W.length B by rcases hB with h | h; omega; exact h.1)
    have hva : at_ W A = W.getD A.toNat 0 := rfl
    have hvb : at_ W B = W.getD B.toNat 0 := rfl
    refine draw_all (fun w' => w' = w2.drew) (by decide +kernel) rfl ?_
    refine q_fa ?_
    refine q_ld (v := .int .u64 O) (by rintro _ rfl; exact hb2.cell 3) ?_
    refine cd (fun he => ?_) (fun he => ?_)
  · refine q_fa ?_
    refine q_ld (v := .int .i64 B) (by rintro _ rfl; exact hb2.cell 2) ?_
    refine q_ix B.toNat f1 f2 ?_
    refine q_ld (v := .int .u64 (W.getD B.toNat 0)) (by rintro _ rfl; exact hs2.getD_ rfl B.toNat f2) ?_
    refine q_fa ?_
    refine q_ld (v := .int .u64 P) (by rintro _ rfl; exact hb2.cell 5) ?_
    rintro _ rfl
    refine cd (fun he2 => ?_) (fun he2 => ?_)
    · have hE : eff ⟨4, A, B, O, N, P, Q⟩ W = ((W.set A.toNat N).set B.toNat Q, 0, W.getD B.toNat 0 == P) := by
        have hc : at_ W A = O ∧ at_ W B = P := ⟨he, he2⟩
        have hb : (W.getD B.toNat 0 == P) = true := beq_iff_eq.2 he2
        rw [hb]
        simp [eff, hc, set_]
      rw [hE]
      have hb2' := hb2.drew
      repeat (first | refine fa ?_ | refine ldb hb2' rfl ?_)
      refine ix A.toNat e1 e2 ?_
      refine stS hs2.drew rfl e2 rfl fun w3 hs3 hu3 hz3 => ?_
      have hb3 := hb2'.upd hu3 (by simpa using hgb)
      repeat (first | refine fa ?_ | refine ldb hb3 rfl ?_)
      refine ix B.toNat f1 f2 ?_
      refine stS hs3 rfl f2 rfl fun w4 hs4 hu4 hz4 => ?_
      exact done (W' := (W.set A.toNat N).set B.toNat Q) (by rw [List.map_set, List.map_set]; exact hs4) ((hu02.drew.step hu3 (by simpa using hfr)).step hu4 (by simpa using hfr))
    · have hE : eff ⟨4, A, B, O, N, P, Q⟩ W = (W, 0, W.getD B.toNat 0 == P) := by
        have hc : ¬ (at_ W A = O ∧ at_ W B = P) := fun h => he2 h.2
        have hb : (W.getD B.toNat 0 == P) = false := beq_eq_false_iff_ne.2 he2
        rw [hb]
        simp [eff, hc]
      rw [hE]
      exact done (W' := W) hs2.drew hu02.drew
  · rintro _ rfl
    have hE : eff ⟨4, A, B, O, N, P, Q⟩ W = (W, 0, false) := by
      have hc : ¬ (at_ W A = O ∧ at_ W B = P) := fun h => he h.1
      simp [eff, hc]
    rw [hE]
    exact done (W' := W) hs2.drew hu02.drew
  · refine q_fa ?_
    refine q_ld (v := .int .i64 B) (by rintro _ rfl; exact hb2.cell 2) ?_
    refine q_ix B.toNat f1 f2 ?_
    refine q_ld (v := .int .u64 (W.getD B.toNat 0)) (by rintro _ rfl; exact hs2.getD_ rfl B.toNat f2) ?_
    refine q_fa ?_
    refine q_ld (v := .int .u64 P) (by rintro _ rfl; exact hb2.cell 5) ?_
    rintro _ rfl
    refine cd (fun he2 => ?_) (fun he2 => ?_)
    · have hE : eff ⟨5, A, B, O, N, P, Q⟩ W = (W.set A.toNat N, 0, W.getD B.toNat 0 == P) := by
        have hc : at_ W A = O ∧ at_ W B = P := ⟨he, he2⟩
        have hb : (W.getD B.toNat 0 == P) = true := beq_iff_eq.2 he2
        rw [hb]
        simp [eff, hc, set_]
      rw [hE]
      have hb2' := hb2.drew
      repeat (first | refine fa ?_ | refine ldb hb2' rfl ?_)
      refine ix A.toNat e1 e2 ?_
      refine stS hs2.drew rfl e2 rfl fun w3 hs3 hu3 hz3 => ?_
      have hb3 := hb2'.upd hu3 (by simpa using hgb)
      repeat (first | refine fa ?_ | refine ldb hb3 rfl ?_)
      exact done (W' := W.set A.toNat N) hs3.put (hu02.drew.step hu3 (by simpa using hfr))
    · have hE : eff ⟨5, A, B, O, N, P, Q⟩ W = (W, 0, W.getD B.toNat 0 == P) := by
        have hc : ¬ (at_ W A = O ∧ at_ W B = P) := fun h => he2 h.2
        have hb : (W.getD B.toNat 0 == P) = false := beq_eq_false_iff_ne.2 he2
        rw [hb]
        simp [eff, hc]
      rw [hE]
      exact done (W' := W) hs2.drew hu02.drew
  · rintro _ rfl
    have hE : eff ⟨5, A, B, O, N, P, Q⟩ W = (W, 0, false) := by
      have hc : ¬ (at_ W A = O ∧ at_ W B = P) := fun h => he h.1
      simp [eff, hc]
    rw [hE]
    exact done (W' := W) hs2.drew hu02.drew

def o7l (o : Op7) : List Value := [.int .i64 o.K, .int .i64 o.A, .int .i64 o.B, .int .u64 o.O, .int .u64 o.N, .int .u64 o.P, .int .u64 o.Q]
def opOf (l : List Int) : Op7 := ⟨l.getD 0 0, l.getD 1 0, l.getD 2 0, l.getD 3 0, l.getD 4 0, l.getD 5 0, l.getD 6 0⟩
abbrev opKs : List IntKind := [.i64, .i64, .i64, .u64, .u64, .u64, .u64]
theorem op_at {w : World} {b o : Nat} {l : List Int} (h : ∀ j, j < 7 → w.cell? ⟨b, o + j, none⟩ = some (.int (opKs.getD j .i64) (l.getD j 0))) : ∀ j v, (o7l (opOf l))[j]? = some v → w.cell? ⟨b, o + j, none⟩ = some v := by
  intro j v hv
  have hj : j < 7 := by
    rcases Nat.lt_or_ge j 7 with h | h
    · exact h
    · rw [List.getElem?_eq_none (by simpa [o7l] using h)] at hv; cases hv
  rw [h j hj]
  rcases (show j = 0 ∨ j = 1 ∨ j = 2 ∨ j = 3 ∨ j = 4 ∨ j = 5 ∨ j = 6 by omega) with rfl | rfl | rfl | rfl | rfl | rfl | rfl <;> exact hv

end Go.Proofs.Ytdomclcokkijjaa

/- A step of memory, as the law asks for it. -/
namespace Go.Proofs.Ytdomclcokkijjaa
open Go.RowKit
attribute [local irreducible] Instr.loadAt Instr.storeAt Instr.fieldAt Instr.indexAt Instr.sliceAt Instr.buildSlice Instr.box Instr.alloc Builtin.append_ Builtin.len_ Builtin.min_ Builtin.max_ Calls Instr.build Instr.makeSlice binSem convert Instr.index Instr.range Instr.next
structure DoR (X X' : Mc) (o : Op7) (u : Int) (d : Bool) : Prop where
  m : X'.m = X.m
  c : X'.c = X.c
  mp : X'.mp = X.mp
  ths : X'.ths = X.ths
  gs : X'.gs = tchs X.c X.gs (if o.K < 4 then [o.A] else [o.A, o.B])
  q : ∀ b, Quiet X.s b → Quiet X'.s (b + 1)
  yes : rightO o X.s.W.length → X'.s.W = (eff o X.s.W).1 ∧ u = (eff o X.s.W).2.1 ∧ (o.K > 1 → o.K ≠ 3 → d = (eff o X.s.W).2.2) ∧ X'.bad = X.bad
  no : ¬ rightO o X.s.W.length → X'.s.W = X.s.W ∧ X'.bad = true
theorem Quiet.tick {s : MS} {b : Int} (h : Quiet s b) (W : List Int) (x : Acc) : Quiet (tick { s with W := W } x) (b + 1) := by
  have h0 := h.k0; have h1 := h.k1
  refine ⟨?_, ?_, h.on, ?_⟩
  · show 0 ≤ s.k + 1; omega
  · show s.k + 1 ≤ b + 1; omega
  · show (if s.on then s.L ++ _ else s.L) = []
    rw [h.on]; exact h.L
theorem at_rd (s : MS) (a : Int) : at_ s.W a = rd s a := rfl
section
variable {s : MS} {o : Op7}
theorem not_bad (b : Bool) {p : Prop} [Decidable p] (h : p) : (b || !decide p) = b := by rw [decide_eq_true h]; simp
theorem is_bad (b : Bool) {p : Prop} [Decidable p] (h : ¬ p) : (b || !decide p) = true := by rw [decide_eq_false h]; simp
end
set_option maxRecDepth 10000 in
theorem do_m {w : World} {X : Mc} (h : Mach w X) (hr : rightC X.c) (ht : (gtags X.gs).length ≤ 64) (hq : Roomy X.s) (o : Op7) (hK : 0 ≤ o.K ∧ o.K ≤ 5) : Fn Try.prog 49 #[ptrV X.m, .agg (o7 o)] w fun r w' =>
    ∃ u d X', r = .tuple #[.int .u64 u, .bool d] ∧ Post w X w' X' ∧ DoR X X' o u d := by
  obtain ⟨K, A, B, O, N, P, Q⟩ := o
  dsimp only at hK
  refine fn_enter Try.func49 rfl rfl ?_
  refine bx fun w1 hb1 hu1 hs1 => ?_
  have hb1 : Blk w1 w.heap.size 82 (o7 ⟨K, A, B, O, N, P, Q⟩) := hb1
  have h1 := h.upd0 hu1
  have p1 : Post w X w1 X := .of0 h hu1
  refine fa ?_
  refine ldb hb1 rfl ?_
  rcases (show K = 0 ∨ K = 1 ∨ K = 2 ∨ K = 3 ∨ K = 4 ∨ K = 5 by omega) with rfl | rfl | rfl | rfl | rfl | rfl
  · repeat (first | refine fa ?_ | refine ldb hb1 rfl ?_)
    refine cl (load_m h1 hr ht hq A) ?_
    rintro _ w2 ⟨rfl, lv, p2⟩
    have hR : rightO ⟨0, A, B, O, N, P, Q⟩ X.s.W.length ↔ okA X.s A := by unfold rightO inW okA; simp
    refine ⟨_, _, _, rfl, p1.trans p2, rfl, rfl, rfl, rfl, (by rw [if_pos (by show (0 : Int) < 4; decide)]; rfl), fun b hb => ?_, fun hy => ?_, fun hn => ?_⟩
    · show Quiet (ldS X.s A) (b + 1)
      unfold ldS
      split
      · exact hb.tick X.s.W _
      · exact hb.up (by omega)
    · have ha := hR.1 hy
      refine ⟨?_, ?_, fun h => absurd h (by show ¬ (0 : Int) > 1; decide), not_bad _ ha⟩
      · show (ldS X.s A).W = _
        unfold ldS
        rw [if_pos ha]; rfl
      · unfold ldV
        rw [if_pos ha]; rfl
    · have ha := fun h => hn (hR.2 h)
      refine ⟨?_, is_bad _ ha⟩
      show (ldS X.s A).W = _
      unfold ldS
      rw [if_neg ha]
  · repeat (first | refine fa ?_ | refine ldb hb1 rfl ?_)
    refine cl (store_mm h1 hr ht hq A N) ?_
    rintro _ w2 ⟨lv, p2⟩
    have hR : rightO ⟨1, A, B, O, N, P, Q⟩ X.s.W.length ↔ okA X.s A := by unfold rightO inW okA; simp
    refine ⟨_, _, _, rfl, p1.trans p2, rfl, rfl, rfl, rfl, (by rw [if_pos (by show (1 : Int) < 4; decide)]; rfl), fun b hb => hb.st A N, fun hy => ?_, fun hn => ?_⟩
    · have ha := hR.1 hy
      refine ⟨?_, rfl, fun h => absurd h (by show ¬ (1 : Int) > 1; decide), not_bad _ ha⟩
      show (stM X.s A N).W = _
      rw [stM_def, if_pos ha]; rfl
    · have ha := fun h => hn (hR.2 h)
      refine ⟨?_, is_bad _ ha⟩
      show (stM X.s A N).W = _
      rw [stM_def, if_neg ha]
  · repeat (first | refine fa ?_ | refine ldb hb1 rfl ?_)
    refine cl (cas_m h1 hr ht hq A O N) ?_
    rintro _ w2 ⟨rfl, lv, p2⟩
    have hR : rightO ⟨2, A, B, O, N, P, Q⟩ X.s.W.length ↔ okA X.s A := by unfold rightO inW okA; simp
    refine ⟨_, _, _, rfl, p1.trans p2, rfl, rfl, rfl, rfl, (by rw [if_pos (by show (2 : Int) < 4; decide)]; rfl), fun b hb => ?_, fun hy => ?_, fun hn => ?_⟩
    · show Quiet (casS X.s A O N) (b + 1)
      unfold casS
      split
      · split
        · exact hb.tick _ _
        · exact hb.tick X.s.W _
      · exact hb.up (by omega)
    · have ha := hR.1 hy
      refine ⟨?_, rfl, fun _ _ => ?_, not_bad _ ha⟩
      · show (casS X.s A O N).W = (if at_ X.s.W A = O then set_ X.s.W A N else X.s.W)
        unfold casS
        rw [if_pos ha, at_rd]
        split <;> rfl
      · show casV X.s A O = (at_ X.s.W A == O)
        unfold casV
        rw [at_rd]
        by_cases h1 : rd X.s A = O
        · rw [decide_eq_true ⟨ha, h1⟩]; simp [h1]
        · rw [decide_eq_false (fun hh => h1 hh.2)]; simp [h1]
    · have ha := fun h => hn (hR.2 h)
      refine ⟨?_, is_bad _ ha⟩
      show (casS X.s A O N).W = _
      unfold casS
      rw [if_neg ha]
  · repeat (first | refine fa ?_ | refine ldb hb1 rfl ?_)
    refine cl (add_m h1 hr ht hq A N) ?_
    rintro _ w2 ⟨rfl, lv, p2⟩
    have hR : rightO ⟨3, A, B, O, N, P, Q⟩ X.s.W.length ↔ okA X.s A := by unfold rightO inW okA; simp
    refine ⟨_, _, _, rfl, p1.trans p2, rfl, rfl, rfl, rfl, (by rw [if_pos (by show (3 : Int) < 4; decide)]; rfl), fun b hb => ?_, fun hy => ?_, fun hn => ?_⟩
    · show Quiet (addS X.s A N) (b + 1)
      unfold addS
      split
      · exact hb.tick _ _
      · exact hb.up (by omega)
    · have ha := hR.1 hy
      refine ⟨?_, ?_, fun _ h => absurd rfl h, not_bad _ ha⟩
      · show (addS X.s A N).W = _
        unfold addS
        rw [if_pos ha]; rfl
      · unfold ldV
        rw [if_pos ha]; rfl
    · have ha := fun h => hn (hR.2 h)
      refine ⟨?_, is_bad _ ha⟩
      show (addS X.s A N).W = _
      unfold addS
      rw [if_neg ha]
  · repeat (first | refine fa ?_ | refine ldb hb1 rfl ?_)
    refine cl (dcas_m h1 hr ht hq A O N B P Q) ?_
    rintro _ w2 ⟨rfl, lv, p2⟩
    have hR : rightO ⟨4, A, B, O, N, P, Q⟩ X.s.W.length ↔ ok2 X.s A B := by unfold rightO ok2 inW okA; simp [and_assoc]
    refine ⟨_, _, _, rfl, p1.trans p2, rfl, rfl, rfl, rfl, (by rw [if_neg (by show ¬ (4 : Int) < 4; decide)]), fun b hb => ?_, fun hy => ?_, fun hn => ?_⟩
    · show Quiet (dcasS X.s A O N B P Q) (b + 1)
      unfold dcasS
      split
      · split
        · exact hb.tick _ _
        · exact hb.tick X.s.W _
      · exact hb.up (by omega)
    · have ha := hR.1 hy
      have he : eff ⟨4, A, B, O, N, P, Q⟩ X.s.W = if both X.s A O B P then (set_ (set_ X.s.W A N) B Q, 0, true) else (X.s.W, 0, false) := by
        by_cases hb : both X.s A O B P
        · rw [if_pos hb]
          have hb' : at_ X.s.W A = O ∧ at_ X.s.W B = P := hb
          simp [eff, hb']
        · rw [if_neg hb]
          have hb' : ¬ (at_ X.s.W A = O ∧ at_ X.s.W B = P) := hb
          simp [eff, hb']
      rw [he]
      refine ⟨?_, ?_, fun _ _ => ?_, not_bad _ ha⟩
      · show (dcasS X.s A O N B P Q).W = _
        unfold dcasS
        rw [if_pos ha]
        split <;> rfl
      · split <;> rfl
      · by_cases hb : both X.s A O B P
        · rw [if_pos hb, decide_eq_true ⟨ha, hb⟩]
        · rw [if_neg hb, decide_eq_false (fun hh => hb hh.2)]
    · have ha := fun h => hn (hR.2 h)
      refine ⟨?_, is_bad _ ha⟩
      show (dcasS X.s A O N B P Q).W = _
      unfold dcasS
      rw [if_neg ha]
  · repeat (first | refine fa ?_ | refine ldb hb1 rfl ?_)
    refine cl (dcss_m h1 hr ht hq A O N B P) ?_
    rintro _ w2 ⟨rfl, lv, p2⟩
    have hR : rightO ⟨5, A, B, O, N, P, Q⟩ X.s.W.length ↔ (okA X.s A ∧ okA X.s B) := by unfold rightO inW okA; simp
    refine ⟨_, _, _, rfl, p1.trans p2, rfl, rfl, rfl, rfl, (by rw [if_neg (by show ¬ (5 : Int) < 4; decide)]), fun b hb => ?_, fun hy => ?_, fun hn => ?_⟩
    · show Quiet (dcssS X.s A O N B P) (b + 1)
      unfold dcssS
      split
      · split
        · exact hb.tick _ _
        · exact hb.tick X.s.W _
      · exact hb.up (by omega)
    · have ha := hR.1 hy
      have he : eff ⟨5, A, B, O, N, P, Q⟩ X.s.W = if both X.s A O B P then (set_ X.s.W A N, 0, true) else (X.s.W, 0, false) := by
        by_cases hb : both X.s A O B P
        · rw [if_pos hb]
          have hb' : at_ X.s.W A = O ∧ at_ X.s.W B = P := hb
          simp [eff, hb']
        · rw [if_neg hb]
          have hb' : ¬ (at_ X.s.W A = O ∧ at_ X.s.W B = P) := hb
          simp [eff, hb']
      rw [he]
      refine ⟨?_, ?_, fun _ _ => ?_, not_bad _ ha⟩
      · show (dcssS X.s A O N B P).W = _
        unfold dcssS
        rw [if_pos ha]
        split <;> rfl
      · split <;> rfl
      · by_cases hb : both X.s A O B P
        · rw [if_pos hb, decide_eq_true ⟨ha, hb⟩]
        · rw [if_neg hb, decide_eq_false (fun hh => hb hh.2)]
    · have ha := fun h => hn (hR.2 h)
      refine ⟨?_, is_bad _ ha⟩
      show (dcssS X.s A O N B P).W = _
      unfold dcssS
      rw [if_neg ha]
/-! places and faults -/
theorem ne3 {k x y : Int} (hk : k ≠ 3) : ¬ ((k, x, y) : Int × Int × Int).1 = 3 := hk
theorem where_hit {A T N L B P S : Int} (hr : rightC ⟨A, T, N, L, B, P, S⟩) (a : Int) : ((whereP A T N L a).1 = 3 ↔ (0 ≤ a ∧ a < (allP A T N L).length ∧ ((allP A T N L).getD a.toNat (0, 0, 0)).1 = 3)) ∧
    ((whereP A T N L a).1 = 3 → (whereP A T N L a).2.1 = ((allP A T N L).getD a.toNat (0, 0, 0)).2.1 ∧ 1 ≤ (whereP A T N L a).2.1 ∧ (whereP A T N L a).2.1 ≤ N) := by
  obtain ⟨t, n, l, sl, wd, nt, se, U⟩ := nums hr
  have e1 := U.sz_; have e2 := U.lk_; have e3 := U.nd_; have e4 := U.tr_; have e5 := U.wd_; have eN := U.eN
  have q2 := U.b2
  have hlen : (allP A T N L).length = 8 + t * sl + n + n * wd + nt := by rw [allP_len hr, e1]; omega
  unfold whereP
  by_cases h0 : a < 0 ∨ a ≥ sizeP A T N L
  · rw [if_pos h0]
    exact ⟨iff_of_false (ne3 (by decide)) (fun h => by omega), fun h => absurd h (ne3 (by decide))⟩
  rw [if_neg h0]
  obtain ⟨j, rfl⟩ := Int.eq_ofNat_of_zero_le (show 0 ≤ a by omega)
  have hj : j < 8 + t * sl + n + n * wd + nt := by omega
  have hp := cat_at t n sl wd nt j hj
  rw [← U.all_] at hp
  have hg : (allP A T N L).getD ((j : Nat) : Int).toNat (0, 0, 0) = spAt sl wd (8 + t * sl) (8 + t * sl + n) (8 + t * sl + n + n * wd) j := by
    rw [Int.toNat_natCast]
    simp [List.getD, hp]
  rw [hg]
  unfold spAt
  by_cases h1 : j < 8
  · rw [if_pos (by omega), if_pos h1]
    exact ⟨iff_of_false (ne3 (by decide)) (fun h => absurd h.2.2 (ne3 (by decide))), fun h => absurd h (ne3 (by decide))⟩
  rw [if_neg (by omega), if_neg h1]
  by_cases h2 : j < 8 + t * sl
  · rw [if_pos (by omega), if_pos h2]
    exact ⟨iff_of_false (ne3 (by decide)) (fun h => absurd h.2.2 (ne3 (by decide))), fun h => absurd h (ne3 (by decide))⟩
  rw [if_neg (by omega), if_neg h2]
  by_cases h3 : j < 8 + t * sl + n
  · rw [if_pos (by omega), if_pos h3]
    exact ⟨iff_of_false (ne3 (by decide)) (fun h => absurd h.2.2 (ne3 (by decide))), fun h => absurd h (ne3 (by decide))⟩
  rw [if_neg (by omega), if_neg h3]
  by_cases h4 : j < 8 + t * sl + n + n * wd
  · rw [if_pos (by omega), if_pos h4]
    have ed : ((j : Int) - nodesP A T N L).tdiv (widthP A L) = (((j - (8 + t * sl + n)) / wd : Nat) : Int) := by
      rw [e3, e5]
      have : (j : Int) - ((8 + t * sl + n : Nat) : Int) = ((j - (8 + t * sl + n) : Nat) : Int) := by omega
      rw [this, Int.tdiv_eq_ediv_of_nonneg (by omega)]
      rfl
    have hd : (j - (8 + t * sl + n)) / wd < n := by
      rw [Nat.div_lt_iff_lt_mul (by omega)]; omega
    rw [ed]
    generalize (j - (8 + t * sl + n)) / wd = qd at *
    refine ⟨iff_of_true rfl ⟨by omega, by omega, rfl⟩, fun _ => ⟨?_, ?_, ?_⟩⟩
    · show (_ : Int) + 1 = ((_ + 1 : Nat) : Int)
      omega
    · show 1 ≤ (_ : Int) + 1
      omega
    · show (_ : Int) + 1 ≤ N
      omega
  · rw [if_neg (by omega), if_neg h4]
    exact ⟨iff_of_false (ne3 (by decide)) (fun h => absurd h.2.2 (ne3 (by decide))), fun h => absurd h (ne3 (by decide))⟩
def hit (A T N L a : Int) : Bool := decide ((0 ≤ a ∧ a < (allP A T N L).length) ∧ ((allP A T N L).getD a.toNat (0, 0, 0)).1 = 3 ∧ ((allP A T N L).getD a.toNat (0, 0, 0)).2.1 > sentP A)
/-- a ghost with the tags of a machine as at first -/
def LiveG (A N : Int) (gs : Option Gs) : Prop := ∃ g, gs = some g ∧ g.tags = liveL N.toNat (sentP A).toNat
theorem liveL_at (n s i : Nat) (h : i < n) : (liveL n s).getD i 0 = if i < s then 1 else 0 := by
  have hl : i < (liveL n s).length := by rw [liveL_len]; exact h
  rw [List.getD_eq_getElem?_getD, List.getElem?_eq_getElem hl]
  simp [liveL]
theorem tch_fault {A T N L B P S : Int} (hr : rightC ⟨A, T, N, L, B, P, S⟩) {gs : Option Gs} (h : LiveG A N gs) (a : Int) : LiveG A N (tch ⟨A, T, N, L, B, P, S⟩ gs a) ∧ faultG (tch ⟨A, T, N, L, B, P, S⟩ gs a) = (faultG gs || hit A T N L a) := by
  obtain ⟨⟨p, v, tags, k, n⟩, rfl, ht⟩ := h
  have ht : tags = liveL N.toNat (sentP A).toNat := ht
  obtain ⟨b1, b2, b3, b4, b5, b6, -⟩ := plan_bd hr
  obtain ⟨h1, h2⟩ := where_hit hr a
  refine ⟨⟨_, rfl, by rw [tchG_tags]; exact ht⟩, ?_⟩
  show faultG (some (tchG _ _ a)) = _
  unfold tchG
  have hw : Cf.where_ ⟨A, T, N, L, B, P, S⟩ a = whereP A T N L a := rfl
  rw [hw]
  unfold hit
  by_cases h3 : (whereP A T N L a).1 = 3
  · obtain ⟨q1, q2, q3⟩ := h2 h3
    obtain ⟨p1, p2, p3⟩ := h1.1 h3
    rw [if_pos h3]
    rw [q1] at q2 q3
    rw [q1]
    generalize (allP A T N L).getD a.toNat (0, 0, 0) = x at *
    obtain ⟨x1, i, x3⟩ := x
    dsimp only at *
    show decide (¬ ((gto tags k n i).1 = 0 ∧ (gto tags k n i).2 = 0)) = (decide (¬ (k = 0 ∧ n = 0)) || _)
    have hg : gto tags k n i = if i > sentP A then gf k n 4 i else (k, n) := by
      unfold gto
      rw [if_neg (by rw [ht, liveL_len]; omega), ht, liveL_at _ _ _ (by omega)]
      by_cases hi : i > sentP A
      · rw [if_pos hi, if_neg (by omega : ¬ (i - 1).toNat < (sentP A).toNat), if_pos rfl]
      · rw [if_neg hi, if_pos (by omega : (i - 1).toNat < (sentP A).toNat), if_neg (by decide)]
    rw [hg]
    by_cases hi : i > sentP A
    · rw [if_pos hi, decide_eq_true (p := (0 ≤ a ∧ a < (allP A T N L).length) ∧ x1 = 3 ∧ i > sentP A) ⟨⟨p1, p2⟩, p3, hi⟩, Bool.or_true]
      unfold gf
      split
      · simp
      · rename_i hz
        exact decide_eq_true hz
    · rw [if_neg hi, decide_eq_false (p := (0 ≤ a ∧ a < (allP A T N L).length) ∧ x1 = 3 ∧ i > sentP A) (fun hh => hi hh.2.2), Bool.or_false]
  · rw [if_neg h3, decide_eq_false (fun hh => h3 (h1.2 ⟨hh.1.1, hh.1.2, hh.2.1⟩)), Bool.or_false]
end Go.Proofs.Ytdomclcokkijjaa

