/- Joined: Fa Fb Fc Fd Fe V18 Ff Fg Fh Fi Fj V19 V20 Pa Ga Gb Gc Ha Hb. -/
import Derived.Test.YtklbeipdigancaaV17
import Derived.Test.YtklbeipdigancaaJ1
import Derived.RangeFuncLeaves
import Derived.RangeFuncMany
import Derived.TacticsIn
import Derived.Test.YtklbeipdigancaaTy
/- Things in memory that lie apart. -/
namespace Go.Proofs.Ytklbeipdigancaa
open Go.RowKit
attribute [local irreducible] Instr.loadAt Instr.storeAt Instr.fieldAt Instr.indexAt Instr.sliceAt Instr.buildSlice Instr.box Instr.alloc Builtin.append_ Builtin.len_ Builtin.min_ Builtin.max_ Calls Instr.build Instr.makeSlice binSem convert Instr.index Instr.range Instr.next
/-- a thing in memory: where it lies, what is so of it -/
structure Ob where
  foot : List Nat
  ok : World → Prop
  keep : ∀ {S : List Nat} {w w' : World}, ok w → Upd S w w' → (∀ k ∈ foot, k ∉ S) → ok w'
  lt : ∀ {w : World}, ok w → ∀ k ∈ foot, k < w.heap.size
def feet (l : List Ob) : List Nat := l.flatMap (·.foot)
structure Sep (w : World) (l : List Ob) : Prop where
  ok : ∀ x ∈ l, x.ok w
  apart : l.Pairwise fun x y => ∀ k ∈ x.foot, k ∉ y.foot
/-- from a world to one behind it: only what lay in F may have changed; what lies in F' lay in F, or is new -/
structure To (w : World) (F : List Nat) (w' : World) (F' : List Nat) : Prop where
  up : Upd F w w'
  sub : ∀ k ∈ F', k ∈ F ∨ w.heap.size ≤ k
theorem To.refl (w : World) (F : List Nat) : To w F w F := ⟨Upd.refl _ _, fun _ h => .inl h⟩
theorem To.trans {w w1 w2 : World} {F F1 F2 : List Nat} (h : To w F w1 F1) (k : To w1 F1 w2 F2) : To w F w2 F2 :=
  ⟨h.up.step k.up h.sub, fun q hq => by
    have := h.up.size
    rcases k.sub q hq with h1 | h1
    · exact h.sub q h1
    · right; omega⟩
theorem To.of0 {w w' : World} (F : List Nat) (hu : Upd [] w w') : To w F w' F := ⟨hu.mono (by simp), fun _ h => .inl h⟩
theorem To.upd0 {w w1 w2 : World} {F F1 : List Nat} (h : To w F w1 F1) (hu : Upd [] w1 w2) : To w F w2 F1 := h.trans (.of0 _ hu)
theorem To.more {w w' : World} {F F' : List Nat} (h : To w F w' F') (G : List Nat) : To w (F ++ G) w' (F' ++ G) := ⟨h.up.mono (by simp; exact fun _ h => .inl h), fun k hk => by
  rcases List.mem_append.1 hk with h1 | h1
  · rcases h.sub k h1 with h2 | h2
    · exact .inl (List.mem_append.2 (.inl h2))
    · exact .inr h2
  · exact .inl (List.mem_append.2 (.inr h1))⟩
/-- all of F is new since w0 -/
theorem To.new {w0 w w' : World} {F F' : List Nat} (h : To w F w' F') (hu : Upd [] w0 w) (hF : ∀ k ∈ F, w0.heap.size ≤ k) : Upd [] w0 w' ∧ ∀ k ∈ F', w0.heap.size ≤ k :=
  ⟨hu.step h.up (fun x hx => .inr (hF x hx)), fun k hk => by
    have := hu.size
    rcases h.sub k hk with h1 | h1
    · exact hF k h1
    · omega⟩
theorem mem_feet {l : List Ob} {k : Nat} : k ∈ feet l ↔ ∃ x ∈ l, k ∈ x.foot := by simp [feet]
theorem feet_app (a b : List Ob) : feet (a ++ b) = feet a ++ feet b := by simp [feet]
theorem Sep.lt {w : World} {l : List Ob} (h : Sep w l) : ∀ k ∈ feet l, k < w.heap.size := fun k hk => by
  obtain ⟨x, hx, hk⟩ := mem_feet.1 hk
  exact x.lt (h.ok x hx) k hk
theorem Sep.upd {S : List Nat} {w w' : World} {l : List Ob} (h : Sep w l) (hu : Upd S w w') (hS : ∀ k ∈ feet l, k ∉ S) : Sep w' l :=
  ⟨fun x hx => x.keep (h.ok x hx) hu fun k hk => hS k (mem_feet.2 ⟨x, hx, hk⟩), h.apart⟩
theorem Sep.upd0 {w w' : World} {l : List Ob} (h : Sep w l) (hu : Upd [] w w') : Sep w' l := h.upd hu (by simp)
def obAll (l : List Ob) : Ob := ⟨feet l, fun w => Sep w l, fun h hu hS => h.upd hu hS, fun h => h.lt⟩
theorem Sep.nil (w : World) : Sep w [] := ⟨by simp, .nil⟩
theorem pw_at {α : Type} {R : α → α → Prop} {l : List α} (h : l.Pairwise R) {i j : Nat} {x y : α} (hi : l[i]? = some x) (hj : l[j]? = some y) (hlt : i < j) : R x y := by
  obtain ⟨hi1, rfl⟩ := List.getElem?_eq_some_iff.1 hi
  obtain ⟨hj1, rfl⟩ := List.getElem?_eq_some_iff.1 hj
  exact List.pairwise_iff_getElem.1 h i j hi1 hj1 hlt
theorem Sep.apart_ {w : World} {l : List Ob} (h : Sep w l) {i j : Nat} {x y : Ob} (hi : l[i]? = some x) (hj : l[j]? = some y) (hne : i ≠ j) : ∀ k ∈ x.foot, k ∉ y.foot := by
  rcases Nat.lt_or_gt_of_ne hne with h1 | h1
  · exact pw_at h.apart hi hj h1
  · exact fun k hk hk2 => pw_at h.apart hj hi h1 k hk2 hk
theorem Sep.at_ {w : World} {l : List Ob} (h : Sep w l) {i : Nat} {x : Ob} (hi : l[i]? = some x) : x.ok w := h.ok x (List.mem_of_getElem? hi)
/-- one of them becomes another -/
theorem Sep.set {w w' : World} {l : List Ob} {i : Nat} {x y : Ob} (h : Sep w l) (hi : l[i]? = some x) (hy : y.ok w') (ht : To w x.foot w' y.foot) : Sep w' (l.set i y) := by
  have hlt := h.lt
  have hil : i < l.length := (List.getElem?_eq_some_iff.1 hi).1
  have other : ∀ j z, j ≠ i → l[j]? = some z → z.ok w' ∧ (∀ k ∈ y.foot, k ∉ z.foot) := fun j z hj hz => by
    have hap := h.apart_ hi hz (Ne.symm hj)
    refine ⟨z.keep (h.at_ hz) ht.up (fun k hk hk2 => hap k hk2 hk), fun k hk hk2 => ?_⟩
    rcases ht.sub k hk with h1 | h1
    · exact hap k h1 hk2
    · have := z.lt (h.at_ hz) k hk2; omega
  refine ⟨fun z hz => ?_, List.pairwise_iff_getElem.2 fun a b ha hb hab => ?_⟩
  · obtain ⟨j, hj, rfl⟩ := List.getElem_of_mem hz
    rw [List.getElem_set]
    split
    · exact hy
    · rename_i hne
      have hj' : j < l.length := by simpa using hj
      exact (other j _ (Ne.symm hne) (List.getElem?_eq_getElem hj')).1
  · have ha' : a < l.length := by simpa using ha
    have hb' : b < l.length := by simpa using hb
    rw [List.getElem_set, List.getElem_set]
    by_cases h1 : i = a
    · subst h1
      rw [if_pos rfl, if_neg (by omega)]
      exact (other b _ (by omega) (List.getElem?_eq_getElem hb')).2
    · rw [if_neg h1]
      by_cases h2 : i = b
      · subst h2
        rw [if_pos rfl]
        exact fun k hk hk2 => (other a _ (by omega) (List.getElem?_eq_getElem ha')).2 k hk2 hk
      · rw [if_neg h2]
        exact List.pairwise_iff_getElem.1 h.apart a b ha' hb' hab
theorem To.set {w w' : World} {l : List Ob} {i : Nat} {x y : Ob} (hi : l[i]? = some x) (ht : To w x.foot w' y.foot) : To w (feet l) w' (feet (l.set i y)) := by
  refine ⟨ht.up.mono fun k hk => mem_feet.2 ⟨x, List.mem_of_getElem? hi, hk⟩, fun k hk0 => ?_⟩
  obtain ⟨z, hz, hk⟩ := mem_feet.1 hk0
  rcases List.mem_or_eq_of_mem_set hz with h1 | h1
  · exact .inl (mem_feet.2 ⟨z, h1, hk⟩)
  · subst h1
    rcases ht.sub k hk with h2 | h2
    · exact .inl (mem_feet.2 ⟨x, List.mem_of_getElem? hi, h2⟩)
    · exact .inr h2
theorem Sep.add {w w' : World} {l : List Ob} {y : Ob} (h : Sep w l) (hu : Upd [] w w') (hy : y.ok w') (hn : ∀ k ∈ y.foot, w.heap.size ≤ k) : Sep w' (l ++ [y]) := by
  refine ⟨fun x hx => ?_, List.pairwise_append.2 ⟨h.apart, List.pairwise_singleton _ _, fun x hx z hz k hk hk2 => ?_⟩⟩
  · rcases List.mem_append.1 hx with h1 | h1
    · exact (h.upd0 hu).ok x h1
    · rw [List.mem_singleton.1 h1]; exact hy
  · rw [List.mem_singleton.1 hz] at hk2
    have := hn k hk2
    have := x.lt (h.ok x hx) k hk
    omega
theorem Sep.cons {w : World} {l : List Ob} {y : Ob} (h : Sep w l) (hy : y.ok w) (hn : ∀ k ∈ y.foot, k ∉ feet l) : Sep w (y :: l) :=
  ⟨fun x hx => by
    rcases List.mem_cons.1 hx with h1 | h1
    · rw [h1]; exact hy
    · exact h.ok x h1, List.pairwise_cons.2 ⟨fun x hx k hk hk2 => hn k hk (mem_feet.2 ⟨x, hx, hk2⟩), h.apart⟩⟩
def obBlk (g T : Nat) (cs : Array Value) : Ob := ⟨[g], fun w => Blk w g T cs, fun h hu hS => h.upd hu (hS g (by simp)), fun h k hk => by
  rw [List.mem_singleton.1 hk]; exact h.lt⟩
def obSl (e n : Nat) (v : Value) (m : Nat) (xs : List Value) : Ob := ⟨v.ownBlock.toList, fun w => Sl w e n v m xs, fun h hu hS => h.upd hu (fun g hg => hS g (by simp [hg])), fun h k hk => h.lt k (by simpa using hk)⟩
end Go.Proofs.Ytklbeipdigancaa

/- A machine as things that lie apart. -/
namespace Go.Proofs.Ytklbeipdigancaa
open Go.RowKit
attribute [local irreducible] Instr.loadAt Instr.storeAt Instr.fieldAt Instr.indexAt Instr.sliceAt Instr.buildSlice Instr.box Instr.alloc Builtin.append_ Builtin.len_ Builtin.min_ Builtin.max_ Calls Instr.build Instr.makeSlice binSem convert Instr.index Instr.range Instr.next
/-- a thread: where its things lie, what they hold -/
structure Th where
  g : Nat
  (fv pv sv wv rv ov : Value)
  fs : List Fr
  r : Int × Int × Int
  (P S W R O : List Int)
structure Gs where
  p : Nat
  v : Value
  tags : List Int
  (k n : Int)
structure Mc where
  m : Nat
  c : Cf
  mp : Nat
  (v lv : Value)
  s : MS
  gs : Option Gs
  fp : Nat
  fv : Value
  draws : List Int
  used : Int
  tv : Value
  (acted bad : Bool)
  ths : List Th
def ptrs (l : List Th) : List Value := l.map fun (t : Th) => ptrV t.g
def gvOf : Option Gs → Value
  | none => .pointer none
  | some g => ptrV g.p
def obMem (p : Nat) (v lv : Value) (s : MS) : Ob := ⟨mfoot p v lv, fun w => IsMem w p v lv s, fun h hu hS => h.upd hu hS, fun h => h.lt⟩
def obFd (p : Nat) (v : Value) (bs : List Int) (u : Int) : Ob := ⟨p :: v.ownBlock.toList, fun w => IsFd w p v bs u, fun h hu hS => ⟨h.blk.upd hu (hS _ (by simp)), h.s.upd hu (fun g hg => hS g (by simp [hg]))⟩, fun h k hk => by
  rcases List.mem_cons.1 hk with h1 | h1
  · rw [h1]; exact h.blk.lt
  · exact h.s.lt k (by simpa using h1)⟩
def ghFoot : Option Gs → List Nat
  | none => []
  | some g => g.p :: g.v.ownBlock.toList
def ghOk (w : World) : Option Gs → Prop
  | none => True
  | some g => IsG w g.p g.v g.tags g.k g.n
def obGh (gs : Option Gs) : Ob := ⟨ghFoot gs, fun w => ghOk w gs, fun {S w w'} h hu hS => by
  cases gs with
  | none => trivial
  | some g => exact (⟨h.blk.upd hu (hS _ (List.mem_cons_self ..)), h.s.upd hu (fun q hq => hS q (List.mem_cons_of_mem _ (by simp [hq])))⟩ : IsG w' g.p g.v g.tags g.k g.n), fun {w} h k hk => by
  cases gs with
  | none => cases hk
  | some g =>
    rcases List.mem_cons.1 hk with h1 | h1
    · rw [h1]; exact (show IsG w g.p g.v g.tags g.k g.n from h).blk.lt
    · exact (show IsG w g.p g.v g.tags g.k g.n from h).s.lt k (by simpa using h1)⟩
theorem IsThr.upd {S : List Nat} {w w' : World} {g : Nat} {id : Int} {fv : Value} {fs : List Fr} {r : Int × Int × Int} {pv sv wv rv ov : Value} (h : IsThr w g id fv fs r pv sv wv rv ov) (hu : Upd S w w') (hS : ∀ k ∈ g :: fv.ownBlock.toList, k ∉ S) : IsThr w' g id fv fs r pv sv wv rv ov :=
  ⟨h.blk.upd hu (hS _ (by simp)), h.fr.upd hu (fun q hq => hS q (by simp [hq]))⟩
def obCore (id : Int) (t : Th) : Ob := ⟨t.g :: t.fv.ownBlock.toList, fun w => IsThr w t.g id t.fv t.fs t.r t.pv t.sv t.wv t.rv t.ov, fun h hu hS => h.upd hu hS, fun h k hk => by
  rcases List.mem_cons.1 hk with h1 | h1
  · rw [h1]; exact h.blk.lt
  · exact h.fr.lt k (by simpa using h1)⟩
abbrev obU (v : Value) (l : List Int) : Ob := obSl 36 1 v l.length (l.map (.int .u64))
abbrev obI (v : Value) (l : List Int) : Ob := obSl 3 1 v l.length (l.map (.int .i64))
def Th.obs (id : Int) (t : Th) : List Ob := [obCore id t, obU t.pv t.P, obU t.sv t.S, obU t.wv t.W, obI t.rv t.R, obI t.ov t.O]
def obThr (id : Int) (t : Th) : Ob := obAll (t.obs id)
def Mc.obM (X : Mc) : Ob := obBlk X.m TM (machC X.c (ptrV X.mp) (gvOf X.gs) (ptrV X.fp) X.tv X.acted X.bad)
def Mc.obs (X : Mc) : List Ob := [X.obM, obMem X.mp X.v X.lv X.s, obGh X.gs, obFd X.fp X.fv X.draws X.used, obSl TTp 1 X.tv X.ths.length (ptrs X.ths)] ++ X.ths.mapIdx fun i t => obThr (i : Int) t
def Mc.feet (X : Mc) : List Nat := Go.Proofs.Ytklbeipdigancaa.feet X.obs
def Mach (w : World) (X : Mc) : Prop := Sep w X.obs
structure Post (w : World) (X : Mc) (w' : World) (X' : Mc) : Prop where
  ok : Mach w' X'
  to : To w X.feet w' X'.feet
section
variable {w w' w'' : World} {X X' X'' : Mc}
theorem Post.refl (h : Mach w X) : Post w X w X := ⟨h, To.refl _ _⟩
theorem Post.trans (h : Post w X w' X') (k : Post w' X' w'' X'') : Post w X w'' X'' := ⟨k.ok, h.to.trans k.to⟩
theorem Mach.upd0 (h : Mach w X) (hu : Upd [] w w') : Mach w' X := Sep.upd0 h hu
theorem Post.of0 (h : Mach w X) (hu : Upd [] w w') : Post w X w' X := ⟨h.upd0 hu, .of0 _ hu⟩
theorem Post.upd0 (h : Post w X w' X') (hu : Upd [] w' w'') : Post w X w'' X' := h.trans (.of0 h.ok hu)
theorem Mach.blk (h : Mach w X) : Blk w X.m TM (machC X.c (ptrV X.mp) (gvOf X.gs) (ptrV X.fp) X.tv X.acted X.bad) := Sep.at_ (i := 0) (x := X.obM) h rfl
theorem Mach.mem (h : Mach w X) : IsMem w X.mp X.v X.lv X.s := Sep.at_ (i := 1) (x := obMem X.mp X.v X.lv X.s) h rfl
theorem Mach.gh (h : Mach w X) : ghOk w X.gs := Sep.at_ (i := 2) (x := obGh X.gs) h rfl
theorem Mach.fd (h : Mach w X) : IsFd w X.fp X.fv X.draws X.used := Sep.at_ (i := 3) (x := obFd X.fp X.fv X.draws X.used) h rfl
theorem Mach.tvs (h : Mach w X) : Sl w TTp 1 X.tv X.ths.length (ptrs X.ths) := Sep.at_ (i := 4) (x := obSl TTp 1 X.tv X.ths.length (ptrs X.ths)) h rfl
theorem obs_thr (X : Mc) (i : Nat) (t : Th) (hi : X.ths[i]? = some t) : X.obs[5 + i]? = some (obThr (i : Int) t) := by
  unfold Mc.obs
  rw [List.getElem?_append_right (by simp)]
  simp [hi]
theorem Mach.thr (h : Mach w X) {i : Nat} {t : Th} (hi : X.ths[i]? = some t) : Sep w (t.obs (i : Int)) := Sep.at_ h (obs_thr X i t hi)
theorem Mach.core (h : Mach w X) {i : Nat} {t : Th} (hi : X.ths[i]? = some t) : IsThr w t.g (i : Int) t.fv t.fs t.r t.pv t.sv t.wv t.rv t.ov := Sep.at_ (i := 0) (x := obCore (i : Int) t) (h.thr hi) rfl
theorem Mach.setM {a b : Bool} (h : Mach w X) (hb : Blk w' X.m TM (machC X.c (ptrV X.mp) (gvOf X.gs) (ptrV X.fp) X.tv a b)) (hu : Upd [X.m] w w') : Post w X w' { X with acted := a, bad := b } :=
  have t : To w [X.m] w' [X.m] := ⟨hu, fun _ h => .inl h⟩
  ⟨Sep.set (i := 0) (x := X.obM) (y := Mc.obM { X with acted := a, bad := b }) h rfl hb t, To.set (l := X.obs) (i := 0) (x := X.obM) (y := Mc.obM { X with acted := a, bad := b }) rfl t⟩
theorem Mach.setMem {lv : Value} {s : MS} (h : Mach w X) (hm : IsMem w' X.mp X.v lv s) (t : To w (mfoot X.mp X.v X.lv) w' (mfoot X.mp X.v lv)) : Post w X w' { X with lv := lv, s := s } :=
  ⟨Sep.set (i := 1) (x := obMem X.mp X.v X.lv X.s) (y := obMem X.mp X.v lv s) h rfl hm t, To.set (l := X.obs) (i := 1) (x := obMem X.mp X.v X.lv X.s) (y := obMem X.mp X.v lv s) rfl t⟩
theorem Mach.memPost {s : MS} (h : Mach w X) (hp : MemPost w X.mp X.v X.lv s w') : ∃ lv, Post w X w' { X with lv := lv, s := s } := by
  obtain ⟨lv, h1, h2, h3⟩ := hp
  exact ⟨lv, h.setMem h1 ⟨h2, h3⟩⟩
theorem Mach.setGh {g g' : Gs} (h : Mach w X) (hg : X.gs = some g) (hp : g'.p = g.p) (hv : g'.v = g.v) (hm : IsG w' g'.p g'.v g'.tags g'.k g'.n) (hu : Upd (g.p :: g.v.ownBlock.toList) w w') : Post w X w' { X with gs := some g' } := by
  have t : To w (obGh X.gs).foot w' (obGh (some g')).foot := by
    rw [hg]
    show To w (g.p :: g.v.ownBlock.toList) w' (g'.p :: g'.v.ownBlock.toList)
    rw [hp, hv]
    exact ⟨hu, fun _ h => .inl h⟩
  have e : ({ X with gs := some g' } : Mc).obs = X.obs.set 2 (obGh (some g')) := by
    have : gvOf (some g') = gvOf X.gs := by rw [hg]; show ptrV _ = ptrV _; rw [hp]
    unfold Mc.obs Mc.obM
    simp only [this]; rfl
  refine ⟨?_, ?_⟩
  · show Sep w' (Mc.obs _)
    rw [e]
    exact Sep.set (i := 2) (x := obGh X.gs) h rfl hm t
  · show To w X.feet w' (Go.Proofs.Ytklbeipdigancaa.feet (Mc.obs _))
    rw [e]
    exact To.set (l := X.obs) (i := 2) (x := obGh X.gs) rfl t
theorem obs_set (X : Mc) (i : Nat) (t t' : Th) (hi : X.ths[i]? = some t) (hg : t'.g = t.g) : ({ X with ths := X.ths.set i t' } : Mc).obs = X.obs.set (5 + i) (obThr (i : Int) t') := by
  have e1 : ptrs (X.ths.set i t') = ptrs X.ths := by
    unfold ptrs
    apply List.ext_getElem?
    intro j
    rw [List.getElem?_map, List.getElem?_map, List.getElem?_set]
    by_cases hj : i = j
    · subst hj
      have hlt := (List.getElem?_eq_some_iff.1 hi).1
      rw [if_pos rfl, if_pos hlt, hi]; simp [hg]
    · rw [if_neg hj]
  have e2 : (X.ths.set i t').mapIdx (fun (i : Nat) t => obThr (i : Int) t) = (X.ths.mapIdx fun (i : Nat) t => obThr (i : Int) t).set i (obThr (i : Int) t') := by
    apply List.ext_getElem?
    intro j
    rw [List.getElem?_mapIdx, List.getElem?_set, List.getElem?_set, List.getElem?_mapIdx, List.length_mapIdx]
    by_cases hj : i = j
    · subst hj
      have hlt := (List.getElem?_eq_some_iff.1 hi).1
      rw [if_pos rfl, if_pos hlt, if_pos rfl, if_pos hlt]; rfl
    · rw [if_neg hj, if_neg hj]
  unfold Mc.obs Mc.obM
  simp only [List.length_set, e1, e2]
  rw [Nat.add_comm 5 i]; rfl
theorem Mach.setTh {i : Nat} {t t' : Th} (h : Mach w X) (hi : X.ths[i]? = some t) (hg : t'.g = t.g) (hs : Sep w' (t'.obs (i : Int))) (hto : To w (Go.Proofs.Ytklbeipdigancaa.feet (t.obs (i : Int))) w' (Go.Proofs.Ytklbeipdigancaa.feet (t'.obs (i : Int)))) : Post w X w' { X with ths := X.ths.set i t' } := by
  have e := obs_set X i t t' hi hg
  refine ⟨?_, ?_⟩
  · show Sep w' (Mc.obs _)
    rw [e]
    exact Sep.set h (obs_thr X i t hi) hs hto
  · show To w X.feet w' (Go.Proofs.Ytklbeipdigancaa.feet (Mc.obs _))
    rw [e]
    exact To.set (obs_thr X i t hi) (y := obThr (i : Int) t') hto
/-- a thread's own block and frames change -/
theorem Mach.setCore {i : Nat} {t : Th} {fv : Value} {fs : List Fr} {r : Int × Int × Int} (h : Mach w X) (hi : X.ths[i]? = some t) (hc : IsThr w' t.g (i : Int) fv fs r t.pv t.sv t.wv t.rv t.ov) (hto : To w (t.g :: t.fv.ownBlock.toList) w' (t.g :: fv.ownBlock.toList)) : Post w X w' { X with ths := X.ths.set i { t with fv := fv, fs := fs, r := r } } :=
  h.setTh hi rfl (Sep.set (i := 0) (x := obCore (i : Int) t) (y := obCore (i : Int) { t with fv := fv, fs := fs, r := r }) (h.thr hi) rfl hc hto) (To.set (l := t.obs (i : Int)) (i := 0) (x := obCore (i : Int) t) (y := obCore (i : Int) { t with fv := fv, fs := fs, r := r }) rfl hto)
end
end Go.Proofs.Ytklbeipdigancaa

/- Contracts: core.New, all its things apart. -/
namespace Go.Proofs.Ytklbeipdigancaa
open Go.RowKit
attribute [local irreducible] Instr.loadAt Instr.storeAt Instr.fieldAt Instr.indexAt Instr.sliceAt Instr.buildSlice Instr.box Instr.alloc Builtin.append_ Builtin.len_ Builtin.min_ Builtin.max_ Calls Instr.build Instr.makeSlice binSem convert Instr.index Instr.range Instr.next
theorem Sep.singles {w : World} : Sep w [] := Sep.nil w
def thZ (g : Nat) (pv sv wv : Value) (l : Nat) : Th := ⟨g, .slice none 0 0, pv, sv, wv, .slice none 0 0, .slice none 0 0, [], (0, 0, 0), List.replicate l 0, List.replicate l 0, List.replicate l 0, [], []⟩
theorem obs_snoc (X : Mc) (tv : Value) (t : Th) : ({ X with tv := tv, ths := X.ths ++ [t] } : Mc).obs = (((X.obs ++ [obThr (X.ths.length : Int) t]).set 4 (obSl TTp 1 tv (X.ths.length + 1) (ptrs X.ths ++ [ptrV t.g]))).set 0 (Mc.obM { X with tv := tv })) := by
  unfold Mc.obs Mc.obM ptrs
  simp [List.mapIdx_append]
/-- a machine that is being made -/
structure New (w w' : World) (X : Mc) : Prop where
  ok : Mach w' X
  up : Upd [] w w'
  fr : ∀ k ∈ X.feet, w.heap.size ≤ k
theorem New.post {w w' w'' : World} {X X' : Mc} (h : New w w' X) (p : Post w' X w'' X') : New w w'' X' := by
  obtain ⟨h1, h2⟩ := p.to.new h.up h.fr
  exact ⟨p.ok, h1, h2⟩
theorem New.rebase {w0 w w' : World} {X : Mc} (h : New w w' X) (hu : Upd [] w0 w) : New w0 w' X := ⟨h.ok, hu.trans h.up, fun k hk => by have := h.fr k hk; have := hu.size; omega⟩
def mc0 (m : Nat) (c : Cf) (mp : Nat) (v lv : Value) (s : MS) (gs : Option Gs) (fp : Nat) (fv : Value) (draws : List Int) (tv : Value) (ths : List Th) : Mc := ⟨m, c, mp, v, lv, s, gs, fp, fv, draws, 0, tv, false, false, ths⟩
theorem thZ_sep {w : World} {g a b c l : Nat} {id : Int} (hb : Blk w g TT (thrC id (.slice none 0 0) (0, 0, 0) (.slice (some ⟨a, 0, none⟩) l l) (.slice (some ⟨b, 0, none⟩) l l) (.slice (some ⟨c, 0, none⟩) l l) (.slice none 0 0) (.slice none 0 0)))
    (h1 : Sl w 36 1 (.slice (some ⟨a, 0, none⟩) l l) l (zerosV l)) (h2 : Sl w 36 1 (.slice (some ⟨b, 0, none⟩) l l) l (zerosV l)) (h3 : Sl w 36 1 (.slice (some ⟨c, 0, none⟩) l l) l (zerosV l)) (n1 : a ≠ b) (n2 : a ≠ c) (n3 : b ≠ c) (n4 : g ≠ a) (n5 : g ≠ b) (n6 : g ≠ c) :
    Sep w ((thZ g (.slice (some ⟨a, 0, none⟩) l l) (.slice (some ⟨b, 0, none⟩) l l) (.slice (some ⟨c, 0, none⟩) l l) l).obs id) := by
  have e : ∀ v : Value, Sl w 36 1 v l (zerosV l) → (obU v (List.replicate l 0)).ok w := fun v h => by
    show Sl w _ 1 v (List.replicate l (0 : Int)).length _
    rw [List.length_replicate]; exact h
  have n0 : (obI (.slice none 0 0) []).ok w := Sl.nil_ _ _ _
  refine Sep.cons (Sep.cons (Sep.cons (Sep.cons (Sep.cons (Sep.cons (Sep.nil w) n0 ?_) n0 ?_) (e _ h3) ?_) (e _ h2) ?_) (e _ h1) ?_) (⟨hb, Sl.nil_ _ _ _⟩) ?_
  all_goals
    simp [feet, obSl, obCore, thZ, Value.ownBlock]
    try omega
set_option maxRecDepth 100000 in
theorem core_new2 {w : World} {v : Value} {draws : List Int} {A T N L B P S : Int} (gh : Bool) (hv : RdK w .u8 v draws) (hl : draws.length ≤ 5000) :
    Fn Try.prog 7 #[.agg (cf7 ⟨A, T, N, L, B, P, S⟩), v, .bool gh] w fun r w' => (¬ rightC ⟨A, T, N, L, B, P, S⟩ → r = .tuple #[.pointer none, .int .i64 6] ∧ Upd [] w w') ∧
      (rightC ⟨A, T, N, L, B, P, S⟩ → ∃ m mp mv lv fp fv gs tv ths, r = .tuple #[ptrV m, .int .i64 0] ∧ New w w' (mc0 m ⟨A, T, N, L, B, P, S⟩ mp mv lv (layS A T N L (newMS (sizeP A T N L).toNat)) gs fp fv draws tv ths) ∧ (ths.length : Int) = T ∧
        (∀ t ∈ ths, ∃ g pv sv wv, t = thZ g pv sv wv L.toNat) ∧ (gh = false → gs = none) ∧ (gh = true → ∃ gp gv', gs = some ⟨gp, gv', liveL N.toNat (sentP A).toNat, 0, 0⟩)) := by
  refine fn_enter Try.func7 rfl rfl ?_
  refine bx fun w1 hb1 hu1 hs1 => ?_
  have hb1 : Blk w1 w.heap.size 23 (cf7 ⟨A, T, N, L, B, P, S⟩) := hb1
  refine ldw hb1 rfl ?_
  refine cl (new_c ⟨A, T, N, L, B, P, S⟩ w1) ?_
  rintro _ w2 ⟨rfl, hu2⟩
  refine al z15 (fun _ => by kernel_rfl) fun w3 hb3 hu3 hs3 => ?_
  by_cases hr : rightC ⟨A, T, N, L, B, P, S⟩
  rotate_left
  · rw [if_neg hr, if_neg hr]
    refine stw hb3 rfl rfl rfl fun w4 hb4 hu4 hs4 => ?_
    exact ⟨fun _ => ⟨rfl, ((hu1.trans hu2).trans hu3).step hu4 (by have := hu1.size; have := hu2.size; simp; omega)⟩, fun h => absurd h hr⟩
  rw [if_pos hr, if_pos hr]
  obtain ⟨b1, b2, b3, b4, b5, b6, b7, b8, b9, b10, b11, b12⟩ := plan_bd hr
  refine stw hb3 rfl rfl rfl fun w4 hb4 hu4 hs4 => ?_
  have hb4 : Blk w4 w2.heap.size TP (planC ⟨A, T, N, L, B, P, S⟩) := hb4
  have hz2 := hu2.size
  have hU4 : Upd [] w w4 := ((hu1.trans hu2).trans hu3).step hu4 (by simp; omega)
  have hc4 := ((hb1.upd hu2 (by simp)).upd hu3 (by simp)).upd hu4 (by simp; omega)
  generalize hg1 : w.heap.size = g1 at hc4
  generalize w2.heap.size = g2 at *
  refine ldw hb4 rfl ?_
  refine cl (size_c A T N L B P S w4) ?_
  rintro _ w5 ⟨rfl, hu5⟩
  obtain ⟨n, hn⟩ : ∃ n : Nat, sizeP A T N L = (n : Int) := ⟨_, (Int.toNat_of_nonneg (by omega)).symm⟩
  have hnn : (sizeP A T N L).toNat = n := by omega
  rw [hnn, hn]
  refine cl (new_yes n w5 (by omega) (by omega)) ?_
  rintro _ w6 ⟨mp, mv, rfl, hm6, hu6, hf6⟩
  have hU6 := (hU4.trans hu5).trans hu6
  have hc6 := (hc4.upd hu5 (by simp)).upd hu6 (by simp)
  have hp6 := (hb4.upd hu5 (by simp)).upd hu6 (by simp)
  refine ldw hp6 rfl ?_
  refine cl (lay_c hm6 ⟨Int.le_refl _, Int.le_refl _, rfl, rfl⟩ hr) ?_
  rintro _ w7 ⟨lv, hm7, hu7, hf7⟩
  have hz46 : w4.heap.size ≤ w5.heap.size := hu5.size
  have hz4 := hU4.size
  have hF : ∀ k ∈ mfoot mp mv lv, w.heap.size ≤ k := fun k hk => by
    have h6 := hU6.size
    rcases hf7 k hk with h | h
    · have := hf6 k h; omega
    · omega
  have hU7 : Upd [] w w7 := hU6.step hu7 (fun k hk => .inr (by have := hf6 k hk; omega))
  have hc7 := hc6.upd hu7 (hm6.off hc6 (by decide) (by decide) (by decide))
  have hp7 := hp6.upd hu7 (hm6.off hp6 (by decide) (by decide) (by decide))
  generalize layS A T N L (newMS n) = ms at *
  refine draw_mix 6 [(0, true), (1, true), (2, true), (3, false), (4, true), (5, false)] (fun w' => Upd [] w7 w') (by decide +kernel) (Upd.refl [] w7).drew ?_
  refine rq (.agg (planC ⟨A, T, N, L, B, P, S⟩)) (fun w' hw' => ldw (hp7.upd hw' (by simp)) rfl ⟨rfl, rfl⟩) ?_
  refine cl (feed_new (hv.upd0 hU7.drew) (by omega)) ?_
  rintro _ w8 ⟨⟨fp, fv, rfl, hfp, hfv, hfd⟩, hu8⟩
  have hu78 : Upd [] w7 w8 := (Upd.refl [] w7).drew.trans hu8
  refine ⟨hu78, ?_⟩
  refine rq (.agg (machC ⟨A, T, N, L, B, P, S⟩ (ptrV mp) (.pointer none) (ptrV fp) (.slice none 0 0) false false)) (fun _ _ => bd _ (fun _ => by kernel_rfl) ⟨rfl, rfl⟩) ?_
  refine bx fun w9 hb9 hu9 hs9 => ?_
  refine ⟨hu78.trans hu9, ?_⟩
  have hb9 : Blk w9 w8.heap.size TM (machC ⟨A, T, N, L, B, P, S⟩ (ptrV mp) (.pointer none) (ptrV fp) (.slice none 0 0) false false) := hb9
  have hu79 := hu78.trans hu9
  have hU9 := hU7.trans hu79
  have e78 : w7.drew.heap.size = w7.heap.size := rfl
  have hz7 := hU7.size
  have hz78 := hu78.size
  have F9 : ∀ k ∈ fp :: fv.ownBlock.toList, w7.heap.size ≤ k := fun k hk => by
    rcases List.mem_cons.1 hk with h | h
    · rw [h]; exact hfp
    · exact hfv k (by simpa using h)
  have S8 : Sep w8 [obMem mp mv lv ms, obGh none, obFd fp fv draws 0, obSl TTp 1 (.slice none 0 0) 0 []] := by
    refine Sep.cons (Sep.cons (Sep.cons (Sep.cons (Sep.nil w8) (Sl.nil_ _ _ _) (by simp [obSl, Value.ownBlock])) hfd ?_) trivial (by simp [obGh, ghFoot])) (hm7.upd hu78 (by simp)) ?_
    · simp [feet, obSl, Value.ownBlock]
    · intro k hk hk2
      have := hm7.lt k hk
      simp only [feet, obGh, ghFoot, obFd, obSl, List.flatMap_cons, List.flatMap_nil, List.append_nil, List.nil_append] at hk2
      rcases List.mem_append.1 hk2 with h | h
      · have := F9 k h; omega
      · simp [Value.ownBlock] at h
  have N9 : New w w9 (mc0 w8.heap.size ⟨A, T, N, L, B, P, S⟩ mp mv lv ms none fp fv draws (.slice none 0 0) []) := by
    refine ⟨?_, hU9, ?_⟩
    · refine Sep.cons (y := obBlk w8.heap.size TM (machC ⟨A, T, N, L, B, P, S⟩ (ptrV mp) (.pointer none) (ptrV fp) (.slice none 0 0) false false)) (S8.upd0 hu9) hb9 ?_
      intro k hk hk2
      have h1 := S8.lt k hk2
      have h2 : k = w8.heap.size := List.mem_singleton.1 hk
      omega
    · intro k hk
      obtain ⟨x, hx, hk⟩ := mem_feet.1 hk
      have hx : x ∈ [obBlk w8.heap.size TM (machC ⟨A, T, N, L, B, P, S⟩ (ptrV mp) (.pointer none) (ptrV fp) (.slice none 0 0) false false), obMem mp mv lv ms, obGh none, obFd fp fv draws 0, obSl TTp 1 (.slice none 0 0) 0 []] := hx
      simp only [List.mem_cons, List.not_mem_nil, or_false] at hx
      rcases hx with rfl | rfl | rfl | rfl | rfl
      · have h2 : k = w8.heap.size := List.mem_singleton.1 hk
        omega
      · exact hF k hk
      · simp [obGh, ghFoot] at hk
      · have := F9 k hk; omega
      · simp [obSl, Value.ownBlock] at hk
  have hc9 := hc7.upd hu79 (by simp)
  have hp9 := hp7.upd hu79 (by simp)
  have hmg1 : w8.heap.size ≠ g1 := fun h => by have := hc7.lt; have := hu78.size; omega
  have hmg2 : w8.heap.size ≠ g2 := fun h => by have := hp7.lt; have := hu78.size; omega
  have hN9m := N9.ok.blk
  generalize w8.heap.size = m at *
  cases gh with
  | false =>
    refine fa ?_
    refine ldb (hc9) (v := .int .i64 T) rfl ?_
    obtain ⟨t, ht⟩ : ∃ t : Nat, T = (t : Int) := ⟨_, (Int.toNat_of_nonneg (by omega)).symm⟩
    refine loop_rule [3, 11, 49] [50] (fun vs w' k => ∃ (i : Nat) (tv : Value) (ths : List Th), vs = [.int .i64 (i : Int)] ∧ i ≤ t ∧ k = t - i ∧ ths.length = i ∧ (∀ t ∈ ths, ∃ g pv sv wv, t = thZ g pv sv wv L.toNat) ∧ New w w' (mc0 m ⟨A, T, N, L, B, P, S⟩ mp mv lv ms (none) fp fv draws tv ths) ∧ Blk w' g1 23 (cf7 ⟨A, T, N, L, B, P, S⟩)) rfl [.int .i64 0] t rfl
      ⟨0, _, _, rfl, by omega, rfl, rfl, (by simp), N9, hc9⟩ ?_
    rintro _ x1 k ⟨i, tv, ths, rfl, hi, rfl, hpl, hz, J, hx1⟩
    refine cd (fun hlt => ?_) (fun hlt => ?_)
    · obtain ⟨l, hL⟩ : ∃ l : Nat, L = (l : Int) := ⟨_, (Int.toNat_of_nonneg (by omega)).symm⟩
      have hLn : L.toNat = l := by omega
      have hne1 : tv.ownBlock ≠ some m := J.ok.tvs.blk_ne J.ok.blk (by decide)
      have hne2 : tv.ownBlock ≠ some g1 := J.ok.tvs.blk_ne hx1 (by decide)
      have hsb : ∀ w', Upd tv.ownBlock.toList x1 w' → Blk w' m TM (machC ⟨A, T, N, L, B, P, S⟩ (ptrV mp) (gvOf (none)) (ptrV fp) tv false false) := fun w' hu => J.ok.blk.upd hu (by show m ∉ _; simpa using hne1)
      have hsc : ∀ w', Upd tv.ownBlock.toList x1 w' → Blk w' g1 23 _ := fun w' hu => hx1.upd hu (by simpa using hne2)
      refine draw_tree 19 treeT (fun w' => Upd tv.ownBlock.toList x1 w') (by decide +kernel) (Upd.refl _ x1).drew ?_
      refine q_fa ?_
      refine q_ld (v := tv) (fun w' hw' => (hsb w' hw').cell 18) ?_
      refine q_fa ?_
      refine q_ld (v := .int .i64 L) (fun w' hw' => (hsc w' hw').cell 3) ?_
      refine q_fa ?_
      refine q_ld (v := .int .i64 L) (fun w' hw' => (hsc w' hw').cell 3) ?_
      refine q_fa ?_
      refine q_ld (v := .int .i64 L) (fun w' hw' => (hsc w' hw').cell 3) ?_
      have Us : Upd tv.ownBlock.toList x1 x1.drew := (Upd.refl _ x1).drew
      refine ⟨?_, ?_, ?_⟩
      · refine mks l hL hL (by omega) (by omega) fun xa ha ua za => ?_
        have Va := (Upd.refl [] x1).drew.trans ua
        refine ⟨Va.mono (by simp), ?_⟩
        refine ⟨?_, ?_⟩
        · refine mks l hL hL (by omega) (by omega) fun xb hb ub zb => ?_
          have Vb := Va.trans ub
          refine ⟨Vb.mono (by simp), ?_⟩
          refine mks l hL hL (by omega) (by omega) fun xc hc uc zc => ?_
          have Vc := Vb.trans uc
          refine ⟨Vc.mono (by simp), ?_⟩
          have sa := ((zeros_sl ha (by omega)).upd ub (by simp)).upd uc (by simp)
          have sb := (zeros_sl hb (by omega)).upd uc (by simp)
          have sc := zeros_sl hc (by omega)
          refine rq (.agg (thrC (i : Int) (.slice none 0 0) (0, 0, 0) (.slice (some ⟨x1.drew.heap.size, 0, none⟩) l l) (.slice (some ⟨xa.heap.size, 0, none⟩) l l) (.slice (some ⟨xb.heap.size, 0, none⟩) l l) (.slice none 0 0) (.slice none 0 0))) (fun _ _ => bd _ (fun _ => by kernel_rfl) ⟨rfl, rfl⟩) ?_
          refine bx fun xd hd ud zd => ?_
          have hd : Blk xd xc.heap.size TT (thrC (i : Int) (.slice none 0 0) (0, 0, 0) (.slice (some ⟨x1.drew.heap.size, 0, none⟩) l l) (.slice (some ⟨xa.heap.size, 0, none⟩) l l) (.slice (some ⟨xb.heap.size, 0, none⟩) l l) (.slice none 0 0) (.slice none 0 0)) := hd
          have Vd := Vc.trans ud
          refine ⟨Vd.mono (by simp), ?_⟩
          refine bs #[ptrV xc.heap.size] (fun _ => by kernel_rfl) fun xe he ue ze => ?_
          have Ve := Vd.trans ue
          refine ⟨Ve.mono (by simp), ?_⟩
          have zx := Vc.size
          have ex1 : x1.drew.heap.size = x1.heap.size := rfl
          refine apg (J.ok.tvs.upd Ve (by simp)) he rfl rfl (by decide) (by simp only [maxLen]; show ths.length + 1 ≤ _; omega) (by show (ths.length + 1) * 8 ≤ _; omega) fun tv2 xf hsf hGf => ?_
          have Uf : Upd tv.ownBlock.toList x1 xf := (Ve.mono (by simp)).trans hGf.up
          refine ⟨Uf, ?_⟩
          obtain ⟨tva, tvc, rfl, -⟩ := hsf.form
          replace hsf : Sl xf TTp 1 (.slice tva (ths.length + 1) tvc) (ths.length + 1) (ptrs ths ++ [ptrV xc.heap.size]) := hsf
          replace hGf : Grow xe xf tv (.slice tva (ths.length + 1) tvc) := hGf
          refine fa ?_
          refine st (hsb xf Uf) (by show 18 < 21; omega) rfl fun xg hg ug zg => ?_
          refine ar64 (by omega) ?_
          have Z : Sep xd ((thZ xc.heap.size (.slice (some ⟨x1.drew.heap.size, 0, none⟩) l l) (.slice (some ⟨xa.heap.size, 0, none⟩) l l) (.slice (some ⟨xb.heap.size, 0, none⟩) l l) l).obs (i : Int)) := thZ_sep hd ((sa).upd ud (by simp)) ((sb).upd ud (by simp)) ((sc).upd ud (by simp)) (by omega) (by omega) (by omega) (by omega) (by omega) (by omega)
          obtain ⟨th, hth⟩ : ∃ th, th = thZ xc.heap.size (.slice (some ⟨x1.drew.heap.size, 0, none⟩) l l) (.slice (some ⟨xa.heap.size, 0, none⟩) l l) (.slice (some ⟨xb.heap.size, 0, none⟩) l l) l := ⟨_, rfl⟩
          rw [← hth] at Z
          have hthg : th.g = xc.heap.size := by rw [hth]; rfl
          have hnew : ∀ k ∈ (obThr (i : Int) th).foot, x1.heap.size ≤ k := by
            rw [hth]
            show ∀ k ∈ feet _, _
            intro k hk
            simp [feet, Th.obs, obSl, obCore, thZ, Value.ownBlock] at hk
            rcases hk with rfl | rfl | rfl | rfl <;> omega
          have S1 := Sep.add (y := obThr (i : Int) th) J.ok Vd Z hnew
          have S2 := S1.upd0 ue
          have T2 : To x1 (Mc.feet (mc0 m ⟨A, T, N, L, B, P, S⟩ mp mv lv ms (none) fp fv draws tv ths)) xe (feet (Mc.obs (mc0 m ⟨A, T, N, L, B, P, S⟩ mp mv lv ms (none) fp fv draws tv ths) ++ [obThr (i : Int) th])) := ⟨Ve.mono (by simp), fun k hk => by
            rw [feet_app] at hk
            rcases List.mem_append.1 hk with h | h
            · exact .inl h
            · exact .inr (hnew k (by simpa [feet] using h))⟩
          have tz : To xe (obSl TTp 1 tv ths.length (ptrs ths)).foot xf (obSl TTp 1 (.slice tva (ths.length + 1) tvc) (ths.length + 1) (ptrs ths ++ [ptrV th.g])).foot := ⟨hGf.up, fun k hk => by
            rcases hGf.own k (by simpa [obSl] using hk) with h | h
            · exact .inl (by simpa [obSl] using h)
            · exact .inr h⟩
          have S3 := Sep.set (i := 4) (x := obSl TTp 1 tv ths.length (ptrs ths)) (y := obSl TTp 1 (.slice tva (ths.length + 1) tvc) (ths.length + 1) (ptrs ths ++ [ptrV th.g])) S2 rfl (by rw [hthg]; exact hsf) tz
          have T3 := T2.trans (To.set (l := Mc.obs (mc0 m ⟨A, T, N, L, B, P, S⟩ mp mv lv ms (none) fp fv draws tv ths) ++ [obThr (i : Int) th]) (i := 4) (x := obSl TTp 1 tv ths.length (ptrs ths)) rfl tz)
          have tm : To xf [m] xg [m] := ⟨ug, fun _ h => .inl h⟩
          have S4 := Sep.set (i := 0) (x := Mc.obM (mc0 m ⟨A, T, N, L, B, P, S⟩ mp mv lv ms (none) fp fv draws tv ths)) (y := Mc.obM (mc0 m ⟨A, T, N, L, B, P, S⟩ mp mv lv ms (none) fp fv draws (.slice tva (ths.length + 1) tvc) ths)) S3 rfl hg tm
          have T4 := T3.trans (To.set (i := 0) (x := Mc.obM (mc0 m ⟨A, T, N, L, B, P, S⟩ mp mv lv ms (none) fp fv draws tv ths)) (y := Mc.obM (mc0 m ⟨A, T, N, L, B, P, S⟩ mp mv lv ms (none) fp fv draws (.slice tva (ths.length + 1) tvc) ths)) rfl tm)
          have eo : Mc.obs (mc0 m ⟨A, T, N, L, B, P, S⟩ mp mv lv ms (none) fp fv draws (.slice tva (ths.length + 1) tvc) (ths ++ [th])) = (((Mc.obs (mc0 m ⟨A, T, N, L, B, P, S⟩ mp mv lv ms (none) fp fv draws tv ths) ++ [obThr (i : Int) th]).set 4 (obSl TTp 1 (.slice tva (ths.length + 1) tvc) (ths.length + 1) (ptrs ths ++ [ptrV th.g]))).set 0 (Mc.obM (mc0 m ⟨A, T, N, L, B, P, S⟩ mp mv lv ms (none) fp fv draws (.slice tva (ths.length + 1) tvc) ths))) := by
            have eo := obs_snoc (mc0 m ⟨A, T, N, L, B, P, S⟩ mp mv lv ms (none) fp fv draws tv ths) (.slice tva (ths.length + 1) tvc) th
            have el : ((mc0 m ⟨A, T, N, L, B, P, S⟩ mp mv lv ms (none) fp fv draws tv ths).ths.length : Int) = (i : Int) := by show (ths.length : Int) = _; rw [hpl]
            rw [el] at eo
            exact eo
          refine round_mk [.int .i64 ((i + 1 : Nat) : Int)] (t - (i + 1)) rfl rfl ⟨i + 1, .slice tva (ths.length + 1) tvc, ths ++ [th], rfl, by omega, rfl, by rw [List.length_append, hpl]; rfl, ?_, ?_, (hsc xf Uf).upd ug (by simp; exact fun h => hmg1 h.symm)⟩ (by omega)
          · intro t ht
            rcases List.mem_append.1 ht with h | h
            · exact hz t h
            · rw [List.mem_singleton.1 h, hth, hLn]
              exact ⟨_, _, _, _, rfl⟩
          · have P4 : Post x1 (mc0 m ⟨A, T, N, L, B, P, S⟩ mp mv lv ms (none) fp fv draws tv ths) xg (mc0 m ⟨A, T, N, L, B, P, S⟩ mp mv lv ms (none) fp fv draws (.slice tva (ths.length + 1) tvc) (ths ++ [th])) := by
              refine ⟨?_, ?_⟩
              · show Sep xg (Mc.obs (mc0 m ⟨A, T, N, L, B, P, S⟩ mp mv lv ms (none) fp fv draws (.slice tva (ths.length + 1) tvc) (ths ++ [th])))
                rw [eo]; exact S4
              · show To x1 (Mc.feet (mc0 m ⟨A, T, N, L, B, P, S⟩ mp mv lv ms (none) fp fv draws tv ths)) xg (feet (Mc.obs (mc0 m ⟨A, T, N, L, B, P, S⟩ mp mv lv ms (none) fp fv draws (.slice tva (ths.length + 1) tvc) (ths ++ [th]))))
                rw [eo]; exact T4
            exact J.post P4
        · refine mks l hL hL (by omega) (by omega) fun xb hb ub zb => ?_
          have Vb := Va.trans ub
          refine ⟨Vb.mono (by simp), ?_⟩
          refine mks l hL hL (by omega) (by omega) fun xc hc uc zc => ?_
          have Vc := Vb.trans uc
          refine ⟨Vc.mono (by simp), ?_⟩
          have sa := ((zeros_sl ha (by omega)).upd ub (by simp)).upd uc (by simp)
          have sb := (zeros_sl hb (by omega)).upd uc (by simp)
          have sc := zeros_sl hc (by omega)
          refine rq (.agg (thrC (i : Int) (.slice none 0 0) (0, 0, 0) (.slice (some ⟨x1.drew.heap.size, 0, none⟩) l l) (.slice (some ⟨xb.heap.size, 0, none⟩) l l) (.slice (some ⟨xa.heap.size, 0, none⟩) l l) (.slice none 0 0) (.slice none 0 0))) (fun _ _ => bd _ (fun _ => by kernel_rfl) ⟨rfl, rfl⟩) ?_
          refine bx fun xd hd ud zd => ?_
          have hd : Blk xd xc.heap.size TT (thrC (i : Int) (.slice none 0 0) (0, 0, 0) (.slice (some ⟨x1.drew.heap.size, 0, none⟩) l l) (.slice (some ⟨xb.heap.size, 0, none⟩) l l) (.slice (some ⟨xa.heap.size, 0, none⟩) l l) (.slice none 0 0) (.slice none 0 0)) := hd
          have Vd := Vc.trans ud
          refine ⟨Vd.mono (by simp), ?_⟩
          refine bs #[ptrV xc.heap.size] (fun _ => by kernel_rfl) fun xe he ue ze => ?_
          have Ve := Vd.trans ue
          refine ⟨Ve.mono (by simp), ?_⟩
          have zx := Vc.size
          have ex1 : x1.drew.heap.size = x1.heap.size := rfl
          refine apg (J.ok.tvs.upd Ve (by simp)) he rfl rfl (by decide) (by simp only [maxLen]; show ths.length + 1 ≤ _; omega) (by show (ths.length + 1) * 8 ≤ _; omega) fun tv2 xf hsf hGf => ?_
          have Uf : Upd tv.ownBlock.toList x1 xf := (Ve.mono (by simp)).trans hGf.up
          refine ⟨Uf, ?_⟩
          obtain ⟨tva, tvc, rfl, -⟩ := hsf.form
          replace hsf : Sl xf TTp 1 (.slice tva (ths.length + 1) tvc) (ths.length + 1) (ptrs ths ++ [ptrV xc.heap.size]) := hsf
          replace hGf : Grow xe xf tv (.slice tva (ths.length + 1) tvc) := hGf
          refine fa ?_
          refine st (hsb xf Uf) (by show 18 < 21; omega) rfl fun xg hg ug zg => ?_
          refine ar64 (by omega) ?_
          have Z : Sep xd ((thZ xc.heap.size (.slice (some ⟨x1.drew.heap.size, 0, none⟩) l l) (.slice (some ⟨xb.heap.size, 0, none⟩) l l) (.slice (some ⟨xa.heap.size, 0, none⟩) l l) l).obs (i : Int)) := thZ_sep hd ((sa).upd ud (by simp)) ((sc).upd ud (by simp)) ((sb).upd ud (by simp)) (by omega) (by omega) (by omega) (by omega) (by omega) (by omega)
          obtain ⟨th, hth⟩ : ∃ th, th = thZ xc.heap.size (.slice (some ⟨x1.drew.heap.size, 0, none⟩) l l) (.slice (some ⟨xb.heap.size, 0, none⟩) l l) (.slice (some ⟨xa.heap.size, 0, none⟩) l l) l := ⟨_, rfl⟩
          rw [← hth] at Z
          have hthg : th.g = xc.heap.size := by rw [hth]; rfl
          have hnew : ∀ k ∈ (obThr (i : Int) th).foot, x1.heap.size ≤ k := by
            rw [hth]
            show ∀ k ∈ feet _, _
            intro k hk
            simp [feet, Th.obs, obSl, obCore, thZ, Value.ownBlock] at hk
            rcases hk with rfl | rfl | rfl | rfl <;> omega
          have S1 := Sep.add (y := obThr (i : Int) th) J.ok Vd Z hnew
          have S2 := S1.upd0 ue
          have T2 : To x1 (Mc.feet (mc0 m ⟨A, T, N, L, B, P, S⟩ mp mv lv ms (none) fp fv draws tv ths)) xe (feet (Mc.obs (mc0 m ⟨A, T, N, L, B, P, S⟩ mp mv lv ms (none) fp fv draws tv ths) ++ [obThr (i : Int) th])) := ⟨Ve.mono (by simp), fun k hk => by
            rw [feet_app] at hk
            rcases List.mem_append.1 hk with h | h
            · exact .inl h
            · exact .inr (hnew k (by simpa [feet] using h))⟩
          have tz : To xe (obSl TTp 1 tv ths.length (ptrs ths)).foot xf (obSl TTp 1 (.slice tva (ths.length + 1) tvc) (ths.length + 1) (ptrs ths ++ [ptrV th.g])).foot := ⟨hGf.up, fun k hk => by
            rcases hGf.own k (by simpa [obSl] using hk) with h | h
            · exact .inl (by simpa [obSl] using h)
            · exact .inr h⟩
          have S3 := Sep.set (i := 4) (x := obSl TTp 1 tv ths.length (ptrs ths)) (y := obSl TTp 1 (.slice tva (ths.length + 1) tvc) (ths.length + 1) (ptrs ths ++ [ptrV th.g])) S2 rfl (by rw [hthg]; exact hsf) tz
          have T3 := T2.trans (To.set (l := Mc.obs (mc0 m ⟨A, T, N, L, B, P, S⟩ mp mv lv ms (none) fp fv draws tv ths) ++ [obThr (i : Int) th]) (i := 4) (x := obSl TTp 1 tv ths.length (ptrs ths)) rfl tz)
          have tm : To xf [m] xg [m] := ⟨ug, fun _ h => .inl h⟩
          have S4 := Sep.set (i := 0) (x := Mc.obM (mc0 m ⟨A, T, N, L, B, P, S⟩ mp mv lv ms (none) fp fv draws tv ths)) (y := Mc.obM (mc0 m ⟨A, T, N, L, B, P, S⟩ mp mv lv ms (none) fp fv draws (.slice tva (ths.length + 1) tvc) ths)) S3 rfl hg tm
          have T4 := T3.trans (To.set (i := 0) (x := Mc.obM (mc0 m ⟨A, T, N, L, B, P, S⟩ mp mv lv ms (none) fp fv draws tv ths)) (y := Mc.obM (mc0 m ⟨A, T, N, L, B, P, S⟩ mp mv lv ms (none) fp fv draws (.slice tva (ths.length + 1) tvc) ths)) rfl tm)
          have eo : Mc.obs (mc0 m ⟨A, T, N, L, B, P, S⟩ mp mv lv ms (none) fp fv draws (.slice tva (ths.length + 1) tvc) (ths ++ [th])) = (((Mc.obs (mc0 m ⟨A, T, N, L, B, P, S⟩ mp mv lv ms (none) fp fv draws tv ths) ++ [obThr (i : Int) th]).set 4 (obSl TTp 1 (.slice tva (ths.length + 1) tvc) (ths.length + 1) (ptrs ths ++ [ptrV th.g]))).set 0 (Mc.obM (mc0 m ⟨A, T, N, L, B, P, S⟩ mp mv lv ms (none) fp fv draws (.slice tva (ths.length + 1) tvc) ths))) := by
            have eo := obs_snoc (mc0 m ⟨A, T, N, L, B, P, S⟩ mp mv lv ms (none) fp fv draws tv ths) (.slice tva (ths.length + 1) tvc) th
            have el : ((mc0 m ⟨A, T, N, L, B, P, S⟩ mp mv lv ms (none) fp fv draws tv ths).ths.length : Int) = (i : Int) := by show (ths.length : Int) = _; rw [hpl]
            rw [el] at eo
            exact eo
          refine round_mk [.int .i64 ((i + 1 : Nat) : Int)] (t - (i + 1)) rfl rfl ⟨i + 1, .slice tva (ths.length + 1) tvc, ths ++ [th], rfl, by omega, rfl, by rw [List.length_append, hpl]; rfl, ?_, ?_, (hsc xf Uf).upd ug (by simp; exact fun h => hmg1 h.symm)⟩ (by omega)
          · intro t ht
            rcases List.mem_append.1 ht with h | h
            · exact hz t h
            · rw [List.mem_singleton.1 h, hth, hLn]
              exact ⟨_, _, _, _, rfl⟩
          · have P4 : Post x1 (mc0 m ⟨A, T, N, L, B, P, S⟩ mp mv lv ms (none) fp fv draws tv ths) xg (mc0 m ⟨A, T, N, L, B, P, S⟩ mp mv lv ms (none) fp fv draws (.slice tva (ths.length + 1) tvc) (ths ++ [th])) := by
              refine ⟨?_, ?_⟩
              · show Sep xg (Mc.obs (mc0 m ⟨A, T, N, L, B, P, S⟩ mp mv lv ms (none) fp fv draws (.slice tva (ths.length + 1) tvc) (ths ++ [th])))
                rw [eo]; exact S4
              · show To x1 (Mc.feet (mc0 m ⟨A, T, N, L, B, P, S⟩ mp mv lv ms (none) fp fv draws tv ths)) xg (feet (Mc.obs (mc0 m ⟨A, T, N, L, B, P, S⟩ mp mv lv ms (none) fp fv draws (.slice tva (ths.length + 1) tvc) (ths ++ [th]))))
                rw [eo]; exact T4
            exact J.post P4
      · refine mks l hL hL (by omega) (by omega) fun xa ha ua za => ?_
        have Va := (Upd.refl [] x1).drew.trans ua
        refine ⟨Va.mono (by simp), ?_⟩
        refine ⟨?_, ?_⟩
        · refine mks l hL hL (by omega) (by omega) fun xb hb ub zb => ?_
          have Vb := Va.trans ub
          refine ⟨Vb.mono (by simp), ?_⟩
          refine mks l hL hL (by omega) (by omega) fun xc hc uc zc => ?_
          have Vc := Vb.trans uc
          refine ⟨Vc.mono (by simp), ?_⟩
          have sa := ((zeros_sl ha (by omega)).upd ub (by simp)).upd uc (by simp)
          have sb := (zeros_sl hb (by omega)).upd uc (by simp)
          have sc := zeros_sl hc (by omega)
          refine rq (.agg (thrC (i : Int) (.slice none 0 0) (0, 0, 0) (.slice (some ⟨xa.heap.size, 0, none⟩) l l) (.slice (some ⟨x1.drew.heap.size, 0, none⟩) l l) (.slice (some ⟨xb.heap.size, 0, none⟩) l l) (.slice none 0 0) (.slice none 0 0))) (fun _ _ => bd _ (fun _ => by kernel_rfl) ⟨rfl, rfl⟩) ?_
          refine bx fun xd hd ud zd => ?_
          have hd : Blk xd xc.heap.size TT (thrC (i : Int) (.slice none 0 0) (0, 0, 0) (.slice (some ⟨xa.heap.size, 0, none⟩) l l) (.slice (some ⟨x1.drew.heap.size, 0, none⟩) l l) (.slice (some ⟨xb.heap.size, 0, none⟩) l l) (.slice none 0 0) (.slice none 0 0)) := hd
          have Vd := Vc.trans ud
          refine ⟨Vd.mono (by simp), ?_⟩
          refine bs #[ptrV xc.heap.size] (fun _ => by kernel_rfl) fun xe he ue ze => ?_
          have Ve := Vd.trans ue
          refine ⟨Ve.mono (by simp), ?_⟩
          have zx := Vc.size
          have ex1 : x1.drew.heap.size = x1.heap.size := rfl
          refine apg (J.ok.tvs.upd Ve (by simp)) he rfl rfl (by decide) (by simp only [maxLen]; show ths.length + 1 ≤ _; omega) (by show (ths.length + 1) * 8 ≤ _; omega) fun tv2 xf hsf hGf => ?_
          have Uf : Upd tv.ownBlock.toList x1 xf := (Ve.mono (by simp)).trans hGf.up
          refine ⟨Uf, ?_⟩
          obtain ⟨tva, tvc, rfl, -⟩ := hsf.form
          replace hsf : Sl xf TTp 1 (.slice tva (ths.length + 1) tvc) (ths.length + 1) (ptrs ths ++ [ptrV xc.heap.size]) := hsf
          replace hGf : Grow xe xf tv (.slice tva (ths.length + 1) tvc) := hGf
          refine fa ?_
          refine st (hsb xf Uf) (by show 18 < 21; omega) rfl fun xg hg ug zg => ?_
          refine ar64 (by omega) ?_
          have Z : Sep xd ((thZ xc.heap.size (.slice (some ⟨xa.heap.size, 0, none⟩) l l) (.slice (some ⟨x1.drew.heap.size, 0, none⟩) l l) (.slice (some ⟨xb.heap.size, 0, none⟩) l l) l).obs (i : Int)) := thZ_sep hd ((sb).upd ud (by simp)) ((sa).upd ud (by simp)) ((sc).upd ud (by simp)) (by omega) (by omega) (by omega) (by omega) (by omega) (by omega)
          obtain ⟨th, hth⟩ : ∃ th, th = thZ xc.heap.size (.slice (some ⟨xa.heap.size, 0, none⟩) l l) (.slice (some ⟨x1.drew.heap.size, 0, none⟩) l l) (.slice (some ⟨xb.heap.size, 0, none⟩) l l) l := ⟨_, rfl⟩
          rw [← hth] at Z
          have hthg : th.g = xc.heap.size := by rw [hth]; rfl
          have hnew : ∀ k ∈ (obThr (i : Int) th).foot, x1.heap.size ≤ k := by
            rw [hth]
            show ∀ k ∈ feet _, _
            intro k hk
            simp [feet, Th.obs, obSl, obCore, thZ, Value.ownBlock] at hk
            rcases hk with rfl | rfl | rfl | rfl <;> omega
          have S1 := Sep.add (y := obThr (i : Int) th) J.ok Vd Z hnew
          have S2 := S1.upd0 ue
          have T2 : To x1 (Mc.feet (mc0 m ⟨A, T, N, L, B, P, S⟩ mp mv lv ms (none) fp fv draws tv ths)) xe (feet (Mc.obs (mc0 m ⟨A, T, N, L, B, P, S⟩ mp mv lv ms (none) fp fv draws tv ths) ++ [obThr (i : Int) th])) := ⟨Ve.mono (by simp), fun k hk => by
            rw [feet_app] at hk
            rcases List.mem_append.1 hk with h | h
            · exact .inl h
            · exact .inr (hnew k (by simpa [feet] using h))⟩
          have tz : To xe (obSl TTp 1 tv ths.length (ptrs ths)).foot xf (obSl TTp 1 (.slice tva (ths.length + 1) tvc) (ths.length + 1) (ptrs ths ++ [ptrV th.g])).foot := ⟨hGf.up, fun k hk => by
            rcases hGf.own k (by simpa [obSl] using hk) with h | h
            · exact .inl (by simpa [obSl] using h)
            · exact .inr h⟩
          have S3 := Sep.set (i := 4) (x := obSl TTp 1 tv ths.length (ptrs ths)) (y := obSl TTp 1 (.slice tva (ths.length + 1) tvc) (ths.length + 1) (ptrs ths ++ [ptrV th.g])) S2 rfl (by rw [hthg]; exact hsf) tz
          have T3 := T2.trans (To.set (l := Mc.obs (mc0 m ⟨A, T, N, L, B, P, S⟩ mp mv lv ms (none) fp fv draws tv ths) ++ [obThr (i : Int) th]) (i := 4) (x := obSl TTp 1 tv ths.length (ptrs ths)) rfl tz)
          have tm : To xf [m] xg [m] := ⟨ug, fun _ h => .inl h⟩
          have S4 := Sep.set (i := 0) (x := Mc.obM (mc0 m ⟨A, T, N, L, B, P, S⟩ mp mv lv ms (none) fp fv draws tv ths)) (y := Mc.obM (mc0 m ⟨A, T, N, L, B, P, S⟩ mp mv lv ms (none) fp fv draws (.slice tva (ths.length + 1) tvc) ths)) S3 rfl hg tm
          have T4 := T3.trans (To.set (i := 0) (x := Mc.obM (mc0 m ⟨A, T, N, L, B, P, S⟩ mp mv lv ms (none) fp fv draws tv ths)) (y := Mc.obM (mc0 m ⟨A, T, N, L, B, P, S⟩ mp mv lv ms (none) fp fv draws (.slice tva (ths.length + 1) tvc) ths)) rfl tm)
          have eo : Mc.obs (mc0 m ⟨A, T, N, L, B, P, S⟩ mp mv lv ms (none) fp fv draws (.slice tva (ths.length + 1) tvc) (ths ++ [th])) = (((Mc.obs (mc0 m ⟨A, T, N, L, B, P, S⟩ mp mv lv ms (none) fp fv draws tv ths) ++ [obThr (i : Int) th]).set 4 (obSl TTp 1 (.slice tva (ths.length + 1) tvc) (ths.length + 1) (ptrs ths ++ [ptrV th.g]))).set 0 (Mc.obM (mc0 m ⟨A, T, N, L, B, P, S⟩ mp mv lv ms (none) fp fv draws (.slice tva (ths.length + 1) tvc) ths))) := by
            have eo := obs_snoc (mc0 m ⟨A, T, N, L, B, P, S⟩ mp mv lv ms (none) fp fv draws tv ths) (.slice tva (ths.length + 1) tvc) th
            have el : ((mc0 m ⟨A, T, N, L, B, P, S⟩ mp mv lv ms (none) fp fv draws tv ths).ths.length : Int) = (i : Int) := by show (ths.length : Int) = _; rw [hpl]
            rw [el] at eo
            exact eo
          refine round_mk [.int .i64 ((i + 1 : Nat) : Int)] (t - (i + 1)) rfl rfl ⟨i + 1, .slice tva (ths.length + 1) tvc, ths ++ [th], rfl, by omega, rfl, by rw [List.length_append, hpl]; rfl, ?_, ?_, (hsc xf Uf).upd ug (by simp; exact fun h => hmg1 h.symm)⟩ (by omega)
          · intro t ht
            rcases List.mem_append.1 ht with h | h
            · exact hz t h
            · rw [List.mem_singleton.1 h, hth, hLn]
              exact ⟨_, _, _, _, rfl⟩
          · have P4 : Post x1 (mc0 m ⟨A, T, N, L, B, P, S⟩ mp mv lv ms (none) fp fv draws tv ths) xg (mc0 m ⟨A, T, N, L, B, P, S⟩ mp mv lv ms (none) fp fv draws (.slice tva (ths.length + 1) tvc) (ths ++ [th])) := by
              refine ⟨?_, ?_⟩
              · show Sep xg (Mc.obs (mc0 m ⟨A, T, N, L, B, P, S⟩ mp mv lv ms (none) fp fv draws (.slice tva (ths.length + 1) tvc) (ths ++ [th])))
                rw [eo]; exact S4
              · show To x1 (Mc.feet (mc0 m ⟨A, T, N, L, B, P, S⟩ mp mv lv ms (none) fp fv draws tv ths)) xg (feet (Mc.obs (mc0 m ⟨A, T, N, L, B, P, S⟩ mp mv lv ms (none) fp fv draws (.slice tva (ths.length + 1) tvc) (ths ++ [th]))))
                rw [eo]; exact T4
            exact J.post P4
        · refine mks l hL hL (by omega) (by omega) fun xb hb ub zb => ?_
          have Vb := Va.trans ub
          refine ⟨Vb.mono (by simp), ?_⟩
          refine mks l hL hL (by omega) (by omega) fun xc hc uc zc => ?_
          have Vc := Vb.trans uc
          refine ⟨Vc.mono (by simp), ?_⟩
          have sa := ((zeros_sl ha (by omega)).upd ub (by simp)).upd uc (by simp)
          have sb := (zeros_sl hb (by omega)).upd uc (by simp)
          have sc := zeros_sl hc (by omega)
          refine rq (.agg (thrC (i : Int) (.slice none 0 0) (0, 0, 0) (.slice (some ⟨xb.heap.size, 0, none⟩) l l) (.slice (some ⟨x1.drew.heap.size, 0, none⟩) l l) (.slice (some ⟨xa.heap.size, 0, none⟩) l l) (.slice none 0 0) (.slice none 0 0))) (fun _ _ => bd _ (fun _ => by kernel_rfl) ⟨rfl, rfl⟩) ?_
          refine bx fun xd hd ud zd => ?_
          have hd : Blk xd xc.heap.size TT (thrC (i : Int) (.slice none 0 0) (0, 0, 0) (.slice (some ⟨xb.heap.size, 0, none⟩) l l) (.slice (some ⟨x1.drew.heap.size, 0, none⟩) l l) (.slice (some ⟨xa.heap.size, 0, none⟩) l l) (.slice none 0 0) (.slice none 0 0)) := hd
          have Vd := Vc.trans ud
          refine ⟨Vd.mono (by simp), ?_⟩
          refine bs #[ptrV xc.heap.size] (fun _ => by kernel_rfl) fun xe he ue ze => ?_
          have Ve := Vd.trans ue
          refine ⟨Ve.mono (by simp), ?_⟩
          have zx := Vc.size
          have ex1 : x1.drew.heap.size = x1.heap.size := rfl
          refine apg (J.ok.tvs.upd Ve (by simp)) he rfl rfl (by decide) (by simp only [maxLen]; show ths.length + 1 ≤ _; omega) (by show (ths.length + 1) * 8 ≤ _; omega) fun tv2 xf hsf hGf => ?_
          have Uf : Upd tv.ownBlock.toList x1 xf := (Ve.mono (by simp)).trans hGf.up
          refine ⟨Uf, ?_⟩
          obtain ⟨tva, tvc, rfl, -⟩ := hsf.form
          replace hsf : Sl xf TTp 1 (.slice tva (ths.length + 1) tvc) (ths.length + 1) (ptrs ths ++ [ptrV xc.heap.size]) := hsf
          replace hGf : Grow xe xf tv (.slice tva (ths.length + 1) tvc) := hGf
          refine fa ?_
          refine st (hsb xf Uf) (by show 18 < 21; omega) rfl fun xg hg ug zg => ?_
          refine ar64 (by omega) ?_
          have Z : Sep xd ((thZ xc.heap.size (.slice (some ⟨xb.heap.size, 0, none⟩) l l) (.slice (some ⟨x1.drew.heap.size, 0, none⟩) l l) (.slice (some ⟨xa.heap.size, 0, none⟩) l l) l).obs (i : Int)) := thZ_sep hd ((sc).upd ud (by simp)) ((sa).upd ud (by simp)) ((sb).upd ud (by simp)) (by omega) (by omega) (by omega) (by omega) (by omega) (by omega)
          obtain ⟨th, hth⟩ : ∃ th, th = thZ xc.heap.size (.slice (some ⟨xb.heap.size, 0, none⟩) l l) (.slice (some ⟨x1.drew.heap.size, 0, none⟩) l l) (.slice (some ⟨xa.heap.size, 0, none⟩) l l) l := ⟨_, rfl⟩
          rw [← hth] at Z
          have hthg : th.g = xc.heap.size := by rw [hth]; rfl
          have hnew : ∀ k ∈ (obThr (i : Int) th).foot, x1.heap.size ≤ k := by
            rw [hth]
            show ∀ k ∈ feet _, _
            intro k hk
            simp [feet, Th.obs, obSl, obCore, thZ, Value.ownBlock] at hk
            rcases hk with rfl | rfl | rfl | rfl <;> omega
          have S1 := Sep.add (y := obThr (i : Int) th) J.ok Vd Z hnew
          have S2 := S1.upd0 ue
          have T2 : To x1 (Mc.feet (mc0 m ⟨A, T, N, L, B, P, S⟩ mp mv lv ms (none) fp fv draws tv ths)) xe (feet (Mc.obs (mc0 m ⟨A, T, N, L, B, P, S⟩ mp mv lv ms (none) fp fv draws tv ths) ++ [obThr (i : Int) th])) := ⟨Ve.mono (by simp), fun k hk => by
            rw [feet_app] at hk
            rcases List.mem_append.1 hk with h | h
            · exact .inl h
            · exact .inr (hnew k (by simpa [feet] using h))⟩
          have tz : To xe (obSl TTp 1 tv ths.length (ptrs ths)).foot xf (obSl TTp 1 (.slice tva (ths.length + 1) tvc) (ths.length + 1) (ptrs ths ++ [ptrV th.g])).foot := ⟨hGf.up, fun k hk => by
            rcases hGf.own k (by simpa [obSl] using hk) with h | h
            · exact .inl (by simpa [obSl] using h)
            · exact .inr h⟩
          have S3 := Sep.set (i := 4) (x := obSl TTp 1 tv ths.length (ptrs ths)) (y := obSl TTp 1 (.slice tva (ths.length + 1) tvc) (ths.length + 1) (ptrs ths ++ [ptrV th.g])) S2 rfl (by rw [hthg]; exact hsf) tz
          have T3 := T2.trans (To.set (l := Mc.obs (mc0 m ⟨A, T, N, L, B, P, S⟩ mp mv lv ms (none) fp fv draws tv ths) ++ [obThr (i : Int) th]) (i := 4) (x := obSl TTp 1 tv ths.length (ptrs ths)) rfl tz)
          have tm : To xf [m] xg [m] := ⟨ug, fun _ h => .inl h⟩
          have S4 := Sep.set (i := 0) (x := Mc.obM (mc0 m ⟨A, T, N, L, B, P, S⟩ mp mv lv ms (none) fp fv draws tv ths)) (y := Mc.obM (mc0 m ⟨A, T, N, L, B, P, S⟩ mp mv lv ms (none) fp fv draws (.slice tva (ths.length + 1) tvc) ths)) S3 rfl hg tm
          have T4 := T3.trans (To.set (i := 0) (x := Mc.obM (mc0 m ⟨A, T, N, L, B, P, S⟩ mp mv lv ms (none) fp fv draws tv ths)) (y := Mc.obM (mc0 m ⟨A, T, N, L, B, P, S⟩ mp mv lv ms (none) fp fv draws (.slice tva (ths.length + 1) tvc) ths)) rfl tm)
          have eo : Mc.obs (mc0 m ⟨A, T, N, L, B, P, S⟩ mp mv lv ms (none) fp fv draws (.slice tva (ths.length + 1) tvc) (ths ++ [th])) = (((Mc.obs (mc0 m ⟨A, T, N, L, B, P, S⟩ mp mv lv ms (none) fp fv draws tv ths) ++ [obThr (i : Int) th]).set 4 (obSl TTp 1 (.slice tva (ths.length + 1) tvc) (ths.length + 1) (ptrs ths ++ [ptrV th.g]))).set 0 (Mc.obM (mc0 m ⟨A, T, N, L, B, P, S⟩ mp mv lv ms (none) fp fv draws (.slice tva (ths.length + 1) tvc) ths))) := by
            have eo := obs_snoc (mc0 m ⟨A, T, N, L, B, P, S⟩ mp mv lv ms (none) fp fv draws tv ths) (.slice tva (ths.length + 1) tvc) th
            have el : ((mc0 m ⟨A, T, N, L, B, P, S⟩ mp mv lv ms (none) fp fv draws tv ths).ths.length : Int) = (i : Int) := by show (ths.length : Int) = _; rw [hpl]
            rw [el] at eo
            exact eo
          refine round_mk [.int .i64 ((i + 1 : Nat) : Int)] (t - (i + 1)) rfl rfl ⟨i + 1, .slice tva (ths.length + 1) tvc, ths ++ [th], rfl, by omega, rfl, by rw [List.length_append, hpl]; rfl, ?_, ?_, (hsc xf Uf).upd ug (by simp; exact fun h => hmg1 h.symm)⟩ (by omega)
          · intro t ht
            rcases List.mem_append.1 ht with h | h
            · exact hz t h
            · rw [List.mem_singleton.1 h, hth, hLn]
              exact ⟨_, _, _, _, rfl⟩
          · have P4 : Post x1 (mc0 m ⟨A, T, N, L, B, P, S⟩ mp mv lv ms (none) fp fv draws tv ths) xg (mc0 m ⟨A, T, N, L, B, P, S⟩ mp mv lv ms (none) fp fv draws (.slice tva (ths.length + 1) tvc) (ths ++ [th])) := by
              refine ⟨?_, ?_⟩
              · show Sep xg (Mc.obs (mc0 m ⟨A, T, N, L, B, P, S⟩ mp mv lv ms (none) fp fv draws (.slice tva (ths.length + 1) tvc) (ths ++ [th])))
                rw [eo]; exact S4
              · show To x1 (Mc.feet (mc0 m ⟨A, T, N, L, B, P, S⟩ mp mv lv ms (none) fp fv draws tv ths)) xg (feet (Mc.obs (mc0 m ⟨A, T, N, L, B, P, S⟩ mp mv lv ms (none) fp fv draws (.slice tva (ths.length + 1) tvc) (ths ++ [th]))))
                rw [eo]; exact T4
            exact J.post P4
      · refine mks l hL hL (by omega) (by omega) fun xa ha ua za => ?_
        have Va := (Upd.refl [] x1).drew.trans ua
        refine ⟨Va.mono (by simp), ?_⟩
        refine ⟨?_, ?_⟩
        · refine mks l hL hL (by omega) (by omega) fun xb hb ub zb => ?_
          have Vb := Va.trans ub
          refine ⟨Vb.mono (by simp), ?_⟩
          refine mks l hL hL (by omega) (by omega) fun xc hc uc zc => ?_
          have Vc := Vb.trans uc
          refine ⟨Vc.mono (by simp), ?_⟩
          have sa := ((zeros_sl ha (by omega)).upd ub (by simp)).upd uc (by simp)
          have sb := (zeros_sl hb (by omega)).upd uc (by simp)
          have sc := zeros_sl hc (by omega)
          refine rq (.agg (thrC (i : Int) (.slice none 0 0) (0, 0, 0) (.slice (some ⟨xa.heap.size, 0, none⟩) l l) (.slice (some ⟨xb.heap.size, 0, none⟩) l l) (.slice (some ⟨x1.drew.heap.size, 0, none⟩) l l) (.slice none 0 0) (.slice none 0 0))) (fun _ _ => bd _ (fun _ => by kernel_rfl) ⟨rfl, rfl⟩) ?_
          refine bx fun xd hd ud zd => ?_
          have hd : Blk xd xc.heap.size TT (thrC (i : Int) (.slice none 0 0) (0, 0, 0) (.slice (some ⟨xa.heap.size, 0, none⟩) l l) (.slice (some ⟨xb.heap.size, 0, none⟩) l l) (.slice (some ⟨x1.drew.heap.size, 0, none⟩) l l) (.slice none 0 0) (.slice none 0 0)) := hd
          have Vd := Vc.trans ud
          refine ⟨Vd.mono (by simp), ?_⟩
          refine bs #[ptrV xc.heap.size] (fun _ => by kernel_rfl) fun xe he ue ze => ?_
          have Ve := Vd.trans ue
          refine ⟨Ve.mono (by simp), ?_⟩
          have zx := Vc.size
          have ex1 : x1.drew.heap.size = x1.heap.size := rfl
          refine apg (J.ok.tvs.upd Ve (by simp)) he rfl rfl (by decide) (by simp only [maxLen]; show ths.length + 1 ≤ _; omega) (by show (ths.length + 1) * 8 ≤ _; omega) fun tv2 xf hsf hGf => ?_
          have Uf : Upd tv.ownBlock.toList x1 xf := (Ve.mono (by simp)).trans hGf.up
          refine ⟨Uf, ?_⟩
          obtain ⟨tva, tvc, rfl, -⟩ := hsf.form
          replace hsf : Sl xf TTp 1 (.slice tva (ths.length + 1) tvc) (ths.length + 1) (ptrs ths ++ [ptrV xc.heap.size]) := hsf
          replace hGf : Grow xe xf tv (.slice tva (ths.length + 1) tvc) := hGf
          refine fa ?_
          refine st (hsb xf Uf) (by show 18 < 21; omega) rfl fun xg hg ug zg => ?_
          refine ar64 (by omega) ?_
          have Z : Sep xd ((thZ xc.heap.size (.slice (some ⟨xa.heap.size, 0, none⟩) l l) (.slice (some ⟨xb.heap.size, 0, none⟩) l l) (.slice (some ⟨x1.drew.heap.size, 0, none⟩) l l) l).obs (i : Int)) := thZ_sep hd ((sb).upd ud (by simp)) ((sc).upd ud (by simp)) ((sa).upd ud (by simp)) (by omega) (by omega) (by omega) (by omega) (by omega) (by omega)
          obtain ⟨th, hth⟩ : ∃ th, th = thZ xc.heap.size (.slice (some ⟨xa.heap.size, 0, none⟩) l l) (.slice (some ⟨xb.heap.size, 0, none⟩) l l) (.slice (some ⟨x1.drew.heap.size, 0, none⟩) l l) l := ⟨_, rfl⟩
          rw [← hth] at Z
          have hthg : th.g = xc.heap.size := by rw [hth]; rfl
          have hnew : ∀ k ∈ (obThr (i : Int) th).foot, x1.heap.size ≤ k := by
            rw [hth]
            show ∀ k ∈ feet _, _
            intro k hk
            simp [feet, Th.obs, obSl, obCore, thZ, Value.ownBlock] at hk
            rcases hk with rfl | rfl | rfl | rfl <;> omega
          have S1 := Sep.add (y := obThr (i : Int) th) J.ok Vd Z hnew
          have S2 := S1.upd0 ue
          have T2 : To x1 (Mc.feet (mc0 m ⟨A, T, N, L, B, P, S⟩ mp mv lv ms (none) fp fv draws tv ths)) xe (feet (Mc.obs (mc0 m ⟨A, T, N, L, B, P, S⟩ mp mv lv ms (none) fp fv draws tv ths) ++ [obThr (i : Int) th])) := ⟨Ve.mono (by simp), fun k hk => by
            rw [feet_app] at hk
            rcases List.mem_append.1 hk with h | h
            · exact .inl h
            · exact .inr (hnew k (by simpa [feet] using h))⟩
          have tz : To xe (obSl TTp 1 tv ths.length (ptrs ths)).foot xf (obSl TTp 1 (.slice tva (ths.length + 1) tvc) (ths.length + 1) (ptrs ths ++ [ptrV th.g])).foot := ⟨hGf.up, fun k hk => by
            rcases hGf.own k (by simpa [obSl] using hk) with h | h
            · exact .inl (by simpa [obSl] using h)
            · exact .inr h⟩
          have S3 := Sep.set (i := 4) (x := obSl TTp 1 tv ths.length (ptrs ths)) (y := obSl TTp 1 (.slice tva (ths.length + 1) tvc) (ths.length + 1) (ptrs ths ++ [ptrV th.g])) S2 rfl (by rw [hthg]; exact hsf) tz
          have T3 := T2.trans (To.set (l := Mc.obs (mc0 m ⟨A, T, N, L, B, P, S⟩ mp mv lv ms (none) fp fv draws tv ths) ++ [obThr (i : Int) th]) (i := 4) (x := obSl TTp 1 tv ths.length (ptrs ths)) rfl tz)
          have tm : To xf [m] xg [m] := ⟨ug, fun _ h => .inl h⟩
          have S4 := Sep.set (i := 0) (x := Mc.obM (mc0 m ⟨A, T, N, L, B, P, S⟩ mp mv lv ms (none) fp fv draws tv ths)) (y := Mc.obM (mc0 m ⟨A, T, N, L, B, P, S⟩ mp mv lv ms (none) fp fv draws (.slice tva (ths.length + 1) tvc) ths)) S3 rfl hg tm
          have T4 := T3.trans (To.set (i := 0) (x := Mc.obM (mc0 m ⟨A, T, N, L, B, P, S⟩ mp mv lv ms (none) fp fv draws tv ths)) (y := Mc.obM (mc0 m ⟨A, T, N, L, B, P, S⟩ mp mv lv ms (none) fp fv draws (.slice tva (ths.length + 1) tvc) ths)) rfl tm)
          have eo : Mc.obs (mc0 m ⟨A, T, N, L, B, P, S⟩ mp mv lv ms (none) fp fv draws (.slice tva (ths.length + 1) tvc) (ths ++ [th])) = (((Mc.obs (mc0 m ⟨A, T, N, L, B, P, S⟩ mp mv lv ms (none) fp fv draws tv ths) ++ [obThr (i : Int) th]).set 4 (obSl TTp 1 (.slice tva (ths.length + 1) tvc) (ths.length + 1) (ptrs ths ++ [ptrV th.g]))).set 0 (Mc.obM (mc0 m ⟨A, T, N, L, B, P, S⟩ mp mv lv ms (none) fp fv draws (.slice tva (ths.length + 1) tvc) ths))) := by
            have eo := obs_snoc (mc0 m ⟨A, T, N, L, B, P, S⟩ mp mv lv ms (none) fp fv draws tv ths) (.slice tva (ths.length + 1) tvc) th
            have el : ((mc0 m ⟨A, T, N, L, B, P, S⟩ mp mv lv ms (none) fp fv draws tv ths).ths.length : Int) = (i : Int) := by show (ths.length : Int) = _; rw [hpl]
            rw [el] at eo
            exact eo
          refine round_mk [.int .i64 ((i + 1 : Nat) : Int)] (t - (i + 1)) rfl rfl ⟨i + 1, .slice tva (ths.length + 1) tvc, ths ++ [th], rfl, by omega, rfl, by rw [List.length_append, hpl]; rfl, ?_, ?_, (hsc xf Uf).upd ug (by simp; exact fun h => hmg1 h.symm)⟩ (by omega)
          · intro t ht
            rcases List.mem_append.1 ht with h | h
            · exact hz t h
            · rw [List.mem_singleton.1 h, hth, hLn]
              exact ⟨_, _, _, _, rfl⟩
          · have P4 : Post x1 (mc0 m ⟨A, T, N, L, B, P, S⟩ mp mv lv ms (none) fp fv draws tv ths) xg (mc0 m ⟨A, T, N, L, B, P, S⟩ mp mv lv ms (none) fp fv draws (.slice tva (ths.length + 1) tvc) (ths ++ [th])) := by
              refine ⟨?_, ?_⟩
              · show Sep xg (Mc.obs (mc0 m ⟨A, T, N, L, B, P, S⟩ mp mv lv ms (none) fp fv draws (.slice tva (ths.length + 1) tvc) (ths ++ [th])))
                rw [eo]; exact S4
              · show To x1 (Mc.feet (mc0 m ⟨A, T, N, L, B, P, S⟩ mp mv lv ms (none) fp fv draws tv ths)) xg (feet (Mc.obs (mc0 m ⟨A, T, N, L, B, P, S⟩ mp mv lv ms (none) fp fv draws (.slice tva (ths.length + 1) tvc) (ths ++ [th]))))
                rw [eo]; exact T4
            exact J.post P4
        · refine mks l hL hL (by omega) (by omega) fun xb hb ub zb => ?_
          have Vb := Va.trans ub
          refine ⟨Vb.mono (by simp), ?_⟩
          refine mks l hL hL (by omega) (by omega) fun xc hc uc zc => ?_
          have Vc := Vb.trans uc
          refine ⟨Vc.mono (by simp), ?_⟩
          have sa := ((zeros_sl ha (by omega)).upd ub (by simp)).upd uc (by simp)
          have sb := (zeros_sl hb (by omega)).upd uc (by simp)
          have sc := zeros_sl hc (by omega)
          refine rq (.agg (thrC (i : Int) (.slice none 0 0) (0, 0, 0) (.slice (some ⟨xb.heap.size, 0, none⟩) l l) (.slice (some ⟨xa.heap.size, 0, none⟩) l l) (.slice (some ⟨x1.drew.heap.size, 0, none⟩) l l) (.slice none 0 0) (.slice none 0 0))) (fun _ _ => bd _ (fun _ => by kernel_rfl) ⟨rfl, rfl⟩) ?_
          refine bx fun xd hd ud zd => ?_
          have hd : Blk xd xc.heap.size TT (thrC (i : Int) (.slice none 0 0) (0, 0, 0) (.slice (some ⟨xb.heap.size, 0, none⟩) l l) (.slice (some ⟨xa.heap.size, 0, none⟩) l l) (.slice (some ⟨x1.drew.heap.size, 0, none⟩) l l) (.slice none 0 0) (.slice none 0 0)) := hd
          have Vd := Vc.trans ud
          refine ⟨Vd.mono (by simp), ?_⟩
          refine bs #[ptrV xc.heap.size] (fun _ => by kernel_rfl) fun xe he ue ze => ?_
          have Ve := Vd.trans ue
          refine ⟨Ve.mono (by simp), ?_⟩
          have zx := Vc.size
          have ex1 : x1.drew.heap.size = x1.heap.size := rfl
          refine apg (J.ok.tvs.upd Ve (by simp)) he rfl rfl (by decide) (by simp only [maxLen]; show ths.length + 1 ≤ _; omega) (by show (ths.length + 1) * 8 ≤ _; omega) fun tv2 xf hsf hGf => ?_
          have Uf : Upd tv.ownBlock.toList x1 xf := (Ve.mono (by simp)).trans hGf.up
          refine ⟨Uf, ?_⟩
          obtain ⟨tva, tvc, rfl, -⟩ := hsf.form
          replace hsf : Sl xf TTp 1 (.slice tva (ths.length + 1) tvc) (ths.length + 1) (ptrs ths ++ [ptrV xc.heap.size]) := hsf
          replace hGf : Grow xe xf tv (.slice tva (ths.length + 1) tvc) := hGf
          refine fa ?_
          refine st (hsb xf Uf) (by show 18 < 21; omega) rfl fun xg hg ug zg => ?_
          refine ar64 (by omega) ?_
          have Z : Sep xd ((thZ xc.heap.size (.slice (some ⟨xb.heap.size, 0, none⟩) l l) (.slice (some ⟨xa.heap.size, 0, none⟩) l l) (.slice (some ⟨x1.drew.heap.size, 0, none⟩) l l) l).obs (i : Int)) := thZ_sep hd ((sc).upd ud (by simp)) ((sb).upd ud (by simp)) ((sa).upd ud (by simp)) (by omega) (by omega) (by omega) (by omega) (by omega) (by omega)
          obtain ⟨th, hth⟩ : ∃ th, th = thZ xc.heap.size (.slice (some ⟨xb.heap.size, 0, none⟩) l l) (.slice (some ⟨xa.heap.size, 0, none⟩) l l) (.slice (some ⟨x1.drew.heap.size, 0, none⟩) l l) l := ⟨_, rfl⟩
          rw [← hth] at Z
          have hthg : th.g = xc.heap.size := by rw [hth]; rfl
          have hnew : ∀ k ∈ (obThr (i : Int) th).foot, x1.heap.size ≤ k := by
            rw [hth]
            show ∀ k ∈ feet _, _
            intro k hk
            simp [feet, Th.obs, obSl, obCore, thZ, Value.ownBlock] at hk
            rcases hk with rfl | rfl | rfl | rfl <;> omega
          have S1 := Sep.add (y := obThr (i : Int) th) J.ok Vd Z hnew
          have S2 := S1.upd0 ue
          have T2 : To x1 (Mc.feet (mc0 m ⟨A, T, N, L, B, P, S⟩ mp mv lv ms (none) fp fv draws tv ths)) xe (feet (Mc.obs (mc0 m ⟨A, T, N, L, B, P, S⟩ mp mv lv ms (none) fp fv draws tv ths) ++ [obThr (i : Int) th])) := ⟨Ve.mono (by simp), fun k hk => by
            rw [feet_app] at hk
            rcases List.mem_append.1 hk with h | h
            · exact .inl h
            · exact .inr (hnew k (by simpa [feet] using h))⟩
          have tz : To xe (obSl TTp 1 tv ths.length (ptrs ths)).foot xf (obSl TTp 1 (.slice tva (ths.length + 1) tvc) (ths.length + 1) (ptrs ths ++ [ptrV th.g])).foot := ⟨hGf.up, fun k hk => by
            rcases hGf.own k (by simpa [obSl] using hk) with h | h
            · exact .inl (by simpa [obSl] using h)
            · exact .inr h⟩
          have S3 := Sep.set (i := 4) (x := obSl TTp 1 tv ths.length (ptrs ths)) (y := obSl TTp 1 (.slice tva (ths.length + 1) tvc) (ths.length + 1) (ptrs ths ++ [ptrV th.g])) S2 rfl (by rw [hthg]; exact hsf) tz
          have T3 := T2.trans (To.set (l := Mc.obs (mc0 m ⟨A, T, N, L, B, P, S⟩ mp mv lv ms (none) fp fv draws tv ths) ++ [obThr (i : Int) th]) (i := 4) (x := obSl TTp 1 tv ths.length (ptrs ths)) rfl tz)
          have tm : To xf [m] xg [m] := ⟨ug, fun _ h => .inl h⟩
          have S4 := Sep.set (i := 0) (x := Mc.obM (mc0 m ⟨A, T, N, L, B, P, S⟩ mp mv lv ms (none) fp fv draws tv ths)) (y := Mc.obM (mc0 m ⟨A, T, N, L, B, P, S⟩ mp mv lv ms (none) fp fv draws (.slice tva (ths.length + 1) tvc) ths)) S3 rfl hg tm
          have T4 := T3.trans (To.set (i := 0) (x := Mc.obM (mc0 m ⟨A, T, N, L, B, P, S⟩ mp mv lv ms (none) fp fv draws tv ths)) (y := Mc.obM (mc0 m ⟨A, T, N, L, B, P, S⟩ mp mv lv ms (none) fp fv draws (.slice tva (ths.length + 1) tvc) ths)) rfl tm)
          have eo : Mc.obs (mc0 m ⟨A, T, N, L, B, P, S⟩ mp mv lv ms (none) fp fv draws (.slice tva (ths.length + 1) tvc) (ths ++ [th])) = (((Mc.obs (mc0 m ⟨A, T, N, L, B, P, S⟩ mp mv lv ms (none) fp fv draws tv ths) ++ [obThr (i : Int) th]).set 4 (obSl TTp 1 (.slice tva (ths.length + 1) tvc) (ths.length + 1) (ptrs ths ++ [ptrV th.g]))).set 0 (Mc.obM (mc0 m ⟨A, T, N, L, B, P, S⟩ mp mv lv ms (none) fp fv draws (.slice tva (ths.length + 1) tvc) ths))) := by
            have eo := obs_snoc (mc0 m ⟨A, T, N, L, B, P, S⟩ mp mv lv ms (none) fp fv draws tv ths) (.slice tva (ths.length + 1) tvc) th
            have el : ((mc0 m ⟨A, T, N, L, B, P, S⟩ mp mv lv ms (none) fp fv draws tv ths).ths.length : Int) = (i : Int) := by show (ths.length : Int) = _; rw [hpl]
            rw [el] at eo
            exact eo
          refine round_mk [.int .i64 ((i + 1 : Nat) : Int)] (t - (i + 1)) rfl rfl ⟨i + 1, .slice tva (ths.length + 1) tvc, ths ++ [th], rfl, by omega, rfl, by rw [List.length_append, hpl]; rfl, ?_, ?_, (hsc xf Uf).upd ug (by simp; exact fun h => hmg1 h.symm)⟩ (by omega)
          · intro t ht
            rcases List.mem_append.1 ht with h | h
            · exact hz t h
            · rw [List.mem_singleton.1 h, hth, hLn]
              exact ⟨_, _, _, _, rfl⟩
          · have P4 : Post x1 (mc0 m ⟨A, T, N, L, B, P, S⟩ mp mv lv ms (none) fp fv draws tv ths) xg (mc0 m ⟨A, T, N, L, B, P, S⟩ mp mv lv ms (none) fp fv draws (.slice tva (ths.length + 1) tvc) (ths ++ [th])) := by
              refine ⟨?_, ?_⟩
              · show Sep xg (Mc.obs (mc0 m ⟨A, T, N, L, B, P, S⟩ mp mv lv ms (none) fp fv draws (.slice tva (ths.length + 1) tvc) (ths ++ [th])))
                rw [eo]; exact S4
              · show To x1 (Mc.feet (mc0 m ⟨A, T, N, L, B, P, S⟩ mp mv lv ms (none) fp fv draws tv ths)) xg (feet (Mc.obs (mc0 m ⟨A, T, N, L, B, P, S⟩ mp mv lv ms (none) fp fv draws (.slice tva (ths.length + 1) tvc) (ths ++ [th]))))
                rw [eo]; exact T4
            exact J.post P4
    · have hi : i = t := by omega
      subst hi
      exact ⟨fun h => absurd hr h, fun _ => ⟨m, mp, mv, lv, fp, fv, _, tv, ths, rfl, J, by omega, hz, (fun _ => rfl), (fun h => (by cases h))⟩⟩
  | true =>
    refine draw_mix 6 [(0, true), (1, true), (2, true), (3, true), (4, false), (5, false)] (fun w' => Upd [] w9 w') (by decide +kernel) (Upd.refl [] w9).drew ?_
    refine q_fa ?_
    refine q_ld (v := .int .i64 N) (fun w' hw' => (hc9.upd hw' (by simp)).cell 2) ?_
    refine rq (.agg (planC ⟨A, T, N, L, B, P, S⟩)) (fun w' hw' => ldw (hp9.upd hw' (by simp)) rfl ⟨rfl, rfl⟩) ?_
    refine cl (sent_c A T N L B P S _) ?_
    rintro _ w10 ⟨rfl, hu10⟩
    have hu910 : Upd [] w9 w10 := (Upd.refl [] w9).drew.trans hu10
    refine ⟨hu910, ?_⟩
    refine cl (ghost_new2 N (sentP A) (by omega) (by omega) w10) ?_
    rintro _ w11 ⟨⟨gp, gv', rfl, hgp, hgv, hG⟩, hu11⟩
    have hu911 := hu910.trans hu11
    refine ⟨hu911, ?_⟩
    refine fa ?_
    have hb11 := hN9m.upd hu911 (by simp)
    have hb11 : Blk w11 m TM (machC ⟨A, T, N, L, B, P, S⟩ (ptrV mp) (.pointer none) (ptrV fp) (.slice none 0 0) false false) := hb11
    refine st hb11 (by show 16 < 21; omega) rfl fun w12 hb12 hu12 hs12 => ?_
    have hb12 : Blk w12 m TM (machC ⟨A, T, N, L, B, P, S⟩ (ptrV mp) (.pointer (some ⟨gp, 0, none⟩)) (ptrV fp) (.slice none 0 0) false false) := hb12
    have N12 : New w w12 (mc0 m ⟨A, T, N, L, B, P, S⟩ mp mv lv ms (some ⟨gp, gv', liveL N.toNat (sentP A).toNat, 0, 0⟩) fp fv draws (.slice none 0 0) []) := by
      have z910 := hu910.size
      have S9 := Sep.upd0 N9.ok hu910
      have ghn : ∀ k ∈ (obGh (some ⟨gp, gv', liveL N.toNat (sentP A).toNat, 0, 0⟩)).foot, w10.heap.size ≤ k := fun k hk => by
        rcases List.mem_cons.1 hk with h | h
        · rw [h]; exact hgp
        · exact hgv k (by simpa using h)
      have tg : To w10 (obGh none).foot w11 (obGh (some ⟨gp, gv', liveL N.toNat (sentP A).toNat, 0, 0⟩)).foot := ⟨hu11.mono (by simp), fun k hk => .inr (ghn k hk)⟩
      have S11 := Sep.set (i := 2) (x := obGh none) (y := obGh (some ⟨gp, gv', liveL N.toNat (sentP A).toNat, 0, 0⟩)) S9 rfl hG tg
      have T11 := To.set (l := Mc.obs (mc0 m ⟨A, T, N, L, B, P, S⟩ mp mv lv ms none fp fv draws (.slice none 0 0) [])) (i := 2) (x := obGh none) rfl tg
      have tm : To w11 [m] w12 [m] := ⟨hu12, fun _ h => .inl h⟩
      have S12 := Sep.set (i := 0) (x := Mc.obM (mc0 m ⟨A, T, N, L, B, P, S⟩ mp mv lv ms none fp fv draws (.slice none 0 0) [])) (y := Mc.obM (mc0 m ⟨A, T, N, L, B, P, S⟩ mp mv lv ms (some ⟨gp, gv', liveL N.toNat (sentP A).toNat, 0, 0⟩) fp fv draws (.slice none 0 0) [])) S11 rfl hb12 tm
      have T12 := ((To.of0 (Mc.feet (mc0 m ⟨A, T, N, L, B, P, S⟩ mp mv lv ms none fp fv draws (.slice none 0 0) [])) hu910).trans T11).trans (To.set (i := 0) (x := Mc.obM (mc0 m ⟨A, T, N, L, B, P, S⟩ mp mv lv ms none fp fv draws (.slice none 0 0) [])) (y := Mc.obM (mc0 m ⟨A, T, N, L, B, P, S⟩ mp mv lv ms (some ⟨gp, gv', liveL N.toNat (sentP A).toNat, 0, 0⟩) fp fv draws (.slice none 0 0) [])) rfl tm)
      exact N9.post ⟨S12, T12⟩
    have hc12 := (hc9.upd hu911 (by simp)).upd hu12 (by simp; exact fun h => hmg1 h.symm)
    refine fa ?_
    refine ldb (hc12) (v := .int .i64 T) rfl ?_
    obtain ⟨t, ht⟩ : ∃ t : Nat, T = (t : Int) := ⟨_, (Int.toNat_of_nonneg (by omega)).symm⟩
    refine loop_rule [3, 11, 49] [50] (fun vs w' k => ∃ (i : Nat) (tv : Value) (ths : List Th), vs = [.int .i64 (i : Int)] ∧ i ≤ t ∧ k = t - i ∧ ths.length = i ∧ (∀ t ∈ ths, ∃ g pv sv wv, t = thZ g pv sv wv L.toNat) ∧ New w w' (mc0 m ⟨A, T, N, L, B, P, S⟩ mp mv lv ms (some ⟨gp, gv', liveL N.toNat (sentP A).toNat, 0, 0⟩) fp fv draws tv ths) ∧ Blk w' g1 23 (cf7 ⟨A, T, N, L, B, P, S⟩)) rfl [.int .i64 0] t rfl
      ⟨0, _, _, rfl, by omega, rfl, rfl, (by simp), N12, hc12⟩ ?_
    rintro _ x1 k ⟨i, tv, ths, rfl, hi, rfl, hpl, hz, J, hx1⟩
    refine cd (fun hlt => ?_) (fun hlt => ?_)
    · obtain ⟨l, hL⟩ : ∃ l : Nat, L = (l : Int) := ⟨_, (Int.toNat_of_nonneg (by omega)).symm⟩
      have hLn : L.toNat = l := by omega
      have hne1 : tv.ownBlock ≠ some m := J.ok.tvs.blk_ne J.ok.blk (by decide)
      have hne2 : tv.ownBlock ≠ some g1 := J.ok.tvs.blk_ne hx1 (by decide)
      have hsb : ∀ w', Upd tv.ownBlock.toList x1 w' → Blk w' m TM (machC ⟨A, T, N, L, B, P, S⟩ (ptrV mp) (gvOf (some ⟨gp, gv', liveL N.toNat (sentP A).toNat, 0, 0⟩)) (ptrV fp) tv false false) := fun w' hu => J.ok.blk.upd hu (by show m ∉ _; simpa using hne1)
      have hsc : ∀ w', Upd tv.ownBlock.toList x1 w' → Blk w' g1 23 _ := fun w' hu => hx1.upd hu (by simpa using hne2)
      refine draw_tree 19 treeT (fun w' => Upd tv.ownBlock.toList x1 w') (by decide +kernel) (Upd.refl _ x1).drew ?_
      refine q_fa ?_
      refine q_ld (v := tv) (fun w' hw' => (hsb w' hw').cell 18) ?_
      refine q_fa ?_
      refine q_ld (v := .int .i64 L) (fun w' hw' => (hsc w' hw').cell 3) ?_
      refine q_fa ?_
      refine q_ld (v := .int .i64 L) (fun w' hw' => (hsc w' hw').cell 3) ?_
      refine q_fa ?_
      refine q_ld (v := .int .i64 L) (fun w' hw' => (hsc w' hw').cell 3) ?_
      have Us : Upd tv.ownBlock.toList x1 x1.drew := (Upd.refl _ x1).drew
      refine ⟨?_, ?_, ?_⟩
      · refine mks l hL hL (by omega) (by omega) fun xa ha ua za => ?_
        have Va := (Upd.refl [] x1).drew.trans ua
        refine ⟨Va.mono (by simp), ?_⟩
        refine ⟨?_, ?_⟩
        · refine mks l hL hL (by omega) (by omega) fun xb hb ub zb => ?_
          have Vb := Va.trans ub
          refine ⟨Vb.mono (by simp), ?_⟩
          refine mks l hL hL (by omega) (by omega) fun xc hc uc zc => ?_
          have Vc := Vb.trans uc
          refine ⟨Vc.mono (by simp), ?_⟩
          have sa := ((zeros_sl ha (by omega)).upd ub (by simp)).upd uc (by simp)
          have sb := (zeros_sl hb (by omega)).upd uc (by simp)
          have sc := zeros_sl hc (by omega)
          refine rq (.agg (thrC (i : Int) (.slice none 0 0) (0, 0, 0) (.slice (some ⟨x1.drew.heap.size, 0, none⟩) l l) (.slice (some ⟨xa.heap.size, 0, none⟩) l l) (.slice (some ⟨xb.heap.size, 0, none⟩) l l) (.slice none 0 0) (.slice none 0 0))) (fun _ _ => bd _ (fun _ => by kernel_rfl) ⟨rfl, rfl⟩) ?_
          refine bx fun xd hd ud zd => ?_
          have hd : Blk xd xc.heap.size TT (thrC (i : Int) (.slice none 0 0) (0, 0, 0) (.slice (some ⟨x1.drew.heap.size, 0, none⟩) l l) (.slice (some ⟨xa.heap.size, 0, none⟩) l l) (.slice (some ⟨xb.heap.size, 0, none⟩) l l) (.slice none 0 0) (.slice none 0 0)) := hd
          have Vd := Vc.trans ud
          refine ⟨Vd.mono (by simp), ?_⟩
          refine bs #[ptrV xc.heap.size] (fun _ => by kernel_rfl) fun xe he ue ze => ?_
          have Ve := Vd.trans ue
          refine ⟨Ve.mono (by simp), ?_⟩
          have zx := Vc.size
          have ex1 : x1.drew.heap.size = x1.heap.size := rfl
          refine apg (J.ok.tvs.upd Ve (by simp)) he rfl rfl (by decide) (by simp only [maxLen]; show ths.length + 1 ≤ _; omega) (by show (ths.length + 1) * 8 ≤ _; omega) fun tv2 xf hsf hGf => ?_
          have Uf : Upd tv.ownBlock.toList x1 xf := (Ve.mono (by simp)).trans hGf.up
          refine ⟨Uf, ?_⟩
          obtain ⟨tva, tvc, rfl, -⟩ := hsf.form
          replace hsf : Sl xf TTp 1 (.slice tva (ths.length + 1) tvc) (ths.length + 1) (ptrs ths ++ [ptrV xc.heap.size]) := hsf
          replace hGf : Grow xe xf tv (.slice tva (ths.length + 1) tvc) := hGf
          refine fa ?_
          refine st (hsb xf Uf) (by show 18 < 21; omega) rfl fun xg hg ug zg => ?_
          refine ar64 (by omega) ?_
          have Z : Sep xd ((thZ xc.heap.size (.slice (some ⟨x1.drew.heap.size, 0, none⟩) l l) (.slice (some ⟨xa.heap.size, 0, none⟩) l l) (.slice (some ⟨xb.heap.size, 0, none⟩) l l) l).obs (i : Int)) := thZ_sep hd ((sa).upd ud (by simp)) ((sb).upd ud (by simp)) ((sc).upd ud (by simp)) (by omega) (by omega) (by omega) (by omega) (by omega) (by omega)
          obtain ⟨th, hth⟩ : ∃ th, th = thZ xc.heap.size (.slice (some ⟨x1.drew.heap.size, 0, none⟩) l l) (.slice (some ⟨xa.heap.size, 0, none⟩) l l) (.slice (some ⟨xb.heap.size, 0, none⟩) l l) l := ⟨_, rfl⟩
          rw [← hth] at Z
          have hthg : th.g = xc.heap.size := by rw [hth]; rfl
          have hnew : ∀ k ∈ (obThr (i : Int) th).foot, x1.heap.size ≤ k := by
            rw [hth]
            show ∀ k ∈ feet _, _
            intro k hk
            simp [feet, Th.obs, obSl, obCore, thZ, Value.ownBlock] at hk
            rcases hk with rfl | rfl | rfl | rfl <;> omega
          have S1 := Sep.add (y := obThr (i : Int) th) J.ok Vd Z hnew
          have S2 := S1.upd0 ue
          have T2 : To x1 (Mc.feet (mc0 m ⟨A, T, N, L, B, P, S⟩ mp mv lv ms (some ⟨gp, gv', liveL N.toNat (sentP A).toNat, 0, 0⟩) fp fv draws tv ths)) xe (feet (Mc.obs (mc0 m ⟨A, T, N, L, B, P, S⟩ mp mv lv ms (some ⟨gp, gv', liveL N.toNat (sentP A).toNat, 0, 0⟩) fp fv draws tv ths) ++ [obThr (i : Int) th])) := ⟨Ve.mono (by simp), fun k hk => by
            rw [feet_app] at hk
            rcases List.mem_append.1 hk with h | h
            · exact .inl h
            · exact .inr (hnew k (by simpa [feet] using h))⟩
          have tz : To xe (obSl TTp 1 tv ths.length (ptrs ths)).foot xf (obSl TTp 1 (.slice tva (ths.length + 1) tvc) (ths.length + 1) (ptrs ths ++ [ptrV th.g])).foot := ⟨hGf.up, fun k hk => by
            rcases hGf.own k (by simpa [obSl] using hk) with h | h
            · exact .inl (by simpa [obSl] using h)
            · exact .inr h⟩
          have S3 := Sep.set (i := 4) (x := obSl TTp 1 tv ths.length (ptrs ths)) (y := obSl TTp 1 (.slice tva (ths.length + 1) tvc) (ths.length + 1) (ptrs ths ++ [ptrV th.g])) S2 rfl (by rw [hthg]; exact hsf) tz
          have T3 := T2.trans (To.set (l := Mc.obs (mc0 m ⟨A, T, N, L, B, P, S⟩ mp mv lv ms (some ⟨gp, gv', liveL N.toNat (sentP A).toNat, 0, 0⟩) fp fv draws tv ths) ++ [obThr (i : Int) th]) (i := 4) (x := obSl TTp 1 tv ths.length (ptrs ths)) rfl tz)
          have tm : To xf [m] xg [m] := ⟨ug, fun _ h => .inl h⟩
          have S4 := Sep.set (i := 0) (x := Mc.obM (mc0 m ⟨A, T, N, L, B, P, S⟩ mp mv lv ms (some ⟨gp, gv', liveL N.toNat (sentP A).toNat, 0, 0⟩) fp fv draws tv ths)) (y := Mc.obM (mc0 m ⟨A, T, N, L, B, P, S⟩ mp mv lv ms (some ⟨gp, gv', liveL N.toNat (sentP A).toNat, 0, 0⟩) fp fv draws (.slice tva (ths.length + 1) tvc) ths)) S3 rfl hg tm
          have T4 := T3.trans (To.set (i := 0) (x := Mc.obM (mc0 m ⟨A, T, N, L, B, P, S⟩ mp mv lv ms (some ⟨gp, gv', liveL N.toNat (sentP A).toNat, 0, 0⟩) fp fv draws tv ths)) (y := Mc.obM (mc0 m ⟨A, T, N, L, B, P, S⟩ mp mv lv ms (some ⟨gp, gv', liveL N.toNat (sentP A).toNat, 0, 0⟩) fp fv draws (.slice tva (ths.length + 1) tvc) ths)) rfl tm)
          have eo : Mc.obs (mc0 m ⟨A, T, N, L, B, P, S⟩ mp mv lv ms (some ⟨gp, gv', liveL N.toNat (sentP A).toNat, 0, 0⟩) fp fv draws (.slice tva (ths.length + 1) tvc) (ths ++ [th])) = (((Mc.obs (mc0 m ⟨A, T, N, L, B, P, S⟩ mp mv lv ms (some ⟨gp, gv', liveL N.toNat (sentP A).toNat, 0, 0⟩) fp fv draws tv ths) ++ [obThr (i : Int) th]).set 4 (obSl TTp 1 (.slice tva (ths.length + 1) tvc) (ths.length + 1) (ptrs ths ++ [ptrV th.g]))).set 0 (Mc.obM (mc0 m ⟨A, T, N, L, B, P, S⟩ mp mv lv ms (some ⟨gp, gv', liveL N.toNat (sentP A).toNat, 0, 0⟩) fp fv draws (.slice tva (ths.length + 1) tvc) ths))) := by
            have eo := obs_snoc (mc0 m ⟨A, T, N, L, B, P, S⟩ mp mv lv ms (some ⟨gp, gv', liveL N.toNat (sentP A).toNat, 0, 0⟩) fp fv draws tv ths) (.slice tva (ths.length + 1) tvc) th
            have el : ((mc0 m ⟨A, T, N, L, B, P, S⟩ mp mv lv ms (some ⟨gp, gv', liveL N.toNat (sentP A).toNat, 0, 0⟩) fp fv draws tv ths).ths.length : Int) = (i : Int) := by show (ths.length : Int) = _; rw [hpl]
            rw [el] at eo
            exact eo
          refine round_mk [.int .i64 ((i + 1 : Nat) : Int)] (t - (i + 1)) rfl rfl ⟨i + 1, .slice tva (ths.length + 1) tvc, ths ++ [th], rfl, by omega, rfl, by rw [List.length_append, hpl]; rfl, ?_, ?_, (hsc xf Uf).upd ug (by simp; exact fun h => hmg1 h.symm)⟩ (by omega)
          · intro t ht
            rcases List.mem_append.1 ht with h | h
            · exact hz t h
            · rw [List.mem_singleton.1 h, hth, hLn]
              exact ⟨_, _, _, _, rfl⟩
          · have P4 : Post x1 (mc0 m ⟨A, T, N, L, B, P, S⟩ mp mv lv ms (some ⟨gp, gv', liveL N.toNat (sentP A).toNat, 0, 0⟩) fp fv draws tv ths) xg (mc0 m ⟨A, T, N, L, B, P, S⟩ mp mv lv ms (some ⟨gp, gv', liveL N.toNat (sentP A).toNat, 0, 0⟩) fp fv draws (.slice tva (ths.length + 1) tvc) (ths ++ [th])) := by
              refine ⟨?_, ?_⟩
              · show Sep xg (Mc.obs (mc0 m ⟨A, T, N, L, B, P, S⟩ mp mv lv ms (some ⟨gp, gv', liveL N.toNat (sentP A).toNat, 0, 0⟩) fp fv draws (.slice tva (ths.length + 1) tvc) (ths ++ [th])))
                rw [eo]; exact S4
              · show To x1 (Mc.feet (mc0 m ⟨A, T, N, L, B, P, S⟩ mp mv lv ms (some ⟨gp, gv', liveL N.toNat (sentP A).toNat, 0, 0⟩) fp fv draws tv ths)) xg (feet (Mc.obs (mc0 m ⟨A, T, N, L, B, P, S⟩ mp mv lv ms (some ⟨gp, gv', liveL N.toNat (sentP A).toNat, 0, 0⟩) fp fv draws (.slice tva (ths.length + 1) tvc) (ths ++ [th]))))
                rw [eo]; exact T4
            exact J.post P4
        · refine mks l hL hL (by omega) (by omega) fun xb hb ub zb => ?_
          have Vb := Va.trans ub
          refine ⟨Vb.mono (by simp), ?_⟩
          refine mks l hL hL (by omega) (by omega) fun xc hc uc zc => ?_
          have Vc := Vb.trans uc
          refine ⟨Vc.mono (by simp), ?_⟩
          have sa := ((zeros_sl ha (by omega)).upd ub (by simp)).upd uc (by simp)
          have sb := (zeros_sl hb (by omega)).upd uc (by simp)
          have sc := zeros_sl hc (by omega)
          refine rq (.agg (thrC (i : Int) (.slice none 0 0) (0, 0, 0) (.slice (some ⟨x1.drew.heap.size, 0, none⟩) l l) (.slice (some ⟨xb.heap.size, 0, none⟩) l l) (.slice (some ⟨xa.heap.size, 0, none⟩) l l) (.slice none 0 0) (.slice none 0 0))) (fun _ _ => bd _ (fun _ => by kernel_rfl) ⟨rfl, rfl⟩) ?_
          refine bx fun xd hd ud zd => ?_
          have hd : Blk xd xc.heap.size TT (thrC (i : Int) (.slice none 0 0) (0, 0, 0) (.slice (some ⟨x1.drew.heap.size, 0, none⟩) l l) (.slice (some ⟨xb.heap.size, 0, none⟩) l l) (.slice (some ⟨xa.heap.size, 0, none⟩) l l) (.slice none 0 0) (.slice none 0 0)) := hd
          have Vd := Vc.trans ud
          refine ⟨Vd.mono (by simp), ?_⟩
          refine bs #[ptrV xc.heap.size] (fun _ => by kernel_rfl) fun xe he ue ze => ?_
          have Ve := Vd.trans ue
          refine ⟨Ve.mono (by simp), ?_⟩
          have zx := Vc.size
          have ex1 : x1.drew.heap.size = x1.heap.size := rfl
          refine apg (J.ok.tvs.upd Ve (by simp)) he rfl rfl (by decide) (by simp only [maxLen]; show ths.length + 1 ≤ _; omega) (by show (ths.length + 1) * 8 ≤ _; omega) fun tv2 xf hsf hGf => ?_
          have Uf : Upd tv.ownBlock.toList x1 xf := (Ve.mono (by simp)).trans hGf.up
          refine ⟨Uf, ?_⟩
          obtain ⟨tva, tvc, rfl, -⟩ := hsf.form
          replace hsf : Sl xf TTp 1 (.slice tva (ths.length + 1) tvc) (ths.length + 1) (ptrs ths ++ [ptrV xc.heap.size]) := hsf
          replace hGf : Grow xe xf tv (.slice tva (ths.length + 1) tvc) := hGf
          refine fa ?_
          refine st (hsb xf Uf) (by show 18 < 21; omega) rfl fun xg hg ug zg => ?_
          refine ar64 (by omega) ?_
          have Z : Sep xd ((thZ xc.heap.size (.slice (some ⟨x1.drew.heap.size, 0, none⟩) l l) (.slice (some ⟨xb.heap.size, 0, none⟩) l l) (.slice (some ⟨xa.heap.size, 0, none⟩) l l) l).obs (i : Int)) := thZ_sep hd ((sa).upd ud (by simp)) ((sc).upd ud (by simp)) ((sb).upd ud (by simp)) (by omega) (by omega) (by omega) (by omega) (by omega) (by omega)
          obtain ⟨th, hth⟩ : ∃ th, th = thZ xc.heap.size (.slice (some ⟨x1.drew.heap.size, 0, none⟩) l l) (.slice (some ⟨xb.heap.size, 0, none⟩) l l) (.slice (some ⟨xa.heap.size, 0, none⟩) l l) l := ⟨_, rfl⟩
          rw [← hth] at Z
          have hthg : th.g = xc.heap.size := by rw [hth]; rfl
          have hnew : ∀ k ∈ (obThr (i : Int) th).foot, x1.heap.size ≤ k := by
            rw [hth]
            show ∀ k ∈ feet _, _
            intro k hk
            simp [feet, Th.obs, obSl, obCore, thZ, Value.ownBlock] at hk
            rcases hk with rfl | rfl | rfl | rfl <;> omega
          have S1 := Sep.add (y := obThr (i : Int) th) J.ok Vd Z hnew
          have S2 := S1.upd0 ue
          have T2 : To x1 (Mc.feet (mc0 m ⟨A, T, N, L, B, P, S⟩ mp mv lv ms (some ⟨gp, gv', liveL N.toNat (sentP A).toNat, 0, 0⟩) fp fv draws tv ths)) xe (feet (Mc.obs (mc0 m ⟨A, T, N, L, B, P, S⟩ mp mv lv ms (some ⟨gp, gv', liveL N.toNat (sentP A).toNat, 0, 0⟩) fp fv draws tv ths) ++ [obThr (i : Int) th])) := ⟨Ve.mono (by simp), fun k hk => by
            rw [feet_app] at hk
            rcases List.mem_append.1 hk with h | h
            · exact .inl h
            · exact .inr (hnew k (by simpa [feet] using h))⟩
          have tz : To xe (obSl TTp 1 tv ths.length (ptrs ths)).foot xf (obSl TTp 1 (.slice tva (ths.length + 1) tvc) (ths.length + 1) (ptrs ths ++ [ptrV th.g])).foot := ⟨hGf.up, fun k hk => by
            rcases hGf.own k (by simpa [obSl] using hk) with h | h
            · exact .inl (by simpa [obSl] using h)
            · exact .inr h⟩
          have S3 := Sep.set (i := 4) (x := obSl TTp 1 tv ths.length (ptrs ths)) (y := obSl TTp 1 (.slice tva (ths.length + 1) tvc) (ths.length + 1) (ptrs ths ++ [ptrV th.g])) S2 rfl (by rw [hthg]; exact hsf) tz
          have T3 := T2.trans (To.set (l := Mc.obs (mc0 m ⟨A, T, N, L, B, P, S⟩ mp mv lv ms (some ⟨gp, gv', liveL N.toNat (sentP A).toNat, 0, 0⟩) fp fv draws tv ths) ++ [obThr (i : Int) th]) (i := 4) (x := obSl TTp 1 tv ths.length (ptrs ths)) rfl tz)
          have tm : To xf [m] xg [m] := ⟨ug, fun _ h => .inl h⟩
          have S4 := Sep.set (i := 0) (x := Mc.obM (mc0 m ⟨A, T, N, L, B, P, S⟩ mp mv lv ms (some ⟨gp, gv', liveL N.toNat (sentP A).toNat, 0, 0⟩) fp fv draws tv ths)) (y := Mc.obM (mc0 m ⟨A, T, N, L, B, P, S⟩ mp mv lv ms (some ⟨gp, gv', liveL N.toNat (sentP A).toNat, 0, 0⟩) fp fv draws (.slice tva (ths.length + 1) tvc) ths)) S3 rfl hg tm
          have T4 := T3.trans (To.set (i := 0) (x := Mc.obM (mc0 m ⟨A, T, N, L, B, P, S⟩ mp mv lv ms (some ⟨gp, gv', liveL N.toNat (sentP A).toNat, 0, 0⟩) fp fv draws tv ths)) (y := Mc.obM (mc0 m ⟨A, T, N, L, B, P, S⟩ mp mv lv ms (some ⟨gp, gv', liveL N.toNat (sentP A).toNat, 0, 0⟩) fp fv draws (.slice tva (ths.length + 1) tvc) ths)) rfl tm)
          have eo : Mc.obs (mc0 m ⟨A, T, N, L, B, P, S⟩ mp mv lv ms (some ⟨gp, gv', liveL N.toNat (sentP A).toNat, 0, 0⟩) fp fv draws (.slice tva (ths.length + 1) tvc) (ths ++ [th])) = (((Mc.obs (mc0 m ⟨A, T, N, L, B, P, S⟩ mp mv lv ms (some ⟨gp, gv', liveL N.toNat (sentP A).toNat, 0, 0⟩) fp fv draws tv ths) ++ [obThr (i : Int) th]).set 4 (obSl TTp 1 (.slice tva (ths.length + 1) tvc) (ths.length + 1) (ptrs ths ++ [ptrV th.g]))).set 0 (Mc.obM (mc0 m ⟨A, T, N, L, B, P, S⟩ mp mv lv ms (some ⟨gp, gv', liveL N.toNat (sentP A).toNat, 0, 0⟩) fp fv draws (.slice tva (ths.length + 1) tvc) ths))) := by
            have eo := obs_snoc (mc0 m ⟨A, T, N, L, B, P, S⟩ mp mv lv ms (some ⟨gp, gv', liveL N.toNat (sentP A).toNat, 0, 0⟩) fp fv draws tv ths) (.slice tva (ths.length + 1) tvc) th
            have el : ((mc0 m ⟨A, T, N, L, B, P, S⟩ mp mv lv ms (some ⟨gp, gv', liveL N.toNat (sentP A).toNat, 0, 0⟩) fp fv draws tv ths).ths.length : Int) = (i : Int) := by show (ths.length : Int) = _; rw [hpl]
            rw [el] at eo
            exact eo
          refine round_mk [.int .i64 ((i + 1 : Nat) : Int)] (t - (i + 1)) rfl rfl ⟨i + 1, .slice tva (ths.length + 1) tvc, ths ++ [th], rfl, by omega, rfl, by rw [List.length_append, hpl]; rfl, ?_, ?_, (hsc xf Uf).upd ug (by simp; exact fun h => hmg1 h.symm)⟩ (by omega)
          · intro t ht
            rcases List.mem_append.1 ht with h | h
            · exact hz t h
            · rw [List.mem_singleton.1 h, hth, hLn]
              exact ⟨_, _, _, _, rfl⟩
          · have P4 : Post x1 (mc0 m ⟨A, T, N, L, B, P, S⟩ mp mv lv ms (some ⟨gp, gv', liveL N.toNat (sentP A).toNat, 0, 0⟩) fp fv draws tv ths) xg (mc0 m ⟨A, T, N, L, B, P, S⟩ mp mv lv ms (some ⟨gp, gv', liveL N.toNat (sentP A).toNat, 0, 0⟩) fp fv draws (.slice tva (ths.length + 1) tvc) (ths ++ [th])) := by
              refine ⟨?_, ?_⟩
              · show Sep xg (Mc.obs (mc0 m ⟨A, T, N, L, B, P, S⟩ mp mv lv ms (some ⟨gp, gv', liveL N.toNat (sentP A).toNat, 0, 0⟩) fp fv draws (.slice tva (ths.length + 1) tvc) (ths ++ [th])))
                rw [eo]; exact S4
              · show To x1 (Mc.feet (mc0 m ⟨A, T, N, L, B, P, S⟩ mp mv lv ms (some ⟨gp, gv', liveL N.toNat (sentP A).toNat, 0, 0⟩) fp fv draws tv ths)) xg (feet (Mc.obs (mc0 m ⟨A, T, N, L, B, P, S⟩ mp mv lv ms (some ⟨gp, gv', liveL N.toNat (sentP A).toNat, 0, 0⟩) fp fv draws (.slice tva (ths.length + 1) tvc) (ths ++ [th]))))
                rw [eo]; exact T4
            exact J.post P4
      · refine mks l hL hL (by omega) (by omega) fun xa ha ua za => ?_
        have Va := (Upd.refl [] x1).drew.trans ua
        refine ⟨Va.mono (by simp), ?_⟩
        refine ⟨?_, ?_⟩
        · refine mks l hL hL (by omega) (by omega) fun xb hb ub zb => ?_
          have Vb := Va.trans ub
          refine ⟨Vb.mono (by simp), ?_⟩
          refine mks l hL hL (by omega) (by omega) fun xc hc uc zc => ?_
          have Vc := Vb.trans uc
          refine ⟨Vc.mono (by simp), ?_⟩
          have sa := ((zeros_sl ha (by omega)).upd ub (by simp)).upd uc (by simp)
          have sb := (zeros_sl hb (by omega)).upd uc (by simp)
          have sc := zeros_sl hc (by omega)
          refine rq (.agg (thrC (i : Int) (.slice none 0 0) (0, 0, 0) (.slice (some ⟨xa.heap.size, 0, none⟩) l l) (.slice (some ⟨x1.drew.heap.size, 0, none⟩) l l) (.slice (some ⟨xb.heap.size, 0, none⟩) l l) (.slice none 0 0) (.slice none 0 0))) (fun _ _ => bd _ (fun _ => by kernel_rfl) ⟨rfl, rfl⟩) ?_
          refine bx fun xd hd ud zd => ?_
          have hd : Blk xd xc.heap.size TT (thrC (i : Int) (.slice none 0 0) (0, 0, 0) (.slice (some ⟨xa.heap.size, 0, none⟩) l l) (.slice (some ⟨x1.drew.heap.size, 0, none⟩) l l) (.slice (some ⟨xb.heap.size, 0, none⟩) l l) (.slice none 0 0) (.slice none 0 0)) := hd
          have Vd := Vc.trans ud
          refine ⟨Vd.mono (by simp), ?_⟩
          refine bs #[ptrV xc.heap.size] (fun _ => by kernel_rfl) fun xe he ue ze => ?_
          have Ve := Vd.trans ue
          refine ⟨Ve.mono (by simp), ?_⟩
          have zx := Vc.size
          have ex1 : x1.drew.heap.size = x1.heap.size := rfl
          refine apg (J.ok.tvs.upd Ve (by simp)) he rfl rfl (by decide) (by simp only [maxLen]; show ths.length + 1 ≤ _; omega) (by show (ths.length + 1) * 8 ≤ _; omega) fun tv2 xf hsf hGf => ?_
          have Uf : Upd tv.ownBlock.toList x1 xf := (Ve.mono (by simp)).trans hGf.up
          refine ⟨Uf, ?_⟩
          obtain ⟨tva, tvc, rfl, -⟩ := hsf.form
          replace hsf : Sl xf TTp 1 (.slice tva (ths.length + 1) tvc) (ths.length + 1) (ptrs ths ++ [ptrV xc.heap.size]) := hsf
          replace hGf : Grow xe xf tv (.slice tva (ths.length + 1) tvc) := hGf
          refine fa ?_
          refine st (hsb xf Uf) (by show 18 < 21; omega) rfl fun xg hg ug zg => ?_
          refine ar64 (by omega) ?_
          have Z : Sep xd ((thZ xc.heap.size (.slice (some ⟨xa.heap.size, 0, none⟩) l l) (.slice (some ⟨x1.drew.heap.size, 0, none⟩) l l) (.slice (some ⟨xb.heap.size, 0, none⟩) l l) l).obs (i : Int)) := thZ_sep hd ((sb).upd ud (by simp)) ((sa).upd ud (by simp)) ((sc).upd ud (by simp)) (by omega) (by omega) (by omega) (by omega) (by omega) (by omega)
          obtain ⟨th, hth⟩ : ∃ th, th = thZ xc.heap.size (.slice (some ⟨xa.heap.size, 0, none⟩) l l) (.slice (some ⟨x1.drew.heap.size, 0, none⟩) l l) (.slice (some ⟨xb.heap.size, 0, none⟩) l l) l := ⟨_, rfl⟩
          rw [← hth] at Z
          have hthg : th.g = xc.heap.size := by rw [hth]; rfl
          have hnew : ∀ k ∈ (obThr (i : Int) th).foot, x1.heap.size ≤ k := by
            rw [hth]
            show ∀ k ∈ feet _, _
            intro k hk
            simp [feet, Th.obs, obSl, obCore, thZ, Value.ownBlock] at hk
            rcases hk with rfl | rfl | rfl | rfl <;> omega
          have S1 := Sep.add (y := obThr (i : Int) th) J.ok Vd Z hnew
          have S2 := S1.upd0 ue
          have T2 : To x1 (Mc.feet (mc0 m ⟨A, T, N, L, B, P, S⟩ mp mv lv ms (some ⟨gp, gv', liveL N.toNat (sentP A).toNat, 0, 0⟩) fp fv draws tv ths)) xe (feet (Mc.obs (mc0 m ⟨A, T, N, L, B, P, S⟩ mp mv lv ms (some ⟨gp, gv', liveL N.toNat (sentP A).toNat, 0, 0⟩) fp fv draws tv ths) ++ [obThr (i : Int) th])) := ⟨Ve.mono (by simp), fun k hk => by
            rw [feet_app] at hk
            rcases List.mem_append.1 hk with h | h
            · exact .inl h
            · exact .inr (hnew k (by simpa [feet] using h))⟩
          have tz : To xe (obSl TTp 1 tv ths.length (ptrs ths)).foot xf (obSl TTp 1 (.slice tva (ths.length + 1) tvc) (ths.length + 1) (ptrs ths ++ [ptrV th.g])).foot := ⟨hGf.up, fun k hk => by
            rcases hGf.own k (by simpa [obSl] using hk) with h | h
            · exact .inl (by simpa [obSl] using h)
            · exact .inr h⟩
          have S3 := Sep.set (i := 4) (x := obSl TTp 1 tv ths.length (ptrs ths)) (y := obSl TTp 1 (.slice tva (ths.length + 1) tvc) (ths.length + 1) (ptrs ths ++ [ptrV th.g])) S2 rfl (by rw [hthg]; exact hsf) tz
          have T3 := T2.trans (To.set (l := Mc.obs (mc0 m ⟨A, T, N, L, B, P, S⟩ mp mv lv ms (some ⟨gp, gv', liveL N.toNat (sentP A).toNat, 0, 0⟩) fp fv draws tv ths) ++ [obThr (i : Int) th]) (i := 4) (x := obSl TTp 1 tv ths.length (ptrs ths)) rfl tz)
          have tm : To xf [m] xg [m] := ⟨ug, fun _ h => .inl h⟩
          have S4 := Sep.set (i := 0) (x := Mc.obM (mc0 m ⟨A, T, N, L, B, P, S⟩ mp mv lv ms (some ⟨gp, gv', liveL N.toNat (sentP A).toNat, 0, 0⟩) fp fv draws tv ths)) (y := Mc.obM (mc0 m ⟨A, T, N, L, B, P, S⟩ mp mv lv ms (some ⟨gp, gv', liveL N.toNat (sentP A).toNat, 0, 0⟩) fp fv draws (.slice tva (ths.length + 1) tvc) ths)) S3 rfl hg tm
          have T4 := T3.trans (To.set (i := 0) (x := Mc.obM (mc0 m ⟨A, T, N, L, B, P, S⟩ mp mv lv ms (some ⟨gp, gv', liveL N.toNat (sentP A).toNat, 0, 0⟩) fp fv draws tv ths)) (y := Mc.obM (mc0 m ⟨A, T, N, L, B, P, S⟩ mp mv lv ms (some ⟨gp, gv', liveL N.toNat (sentP A).toNat, 0, 0⟩) fp fv draws (.slice tva (ths.length + 1) tvc) ths)) rfl tm)
          have eo : Mc.obs (mc0 m ⟨A, T, N, L, B, P, S⟩ mp mv lv ms (some ⟨gp, gv', liveL N.toNat (sentP A).toNat, 0, 0⟩) fp fv draws (.slice tva (ths.length + 1) tvc) (ths ++ [th])) = (((Mc.obs (mc0 m ⟨A, T, N, L, B, P, S⟩ mp mv lv ms (some ⟨gp, gv', liveL N.toNat (sentP A).toNat, 0, 0⟩) fp fv draws tv ths) ++ [obThr (i : Int) th]).set 4 (obSl TTp 1 (.slice tva (ths.length + 1) tvc) (ths.length + 1) (ptrs ths ++ [ptrV th.g]))).set 0 (Mc.obM (mc0 m ⟨A, T, N, L, B, P, S⟩ mp mv lv ms (some ⟨gp, gv', liveL N.toNat (sentP A).toNat, 0, 0⟩) fp fv draws (.slice tva (ths.length + 1) tvc) ths))) := by
            have eo := obs_snoc (mc0 m ⟨A, T, N, L, B, P, S⟩ mp mv lv ms (some ⟨gp, gv', liveL N.toNat (sentP A).toNat, 0, 0⟩) fp fv draws tv ths) (.slice tva (ths.length + 1) tvc) th
            have el : ((mc0 m ⟨A, T, N, L, B, P, S⟩ mp mv lv ms (some ⟨gp, gv', liveL N.toNat (sentP A).toNat, 0, 0⟩) fp fv draws tv ths).ths.length : Int) = (i : Int) := by show (ths.length : Int) = _; rw [hpl]
            rw [el] at eo
            exact eo
          refine round_mk [.int .i64 ((i + 1 : Nat) : Int)] (t - (i + 1)) rfl rfl ⟨i + 1, .slice tva (ths.length + 1) tvc, ths ++ [th], rfl, by omega, rfl, by rw [List.length_append, hpl]; rfl, ?_, ?_, (hsc xf Uf).upd ug (by simp; exact fun h => hmg1 h.symm)⟩ (by omega)
          · intro t ht
            rcases List.mem_append.1 ht with h | h
            · exact hz t h
            · rw [List.mem_singleton.1 h, hth, hLn]
              exact ⟨_, _, _, _, rfl⟩
          · have P4 : Post x1 (mc0 m ⟨A, T, N, L, B, P, S⟩ mp mv lv ms (some ⟨gp, gv', liveL N.toNat (sentP A).toNat, 0, 0⟩) fp fv draws tv ths) xg (mc0 m ⟨A, T, N, L, B, P, S⟩ mp mv lv ms (some ⟨gp, gv', liveL N.toNat (sentP A).toNat, 0, 0⟩) fp fv draws (.slice tva (ths.length + 1) tvc) (ths ++ [th])) := by
              refine ⟨?_, ?_⟩
              · show Sep xg (Mc.obs (mc0 m ⟨A, T, N, L, B, P, S⟩ mp mv lv ms (some ⟨gp, gv', liveL N.toNat (sentP A).toNat, 0, 0⟩) fp fv draws (.slice tva (ths.length + 1) tvc) (ths ++ [th])))
                rw [eo]; exact S4
              · show To x1 (Mc.feet (mc0 m ⟨A, T, N, L, B, P, S⟩ mp mv lv ms (some ⟨gp, gv', liveL N.toNat (sentP A).toNat, 0, 0⟩) fp fv draws tv ths)) xg (feet (Mc.obs (mc0 m ⟨A, T, N, L, B, P, S⟩ mp mv lv ms (some ⟨gp, gv', liveL N.toNat (sentP A).toNat, 0, 0⟩) fp fv draws (.slice tva (ths.length + 1) tvc) (ths ++ [th]))))
                rw [eo]; exact T4
            exact J.post P4
        · refine mks l hL hL (by omega) (by omega) fun xb hb ub zb => ?_
          have Vb := Va.trans ub
          refine ⟨Vb.mono (by simp), ?_⟩
          refine mks l hL hL (by omega) (by omega) fun xc hc uc zc => ?_
          have Vc := Vb.trans uc
          refine ⟨Vc.mono (by simp), ?_⟩
          have sa := ((zeros_sl ha (by omega)).upd ub (by simp)).upd uc (by simp)
          have sb := (zeros_sl hb (by omega)).upd uc (by simp)
          have sc := zeros_sl hc (by omega)
          refine rq (.agg (thrC (i : Int) (.slice none 0 0) (0, 0, 0) (.slice (some ⟨xb.heap.size, 0, none⟩) l l) (.slice (some ⟨x1.drew.heap.size, 0, none⟩) l l) (.slice (some ⟨xa.heap.size, 0, none⟩) l l) (.slice none 0 0) (.slice none 0 0))) (fun _ _ => bd _ (fun _ => by kernel_rfl) ⟨rfl, rfl⟩) ?_
          refine bx fun xd hd ud zd => ?_
          have hd : Blk xd xc.heap.size TT (thrC (i : Int) (.slice none 0 0) (0, 0, 0) (.slice (some ⟨xb.heap.size, 0, none⟩) l l) (.slice (some ⟨x1.drew.heap.size, 0, none⟩) l l) (.slice (some ⟨xa.heap.size, 0, none⟩) l l) (.slice none 0 0) (.slice none 0 0)) := hd
          have Vd := Vc.trans ud
          refine ⟨Vd.mono (by simp), ?_⟩
          refine bs #[ptrV xc.heap.size] (fun _ => by kernel_rfl) fun xe he ue ze => ?_
          have Ve := Vd.trans ue
          refine ⟨Ve.mono (by simp), ?_⟩
          have zx := Vc.size
          have ex1 : x1.drew.heap.size = x1.heap.size := rfl
          refine apg (J.ok.tvs.upd Ve (by simp)) he rfl rfl (by decide) (by simp only [maxLen]; show ths.length + 1 ≤ _; omega) (by show (ths.length + 1) * 8 ≤ _; omega) fun tv2 xf hsf hGf => ?_
          have Uf : Upd tv.ownBlock.toList x1 xf := (Ve.mono (by simp)).trans hGf.up
          refine ⟨Uf, ?_⟩
          obtain ⟨tva, tvc, rfl, -⟩ := hsf.form
          replace hsf : Sl xf TTp 1 (.slice tva (ths.length + 1) tvc) (ths.length + 1) (ptrs ths ++ [ptrV xc.heap.size]) := hsf
          replace hGf : Grow xe xf tv (.slice tva (ths.length + 1) tvc) := hGf
          refine fa ?_
          refine st (hsb xf Uf) (by show 18 < 21; omega) rfl fun xg hg ug zg => ?_
          refine ar64 (by omega) ?_
          have Z : Sep xd ((thZ xc.heap.size (.slice (some ⟨xb.heap.size, 0, none⟩) l l) (.slice (some ⟨x1.drew.heap.size, 0, none⟩) l l) (.slice (some ⟨xa.heap.size, 0, none⟩) l l) l).obs (i : Int)) := thZ_sep hd ((sc).upd ud (by simp)) ((sa).upd ud (by simp)) ((sb).upd ud (by simp)) (by omega) (by omega) (by omega) (by omega) (by omega) (by omega)
          obtain ⟨th, hth⟩ : ∃ th, th = thZ xc.heap.size (.slice (some ⟨xb.heap.size, 0, none⟩) l l) (.slice (some ⟨x1.drew.heap.size, 0, none⟩) l l) (.slice (some ⟨xa.heap.size, 0, none⟩) l l) l := ⟨_, rfl⟩
          rw [← hth] at Z
          have hthg : th.g = xc.heap.size := by rw [hth]; rfl
          have hnew : ∀ k ∈ (obThr (i : Int) th).foot, x1.heap.size ≤ k := by
            rw [hth]
            show ∀ k ∈ feet _, _
            intro k hk
            simp [feet, Th.obs, obSl, obCore, thZ, Value.ownBlock] at hk
            rcases hk with rfl | rfl | rfl | rfl <;> omega
          have S1 := Sep.add (y := obThr (i : Int) th) J.ok Vd Z hnew
          have S2 := S1.upd0 ue
          have T2 : To x1 (Mc.feet (mc0 m ⟨A, T, N, L, B, P, S⟩ mp mv lv ms (some ⟨gp, gv', liveL N.toNat (sentP A).toNat, 0, 0⟩) fp fv draws tv ths)) xe (feet (Mc.obs (mc0 m ⟨A, T, N, L, B, P, S⟩ mp mv lv ms (some ⟨gp, gv', liveL N.toNat (sentP A).toNat, 0, 0⟩) fp fv draws tv ths) ++ [obThr (i : Int) th])) := ⟨Ve.mono (by simp), fun k hk => by
            rw [feet_app] at hk
            rcases List.mem_append.1 hk with h | h
            · exact .inl h
            · exact .inr (hnew k (by simpa [feet] using h))⟩
          have tz : To xe (obSl TTp 1 tv ths.length (ptrs ths)).foot xf (obSl TTp 1 (.slice tva (ths.length + 1) tvc) (ths.length + 1) (ptrs ths ++ [ptrV th.g])).foot := ⟨hGf.up, fun k hk => by
            rcases hGf.own k (by simpa [obSl] using hk) with h | h
            · exact .inl (by simpa [obSl] using h)
            · exact .inr h⟩
          have S3 := Sep.set (i := 4) (x := obSl TTp 1 tv ths.length (ptrs ths)) (y := obSl TTp 1 (.slice tva (ths.length + 1) tvc) (ths.length + 1) (ptrs ths ++ [ptrV th.g])) S2 rfl (by rw [hthg]; exact hsf) tz
          have T3 := T2.trans (To.set (l := Mc.obs (mc0 m ⟨A, T, N, L, B, P, S⟩ mp mv lv ms (some ⟨gp, gv', liveL N.toNat (sentP A).toNat, 0, 0⟩) fp fv draws tv ths) ++ [obThr (i : Int) th]) (i := 4) (x := obSl TTp 1 tv ths.length (ptrs ths)) rfl tz)
          have tm : To xf [m] xg [m] := ⟨ug, fun _ h => .inl h⟩
          have S4 := Sep.set (i := 0) (x := Mc.obM (mc0 m ⟨A, T, N, L, B, P, S⟩ mp mv lv ms (some ⟨gp, gv', liveL N.toNat (sentP A).toNat, 0, 0⟩) fp fv draws tv ths)) (y := Mc.obM (mc0 m ⟨A, T, N, L, B, P, S⟩ mp mv lv ms (some ⟨gp, gv', liveL N.toNat (sentP A).toNat, 0, 0⟩) fp fv draws (.slice tva (ths.length + 1) tvc) ths)) S3 rfl hg tm
          have T4 := T3.trans (To.set (i := 0) (x := Mc.obM (mc0 m ⟨A, T, N, L, B, P, S⟩ mp mv lv ms (some ⟨gp, gv', liveL N.toNat (sentP A).toNat, 0, 0⟩) fp fv draws tv ths)) (y := Mc.obM (mc0 m ⟨A, T, N, L, B, P, S⟩ mp mv lv ms (some ⟨gp, gv', liveL N.toNat (sentP A).toNat, 0, 0⟩) fp fv draws (.slice tva (ths.length + 1) tvc) ths)) rfl tm)
          have eo : Mc.obs (mc0 m ⟨A, T, N, L, B, P, S⟩ mp mv lv ms (some ⟨gp, gv', liveL N.toNat (sentP A).toNat, 0, 0⟩) fp fv draws (.slice tva (ths.length + 1) tvc) (ths ++ [th])) = (((Mc.obs (mc0 m ⟨A, T, N, L, B, P, S⟩ mp mv lv ms (some ⟨gp, gv', liveL N.toNat (sentP A).toNat, 0, 0⟩) fp fv draws tv ths) ++ [obThr (i : Int) th]).set 4 (obSl TTp 1 (.slice tva (ths.length + 1) tvc) (ths.length + 1) (ptrs ths ++ [ptrV th.g]))).set 0 (Mc.obM (mc0 m ⟨A, T, N, L, B, P, S⟩ mp mv lv ms (some ⟨gp, gv', liveL N.toNat (sentP A).toNat, 0, 0⟩) fp fv draws (.slice tva (ths.length + 1) tvc) ths))) := by
            have eo := obs_snoc (mc0 m ⟨A, T, N, L, B, P, S⟩ mp mv lv ms (some ⟨gp, gv', liveL N.toNat (sentP A).toNat, 0, 0⟩) fp fv draws tv ths) (.slice tva (ths.length + 1) tvc) th
            have el : ((mc0 m ⟨A, T, N, L, B, P, S⟩ mp mv lv ms (some ⟨gp, gv', liveL N.toNat (sentP A).toNat, 0, 0⟩) fp fv draws tv ths).ths.length : Int) = (i : Int) := by show (ths.length : Int) = _; rw [hpl]
            rw [el] at eo
            exact eo
          refine round_mk [.int .i64 ((i + 1 : Nat) : Int)] (t - (i + 1)) rfl rfl ⟨i + 1, .slice tva (ths.length + 1) tvc, ths ++ [th], rfl, by omega, rfl, by rw [List.length_append, hpl]; rfl, ?_, ?_, (hsc xf Uf).upd ug (by simp; exact fun h => hmg1 h.symm)⟩ (by omega)
          · intro t ht
            rcases List.mem_append.1 ht with h | h
            · exact hz t h
            · rw [List.mem_singleton.1 h, hth, hLn]
              exact ⟨_, _, _, _, rfl⟩
          · have P4 : Post x1 (mc0 m ⟨A, T, N, L, B, P, S⟩ mp mv lv ms (some ⟨gp, gv', liveL N.toNat (sentP A).toNat, 0, 0⟩) fp fv draws tv ths) xg (mc0 m ⟨A, T, N, L, B, P, S⟩ mp mv lv ms (some ⟨gp, gv', liveL N.toNat (sentP A).toNat, 0, 0⟩) fp fv draws (.slice tva (ths.length + 1) tvc) (ths ++ [th])) := by
              refine ⟨?_, ?_⟩
              · show Sep xg (Mc.obs (mc0 m ⟨A, T, N, L, B, P, S⟩ mp mv lv ms (some ⟨gp, gv', liveL N.toNat (sentP A).toNat, 0, 0⟩) fp fv draws (.slice tva (ths.length + 1) tvc) (ths ++ [th])))
                rw [eo]; exact S4
              · show To x1 (Mc.feet (mc0 m ⟨A, T, N, L, B, P, S⟩ mp mv lv ms (some ⟨gp, gv', liveL N.toNat (sentP A).toNat, 0, 0⟩) fp fv draws tv ths)) xg (feet (Mc.obs (mc0 m ⟨A, T, N, L, B, P, S⟩ mp mv lv ms (some ⟨gp, gv', liveL N.toNat (sentP A).toNat, 0, 0⟩) fp fv draws (.slice tva (ths.length + 1) tvc) (ths ++ [th]))))
                rw [eo]; exact T4
            exact J.post P4
      · refine mks l hL hL (by omega) (by omega) fun xa ha ua za => ?_
        have Va := (Upd.refl [] x1).drew.trans ua
        refine ⟨Va.mono (by simp), ?_⟩
        refine ⟨?_, ?_⟩
        · refine mks l hL hL (by omega) (by omega) fun xb hb ub zb => ?_
          have Vb := Va.trans ub
          refine ⟨Vb.mono (by simp), ?_⟩
          refine mks l hL hL (by omega) (by omega) fun xc hc uc zc => ?_
          have Vc := Vb.trans uc
          refine ⟨Vc.mono (by simp), ?_⟩
          have sa := ((zeros_sl ha (by omega)).upd ub (by simp)).upd uc (by simp)
          have sb := (zeros_sl hb (by omega)).upd uc (by simp)
          have sc := zeros_sl hc (by omega)
          refine rq (.agg (thrC (i : Int) (.slice none 0 0) (0, 0, 0) (.slice (some ⟨xa.heap.size, 0, none⟩) l l) (.slice (some ⟨xb.heap.size, 0, none⟩) l l) (.slice (some ⟨x1.drew.heap.size, 0, none⟩) l l) (.slice none 0 0) (.slice none 0 0))) (fun _ _ => bd _ (fun _ => by kernel_rfl) ⟨rfl, rfl⟩) ?_
          refine bx fun xd hd ud zd => ?_
          have hd : Blk xd xc.heap.size TT (thrC (i : Int) (.slice none 0 0) (0, 0, 0) (.slice (some ⟨xa.heap.size, 0, none⟩) l l) (.slice (some ⟨xb.heap.size, 0, none⟩) l l) (.slice (some ⟨x1.drew.heap.size, 0, none⟩) l l) (.slice none 0 0) (.slice none 0 0)) := hd
          have Vd := Vc.trans ud
          refine ⟨Vd.mono (by simp), ?_⟩
          refine bs #[ptrV xc.heap.size] (fun _ => by kernel_rfl) fun xe he ue ze => ?_
          have Ve := Vd.trans ue
          refine ⟨Ve.mono (by simp), ?_⟩
          have zx := Vc.size
          have ex1 : x1.drew.heap.size = x1.heap.size := rfl
          refine apg (J.ok.tvs.upd Ve (by simp)) he rfl rfl (by decide) (by simp only [maxLen]; show ths.length + 1 ≤ _; omega) (by show (ths.length + 1) * 8 ≤ _; omega) fun tv2 xf hsf hGf => ?_
          have Uf : Upd tv.ownBlock.toList x1 xf := (Ve.mono (by simp)).trans hGf.up
          refine ⟨Uf, ?_⟩
          obtain ⟨tva, tvc, rfl, -⟩ := hsf.form
          replace hsf : Sl xf TTp 1 (.slice tva (ths.length + 1) tvc) (ths.length + 1) (ptrs ths ++ [ptrV xc.heap.size]) := hsf
          replace hGf : Grow xe xf tv (.slice tva (ths.length + 1) tvc) := hGf
          refine fa ?_
          refine st (hsb xf Uf) (by show 18 < 21; omega) rfl fun xg hg ug zg => ?_
          refine ar64 (by omega) ?_
          have Z : Sep xd ((thZ xc.heap.size (.slice (some ⟨xa.heap.size, 0, none⟩) l l) (.slice (some ⟨xb.heap.size, 0, none⟩) l l) (.slice (some ⟨x1.drew.heap.size, 0, none⟩) l l) l).obs (i : Int)) := thZ_sep hd ((sb).upd ud (by simp)) ((sc).upd ud (by simp)) ((sa).upd ud (by simp)) (by omega) (by omega) (by omega) (by omega) (by omega) (by omega)
          obtain ⟨th, hth⟩ : ∃ th, th = thZ xc.heap.size (.slice (some ⟨xa.heap.size, 0, none⟩) l l) (.slice (some ⟨xb.heap.size, 0, none⟩) l l) (.slice (some ⟨x1.drew.heap.size, 0, none⟩) l l) l := ⟨_, rfl⟩
          rw [← hth] at Z
          have hthg : th.g = xc.heap.size := by rw [hth]; rfl
          have hnew : ∀ k ∈ (obThr (i : Int) th).foot, x1.heap.size ≤ k := by
            rw [hth]
            show ∀ k ∈ feet _, _
            intro k hk
            simp [feet, Th.obs, obSl, obCore, thZ, Value.ownBlock] at hk
            rcases hk with rfl | rfl | rfl | rfl <;> omega
          have S1 := Sep.add (y := obThr (i : Int) th) J.ok Vd Z hnew
          have S2 := S1.upd0 ue
          have T2 : To x1 (Mc.feet (mc0 m ⟨A, T, N, L, B, P, S⟩ mp mv lv ms (some ⟨gp, gv', liveL N.toNat (sentP A).toNat, 0, 0⟩) fp fv draws tv ths)) xe (feet (Mc.obs (mc0 m ⟨A, T, N, L, B, P, S⟩ mp mv lv ms (some ⟨gp, gv', liveL N.toNat (sentP A).toNat, 0, 0⟩) fp fv draws tv ths) ++ [obThr (i : Int) th])) := ⟨Ve.mono (by simp), fun k hk => by
            rw [feet_app] at hk
            rcases List.mem_append.1 hk with h | h
            · exact .inl h
            · exact .inr (hnew k (by simpa [feet] using h))⟩
          have tz : To xe (obSl TTp 1 tv ths.length (ptrs ths)).foot xf (obSl TTp 1 (.slice tva (ths.length + 1) tvc) (ths.length + 1) (ptrs ths ++ [ptrV th.g])).foot := ⟨hGf.up, fun k hk => by
            rcases hGf.own k (by simpa [obSl] using hk) with h | h
            · exact .inl (by simpa [obSl] using h)
            · exact .inr h⟩
          have S3 := Sep.set (i := 4) (x := obSl TTp 1 tv ths.length (ptrs ths)) (y := obSl TTp 1 (.slice tva (ths.length + 1) tvc) (ths.length + 1) (ptrs ths ++ [ptrV th.g])) S2 rfl (by rw [hthg]; exact hsf) tz
          have T3 := T2.trans (To.set (l := Mc.obs (mc0 m ⟨A, T, N, L, B, P, S⟩ mp mv lv ms (some ⟨gp, gv', liveL N.toNat (sentP A).toNat, 0, 0⟩) fp fv draws tv ths) ++ [obThr (i : Int) th]) (i := 4) (x := obSl TTp 1 tv ths.length (ptrs ths)) rfl tz)
          have tm : To xf [m] xg [m] := ⟨ug, fun _ h => .inl h⟩
          have S4 := Sep.set (i := 0) (x := Mc.obM (mc0 m ⟨A, T, N, L, B, P, S⟩ mp mv lv ms (some ⟨gp, gv', liveL N.toNat (sentP A).toNat, 0, 0⟩) fp fv draws tv ths)) (y := Mc.obM (mc0 m ⟨A, T, N, L, B, P, S⟩ mp mv lv ms (some ⟨gp, gv', liveL N.toNat (sentP A).toNat, 0, 0⟩) fp fv draws (.slice tva (ths.length + 1) tvc) ths)) S3 rfl hg tm
          have T4 := T3.trans (To.set (i := 0) (x := Mc.obM (mc0 m ⟨A, T, N, L, B, P, S⟩ mp mv lv ms (some ⟨gp, gv', liveL N.toNat (sentP A).toNat, 0, 0⟩) fp fv draws tv ths)) (y := Mc.obM (mc0 m ⟨A, T, N, L, B, P, S⟩ mp mv lv ms (some ⟨gp, gv', liveL N.toNat (sentP A).toNat, 0, 0⟩) fp fv draws (.slice tva (ths.length + 1) tvc) ths)) rfl tm)
          have eo : Mc.obs (mc0 m ⟨A, T, N, L, B, P, S⟩ mp mv lv ms (some ⟨gp, gv', liveL N.toNat (sentP A).toNat, 0, 0⟩) fp fv draws (.slice tva (ths.length + 1) tvc) (ths ++ [th])) = (((Mc.obs (mc0 m ⟨A, T, N, L, B, P, S⟩ mp mv lv ms (some ⟨gp, gv', liveL N.toNat (sentP A).toNat, 0, 0⟩) fp fv draws tv ths) ++ [obThr (i : Int) th]).set 4 (obSl TTp 1 (.slice tva (ths.length + 1) tvc) (ths.length + 1) (ptrs ths ++ [ptrV th.g]))).set 0 (Mc.obM (mc0 m ⟨A, T, N, L, B, P, S⟩ mp mv lv ms (some ⟨gp, gv', liveL N.toNat (sentP A).toNat, 0, 0⟩) fp fv draws (.slice tva (ths.length + 1) tvc) ths))) := by
            have eo := obs_snoc (mc0 m ⟨A, T, N, L, B, P, S⟩ mp mv lv ms (some ⟨gp, gv', liveL N.toNat (sentP A).toNat, 0, 0⟩) fp fv draws tv ths) (.slice tva (ths.length + 1) tvc) th
            have el : ((mc0 m ⟨A, T, N, L, B, P, S⟩ mp mv lv ms (some ⟨gp, gv', liveL N.toNat (sentP A).toNat, 0, 0⟩) fp fv draws tv ths).ths.length : Int) = (i : Int) := by show (ths.length : Int) = _; rw [hpl]
            rw [el] at eo
            exact eo
          refine round_mk [.int .i64 ((i + 1 : Nat) : Int)] (t - (i + 1)) rfl rfl ⟨i + 1, .slice tva (ths.length + 1) tvc, ths ++ [th], rfl, by omega, rfl, by rw [List.length_append, hpl]; rfl, ?_, ?_, (hsc xf Uf).upd ug (by simp; exact fun h => hmg1 h.symm)⟩ (by omega)
          · intro t ht
            rcases List.mem_append.1 ht with h | h
            · exact hz t h
            · rw [List.mem_singleton.1 h, hth, hLn]
              exact ⟨_, _, _, _, rfl⟩
          · have P4 : Post x1 (mc0 m ⟨A, T, N, L, B, P, S⟩ mp mv lv ms (some ⟨gp, gv', liveL N.toNat (sentP A).toNat, 0, 0⟩) fp fv draws tv ths) xg (mc0 m ⟨A, T, N, L, B, P, S⟩ mp mv lv ms (some ⟨gp, gv', liveL N.toNat (sentP A).toNat, 0, 0⟩) fp fv draws (.slice tva (ths.length + 1) tvc) (ths ++ [th])) := by
              refine ⟨?_, ?_⟩
              · show Sep xg (Mc.obs (mc0 m ⟨A, T, N, L, B, P, S⟩ mp mv lv ms (some ⟨gp, gv', liveL N.toNat (sentP A).toNat, 0, 0⟩) fp fv draws (.slice tva (ths.length + 1) tvc) (ths ++ [th])))
                rw [eo]; exact S4
              · show To x1 (Mc.feet (mc0 m ⟨A, T, N, L, B, P, S⟩ mp mv lv ms (some ⟨gp, gv', liveL N.toNat (sentP A).toNat, 0, 0⟩) fp fv draws tv ths)) xg (feet (Mc.obs (mc0 m ⟨A, T, N, L, B, P, S⟩ mp mv lv ms (some ⟨gp, gv', liveL N.toNat (sentP A).toNat, 0, 0⟩) fp fv draws (.slice tva (ths.length + 1) tvc) (ths ++ [th]))))
                rw [eo]; exact T4
            exact J.post P4
        · refine mks l hL hL (by omega) (by omega) fun xb hb ub zb => ?_
          have Vb := Va.trans ub
          refine ⟨Vb.mono (by simp), ?_⟩
          refine mks l hL hL (by omega) (by omega) fun xc hc uc zc => ?_
          have Vc := Vb.trans uc
          refine ⟨Vc.mono (by simp), ?_⟩
          have sa := ((zeros_sl ha (by omega)).upd ub (by simp)).upd uc (by simp)
          have sb := (zeros_sl hb (by omega)).upd uc (by simp)
          have sc := zeros_sl hc (by omega)
          refine rq (.agg (thrC (i : Int) (.slice none 0 0) (0, 0, 0) (.slice (some ⟨xb.heap.size, 0, none⟩) l l) (.slice (some ⟨xa.heap.size, 0, none⟩) l l) (.slice (some ⟨x1.drew.heap.size, 0, none⟩) l l) (.slice none 0 0) (.slice none 0 0))) (fun _ _ => bd _ (fun _ => by kernel_rfl) ⟨rfl, rfl⟩) ?_
          refine bx fun xd hd ud zd => ?_
          have hd : Blk xd xc.heap.size TT (thrC (i : Int) (.slice none 0 0) (0, 0, 0) (.slice (some ⟨xb.heap.size, 0, none⟩) l l) (.slice (some ⟨xa.heap.size, 0, none⟩) l l) (.slice (some ⟨x1.drew.heap.size, 0, none⟩) l l) (.slice none 0 0) (.slice none 0 0)) := hd
          have Vd := Vc.trans ud
          refine ⟨Vd.mono (by simp), ?_⟩
          refine bs #[ptrV xc.heap.size] (fun _ => by kernel_rfl) fun xe he ue ze => ?_
          have Ve := Vd.trans ue
          refine ⟨Ve.mono (by simp), ?_⟩
          have zx := Vc.size
          have ex1 : x1.drew.heap.size = x1.heap.size := rfl
          refine apg (J.ok.tvs.upd Ve (by simp)) he rfl rfl (by decide) (by simp only [maxLen]; show ths.length + 1 ≤ _; omega) (by show (ths.length + 1) * 8 ≤ _; omega) fun tv2 xf hsf hGf => ?_
          have Uf : Upd tv.ownBlock.toList x1 xf := (Ve.mono (by simp)).trans hGf.up
          refine ⟨Uf, ?_⟩
          obtain ⟨tva, tvc, rfl, -⟩ := hsf.form
          replace hsf : Sl xf TTp 1 (.slice tva (ths.length + 1) tvc) (ths.length + 1) (ptrs ths ++ [ptrV xc.heap.size]) := hsf
          replace hGf : Grow xe xf tv (.slice tva (ths.length + 1) tvc) := hGf
          refine fa ?_
          refine st (hsb xf Uf) (by show 18 < 21; omega) rfl fun xg hg ug zg => ?_
          refine ar64 (by omega) ?_
          have Z : Sep xd ((thZ xc.heap.size (.slice (some ⟨xb.heap.size, 0, none⟩) l l) (.slice (some ⟨xa.heap.size, 0, none⟩) l l) (.slice (some ⟨x1.drew.heap.size, 0, none⟩) l l) l).obs (i : Int)) := thZ_sep hd ((sc).upd ud (by simp)) ((sb).upd ud (by simp)) ((sa).upd ud (by simp)) (by omega) (by omega) (by omega) (by omega) (by omega) (by omega)
          obtain ⟨th, hth⟩ : ∃ th, th = thZ xc.heap.size (.slice (some ⟨xb.heap.size, 0, none⟩) l l) (.slice (some ⟨xa.heap.size, 0, none⟩) l l) (.slice (some ⟨x1.drew.heap.size, 0, none⟩) l l) l := ⟨_, rfl⟩
          rw [← hth] at Z
          have hthg : th.g = xc.heap.size := by rw [hth]; rfl
          have hnew : ∀ k ∈ (obThr (i : Int) th).foot, x1.heap.size ≤ k := by
            rw [hth]
            show ∀ k ∈ feet _, _
            intro k hk
            simp [feet, Th.obs, obSl, obCore, thZ, Value.ownBlock] at hk
            rcases hk with rfl | rfl | rfl | rfl <;> omega
          have S1 := Sep.add (y := obThr (i : Int) th) J.ok Vd Z hnew
          have S2 := S1.upd0 ue
          have T2 : To x1 (Mc.feet (mc0 m ⟨A, T, N, L, B, P, S⟩ mp mv lv ms (some ⟨gp, gv', liveL N.toNat (sentP A).toNat, 0, 0⟩) fp fv draws tv ths)) xe (feet (Mc.obs (mc0 m ⟨A, T, N, L, B, P, S⟩ mp mv lv ms (some ⟨gp, gv', liveL N.toNat (sentP A).toNat, 0, 0⟩) fp fv draws tv ths) ++ [obThr (i : Int) th])) := ⟨Ve.mono (by simp), fun k hk => by
            rw [feet_app] at hk
            rcases List.mem_append.1 hk with h | h
            · exact .inl h
            · exact .inr (hnew k (by simpa [feet] using h))⟩
          have tz : To xe (obSl TTp 1 tv ths.length (ptrs ths)).foot xf (obSl TTp 1 (.slice tva (ths.length + 1) tvc) (ths.length + 1) (ptrs ths ++ [ptrV th.g])).foot := ⟨hGf.up, fun k hk => by
            rcases hGf.own k (by simpa [obSl] using hk) with h | h
            · exact .inl (by simpa [obSl] using h)
            · exact .inr h⟩
          have S3 := Sep.set (i := 4) (x := obSl TTp 1 tv ths.length (ptrs ths)) (y := obSl TTp 1 (.slice tva (ths.length + 1) tvc) (ths.length + 1) (ptrs ths ++ [ptrV th.g])) S2 rfl (by rw [hthg]; exact hsf) tz
          have T3 := T2.trans (To.set (l := Mc.obs (mc0 m ⟨A, T, N, L, B, P, S⟩ mp mv lv ms (some ⟨gp, gv', liveL N.toNat (sentP A).toNat, 0, 0⟩) fp fv draws tv ths) ++ [obThr (i : Int) th]) (i := 4) (x := obSl TTp 1 tv ths.length (ptrs ths)) rfl tz)
          have tm : To xf [m] xg [m] := ⟨ug, fun _ h => .inl h⟩
          have S4 := Sep.set (i := 0) (x := Mc.obM (mc0 m ⟨A, T, N, L, B, P, S⟩ mp mv lv ms (some ⟨gp, gv', liveL N.toNat (sentP A).toNat, 0, 0⟩) fp fv draws tv ths)) (y := Mc.obM (mc0 m ⟨A, T, N, L, B, P, S⟩ mp mv lv ms (some ⟨gp, gv', liveL N.toNat (sentP A).toNat, 0, 0⟩) fp fv draws (.slice tva (ths.length + 1) tvc) ths)) S3 rfl hg tm
          have T4 := T3.trans (To.set (i := 0) (x := Mc.obM (mc0 m ⟨A, T, N, L, B, P, S⟩ mp mv lv ms (some ⟨gp, gv', liveL N.toNat (sentP A).toNat, 0, 0⟩) fp fv draws tv ths)) (y := Mc.obM (mc0 m ⟨A, T, N, L, B, P, S⟩ mp mv lv ms (some ⟨gp, gv', liveL N.toNat (sentP A).toNat, 0, 0⟩) fp fv draws (.slice tva (ths.length + 1) tvc) ths)) rfl tm)
          have eo : Mc.obs (mc0 m ⟨A, T, N, L, B, P, S⟩ mp mv lv ms (some ⟨gp, gv', liveL N.toNat (sentP A).toNat, 0, 0⟩) fp fv draws (.slice tva (ths.length + 1) tvc) (ths ++ [th])) = (((Mc.obs (mc0 m ⟨A, T, N, L, B, P, S⟩ mp mv lv ms (some ⟨gp, gv', liveL N.toNat (sentP A).toNat, 0, 0⟩) fp fv draws tv ths) ++ [obThr (i : Int) th]).set 4 (obSl TTp 1 (.slice tva (ths.length + 1) tvc) (ths.length + 1) (ptrs ths ++ [ptrV th.g]))).set 0 (Mc.obM (mc0 m ⟨A, T, N, L, B, P, S⟩ mp mv lv ms (some ⟨gp, gv', liveL N.toNat (sentP A).toNat, 0, 0⟩) fp fv draws (.slice tva (ths.length + 1) tvc) ths))) := by
            have eo := obs_snoc (mc0 m ⟨A, T, N, L, B, P, S⟩ mp mv lv ms (some ⟨gp, gv', liveL N.toNat (sentP A).toNat, 0, 0⟩) fp fv draws tv ths) (.slice tva (ths.length + 1) tvc) th
            have el : ((mc0 m ⟨A, T, N, L, B, P, S⟩ mp mv lv ms (some ⟨gp, gv', liveL N.toNat (sentP A).toNat, 0, 0⟩) fp fv draws tv ths).ths.length : Int) = (i : Int) := by show (ths.length : Int) = _; rw [hpl]
            rw [el] at eo
            exact eo
          refine round_mk [.int .i64 ((i + 1 : Nat) : Int)] (t - (i + 1)) rfl rfl ⟨i + 1, .slice tva (ths.length + 1) tvc, ths ++ [th], rfl, by omega, rfl, by rw [List.length_append, hpl]; rfl, ?_, ?_, (hsc xf Uf).upd ug (by simp; exact fun h => hmg1 h.symm)⟩ (by omega)
          · intro t ht
            rcases List.mem_append.1 ht with h | h
            · exact hz t h
            · rw [List.mem_singleton.1 h, hth, hLn]
              exact ⟨_, _, _, _, rfl⟩
          · have P4 : Post x1 (mc0 m ⟨A, T, N, L, B, P, S⟩ mp mv lv ms (some ⟨gp, gv', liveL N.toNat (sentP A).toNat, 0, 0⟩) fp fv draws tv ths) xg (mc0 m ⟨A, T, N, L, B, P, S⟩ mp mv lv ms (some ⟨gp, gv', liveL N.toNat (sentP A).toNat, 0, 0⟩) fp fv draws (.slice tva (ths.length + 1) tvc) (ths ++ [th])) := by
              refine ⟨?_, ?_⟩
              · show Sep xg (Mc.obs (mc0 m ⟨A, T, N, L, B, P, S⟩ mp mv lv ms (some ⟨gp, gv', liveL N.toNat (sentP A).toNat, 0, 0⟩) fp fv draws (.slice tva (ths.length + 1) tvc) (ths ++ [th])))
                rw [eo]; exact S4
              · show To x1 (Mc.feet (mc0 m ⟨A, T, N, L, B, P, S⟩ mp mv lv ms (some ⟨gp, gv', liveL N.toNat (sentP A).toNat, 0, 0⟩) fp fv draws tv ths)) xg (feet (Mc.obs (mc0 m ⟨A, T, N, L, B, P, S⟩ mp mv lv ms (some ⟨gp, gv', liveL N.toNat (sentP A).toNat, 0, 0⟩) fp fv draws (.slice tva (ths.length + 1) tvc) (ths ++ [th]))))
                rw [eo]; exact T4
            exact J.post P4
    · have hi : i = t := by omega
      subst hi
      exact ⟨fun h => absurd hr h, fun _ => ⟨m, mp, mv, lv, fp, fv, _, tv, ths, rfl, J, by omega, hz, (fun h => (by cases h)), (fun _ => ⟨_, _, rfl⟩)⟩⟩
end Go.Proofs.Ytklbeipdigancaa

/- Contracts: a machine's steps of memory. -/
namespace Go.Proofs.Ytklbeipdigancaa
open Go.RowKit
attribute [local irreducible] Instr.loadAt Instr.storeAt Instr.fieldAt Instr.indexAt Instr.sliceAt Instr.buildSlice Instr.box Instr.alloc Builtin.append_ Builtin.len_ Builtin.min_ Builtin.max_ Calls Instr.build Instr.makeSlice binSem convert Instr.index Instr.range Instr.next
theorem tdiv_bd {a b : Int} (h0 : 0 ≤ a) (h1 : a ≤ 2000) (hb : 1 ≤ b) : 0 ≤ a.tdiv b ∧ a.tdiv b ≤ 2000 := by
  rw [Int.tdiv_eq_ediv_of_nonneg h0]
  exact ⟨Int.ediv_nonneg h0 (by omega), Int.le_trans (Int.ediv_le_self _ h0) h1⟩
def whereP (A T N L a : Int) : Int × Int × Int :=
  if a < 0 ∨ a ≥ sizeP A T N L then (5, 0, 0) else if a < 8 then (0, a, 0)
  else if a < linksP A T L then (1, (a - 8).tdiv (slotsP A L), (a - 8).tmod (slotsP A L))
  else if a < nodesP A T N L then (2, a - linksP A T L + 1, 0)
  else if a < treeP A T N L then (3, (a - nodesP A T N L).tdiv (widthP A L) + 1, (a - nodesP A T N L).tmod (widthP A L)) else (4, a - treeP A T N L, 0)
def tupW (x : Int × Int × Int) : Value := .tuple #[.int .i64 x.1, .int .i64 x.2.1, .int .i64 x.2.2]
set_option maxRecDepth 10000 in
theorem where_c {A T N L B P S : Int} (hr : rightC ⟨A, T, N, L, B, P, S⟩) (a : Int) (w : World) : Fn Try.prog 80 #[.agg (planC ⟨A, T, N, L, B, P, S⟩), .int .i64 a] w fun r w' => r = tupW (whereP A T N L a) ∧ Upd [] w w' := by
  obtain ⟨b1, b2, b3, b4, b5, b6, b7, b8, b9, b10, b11, b12⟩ := plan_bd hr
  refine fn_enter Try.func80 rfl rfl ?_
  refine bx fun w1 hb1 hu1 hs1 => ?_
  have hb1 : Blk w1 w.heap.size TP (planC ⟨A, T, N, L, B, P, S⟩) := hb1
  unfold whereP
  by_cases h0 : a < 0
  · refine cY h0 ?_
    rw [if_pos (.inl h0)]
    exact ⟨rfl, hu1⟩
  refine cN h0 ?_
  refine fa ?_
  refine ldb hb1 (v := .int .i64 (sizeP A T N L)) rfl ?_
  by_cases h1 : a ≥ sizeP A T N L
  · refine cY h1 ?_
    rw [if_pos (.inr h1)]
    exact ⟨rfl, hu1⟩
  refine cN h1 ?_
  rw [if_neg (by omega)]
  refine fa ?_
  refine ldb hb1 (v := .int .i64 8) rfl ?_
  by_cases h2 : a < 8
  · refine cY h2 ?_
    rw [if_pos h2]
    exact ⟨rfl, hu1⟩
  refine cN h2 ?_
  rw [if_neg h2]
  refine fa ?_
  refine ldb hb1 (v := .int .i64 (linksP A T L)) rfl ?_
  by_cases h3 : a < linksP A T L
  · refine cY h3 ?_
    rw [if_pos h3]
    have hd := tdiv_bd (a := a - 8) (b := slotsP A L) (by omega) (by omega) (by omega)
    refine draw_all (fun w' => w' = w1.drew) (by decide +kernel) rfl ?_
    refine q_fa ?_
    refine q_ld (v := .int .i64 (8)) (by rintro _ rfl; exact hb1.drew.cell 10) ?_
    refine q_ar64 (by omega) ?_
    refine q_fa ?_
    refine q_ld (v := .int .i64 (slotsP A L)) (by rintro _ rfl; exact hb1.drew.cell 7) ?_
    refine rq (.int .i64 ((a - 8).tdiv (slotsP A L))) (fun _ _ => qu (by omega) (ar64 (by omega) ⟨rfl, rfl⟩)) ?_
    refine q_fa ?_
    refine q_ld (v := .int .i64 (8)) (by rintro _ rfl; exact hb1.drew.cell 10) ?_
    refine q_ar64 (by omega) ?_
    refine q_fa ?_
    refine q_ld (v := .int .i64 (slotsP A L)) (by rintro _ rfl; exact hb1.drew.cell 7) ?_
    refine rq (.int .i64 ((a - 8).tmod (slotsP A L))) (fun _ _ => rm (by omega) (val _ rfl ⟨rfl, rfl⟩)) ?_
    rintro _ rfl
    exact ⟨rfl, hu1.drew⟩
  refine cN h3 ?_
  rw [if_neg h3]
  refine fa ?_
  refine ldb hb1 (v := .int .i64 (nodesP A T N L)) rfl ?_
  by_cases h4 : a < nodesP A T N L
  · refine cY h4 ?_
    rw [if_pos h4]
    refine draw_all (fun w' => w' = w1.drew) (by decide +kernel) rfl ?_
    refine q_fa ?_
    refine q_ld (v := .int .i64 (linksP A T L)) (by rintro _ rfl; exact hb1.drew.cell 11) ?_
    refine q_ar64 (by omega) ?_
    refine q_ar64 (by omega) ?_
    rintro _ rfl
    exact ⟨rfl, hu1.drew⟩
  refine cN h4 ?_
  rw [if_neg h4]
  refine fa ?_
  refine ldb hb1 (v := .int .i64 (treeP A T N L)) rfl ?_
  by_cases h5 : a < treeP A T N L
  · refine cY h5 ?_
    rw [if_pos h5]
    have hd := tdiv_bd (a := a - nodesP A T N L) (b := widthP A L) (by omega) (by omega) (by omega)
    refine draw_all (fun w' => w' = w1.drew) (by decide +kernel) rfl ?_
    refine q_fa ?_
    refine q_ld (v := .int .i64 (nodesP A T N L)) (by rintro _ rfl; exact hb1.drew.cell 12) ?_
    refine q_ar64 (by omega) ?_
    refine q_fa ?_
    refine q_ld (v := .int .i64 (widthP A L)) (by rintro _ rfl; exact hb1.drew.cell 8) ?_
    refine rq (.int .i64 ((a - nodesP A T N L).tdiv (widthP A L))) (fun _ _ => qu (by omega) (ar64 (by omega) ⟨rfl, rfl⟩)) ?_
    refine q_ar64 (by omega) ?_
    refine q_fa ?_
    refine q_ld (v := .int .i64 (nodesP A T N L)) (by rintro _ rfl; exact hb1.drew.cell 12) ?_
    refine q_ar64 (by omega) ?_
    refine q_fa ?_
    refine q_ld (v := .int .i64 (widthP A L)) (by rintro _ rfl; exact hb1.drew.cell 8) ?_
    refine rq (.int .i64 ((a - nodesP A T N L).tmod (widthP A L))) (fun _ _ => rm (by omega) (val _ rfl ⟨rfl, rfl⟩)) ?_
    rintro _ rfl
    exact ⟨rfl, hu1.drew⟩
  refine cN h5 ?_
  rw [if_neg h5]
  refine draw_all (fun w' => w' = w1.drew) (by decide +kernel) rfl ?_
  refine q_fa ?_
  refine q_ld (v := .int .i64 (treeP A T N L)) (by rintro _ rfl; exact hb1.drew.cell 13) ?_
  refine q_ar64 (by omega) ?_
  rintro _ rfl
  exact ⟨rfl, hu1.drew⟩
def gto (tags : List Int) (k n i : Int) : Int × Int := if i < 1 ∨ (tags.length : Int) < i then gf k n 5 i else if tags.getD (i - 1).toNat 0 = 0 then gf k n 4 i else (k, n)
set_option maxRecDepth 10000 in
theorem gtouch_c {w : World} {p : Nat} {v : Value} {tags : List Int} {k n : Int} (h : IsG w p v tags k n) (hl : tags.length ≤ 64) (i : Int) : Fn Try.prog 81 #[ptrV p, .int .i64 i] w fun _ w' =>
    IsG w' p v tags (gto tags k n i).1 (gto tags k n i).2 ∧ Upd [p] w w' := by
  obtain ⟨va, vc, rfl, -⟩ := h.s.form
  refine fn_enter Try.func81 rfl rfl ?_
  refine ptr_eq ?_
  by_cases h1 : i < 1
  · refine cY h1 ?_
    have e : gto tags k n i = gf k n 5 i := if_pos (.inl h1)
    rw [e]
    refine cl (fault_c h 5 i) ?_
    rintro _ w1 ⟨rfl, hg, hu⟩
    exact ⟨hg, hu⟩
  refine cN h1 ?_
  refine fa ?_
  refine ldb h.blk rfl ?_
  refine len_sl ?_
  refine cd (fun h2 => ?_) (fun h2 => ?_)
  · have e : gto tags k n i = gf k n 5 i := if_pos (.inr h2)
    rw [e]
    refine cl (fault_c h 5 i) ?_
    rintro _ w1 ⟨rfl, hg, hu⟩
    exact ⟨hg, hu⟩
  have hi : (i - 1).toNat < tags.length := by omega
  obtain ⟨vb, vo, vc', he, -⟩ := h.s.some_ (by omega)
  cases he
  have hcell := (h.s.cells rfl (i - 1).toNat (by omega)).1
  refine fa ?_
  refine ldb h.blk rfl ?_
  refine ar64 (by omega) ?_
  refine ix (i - 1).toNat (by omega) hi ?_
  refine ld (v := .int .i64 (tags.getD (i - 1).toNat 0)) (by rw [Nat.mul_one, hcell]; exact map_getD hi) ?_
  refine cd (fun h3 => ?_) (fun h3 => ?_)
  · have e : gto tags k n i = gf k n 4 i := by unfold gto; rw [if_neg (by omega), if_pos h3]
    rw [e]
    refine cl (fault_c h 4 i) ?_
    rintro _ w1 ⟨rfl, hg, hu⟩
    exact ⟨hg, hu⟩
  · have e : gto tags k n i = (k, n) := by unfold gto; rw [if_neg (by omega), if_neg h3]
    rw [e]
    exact ⟨h, Upd.refl _ _⟩
def Cf.where_ (c : Cf) (a : Int) : Int × Int × Int := whereP c.A c.T c.N c.L a
def tchG (c : Cf) (g : Gs) (a : Int) : Gs := if (c.where_ a).1 = 3 then { g with k := (gto g.tags g.k g.n (c.where_ a).2.1).1, n := (gto g.tags g.k g.n (c.where_ a).2.1).2 } else g
def tch (c : Cf) (gs : Option Gs) (a : Int) : Option Gs := gs.map fun g => tchG c g a
def tchs (c : Cf) (gs : Option Gs) (l : List Int) : Option Gs := l.foldl (tch c) gs
def gtags : Option Gs → List Int
  | none => []
  | some g => g.tags
theorem tchG_tags (c : Cf) (g : Gs) (a : Int) : (tchG c g a).tags = g.tags := by unfold tchG; split <;> rfl
theorem tch_tags (c : Cf) (gs : Option Gs) (a : Int) : gtags (tch c gs a) = gtags gs := by
  cases gs with
  | none => rfl
  | some g => exact tchG_tags c g a
theorem tchs_snoc (c : Cf) (gs : Option Gs) (l : List Int) (a : Int) : tchs c gs (l ++ [a]) = tch c (tchs c gs l) a := by simp [tchs, List.foldl_append]
theorem tchs_tags (c : Cf) (l : List Int) : ∀ gs, gtags (tchs c gs l) = gtags gs := by
  induction l with
  | nil => intro gs; rfl
  | cons a l ih => intro gs; show gtags (tchs c (tch c gs a) l) = _; rw [ih, tch_tags]
section
variable {w w' : World} {X : Mc}
theorem touchG_m {g : Gs} (h : Mach w X) (hg : X.gs = some g) (hl : g.tags.length ≤ 64) (i : Int) : Fn Try.prog 81 #[ptrV g.p, .int .i64 i] w fun _ w' => Post w X w' { X with gs := some { g with k := (gto g.tags g.k g.n i).1, n := (gto g.tags g.k g.n i).2 } } := by
  have hG := h.gh
  rw [hg] at hG
  exact (gtouch_c (show IsG w g.p g.v g.tags g.k g.n from hG) hl i).mono fun _ w' ⟨u, he, h1, h2⟩ => ⟨u, he, h.setGh hg rfl rfl h1 (h2.mono (by simp))⟩
theorem Mach.m_lt (h : Mach w X) : ∀ k ∈ X.feet, k < w.heap.size := Sep.lt h
set_option maxRecDepth 10000 in
theorem touch_m (h : Mach w X) (hr : rightC X.c) (ht : (gtags X.gs).length ≤ 64) {v : Value} {l : List Int} (hv : ∀ w', Upd X.feet w w' → RdK w' .i64 v l) (hl : l.length ≤ 100) :
    Fn Try.prog 67 #[ptrV X.m, v] w fun r w' => r = .bool true ∧ Post w X w' { X with acted := true, gs := tchs X.c X.gs l } := by
  obtain ⟨va, vc, rfl, -⟩ := (hv w (Upd.refl _ _)).form
  refine fn_enter Try.func67 rfl rfl ?_
  refine ptr_eq ?_
  refine fa ?_
  have hsz : 19 < (machC X.c (ptrV X.mp) (gvOf X.gs) (ptrV X.fp) X.tv X.acted X.bad).size := by cases X.c; show 19 < 21; omega
  refine st h.blk hsz rfl fun w1 hb1 hu1 hs1 => ?_
  have p1 : Post w X w1 { X with acted := true } := h.setM (b := X.bad) (by cases hc : X.c; rw [hc] at hb1; exact hb1) hu1
  refine len_sl ?_
  refine loop_rule [0, 15, 16] [17] (fun vs w' m => ∃ j : Nat, vs = [.int .i64 (j : Int)] ∧ j ≤ l.length ∧ m = l.length - j ∧ Post w X w' { X with acted := true, gs := tchs X.c X.gs (l.take j) }) rfl [.int .i64 0] l.length rfl ⟨0, rfl, by omega, rfl, p1⟩ ?_
  rintro _ w2 m ⟨j, rfl, hj, rfl, p2⟩
  refine cd (fun hlt => ?_) (fun hlt => ?_)
  · have hlt : j < l.length := by omega
    have hv2 := hv w2 p2.to.up
    obtain ⟨vb, vo, vc', he, -⟩ := hv2.some_ (by omega)
    cases he
    refine ix j rfl hlt ?_
    refine ld (hv2.at_ rfl j hlt) ?_
    have e : tchs X.c X.gs (l.take (j + 1)) = tch X.c (tchs X.c X.gs (l.take j)) (l.getD j 0) := by rw [getD_take l j hlt, tchs_snoc]
    have ht2 : (gtags (tchs X.c X.gs (l.take j))).length ≤ 64 := by rw [tchs_tags]; exact ht
    generalize l.getD j 0 = a at *
    generalize tchs X.c X.gs (l.take j) = gs at *
    refine fa ?_
    refine ldplan p2.ok.blk ?_
    refine cl (where_c (A := X.c.A) (T := X.c.T) (N := X.c.N) (L := X.c.L) (B := X.c.B) (P := X.c.P) (S := X.c.S) hr a w2) ?_
    rintro _ w3 ⟨rfl, hu3⟩
    have p3 := p2.upd0 hu3
    refine cd (fun hk => ?_) (fun hk => ?_)
    · replace hk : (X.c.where_ a).1 = 3 := hk
      refine fa ?_
      refine ldb p3.ok.blk (v := gvOf gs) (by cases X.c; rfl) ?_
      cases gs with
      | none =>
        refine ptr_ne0 ?_
        refine ar64 (by omega) ?_
        refine round_mk [.int .i64 ((j + 1 : Nat) : Int)] (l.length - (j + 1)) rfl rfl ⟨j + 1, rfl, by omega, rfl, ?_⟩ (by omega)
        rw [e]; exact p3
      | some g =>
        refine ptr_ne ?_
        refine fa ?_
        refine ldb p3.ok.blk (v := ptrV g.p) (by cases X.c; rfl) ?_
        refine cl (touchG_m p3.ok rfl ht2 _) ?_
        rintro _ w4 p4
        refine ar64 (by omega) ?_
        refine round_mk [.int .i64 ((j + 1 : Nat) : Int)] (l.length - (j + 1)) rfl rfl ⟨j + 1, rfl, by omega, rfl, ?_⟩ (by omega)
        rw [e]
        have e2 : tch X.c (some g) a = some { g with k := (gto g.tags g.k g.n (X.c.where_ a).2.1).1, n := (gto g.tags g.k g.n (X.c.where_ a).2.1).2 } := by
          show some (tchG X.c g a) = _
          unfold tchG
          rw [if_pos hk]
        rw [e2]
        exact p3.trans p4
    · replace hk : ¬ (X.c.where_ a).1 = 3 := hk
      refine ar64 (by omega) ?_
      refine round_mk [.int .i64 ((j + 1 : Nat) : Int)] (l.length - (j + 1)) rfl rfl ⟨j + 1, rfl, by omega, rfl, ?_⟩ (by omega)
      have e2 : tch X.c gs a = gs := by
        cases gs with
        | none => rfl
        | some g =>
          show some (tchG X.c g a) = _
          unfold tchG
          rw [if_neg hk]
      rw [e, e2]; exact p3
  · have hj : j = l.length := by omega
    subst hj
    rw [List.take_length] at p2
    exact ⟨rfl, p2⟩
theorem note_m (h : Mach w X) (e : Int) : Fn Try.prog 69 #[ptrV X.m, .int .i64 e] w fun _ w' => Post w X w' { X with bad := X.bad || e != 0 } := by
  have hsz : 20 < (machC X.c (ptrV X.mp) (gvOf X.gs) (ptrV X.fp) X.tv X.acted X.bad).size := by cases X.c; show 20 < 21; omega
  have hb := h.blk
  refine fn_enter Try.func69 rfl rfl ?_
  refine fa ?_
  refine ldb hb (v := .bool X.bad) (by cases X.c; rfl) ?_
  cases hbad : X.bad with
  | true =>
    refine fa ?_
    refine st hb hsz rfl fun w1 hb1 hu1 hs1 => ?_
    exact h.setM (a := X.acted) (by cases hc : X.c; rw [hc] at hb1; exact hb1) hu1
  | false =>
    refine fa ?_
    refine st hb hsz rfl fun w1 hb1 hu1 hs1 => ?_
    exact h.setM (a := X.acted) (by cases hc : X.c; rw [hc] at hb1; exact hb1) hu1
end
end Go.Proofs.Ytklbeipdigancaa

/- Contracts: loads, stores and the other steps of a machine. -/
namespace Go.Proofs.Ytklbeipdigancaa
open Go.RowKit
attribute [local irreducible] Instr.loadAt Instr.storeAt Instr.fieldAt Instr.indexAt Instr.sliceAt Instr.buildSlice Instr.box Instr.alloc Builtin.append_ Builtin.len_ Builtin.min_ Builtin.max_ Calls Instr.build Instr.makeSlice binSem convert Instr.index Instr.range Instr.next
def ldS (s : MS) (a : Int) : MS := if okA s a then tick s (0, a, -1, false) else s
def ldV (s : MS) (a : Int) : Int := if okA s a then rd s a else 0
def casS (s : MS) (a o n : Int) : MS := if okA s a then tick (if rd s a = o then wr s a n else s) (2, a, -1, rd s a == o) else s
def casV (s : MS) (a o : Int) : Bool := decide (okA s a ∧ rd s a = o)
def addS (s : MS) (a d : Int) : MS := if okA s a then tick (wr s a (IntKind.u64.wrap (rd s a + d))) (3, a, -1, true) else s
def ok2 (s : MS) (a b : Int) : Prop := (okA s a ∧ okA s b) ∧ a ≠ b
instance (s : MS) (a b : Int) : Decidable (ok2 s a b) := inferInstanceAs (Decidable (_ ∧ _))
def both (s : MS) (a o b q : Int) : Prop := rd s a = o ∧ rd s b = q
instance (s : MS) (a o b q : Int) : Decidable (both s a o b q) := inferInstanceAs (Decidable (_ ∧ _))
def dcasS (s : MS) (a o n b q r : Int) : MS := if ok2 s a b then tick (if both s a o b q then wr (wr s a n) b r else s) (4, a, b, decide (both s a o b q)) else s
def dcssS (s : MS) (a o n b q : Int) : MS := if okA s a ∧ okA s b then tick (if both s a o b q then wr s a n else s) (5, a, b, decide (both s a o b q)) else s
section
variable {w w' : World} {X : Mc}
theorem Mach.mp_ (h : Mach w X) {K' : Value → World → Prop} {t : Nat} [One Try.prog t] (k : K' (ptrV X.mp) w) : RunP Try.prog (Instr.loadAt t (.pointer (some ⟨X.m, 0 + 15, none⟩))) K' w :=
  ldb h.blk (v := ptrV X.mp) (by cases X.c; rfl) k
theorem fresh_rd {g : Nat} {l : List Int} (h : Mach w X) (hb : Blk w g 3 (l.map (Value.int .i64)).toArray) (hg : g ∉ X.feet) (hl : l.length ≤ 100) : ∀ w', Upd X.feet w w' → RdK w' .i64 (.slice (some ⟨g, 0, none⟩) l.length l.length) l := fun w' hu => by
  have := Sl.lit (n := l.length) (hb.upd hu hg) (by simp) (by simp only [maxLen]; omega)
  exact RdK.of_sl (e := 3) (n := l.length) (by simpa using this)
theorem load_m (h : Mach w X) (hr : rightC X.c) (ht : (gtags X.gs).length ≤ 64) (hq : Roomy X.s) (a : Int) : Fn Try.prog 53 #[ptrV X.m, .int .i64 a] w fun r w' => r = .int .u64 (ldV X.s a) ∧
    ∃ lv, Post w X w' { X with acted := true, gs := tch X.c X.gs a, lv := lv, s := ldS X.s a, bad := X.bad || !decide (okA X.s a) } := by
  refine fn_enter Try.func53 rfl rfl ?_
  refine bs (([a]).map (Value.int .i64)).toArray (fun _ => by kernel_rfl) fun w1 hb1 hu1 hs1 => ?_
  have hgn : w.heap.size ∉ X.feet := fun hm => by have := h.m_lt _ hm; omega
  refine cl (touch_m (h.upd0 hu1) hr ht (fresh_rd (l := [a]) (h.upd0 hu1) hb1 hgn (by simp)) (by simp)) ?_
  rintro _ w2 ⟨rfl, p2⟩
  have q2 := (Post.of0 h hu1).trans p2
  refine fa ?_
  refine q2.ok.mp_ ?_
  refine cl (load_c q2.ok.mem hq a) ?_
  rintro _ w3 ⟨hy, hn⟩
  unfold ldV ldS
  by_cases ha : okA X.s a
  · obtain ⟨rfl, hp⟩ := hy ha
    obtain ⟨lv, p3⟩ := q2.ok.memPost hp
    have q3 := q2.trans p3
    refine cl (note_m (q3).ok _) ?_
    rintro _ w4 p4
    have q4 := (q3).trans p4
    refine ⟨by rw [if_pos ha]; rfl, lv, ?_⟩
    rw [if_pos ha, decide_eq_true ha]
    exact q4
  · obtain ⟨rfl, hp⟩ := hn ha
    obtain ⟨lv, p3⟩ := q2.ok.memPost hp
    have q3 := q2.trans p3
    refine cl (note_m (q3).ok _) ?_
    rintro _ w4 p4
    have q4 := (q3).trans p4
    refine ⟨by rw [if_neg ha]; rfl, lv, ?_⟩
    rw [if_neg ha, decide_eq_false ha]
    exact q4
theorem stM_def (s : MS) (a x : Int) : stM s a x = if okA s a then tick (wr s a x) (1, a, -1, true) else s := rfl
theorem store_mm (h : Mach w X) (hr : rightC X.c) (ht : (gtags X.gs).length ≤ 64) (hq : Roomy X.s) (a x : Int) : Fn Try.prog 56 #[ptrV X.m, .int .i64 a, .int .u64 x] w fun _ w' =>
    ∃ lv, Post w X w' { X with acted := true, gs := tch X.c X.gs a, lv := lv, s := stM X.s a x, bad := X.bad || !decide (okA X.s a) } := by
  refine fn_enter Try.func56 rfl rfl ?_
  refine bs (([a]).map (Value.int .i64)).toArray (fun _ => by kernel_rfl) fun w1 hb1 hu1 hs1 => ?_
  have hgn : w.heap.size ∉ X.feet := fun hm => by have := h.m_lt _ hm; omega
  refine cl (touch_m (h.upd0 hu1) hr ht (fresh_rd (l := [a]) (h.upd0 hu1) hb1 hgn (by simp)) (by simp)) ?_
  rintro _ w2 ⟨rfl, p2⟩
  have q2 := (Post.of0 h hu1).trans p2
  refine fa ?_
  refine q2.ok.mp_ ?_
  refine cl (store_c q2.ok.mem hq a x) ?_
  rintro _ w3 ⟨hy, hn⟩
  rw [stM_def]
  by_cases ha : okA X.s a
  · obtain ⟨rfl, hp⟩ := hy ha
    obtain ⟨lv, p3⟩ := q2.ok.memPost hp
    have q3 := q2.trans p3
    refine cl (note_m (q3).ok _) ?_
    rintro _ w4 p4
    have q4 := (q3).trans p4
    refine ⟨lv, ?_⟩
    rw [if_pos ha, decide_eq_true ha]
    exact q4
  · obtain ⟨rfl, hp⟩ := hn ha
    obtain ⟨lv, p3⟩ := q2.ok.memPost hp
    have q3 := q2.trans p3
    refine cl (note_m (q3).ok _) ?_
    rintro _ w4 p4
    have q4 := (q3).trans p4
    refine ⟨lv, ?_⟩
    rw [if_neg ha, decide_eq_false ha]
    exact q4
theorem cas_m (h : Mach w X) (hr : rightC X.c) (ht : (gtags X.gs).length ≤ 64) (hq : Roomy X.s) (a o n : Int) : Fn Try.prog 86 #[ptrV X.m, .int .i64 a, .int .u64 o, .int .u64 n] w fun r w' => r = .bool (casV X.s a o) ∧
    ∃ lv, Post w X w' { X with acted := true, gs := tch X.c X.gs a, lv := lv, s := casS X.s a o n, bad := X.bad || !decide (okA X.s a) } := by
  refine fn_enter Try.func86 rfl rfl ?_
  refine bs (([a]).map (Value.int .i64)).toArray (fun _ => by kernel_rfl) fun w1 hb1 hu1 hs1 => ?_
  have hgn : w.heap.size ∉ X.feet := fun hm => by have := h.m_lt _ hm; omega
  refine cl (touch_m (h.upd0 hu1) hr ht (fresh_rd (l := [a]) (h.upd0 hu1) hb1 hgn (by simp)) (by simp)) ?_
  rintro _ w2 ⟨rfl, p2⟩
  have q2 := (Post.of0 h hu1).trans p2
  refine fa ?_
  refine q2.ok.mp_ ?_
  refine cl (cas_c q2.ok.mem hq a o n) ?_
  rintro _ w3 ⟨hy, hn⟩
  unfold casV casS
  by_cases ha : okA X.s a
  · obtain ⟨rfl, hp⟩ := hy ha
    obtain ⟨lv, p3⟩ := q2.ok.memPost hp
    have q3 := q2.trans p3
    refine cl (note_m (q3).ok _) ?_
    rintro _ w4 p4
    have q4 := (q3).trans p4
    refine ⟨?_, lv, ?_⟩
    · have : (rd X.s a == o) = decide (okA X.s a ∧ rd X.s a = o) := by
        by_cases h1 : rd X.s a = o
        · rw [decide_eq_true ⟨ha, h1⟩]; simp [h1]
        · rw [decide_eq_false (fun hh => h1 hh.2)]; simp [h1]
      rw [← this]; rfl
    rw [if_pos ha, decide_eq_true ha]
    exact q4
  · obtain ⟨rfl, hp⟩ := hn ha
    obtain ⟨lv, p3⟩ := q2.ok.memPost hp
    have q3 := q2.trans p3
    refine cl (note_m (q3).ok _) ?_
    rintro _ w4 p4
    have q4 := (q3).trans p4
    refine ⟨by rw [decide_eq_false (fun hh => ha hh.1)]; rfl, lv, ?_⟩
    rw [if_neg ha, decide_eq_false ha]
    exact q4
theorem mem_mm (h : Mach w X) : Fn Try.prog 11 #[ptrV X.m] w fun r w' => r = ptrV X.mp ∧ w' = w := by
  refine fn_enter Try.func11 rfl rfl ?_
  refine ptr_eq ?_
  refine fa ?_
  refine h.mp_ ?_
  exact ⟨rfl, rfl⟩
theorem ghost_mm (h : Mach w X) : Fn Try.prog 16 #[ptrV X.m] w fun r w' => r = gvOf X.gs ∧ w' = w := by
  refine fn_enter Try.func16 rfl rfl ?_
  refine ptr_eq ?_
  refine fa ?_
  refine ldb h.blk (v := gvOf X.gs) (by cases X.c; rfl) ?_
  exact ⟨rfl, rfl⟩
theorem plan_mm (h : Mach w X) : Fn Try.prog 19 #[ptrV X.m] w fun r w' => r = .agg (planC X.c) ∧ Upd [] w w' := by
  refine fn_enter Try.func19 rfl rfl ?_
  refine al z15 (fun _ => by kernel_rfl) fun w1 hb1 hu1 hs1 => ?_
  refine ptr_eq ?_
  have hb := h.blk.upd hu1 (by simp)
  refine fa ?_
  refine ldplan hb ?_
  refine stw hb1 rfl (planC_len X.c) (planC_one X.c) fun w2 hb2 hu2 hs2 => ?_
  refine rlw hb2 (planC_len X.c) ?_
  exact ⟨rfl, hu1.step hu2 (by simp)⟩
theorem thread_no (h : Mach w X) (i : Int) (hi : i < 0 ∨ (X.ths.length : Int) ≤ i) : Fn Try.prog 8 #[ptrV X.m, .int .i64 i] w fun r w' => r = .pointer none ∧ w' = w := by
  obtain ⟨ta, tc, hta, -⟩ := h.tvs.form
  refine fn_enter Try.func8 rfl rfl ?_
  refine ptr_eq ?_
  by_cases h1 : i < 0
  · refine cY h1 ?_
    exact ⟨rfl, rfl⟩
  refine cN h1 ?_
  refine fa ?_
  refine ldb h.blk (v := .slice ta X.ths.length tc) (by rw [← hta]; cases X.c; rfl) ?_
  refine len_sl ?_
  refine cY (p := i ≥ (X.ths.length : Int)) (by omega) ?_
  exact ⟨rfl, rfl⟩
theorem thread_mm (h : Mach w X) {i : Nat} {t : Th} (hi : X.ths[i]? = some t) (hl : X.ths.length ≤ 100) : Fn Try.prog 8 #[ptrV X.m, .int .i64 (i : Int)] w fun r w' => r = ptrV t.g ∧ w' = w := by
  have hlt := (List.getElem?_eq_some_iff.1 hi).1
  have htv := h.tvs
  have hb := h.blk
  obtain ⟨tb, to, tc, he, -⟩ := htv.some_ (by omega)
  rw [he] at htv hb
  have hb18 : (machC X.c (ptrV X.mp) (gvOf X.gs) (ptrV X.fp) (.slice (some ⟨tb, to, none⟩) X.ths.length tc) X.acted X.bad).toList[18]? = some (.slice (some ⟨tb, to, none⟩) X.ths.length tc) := by cases X.c; rfl
  refine fn_enter Try.func8 rfl rfl ?_
  refine ptr_eq ?_
  refine fa ?_
  refine ldb hb hb18 ?_
  refine len_sl ?_
  refine cN (p := (i : Int) ≥ (X.ths.length : Int)) (by omega) ?_
  refine fa ?_
  refine ldb hb hb18 ?_
  refine ix i rfl hlt ?_
  refine ld (v := ptrV t.g) (by rw [Nat.mul_one, (htv.cells rfl i (by omega)).1]; simp [ptrs, hi]) ?_
  exact ⟨rfl, rfl⟩
theorem watched_mm (h : Mach w X) : Fn Try.prog 44 #[ptrV X.m] w fun r w' => r = .bool X.gs.isSome ∧ w' = w := by
  have hb16 : (machC X.c (ptrV X.mp) (gvOf X.gs) (ptrV X.fp) X.tv X.acted X.bad).toList[16]? = some (gvOf X.gs) := by cases X.c; rfl
  refine fn_enter Try.func44 rfl rfl ?_
  refine ptr_ne ?_
  refine fa ?_
  refine ldb h.blk hb16 ?_
  cases X.gs with
  | none =>
    refine ptr_ne0 ?_
    exact ⟨rfl, rfl⟩
  | some g =>
    refine ptr_ne ?_
    exact ⟨rfl, rfl⟩
def faultG : Option Gs → Bool
  | none => false
  | some g => decide (¬ (g.k = 0 ∧ g.n = 0))
theorem fault_mm (h : Mach w X) : Fn Try.prog 18 #[ptrV X.m] w fun r w' => r = .bool (X.bad || faultG X.gs) ∧ Upd [] w w' := by
  have hb16 : (machC X.c (ptrV X.mp) (gvOf X.gs) (ptrV X.fp) X.tv X.acted X.bad).toList[16]? = some (gvOf X.gs) := by cases X.c; rfl
  have hb20 : (machC X.c (ptrV X.mp) (gvOf X.gs) (ptrV X.fp) X.tv X.acted X.bad).toList[20]? = some (.bool X.bad) := by cases X.c; rfl
  have hb := h.blk
  have hG := h.gh
  have hw := watched_mm h
  refine fn_enter Try.func18 rfl rfl ?_
  refine ptr_ne ?_
  refine fa ?_
  refine ldb hb hb20 ?_
  cases hbad : X.bad with
  | true => exact ⟨rfl, Upd.refl _ _⟩
  | false =>
    refine cl hw ?_
    rintro _ _ ⟨rfl, rfl⟩
    cases hgs : X.gs with
    | none => exact ⟨rfl, Upd.refl _ _⟩
    | some g =>
      rw [hgs] at hG hb16
      have hG : IsG _ g.p g.v g.tags g.k g.n := hG
      refine fa ?_
      refine ldb hb (by rw [hgs]; exact hb16) ?_
      refine cl (first_c hG) ?_
      rintro _ w2 ⟨rfl, hu2⟩
      refine bd #[.int .i64 0, .int .i64 0] (fun _ => by kernel_rfl) ?_
      refine fne (decide (¬ (g.k = 0 ∧ g.n = 0))) decide_eq_true_iff ?_
      exact ⟨rfl, hu2⟩
end
end Go.Proofs.Ytklbeipdigancaa

/- Functions compared with nil; single cells of longer elements. -/
namespace Go.Proofs.Ytklbeipdigancaa
open Go.RowKit
class FnT (P : Program) (t : Nat) : Prop where
  u : ∃ a b c, P.underlying t = some (.func a b c)
section
variable {P : Program} {K : Value → World → Prop} {w : World}
theorem equalIn_fn {t : Nat} [FnT P t] (d : Nat) {f : Go.Fn} {xs ys : Array Value} : (Op.equalIn (d + 1) t (.func f xs ys) .nilFunc).run P w = .ok false w := by
  obtain ⟨a, b, c, h⟩ := FnT.u (P := P) (t := t)
  simp [Op.equalIn, run_underlying h]
theorem equalIn_fn0 {t : Nat} [FnT P t] (d : Nat) : (Op.equalIn (d + 1) t .nilFunc .nilFunc).run P w = .ok true w := by
  obtain ⟨a, b, c, h⟩ := FnT.u (P := P) (t := t)
  simp [Op.equalIn, run_underlying h]
theorem equal_fn {t : Nat} [FnT P t] {f : Go.Fn} {xs ys : Array Value} : (Op.equal t (.func f xs ys) .nilFunc).run P w = .ok false w := equalIn_fn 9999
theorem equal_fn0 {t : Nat} [FnT P t] : (Op.equal t .nilFunc .nilFunc).run P w = .ok true w := equalIn_fn0 9999
theorem fn_eq {t : Nat} [FnT P t] {x y : Operand} {f : Go.Fn} {xs ys : Array Value} (k : K (.bool false) w) : RunP P (binSem .eql t x y (.func f xs ys) .nilFunc) K w :=
  rn _ _ (bin_of rfl (by simp only [binOp]; simp [equal_fn])) k
theorem fn_eq0 {t : Nat} [FnT P t] {x y : Operand} (k : K (.bool true) w) : RunP P (binSem .eql t x y .nilFunc .nilFunc) K w :=
  rn _ _ (bin_of rfl (by simp only [binOp]; simp [equal_fn0])) k
theorem stC {t e size : Nat} [One P t] {K : World → Prop} {v u : Value} {n : Nat} {xs : List Value} {g o c : Nat} (j : Nat) {a : Nat} (h : Sl w e size v n xs) (hv : v = .slice (some ⟨g, o, none⟩) n c) (hj : j < n * size) (ha : a = o + j) (hu : u.oneCell' = true)
    (k : ∀ w', Sl w' e size v n (xs.set j u) → Upd [g] w w' → w'.heap.size = w.heap.size → K w') : RunU P (Instr.storeAt t (.pointer (some ⟨g, a, none⟩)) u) K w := by
  have h1 := h.cells hv j hj
  have h2 : j < xs.length := by rw [h.1]; omega
  subst ha
  exact ⟨⟨_, run_store1 (u := xs[j]) (by rw [h1.1]; simp [h2]) h1.2 hu, k _ (h.store hv j hj u) ((Upd.refl [g] w).setCell (.inl (by simp)) u) (by simp [World.setCell])⟩⟩
end
end Go.Proofs.Ytklbeipdigancaa

/- Contracts: a machine's frames; a step of a thread. -/
namespace Go.Proofs.Ytklbeipdigancaa
open Go.RowKit
attribute [local irreducible] Instr.loadAt Instr.storeAt Instr.fieldAt Instr.indexAt Instr.sliceAt Instr.buildSlice Instr.box Instr.alloc Builtin.append_ Builtin.len_ Builtin.min_ Builtin.max_ Calls Instr.build Instr.makeSlice binSem convert Instr.index Instr.range Instr.next
attribute [local irreducible] Builtin.copy_
instance : FnT Try.prog 88 := ⟨⟨_, _, _, Try.underlying88⟩⟩
/-- a block of the caller's own, beside a machine -/
structure Aside (w : World) (X : Mc) (g T : Nat) (cs : Array Value) : Prop where
  b : Blk w g T cs
  n : g ∉ X.feet
section
variable {w w' : World} {X X' : Mc} {g T : Nat} {cs : Array Value}
theorem Aside.post (h : Aside w X g T cs) (p : Post w X w' X') : Aside w' X' g T cs := ⟨h.b.upd p.to.up h.n, fun hm => by
  rcases p.to.sub _ hm with h1 | h1
  · exact h.n h1
  · have := h.b.lt; omega⟩
theorem Aside.upd0 (h : Aside w X g T cs) (hu : Upd [] w w') : Aside w' X g T cs := ⟨h.b.upd hu (by simp), h.n⟩
/-- the caller's own block changes -/
theorem Mach.aside (h : Mach w X) (hg : g ∉ X.feet) (hu : Upd [g] w w') : Mach w' X := Sep.upd h hu (fun k hk hm => by
  have := List.mem_singleton.1 hm
  subst this
  exact hg hk)
theorem ths_lt {i : Nat} {t : Th} (hi : X.ths[i]? = some t) : i < X.ths.length := (List.getElem?_eq_some_iff.1 hi).1
theorem feet_thr {i : Nat} {t : Th} (hi : X.ths[i]? = some t) : ∀ k ∈ t.g :: t.fv.ownBlock.toList, k ∈ X.feet := fun k hk =>
  mem_feet.2 ⟨obThr (i : Int) t, List.mem_of_getElem? (obs_thr X i t hi), mem_feet.2 ⟨obCore (i : Int) t, by simp [Th.obs], hk⟩⟩
theorem push_mm (h : Mach w X) {i : Nat} {t : Th} (hi : X.ths[i]? = some t) (hf : t.fs.length ≤ 100000) {v : Value} {l : List Int} (hv : RdK w .u64 v l) (hl : l.length ≤ 100000) (fn : Int) :
    Fn Try.prog 10 #[ptrV t.g, .int .i64 fn, v] w fun _ w' => ∃ fv', Post w X w' { X with ths := X.ths.set i { t with fv := fv', fs := t.fs ++ [⟨fn, 0, l⟩] } } :=
  (push_c (h.core hi) hf hv hl fn).mono fun _ w' ⟨u, he, fv', h1, h2, h3⟩ => ⟨u, he, fv', h.setCore hi h1 ⟨h2, fun k hk => by
    rcases List.mem_cons.1 hk with e | e
    · exact .inl (by rw [e]; simp)
    · rcases h3 k (by simpa using e) with e1 | e1
      · exact .inl (List.mem_cons_of_mem _ (by simpa using e1))
      · exact .inr e1⟩⟩
theorem pop_mm (h : Mach w X) {i : Nat} {t : Th} (hi : X.ths[i]? = some t) {fs : List Fr} {f : Fr} (hfs : t.fs = fs ++ [f]) (hf : fs.length ≤ 100000) {v : Value} {l : List Int} (hv : ∀ w', Upd [t.g] w w' → RdK w' .u64 v l) :
    Fn Try.prog 55 #[ptrV t.g, v] w fun _ w' => ∃ fv', Post w X w' { X with ths := X.ths.set i { t with fv := fv', fs := fs, r := (l.getD 0 0, l.getD 1 0, l.getD 2 0) } } := by
  have hc := h.core hi
  rw [hfs] at hc
  exact (pop_c hc hf hv).mono fun _ w' ⟨u, he, fv', h1, h2, h3⟩ => ⟨u, he, fv', h.setCore hi h1 ⟨h2.mono (by simp), fun k hk => by
    rw [h3] at hk
    exact .inl hk⟩⟩
theorem top_mm (h : Mach w X) {i : Nat} {t : Th} (hi : X.ths[i]? = some t) {fs : List Fr} {f : Fr} (hfs : t.fs = fs ++ [f]) (hf : fs.length ≤ 100000) {fb fo fc : Nat} (hv : t.fv = .slice (some ⟨fb, fo, none⟩) t.fs.length fc) :
    Fn Try.prog 9 #[ptrV t.g] w fun r w' => r = .pointer (some ⟨fb, fo + fs.length * 12, none⟩) ∧ w' = w.drew := by
  have hc := h.core hi
  rw [hv, hfs] at hc
  exact top_c hc hf
theorem top_no (h : Mach w X) {i : Nat} {t : Th} (hi : X.ths[i]? = some t) (hfs : t.fs = []) : Fn Try.prog 9 #[ptrV t.g] w fun r w' => r = .pointer none ∧ w' = w := by
  have hc := h.core hi
  rw [hfs] at hc
  exact top_none hc
theorem Mach.fr_ (h : Mach w X) {i : Nat} {t : Th} (hi : X.ths[i]? = some t) (hfs : t.fs ≠ []) : ∃ fb fo fc, t.fv = .slice (some ⟨fb, fo, none⟩) t.fs.length fc := by
  obtain ⟨fb, fo, fc, h1, -⟩ := (h.core hi).fr.some_ (List.length_pos_iff.2 hfs)
  exact ⟨fb, fo, fc, h1⟩
theorem Mach.top (h : Mach w X) {i : Nat} {t : Th} (hi : X.ths[i]? = some t) {fs : List Fr} {f : Fr} (hfs : t.fs = fs ++ [f]) {fb fo fc : Nat} (hv : t.fv = .slice (some ⟨fb, fo, none⟩) t.fs.length fc) (j : Nat) (hj : j < 12) : w.cell? ⟨fb, fo + fs.length * 12 + j, none⟩ = (frC f)[j]? := by
  have hc := h.core hi
  rw [hv, hfs] at hc
  exact hc.top j hj
/-- one cell of the top frame is written -/
theorem st_fr {ty : Nat} [One Try.prog ty] {K : World → Prop} (h : Mach w X) {i : Nat} {t : Th} (hi : X.ths[i]? = some t) {fs : List Fr} {f f' : Fr} (hfs : t.fs = fs ++ [f]) {fb fo fc : Nat} (hv : t.fv = .slice (some ⟨fb, fo, none⟩) t.fs.length fc) (j : Nat) (hj : j < 12) {a : Nat} (ha : a = fo + fs.length * 12 + j) {u : Value} (hu : u.oneCell' = true)
    (hf : frC f' = (frC f).set j u) (k : ∀ w', Post w X w' { X with ths := X.ths.set i { t with fs := fs ++ [f'] } } → K w') : RunU Try.prog (Instr.storeAt ty (.pointer (some ⟨fb, a, none⟩)) u) K w := by
  have hc := h.core hi
  have hs := hc.fr
  have hl : t.fs.length = fs.length + 1 := by rw [hfs]; simp
  refine stC (fs.length * 12 + j) hs hv (by omega) (by omega) hu fun w' hs' hu' _ => k w' (h.setCore hi ⟨hc.blk.upd hu' ?_, ?_⟩ ⟨hu'.mono (by rw [hv]; simp [Value.ownBlock]), fun _ h => .inl h⟩)
  · intro hm
    have := hs.blk_ne hc.blk (by decide)
    rw [hv, List.mem_singleton.1 hm] at this
    exact this rfl
  · have e : (framesC t.fs).set (fs.length * 12 + j) u = framesC (fs ++ [f']) := by
      rw [hfs, framesC_app, framesC_app, framesC_one, framesC_one, hf, List.set_append_right _ _ (by rw [framesC_len]; omega), framesC_len]
      congr 2
      omega
    rw [e, hl] at hs'
    rw [List.length_append]
    exact hs'
theorem frC_pc (f : Fr) (x : Int) : frC { f with pc := x } = (frC f).set 1 (.int .i64 x) := rfl
def regI (l : List Int) (k : Nat) (x : Int) : List Int := (List.range 10).map fun j => if j = k then x else l.getD j 0
theorem regI_at (l : List Int) (k : Nat) (x : Int) (j : Nat) (hj : j < 10) : (regI l k x).getD j 0 = if j = k then x else l.getD j 0 := by simp [regI, List.getD, hj]
theorem frC_reg (f : Fr) (k : Nat) (hk : k < 10) (x : Int) : frC { f with R := regI f.R k x } = (frC f).set (2 + k) (.int .u64 x) := by
  rw [show 2 + k = k + 1 + 1 by omega]
  show (Value.int .i64 f.fn) :: (.int .i64 f.pc) :: regsC 10 (regI f.R k x) = (Value.int .i64 f.fn) :: (.int .i64 f.pc) :: (regsC 10 f.R).set k (.int .u64 x)
  congr 2
  apply List.ext_getElem?
  intro j
  rw [List.getElem?_set]
  by_cases hj : j < 10
  · simp only [regsC, List.getElem?_map, List.getElem?_range hj, Option.map_some, List.length_map, List.length_range]
    rw [regI_at _ _ _ _ hj]
    by_cases e : k = j
    · subst e; simp [hk]
    · rw [if_neg (fun h => e h.symm), if_neg e]
  · have : ¬ k = j := by omega
    rw [if_neg this]
    simp [regsC, hj]
end
/-- a step of a thread: J is what is so between the rounds -/
theorem step_mm {w : World} {X : Mc} {i f g0 : Nat} {ys : Array Value} [HasBody Try.prog f] (J : Mc → World → Nat → Prop) (n : Nat) {t0 : Th} (h : Mach w X) (hi : X.ths[i]? = some t0) (hg : t0.g = g0) (hl : X.ths.length ≤ 100)
    (h0 : ∀ w', Post w X w' { X with acted := false } → J { X with acted := false } w' n)
    (hJ : ∀ Y w' n, J Y w' n → Mach w' Y ∧ Y.m = X.m ∧ ∃ t, Y.ths[i]? = some t ∧ t.g = g0 ∧ t.fs.length ≤ 100000)
    (hr : ∀ Y w' n t, J Y w' n → Y.ths[i]? = some t → Y.acted = false → t.fs ≠ [] → Fn Try.prog f (#[] ++ [ptrV X.m, ptrV g0].toArray ++ ys) w' fun _ w'' => ∃ Y' n', J Y' w'' n' ∧ n' < n) :
    Fn Try.prog 14 #[ptrV X.m, .int .i64 (i : Int), .func (.func f) #[] ys] w fun r w' => ∃ Y n' t, J Y w' n' ∧ Y.ths[i]? = some t ∧ (Y.acted = true ∨ t.fs = []) ∧ r = .bool (decide ((t.fs.length : Int) > 0)) := by
  have hsz : 19 < (machC X.c (ptrV X.mp) (gvOf X.gs) (ptrV X.fp) X.tv X.acted X.bad).size := by cases X.c; show 19 < 21; omega
  refine fn_enter Try.func14 rfl rfl ?_
  refine cl (thread_mm h hi hl) ?_
  rintro _ _ ⟨rfl, rfl⟩
  refine ptr_eq ?_
  refine fn_eq ?_
  refine fa ?_
  refine st h.blk hsz rfl fun w1 hb1 hu1 hs1 => ?_
  have p1 : Post _ X w1 { X with acted := false } := h.setM (b := X.bad) (by cases hc : X.c; rw [hc] at hb1; exact hb1) hu1
  refine loop_rule [0, 2, 7] [] (fun vs w' m => vs = [] ∧ ∃ Y, J Y w' m) rfl [] n rfl ⟨rfl, _, h0 w1 p1⟩ ?_
  rintro _ w2 m ⟨rfl, Y, j2⟩
  obtain ⟨hY, hm, t, ht, htg, htl⟩ := hJ Y w2 m j2
  have hb := hY.blk
  rw [hm] at hb
  have hc := (hY.core ht).blk
  rw [htg] at hc
  rw [hg]
  obtain ⟨fa0, fc0, hfv, -⟩ := (hY.core ht).fr.form
  have hlen : thrC (i : Int) t.fv t.r t.pv t.sv t.wv t.rv t.ov = thrC (i : Int) (.slice fa0 t.fs.length fc0) t.r t.pv t.sv t.wv t.rv t.ov := by rw [hfv]
  rw [hlen] at hc
  have hend : ∀ r, r = Value.bool (decide ((t.fs.length : Int) > 0)) → (Y.acted = true ∨ t.fs = []) → ∃ Y n' t, J Y w2 n' ∧ Y.ths[i]? = some t ∧ (Y.acted = true ∨ t.fs = []) ∧ r = .bool (decide ((t.fs.length : Int) > 0)) := fun r hr ho => ⟨Y, m, t, j2, ht, ho, hr⟩
  refine fa ?_
  refine ldb hb (v := .bool Y.acted) (by cases Y.c; rfl) ?_
  cases ha : Y.acted with
  | true =>
    refine fa ?_
    refine ldb hc rfl ?_
    refine len_sl ?_
    exact hend _ rfl (.inl ha)
  | false =>
    refine fa ?_
    refine ldb hc rfl ?_
    refine len_sl ?_
    refine cd (fun hpos => ?_) (fun hpos => ?_)
    · have hne : t.fs ≠ [] := fun e => by rw [e] at hpos; simp at hpos
      refine cl (hr Y w2 m t j2 ht ha hne) ?_
      rintro _ w3 ⟨Y', n', j3, hn'⟩
      exact round_mk [] n' rfl rfl ⟨rfl, Y', j3⟩ hn'
    · refine fa ?_
      refine ldb hc rfl ?_
      refine len_sl ?_
      refine hend _ rfl (.inr (List.eq_nil_of_length_eq_zero (by omega)))
theorem step_no {w : World} {X : Mc} {i : Int} {r : Value} (h : Mach w X) (hi : i < 0 ∨ (X.ths.length : Int) ≤ i) : Fn Try.prog 14 #[ptrV X.m, .int .i64 i, r] w fun r w' => r = .bool false ∧ w' = w := by
  refine fn_enter Try.func14 rfl rfl ?_
  refine cl (thread_no h i hi) ?_
  rintro _ _ ⟨rfl, rfl⟩
  refine ptr_eq0 ?_
  exact ⟨rfl, rfl⟩
theorem step_nil {w : World} {X : Mc} {i : Nat} {t : Th} (h : Mach w X) (hi : X.ths[i]? = some t) (hl : X.ths.length ≤ 100) : Fn Try.prog 14 #[ptrV X.m, .int .i64 (i : Int), .nilFunc] w fun r w' => r = .bool false ∧ w' = w := by
  refine fn_enter Try.func14 rfl rfl ?_
  refine cl (thread_mm h hi hl) ?_
  rintro _ _ ⟨rfl, rfl⟩
  refine ptr_eq ?_
  refine fn_eq0 ?_
  exact ⟨rfl, rfl⟩
theorem step_none (w : World) (i : Int) (r : Value) : Fn Try.prog 14 #[.pointer none, .int .i64 i, r] w fun r w' => r = .bool false ∧ w' = w := by
  refine fn_enter Try.func14 rfl rfl ?_
  have ht : Fn Try.prog 8 #[.pointer none, .int .i64 i] w fun r w' => r = .pointer none ∧ w' = w := by
    refine fn_enter Try.func8 rfl rfl ?_
    refine ptr_eq0 ?_
    exact ⟨rfl, rfl⟩
  refine cl ht ?_
  rintro _ _ ⟨rfl, rfl⟩
  refine ptr_eq0 ?_
  exact ⟨rfl, rfl⟩
theorem fault_none (w : World) : Fn Try.prog 18 #[.pointer none] w fun r w' => r = .bool false ∧ w' = w := by
  refine fn_enter Try.func18 rfl rfl ?_
  refine ptr_ne0 ?_
  exact ⟨rfl, rfl⟩
theorem load_none (w : World) (a : Int) : Fn Try.prog 53 #[.pointer none, .int .i64 a] w fun r w' => r = .int .u64 0 ∧ Upd [] w w' := by
  have ht : ∀ (w : World) (v : Value), Fn Try.prog 67 #[.pointer none, v] w fun r w' => r = .bool false ∧ w' = w := fun w v => by
    refine fn_enter Try.func67 rfl rfl ?_
    refine ptr_eq0 ?_
    exact ⟨rfl, rfl⟩
  refine fn_enter Try.func53 rfl rfl ?_
  refine bs #[.int .i64 a] (fun _ => by kernel_rfl) fun w1 hb1 hu1 hs1 => ?_
  refine cl (ht w1 _) ?_
  rintro _ _ ⟨rfl, rfl⟩
  exact ⟨rfl, hu1⟩
end Go.Proofs.Ytklbeipdigancaa

/- The law CoreOnce. -/
namespace Go.Proofs.Ytklbeipdigancaa
open Go.RowKit
attribute [local irreducible] Instr.loadAt Instr.storeAt Instr.fieldAt Instr.indexAt Instr.sliceAt Instr.buildSlice Instr.box Instr.alloc Builtin.append_ Builtin.len_ Builtin.min_ Builtin.max_ Calls Instr.build Instr.makeSlice binSem convert Instr.index Instr.range Instr.next
end Go.Proofs.Ytklbeipdigancaa

/- The law CoreOnce, whole. -/
namespace Go.Proofs.Ytklbeipdigancaa
open Go.RowKit
attribute [local irreducible] Instr.loadAt Instr.storeAt Instr.fieldAt Instr.indexAt Instr.sliceAt Instr.buildSlice Instr.box Instr.alloc Builtin.append_ Builtin.len_ Builtin.min_ Builtin.max_ Calls Instr.build Instr.makeSlice binSem convert Instr.index Instr.range Instr.next
theorem layS_q {A T N L B P S : Int} (hr : rightC ⟨A, T, N, L, B, P, S⟩) : Quiet (layS A T N L (newMS (sizeP A T N L).toNat)) 200 := by
  obtain ⟨b1, b2, b3, b4, b5, b6, -⟩ := plan_bd hr
  have q0 : Quiet (newMS (sizeP A T N L).toNat) 0 := ⟨Int.le_refl _, Int.le_refl _, rfl, rfl⟩
  generalize newMS (sizeP A T N L).toNat = s at q0
  have q3 : Quiet (lay3 A T N L s) 100 := by
    have := ((layL_q (A := A) (T := T) (N := N) (L := L) (se := (sentP A).toNat) (q0.st 0 ((2 * ((sentP A).toNat + 1) : Nat) : Int)) (N.toNat - (sentP A).toNat - 1)).st 2 1)
    exact this.up (by omega)
  unfold layS
  split
  · exact q3.up (by omega)
  · have := layN_q (A := A) (T := T) (N := N) (L := L) ((q3.st (nodeA A T N L 1 3) L).st (nodeA A T N L 2 0) 18446744073709551615) L.toNat
    exact this.up (by omega)
end Go.Proofs.Ytklbeipdigancaa

/- The reference's steps of memory. -/
namespace Go.Proofs.Ytklbeipdigancaa
open Go.RowKit
attribute [local irreducible] Instr.loadAt Instr.storeAt Instr.fieldAt Instr.indexAt Instr.sliceAt Instr.buildSlice Instr.box Instr.alloc Builtin.append_ Builtin.len_ Builtin.min_ Builtin.max_ Calls Instr.build Instr.makeSlice binSem convert Instr.index Instr.range Instr.next
end Go.Proofs.Ytklbeipdigancaa

/- A step of memory, as the law asks for it. -/
namespace Go.Proofs.Ytklbeipdigancaa
open Go.RowKit
attribute [local irreducible] Instr.loadAt Instr.storeAt Instr.fieldAt Instr.indexAt Instr.sliceAt Instr.buildSlice Instr.box Instr.alloc Builtin.append_ Builtin.len_ Builtin.min_ Builtin.max_ Calls Instr.build Instr.makeSlice binSem convert Instr.index Instr.range Instr.next
theorem liveL_at (n s i : Nat) (h : i < n) : (liveL n s).getD i 0 = if i < s then 1 else 0 := by
  have hl : i < (liveL n s).length := by rw [liveL_len]; exact h
  rw [List.getD_eq_getElem?_getD, List.getElem?_eq_getElem hl]
  simp [liveL]
end Go.Proofs.Ytklbeipdigancaa

/- A reader for functions that range over functions, and for the rounds of such loops. -/
namespace Go.Proofs.Ytklbeipdigancaa
open Go.RowKit
theorem vcOp_comes {P : Program} {N : Nat} {e : Env} {a : Act} {o : Oper} {K : Value → World → Prop} {w : World} (hk : Knows N e a) (h : vcOp P e o K w) : Comes1 P (execOp a.eval o) K w := by
  unfold vcOp at h
  unfold execOp
  split at h <;> rename_i ho <;> simp only [ho]
  case h_1 x => exact .inl ⟨_, w, rfl, ev_sound hk (K := fun v => K v w) h⟩
  case h_2 x => exact .inl ⟨_, w, rfl, ev_sound hk (K := fun v => K v w) h⟩
  case h_3 c x y =>
    have h1 := ev_sound hk (K := fun vc => ev e x fun vx => ev e y fun vy => (match vc with | .bool b => (Bool.rec (motive := fun _ => Prop) (K vy w) (K vx w) b : Prop) | _ => False)) h
    have h2 := ev_sound hk (K := fun vx => ev e y fun vy => (match a.eval c with | .bool b => (Bool.rec (motive := fun _ => Prop) (K vy w) (K vx w) b : Prop) | _ => False)) h1
    have h3 := ev_sound hk (K := fun vy => (match a.eval c with | .bool b => (Bool.rec (motive := fun _ => Prop) (K vy w) (K (a.eval x) w) b : Prop) | _ => False)) h2
    split at h3
    · rename_i b hb
      refine .inl ⟨if b then a.eval x else a.eval y, w, by simp [hb, asBool], ?_⟩
      cases b with
      | true => exact h3
      | false => exact h3
    · exact h3.elim
  case h_4 t => exact h.comes
  case h_5 t x => exact (ev_sound hk (K := fun v => RunP P (Instr.box t v) K w) h).comes
  case h_6 t ps =>
    have h1 := evp_sound hk (K := fun l => RunP P (Instr.build t l.toArray) K w) h
    have e1 : (ps.map fun x => match x with | (i, x) => (i, a.eval x)) = (ps.toList.map fun (i, x) => (i, a.eval x)).toArray := by
      apply Array.ext'; simp
    rw [e1]
    exact h1.comes
  case h_7 t n ps =>
    have h1 := evp_sound hk (K := fun l => RunP P (Instr.buildSlice t n l.toArray) K w) h
    have e1 : (ps.map fun x => match x with | (i, x) => (i, a.eval x)) = (ps.toList.map fun (i, x) => (i, a.eval x)).toArray := by
      apply Array.ext'; simp
    rw [e1]
    exact h1.comes
  case h_8 t x => exact (ev_sound hk (K := fun v => RunP P (Instr.loadAt t v) K w) h).comes
  case h_9 t x y =>
    have h1 := ev_sound hk (K := fun va => ev e y fun vx => RunU P (Instr.storeAt t va vx) (K undef) w) h
    exact (ev_sound hk (K := fun vx => RunU P (Instr.storeAt t (a.eval x) vx) (K undef) w) h1).comes fun _ h => h
  case h_10 x =>
    have h1 := ev_sound hk (K := fun v => vcNil P v K w) h
    generalize a.eval x = v at h1
    unfold vcNil at h1
    split at h1
    · exact .inl ⟨_, w, rfl, h1⟩
    · exact .inl ⟨_, w, rfl, h1⟩
    · exact h1.elim
  case h_11 op t x y _ =>
    have h1 := ev_sound hk (K := fun va => ev e y fun vb => vcBin P op t x y va vb K w) h
    exact vcBin_comes (ev_sound hk (K := fun vb => vcBin P op t x y (a.eval x) vb K w) h1)
  case h_12 op _ x => exact vcUn_comes (ev_sound hk (K := fun va => vcUn P op va K w) h)
  case h_13 s d x => exact (ev_sound hk (K := fun v => RunP P (convert s d v) K w) h).comes
  case h_14 t x => exact (ev_sound hk (K := fun v => RunP P (Instr.makeInterface t v) K w) h).comes
  case h_15 fn x y =>
    have h1 := evs_sound hk (K := fun lx => evs e y.toList fun ly => K (.func fn lx.toArray ly.toArray) w) h
    have h2 := evs_sound hk (K := fun ly => K (.func fn (x.toList.map a.eval).toArray ly.toArray) w) h1
    have e1 : ∀ z : Array Operand, z.map a.eval = (z.toList.map a.eval).toArray := fun z => by apply Array.ext'; simp
    rw [e1, e1]
    exact .inl ⟨_, w, run_v rfl, h2⟩
  case h_16 t x y =>
    have h1 := ev_sound hk (K := fun va => ev e y fun vb => RunP P (Instr.makeSlice t va vb) K w) h
    exact (ev_sound hk (K := fun vb => RunP P (Instr.makeSlice t (a.eval x) vb) K w) h1).comes
  case h_17 t x lo hi mx =>
    have h1 := ev_sound hk (K := fun v => evo e lo fun a => evo e hi fun b => evo e mx fun c => RunP P (Instr.sliceAt t v a b c) K w) h
    have h2 := evo_sound hk (K := fun vl => evo e hi fun b => evo e mx fun c => RunP P (Instr.sliceAt t (a.eval x) vl b c) K w) h1
    have h3 := evo_sound hk (K := fun vh => evo e mx fun c => RunP P (Instr.sliceAt t (a.eval x) (lo.map a.eval) vh c) K w) h2
    exact (evo_sound hk (K := fun vm => RunP P (Instr.sliceAt t (a.eval x) (lo.map a.eval) (hi.map a.eval) vm) K w) h3).comes
  case h_18 s x f => exact (ev_sound hk (K := fun v => RunP P (Instr.fieldAt s v f) K w) h).comes
  case h_19 s x f => exact (ev_sound hk (K := fun v => RunP P (Instr.field s v f) K w) h).comes
  case h_20 t x i =>
    have h1 := ev_sound hk (K := fun v => ev e i fun n => RunP P (Instr.indexAt t v n) K w) h
    exact (ev_sound hk (K := fun n => RunP P (Instr.indexAt t (a.eval x) n) K w) h1).comes
  case h_21 t x i =>
    have h1 := ev_sound hk (K := fun v => ev e i fun n => RunP P (Instr.index t v n) K w) h
    exact (ev_sound hk (K := fun n => RunP P (Instr.index t (a.eval x) n) K w) h1).comes
  case h_22 t x => exact (ev_sound hk (K := fun v => RunP P (Instr.range t v) K w) h).comes
  case h_23 x b => exact (ev_sound hk (K := fun v => RunP P (Instr.next v b o.type) K w) h).comes
  case h_24 x i =>
    have h1 := ev_sound hk (K := fun v => (match v with
      | .tuple vs => (match nthV vs.toList i with | some u => K u w | none => False)
      | _ => False)) h
    generalize a.eval x = v at h1
    split at h1
    · split at h1
      · rename_i u hu
        rw [nthV_eq] at hu
        have hu' : _ := hu
        exact .inl ⟨u, w, run_v (by simp only [Array.getElem?_toList] at hu'; simp [Instr.extract, hu']), h1⟩
      · exact h1.elim
    · exact h1.elim
  case h_25 c =>
    have e1 : ∀ z : Array Operand, z.map a.eval = (z.toList.map a.eval).toArray := fun z => by apply Array.ext'; simp
    split at h
    · rename_i f hf
      have h1 := ev_sound hk (K := fun fv => evs e c.args.toList fun l => vcCall P fv l K w) h
      have h2 := evs_sound hk (K := fun l => vcCall P (a.eval f) l K w) h1
      unfold vcCall at h2
      split at h2
      · rename_i g x y hg
        have e2 : ((do let d ← resolve a.eval c o.type; invoke d.target d.args) : Sem Next) = callFunc g (x ++ (c.args.toList.map a.eval).toArray ++ y) := by
          simp only [resolve, hf, hg, Deferred.ofValue]
          show invoke (.fn (.func g) y) (x ++ c.args.map a.eval) = _
          rw [e1]
          rfl
        rw [e2]
        rcases h2.h with ⟨h3, h4⟩ | ⟨v, w', h3, h4⟩
        · exact .inr (.inr ⟨_, _, h3, h4⟩)
        · exact .inl ⟨v, w', h3, h4⟩
      · exact h2.elim
    · rename_i b hb
      have h1 := evs_sound hk (K := fun l => (match builtinSem b c.argTypes o.type l.toArray with | some s => RunP P s K w | none => False)) h
      rw [← e1] at h1
      split at h1
      · rename_i s hs
        have e2 : ((do let d ← resolve a.eval c o.type; invoke d.target d.args) : Sem Next) = (do pure (Next.value (← s))) := by
          simp only [resolve, hb]
          show builtin b c.argTypes o.type _ (c.args.map a.eval) = _
          unfold builtinSem at hs
          split at hs <;> first | (cases hs; rfl) | (cases hs)
        rw [e2]
        exact h1.comes
      · exact h1.elim
    · exact h.elim
  case h_26 t r => exact (evo_sound hk (K := fun v => RunP P (Instr.makeMap t v) K w) h).comes
  case h_27 t m x ok =>
    have h1 := ev_sound hk (K := fun vm => ev e x fun vx => RunP P (Instr.lookup t vm vx ok) K w) h
    exact (ev_sound hk (K := fun vx => RunP P (Instr.lookup t (a.eval m) vx ok) K w) h1).comes
  case h_28 t m x y =>
    have h1 := ev_sound hk (K := fun vm => ev e x fun vx => ev e y fun vy => RunU P (Instr.mapUpdate t vm vx vy) (K undef) w) h
    have h2 := ev_sound hk (K := fun vx => ev e y fun vy => RunU P (Instr.mapUpdate t (a.eval m) vx vy) (K undef) w) h1
    exact (ev_sound hk (K := fun vy => RunU P (Instr.mapUpdate t (a.eval m) (a.eval x) vy) (K undef) w) h2).comes fun _ h => h
  case h_29 => exact h.elim


theorem vcOp_nodefer {P : Program} {e : Env} {o : Oper} {K : Value → World → Prop} {w : World} (h : vcOp P e o K w) : ∀ c, o.op ≠ .defer c := by
  intro c hc
  unfold vcOp at h
  rw [hc] at h
  exact h
/-- frames of whatever kind -/
def wdF (ro : Option Nat) : Fence := { Fence.wide with round := ro }
theorem callsIn_wd {ro : Option Nat} {n : Nat} {P : Program} {f : FuncId} {args : Array Value} {w : World} {R : Ending → World → Prop} : CallsIn (wdF ro) n P f args w R ↔ Calls P f args w R :=
  (callsIn_wide (n := n) (P := P) (f := f) (args := args) (w := w) (R := R))
def markD (r : Nat) : Deferred := { target := .collected r, args := #[] }
structure KnowsD (N : Nat) (D : List Nat) (e : Env) (a : Act) : Prop where
  defers : a.defers = D.map markD
  size : a.tmps.size = N
  look : ∀ t v, look e t = some v → a.tmps[t]? = some v
theorem KnowsD.bare {N : Nat} {D : List Nat} {e : Env} {a : Act} (h : KnowsD N D e a) : Knows N e { a with defers := [] } := ⟨rfl, h.size, h.look⟩
theorem KnowsD.sub {N : Nat} {D : List Nat} {e e' : Env} {a : Act} (h : KnowsD N D e' a) (hs : Sub e e') : KnowsD N D e a := ⟨h.defers, h.size, fun t v hl => h.look t v (hs t v hl)⟩
theorem KnowsD.ev {N : Nat} {D : List Nat} {e : Env} {a : Act} (hk : KnowsD N D e a) {x : Operand} {K : Value → Prop} (h : ev e x K) : K (a.eval x) := ev_sound hk.bare h
theorem setK_soundD {N : Nat} {D : List Nat} {e : Env} {a : Act} {dst : Option Tmp} {v : Value} {K : Env → Prop} (hk : KnowsD N D e a) (h : setK N e dst v K) : ∃ e', KnowsD N D e' (a.put dst v) ∧ K e' := by
  obtain ⟨e', h1, h2⟩ := setK_sound hk.bare h
  refine ⟨e', ⟨?_, ?_, ?_⟩, h2⟩
  · cases dst <;> exact hk.defers
  · have := h1.size
    cases dst <;> exact this
  · have := h1.look
    cases dst <;> exact this
/-- a call of yield -/
structure YieldP (P : Program) (l : Nat) (x y : Array Value) (vs : List Value) (K : Value → World → Prop) (w : World) : Prop where
  hx : x = #[]
  hy : y = #[]
  h : ∀ m, YieldAt (wdF none) m P l vs.toArray w fun e w' => ∃ v, e = .returned v ∧ K v w'
def calleeOf (o : Oper) : Option (Operand × List Operand) := match o.op with | .call c => (match c.callee with | .value f => some (f, c.args.toList) | _ => none) | _ => none
def vrCall (P : Program) (e : Env) (o : Oper) (al : List Operand) (K : Value → World → Prop) (w : World) (fv : Value) : Prop :=
  match fv with
  | .func (.yield l) x y => evs e al fun vs => YieldP P l x y vs K w
  | _ => vcOp P e o K w
def vrOp (P : Program) (e : Env) (o : Oper) (K : Value → World → Prop) (w : World) : Prop :=
  match calleeOf o with
  | some (f, al) => ev e f (vrCall P e o al K w)
  | none => vcOp P e o K w
theorem wpIn_comes {ro : Option Nat} {n : Nat} {P : Program} {o : Oper} {a : Act} {K : Value → World → Prop} {w : World} {Q : Exit → Act → World → Prop} (hd : ∀ c, o.op ≠ .defer c) (h : Comes1 P (execOp a.eval o) K w) :
    o.wpIn (wdF ro) n P a w (fun a' w' => ∃ v, a' = a.put o.dst v ∧ K v w') Q := by
  refine ⟨fun _ _ => trivial, ?_⟩
  rw [Oper.semAt_eq _ _ _ hd]
  rcases h with ⟨v, w', h1, h2⟩ | ⟨w', h1, h2⟩ | ⟨f, args, h1, h2⟩
  · rw [h1]; exact ⟨v, rfl, h2⟩
  · rw [h1]; exact ⟨undef, rfl, h2⟩
  · rw [h1]
    refine ⟨fun h => (by cases h), callsIn_wd.2 (h2.mono fun e w' he => ?_)⟩
    obtain ⟨v, rfl, hK⟩ := he
    exact ⟨v, rfl, hK⟩
theorem vrOp_sound {ro : Option Nat} {n : Nat} {P : Program} {N : Nat} {D : List Nat} {e : Env} {a : Act} {o : Oper} {K : Value → World → Prop} {w : World} {Q : Exit → Act → World → Prop} (hk : KnowsD N D e a) (h : vrOp P e o K w) :
    o.wpIn (wdF ro) n P a w (fun a' w' => ∃ v, a' = a.put o.dst v ∧ K v w') Q := by
  have plain : vcOp P e o K w → o.wpIn (wdF ro) n P a w (fun a' w' => ∃ v, a' = a.put o.dst v ∧ K v w') Q := fun h => wpIn_comes (vcOp_nodefer h) (show Comes1 P (execOp a.eval o) K w from vcOp_comes (a := { a with defers := [] }) hk.bare h)
  unfold vrOp at h
  split at h
  · rename_i f al hc
    have h1 := hk.ev h
    unfold vrCall at h1
    split at h1
    · rename_i l x y hf
      have h2 := evs_sound hk.bare h1
      obtain ⟨rfl, rfl, h3⟩ := h2
      unfold calleeOf at hc
      split at hc
      · rename_i c ho
        split at hc
        · rename_i g hg
          have e1 : g = f := by have := Option.some.inj hc; exact (Prod.mk.inj this).1
          have e2 : c.args.toList = al := by have := Option.some.inj hc; exact (Prod.mk.inj this).2
          subst e1
          subst e2
          have hrun : execOp a.eval o = Instr.yield l ((c.args.toList.map ({ a with defers := [] } : Act).eval).toArray) := by
            unfold execOp
            simp only [ho]
            simp only [resolve, hg, hf, Deferred.ofValue]
            have e3 : c.args.map a.eval = (c.args.toList.map ({ a with defers := [] } : Act).eval).toArray := by
              apply Array.ext'; simp; intro x _; cases x <;> rfl
            show invoke (.fn (.yield l) #[]) (#[] ++ c.args.map a.eval) = _
            rw [e3]
            simp [invoke]
          refine ⟨fun _ _ => trivial, ?_⟩
          rw [Oper.semAt_eq _ _ _ (by rw [ho]; intro c h; cases h), hrun]
          obtain ⟨fn, tmps, assign, body, hy, hR⟩ := h3 (n - 1)
          rw [hy]
          refine ⟨fun h => (by cases h), ?_⟩
          refine RoundIn.mono (show RoundIn (wdF ro) (n - 1) P l fn tmps assign body w _ from hR) fun e w' he => ?_
          obtain ⟨v, rfl, hK⟩ := he
          exact ⟨v, rfl, hK⟩
        · cases hc
      · cases hc
    · exact plain h1
  · exact plain h
def vrStep (P : Program) (N : Nat) (ops : List Oper) (o : Oper) (e : Env) (w : World) (next : Env → World → Prop) : Prop :=
  match o.guard with
  | none => vrOp P e o (fun v w' => setK N e o.dst v fun e' => next e' w') w
  | some (j, want) =>
    (match dstOf ops j with
    | some d => (match look e d with
      | some (.bool b) =>
        (match want with
        | true => (Bool.rec (motive := fun _ => Prop) (setK N ((d, .bool false) :: e) o.dst undef fun e' => next e' w) (vrOp P ((d, .bool true) :: e) o (fun v w' => setK N ((d, .bool true) :: e) o.dst v fun e' => next e' w') w) b : Prop)
        | false => (Bool.rec (motive := fun _ => Prop) (vrOp P ((d, .bool false) :: e) o (fun v w' => setK N ((d, .bool false) :: e) o.dst v fun e' => next e' w') w) (setK N ((d, .bool true) :: e) o.dst undef fun e' => next e' w) b : Prop))
      | some (.tuple _) => setK N e o.dst undef fun e' => next e' w
      | _ => False)
    | none => False)
noncomputable def vrOps (P : Program) (N : Nat) (ops : List Oper) (Q : Env → World → Prop) (l : List Oper) : Env → World → Prop :=
  List.rec (motive := fun _ => Env → World → Prop) Q (fun o _ next e w => vrStep P N ops o e w next) l
theorem vrOps_cons {P : Program} {N : Nat} {ops : List Oper} {Q : Env → World → Prop} {o : Oper} {rest : List Oper} {e : Env} {w : World} : vrOps P N ops Q (o :: rest) e w = vrStep P N ops o e w (vrOps P N ops Q rest) := rfl
theorem about_true {ro : Option Nat} {P : Program} {o : Oper} {w : World} {a : Act} : ∀ f, o.about P w a.eval = some f → (wdF ro).fn f := fun _ _ => trivial
theorem wpIn_next {F : Fence} {n : Nat} {P : Program} {o : Oper} {a : Act} {w : World} {X Y : Act → World → Prop} {Q : Exit → Act → World → Prop} (hXY : ∀ a w, X a w → Y a w) (h : o.wpIn F n P a w X Q) : o.wpIn F n P a w Y Q := by
  refine ⟨h.1, ?_⟩
  have h2 := h.2
  revert h2
  generalize (o.semAt F.round a.eval).run P w = r
  intro h2
  cases r with
  | ok v w' =>
    cases v with
    | value v => exact hXY _ _ h2
    | skip => exact hXY _ _ h2
    | defer d => exact hXY _ _ h2
    | enter f args => exact ⟨h2.1, h2.2.mono fun e w' he => by
        cases e with
        | returned v => exact hXY _ _ he
        | panicked c => exact he
        | outgrown => exact he⟩
    | row r args => exact ⟨h2.1, h2.2.mono fun v w' he => hXY _ _ he⟩
    | round l f t x y => exact ⟨h2.1, h2.2.mono fun e w' he => by
        cases e with
        | returned v => exact hXY _ _ he
        | panicked c => exact he
        | outgrown => exact he⟩
    | _ => exact h2
  | halt x w' =>
    cases x with
    | panic v => exact h2
    | _ => exact h2
theorem vrOps_sound {ro : Option Nat} {n : Nat} {P : Program} {N : Nat} {D : List Nat} {ops : List Oper} {Q : Env → World → Prop} {Q' : Exit → Act → World → Prop} : ∀ (l : List Oper) (e : Env) (a : Act) (w : World), KnowsD N D e a →
    (∀ e a w, KnowsD N D e a → Q e w → Q' .normal a w) → vrOps P N ops Q l e w → wpListIn (wdF ro) n P ops.toArray Q' l a w
  | [], e, a, w, hk, hQ, h => wpListIn_nil (hQ e a w hk h)
  | o :: rest, e, a, w, hk, hQ, h => by
    have step : ∀ (e1 : Env), KnowsD N D e1 a → (vrOp P e1 o (fun v w' => setK N e1 o.dst v fun e' => vrOps P N ops Q rest e' w') w) → o.wpIn (wdF ro) n P a w (wpListIn (wdF ro) n P ops.toArray Q' rest) Q' := fun e1 hk1 h1 => by
      refine wpIn_next ?_ (vrOp_sound (Q := Q') hk1 h1)
      rintro a' w' ⟨v, rfl, h2⟩
      obtain ⟨e', hk', h3⟩ := setK_soundD hk1 h2
      exact vrOps_sound rest e' _ w' hk' hQ h3
    rw [vrOps_cons] at h
    unfold vrStep at h
    unfold wpListIn
    split at h
    · rename_i hg
      rw [if_pos (by simp [Region.wanted, hg])]
      exact step e hk h
    · rename_i j want hg
      split at h
      · rename_i d hd
        split at h
        · rename_i b hb
          have hy : yielded ops.toArray a.tmps j = some b := by
            have h1 := hk.look d _ hb
            rw [dstOf_eq] at hd
            unfold yielded
            simp [hd, h1]
          have hw : Region.wanted o (yielded ops.toArray a.tmps) = (b == want) := by
            simp only [Region.wanted, hg, hy]
            cases b <;> cases want <;> rfl
          rw [hw]
          have hkb : ∀ b', b = b' → KnowsD N D ((d, .bool b') :: e) a := fun b' hbb => by
            subst hbb
            refine ⟨hk.defers, hk.size, fun t v hl => ?_⟩
            by_cases hdt : d = t
            · subst hdt; rw [look_cons_eq] at hl; cases hl; exact hk.look _ _ hb
            · rw [look_cons_ne hdt] at hl; exact hk.look _ _ hl
          have no : ∀ b', b = b' → (setK N ((d, .bool b') :: e) o.dst undef fun e' => vrOps P N ops Q rest e' w) → wpListIn (wdF ro) n P ops.toArray Q' rest (a.put o.dst undef) w := fun b' hbb h1 => by
            obtain ⟨e', hk', h3⟩ := setK_soundD (hkb b' hbb) h1
            exact vrOps_sound rest e' _ w hk' hQ h3
          cases want with
          | true =>
            cases b with
            | true => rw [if_pos (by simp)]; exact step _ (hkb true rfl) h
            | false => rw [if_neg (by simp)]; exact ⟨about_true, no false rfl h⟩
          | false =>
            cases b with
            | true => rw [if_neg (by simp)]; exact ⟨about_true, no true rfl h⟩
            | false => rw [if_pos (by simp)]; exact step _ (hkb false rfl) h
        · rename_i u hb
          have hy : yielded ops.toArray a.tmps j = none := by
            have h1 := hk.look d _ hb
            rw [dstOf_eq] at hd
            unfold yielded
            simp [hd, h1]
          have hw : Region.wanted o (yielded ops.toArray a.tmps) = false := by
            simp only [Region.wanted, hg, hy]
            rfl
          rw [hw, if_neg (by simp)]
          obtain ⟨e', hk', h3⟩ := setK_soundD hk h
          exact ⟨about_true, vrOps_sound rest e' _ w hk' hQ h3⟩
        · exact h.elim
      · exact h.elim
abbrev QR := Exit → List Nat → Env → World → Prop
def semD (N : Nat) (Q : QR) (x : Exit) (a : Act) (w : World) : Prop := ∃ D e, KnowsD N D e a ∧ Q x D e w
structure LoopR (P : Program) (top : Bool) (N : Nat) (c : Code) (Q : QR) (D : List Nat) (e : Env) (w : World) : Prop where
  h : ∀ n ro a, (top = true → ro = none) → KnowsD N D e a → (Code.loop c).wpIn (wdF ro) n P (semD N Q) a w
structure RangeR (P : Program) (N : Nat) (f : Value) (ps : Array Tmp) (asg c : Code) (Q : QR) (D : List Nat) (e : Env) (w : World) : Prop where
  h : ∀ n g a, KnowsD N D e a → a.eval g = f → (Code.rangeFunc g ps asg c).wpIn (wdF none) n P (semD N Q) a w
structure DrawR (P : Program) (N : Nat) (ops : Array Oper) (Q : List Nat → Env → World → Prop) (D : List Nat) (e : Env) (w : World) : Prop where
  h : ∀ id a, KnowsD N D e a → (Code.region id ops true).wp P (fun x a' w' => x = .normal ∧ ∃ D' e', KnowsD N D' e' a' ∧ Q D' e' w') a w
def thenR (K : List Nat → Env → World → Prop) (Q : QR) (x : Exit) (D : List Nat) (e : Env) (w : World) : Prop :=
  match x with
  | .normal => K D e w
  | x => Q x D e w
def blockR (id : Nat) (Q : QR) (x : Exit) (D : List Nat) (e : Env) (w : World) : Prop :=
  match x with
  | .exit i => (match Nat.beq i id with | true => Q .normal D e w | false => Q (.exit i) D e w)
  | x => Q x D e w
def vr (P : Program) (top : Bool) (N : Nat) : Code → QR → List Nat → Env → World → Prop
  | .skip, Q, D, e, w => Q .normal D e w
  | .region _ ops false, Q, D, e, w => vrOps P N ops.toList (Q .normal D) ops.toList e w
  | .region _ ops true, Q, D, e, w => top = true ∧ DrawR P N ops (Q .normal) D e w
  | .seq x y, Q, D, e, w => vr P top N x (thenR (vr P top N y Q) Q) D e w
  | .cond c x y, Q, D, e, w => ev e c fun v => (match v with | .bool b => (Bool.rec (motive := fun _ => Prop) (vr P top N y Q D e w) (vr P top N x Q D e w) b : Prop) | _ => False)
  | .block id c, Q, D, e, w => vr P top N c (blockR id Q) D e w
  | .loop c, Q, D, e, w => LoopR P top N c Q D e w
  | .rangeFunc f ps asg c, Q, D, e, w => top = true ∧ ev e f fun v => RangeR P N v ps asg c Q D e w
  | .exit id, Q, D, e, w => Q (.exit id) D e w
  | .ret, Q, D, e, w => Q .ret D e w
  | _, _, _, _, _ => False
theorem vr_sound {P : Program} {top : Bool} {N n : Nat} {ro : Option Nat} (hro : top = true → ro = none) : ∀ (c : Code) (Q : QR) (D : List Nat) (e : Env) (a : Act) (w : World), KnowsD N D e a → vr P top N c Q D e w → c.wpIn (wdF ro) n P (semD N Q) a w := by
  intro c
  induction c with
  | skip => intro Q D e a w hk h; exact wpIn_skip ⟨D, e, hk, h⟩
  | region id ops d =>
    intro Q D e a w hk h
    cases d with
    | false =>
      have := vrOps_sound (ro := ro) (n := n) (Q' := semD N Q) ops.toList e a w hk (fun e a w hk hq => ⟨D, e, hk, hq⟩) h
      exact wpIn_region_list (by simpa using this)
    | true =>
      obtain ⟨ht, h⟩ := h
      have := hro ht
      subst this
      refine wpIn_mono (wpIn_wide.2 (h.h id a hk)) ?_
      rintro x a' w' ⟨rfl, D', e', hk', hq⟩
      exact ⟨D', e', hk', hq⟩
  | seq x y ihx ihy =>
    intro Q D e a w hk h
    refine wpIn_seq (wpIn_mono (ihx _ D e a w hk h) ?_)
    rintro ex a' w' ⟨D', e', hk', hq⟩
    cases ex with
    | normal => exact ihy _ D' e' a' w' hk' hq
    | _ => exact ⟨D', e', hk', hq⟩
  | cond c x y ihx ihy =>
    intro Q D e a w hk h
    have h1 := hk.ev (K := fun v => (match v with | .bool b => (Bool.rec (motive := fun _ => Prop) (vr P top N y Q D e w) (vr P top N x Q D e w) b : Prop) | _ => False)) h
    split at h1
    · rename_i b hb
      exact wpIn_cond_split hb (fun ht => ihx _ D e a w hk (CondP.t h1 ht)) (fun hf => ihy _ D e a w hk (CondP.f h1 hf))
    · exact h1.elim
  | block id c ih =>
    intro Q D e a w hk h
    refine wpIn_block (wpIn_mono (ih _ D e a w hk h) ?_)
    rintro ex a' w' ⟨D', e', hk', hq⟩
    cases ex with
    | exit i =>
      simp only [blockR] at hq
      show if i = id then semD N Q Exit.normal a' w' else semD N Q (Exit.exit i) a' w'
      split at hq
      · rename_i hb
        rw [if_pos (Nat.eq_of_beq_eq_true hb)]
        exact ⟨D', e', hk', hq⟩
      · rename_i hb
        rw [if_neg (Nat.ne_of_beq_eq_false hb)]
        exact ⟨D', e', hk', hq⟩
    | _ => exact ⟨D', e', hk', hq⟩
  | loop c _ => intro Q D e a w hk h; exact h.h n ro a hro hk
  | rangeFunc f ps asg c _ _ =>
    intro Q D e a w hk h
    obtain ⟨ht, h⟩ := h
    have := hro ht
    subst this
    exact (hk.ev (K := fun v => RangeR P N v ps asg c Q D e w) h).h n f a hk rfl
  | exit id => intro Q D e a w hk h; exact wpIn_exit ⟨D, e, hk, h⟩
  | scope c _ => intro Q D e a w hk h; exact h.elim
  | label l => intro Q D e a w hk h; exact h.elim
  | goto l => intro Q D e a w hk h; exact h.elim
  | ret => intro Q D e a w hk h; exact wpIn_ret ⟨D, e, hk, h⟩
  | refuse y => intro Q D e a w hk h; exact h.elim
/-! loops -/
structure loopKR (keep : List Nat) (kv : List Value) (slots : List Nat) (R : List Value → World → Nat → Prop) (m : Nat) (D0 D : List Nat) (e : Env) (w : World) : Prop where
  hD : D = D0
  h : loopK keep kv slots R m e w
theorem loop_ruleR {P : Program} {top : Bool} {N : Nat} {c : Code} {Q : QR} {D : List Nat} {e : Env} {w : World} (keep slots : List Nat) (R : List Value → World → Nat → Prop) {kv : List Value} (hk : looks e keep = some kv)
    (vs : List Value) (m : Nat) (hv : looks e slots = some vs) (h0 : R vs w m)
    (hr : ∀ vs w m, R vs w m → vr P top N c (thenR (loopKR keep kv slots R m D) Q) D (zipE slots vs (zipE keep kv [])) w) : LoopR P top N c Q D e w := by
  refine ⟨fun n ro a hro ha => ?_⟩
  refine wpIn_loop (fun a' w' => ∃ m vs, KnowsD N D (zipE slots vs (zipE keep kv [])) a' ∧ R vs w' m) (fun a' w' => leastOf fun m => ∃ vs, KnowsD N D (zipE slots vs (zipE keep kv [])) a' ∧ R vs w' m) ⟨m, vs, ha.sub (zip_sub _ _ _ hv (zip_sub _ _ _ hk fun _ _ h => by cases h)), h0⟩ ?_
  intro a' w' hI
  obtain ⟨vs, hka, hR⟩ := (leastOf_spec hI).1
  refine wpIn_mono (vr_sound hro c _ D _ a' w' hka (hr vs w' _ hR)) ?_
  rintro x a2 w2 ⟨D', e', hk', hq⟩
  cases x with
  | normal =>
    obtain ⟨rfl, h1, vs', m', h2, h3, h4⟩ := hq
    have hnew : ∃ vs, KnowsD N D' (zipE slots vs (zipE keep kv [])) a2 ∧ R vs w2 m' := ⟨vs', hk'.sub (zip_sub _ _ _ h2 (zip_sub _ _ _ h1 fun _ _ h => by cases h)), h3⟩
    exact ⟨⟨m', hnew⟩, Nat.lt_of_le_of_lt ((leastOf_spec (p := fun m => ∃ vs, KnowsD N D' (zipE slots vs (zipE keep kv [])) a2 ∧ R vs w2 m) ⟨m', hnew⟩).2 m' hnew) h4⟩
  | _ => exact ⟨D', e', hk', hq⟩
theorem round_mkR {keep : List Nat} {kv : List Value} {slots : List Nat} {R : List Value → World → Nat → Prop} {m : Nat} {D : List Nat} {e : Env} {w : World} (vs : List Value) (m' : Nat) (h1 : looks e keep = some kv) (h2 : looks e slots = some vs) (h : R vs w m') (hm : m' < m) : loopKR keep kv slots R m D D e w := ⟨rfl, round_mk vs m' h1 h2 h hm⟩
/-! regions that draw, where all is read -/
theorem vqOps_soundD {P : Program} {N : Nat} {D : List Nat} {C : World → Prop} {ops : List Oper} {Q : Env → Prop} {Q' : Act → Prop} (hQ : ∀ e a, KnowsD N D e a → Q e → Q' a) (l : List Oper) (e : Env) (a : Act) (hk : KnowsD N D e a) (h : vqOps P N C ops Q l e) : wpQuiet P ops.toArray C Q' l a := by
  have key : ∀ (l : List Oper) (a a0 : Act) (Q0 : Act → Prop), a0 = { a with defers := [] } → a.defers = D.map markD → (∀ b b0 : Act, b0 = { b with defers := [] } → b.defers = D.map markD → Q0 b0 → Q' b) → wpQuiet P ops.toArray C Q0 l a0 → wpQuiet P ops.toArray C Q' l a := by
    intro l
    induction l with
    | nil => intro a a0 Q0 ha hd hq h; exact hq a a0 ha hd h
    | cons o l ih =>
      intro a a0 Q0 ha hd hq h
      subst ha
      unfold wpQuiet at h ⊢
      have put_ : ∀ v, ({ a with defers := [] } : Act).put o.dst v = { (a.put o.dst v) with defers := [] } := fun v => by cases o.dst <;> rfl
      have putd : ∀ v, (a.put o.dst v).defers = D.map markD := fun v => by cases o.dst <;> exact hd
      split at h
      · rename_i hw
        rw [if_pos hw]
        obtain ⟨v, h1, h2⟩ := h
        exact ⟨v, h1, ih _ _ Q0 (put_ v) (putd v) hq h2⟩
      · rename_i hw
        rw [if_neg hw]
        exact ih _ _ Q0 (put_ undef) (putd undef) hq h
  refine key l a { a with defers := [] } (fun b0 => ∃ e', Knows N e' b0 ∧ Q e') rfl hk.defers (fun b b0 hb hd ⟨e', hk', hq⟩ => ?_) (vqOps_sound (fun e a hk hq => ⟨e, hk, hq⟩) l e _ hk.bare h)
  subst hb
  exact hQ e' b ⟨hd, hk'.size, hk'.look⟩ hq
theorem draw_allR {P : Program} {N : Nat} {D : List Nat} {e : Env} {w : World} {Q : List Nat → Env → World → Prop} [Mixed P] {l : List Oper} (C : World → Prop) (hB : Region.lexB .any l.toArray = true) (hC : C w.drew) (h : vqOps P N C l (fun e' => ∀ w', C w' → Q D e' w') l e) : true = true ∧ DrawR P N l.toArray Q D e w :=
  ⟨rfl, ⟨fun id a hk => wp_region_quiet (C := C) Mixed.h hB hC (by
    have := vqOps_soundD (Q' := fun a' => ∀ w', C w' → (Exit.normal = .normal ∧ ∃ D' e', KnowsD N D' e' a' ∧ Q D' e' w')) (fun e' a' hk' hq w' hw' => ⟨rfl, D, e', hk', hq w' hw'⟩) l e a hk h
    simpa using this)⟩⟩
/-! a function's contract -/
def Dfr (w : World) (r : Nat) : Prop := w.heap[r]? = some (.deferred (some []))
theorem Dfr.upd {S : List Nat} {w w' : World} {r : Nat} (h : Dfr w r) (hu : Upd S w w') (hr : r ∉ S) : Dfr w' r := (hu.block r (Array.getElem?_eq_some_iff.1 h).1 hr).trans h
def retD (P : Program) (rs : List ResultVar) (e : Env) (R : Value → World → Prop) : List Nat → World → Prop
  | [], w => retE P rs e w fun l => R (retV l) w
  | r :: D, w => Dfr w r ∧ ∀ w', Upd [r] w w' → w'.heap.size = w.heap.size → retD P rs e R D w'
def bodyR (P : Program) (rs : List ResultVar) (R : Value → World → Prop) (x : Exit) (D : List Nat) (e : Env) (w : World) : Prop :=
  match x with
  | .normal => retD P rs e R D w
  | .ret => retD P rs e R D w
  | _ => False
theorem upd_putObj (w : World) (l : Nat) (o : Obj) : Upd [l] w (w.putObj l o) :=
  ⟨rfl, rfl, rfl, by simp, fun k _ hk => World.putObj_heap_other (by simpa using hk)⟩
theorem retD_sound {P : Program} {N n : Nat} {fn : Func} {R : Value → World → Prop} {e : Env} : ∀ (D : List Nat) (a : Act) (w : World), KnowsD N D e a → retD P fn.results.toList e R D w → LeavesInM (wdF none) n P fn a.tmps (fun x w' => ∃ v, x = .returned v ∧ R v w') a.defers .returning w
  | [], a, w, hk, h => by
    rw [hk.defers]
    obtain ⟨v, h1, h2⟩ := results_sound (R := fun v => R v w) hk.bare h
    exact ⟨v, h1, v, rfl, h2⟩
  | r :: D, a, w, hk, h => by
    rw [hk.defers]
    obtain ⟨h1, h2⟩ := h
    refine ⟨(fun h => by cases h), .inl ⟨r, _, rfl, run_takeDeferred h1, ?_⟩⟩
    have := retD_sound (n := n) D { a with defers := D.map markD } (w.putObj r (.deferred none)) ⟨rfl, hk.size, hk.look⟩ (h2 _ (upd_putObj w r _) (by simp))
    exact this
theorem fnr_enter {P : Program} {f : FuncId} {fn : Func} {c : Code} {args : Array Value} {w : World} {R : Value → World → Prop} (hf : P.funcs[f]? = some fn) (hb : fn.body = some c)
    (hn : Nat.ble args.toList.length fn.ntmps = true) (h : vr P true fn.ntmps c (bodyR P fn.results.toList R) [] (envFrom 0 args.toList) w) : Fn P f args w R := by
  have hn' : args.size ≤ fn.ntmps := by simpa using Nat.le_of_ble_eq_true hn
  refine callsIn_wd (ro := none) (n := 0) |>.1 (callsIn_of_wp_marks (F := wdF none) hf hb trivial (wpIn_mono (vr_sound (fun _ => rfl) c _ [] _ { tmps := args ++ Array.replicate (fn.ntmps - args.size) undef, defers := [] } w ⟨rfl, by simp; omega, ?_⟩ h) ?_))
  · intro t v hl
    obtain ⟨_, h2⟩ := look_envFrom _ _ _ _ hl
    have h3 : args[t]? = some v := by simpa using h2
    have hlt : t < args.size := by
      rcases Nat.lt_or_ge t args.size with h4 | h4
      · exact h4
      · rw [Array.getElem?_eq_none h4] at h3; cases h3
    show (args ++ Array.replicate (fn.ntmps - args.size) undef)[t]? = some v
    rw [Array.getElem?_append_left hlt]
    exact h3
  · rintro x a' w' ⟨D', e', hk', hq⟩
    cases x with
    | normal => exact retD_sound D' a' w' hk' hq
    | ret => exact retD_sound D' a' w' hk' hq
    | _ => exact hq.elim
/-! iterators -/
/-- a round, as the one who calls yield sees it -/
def YieldR (P : Program) (l : Nat) (va : Array Value) (w : World) (R : Bool → World → Prop) : Prop := ∀ m, YieldAt (wdF none) m P l va w fun e w' => ∃ b, e = .returned (.bool b) ∧ R b w'
theorem yl {P : Program} {l : Nat} {vs : List Value} {K : Value → World → Prop} {w : World} {R : Bool → World → Prop} (h : YieldR P l vs.toArray w R) (k : ∀ b w', R b w' → K (.bool b) w') : YieldP P l #[] #[] vs K w :=
  ⟨rfl, rfl, fun m => by
  obtain ⟨fn, tmps, assign, body, hy, hR⟩ := h m
  exact ⟨fn, tmps, assign, body, hy, hR.mono fun e w' ⟨b, he, hR⟩ => ⟨_, he, k b w' hR⟩⟩⟩
/-- what a function that is ranged over tells: xs, one by one, as long as it is asked to go on -/
def IterC (P : Program) (fv : Value) (xs : List (Array Value)) (A : Ob) : Prop :=
  ∃ g lb, fv = .func (.func g) #[] lb ∧ (∀ args w, (callFunc g args).run P w = .ok (.enter g args) w) ∧ ∀ (l : Nat) (G Gx : Nat → Ob → Prop) (o0 : Ob) (W : World), A.ok W → (∀ k ∈ A.foot, k ∉ o0.foot) → G 0 o0 → o0.ok W →
    (∀ i o W1 va, xs[i]? = some va → G i o → o.ok W1 → To W o0.foot W1 o.foot → YieldR P l va W1 fun b W' => ∃ o', o'.ok W' ∧ To W1 o.foot W' o'.foot ∧ ((b = true ∧ G (i + 1) o') ∨ (b = false ∧ Gx i o'))) →
    Fn P g (#[.func (.yield l) #[] #[]] ++ lb) W fun _ W' => ∃ o', o'.ok W' ∧ To W o0.foot W' o'.foot ∧ (G xs.length o' ∨ ∃ i, i < xs.length ∧ Gx i o')
end Go.Proofs.Ytklbeipdigancaa

/- The statement that ranges over a function. -/
namespace Go.Proofs.Ytklbeipdigancaa
open Go.RowKit
def obObj (l : Nat) (o : Obj) : Ob := ⟨[l], fun w => w.heap[l]? = some o, fun {S w w'} h hu hS => (hu.block l (Array.getElem?_eq_some_iff.1 h).1 (hS l (by simp))).trans h, fun h k hk => by
  rw [List.mem_singleton.1 hk]; exact (Array.getElem?_eq_some_iff.1 h).1⟩
def penv : List Nat → List Value → Env → Env
  | p :: ps, v :: vs, e => penv ps vs ((p, v) :: e)
  | _, _, e => e
theorem penv_knows {N : Nat} : ∀ (ps : List Nat) (vs : List Value) (e : Env) (tmps : Array Value), (∀ p ∈ ps, p < N) → tmps.size = N → (∀ t v, look e t = some v → tmps[t]? = some v) →
    ((ps.zip vs).foldl (fun t (x : Nat × Value) => t.setIfInBounds x.1 x.2) tmps).size = N ∧ ∀ t v, look (penv ps vs e) t = some v → ((ps.zip vs).foldl (fun t (x : Nat × Value) => t.setIfInBounds x.1 x.2) tmps)[t]? = some v
  | [], vs, e, tmps, _, hs, hl => ⟨by simpa using hs, by simpa [penv] using hl⟩
  | p :: ps, [], e, tmps, _, hs, hl => ⟨by simpa using hs, by simpa [penv] using hl⟩
  | p :: ps, v :: vs, e, tmps, hp, hs, hl => by
    have hpl := hp p (by simp)
    have := penv_knows ps vs ((p, v) :: e) (tmps.setIfInBounds p v) (fun q hq => hp q (by simp [hq])) (by simpa using hs) (fun t u hu => by
      by_cases h : p = t
      · subst h
        rw [look_cons_eq] at hu
        cases hu
        simp [hs, hpl]
      · rw [look_cons_ne h] at hu
        rw [Array.getElem?_setIfInBounds_ne h]
        exact hl t u hu)
    simpa [penv] using this
theorem penv_act {N : Nat} {D : List Nat} {ps : Array Nat} {va : Array Value} {e : Env} {a : Act} (hp : ∀ p ∈ ps.toList, p < N) (hk : KnowsD N D e a) :
    KnowsD N [] (penv ps.toList va.toList e) { tmps := (ps.zip va).foldl (fun t (p, v) => t.setIfInBounds p v) a.tmps, defers := [] } := by
  obtain ⟨h1, h2⟩ := penv_knows ps.toList va.toList e a.tmps hp hk.size hk.look
  have e1 : (ps.zip va).foldl (fun t (x : Nat × Value) => t.setIfInBounds x.1 x.2) a.tmps = (ps.toList.zip va.toList).foldl (fun t (x : Nat × Value) => t.setIfInBounds x.1 x.2) a.tmps := by
    rw [← Array.foldl_toList, Array.toList_zip]
  refine ⟨rfl, ?_, ?_⟩
  · show ((ps.zip va).foldl (fun t (x : Nat × Value) => t.setIfInBounds x.1 x.2) a.tmps).size = N
    rw [e1]; exact h1
  · show ∀ t v, _ → ((ps.zip va).foldl (fun t (x : Nat × Value) => t.setIfInBounds x.1 x.2) a.tmps)[t]? = some v
    rw [e1]; exact h2
theorem to_in {w W1 W : World} {l : Nat} {F F' : List Nat} (hu : Upd [] w W1) (hl : w.heap.size ≤ l) (ht : To W1 (l :: F) W (l :: F')) (hn : l ∉ F') : To w F W F' :=
  ⟨hu.mono (by simp) |>.step ht.up (fun x hx => by
    rcases List.mem_cons.1 hx with h | h
    · rw [h]; exact .inr hl
    · exact .inl h), fun k hk => by
    have := hu.size
    rcases ht.sub k (List.mem_cons_of_mem _ hk) with h | h
    · rcases List.mem_cons.1 h with h1 | h1
      · subst h1; exact absurd hk hn
      · exact .inl h1
    · right; omega⟩
def roundQ (G : Nat → Ob → Prop) (Gx : Code → Nat → Ob → Prop) (i : Nat) (W : World) (F : List Nat) (x : Exit) (_ : List Nat) (_ : Env) (W2 : World) : Prop :=
  match x with
  | .normal => ∃ o' : Ob, o'.ok W2 ∧ To W F W2 o'.foot ∧ G (i + 1) o'
  | .ret => ∃ o' : Ob, o'.ok W2 ∧ To W F W2 o'.foot ∧ Gx .ret i o'
  | .exit id => ∃ o' : Ob, o'.ok W2 ∧ To W F W2 o'.foot ∧ Gx (.exit id) i o'
  | _ => False
theorem pair_ok {l : Nat} {r : Obj} {o : Ob} {w : World} (h : (obAll [obObj l r, o]).ok w) : w.heap[l]? = some r ∧ o.ok w ∧ l ∉ o.foot := by
  have h : Sep w [obObj l r, o] := h
  refine ⟨h.ok (obObj l r) (by simp), h.ok o (by simp), fun hm => ?_⟩
  exact h.apart_ (i := 0) (j := 1) (x := obObj l r) (y := o) rfl rfl (by decide) l (by simp [obObj]) hm
theorem pair_mk {l : Nat} {r : Obj} {o : Ob} {w : World} (h1 : w.heap[l]? = some r) (h2 : o.ok w) (h3 : l ∉ o.foot) : (obAll [obObj l r, o]).ok w :=
  Sep.cons (Sep.cons (Sep.nil w) h2 (by simp [feet])) h1 (by simp [obObj, feet]; exact h3)
theorem pair_foot (l : Nat) (r : Obj) (o : Ob) : (obAll [obObj l r, o]).foot = l :: o.foot := by simp [obAll, feet, obObj]
theorem range_rule {P : Program} {N : Nat} {ps : Array Tmp} {asg body : Code} {Q : QR} {D : List Nat} {e : Env} {w : World} {fv : Value} {xs : List (Array Value)} {A : Ob} (it : IterC P fv xs A) (hA : A.ok w) (G : Nat → Ob → Prop) (Gx : Code → Nat → Ob → Prop) (o0 : Ob) (h0 : G 0 o0) (ho : o0.ok w) (hap : ∀ k ∈ A.foot, k ∉ o0.foot)
    (hps : ∀ va ∈ xs, va.size = ps.size) (hlt : ∀ p ∈ ps.toList, p < N)
    (round : ∀ i va o W W', xs[i]? = some va → G i o → To w o0.foot W o.foot → o.ok W → To w o0.foot W' o.foot → o.ok W' →
      vr P false N asg (fun x D1 e1 W1 => x = .normal ∧ D1 = [] ∧ W1 = W ∧ vr P false N body (roundQ G Gx i W' o.foot) [] e1 W') [] (penv ps.toList va.toList e) W)
    (done : ∀ r o W, G xs.length o → o.ok W → To w o0.foot W o.foot → Dfr W r → w.heap.size ≤ r → r ∉ o.foot → Q .normal (r :: D) e W)
    (stop : ∀ r c i o W, i < xs.length → Gx c i o → o.ok W → To w o0.foot W o.foot → Dfr W r → w.heap.size ≤ r → r ∉ o.foot → vr P true N c Q (r :: D) e W) : RangeR P N fv ps asg body Q D e w := by
  obtain ⟨gf, lb, rfl, eg, hit⟩ := it
  refine ⟨fun n g a hk hg => wpIn_rangeFunc fun fn _ => ?_⟩
  obtain ⟨rec, hrec⟩ : ∃ rec : LoopState → Option Code → Loop, rec = fun st pe => { state := st, pending := pe, fn, tmps := a.tmps, params := ps, assign := asg, body, defers := w.heap.size } := ⟨_, rfl⟩
  obtain ⟨W1, hW1⟩ : ∃ W1, (w.alloc (.deferred (some []))).alloc (.loop (rec .ready none)) = W1 := ⟨_, rfl⟩
  have hL1 : W1.heap[w.heap.size + 1]? = some (.loop (rec .ready none)) := by
    rw [← hW1]; have := World.alloc_heap_new (w.alloc (.deferred (some []))) (.loop (rec .ready none)); rwa [World.size_alloc] at this
  have hK1 : W1.heap[w.heap.size]? = some (.deferred (some [])) := by
    rw [← hW1]; exact (Below.heap_alloc _ _ _ (by simp)).trans (World.alloc_heap_new w _)
  have hu1 : Upd [] w W1 := by rw [← hW1]; exact ((Upd.refl [] w).alloc _).alloc _
  obtain ⟨l, hl⟩ : ∃ l, l = w.heap.size + 1 := ⟨_, rfl⟩
  rw [← hl] at hL1
  have ln0 : l ∉ o0.foot := fun hm => by have := o0.lt ho l hm; omega
  have lnA : l ∉ A.foot := fun hm => by have := A.lt hA l hm; omega
  refine ⟨l, [markD w.heap.size], W1, { target := .fn (.func gf) lb, args := #[.func (.yield l) #[] #[]] }, W1, gf,
    #[.func (.yield l) #[] #[]] ++ lb, W1, ?_, ?_, ?_, ?_, fun h => (by cases h), ?_⟩
  · rw [← hW1, hrec, hl]; exact run_enterLoop_outer _ _ _ _ _
  · simp only [resolve, hg]
    simp [go_sem]
  · intro f' hf'; exact trivial
  · simp [invoke, go_sem, eg]
  · have hrun := hit l (fun i o' => ∃ o, G i o ∧ o' = obAll [obObj l (.loop (rec .ready none)), o]) (fun i o' => ∃ o c, Gx c i o ∧ o' = obAll [obObj l (.loop (rec .done (some c))), o]) (obAll [obObj l (.loop (rec .ready none)), o0]) W1
      (A.keep hA hu1 (by simp)) (fun k hk => by rw [pair_foot]; intro hm; rcases List.mem_cons.1 hm with h | h; (subst h; exact lnA hk); exact hap k hk h) ⟨o0, h0, rfl⟩ (pair_mk hL1 (o0.keep ho hu1 (by simp)) ln0) ?_
    · refine callsIn_wd.2 (hrun.mono ?_)
      rintro ed W2 ⟨v, rfl, o', hok, hto, hor⟩
      have hD : ∀ {o : Ob} {r : Obj}, o' = obAll [obObj l r, o] → To w o0.foot W2 o.foot ∧ Dfr W2 w.heap.size ∧ w.heap.size ∉ o.foot ∧ W2.heap[l]? = some r ∧ o.ok W2 ∧ l ∉ o.foot := fun {o r} he => by
        subst he
        obtain ⟨h1, h2, h3⟩ := pair_ok hok
        rw [pair_foot, pair_foot] at hto
        have hw0 : w.heap.size ∉ l :: o0.foot := fun hm => by
          rcases List.mem_cons.1 hm with h | h
          · omega
          · have := o0.lt ho _ h; omega
        have hsz : W1.heap.size = w.heap.size + 2 := by rw [← hW1]; simp
        refine ⟨to_in hu1 (by omega) hto h3, (show Dfr W1 w.heap.size from hK1).upd hto.up hw0, fun hm => ?_, h1, h2, h3⟩
        rcases hto.sub _ (List.mem_cons_of_mem _ hm) with h | h
        · exact hw0 h
        · omega
      have fin : ∀ {r : Loop} {o : Ob}, r.state ≠ .busy → W2.heap[l]? = some (.loop r) → l ∉ o.foot → o.ok W2 → To w o0.foot W2 o.foot → Dfr W2 w.heap.size → ∃ W3, (Instr.endLoop l).run P W2 = .ok r.pending W3 ∧ o.ok W3 ∧ To w o0.foot W3 o.foot ∧ Dfr W3 w.heap.size := fun {r o} hs hr hn h2 h3 h4 => by
        refine ⟨_, run_endLoop hr hs, o.keep h2 (upd_putObj W2 l _) (by intro k hk hm; rw [List.mem_singleton.1 hm] at hk; exact hn hk), ⟨h3.up.step (upd_putObj W2 l _) (by simp; omega), h3.sub⟩, h4.upd (upd_putObj W2 l _) (by simp; omega)⟩
      rcases hor with ⟨o, hG, he⟩ | ⟨i, hi, o, c, hG, he⟩
      · obtain ⟨h1, h2, h3, h4, h5, h6⟩ := hD he
        obtain ⟨W3, hr3, ho3, ht3, hd3⟩ := fin (by rw [hrec]; simp) h4 h6 h5 h1 h2
        refine ⟨none, W3, by rw [hr3, hrec], ?_⟩
        exact ⟨w.heap.size :: D, e, ⟨by simp [hk.defers], hk.size, hk.look⟩, done _ o W3 hG ho3 ht3 hd3 (Nat.le_refl _) h3⟩
      · obtain ⟨h1, h2, h3, h4, h5, h6⟩ := hD he
        obtain ⟨W3, hr3, ho3, ht3, hd3⟩ := fin (by rw [hrec]; simp) h4 h6 h5 h1 h2
        refine ⟨some c, W3, by rw [hr3, hrec], ?_⟩
        exact vr_sound (fun _ => rfl) c Q (w.heap.size :: D) e _ W3 ⟨by simp [hk.defers], hk.size, hk.look⟩ (stop _ c i o W3 hi hG ho3 ht3 hd3 (Nat.le_refl _) h3)
    · -- one round
      rintro i o' W va hva ⟨o, hG, rfl⟩ hok hto m
      obtain ⟨hlW, hoW, hnl⟩ := pair_ok hok
      rw [pair_foot, pair_foot] at hto
      have htw := to_in hu1 (by omega) hto hnl
      have hsz := hps va (List.mem_of_getElem? hva)
      have hy := run_yield (P := P) (args := va) hlW (by rw [hrec]; exact hsz)
      rw [hrec] at hy
      refine ⟨fn, _, asg, body, hy, roundIn_of_wpIn (F := wdF none) trivial ?_⟩
      obtain ⟨Wb, hWb⟩ : ∃ Wb, Wb = W.putObj l (.loop { rec .ready none with state := .busy }) := ⟨_, rfl⟩
      have hub : Upd [l] W Wb := by rw [hWb]; exact upd_putObj W l _
      have hlb : Wb.heap[l]? = some (.loop { rec .ready none with state := .busy }) := by rw [hWb]; exact World.putObj_heap_same (Array.getElem?_eq_some_iff.1 hlW).1
      have hob : o.ok Wb := o.keep hoW hub (by intro k hk hm; rw [List.mem_singleton.1 hm] at hk; exact hnl hk)
      have htb : To w o0.foot Wb o.foot := ⟨htw.up.step hub (by simp; omega), htw.sub⟩
      refine wpIn_mono (vr_sound (ro := some l) (top := false) (n := m) (fun h => by cases h) asg _ [] _ _ W (penv_act hlt hk) (round i va o W Wb hva hG htw hoW htb hob)) ?_
      rintro x a1 Wx ⟨D1, e1, hk1, rfl, rfl, hWx, hbody⟩
      replace hWx := hWx.symm
      subst hWx
      refine ⟨Wb, ?_, ?_⟩
      · have := run_beginRound (P := P) hlW (by rw [hrec])
        rw [hWb]; exact this
      refine wpIn_mono (vr_sound (ro := some l) (top := false) (n := m) (fun h => by cases h) body _ [] _ a1 Wb hk1 hbody) ?_
      have fin : ∀ {o' : Ob} {W2 : World} (jump : Option Code), o'.ok W2 → To Wb o.foot W2 o'.foot → (Instr.endRound l jump).run P W2 = .ok (.bool jump.isNone) (W2.putObj l (.loop (rec (if jump.isNone then .ready else .done) jump))) ∧
          (obAll [obObj l (.loop (rec (if jump.isNone then .ready else .done) jump)), o']).ok (W2.putObj l (.loop (rec (if jump.isNone then .ready else .done) jump))) ∧ To W (obAll [obObj l (.loop (rec .ready none)), o]).foot (W2.putObj l (.loop (rec (if jump.isNone then .ready else .done) jump))) (obAll [obObj l (.loop (rec (if jump.isNone then .ready else .done) jump)), o']).foot := fun {o' W2} jump h2 h3 => by
        have hlb2 : l < Wb.heap.size := (Array.getElem?_eq_some_iff.1 hlb).1
        have hl2 : W2.heap[l]? = some (.loop { rec .ready none with state := .busy }) := (h3.up.block l hlb2 hnl).trans hlb
        have hn2 : l ∉ o'.foot := fun hm => by
          rcases h3.sub l hm with h | h
          · exact hnl h
          · omega
        have hu2 := upd_putObj W2 l (.loop (rec (if jump.isNone then .ready else .done) jump))
        refine ⟨by have := run_endRound (P := P) jump hl2; rw [hrec] at this ⊢; exact this, pair_mk (World.putObj_heap_same (Array.getElem?_eq_some_iff.1 hl2).1) (o'.keep h2 hu2 (by intro k hk hm; rw [List.mem_singleton.1 hm] at hk; exact hn2 hk)) hn2, ?_⟩
        rw [pair_foot, pair_foot]
        have hzb := hub.size
        refine ⟨((hub.mono (by simp)).step h3.up (fun x hx => .inl (List.mem_cons_of_mem _ hx))).step hu2 (by simp), fun k hk => ?_⟩
        rcases List.mem_cons.1 hk with h | h
        · exact .inl (by rw [h]; simp)
        · rcases h3.sub k h with h1 | h1
          · exact .inl (List.mem_cons_of_mem _ h1)
          · right; omega
      rintro x a2 W2 ⟨D2, e2, hk2, hq⟩
      cases x with
      | normal =>
        obtain ⟨o', h1, h2, h3⟩ := hq
        obtain ⟨r1, r2, r3⟩ := fin none h1 h2
        exact ⟨_, _, r1, true, rfl, _, r2, r3, .inl ⟨rfl, o', h3, rfl⟩⟩
      | ret =>
        obtain ⟨o', h1, h2, h3⟩ := hq
        obtain ⟨r1, r2, r3⟩ := fin (some .ret) h1 h2
        exact ⟨_, _, r1, false, rfl, _, r2, r3, .inr ⟨rfl, o', _, h3, rfl⟩⟩
      | exit id =>
        obtain ⟨o', h1, h2, h3⟩ := hq
        obtain ⟨r1, r2, r3⟩ := fin (some (.exit id)) h1 h2
        exact ⟨_, _, r1, false, rfl, _, r2, r3, .inr ⟨rfl, o', _, h3, rfl⟩⟩
      | _ => exact hq.elim
end Go.Proofs.Ytklbeipdigancaa

/- Contracts: lists that are told, those of them that are kept (seqs.Of, seqs.Only, Pile.Keep, of whole numbers). -/
namespace Go.Proofs.Ytklbeipdigancaa
open Go.RowKit
attribute [local irreducible] Instr.loadAt Instr.storeAt Instr.fieldAt Instr.indexAt Instr.sliceAt Instr.buildSlice Instr.box Instr.alloc Builtin.append_ Builtin.len_ Builtin.min_ Builtin.max_ Calls Instr.build Instr.makeSlice binSem convert Instr.index Instr.range Instr.next
abbrev TIs : Nat := 24
abbrev TSq : Nat := 101
abbrev TKp : Nat := 112
instance : FnT Try.prog TSq := ⟨⟨_, _, _, Try.underlying101⟩⟩
instance : FnT Try.prog TKp := ⟨⟨_, _, _, Try.underlying112⟩⟩
/-- things in memory, of which all are so (they may lie in one another) -/
def obEv (l : List Ob) : Ob := ⟨feet l, fun w => ∀ x ∈ l, x.ok w, fun h hu hS x hx => x.keep (h x hx) hu (fun k hk => hS k (mem_feet.2 ⟨x, hx, hk⟩)), fun h k hk => by
  obtain ⟨x, hx, hk⟩ := mem_feet.1 hk
  exact x.lt (h x hx) k hk⟩
abbrev obIn (v : Value) (l : List Int) : Ob := obSl 3 1 v l.length (l.map (.int .i64))
def one1 (x : Int) : Array Value := #[.int .i64 x]
theorem of_c (v : Value) (w : World) : Fn Try.prog 74 #[v] w fun r w' => r = .func (.func 85) #[] #[.pointer (some ⟨w.heap.size, 0, none⟩)] ∧ (∀ a n c, v = .slice a n c → Blk w' w.heap.size TIs #[v]) ∧ Upd [] w w' := by
  refine fn_enter Try.func74 rfl rfl ?_
  refine bx fun w1 hb1 hu1 hs1 => ?_
  exact ⟨rfl, fun a n c h => by subst h; exact hb1, hu1⟩
theorem of_iter {b : Nat} {v : Value} {l : List Int} (hl : l.length ≤ 4294967296) : IterC Try.prog (.func (.func 85) #[] #[.pointer (some ⟨b, 0, none⟩)]) (l.map one1) (obEv [obBlk b TIs #[v], obIn v l]) := by
  refine ⟨_, _, rfl, HasBody.h, fun lp G Gx o0 W hA hap h0 ho hy => ?_⟩
  have hAk : ∀ {o : Ob} {w' : World}, To W o0.foot w' o.foot → Blk w' b TIs #[v] ∧ Sl w' 3 1 v l.length (l.map (.int .i64)) := fun {o w'} ht => by
    have h2 : (obEv [obBlk b TIs #[v], obIn v l]).ok w' := (obEv [obBlk b TIs #[v], obIn v l]).keep hA ht.up hap
    exact ⟨h2 (obBlk b TIs #[v]) (by simp), h2 (obIn v l) (by simp)⟩
  obtain ⟨hb0, hs0⟩ := hAk (To.refl W o0.foot)
  obtain ⟨va, vc, rfl, -⟩ := hs0.form
  refine fnr_enter Try.func85 rfl rfl ?_
  refine ldb hb0 rfl ?_
  refine len_sl ?_
  refine loop_ruleR [0, 5, 6] [7] (fun vs w' m => ∃ (i : Nat) (o : Ob), vs = [.int .i64 (i : Int)] ∧ i ≤ l.length ∧ m = l.length - i ∧ G i o ∧ o.ok w' ∧ To W o0.foot w' o.foot) rfl [.int .i64 0] l.length rfl ⟨0, o0, rfl, by omega, rfl, h0, ho, To.refl _ _⟩ ?_
  rintro _ w2 m ⟨i, o, rfl, hi, rfl, hG, hok, hto⟩
  refine cd (fun hlt => ?_) (fun hlt => ?_)
  · have hlt : i < l.length := by omega
    obtain ⟨hb2, hs2⟩ := hAk hto
    obtain ⟨vb, vo, vc', he, -⟩ := hs2.some_ (by omega)
    cases he
    refine ix i rfl hlt ?_
    refine ld (v := .int .i64 (l.getD i 0)) (hs2.getD_ rfl i hlt) ?_
    have hx : (l.map one1)[i]? = some (one1 (l.getD i 0)) := by rw [List.getElem?_map, List.getElem?_eq_getElem hlt]; simp [List.getD, hlt]
    refine yl (hy i o w2 (one1 (l.getD i 0)) hx hG hok hto) ?_
    rintro bb w3 ⟨o', hok', hto', ⟨rfl, hG'⟩ | ⟨rfl, hGx⟩⟩
    · refine ar64 (by omega) ?_
      exact round_mkR [.int .i64 ((i + 1 : Nat) : Int)] (l.length - (i + 1)) rfl rfl ⟨i + 1, o', rfl, by omega, rfl, hG', hok', hto.trans hto'⟩ (by omega)
    · exact ⟨o', hok', hto.trans hto', .inr ⟨i, by rw [List.length_map]; exact hlt, hGx⟩⟩
  · have hi : i = l.length := by omega
    subst hi
    exact ⟨o, hok, hto, .inl (by rw [List.length_map]; exact hG)⟩
/-- a function that tells what is kept -/
def KeepV (P : Program) (kv : Value) (l : List Int) (p : Int → Bool) (B : Ob) : Prop :=
  ∃ g lb, kv = .func (.func g) #[] lb ∧ (∀ args w, (callFunc g args).run P w = .ok (.enter g args) w) ∧ ∀ x ∈ l, ∀ w, B.ok w → Fn P g (#[] ++ [Value.int .i64 x].toArray ++ lb) w fun r w' => r = .bool (p x) ∧ Upd [] w w'
theorem cl' {P : Program} {K : Value → World → Prop} {w : World} {f : Nat} {args : Array Value} {R : Value → World → Prop} (hb : ∀ args w, (callFunc f args).run P w = .ok (.enter f args) w) (h : Fn P f args w R) (k : ∀ v w', R v w' → K v w') : CallP P f args K w :=
  have : HasBody P f := ⟨hb⟩
  cl h k
theorem only_c {g1 g2 : Nat} {x1 y1 x2 y2 : Array Value} (w : World) : Fn Try.prog 73 #[.func (.func g1) x1 y1, .func (.func g2) x2 y2] w fun r w' =>
    ∃ b1 b2, r = .func (.func 84) #[] #[.pointer (some ⟨b1, 0, none⟩), .pointer (some ⟨b2, 0, none⟩)] ∧ Blk w' b1 TSq #[.func (.func g1) x1 y1] ∧ Blk w' b2 TKp #[.func (.func g2) x2 y2] ∧ Upd [] w w' ∧ w.heap.size ≤ b1 ∧ b1 < b2 := by
  refine fn_enter Try.func73 rfl rfl ?_
  refine bx fun w1 hb1 hu1 hs1 => ?_
  refine bx fun w2 hb2 hu2 hs2 => ?_
  have hb12 := hb1.upd hu2 (by simp)
  refine ldb hb12 rfl ?_
  refine fn_eq ?_
  refine ldb hb2 rfl ?_
  refine fn_eq ?_
  exact ⟨_, _, rfl, hb12, hb2, hu1.trans hu2, Nat.le_refl _, by omega⟩
def cntK (p : Int → Bool) (l : List Int) (i : Nat) : Nat := ((l.take i).filter p).length
theorem cntK_s (p : Int → Bool) (l : List Int) (i : Nat) (h : i < l.length) : cntK p l (i + 1) = cntK p l i + (if p (l.getD i 0) then 1 else 0) := by
  unfold cntK
  rw [getD_take l i h, List.filter_append, List.length_append]
  generalize l.getD i 0 = x
  cases hp : p x <;> simp [hp]
theorem cntK_at (p : Int → Bool) (l : List Int) (i : Nat) (h : i < l.length) (hp : p (l.getD i 0) = true) : (l.filter p)[cntK p l i]? = some (l.getD i 0) := by
  have e : l.filter p = (l.take i).filter p ++ (l.getD i 0 :: (l.drop (i + 1)).filter p) := by
    rw [← List.filter_cons_of_pos (p := p) hp, ← getD_drop l i h, ← List.filter_append, List.take_append_drop]
  rw [e]
  unfold cntK
  rw [List.getElem?_append_right (Nat.le_refl _), Nat.sub_self]
  rfl
set_option maxRecDepth 10000 in
theorem only_iter {b1 b2 : Nat} {fv kv : Value} {l : List Int} {A B : Ob} {p : Int → Bool} (it : IterC Try.prog fv (l.map one1) A) (hk : KeepV Try.prog kv l p B) (hfv : ∃ g x y, fv = .func (.func g) x y) :
    IterC Try.prog (.func (.func 84) #[] #[.pointer (some ⟨b1, 0, none⟩), .pointer (some ⟨b2, 0, none⟩)]) ((l.filter p).map one1) (obEv [A, B, obBlk b1 TSq #[fv], obBlk b2 TKp #[kv]]) := by
  obtain ⟨gk, lk, rfl, hbk, hk⟩ := hk
  refine ⟨_, _, rfl, HasBody.h, fun lp G Gx o0 W hA hap h0 ho hy => ?_⟩
  have hapl : ∀ k ∈ feet [A, B, obBlk b1 TSq #[fv], obBlk b2 TKp #[.func (.func gk) #[] lk]], k ∉ o0.foot := hap
  have hB1 : Blk W b1 TSq #[fv] := hA (obBlk b1 TSq #[fv]) (by simp)
  obtain ⟨g1, x1, y1, rfl⟩ := hfv
  refine fnr_enter Try.func84 rfl rfl ?_
  refine bx fun w1 hb1 hu1 hs1 => ?_
  have hb1 : Blk w1 W.heap.size TKp #[.func (.yield lp) #[] #[]] := hb1
  refine ldb (hB1.upd hu1 (by simp)) rfl ?_
  have hy0 : W.heap.size ∉ o0.foot := fun hm => by have := o0.lt ho _ hm; omega
  refine ⟨rfl, range_rule it (A.keep (hA A (by simp)) hu1 (by simp)) (fun i o => G (cntK p l i) o) (fun c i o => c = .ret ∧ ∃ j, j < (l.filter p).length ∧ Gx j o) o0 (by simpa [cntK] using h0) (o0.keep ho hu1 (by simp)) (fun k hk => hapl k (mem_feet.2 ⟨A, by simp, hk⟩)) (fun va hva => by
      obtain ⟨x, -, rfl⟩ := List.mem_map.1 hva; rfl) (by decide) (fun i va o w2 w3 hva hG ht2 ho2 ht3 ho3 => ?_) (fun r o w2 hG ho2 ht2 hd hr hro => ?_) (fun r c i o w2 hi hGx ho2 ht2 hd hr hro => ?_)⟩
  · have hil : i < l.length := by
      rcases Nat.lt_or_ge i l.length with h | h
      · exact h
      · rw [List.getElem?_eq_none (by simpa using h)] at hva; cases hva
    have hx : va = one1 (l.getD i 0) := by
      rw [List.getElem?_map, List.getElem?_eq_getElem hil] at hva
      have := Option.some.inj hva
      rw [← this]; simp [List.getD, hil]
    subst hx
    have hcs := cntK_s p l i hil
    have hmem : l.getD i 0 ∈ l := by simp [List.getD, hil]
    have hat := cntK_at p l i hil
    generalize l.getD i 0 = x at *
    have hup : Upd o0.foot W w3 := (hu1.mono (by simp)).trans ht3.up
    have hA3 : (obEv [A, B, obBlk b1 TSq #[.func (.func g1) x1 y1], obBlk b2 TKp #[.func (.func gk) #[] lk]]).ok w3 := (obEv [A, B, obBlk b1 TSq #[.func (.func g1) x1 y1], obBlk b2 TKp #[.func (.func gk) #[] lk]]).keep hA hup hapl
    have hy3 := hb1.upd ht3.up hy0
    refine ⟨rfl, rfl, rfl, ?_⟩
    refine ldb (hA3 (obBlk b2 TKp #[.func (.func gk) #[] lk]) (by simp)) rfl ?_
    refine cl' hbk (hk x hmem w3 (hA3 B (by simp))) ?_
    rintro _ w4 ⟨rfl, hu4⟩
    have ho4 := o.keep ho3 hu4 (by simp)
    have htr : To W o0.foot w4 o.foot := ⟨hup.trans (hu4.mono (by simp)), fun k hk => by
      rcases ht3.sub k hk with h | h
      · exact .inl h
      · have := hu1.size; right; omega⟩
    cases hp : p x with
    | true =>
      rw [hp] at hcs
      refine ldb (hy3.upd hu4 (by simp)) rfl ?_
      refine yl (hy (cntK p l i) o w4 (one1 x) (by rw [List.getElem?_map, hat hp]; rfl) hG ho4 htr) ?_
      rintro bb w5 ⟨o', hok', hto', ⟨rfl, hG'⟩ | ⟨rfl, hGx⟩⟩
      · exact ⟨o', hok', (To.of0 _ hu4).trans hto', (show G (cntK p l (i + 1)) o' by rw [hcs]; exact hG')⟩
      · refine ⟨o', hok', (To.of0 _ hu4).trans hto', rfl, cntK p l i, ?_, hGx⟩
        have := hat hp
        rcases Nat.lt_or_ge (cntK p l i) (l.filter p).length with h | h
        · exact h
        · rw [List.getElem?_eq_none h] at this; cases this
    | false =>
      rw [hp] at hcs
      exact ⟨o, ho4, To.of0 _ hu4, (show G (cntK p l (i + 1)) o by rw [hcs]; exact hG)⟩
  · have e : cntK p l (l.map one1).length = ((l.filter p).map one1).length := by simp [cntK]
    replace hG : G (cntK p l (l.map one1).length) o := hG
    rw [e] at hG
    refine ⟨hd, fun w' hu hz => ⟨o, o.keep ho2 hu (by intro k hk hm; rw [List.mem_singleton.1 hm] at hk; exact hro hk), ⟨((hu1.mono (by simp)).trans ht2.up).step hu (by have := hu1.size; simp; omega), fun k hk => ?_⟩, .inl hG⟩⟩
    rcases ht2.sub k hk with h | h
    · exact .inl h
    · have := hu1.size; right; omega
  · obtain ⟨rfl, j, hj, hGx⟩ := hGx
    refine ⟨hd, fun w' hu hz => ⟨o, o.keep ho2 hu (by intro k hk hm; rw [List.mem_singleton.1 hm] at hk; exact hro hk), ⟨((hu1.mono (by simp)).trans ht2.up).step hu (by have := hu1.size; simp; omega), fun k hk => ?_⟩, .inr ⟨j, by rw [List.length_map]; exact hj, hGx⟩⟩⟩
    rcases ht2.sub k hk with h | h
    · exact .inl h
    · have := hu1.size; right; omega
/-- a list that grows, in its box -/
structure BoxL (bl : Nat) (l : List Int) (i : Nat) (o : Ob) : Prop where
  h : ∃ v, o = obAll [obBlk bl TIs #[v], obIn v (l.take i)]
theorem Upd.own {w w' : World} {v v' : Value} (h : Grow w w' v v') : To w v.ownBlock.toList w' v'.ownBlock.toList := ⟨h.up, fun k hk => by
  rcases h.own k (by simpa using hk) with h1 | h1
  · exact .inl (by simpa using h1)
  · exact .inr h1⟩
theorem BoxL.add {w w1 w2 w3 : World} {bl i : Nat} {l : List Int} {v v' : Value} (hok : (obAll [obBlk bl TIs #[v], obIn v (l.take i)]).ok w) (hi : i < l.length) (hu1 : Upd [] w w1) (hG : Grow w1 w2 v v') (hs : Sl w2 3 1 v' ((l.take i).length + 1) ((l.take i).map (.int .i64) ++ [.int .i64 (l.getD i 0)]))
    (hb : Blk w3 bl TIs #[v']) (hu3 : Upd [bl] w2 w3) : (obAll [obBlk bl TIs #[v'], obIn v' (l.take (i + 1))]).ok w3 ∧ To w (obAll [obBlk bl TIs #[v], obIn v (l.take i)]).foot w3 (obAll [obBlk bl TIs #[v'], obIn v' (l.take (i + 1))]).foot := by
  have hok : Sep w [obBlk bl TIs #[v], obIn v (l.take i)] := hok
  have S1 := hok.upd0 hu1
  have hs' : (obIn v' (l.take (i + 1))).ok w2 := by
    show Sl w2 _ 1 v' (l.take (i + 1)).length _
    rw [getD_take l i hi, List.length_append, List.map_append]
    exact hs
  have t2 : To w1 (obIn v (l.take i)).foot w2 (obIn v' (l.take (i + 1))).foot := Upd.own hG
  have S2 := Sep.set (i := 1) (x := obIn v (l.take i)) (y := obIn v' (l.take (i + 1))) S1 rfl hs' t2
  have t3 : To w2 (obBlk bl TIs #[v]).foot w3 (obBlk bl TIs #[v']).foot := ⟨hu3, fun _ h => .inl h⟩
  have S3 := Sep.set (i := 0) (x := obBlk bl TIs #[v]) (y := obBlk bl TIs #[v']) S2 rfl hb t3
  exact ⟨S3, ((To.of0 _ hu1).trans (To.set (l := [obBlk bl TIs #[v], obIn v (l.take i)]) (i := 1) (x := obIn v (l.take i)) rfl t2)).trans (To.set (i := 0) (x := obBlk bl TIs #[v]) (y := obBlk bl TIs #[v']) rfl t3)⟩
set_option maxRecDepth 10000 in
theorem keep_c {w : World} {pg pi T : Nat} {cs : Array Value} {v : Value} {l : List Int} {kv : Value} {p : Int → Bool} {B : Ob} (hb : Blk w pg T cs) (hcs : cs[pi]? = some v) (hs : Sl w 3 1 v l.length (l.map (.int .i64))) (hl : l.length ≤ 100000) (hT : T ≠ TIs ∧ 3 ≠ T) (hk : KeepV Try.prog kv l p B) (hB : B.ok w) :
    Fn Try.prog 61 #[.pointer (some ⟨pg, pi, none⟩), kv] w fun r w' => ∃ v', r = .int .i64 ((l.length : Int) - (l.filter p).length) ∧ Blk w' pg T (cs.setIfInBounds pi v') ∧ Sl w' 3 1 v' (l.filter p).length ((l.filter p).map (.int .i64)) ∧ Upd [pg] w w' ∧ ∀ g, v'.ownBlock = some g → w.heap.size ≤ g := by
  obtain ⟨va, vc, rfl, -⟩ := hs.form
  have hk' := hk
  obtain ⟨gk, lk, rfl, -, -⟩ := hk'
  have hlf : (l.filter p).length ≤ l.length := List.length_filter_le _ _
  have hpi : pi < cs.size := by
    rcases Nat.lt_or_ge pi cs.size with h | h
    · exact h
    · rw [Array.getElem?_eq_none h] at hcs; cases hcs
  refine fnr_enter Try.func61 rfl rfl ?_
  refine ptr_eq ?_
  refine fn_eq ?_
  refine al #[.slice none 0 0] (fun _ => by kernel_rfl) fun w1 hb1 hu1 hs1 => ?_
  have hb1 : Blk w1 w.heap.size TIs #[.slice none 0 0] := hb1
  refine fa ?_
  refine ld (v := .slice va l.length vc) (by rw [(hb.upd hu1 (by simp)).cell]; exact hcs) ?_
  refine cl (of_c (.slice va l.length vc) w1) ?_
  rintro _ w2 ⟨rfl, hv2, hu2⟩
  have hb2 := hv2 va l.length vc rfl
  refine cl (only_c w2) ?_
  rintro _ w3 ⟨b1, b2, rfl, hq1, hq2, hu3, hz1, hz2⟩
  have hz12 : w1.heap.size ≤ w2.heap.size := hu2.size
  have hU3 : Upd [] w w3 := (hu1.trans hu2).trans hu3
  have hbl3 := (hb1.upd hu2 (by simp)).upd hu3 (by simp)
  have hof := of_iter (b := w1.heap.size) (v := .slice va l.length vc) (l := l) (by omega)
  have hon := only_iter (b1 := b1) (b2 := b2) hof hk ⟨_, _, _, rfl⟩
  have hb23 := hb2.upd hu3 (by simp)
  have hs3 := hs.upd hU3 (by simp)
  have hd2 : w1.heap.size = w.heap.size + 1 := hs1
  refine ⟨rfl, range_rule hon (w := w3) ?_ (fun i o => ∃ v', o = obAll [obBlk w.heap.size TIs #[v'], obIn v' ((l.filter p).take i)]) (fun _ _ _ => False) (obAll [obBlk w.heap.size TIs #[.slice none 0 0], obIn (.slice none 0 0) []]) ⟨.slice none 0 0, rfl⟩ ?_ ?_ (fun va hva => by
      obtain ⟨x, -, rfl⟩ := List.mem_map.1 hva; rfl) (by decide) (fun i va o w4 w5 hva hG ht4 ho4 ht5 ho5 => ?_) (fun r o w4 hG ho4 ht4 hd hr hro => ?_) (fun r c i o w4 hi hGx _ _ _ _ _ => hGx.elim)⟩
  · intro x hx
    simp only [List.mem_cons, List.not_mem_nil, or_false] at hx
    rcases hx with rfl | rfl | rfl | rfl
    · intro y hy
      simp only [List.mem_cons, List.not_mem_nil, or_false] at hy
      rcases hy with rfl | rfl
      · exact hb23
      · exact hs3
    · exact x.keep hB hU3 (by simp)
    · exact hq1
    · exact hq2
  · exact Sep.cons (Sep.cons (Sep.nil w3) (Sl.nil_ _ _ _) (by simp [feet])) hbl3 (by simp [feet, obSl, Value.ownBlock])
  · intro k hk hm
    have e : k = w.heap.size := by simpa [obAll, feet, obBlk, obSl, Value.ownBlock] using hm
    subst e
    simp only [obEv, feet, obBlk, obSl, List.flatMap_cons, List.flatMap_nil, List.append_nil, List.mem_append, List.mem_singleton] at hk
    rcases hk with (h | h) | h | h | h
    · omega
    · have := hs.lt _ (by simpa using h); omega
    · have := B.lt hB _ h; omega
    · omega
    · omega
  · obtain ⟨v', rfl⟩ := hG
    have hil : i < (l.filter p).length := by
      rcases Nat.lt_or_ge i (l.filter p).length with h | h
      · exact h
      · rw [List.getElem?_eq_none (by simpa using h)] at hva; cases hva
    have hx : va = one1 ((l.filter p).getD i 0) := by
      rw [List.getElem?_map, List.getElem?_eq_getElem hil] at hva
      have := Option.some.inj hva
      rw [← this]; simp [List.getD, hil]
    subst hx
    have ho5' : Sep w5 [obBlk w.heap.size TIs #[v'], obIn v' ((l.filter p).take i)] := ho5
    have hblk : Blk w5 w.heap.size TIs #[v'] := ho5'.ok (obBlk w.heap.size TIs #[v']) (by simp)
    have hsl : Sl w5 3 1 v' ((l.filter p).take i).length (((l.filter p).take i).map (.int .i64)) := ho5'.ok (obIn v' ((l.filter p).take i)) (by simp)
    have hln : ((l.filter p).take i).length = i := by rw [List.length_take]; omega
    refine ⟨rfl, rfl, rfl, ?_⟩
    refine ldb hblk rfl ?_
    refine bs (one1 ((l.filter p).getD i 0)) (fun _ => by kernel_rfl) fun w6 hb6 hu6 hs6 => ?_
    refine apg (hsl.upd hu6 (by simp)) hb6 rfl rfl (by decide) (by simp only [maxLen]; omega) (by omega) fun v2 w7 hs7 hG7 => ?_
    have hnb := hsl.blk_ne hblk (by decide)
    have hb7 := (hblk.upd hu6 (by simp)).upd hG7.up (by simpa using hnb)
    obtain ⟨v2a, v2c, rfl, -⟩ := hs7.form
    refine st hb7 (by show 0 < 1; omega) rfl fun w8 hb8 hu8 hs8 => ?_
    obtain ⟨r1, r2⟩ := BoxL.add ho5 hil hu6 hG7 hs7 hb8 hu8
    exact ⟨_, r1, r2, _, rfl⟩
  · obtain ⟨v', rfl⟩ := hG
    have hfull : (l.filter p).take ((l.filter p).map one1).length = l.filter p := by rw [List.length_map, List.take_length]
    rw [hfull] at ho4 hro ht4
    have ho4' : Sep w4 [obBlk w.heap.size TIs #[v'], obIn v' (l.filter p)] := ho4
    have hblk : Blk w4 w.heap.size TIs #[v'] := ho4'.ok (obBlk w.heap.size TIs #[v']) (by simp)
    have hsl : Sl w4 3 1 v' (l.filter p).length ((l.filter p).map (.int .i64)) := ho4'.ok (obIn v' (l.filter p)) (by simp)
    have hfoot0 : (obAll [obBlk w.heap.size TIs #[.slice none 0 0], obIn (.slice none 0 0) []]).foot = [w.heap.size] := by simp [obAll, feet, obBlk, obSl, Value.ownBlock]
    rw [hfoot0] at ht4
    have hpg := hb.lt
    have hb4 := ((hb.upd hU3 (by simp)).upd ht4.up (by simp; omega))
    have hU4 : Upd [] w w4 := hU3.step ht4.up (by simp)
    obtain ⟨va', vc', rfl, -⟩ := hsl.form
    have hown : ∀ g, (Value.slice va' (l.filter p).length vc').ownBlock = some g → w.heap.size ≤ g := fun g hg => by
      rcases ht4.sub g (mem_feet.2 ⟨obIn (.slice va' (l.filter p).length vc') (l.filter p), by simp, by simp [obSl, hg]⟩) with h | h
      · simp at h; omega
      · have := hU3.size; omega
    refine draw_allR (fun w' => w' = w4.drew) (by decide +kernel) rfl ?_
    refine q_fa ?_
    refine q_ld (v := .slice va l.length vc) (by rintro _ rfl; rw [hb4.drew.cell]; exact hcs) ?_
    refine q_len ?_
    refine q_ld (v := .slice va' (l.filter p).length vc') (by rintro _ rfl; exact hblk.drew.cell 0) ?_
    refine q_len ?_
    refine q_ar64 (by omega) ?_
    rintro _ rfl
    refine ldb hblk.drew rfl ?_
    refine fa ?_
    refine st hb4.drew hpi rfl fun w6 hb6 hu6 hs6 => ?_
    refine ⟨(hd.upd (Upd.refl [] w4).drew (by simp)).upd hu6 (by have := hU3.size; simp; omega), fun w7 hu7 hz7 => ?_⟩
    have hrn : r ∉ ([pg] : List Nat) := by have := hU3.size; simp; omega
    refine ⟨_, rfl, hb6.upd hu7 (by have := hU3.size; simp; omega), ?_, ((hU4.drew.mono (by simp)).step hu6 (by simp)).step hu7 (by have := hU3.size; simp; omega), hown⟩
    have hs6 := hsl.drew.upd hu6 (by intro g hg; have := hown g hg; simp; omega)
    refine hs6.upd hu7 (fun g hg hm => ?_)
    have e : g = r := List.mem_singleton.1 hm
    subst e
    exact hro (mem_feet.2 ⟨obIn (.slice va' (l.filter p).length vc') (l.filter p), by simp, by simp [obSl, hg]⟩)
end Go.Proofs.Ytklbeipdigancaa

/- A machine, as what it holds: its steps as functions on that. -/
namespace Go.Proofs.Ytklbeipdigancaa
open Go.RowKit
attribute [local irreducible] Instr.loadAt Instr.storeAt Instr.fieldAt Instr.indexAt Instr.sliceAt Instr.buildSlice Instr.box Instr.alloc Builtin.append_ Builtin.len_ Builtin.min_ Builtin.max_ Calls Instr.build Instr.makeSlice binSem convert Instr.index Instr.range Instr.next
structure PT where
  fs : List Fr
  r : Int × Int × Int
  (P S W R O : List Int)
structure PS where
  c : Cf
  W : List Int
  k : Int
  gh : Option (List Int × Int × Int)
  (acted bad : Bool)
  ths : List PT
def absT (t : Th) : PT := ⟨t.fs, t.r, t.P, t.S, t.W, t.R, t.O⟩
def absG (g : Gs) : List Int × Int × Int := (g.tags, g.k, g.n)
def Mc.abs (X : Mc) : PS := ⟨X.c, X.s.W, X.s.k, X.gs.map absG, X.acted, X.bad, X.ths.map absT⟩
/-- what a step leaves as it was -/
structure Kin (X X' : Mc) : Prop where
  m : X'.m = X.m
  mp : X'.mp = X.mp
  gp : X'.gs.map (·.p) = X.gs.map (·.p)
  ptr : X'.ths.map (·.g) = X.ths.map (·.g)
  calm : X.s.on = false ∧ X.s.L = [] → X'.s.on = false ∧ X'.s.L = []
theorem Kin.refl (X : Mc) : Kin X X := ⟨rfl, rfl, rfl, rfl, id⟩
theorem Kin.trans {X Y Z : Mc} (h : Kin X Y) (k : Kin Y Z) : Kin X Z := ⟨k.m.trans h.m, k.mp.trans h.mp, k.gp.trans h.gp, k.ptr.trans h.ptr, fun hc => k.calm (h.calm hc)⟩
theorem Kin.len {X Y : Mc} (h : Kin X Y) : Y.ths.length = X.ths.length := by
  have := congrArg List.length h.ptr
  simpa using this
theorem Kin.g {X Y : Mc} (h : Kin X Y) {i : Nat} {t : Th} (hi : X.ths[i]? = some t) : ∃ t', Y.ths[i]? = some t' ∧ t'.g = t.g := by
  have hl := h.len
  have hlt := (List.getElem?_eq_some_iff.1 hi).1
  have hY : Y.ths[i]? = some (Y.ths[i]'(by omega)) := List.getElem?_eq_getElem _
  refine ⟨_, hY, ?_⟩
  have := congrArg (fun l => l[i]?) h.ptr
  simp only [List.getElem?_map, hi, hY, Option.map_some] at this
  exact Option.some.inj this
/-- the machine has become p -/
def Ev (w : World) (X : Mc) (w' : World) (p : PS) : Prop := ∃ X', Post w X w' X' ∧ Kin X X' ∧ X'.abs = p
/-- .. and its threads are as they were -/
def EvM (w : World) (X : Mc) (w' : World) (p : PS) : Prop := ∃ X', Post w X w' X' ∧ Kin X X' ∧ X'.abs = p ∧ X'.ths = X.ths
theorem EvM.ev {w w' : World} {X : Mc} {p : PS} (h : EvM w X w' p) : Ev w X w' p := let ⟨X', h1, h2, h3, _⟩ := h; ⟨X', h1, h2, h3⟩
theorem Ev.before {w w1 w2 : World} {X X1 : Mc} {p : PS} (h : Post w X w1 X1) (k : Kin X X1) (h2 : Ev w1 X1 w2 p) : Ev w X w2 p := let ⟨X', a, b, c⟩ := h2; ⟨X', h.trans a, k.trans b, c⟩
namespace PS
def okP (p : PS) (a : Int) : Prop := 0 ≤ a ∧ a < p.W.length
instance (p : PS) (a : Int) : Decidable (p.okP a) := inferInstanceAs (Decidable (_ ∧ _))
def tchd (p : PS) (l : List Int) : Option (List Int × Int × Int) := l.foldl (fun g a => g.map fun x => if (p.c.where_ a).1 = 3 then (x.1, gto x.1 x.2.1 x.2.2 (p.c.where_ a).2.1) else x) p.gh
def rd (p : PS) (a : Int) : Int := p.W.getD a.toNat 0
def ldv (p : PS) (a : Int) : Int := if p.okP a then p.rd a else 0
def load (p : PS) (a : Int) : PS := { p with acted := true, gh := p.tchd [a], k := if p.okP a then p.k + 1 else p.k, bad := p.bad || !decide (p.okP a) }
def store (p : PS) (a x : Int) : PS := { p with acted := true, gh := p.tchd [a], W := if p.okP a then p.W.set a.toNat x else p.W, k := if p.okP a then p.k + 1 else p.k, bad := p.bad || !decide (p.okP a) }
def casv (p : PS) (a o : Int) : Bool := decide (p.okP a ∧ p.rd a = o)
def cas (p : PS) (a o n : Int) : PS := { p with acted := true, gh := p.tchd [a], W := if p.okP a ∧ p.rd a = o then p.W.set a.toNat n else p.W, k := if p.okP a then p.k + 1 else p.k, bad := p.bad || !decide (p.okP a) }
def deed (p : PS) (i frm to kind : Int) : PS := { p with gh := p.gh.map fun x => (gt x.1 x.2.1 x.2.2 i frm to kind).2 }
def put (p : PS) (i : Nat) (t : PT) : PS := { p with ths := p.ths.set i t }
def tagl (p : PS) : List Int := match p.gh with | none => [] | some x => x.1
structure Ok (p : PS) (b : Int) : Prop where
  r : rightC p.c
  t : p.tagl.length ≤ 64
  k0 : 0 ≤ p.k
  k1 : p.k ≤ b
  w : ∀ x ∈ p.W, 0 ≤ x ∧ x ≤ 18446744073709551615
  l : p.W.length = (sizeP p.c.A p.c.T p.c.N p.c.L).toNat
end PS
structure Good (X : Mc) (b : Int) : Prop where
  ok : X.abs.Ok b
  calm : X.s.on = false ∧ X.s.L = []
section
variable {w w' : World} {X : Mc} {b : Int}
theorem gtags_abs (X : Mc) : gtags X.gs = X.abs.tagl := by
  unfold PS.tagl Mc.abs
  cases X.gs <;> rfl
theorem Good.tg (h : Good X b) : (gtags X.gs).length ≤ 64 := by rw [gtags_abs]; exact h.ok.t
theorem Good.room (h : Good X b) (hb : b ≤ 1000000) : Roomy X.s := ⟨h.ok.k0, by have := h.ok.k1; have : X.s.k ≤ b := this; omega, by rw [h.calm.2]; decide⟩
theorem abs_tch (c : Cf) (g : Gs) (a : Int) : absG (tchG c g a) = if (c.where_ a).1 = 3 then (g.tags, gto g.tags g.k g.n (c.where_ a).2.1) else absG g := by
  unfold tchG
  split <;> rfl
theorem abs_tchs (c : Cf) (l : List Int) : ∀ gs : Option Gs, (tchs c gs l).map absG = l.foldl (fun g a => g.map fun x => if (c.where_ a).1 = 3 then (x.1, gto x.1 x.2.1 x.2.2 (c.where_ a).2.1) else x) (gs.map absG) := by
  induction l with
  | nil => intro gs; rfl
  | cons a l ih =>
    intro gs
    have e : (tch c gs a).map absG = (gs.map absG).map fun x => if (c.where_ a).1 = 3 then (x.1, gto x.1 x.2.1 x.2.2 (c.where_ a).2.1) else x := by
      cases gs with
      | none => rfl
      | some g => exact congrArg some (abs_tch c g a)
    show (tchs c (tch c gs a) l).map absG = _
    rw [ih, e]; rfl
theorem tch_ptr (c : Cf) (l : List Int) : ∀ gs : Option Gs, (tchs c gs l).map (·.p) = gs.map (·.p) := by
  induction l with
  | nil => intro gs; rfl
  | cons a l ih =>
    intro gs
    show (tchs c (tch c gs a) l).map (·.p) = _
    rw [ih]
    cases gs with
    | none => rfl
    | some g =>
      refine congrArg some ?_
      unfold tchG
      split <;> rfl
theorem okA_abs (X : Mc) (a : Int) : okA X.s a ↔ X.abs.okP a := Iff.rfl
theorem load_p (h : Mach w X) (hg : Good X b) (hb : b ≤ 1000000) (a : Int) : Fn Try.prog 53 #[ptrV X.m, .int .i64 a] w fun r w' => r = .int .u64 (X.abs.ldv a) ∧ EvM w X w' (X.abs.load a) := by
  refine (load_m h hg.ok.r hg.tg (hg.room hb) a).mono fun _ w' ⟨u, he, h1, lv, p⟩ => ⟨u, he, h1, _, p, ⟨rfl, rfl, tch_ptr X.c [a] X.gs, rfl, fun hc => ?_⟩, ?_, rfl⟩
  · show (ldS X.s a).on = false ∧ (ldS X.s a).L = []
    unfold ldS
    split
    · exact ⟨hc.1, by show (if X.s.on then _ else X.s.L) = []; rw [hc.1]; exact hc.2⟩
    · exact hc
  · unfold Mc.abs PS.load
    have e1 := abs_tchs X.c [a] X.gs
    have e2 : (ldS X.s a).W = X.s.W := by unfold ldS; split <;> rfl
    have e3 : (ldS X.s a).k = if X.abs.okP a then X.s.k + 1 else X.s.k := by
      unfold ldS
      by_cases ha : okA X.s a
      · rw [if_pos ha, if_pos ((okA_abs X a).1 ha)]; rfl
      · rw [if_neg ha, if_neg (fun h => ha ((okA_abs X a).2 h))]
    simp only [e2, e3]
    congr 1
theorem store_p (h : Mach w X) (hg : Good X b) (hb : b ≤ 1000000) (a x : Int) : Fn Try.prog 56 #[ptrV X.m, .int .i64 a, .int .u64 x] w fun _ w' => EvM w X w' (X.abs.store a x) := by
  refine (store_mm h hg.ok.r hg.tg (hg.room hb) a x).mono fun _ w' ⟨u, he, lv, p⟩ => ⟨u, he, _, p, ⟨rfl, rfl, tch_ptr X.c [a] X.gs, rfl, fun hc => ?_⟩, ?_, rfl⟩
  · show (stM X.s a x).on = false ∧ (stM X.s a x).L = []
    rw [stM_def]
    split
    · exact ⟨hc.1, by show (if X.s.on then _ else X.s.L) = []; rw [hc.1]; exact hc.2⟩
    · exact hc
  · unfold Mc.abs PS.store
    have e1 := abs_tchs X.c [a] X.gs
    have e2 : (stM X.s a x).W = if X.abs.okP a then X.s.W.set a.toNat x else X.s.W := by
      rw [stM_def]
      by_cases ha : okA X.s a
      · rw [if_pos ha, if_pos ((okA_abs X a).1 ha)]; rfl
      · rw [if_neg ha, if_neg (fun h => ha ((okA_abs X a).2 h))]
    have e3 : (stM X.s a x).k = if X.abs.okP a then X.s.k + 1 else X.s.k := by
      rw [stM_def]
      by_cases ha : okA X.s a
      · rw [if_pos ha, if_pos ((okA_abs X a).1 ha)]; rfl
      · rw [if_neg ha, if_neg (fun h => ha ((okA_abs X a).2 h))]
    simp only [e2, e3]
    congr 1
theorem cas_p (h : Mach w X) (hg : Good X b) (hb : b ≤ 1000000) (a o n : Int) : Fn Try.prog 86 #[ptrV X.m, .int .i64 a, .int .u64 o, .int .u64 n] w fun r w' => r = .bool (X.abs.casv a o) ∧ EvM w X w' (X.abs.cas a o n) := by
  refine (cas_m h hg.ok.r hg.tg (hg.room hb) a o n).mono fun _ w' ⟨u, he, h1, lv, p⟩ => ⟨u, he, h1, _, p, ⟨rfl, rfl, tch_ptr X.c [a] X.gs, rfl, fun hc => ?_⟩, ?_, rfl⟩
  · show (casS X.s a o n).on = false ∧ (casS X.s a o n).L = []
    unfold casS
    split
    · have hw : ∀ s' : MS, s'.on = X.s.on → s'.L = X.s.L → ∀ x, (tick s' x).on = false ∧ (tick s' x).L = [] := fun s' h1 h2 x => ⟨by rw [← hc.1, ← h1]; rfl, by show (if s'.on then _ else s'.L) = []; rw [h1, hc.1, h2]; exact hc.2⟩
      split
      · exact hw _ rfl rfl _
      · exact hw _ rfl rfl _
    · exact hc
  · unfold Mc.abs PS.cas
    have e1 := abs_tchs X.c [a] X.gs
    have e2 : (casS X.s a o n).W = if X.abs.okP a ∧ X.abs.rd a = o then X.s.W.set a.toNat n else X.s.W := by
      unfold casS
      by_cases ha : okA X.s a
      · rw [if_pos ha]
        by_cases hr : rd X.s a = o
        · rw [if_pos hr, if_pos ⟨(okA_abs X a).1 ha, hr⟩]; rfl
        · rw [if_neg hr, if_neg (fun h => hr h.2)]; rfl
      · rw [if_neg ha, if_neg (fun h => ha ((okA_abs X a).2 h.1))]
    have e3 : (casS X.s a o n).k = if X.abs.okP a then X.s.k + 1 else X.s.k := by
      unfold casS
      by_cases ha : okA X.s a
      · rw [if_pos ha, if_pos ((okA_abs X a).1 ha)]
        split <;> rfl
      · rw [if_neg ha, if_neg (fun h => ha ((okA_abs X a).2 h))]
    simp only [e2, e3]
    congr 1
theorem took_p (h : Mach w X) (hg : Good X b) (i : Int) : Fn Try.prog 76 #[ptrV X.m, .int .i64 i] w fun _ w' => EvM w X w' (X.abs.deed i 0 1 1) := by
  have hb16 : (machC X.c (ptrV X.mp) (gvOf X.gs) (ptrV X.fp) X.tv X.acted X.bad).toList[16]? = some (gvOf X.gs) := by cases X.c; rfl
  have hb := h.blk
  have hG := h.gh
  have ht := hg.tg
  refine fn_enter Try.func76 rfl rfl ?_
  refine cl (watched_mm h) ?_
  rintro _ _ ⟨rfl, rfl⟩
  rename_i w1
  cases hgs : X.gs with
  | none =>
    refine ⟨X, .refl h, .refl X, ?_, rfl⟩
    unfold Mc.abs PS.deed
    rw [hgs]; rfl
  | some g =>
    rw [hgs] at hb16 hb hG ht
    refine fa ?_
    refine ldb hb hb16 ?_
    refine cl (alloc_c (show IsG w1 g.p g.v g.tags g.k g.n from hG) ht i) ?_
    rintro _ w2 ⟨h1, h2⟩
    have p := h.setGh (g' := ⟨g.p, g.v, (gt g.tags g.k g.n i 0 1 1).2.1, (gt g.tags g.k g.n i 0 1 1).2.2.1, (gt g.tags g.k g.n i 0 1 1).2.2.2⟩) hgs rfl rfl h1 h2
    refine ⟨_, p, ⟨rfl, rfl, by rw [hgs]; rfl, rfl, id⟩, ?_, rfl⟩
    unfold Mc.abs PS.deed
    rw [hgs]; rfl
theorem gone_p (h : Mach w X) (hg : Good X b) (i : Int) : Fn Try.prog 57 #[ptrV X.m, .int .i64 i] w fun _ w' => EvM w X w' (X.abs.deed i 1 2 2) := by
  have hb16 : (machC X.c (ptrV X.mp) (gvOf X.gs) (ptrV X.fp) X.tv X.acted X.bad).toList[16]? = some (gvOf X.gs) := by cases X.c; rfl
  have hb := h.blk
  have hG := h.gh
  have ht := hg.tg
  refine fn_enter Try.func57 rfl rfl ?_
  refine cl (watched_mm h) ?_
  rintro _ _ ⟨rfl, rfl⟩
  rename_i w1
  cases hgs : X.gs with
  | none =>
    refine ⟨X, .refl h, .refl X, ?_, rfl⟩
    unfold Mc.abs PS.deed
    rw [hgs]; rfl
  | some g =>
    rw [hgs] at hb16 hb hG ht
    refine fa ?_
    refine ldb hb hb16 ?_
    refine cl (retire_c (show IsG w1 g.p g.v g.tags g.k g.n from hG) ht i) ?_
    rintro _ w2 ⟨h1, h2⟩
    have p := h.setGh (g' := ⟨g.p, g.v, (gt g.tags g.k g.n i 1 2 2).2.1, (gt g.tags g.k g.n i 1 2 2).2.2.1, (gt g.tags g.k g.n i 1 2 2).2.2.2⟩) hgs rfl rfl h1 h2
    refine ⟨_, p, ⟨rfl, rfl, by rw [hgs]; rfl, rfl, id⟩, ?_, rfl⟩
    unfold Mc.abs PS.deed
    rw [hgs]; rfl
theorem freed_p (h : Mach w X) (hg : Good X b) (i : Int) : Fn Try.prog 77 #[ptrV X.m, .int .i64 i] w fun _ w' => EvM w X w' (X.abs.deed i 2 0 3) := by
  have hb16 : (machC X.c (ptrV X.mp) (gvOf X.gs) (ptrV X.fp) X.tv X.acted X.bad).toList[16]? = some (gvOf X.gs) := by cases X.c; rfl
  have hb := h.blk
  have hG := h.gh
  have ht := hg.tg
  refine fn_enter Try.func77 rfl rfl ?_
  refine cl (watched_mm h) ?_
  rintro _ _ ⟨rfl, rfl⟩
  rename_i w1
  cases hgs : X.gs with
  | none =>
    refine ⟨X, .refl h, .refl X, ?_, rfl⟩
    unfold Mc.abs PS.deed
    rw [hgs]; rfl
  | some g =>
    rw [hgs] at hb16 hb hG ht
    refine fa ?_
    refine ldb hb hb16 ?_
    refine cl (release_c (show IsG w1 g.p g.v g.tags g.k g.n from hG) ht i) ?_
    rintro _ w2 ⟨h1, h2⟩
    have p := h.setGh (g' := ⟨g.p, g.v, (gt g.tags g.k g.n i 2 0 3).2.1, (gt g.tags g.k g.n i 2 0 3).2.2.1, (gt g.tags g.k g.n i 2 0 3).2.2.2⟩) hgs rfl rfl h1 h2
    refine ⟨_, p, ⟨rfl, rfl, by rw [hgs]; rfl, rfl, id⟩, ?_, rfl⟩
    unfold Mc.abs PS.deed
    rw [hgs]; rfl
theorem abs_th (X : Mc) {i : Nat} {t : Th} (hi : X.ths[i]? = some t) : X.abs.ths[i]? = some (absT t) := by
  show (X.ths.map absT)[i]? = _
  rw [List.getElem?_map, hi]; rfl
theorem abs_set (X : Mc) (i : Nat) (t : Th) : ({ X with ths := X.ths.set i t } : Mc).abs = X.abs.put i (absT t) := by
  unfold Mc.abs PS.put
  simp [List.map_set]
theorem kin_set (X : Mc) {i : Nat} {t t' : Th} (hi : X.ths[i]? = some t) (hg : t'.g = t.g) : Kin X { X with ths := X.ths.set i t' } := by
  refine ⟨rfl, rfl, rfl, ?_, id⟩
  show (X.ths.set i t').map (·.g) = _
  apply List.ext_getElem?
  intro j
  rw [List.getElem?_map, List.getElem?_map, List.getElem?_set]
  by_cases hj : i = j
  · subst hj
    rw [if_pos rfl, if_pos (ths_lt hi), hi]; simp [hg]
  · rw [if_neg hj]
end
end Go.Proofs.Ytklbeipdigancaa

/- Contracts: words; the arena's routines. -/
namespace Go.Proofs.Ytklbeipdigancaa
open Go.RowKit
attribute [local irreducible] Instr.loadAt Instr.storeAt Instr.fieldAt Instr.indexAt Instr.sliceAt Instr.buildSlice Instr.box Instr.alloc Builtin.append_ Builtin.len_ Builtin.min_ Builtin.max_ Calls Instr.build Instr.makeSlice binSem convert Instr.index Instr.range Instr.next
def ptrW (x : Int) : Int := x / 2 % 65536
def nextW (x p : Int) : Int := ((x / 131072 + 1) % 140737488355328) * 131072 + (p % 18446744073709551616 % 65536) * 2
abbrev u64R (x : Int) : Prop := 0 ≤ x ∧ x ≤ 18446744073709551615
theorem ptrW_bd {x : Int} : 0 ≤ ptrW x ∧ ptrW x < 65536 := by unfold ptrW; omega
theorem nextW_bd {x p : Int} : u64R (nextW x p) := by unfold nextW u64R; omega
theorem wptr_c {x : Int} (hx : u64R x) (w : World) : Fn Try.prog 70 #[.int .u64 x] w fun r w' => r = .int .i64 (ptrW x) ∧ w' = w := by
  have hx0 := hx.1; have hx1 := hx.2
  refine fn_enter Try.func70 rfl rfl ?_
  refine sh_r (by decide) ?_
  refine val (x / 2) (by
    have e : (2 : Int) ^ min (1 : Int).toNat IntKind.u64.bits = 2 := by decide
    rw [e, Int.fdiv_eq_ediv_of_nonneg _ (by decide)]) ?_
  refine rm (by decide) ?_
  refine val (ptrW x) (by rw [Int.tmod_eq_emod_of_nonneg (by omega)]; rfl) ?_
  have hb := ptrW_bd (x := x)
  refine cv ?_
  refine ar64 (by omega) ?_
  exact ⟨rfl, rfl⟩
theorem aptr_c {x : Int} (hx : u64R x) (w : World) : Fn Try.prog 65 #[.int .u64 x] w fun r w' => r = .int .i64 (ptrW x) ∧ w' = w := by
  refine fn_enter Try.func65 rfl rfl ?_
  refine cl (wptr_c hx w) ?_
  rintro _ _ ⟨rfl, rfl⟩
  exact ⟨rfl, rfl⟩
theorem ver_c {x : Int} (hx : u64R x) (w : World) : Fn Try.prog 92 #[.int .u64 x] w fun r w' => r = .int .u64 (x / 131072) ∧ w' = w := by
  refine fn_enter Try.func92 rfl rfl ?_
  refine sh_r (by decide) ?_
  refine val (x / 131072) (by
    have e : (2 : Int) ^ min (17 : Int).toNat IntKind.u64.bits = 131072 := by decide
    rw [e, Int.fdiv_eq_ediv_of_nonneg _ (by decide)]) ?_
  exact ⟨rfl, rfl⟩
theorem pack2_c (n v : Nat) (hn : n < 65536) (hv : v < 140737488355328) (w : World) : Fn Try.prog 79 #[.int .u64 (n : Int), .bool false, .int .u64 (v : Int)] w fun r w' => r = .int .u64 ((v * 131072 + n * 2 : Nat) : Int) ∧ w' = w := by
  refine fn_enter Try.func79 rfl rfl ?_
  refine sh_l (by decide) ?_
  refine val ((v * 131072 : Nat) : Int) (by
    have e : (2 : Int) ^ min (17 : Int).toNat IntKind.u64.bits = 131072 := by decide
    rw [e, wrapU (by omega)]; omega) ?_
  refine sh_l (by decide) ?_
  refine val ((n * 2 : Nat) : Int) (by
    have e : (2 : Int) ^ min (1 : Int).toNat IntKind.u64.bits = 2 := by decide
    rw [e, wrapU (by omega)]; omega) ?_
  refine borU (by omega) (by omega) ?_
  have e : v * 131072 ||| n * 2 = v * 131072 + n * 2 := by
    have := Nat.two_pow_add_eq_or_of_lt (i := 17) (show n * 2 < 2 ^ 17 by omega) v
    rw [Nat.mul_comm v]
    exact this.symm
  rw [e]
  exact ⟨rfl, rfl⟩
theorem next_c {x : Int} (hx : u64R x) (p : Int) (w : World) : Fn Try.prog 87 #[.int .u64 x, .int .i64 p, .bool false] w fun r w' => r = .int .u64 (nextW x p) ∧ w' = w := by
  have hx0 := hx.1; have hx1 := hx.2
  refine fn_enter Try.func87 rfl rfl ?_
  refine cv ?_
  refine val (p % 18446744073709551616) (by rw [IntKind.wrap_u64]) ?_
  refine rm (by decide) ?_
  refine val (p % 18446744073709551616 % 65536) (by rw [Int.tmod_eq_emod_of_nonneg (by omega)]) ?_
  refine cl (ver_c hx w) ?_
  rintro _ _ ⟨rfl, rfl⟩
  refine arU (by omega) ?_
  refine rm (by decide) ?_
  refine val ((x / 131072 + 1) % 140737488355328) (by rw [Int.tmod_eq_emod_of_nonneg (by omega)]) ?_
  obtain ⟨n, hn⟩ := Int.eq_ofNat_of_zero_le (show 0 ≤ p % 18446744073709551616 % 65536 by omega)
  obtain ⟨v, hv⟩ := Int.eq_ofNat_of_zero_le (show 0 ≤ (x / 131072 + 1) % 140737488355328 by omega)
  rw [hn, hv]
  refine cl (pack2_c n v (by omega) (by omega) _) ?_
  rintro _ _ ⟨rfl, rfl⟩
  exact ⟨by unfold nextW; rw [hn, hv]; simp, rfl⟩
section
variable {w w' : World} {X : Mc} {b : Int}
theorem swing_p (h : Mach w X) (hg : Good X b) (hb : b ≤ 1000000) {x : Int} (hx : u64R x) (p : Int) : Fn Try.prog 75 #[ptrV X.m, .int .u64 x, .int .i64 p] w fun r w' => r = .bool (X.abs.casv 0 x) ∧ EvM w X w' (X.abs.cas 0 x (nextW x p)) := by
  refine fn_enter Try.func75 rfl rfl ?_
  refine cl (next_c hx p w) ?_
  rintro _ _ ⟨rfl, rfl⟩
  refine cl (cas_p h hg hb 0 x (nextW x p)) ?_
  rintro _ w2 ⟨rfl, e⟩
  exact ⟨rfl, e⟩
end
def toI (x : Int) : Int := IntKind.i64.wrap x
def Cf.link (c : Cf) (n : Int) : Int := linkA c.A c.T c.N c.L n
def topped (t : PT) (fs : List Fr) (f : Fr) : PT := { t with fs := fs ++ [f] }
def popped (t : PT) (fs : List Fr) (x : Int) : PT := { t with fs := fs, r := (x, 0, 0) }
def arAlloc (p : PS) (i : Nat) (t : PT) (fs : List Fr) (f : Fr) : PS :=
  if f.pc = 0 then
    (if ptrW (p.ldv 0) = 0 then (p.load 0).put i (popped t fs 0) else (p.load 0).put i (topped t fs ⟨f.fn, 1, regI f.R 0 (p.ldv 0)⟩))
  else if f.pc = 1 then (p.load (p.c.link (ptrW (f.R.getD 0 0)))).put i (topped t fs ⟨f.fn, 2, regI f.R 1 (p.ldv (p.c.link (ptrW (f.R.getD 0 0))))⟩)
  else if p.casv 0 (f.R.getD 0 0) then ((p.cas 0 (f.R.getD 0 0) (nextW (f.R.getD 0 0) (toI (f.R.getD 1 0)))).deed (ptrW (f.R.getD 0 0)) 0 1 1).put i (popped t fs (ptrW (f.R.getD 0 0)))
  else (p.cas 0 (f.R.getD 0 0) (nextW (f.R.getD 0 0) (toI (f.R.getD 1 0)))).put i (topped t fs { f with pc := 0 })
def arRelease (p : PS) (i : Nat) (t : PT) (fs : List Fr) (f : Fr) : PS :=
  if f.pc = 0 then (p.load 0).put i (topped t fs ⟨f.fn, 1, regI f.R 1 (p.ldv 0)⟩)
  else if f.pc = 1 then (p.store (p.c.link (toI (f.R.getD 0 0))) (ptrW (f.R.getD 1 0))).put i (topped t fs { f with pc := 2 })
  else if p.casv 0 (f.R.getD 1 0) then ((p.cas 0 (f.R.getD 1 0) (nextW (f.R.getD 1 0) (toI (f.R.getD 0 0)))).deed (toI (f.R.getD 0 0)) 2 0 3).put i (popped t fs (IntKind.u64.wrap (toI (f.R.getD 0 0))))
  else (p.cas 0 (f.R.getD 1 0) (nextW (f.R.getD 1 0) (toI (f.R.getD 0 0)))).put i (topped t fs { f with pc := 0 })
theorem PS.ldv_bd {p : PS} {b : Int} (h : p.Ok b) (a : Int) : u64R (p.ldv a) := by
  unfold PS.ldv PS.rd
  split
  · rename_i ha
    have hl : a.toNat < p.W.length := by unfold PS.okP at ha; omega
    have : p.W.getD a.toNat 0 = p.W[a.toNat] := by simp [List.getD, hl]
    rw [this]
    exact h.w _ (List.getElem_mem _)
  · exact ⟨by decide, by decide⟩
theorem PS.Ok.load {p : PS} {b : Int} (h : p.Ok b) (a : Int) : (p.load a).Ok (b + 1) := by
  refine ⟨h.r, ?_, ?_, ?_, h.w, h.l⟩
  · have := h.t
    unfold PS.tagl PS.load PS.tchd at *
    simp only [List.foldl_cons, List.foldl_nil]
    cases hgh : p.gh with
    | none => simp
    | some x =>
      rw [hgh] at this
      simp only [Option.map_some]
      split
      · exact this
      · exact this
  · have := h.k0
    show 0 ≤ (if p.okP a then p.k + 1 else p.k)
    split <;> omega
  · have := h.k1
    show (if p.okP a then p.k + 1 else p.k) ≤ b + 1
    split <;> omega
theorem tagl_tch (p : PS) (a : Int) : (match p.tchd [a] with | none => [] | some x => x.1) = p.tagl := by
  unfold PS.tagl PS.tchd
  simp only [List.foldl_cons, List.foldl_nil]
  cases p.gh with
  | none => rfl
  | some x =>
    simp only [Option.map_some]
    split <;> rfl
theorem mem_set_ {l : List Int} {i : Nat} {y : Int} (h : ∀ x ∈ l, u64R x) (hy : u64R y) : ∀ x ∈ l.set i y, u64R x := fun x hx => by
  rcases List.mem_or_eq_of_mem_set hx with h1 | h1
  · exact h x h1
  · rw [h1]; exact hy
theorem PS.Ok.store {p : PS} {b : Int} (h : p.Ok b) (a : Int) {x : Int} (hx : u64R x) : (p.store a x).Ok (b + 1) := by
  refine ⟨h.r, ?_, ?_, ?_, ?_, ?_⟩
  · have := h.t
    rw [← tagl_tch p a] at this
    exact this
  · have := h.k0
    show 0 ≤ (if p.okP a then p.k + 1 else p.k)
    split <;> omega
  · have := h.k1
    show (if p.okP a then p.k + 1 else p.k) ≤ b + 1
    split <;> omega
  · show ∀ y ∈ (if p.okP a then p.W.set a.toNat x else p.W), u64R y
    split
    · exact mem_set_ h.w hx
    · exact h.w
  · show (if p.okP a then p.W.set a.toNat x else p.W).length = _
    have := h.l
    split
    · rw [List.length_set]; exact this
    · exact this
theorem PS.Ok.cas {p : PS} {b : Int} (h : p.Ok b) (a o : Int) {x : Int} (hx : u64R x) : (p.cas a o x).Ok (b + 1) := by
  refine ⟨h.r, ?_, ?_, ?_, ?_, ?_⟩
  · have := h.t
    rw [← tagl_tch p a] at this
    exact this
  · have := h.k0
    show 0 ≤ (if p.okP a then p.k + 1 else p.k)
    split <;> omega
  · have := h.k1
    show (if p.okP a then p.k + 1 else p.k) ≤ b + 1
    split <;> omega
  · show ∀ y ∈ (if p.okP a ∧ p.rd a = o then p.W.set a.toNat x else p.W), u64R y
    split
    · exact mem_set_ h.w hx
    · exact h.w
  · show (if p.okP a ∧ p.rd a = o then p.W.set a.toNat x else p.W).length = _
    have := h.l
    split
    · rw [List.length_set]; exact this
    · exact this
theorem gt_len' (tags : List Int) (k n i a b d : Int) : (gt tags k n i a b d).2.1.length = tags.length := by
  unfold gt
  split
  · rfl
  · split
    · simp
    · rfl
theorem PS.Ok.deed {p : PS} {b : Int} (h : p.Ok b) (i x y z : Int) : (p.deed i x y z).Ok b := by
  refine ⟨h.r, ?_, h.k0, h.k1, h.w, h.l⟩
  have := h.t
  unfold PS.tagl PS.deed at *
  cases hgh : p.gh with
  | none => simp
  | some x => rw [hgh] at this; simp only [Option.map_some]; rw [gt_len']; exact this
theorem PS.Ok.put {p : PS} {b : Int} (h : p.Ok b) (i : Nat) (t : PT) : (p.put i t).Ok b := ⟨h.r, h.t, h.k0, h.k1, h.w, h.l⟩
theorem PS.Ok.up {p : PS} {b c : Int} (h : p.Ok b) (hc : b ≤ c) : p.Ok c := ⟨h.r, h.t, h.k0, Int.le_trans h.k1 hc, h.w, h.l⟩
theorem Good.of {X X' : Mc} {b b' : Int} {p : PS} (h : Good X b) (k : Kin X X') (ha : X'.abs = p) (hp : p.Ok b') : Good X' b' := ⟨by rw [ha]; exact hp, k.calm h.calm⟩
end Go.Proofs.Ytklbeipdigancaa

/- Contracts: the arena's routines. -/
namespace Go.Proofs.Ytklbeipdigancaa
open Go.RowKit
attribute [local irreducible] Instr.loadAt Instr.storeAt Instr.fieldAt Instr.indexAt Instr.sliceAt Instr.buildSlice Instr.box Instr.alloc Builtin.append_ Builtin.len_ Builtin.min_ Builtin.max_ Calls Instr.build Instr.makeSlice binSem convert Instr.index Instr.range Instr.next
theorem regs_set {f : Fr} {i : Nat} {x : Int} : frC ⟨f.fn, f.pc, regI f.R i x⟩ = frC { f with R := regI f.R i x } := rfl
theorem frC_R0 (f : Fr) (k : Nat) (hk : k < 10) : (frC f)[2 + k]? = some (.int .u64 (f.R.getD k 0)) := by
  rw [show 2 + k = k + 1 + 1 by omega]
  show (regsC 10 f.R)[k]? = _
  simp [regsC, hk]
section
variable {w w' : World} {X : Mc} {b : Int} {i : Nat} {t : Th} {fs : List Fr} {f : Fr} {fb fo fc : Nat}
theorem set_at {X : Mc} {i : Nat} {t t' : Th} (hi : X.ths[i]? = some t) : (X.ths.set i t')[i]? = some t' := by rw [List.getElem?_set]; simp [ths_lt hi]
/-- the top frame in a walk: it lies where it lay -/
structure TopI (w0 w : World) (X0 X : Mc) (i : Nat) (t : Th) (fs : List Fr) (f : Fr) (fb fo fc : Nat) : Prop where
  p : Post w0 X0 w X
  k : Kin X0 X
  i : X.ths[i]? = some t
  f : t.fs = fs ++ [f]
  v : t.fv = .slice (some ⟨fb, fo, none⟩) t.fs.length fc
theorem TopI.upd0 {w0 : World} {X0 : Mc} (h : TopI w0 w X0 X i t fs f fb fo fc) (hu : Upd [] w w') : TopI w0 w' X0 X i t fs f fb fo fc := ⟨h.p.upd0 hu, h.k, h.i, h.f, h.v⟩
theorem TopI.at_ {w0 : World} {X0 : Mc} (h : TopI w0 w X0 X i t fs f fb fo fc) (j : Nat) (hj : j < 12) : w.cell? ⟨fb, fo + fs.length * 12 + j, none⟩ = (frC f)[j]? := h.p.ok.top h.i h.f h.v j hj
theorem TopI.mem {w0 : World} {X0 X' : Mc} (h : TopI w0 w X0 X i t fs f fb fo fc) (p : Post w X w' X') (k : Kin X X') (hs : X'.ths = X.ths) : TopI w0 w' X0 X' i t fs f fb fo fc := ⟨h.p.trans p, h.k.trans k, by rw [hs]; exact h.i, h.f, h.v⟩
theorem TopI.st {w0 : World} {X0 : Mc} {ty : Nat} [One Try.prog ty] {K : World → Prop} (h : TopI w0 w X0 X i t fs f fb fo fc) {f' : Fr} (j : Nat) (hj : j < 12) {a : Nat} (ha : a = fo + fs.length * 12 + j) {u : Value} (hu : u.oneCell' = true)
    (hf : frC f' = (frC f).set j u) (k : ∀ w', TopI w0 w' X0 { X with ths := X.ths.set i { t with fs := fs ++ [f'] } } i { t with fs := fs ++ [f'] } fs f' fb fo fc → K w') : RunU Try.prog (Instr.storeAt ty (.pointer (some ⟨fb, a, none⟩)) u) K w :=
  st_fr h.p.ok h.i h.f h.v j hj ha hu hf fun w' p => k w' ⟨h.p.trans p, h.k.trans (kin_set X h.i rfl), set_at h.i, rfl, by
    show t.fv = .slice _ (fs ++ [f']).length fc
    rw [h.v, h.f]; simp⟩
theorem TopI.pop {w0 : World} {X0 : Mc} (h : TopI w0 w X0 X i t fs f fb fo fc) (hl : fs.length ≤ 100000) {v : Value} {l : List Int} (hv : ∀ w', Upd [t.g] w w' → RdK w' .u64 v l) :
    Fn Try.prog 55 #[ptrV t.g, v] w fun _ w' => Ev w0 X0 w' (X.abs.put i { absT t with fs := fs, r := (l.getD 0 0, l.getD 1 0, l.getD 2 0) }) :=
  (pop_mm h.p.ok h.i h.f hl hv).mono fun _ w' ⟨u, he, fv, p⟩ => ⟨u, he, _, h.p.trans p, h.k.trans (kin_set X h.i rfl), by rw [abs_set]; rfl⟩
theorem TopI.ev {w0 : World} {X0 : Mc} (h : TopI w0 w X0 X i t fs f fb fo fc) : Ev w0 X0 w X.abs := ⟨X, h.p, h.k, rfl⟩
theorem put_put (p : PS) (i : Nat) (t t' : PT) : (p.put i t).put i t' = p.put i t' := by unfold PS.put; simp
theorem put_load (p : PS) (i : Nat) (t : PT) (a : Int) : (p.put i t).load a = (p.load a).put i t := rfl
theorem put_cas (p : PS) (i : Nat) (t : PT) (a x y : Int) : (p.put i t).cas a x y = (p.cas a x y).put i t := rfl
theorem put_deed (p : PS) (i : Nat) (t : PT) (a x y z : Int) : (p.put i t).deed a x y z = (p.deed a x y z).put i t := rfl
theorem one_rd {w : World} {g : Nat} {x : Int} (hb : Blk w g 36 #[.int .u64 x]) : RdK w .u64 (.slice (some ⟨g, 0, none⟩) 1 1) [x] := RdK.of_sl (e := 36) (n := 1) (Sl.lit (n := 1) hb rfl (by decide))
theorem link_a2 {c : Cf} (hr : rightC c) (n : Int) (w : World) : Fn Try.prog 51 #[.agg (planC c), .int .i64 n] w fun r w' => r = .int .i64 (c.link n) ∧ Upd [] w w' := by
  obtain ⟨A, T, N, L, B, P, S⟩ := c
  exact link_a hr n w
set_option maxRecDepth 10000 in
theorem al_p (h : Mach w X) (hg : Good X b) (hb : b ≤ 900000) (hi : X.ths[i]? = some t) (hfs : t.fs = fs ++ [f]) (hl : fs.length ≤ 90000) (hfv : t.fv = .slice (some ⟨fb, fo, none⟩) t.fs.length fc) (hR : ∀ j, u64R (f.R.getD j 0)) :
    Fn Try.prog 62 #[ptrV X.m, ptrV t.g, .pointer (some ⟨fb, fo + fs.length * 12, none⟩)] w fun _ w' => Ev w X w' (arAlloc X.abs i (absT t) fs f) := by
  have I : TopI w w X X i t fs f fb fo fc := ⟨.refl h, .refl X, hi, hfs, hfv⟩
  have hat : ∀ {w1 : World}, Upd [] w w1 → ∀ j, j < 12 → w1.cell? ⟨fb, fo + fs.length * 12 + j, none⟩ = (frC f)[j]? := fun hu j hj => (I.upd0 hu).at_ j hj
  have h0 := hR 0
  have h1 := hR 1
  have hp0 := ptrW_bd (x := f.R.getD 0 0)
  refine fn_enter Try.func62 rfl rfl ?_
  refine fa ?_
  refine ixA 0 rfl (by omega) ?_
  refine ld (v := .int .u64 (f.R.getD 0 0)) ((hat (Upd.refl [] w) 2 (by omega)).trans (frC_R0 f 0 (by omega))) ?_
  refine cl (aptr_c h0 w) ?_
  rintro _ _ ⟨rfl, rfl⟩
  rename_i w
  refine fa ?_
  refine ld (v := .int .i64 f.pc) (hat (Upd.refl [] w) 1 (by omega)) ?_
  unfold arAlloc
  by_cases c0 : f.pc = 0
  · rw [if_pos c0]
    refine cY c0 ?_
    refine draw_mix 5 [(0, true), (1, true), (3, true), (4, true), (2, false)] (fun _ => True) (by decide +kernel) trivial ?_
    refine q_fa ?_
    have I1 := I.upd0 (Upd.refl [] w).drew
    refine cl (load_p I1.p.ok hg (by omega) 0) ?_
    rintro _ w2 ⟨rfl, X2, p2, k2, a2, s2⟩
    refine ⟨trivial, ?_⟩
    have I2 := I1.mem p2 k2 s2
    refine ixA 0 rfl (by omega) ?_
    refine I2.st (f' := { f with R := regI f.R 0 (X.abs.ldv 0) }) 2 (by omega) rfl rfl (frC_reg f 0 (by omega) _) fun w3 I3 => ?_
    refine fa ?_
    refine I3.st (f' := ⟨f.fn, 1, regI f.R 0 (X.abs.ldv 0)⟩) 1 (by omega) rfl rfl rfl fun w4 I4 => ?_
    refine fa ?_
    refine ixA 0 rfl (by omega) ?_
    refine ld (v := .int .u64 (X.abs.ldv 0)) ((I4.at_ 2 (by omega)).trans ((frC_R0 _ 0 (by omega)).trans (by rw [regI_at _ _ _ _ (by omega)]; rfl))) ?_
    have hv := PS.ldv_bd hg.ok 0
    refine cl (aptr_c hv w4) ?_
    rintro _ _ ⟨rfl, rfl⟩
    rename_i w4
    have ea : ∀ (t' : PT), ((({ ({ X2 with ths := X2.ths.set i { t with fs := fs ++ [{ f with R := regI f.R 0 (X.abs.ldv 0) }] } } : Mc) with ths := (X2.ths.set i { t with fs := fs ++ [{ f with R := regI f.R 0 (X.abs.ldv 0) }] }).set i { t with fs := fs ++ [⟨f.fn, 1, regI f.R 0 (X.abs.ldv 0)⟩] } } : Mc)).abs.put i t') = (X.abs.load 0).put i t' := fun t' => by
      rw [← a2]
      unfold Mc.abs PS.put
      simp [List.map_set]
    by_cases cp : ptrW (X.abs.ldv 0) = 0
    · rw [if_pos cp]
      refine cY cp ?_
      refine bs #[.int .u64 0] (fun _ => by kernel_rfl) fun w5 hb5 hu5 hs5 => ?_
      have I5 := I4.upd0 hu5
      have hne : w4.heap.size ≠ t.g := by have := (I4.p.ok.core I4.i).blk.lt; intro e; rw [e] at this; exact absurd this (Nat.lt_irrefl _)
      refine cl (I5.pop (l := [0]) (by omega) (fun w' hu => one_rd (hb5.upd hu (by simpa using hne)))) ?_
      rintro _ w6 e
      rw [ea] at e
      exact e
    · rw [if_neg cp]
      refine cN cp ?_
      have := I4.ev
      rw [abs_set, abs_set, put_put, a2] at this
      exact this
  rw [if_neg c0]
  refine cN c0 ?_
  by_cases c1 : f.pc = 1
  · rw [if_pos c1]
    refine cY c1 ?_
    refine draw_mix 9 [(0, true), (1, true), (2, true), (4, true), (7, true), (8, true), (3, false), (5, false), (6, false)] (fun _ => True) (by decide +kernel) trivial ?_
    refine q_fa ?_
    have I1 := I.upd0 (Upd.refl [] w).drew
    refine cl (plan_mm I1.p.ok) ?_
    rintro _ w2 ⟨rfl, hu2⟩
    refine ⟨trivial, ?_⟩
    have I2 := I1.upd0 hu2
    refine cl (link_a2 hg.ok.r _ w2) ?_
    rintro _ w3 ⟨rfl, hu3⟩
    refine ⟨trivial, ?_⟩
    have I3 := I2.upd0 hu3
    refine cl (load_p I3.p.ok hg (by omega) _) ?_
    rintro _ w4 ⟨rfl, X4, p4, k4, a4, s4⟩
    refine ⟨trivial, ?_⟩
    have I4 := I3.mem p4 k4 s4
    refine ixA 1 rfl (by omega) ?_
    refine I4.st (f' := { f with R := regI f.R 1 (X.abs.ldv (X.abs.c.link (ptrW (f.R.getD 0 0)))) }) 3 (by omega) rfl rfl (frC_reg f 1 (by omega) _) fun w5 I5 => ?_
    refine fa ?_
    refine I5.st (f' := ⟨f.fn, 2, regI f.R 1 (X.abs.ldv (X.abs.c.link (ptrW (f.R.getD 0 0))))⟩) 1 (by omega) rfl rfl rfl fun w6 I6 => ?_
    have := I6.ev
    rw [abs_set, abs_set, put_put, a4] at this
    exact this
  rw [if_neg c1]
  refine cN c1 ?_
  refine fa ?_
  refine I.st (f' := { f with pc := 0 }) 1 (by omega) rfl rfl (frC_pc f 0) fun w2 I2 => ?_
  have hg2 : Good { X with ths := X.ths.set i { t with fs := fs ++ [{ f with pc := 0 }] } } b := hg.of (kin_set X hi rfl) (abs_set X i _) (hg.ok.put _ _)
  refine draw_tail 12 (by decide +kernel) ?_
  have I3 := I2.upd0 (Upd.refl [] w2).drew
  refine q_fa ?_
  refine q_ixA 0 rfl (by omega) ?_
  refine q_ld (v := .int .u64 (f.R.getD 0 0)) (by rintro _ rfl; exact (I3.at_ 2 (by omega)).trans (frC_R0 _ 0 (by omega))) ?_
  refine q_fa ?_
  refine q_ixA 1 rfl (by omega) ?_
  refine q_ld (v := .int .u64 (f.R.getD 1 0)) (by rintro _ rfl; exact (I3.at_ 3 (by omega)).trans (frC_R0 _ 1 (by omega))) ?_
  refine rq (.int .i64 (toI (f.R.getD 1 0))) (fun _ _ => cv (val _ rfl ⟨rfl, rfl⟩)) ?_
  refine cl (swing_p I3.p.ok hg2 (by omega) h0 (toI (f.R.getD 1 0))) ?_
  rintro _ w4 ⟨rfl, X4, p4, k4, a4, s4⟩
  have I4 := I3.mem p4 k4 s4
  have ec : (({ X with ths := X.ths.set i { t with fs := fs ++ [{ f with pc := 0 }] } } : Mc).abs).casv 0 (f.R.getD 0 0) = X.abs.casv 0 (f.R.getD 0 0) := rfl
  rw [ec]
  rw [abs_set, put_cas] at a4
  cases hcas : X.abs.casv 0 (f.R.getD 0 0) with
  | true =>
    rw [if_pos rfl]
    have hg4 : Good X4 (b + 1) := hg2.of k4 a4 ((hg.ok.cas 0 _ nextW_bd).put _ _)
    have htk := took_p I4.p.ok hg4 (ptrW (f.R.getD 0 0))
    rw [show X4.m = X.m from k4.m] at htk
    refine cl htk ?_
    rintro _ w5 ⟨X5, p5, k5, a5, s5⟩
    have I5 := I4.mem p5 k5 s5
    refine cv ?_
    refine arU (by omega) ?_
    refine bs #[.int .u64 (ptrW (f.R.getD 0 0))] (fun _ => by kernel_rfl) fun w6 hb6 hu6 hs6 => ?_
    have I6 := I5.upd0 hu6
    have hne : w5.heap.size ≠ t.g := by have := (I5.p.ok.core I5.i).blk.lt; intro e; rw [e] at this; exact absurd this (Nat.lt_irrefl _)
    refine cl (I6.pop (l := [ptrW (f.R.getD 0 0)]) (by omega) (fun w' hu => one_rd (hb6.upd hu (by simpa using hne)))) ?_
    rintro _ w7 e
    rw [a5, a4, put_deed, put_put] at e
    exact e
  | false =>
    rw [if_neg (by simp)]
    have := I4.ev
    rw [a4] at this
    exact this
set_option maxRecDepth 10000 in
theorem rel_p (h : Mach w X) (hg : Good X b) (hb : b ≤ 900000) (hi : X.ths[i]? = some t) (hfs : t.fs = fs ++ [f]) (hl : fs.length ≤ 90000) (hfv : t.fv = .slice (some ⟨fb, fo, none⟩) t.fs.length fc) (hR : ∀ j, u64R (f.R.getD j 0)) :
    Fn Try.prog 63 #[ptrV X.m, ptrV t.g, .pointer (some ⟨fb, fo + fs.length * 12, none⟩)] w fun _ w' => Ev w X w' (arRelease X.abs i (absT t) fs f) := by
  have I : TopI w w X X i t fs f fb fo fc := ⟨.refl h, .refl X, hi, hfs, hfv⟩
  have hat : ∀ {w1 : World}, Upd [] w w1 → ∀ j, j < 12 → w1.cell? ⟨fb, fo + fs.length * 12 + j, none⟩ = (frC f)[j]? := fun hu j hj => (I.upd0 hu).at_ j hj
  have h0 := hR 0
  have h1 := hR 1
  have hp1 := ptrW_bd (x := f.R.getD 1 0)
  refine fn_enter Try.func63 rfl rfl ?_
  refine fa ?_
  refine ixA 0 rfl (by omega) ?_
  refine ld (v := .int .u64 (f.R.getD 0 0)) ((hat (Upd.refl [] w) 2 (by omega)).trans (frC_R0 f 0 (by omega))) ?_
  refine cv ?_
  refine val (toI (f.R.getD 0 0)) rfl ?_
  refine fa ?_
  refine ld (v := .int .i64 f.pc) (hat (Upd.refl [] w) 1 (by omega)) ?_
  unfold arRelease
  by_cases c0 : f.pc = 0
  · rw [if_pos c0]
    refine cY c0 ?_
    refine draw_mix 5 [(0, true), (1, true), (3, true), (4, true), (2, false)] (fun _ => True) (by decide +kernel) trivial ?_
    refine q_fa ?_
    have I1 := I.upd0 (Upd.refl [] w).drew
    refine cl (load_p I1.p.ok hg (by omega) 0) ?_
    rintro _ w2 ⟨rfl, X2, p2, k2, a2, s2⟩
    refine ⟨trivial, ?_⟩
    have I2 := I1.mem p2 k2 s2
    refine ixA 1 rfl (by omega) ?_
    refine I2.st (f' := { f with R := regI f.R 1 (X.abs.ldv 0) }) 3 (by omega) rfl rfl (frC_reg f 1 (by omega) _) fun w3 I3 => ?_
    refine fa ?_
    refine I3.st (f' := ⟨f.fn, 1, regI f.R 1 (X.abs.ldv 0)⟩) 1 (by omega) rfl rfl rfl fun w4 I4 => ?_
    have := I4.ev
    rw [abs_set, abs_set, put_put, a2] at this
    exact this
  rw [if_neg c0]
  refine cN c0 ?_
  by_cases c1 : f.pc = 1
  · rw [if_pos c1]
    refine cY c1 ?_
    refine draw_mix 12 [(0, true), (1, true), (3, true), (5, true), (6, true), (7, true), (8, true), (9, true), (2, false), (4, false), (10, false), (11, true)] (fun w' => Upd [] w w') (by decide +kernel) (Upd.refl [] w).drew ?_
    refine q_fa ?_
    refine q_ixA 1 rfl (by omega) ?_
    refine q_ld (v := .int .u64 (f.R.getD 1 0)) (fun w' hw' => (hat hw' 3 (by omega)).trans (frC_R0 _ 1 (by omega))) ?_
    have I1 := I.upd0 (Upd.refl [] w).drew
    refine cl (plan_mm I1.p.ok) ?_
    rintro _ w2 ⟨rfl, hu2⟩
    have hU2 : Upd [] w w2 := (Upd.refl [] w).drew.trans hu2
    refine ⟨hU2, ?_⟩
    refine cl (link_a2 hg.ok.r _ w2) ?_
    rintro _ w3 ⟨rfl, hu3⟩
    have hU3 := hU2.trans hu3
    refine ⟨hU3, ?_⟩
    refine cl (aptr_c h1 w3) ?_
    rintro _ _ ⟨rfl, rfl⟩
    rename_i w3
    refine ⟨hU3, ?_⟩
    refine rq (.int .u64 (ptrW (f.R.getD 1 0))) (fun _ _ => cv (arU (by omega) ⟨rfl, rfl⟩)) ?_
    have I3 := I.upd0 hU3
    refine cl (store_p I3.p.ok hg (by omega) _ (ptrW (f.R.getD 1 0))) ?_
    rintro _ w4 ⟨X4, p4, k4, a4, s4⟩
    have I4 := I3.mem p4 k4 s4
    refine fa ?_
    refine I4.st (f' := { f with pc := 2 }) 1 (by omega) rfl rfl (frC_pc f 2) fun w5 I5 => ?_
    have := I5.ev
    rw [abs_set, a4] at this
    exact this
  rw [if_neg c1]
  refine cN c1 ?_
  refine fa ?_
  refine I.st (f' := { f with pc := 0 }) 1 (by omega) rfl rfl (frC_pc f 0) fun w2 I2 => ?_
  have hg2 : Good { X with ths := X.ths.set i { t with fs := fs ++ [{ f with pc := 0 }] } } b := hg.of (kin_set X hi rfl) (abs_set X i _) (hg.ok.put _ _)
  refine fa ?_
  refine ixA 1 rfl (by omega) ?_
  refine ld (v := .int .u64 (f.R.getD 1 0)) ((I2.at_ 3 (by omega)).trans (frC_R0 _ 1 (by omega))) ?_
  refine cl (swing_p I2.p.ok hg2 (by omega) h1 (toI (f.R.getD 0 0))) ?_
  rintro _ w4 ⟨rfl, X4, p4, k4, a4, s4⟩
  have I4 := I2.mem p4 k4 s4
  have ec : (({ X with ths := X.ths.set i { t with fs := fs ++ [{ f with pc := 0 }] } } : Mc).abs).casv 0 (f.R.getD 1 0) = X.abs.casv 0 (f.R.getD 1 0) := rfl
  rw [ec]
  rw [abs_set, put_cas] at a4
  cases hcas : X.abs.casv 0 (f.R.getD 1 0) with
  | true =>
    rw [if_pos rfl]
    have hg4 : Good X4 (b + 1) := hg2.of k4 a4 ((hg.ok.cas 0 _ nextW_bd).put _ _)
    have htk := freed_p I4.p.ok hg4 (toI (f.R.getD 0 0))
    rw [show X4.m = X.m from k4.m] at htk
    refine cl htk ?_
    rintro _ w5 ⟨X5, p5, k5, a5, s5⟩
    have I5 := I4.mem p5 k5 s5
    refine cv ?_
    refine val (IntKind.u64.wrap (toI (f.R.getD 0 0))) rfl ?_
    refine bs #[.int .u64 (IntKind.u64.wrap (toI (f.R.getD 0 0)))] (fun _ => by kernel_rfl) fun w6 hb6 hu6 hs6 => ?_
    have I6 := I5.upd0 hu6
    have hne : w5.heap.size ≠ t.g := by have := (I5.p.ok.core I5.i).blk.lt; intro e; rw [e] at this; exact absurd this (Nat.lt_irrefl _)
    refine cl (I6.pop (l := [IntKind.u64.wrap (toI (f.R.getD 0 0))]) (by omega) (fun w' hu => one_rd (hb6.upd hu (by simpa using hne)))) ?_
    rintro _ w7 e
    rw [a5, a4, put_deed, put_put] at e
    exact e
  | false =>
    rw [if_neg (by simp)]
    have := I4.ev
    rw [a4] at this
    exact this
/-- arena.Do, as a function on what the machine holds -/
def arDo (p : PS) (i : Nat) (t : PT) (fs : List Fr) (f : Fr) : PS := if f.fn = 1 then arAlloc p i t fs f else if f.fn = 2 then arRelease p i t fs f else p.put i { t with fs := fs, r := (0, 0, 0) }
set_option maxRecDepth 10000 in
theorem do_p (h : Mach w X) (hg : Good X b) (hb : b ≤ 900000) (hi : X.ths[i]? = some t) (hfs : t.fs = fs ++ [f]) (hl : fs.length ≤ 90000) (hR : ∀ j, u64R (f.R.getD j 0)) :
    Fn Try.prog 43 #[ptrV X.m, ptrV t.g] w fun _ w' => Ev w X w' (arDo X.abs i (absT t) fs f) := by
  obtain ⟨fb, fo, fc, hfv⟩ := h.fr_ hi (by rw [hfs]; simp)
  refine fn_enter Try.func43 rfl rfl ?_
  refine cl (top_mm h hi hfs (by omega) hfv) ?_
  rintro _ _ ⟨rfl, rfl⟩
  have p1 : Post w X w.drew X := .of0 h (Upd.refl [] w).drew
  have I1 : TopI w w.drew X X i t fs f fb fo fc := ⟨p1, .refl X, hi, hfs, hfv⟩
  refine ptr_eq ?_
  refine ptr_eq ?_
  refine fa ?_
  refine ld (v := .int .i64 f.fn) (I1.at_ 0 (by omega)) ?_
  unfold arDo
  by_cases c1 : f.fn = 1
  · rw [if_pos c1]
    refine cY c1 ?_
    refine cl (al_p p1.ok hg hb hi hfs hl hfv hR) ?_
    rintro _ w2 e
    exact Ev.before p1 (.refl X) e
  rw [if_neg c1]
  refine cN c1 ?_
  refine fa ?_
  refine ld (v := .int .i64 f.fn) (I1.at_ 0 (by omega)) ?_
  by_cases c2 : f.fn = 2
  · rw [if_pos c2]
    refine cY c2 ?_
    refine cl (rel_p p1.ok hg hb hi hfs hl hfv hR) ?_
    rintro _ w2 e
    exact Ev.before p1 (.refl X) e
  rw [if_neg c2]
  refine cN c2 ?_
  refine cl (I1.pop (l := []) (by omega) (fun w' _ => RdK.nil_ w' .u64)) ?_
  rintro _ w2 e
  exact e
end
end Go.Proofs.Ytklbeipdigancaa

/- The arena's list: arena.nodes, arena.Chain. -/
namespace Go.Proofs.Ytklbeipdigancaa
open Go.RowKit
attribute [local irreducible] Instr.loadAt Instr.storeAt Instr.fieldAt Instr.indexAt Instr.sliceAt Instr.buildSlice Instr.box Instr.alloc Builtin.append_ Builtin.len_ Builtin.min_ Builtin.max_ Calls Instr.build Instr.makeSlice binSem convert Instr.index Instr.range Instr.next
def chn (c : Cf) (W : List Int) : Nat → Int → List Int
  | 0, _ => []
  | m + 1, n => if c.link n < 0 then [] else n :: chn c W m (toI (W.getD (c.link n).toNat 0))
def chain (c : Cf) (W : List Int) : List Int := chn c W c.N.toNat (ptrW (W.getD 0 0))
theorem chn_len (c : Cf) (W : List Int) (m : Nat) : ∀ n, (chn c W m n).length ≤ m := by
  induction m with
  | zero => intro n; exact Nat.le_refl _
  | succ m ih =>
    intro n
    unfold chn
    split
    · exact Nat.zero_le _
    · exact Nat.succ_le_succ (ih _)
theorem link_bd {c : Cf} (hr : rightC c) (n : Int) : c.link n = -1 ∨ (1 ≤ n ∧ n ≤ c.N ∧ c.link n = linksP c.A c.T c.L + n - 1 ∧ 10 ≤ c.link n ∧ c.link n < sizeP c.A c.T c.N c.L) := by
  obtain ⟨A, T, N, L, B, P, S⟩ := c
  obtain ⟨b1, b2, b3, b4, b5, b6, b7, b8, b9, b10, b11, b12⟩ := plan_bd hr
  unfold Cf.link linkA
  split
  · rename_i h
    right
    have h : 1 ≤ n ∧ n ≤ N := h
    exact ⟨h.1, h.2, rfl, (by omega : 10 ≤ linksP A T L + n - 1), (by omega : linksP A T L + n - 1 < sizeP A T N L)⟩
  · left; rfl
theorem u64_getD {W : List Int} (hu : ∀ x ∈ W, u64R x) (i : Nat) : u64R (W.getD i 0) := by
  rcases Nat.lt_or_ge i W.length with h | h
  · have : W.getD i 0 = W[i] := by simp [List.getD, h]
    rw [this]; exact hu _ (List.getElem_mem _)
  · have : W.getD i 0 = 0 := by simp [List.getD, List.getElem?_eq_none h]
    rw [this]; exact ⟨by decide, by decide⟩
theorem nodes_c {c : Cf} (v : Value) (w : World) : Fn Try.prog 48 #[v, .agg (planC c)] w fun r w' =>
    ∃ b1 b2, r = .func (.func 64) #[] #[.pointer (some ⟨b1, 0, none⟩), .pointer (some ⟨b2, 0, none⟩)] ∧ (∀ a n k, v = .slice a n k → Blk w' b1 39 #[v]) ∧ Blk w' b2 55 (planC c) ∧ Upd [] w w' ∧ w.heap.size ≤ b1 ∧ w.heap.size ≤ b2 := by
  refine fn_enter Try.func48 rfl rfl ?_
  refine bx fun w1 hb1 hu1 hs1 => ?_
  refine bx fun w2 hb2 hu2 hs2 => ?_
  have hz := hu1.size
  exact ⟨_, _, rfl, fun a n k h => by subst h; exact hb1.upd hu2 (by simp), hb2, hu1.trans hu2, Nat.le_refl _, hz⟩
set_option maxRecDepth 10000 in
theorem nodes_iter {b1 b2 : Nat} {v : Value} {c : Cf} {W : List Int} (hr : rightC c) (hW : W.length = (sizeP c.A c.T c.N c.L).toNat) (hu : ∀ x ∈ W, u64R x) : IterC Try.prog (.func (.func 64) #[] #[.pointer (some ⟨b1, 0, none⟩), .pointer (some ⟨b2, 0, none⟩)]) ((chain c W).map one1) (obEv [obBlk b1 39 #[v], obBlk b2 55 (planC c), obU v W]) := by
  obtain ⟨A, T, N, L, B, P, S⟩ := c
  obtain ⟨bd1, bd2, bd3, bd4, bd5, bd6, bd7, bd8, bd9, bd10, bd11, bd12⟩ := plan_bd hr
  simp only at hW
  refine ⟨_, _, rfl, HasBody.h, fun lp G Gx o0 W0 hA hap h0 ho hy => ?_⟩
  have hAk : ∀ {o : Ob} {w' : World}, To W0 o0.foot w' o.foot → Blk w' b1 39 #[v] ∧ Blk w' b2 55 (planC ⟨A, T, N, L, B, P, S⟩) ∧ Sl w' 36 1 v W.length (W.map (.int .u64)) := fun {o w'} ht => by
    have h2 := (obEv [obBlk b1 39 #[v], obBlk b2 55 (planC ⟨A, T, N, L, B, P, S⟩), obU v W]).keep hA ht.up hap
    exact ⟨h2 (obBlk b1 39 #[v]) (by simp), h2 (obBlk b2 55 (planC ⟨A, T, N, L, B, P, S⟩)) (by simp), h2 (obU v W) (by simp)⟩
  have hAu : ∀ {o : Ob} {w' w'' : World}, To W0 o0.foot w' o.foot → Upd [] w' w'' → To W0 o0.foot w'' o.foot := fun h h2 => h.upd0 h2
  obtain ⟨hb0, hp0, hs0⟩ := hAk (To.refl W0 o0.foot)
  have hs0' := hs0
  obtain ⟨vb, vo, vc, rfl, -⟩ := hs0.some_ (by omega)
  have hu0 := u64_getD hu 0
  refine fnr_enter Try.func64 rfl rfl ?_
  refine ldb hb0 rfl ?_
  refine ix 0 rfl (by omega) ?_
  refine ld (v := .int .u64 (W.getD 0 0)) (hs0'.getD_ rfl 0 (by omega)) ?_
  refine cl (aptr_c hu0 W0) ?_
  rintro _ w1 ⟨rfl, rfl⟩
  refine ldw hp0 rfl ?_
  refine cl (conf_c A T N L B P S w1) ?_
  rintro _ w2 ⟨rfl, hu2⟩
  refine fl (v := .int .i64 N) rfl ?_
  have hch : ∃ m, (chain ⟨A, T, N, L, B, P, S⟩ W).drop 0 = chn ⟨A, T, N, L, B, P, S⟩ W m (ptrW (W.getD 0 0)) ∧ (m : Int) = N - (0 : Nat) := ⟨N.toNat, rfl, by omega⟩
  generalize hl : chain ⟨A, T, N, L, B, P, S⟩ W = l at *
  have hll : l.length ≤ N.toNat := by rw [← hl]; exact chn_len _ _ _ _
  refine loop_ruleR [0, 1, 2, 12] [4, 13] (fun vs w' m => ∃ (i : Nat) (n : Int) (o : Ob), vs = [.int .i64 n, .int .i64 (i : Int)] ∧ i ≤ l.length ∧ l.drop i = chn ⟨A, T, N, L, B, P, S⟩ W m n ∧ (m : Int) = N - i ∧ G i o ∧ o.ok w' ∧ To w1 o0.foot w' o.foot) rfl [.int .i64 (ptrW (W.getD 0 0)), .int .i64 0] N.toNat rfl ?_ ?_
  · obtain ⟨m, h1, h2⟩ := hch
    obtain rfl : m = N.toNat := by omega
    exact ⟨0, _, o0, rfl, by omega, h1, by omega, h0, o0.keep ho hu2 (by simp), (To.refl _ _).upd0 hu2⟩
  rintro _ w3 m ⟨i, n, o, rfl, hi, hdr, hm, hG, hok, hto⟩
  refine cd (fun hlt => ?_) (fun hlt => ?_)
  · obtain ⟨m, rfl⟩ : ∃ k, m = k + 1 := ⟨m - 1, by omega⟩
    obtain ⟨hb3, hp3, hs3⟩ := hAk hto
    refine ldw hp3 rfl ?_
    refine cl (link_a2 (c := ⟨A, T, N, L, B, P, S⟩) hr n w3) ?_
    rintro _ w4 ⟨rfl, hu4⟩
    have hto4 := hto.upd0 hu4
    have hok4 := o.keep hok hu4 (by simp)
    have hlb := link_bd (c := ⟨A, T, N, L, B, P, S⟩) hr n
    unfold chn at hdr
    refine cd (fun hneg => ?_) (fun hneg => ?_)
    · rw [if_pos hneg] at hdr
      have : l.length ≤ i := List.drop_eq_nil_iff.1 hdr
      have hi : i = l.length := by omega
      subst hi
      exact ⟨o, hok4, hto4, .inl (by rw [List.length_map]; exact hG)⟩
    · rw [if_neg hneg] at hdr
      have hil : i < l.length := by
        rcases Nat.lt_or_ge i l.length with h | h
        · exact h
        · rw [List.drop_eq_nil_of_le h] at hdr; cases hdr
      have hx : l[i]? = some n := by
        have := congrArg (fun l => l[0]?) hdr
        simpa [List.getElem?_drop] using this
      have hx1 : (l.map one1)[i]? = some (one1 n) := by rw [List.getElem?_map, hx]; rfl
      have hdr' : l.drop (i + 1) = chn ⟨A, T, N, L, B, P, S⟩ W m (toI (W.getD (Cf.link ⟨A, T, N, L, B, P, S⟩ n).toNat 0)) := by
        rw [← List.drop_drop, hdr]; rfl
      refine yl (hy i o w4 (one1 n) hx1 hG hok4 hto4) ?_
      rintro bb w5 ⟨o', hok', hto', ⟨rfl, hG'⟩ | ⟨rfl, hGx⟩⟩
      · have hto5 := hto4.trans hto'
        obtain ⟨hb5, hp5, hs5⟩ := hAk hto5
        have h0 : Cf.link ⟨A, T, N, L, B, P, S⟩ n < sizeP A T N L := by
          rcases hlb with h | h
          · omega
          · exact h.2.2.2.2
        refine ldb hb5 rfl ?_
        refine ix (Cf.link ⟨A, T, N, L, B, P, S⟩ n).toNat (by omega) (by omega) ?_
        refine ld (v := .int .u64 (W.getD (Cf.link ⟨A, T, N, L, B, P, S⟩ n).toNat 0)) (hs5.getD_ rfl _ (by omega)) ?_
        refine cv ?_
        refine val (toI (W.getD (Cf.link ⟨A, T, N, L, B, P, S⟩ n).toNat 0)) rfl ?_
        refine ar64 (by omega) ?_
        exact round_mkR [_, .int .i64 ((i + 1 : Nat) : Int)] m rfl rfl ⟨i + 1, _, o', rfl, by omega, hdr', by omega, hG', hok', hto5⟩ (by omega)
      · exact ⟨o', hok', hto4.trans hto', .inr ⟨i, by rw [List.length_map]; exact hil, hGx⟩⟩
  · obtain rfl : m = 0 := by omega
    unfold chn at hdr
    have : l.length ≤ i := List.drop_eq_nil_iff.1 hdr
    have hi : i = l.length := by omega
    subst hi
    exact ⟨o, hok, hto, .inl (by rw [List.length_map]; exact hG)⟩
theorem size_bd {c : Cf} (hr : rightC c) : 10 ≤ sizeP c.A c.T c.N c.L ∧ sizeP c.A c.T c.N c.L ≤ 924 := by
  obtain ⟨A, T, N, L, B, P, S⟩ := c
  obtain ⟨b1, b2, b3, b4, b5, b6, b7, b8, b9, b10, b11, b12⟩ := plan_bd hr
  exact ⟨(by omega : 10 ≤ sizeP A T N L), b11⟩
theorem N_bd {c : Cf} (hr : rightC c) : 1 ≤ c.N ∧ c.N ≤ 64 := by
  obtain ⟨A, T, N, L, B, P, S⟩ := c
  exact (plan_bd hr).2.2.2.2.1
theorem chain_0 (w : World) : Fn Try.prog 28 #[.pointer none] w fun r w' => r = .slice none 0 0 ∧ Upd [] w w' := by
  refine fnr_enter Try.func28 rfl rfl ?_
  refine ptr_eq0 ?_
  exact ⟨rfl, Upd.refl _ _⟩
set_option maxRecDepth 10000 in
theorem chain_c {w : World} {X : Mc} (h : Mach w X) (hr : rightC X.c) (hW : X.s.W.length = (sizeP X.c.A X.c.T X.c.N X.c.L).toNat) (hu : ∀ x ∈ X.s.W, u64R x) :
    Fn Try.prog 28 #[ptrV X.m] w fun r w' => Sl w' 3 1 r (chain X.c X.s.W).length ((chain X.c X.s.W).map (.int .i64)) ∧ Upd [] w w' := by
  have hsz := size_bd hr
  have hN := N_bd hr
  have hcl : (chain X.c X.s.W).length ≤ 64 := by have := chn_len X.c X.s.W X.c.N.toNat (ptrW (X.s.W.getD 0 0)); unfold chain; omega
  refine fnr_enter Try.func28 rfl rfl ?_
  refine ptr_eq ?_
  refine al #[.slice none 0 0] (fun _ => by kernel_rfl) fun w1 hb1 hu1 hs1 => ?_
  have hb1 : Blk w1 w.heap.size TIs #[.slice none 0 0] := hb1
  have h1 := h.upd0 hu1
  refine cl (mem_mm h1) ?_
  rintro _ w1 ⟨rfl, rfl⟩
  refine cl (words_c h1.mem (by omega)) ?_
  rintro wv w2 ⟨hs2, hu2, hn2⟩
  have h2 := h1.upd0 hu2
  refine cl (plan_mm h2) ?_
  rintro _ w3 ⟨rfl, hu3⟩
  refine cl (nodes_c (c := X.c) wv w3) ?_
  rintro _ w4 ⟨b1, b2, rfl, hq1, hq2, hu4, hz1, hz2⟩
  obtain ⟨wa, wc, hwv, -⟩ := hs2.form
  have hq1 := hq1 _ _ _ hwv
  have hs4 := (hs2.upd hu3 (by simp)).upd hu4 (by simp)
  have hz12 : w1.heap.size ≤ w2.heap.size := hu2.size
  have hz23 : w2.heap.size ≤ w3.heap.size := hu3.size
  have hd2 : w1.heap.size = w.heap.size + 1 := hs1
  have hU4 : Upd [] w w4 := ((hu1.trans hu2).trans hu3).trans hu4
  have hbl4 := ((hb1.upd hu2 (by simp)).upd hu3 (by simp)).upd hu4 (by simp)
  have hon := nodes_iter (b1 := b1) (b2 := b2) (v := wv) (c := X.c) (W := X.s.W) hr hW hu
  generalize hl : chain X.c X.s.W = l at *
  refine ⟨rfl, range_rule hon (w := w4) ?_ (fun i o => ∃ v', o = obAll [obBlk w.heap.size TIs #[v'], obIn v' (l.take i)]) (fun _ _ _ => False) (obAll [obBlk w.heap.size TIs #[.slice none 0 0], obIn (.slice none 0 0) []]) ⟨.slice none 0 0, rfl⟩ ?_ ?_ (fun va hva => by
      obtain ⟨x, -, rfl⟩ := List.mem_map.1 hva; rfl) (by decide) (fun i va o w5 w6 hva hG ht5 ho5 ht6 ho6 => ?_) (fun r o w5 hG ho5 ht5 hd hr hro => ?_) (fun r c i o w5 hi hGx _ _ _ _ _ => hGx.elim)⟩
  · intro x hx
    simp only [List.mem_cons, List.not_mem_nil, or_false] at hx
    rcases hx with rfl | rfl | rfl
    · exact hq1
    · exact hq2
    · exact hs4
  · exact Sep.cons (Sep.cons (Sep.nil w4) (Sl.nil_ _ _ _) (by simp [feet])) hbl4 (by simp [feet, obSl, Value.ownBlock])
  · intro k hk hm
    have e : k = w.heap.size := by simpa [obAll, feet, obBlk, obSl, Value.ownBlock] using hm
    subst e
    simp only [obEv, feet, obBlk, obSl, List.flatMap_cons, List.flatMap_nil, List.append_nil, List.mem_append, List.mem_singleton] at hk
    rcases hk with h | h | h
    · omega
    · omega
    · have := hn2 _ (by simpa using h); omega
  · obtain ⟨v', rfl⟩ := hG
    have hil : i < l.length := by
      rcases Nat.lt_or_ge i l.length with h | h
      · exact h
      · rw [List.getElem?_eq_none (by simpa using h)] at hva; cases hva
    have hx : va = one1 (l.getD i 0) := by
      rw [List.getElem?_map, List.getElem?_eq_getElem hil] at hva
      have := Option.some.inj hva
      rw [← this]; simp [List.getD, hil]
    subst hx
    have ho6' : Sep w6 [obBlk w.heap.size TIs #[v'], obIn v' (l.take i)] := ho6
    have hblk : Blk w6 w.heap.size TIs #[v'] := ho6'.ok (obBlk w.heap.size TIs #[v']) (by simp)
    have hsl : Sl w6 3 1 v' (l.take i).length ((l.take i).map (.int .i64)) := ho6'.ok (obIn v' (l.take i)) (by simp)
    have hln : (l.take i).length = i := by rw [List.length_take]; omega
    refine ⟨rfl, rfl, rfl, ?_⟩
    refine ldb hblk rfl ?_
    refine bs (one1 (l.getD i 0)) (fun _ => by kernel_rfl) fun w7 hb7 hu7 hs7 => ?_
    refine apg (hsl.upd hu7 (by simp)) hb7 rfl rfl (by decide) (by simp only [maxLen]; omega) (by omega) fun v2 w8 hs8 hG8 => ?_
    have hnb := hsl.blk_ne hblk (by decide)
    have hb8 := (hblk.upd hu7 (by simp)).upd hG8.up (by simpa using hnb)
    obtain ⟨v2a, v2c, rfl, -⟩ := hs8.form
    refine st hb8 (by show 0 < 1; omega) rfl fun w9 hb9 hu9 hs9 => ?_
    obtain ⟨r1, r2⟩ := BoxL.add ho6 hil hu7 hG8 hs8 hb9 hu9
    exact ⟨_, r1, r2, _, rfl⟩
  · obtain ⟨v', rfl⟩ := hG
    have hfull : l.take (l.map one1).length = l := by rw [List.length_map, List.take_length]
    rw [hfull] at ho5 hro ht5
    have ho5' : Sep w5 [obBlk w.heap.size TIs #[v'], obIn v' l] := ho5
    have hblk : Blk w5 w.heap.size TIs #[v'] := ho5'.ok (obBlk w.heap.size TIs #[v']) (by simp)
    have hsl : Sl w5 3 1 v' l.length (l.map (.int .i64)) := ho5'.ok (obIn v' l) (by simp)
    have hfoot0 : (obAll [obBlk w.heap.size TIs #[.slice none 0 0], obIn (.slice none 0 0) []]).foot = [w.heap.size] := by simp [obAll, feet, obBlk, obSl, Value.ownBlock]
    rw [hfoot0] at ht5
    have hU5 : Upd [] w w5 := hU4.step ht5.up (by simp)
    obtain ⟨va', vc', rfl, -⟩ := hsl.form
    refine ldb hblk rfl ?_
    refine ⟨hd, fun w7 hu7 hz7 => ?_⟩
    refine ⟨?_, hU5.step hu7 (by have := hU4.size; simp; omega)⟩
    refine hsl.upd hu7 (fun g hg hm => ?_)
    have e : g = r := List.mem_singleton.1 hm
    subst e
    exact hro (mem_feet.2 ⟨obIn (.slice va' l.length vc') l, by simp, by simp [obSl, hg]⟩)
end Go.Proofs.Ytklbeipdigancaa

/- A step of arena.Do, and all steps of one routine. -/
namespace Go.Proofs.Ytklbeipdigancaa
open Go.RowKit
attribute [local irreducible] Instr.loadAt Instr.storeAt Instr.fieldAt Instr.indexAt Instr.sliceAt Instr.buildSlice Instr.box Instr.alloc Builtin.append_ Builtin.len_ Builtin.min_ Builtin.max_ Calls Instr.build Instr.makeSlice binSem convert Instr.index Instr.range Instr.next
section
variable {w w' : World} {X : Mc} {i : Nat} {t : Th} {b : Int}
def calm0 (p : PS) : PS := { p with acted := false }
theorem PS.Ok.calm {p : PS} {b : Int} (h : p.Ok b) : (calm0 p).Ok b := ⟨h.r, h.t, h.k0, h.k1, h.w, h.l⟩
def topL (p : PS) (i : Nat) : Nat := match p.ths[i]? with | some t => t.fs.length | none => 0
theorem put_th {p : PS} {i : Nat} {t0 t : PT} (h : p.ths[i]? = some t0) : (p.put i t).ths[i]? = some t := by
  show (p.ths.set i t)[i]? = _
  rw [List.getElem?_set, if_pos rfl, if_pos (List.getElem?_eq_some_iff.1 h).1]
theorem arDo_th {p : PS} {i : Nat} {t0 : PT} (h : p.ths[i]? = some t0) (fs : List Fr) (f : Fr) : ∃ t', (arDo p i t0 fs f).ths[i]? = some t' ∧ (t'.fs = fs ∨ ∃ f', t'.fs = fs ++ [f']) := by
  unfold arDo
  split
  · unfold arAlloc
    split
    · split
      · exact ⟨_, put_th h, .inl rfl⟩
      · exact ⟨_, put_th h, .inr ⟨_, rfl⟩⟩
    · split
      · exact ⟨_, put_th h, .inr ⟨_, rfl⟩⟩
      · split
        · exact ⟨_, put_th h, .inl rfl⟩
        · exact ⟨_, put_th h, .inr ⟨_, rfl⟩⟩
  · split
    · unfold arRelease
      split
      · exact ⟨_, put_th h, .inr ⟨_, rfl⟩⟩
      · split
        · exact ⟨_, put_th h, .inr ⟨_, rfl⟩⟩
        · split
          · exact ⟨_, put_th h, .inl rfl⟩
          · exact ⟨_, put_th h, .inr ⟨_, rfl⟩⟩
    · exact ⟨_, put_th h, .inl rfl⟩
theorem arDo_acted (p : PS) (i : Nat) (t : PT) (fs : List Fr) {f : Fr} (hf : f.fn = 1 ∨ f.fn = 2) : (arDo p i t fs f).acted = true := by
  unfold arDo
  rcases hf with h | h
  · rw [if_pos h]
    unfold arAlloc
    split
    · split <;> rfl
    · split
      · rfl
      · split <;> rfl
  · rw [if_neg (by omega), if_pos h]
    unfold arRelease
    split
    · rfl
    · split
      · rfl
      · split <;> rfl
theorem abs_calm (X : Mc) : ({ X with acted := false } : Mc).abs = calm0 X.abs := rfl
theorem abs_at {X : Mc} {p : PS} (h : X.abs = p) {i : Nat} {t : Th} (hi : X.ths[i]? = some t) : p.ths[i]? = some (absT t) := by rw [← h]; exact abs_th X hi
set_option maxRecDepth 10000 in
theorem step_ar (h : Mach w X) (hg : Good X b) (hb : b ≤ 900000) {fs : List Fr} {f : Fr} (hi : X.ths[i]? = some t) (hfs : t.fs = fs ++ [f]) (hl : fs.length ≤ 90000) (hX : X.ths.length ≤ 100) (hR : ∀ j, u64R (f.R.getD j 0)) (hf : (f.fn = 1 ∨ f.fn = 2) ∨ fs = []) :
    Fn Try.prog 14 #[ptrV X.m, .int .i64 (i : Int), .func (.func 43) #[] #[]] w fun r w' => r = .bool (decide (0 < topL (arDo (calm0 X.abs) i (absT t) fs f) i)) ∧ Ev w X w' (arDo (calm0 X.abs) i (absT t) fs f) := by
  have hth : (calm0 X.abs).ths[i]? = some (absT t) := abs_th X hi
  obtain ⟨t', ht', hfs'⟩ := arDo_th hth fs f
  generalize hq : arDo (calm0 X.abs) i (absT t) fs f = q at *
  refine (step_mm (f := 43) (ys := #[]) (fun Y w' n => (n = 1 ∧ Post w X w' Y ∧ Kin X Y ∧ Y.abs = calm0 X.abs ∧ Y.ths = X.ths ∧ Y.acted = false) ∨ (n = 0 ∧ Post w X w' Y ∧ Kin X Y ∧ Y.abs = q)) 1 h hi rfl hX (fun w' p => .inl ⟨rfl, p, ⟨rfl, rfl, rfl, rfl, id⟩, rfl, rfl, rfl⟩) ?_ ?_).mono ?_
  · rintro Y w' n (⟨rfl, p, k, ha, hths, hac⟩ | ⟨rfl, p, k, ha⟩)
    · exact ⟨p.ok, k.m, t, by rw [hths]; exact hi, rfl, by rw [hfs]; simp; omega⟩
    · obtain ⟨t2, h2, hg2⟩ := k.g hi
      refine ⟨p.ok, k.m, t2, h2, hg2, ?_⟩
      have := abs_at ha h2
      rw [ht'] at this
      have e : t'.fs = t2.fs := by rw [Option.some.inj this]; rfl
      rw [← e]
      rcases hfs' with e | ⟨f', e⟩
      · rw [e]; omega
      · rw [e]; simp; omega
  · rintro Y w' n t2 (⟨rfl, p, k, ha, hths, hac⟩ | ⟨rfl, p, k, ha⟩) h2 hac2 hne
    · rw [hths, hi] at h2
      obtain rfl := Option.some.inj h2
      have hgY : Good Y b := hg.of k ha hg.ok.calm
      have := do_p (t := t) p.ok hgY hb (by rw [hths]; exact hi) hfs hl hR
      rw [show (#[] ++ [ptrV X.m, ptrV t.g].toArray ++ #[] : Array Value) = #[ptrV Y.m, ptrV t.g] by rw [k.m]; simp]
      refine this.mono ?_
      rintro e w2 ⟨u, he, X2, p2, k2, a2⟩
      rw [ha, hq] at a2
      exact ⟨u, he, X2, 0, .inr ⟨rfl, p.trans p2, k.trans k2, a2⟩, by omega⟩
    · exfalso
      have h3 := abs_at ha h2
      rw [ht'] at h3
      have e : t'.fs = t2.fs := by rw [Option.some.inj h3]; rfl
      by_cases h12 : f.fn = 1 ∨ f.fn = 2
      · have := arDo_acted (calm0 X.abs) i (absT t) fs h12
        rw [hq, ← ha] at this
        rw [show Y.abs.acted = Y.acted from rfl, hac2] at this
        cases this
      · have e2 : q.ths[i]? = some { absT t with fs := fs, r := (0, 0, 0) } := by
          rw [← hq]; unfold arDo
          rw [if_neg (fun h => h12 (.inl h)), if_neg (fun h => h12 (.inr h))]
          exact put_th hth
        rw [e2] at ht'
        have e3 : fs = t'.fs := congrArg PT.fs (Option.some.inj ht')
        have e4 : fs = [] := by
          rcases hf with h | h
          · exact absurd h h12
          · exact h
        exact hne (by rw [← e, ← e3, e4])
  · rintro e w' ⟨r, he, Y, n, t2, (⟨rfl, p, k, ha, hths, hac⟩ | ⟨rfl, p, k, ha⟩), h2, hor, rfl⟩
    · exfalso
      rw [hths, hi] at h2
      obtain rfl := Option.some.inj h2
      rcases hor with h3 | h3
      · rw [hac] at h3; cases h3
      · rw [hfs] at h3; simp at h3
    · refine ⟨_, he, ?_, Y, p, k, ha⟩
      have h3 := abs_at ha h2
      have : topL q i = t2.fs.length := by unfold topL; rw [h3]; rfl
      rw [this]
      exact congrArg Value.bool (by simp)
/-- the steps of one routine, done by thread 0 -/
def Runs : Nat → PS → PS → Prop
  | 0, p, q => p = q ∧ topL q 0 = 0
  | n + 1, p, q => ∃ t f, p.ths[0]? = some t ∧ t.fs = [f] ∧ (∀ j, u64R (f.R.getD j 0)) ∧ (f.fn = 1 ∨ f.fn = 2) ∧ p.Ok 900000 ∧ Runs n (arDo (calm0 p) 0 t [] f) q
def ret0 (p : PS) : Int := match p.ths[0]? with | some t => t.r.1 | none => 0
def pushed (p : PS) (fn x : Int) : PS := match p.ths[0]? with | some t => p.put 0 { t with fs := t.fs ++ [⟨fn, 0, [x]⟩] } | none => p
theorem Runs.top : ∀ {n : Nat} {p q : PS}, Runs n p q → topL p 0 = if n = 0 then 0 else 1
  | 0, _, _, h => by rw [h.1]; exact h.2
  | n + 1, p, q, ⟨t, f, h1, h2, _⟩ => by unfold topL; rw [h1]; simp [h2]
theorem absT_r (t : Th) : (absT t).r = t.r := rfl
end
end Go.Proofs.Ytklbeipdigancaa

