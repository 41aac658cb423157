/- Things in memory that lie apart. -/
import Derived.Test.YtblngbagjieeiaaV17
namespace Go.Proofs.Ytblngbagjieeiaa
open Go.RowKit
attribute [local irreducible] Instr.loadAt Instr.storeAt Instr.fieldAt Instr.indexAt Instr.sliceAt Instr.buildSlice Instr.box Instr.alloc Builtin.append_ Builtin.len_ Builtin.min_ Builtin.max_ Calls Instr.build Instr.makeSlice binSem convert Instr.index Instr.range Instr.next
/-- a thing in memory: where it lies, what is so of it -/
structure Ob where
  foot : List Nat
  ok : World → Prop
  keep : ∀ {S : List Nat} {w w' : World}, ok w → Upd S w w' → (∀ k ∈ foot, k ∉ S) → ok w'
  lt : ∀ {w : World}, ok w → ∀ k ∈ foot, k < w.heap.size
def feet (l : List Ob) : List Nat := l.flatMap (·.foot)
structure Sep (w : World) (l : List Ob) : Prop where
  ok : ∀ x ∈ l, x.ok w
  apart : l.Pairwise fun x y => ∀ k ∈ x.foot, k ∉ y.foot
/-- from a world to one behind it: only what lay in F may have changed; what lies in F' lay in F, or is new -/
structure To (w : World) (F : List Nat) (w' : World) (F' : List Nat) : Prop where
  up : Upd F w w'
  sub : ∀ k ∈ F', k ∈ F ∨ w.heap.size ≤ k
theorem To.refl (w : World) (F : List Nat) : To w F w F := ⟨Upd.refl _ _, fun _ h => .inl h⟩
theorem To.trans {w w1 w2 : World} {F F1 F2 : List Nat} (h : To w F w1 F1) (k : To w1 F1 w2 F2) : To w F w2 F2 :=
  ⟨h.up.step k.up h.sub, fun q hq => by
    have := h.up.size
    rcases k.sub q hq with h1 | h1
    · exact h.sub q h1
    · right; omega⟩
theorem To.of0 {w w' : World} (F : List Nat) (hu : Upd [] w w') : To w F w' F := ⟨hu.mono (by simp), fun _ h => .inl h⟩
theorem To.upd0 {w w1 w2 : World} {F F1 : List Nat} (h : To w F w1 F1) (hu : Upd [] w1 w2) : To w F w2 F1 := h.trans (.of0 _ hu)
theorem To.more {w w' : World} {F F' : List Nat} (h : To w F w' F') (G : List Nat) : To w (F ++ G) w' (F' ++ G) := ⟨h.up.mono (by simp; exact fun _ h => .inl h), fun k hk => by
  rcases List.mem_append.1 hk with h1 | h1
  · rcases h.sub k h1 with h2 | h2
    · exact .inl (List.mem_append.2 (.inl h2))
    · exact .inr h2
  · exact .inl (List.mem_append.2 (.inr h1))⟩
/-- all of F is new since w0 -/
theorem To.new {w0 w w' : World} {F F' : List Nat} (h : To w F w' F') (hu : Upd [] w0 w) (hF : ∀ k ∈ F, w0.heap.size ≤ k) : Upd [] w0 w' ∧ ∀ k ∈ F', w0.heap.size ≤ k :=
  ⟨hu.step h.up (fun x hx => .inr (hF x hx)), fun k hk => by
    have := hu.size
    rcases h.sub k hk with h1 | h1
    · exact hF k h1
    · omega⟩
theorem mem_feet {l : List Ob} {k : Nat} : k ∈ feet l ↔ ∃ x ∈ l, k ∈ x.foot := by simp [feet]
theorem feet_app (a b : List Ob) : feet (a ++ b) = feet a ++ feet b := by simp [feet]
theorem Sep.lt {w : World} {l : List Ob} (h : Sep w l) : ∀ k ∈ feet l, k < w.heap.size := fun k hk => by
  obtain ⟨x, hx, hk⟩ := mem_feet.1 hk
  exact x.lt (h.ok x hx) k hk
theorem Sep.upd {S : List Nat} {w w' : World} {l : List Ob} (h : Sep w l) (hu : Upd S w w') (hS : ∀ k ∈ feet l, k ∉ S) : Sep w' l :=
  ⟨fun x hx => x.keep (h.ok x hx) hu fun k hk => hS k (mem_feet.2 ⟨x, hx, hk⟩), h.apart⟩
theorem Sep.upd0 {w w' : World} {l : List Ob} (h : Sep w l) (hu : Upd [] w w') : Sep w' l := h.upd hu (by simp)
def obAll (l : List Ob) : Ob := ⟨feet l, fun w => Sep w l, fun h hu hS => h.upd hu hS, fun h => h.lt⟩
theorem Sep.nil (w : World) : Sep w [] := ⟨by simp, .nil⟩
theorem pw_at {α : Type} {R : α → α → Prop} {l : List α} (h : l.Pairwise R) {i j : Nat} {x y : α} (hi : l[i]? = some x) (hj : l[j]? = some y) (hlt : i < j) : R x y := by
  obtain ⟨hi1, rfl⟩ := List.getElem?_eq_some_iff.1 hi
  obtain ⟨hj1, rfl⟩ := List.getElem?_eq_some_iff.1 hj
  exact List.pairwise_iff_getElem.1 h i j hi1 hj1 hlt
theorem Sep.apart_ {w : World} {l : List Ob} (h : Sep w l) {i j : Nat} {x y : Ob} (hi : l[i]? = some x) (hj : l[j]? = some y) (hne : i ≠ j) : ∀ k ∈ x.foot, k ∉ y.foot := by
  rcases Nat.lt_or_gt_of_ne hne with h1 | h1
  · exact pw_at h.apart hi hj h1
  · exact fun k hk hk2 => pw_at h.apart hj hi h1 k hk2 hk
theorem Sep.at_ {w : World} {l : List Ob} (h : Sep w l) {i : Nat} {x : Ob} (hi : l[i]? = some x) : x.ok w := h.ok x (List.mem_of_getElem? hi)
/-- one of them becomes another -/
theorem Sep.set {w w' : World} {l : List Ob} {i : Nat} {x y : Ob} (h : Sep w l) (hi : l[i]? = some x) (hy : y.ok w') (ht : To w x.foot w' y.foot) : Sep w' (l.set i y) := by
  have hlt := h.lt
  have hil : i < l.length := (List.getElem?_eq_some_iff.1 hi).1
  have other : ∀ j z, j ≠ i → l[j]? = some z → z.ok w' ∧ (∀ k ∈ y.foot, k ∉ z.foot) := fun j z hj hz => by
    have hap := h.apart_ hi hz (Ne.symm hj)
    refine ⟨z.keep (h.at_ hz) ht.up (fun k hk hk2 => hap k hk2 hk), fun k hk hk2 => ?_⟩
    rcases ht.sub k hk with h1 | h1
    · exact hap k h1 hk2
    · have := z.lt (h.at_ hz) k hk2; omega
  refine ⟨fun z hz => ?_, List.pairwise_iff_getElem.2 fun a b ha hb hab => ?_⟩
  · obtain ⟨j, hj, rfl⟩ := List.getElem_of_mem hz
    rw [List.getElem_set]
    split
    · exact hy
    · rename_i hne
      have hj' : j < l.length := by simpa using hj
      exact (other j _ (Ne.symm hne) (List.getElem?_eq_getElem hj')).1
  · have ha' : a < l.length := by simpa using ha
    have hb' : b < l.length := by simpa using hb
    rw [List.getElem_set, List.getElem_set]
    by_cases h1 : i = a
    · subst h1
      rw [if_pos rfl, if_neg (by omega)]
      exact (other b _ (by omega) (List.getElem?_eq_getElem hb')).2
    · rw [if_neg h1]
      by_cases h2 : i = b
      · subst h2
        rw [if_pos rfl]
        exact fun k hk hk2 => (other a _ (by omega) (List.getElem?_eq_getElem ha')).2 k hk2 hk
      · rw [if_neg h2]
        exact List.pairwise_iff_getElem.1 h.apart a b ha' hb' hab
theorem To.set {w w' : World} {l : List Ob} {i : Nat} {x y : Ob} (hi : l[i]? = some x) (ht : To w x.foot w' y.foot) : To w (feet l) w' (feet (l.set i y)) := by
  refine ⟨ht.up.mono fun k hk => mem_feet.2 ⟨x, List.mem_of_getElem? hi, hk⟩, fun k hk0 => ?_⟩
  obtain ⟨z, hz, hk⟩ := mem_feet.1 hk0
  rcases List.mem_or_eq_of_mem_set hz with h1 | h1
  · exact .inl (mem_feet.2 ⟨z, h1, hk⟩)
  · subst h1
    rcases ht.sub k hk with h2 | h2
    · exact .inl (mem_feet.2 ⟨x, List.mem_of_getElem? hi, h2⟩)
    · exact .inr h2
theorem Sep.add {w w' : World} {l : List Ob} {y : Ob} (h : Sep w l) (hu : Upd [] w w') (hy : y.ok w') (hn : ∀ k ∈ y.foot, w.heap.size ≤ k) : Sep w' (l ++ [y]) := by
  refine ⟨fun x hx => ?_, List.pairwise_append.2 ⟨h.apart, List.pairwise_singleton _ _, fun x hx z hz k hk hk2 => ?_⟩⟩
  · rcases List.mem_append.1 hx with h1 | h1
    · exact (h.upd0 hu).ok x h1
    · rw [List.mem_singleton.1 h1]; exact hy
  · rw [List.mem_singleton.1 hz] at hk2
    have := hn k hk2
    have := x.lt (h.ok x hx) k hk
    omega
theorem Sep.cons {w : World} {l : List Ob} {y : Ob} (h : Sep w l) (hy : y.ok w) (hn : ∀ k ∈ y.foot, k ∉ feet l) : Sep w (y :: l) :=
  ⟨fun x hx => by
    rcases List.mem_cons.1 hx with h1 | h1
    · rw [h1]; exact hy
    · exact h.ok x h1, List.pairwise_cons.2 ⟨fun x hx k hk hk2 => hn k hk (mem_feet.2 ⟨x, hx, hk2⟩), h.apart⟩⟩
def obBlk (g T : Nat) (cs : Array Value) : Ob := ⟨[g], fun w => Blk w g T cs, fun h hu hS => h.upd hu (hS g (by simp)), fun h k hk => by
  rw [List.mem_singleton.1 hk]; exact h.lt⟩
def obSl (e n : Nat) (v : Value) (m : Nat) (xs : List Value) : Ob := ⟨v.ownBlock.toList, fun w => Sl w e n v m xs, fun h hu hS => h.upd hu (fun g hg => hS g (by simp [hg])), fun h k hk => h.lt k (by simpa using hk)⟩
end Go.Proofs.Ytblngbagjieeiaa
