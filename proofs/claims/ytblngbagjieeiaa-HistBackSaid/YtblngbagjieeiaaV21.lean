/- Things of the call's own that lie apart. -/
import Derived.Test.YtblngbagjieeiaaFa
namespace Go.Proofs.Ytblngbagjieeiaa
open Go.RowKit
attribute [local irreducible] Instr.loadAt Instr.storeAt Instr.fieldAt Instr.indexAt Instr.sliceAt Instr.buildSlice Instr.box Instr.alloc Builtin.append_ Builtin.len_ Builtin.min_ Builtin.max_ Calls Instr.build Instr.makeSlice binSem convert Instr.index Instr.range Instr.next
theorem Sep.sub {w : World} {l l' : List Ob} (h : Sep w l) (hs : l'.Sublist l) : Sep w l' := ⟨fun x hx => h.ok x (hs.subset hx), h.apart.sublist hs⟩
/-- all of them are new since w -/
structure Held (w w' : World) (L : List Ob) : Prop where
  s : Sep w' L
  up : Upd [] w w'
  fr : ∀ k ∈ feet L, w.heap.size ≤ k
section
variable {w w' w'' : World} {L : List Ob}
theorem Held.upd0 (h : Held w w' L) (hu : Upd [] w' w'') : Held w w'' L := ⟨h.s.upd0 hu, h.up.trans hu, h.fr⟩
theorem Held.set {i : Nat} {x y : Ob} (h : Held w w' L) (hi : L[i]? = some x) (hy : y.ok w'') (ht : To w' x.foot w'' y.foot) : Held w w'' (L.set i y) := by
  have t := To.set hi ht
  obtain ⟨h1, h2⟩ := t.new h.up h.fr
  exact ⟨h.s.set hi hy ht, h1, h2⟩
theorem Held.add {y : Ob} (h : Held w w' L) (hu : Upd [] w' w'') (hy : y.ok w'') (hn : ∀ k ∈ y.foot, w'.heap.size ≤ k) : Held w w'' (L ++ [y]) :=
  ⟨h.s.add hu hy hn, h.up.trans hu, fun k hk => by
    rw [feet_app] at hk
    rcases List.mem_append.1 hk with h1 | h1
    · exact h.fr k h1
    · have := hn k (by simpa [feet] using h1)
      have := h.up.size
      omega⟩
theorem Held.sub {L' : List Ob} (h : Held w w' L) (hs : L'.Sublist L) : Held w w' L' := ⟨h.s.sub hs, h.up, fun k hk => by
  obtain ⟨x, hx, hk⟩ := mem_feet.1 hk
  exact h.fr k (mem_feet.2 ⟨x, hs.subset hx, hk⟩)⟩
theorem Held.at_ {i : Nat} {x : Ob} (h : Held w w' L) (hi : L[i]? = some x) : x.ok w' := h.s.at_ hi
theorem Held.nil (hu : Upd [] w w') : Held w w' [] := ⟨Sep.nil w', hu, by simp [feet]⟩
end
end Go.Proofs.Ytblngbagjieeiaa
