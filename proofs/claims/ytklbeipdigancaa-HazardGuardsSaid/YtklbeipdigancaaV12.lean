/- Slices of whole numbers that are only read, own ones or the caller's. -/
import Derived.Test.YtklbeipdigancaaV11
import Derived.Test.YtklbeipdigancaaArgs
namespace Go.Proofs.Ytklbeipdigancaa
open Go.RowKit
structure RdK (w : World) (k : IntKind) (v : Value) (l : List Int) : Prop where
  h : ∃ a cap, v = .slice a l.length cap ∧ l.length ≤ cap ∧ cap ≤ maxLen ∧ (0 < l.length → ∃ b o, a = some ⟨b, o, none⟩ ∧ b < w.heap.size ∧ ∀ i, i < l.length → w.cell? ⟨b, o + i, none⟩ = some (.int k (l.getD i 0)))
theorem RdK.of_ints {w : World} {B : Nat} {k : IntKind} {v : Value} {l : List Int} (h : SlInts w B k v l) (hB : B ≤ w.heap.size) : RdK w k v l := by
  obtain ⟨a, cap, rfl, h1, h2, h3, h4, h5⟩ := h
  exact ⟨a, cap, rfl, h1, h2, fun hp => let ⟨b, o, hab, hb, hc⟩ := h5 hp; ⟨b, o, hab, by omega, hc⟩⟩
theorem RdK.of_sl {w : World} {e : TypeId} {k : IntKind} {v : Value} {n : Nat} {l : List Int} (h : Sl w e 1 v n (l.map (.int k))) : RdK w k v l := by
  have hn : l.length = n := by have := h.1; simpa using this
  subst hn
  rcases h.2 with ⟨rfl, h0⟩ | ⟨g, off, cap, cur, rfl, hb, hc, hmm, hs, ht⟩
  · exact ⟨none, 0, by rw [h0], by omega, by decide, fun hp => by omega⟩
  · refine ⟨_, cap, rfl, hc, hmm, fun hp => ⟨g, off, rfl, hb.lt, fun i hi => ?_⟩⟩
    rw [(h.cells rfl i (by omega)).1]
    simp [List.getD, hi]
theorem RdK.upd {S : List Nat} {w w' : World} {k : IntKind} {v : Value} {l : List Int} (h : RdK w k v l) (hu : Upd S w w') (hn : ∀ g, v.ownBlock = some g → g ∉ S) : RdK w' k v l := by
  obtain ⟨a, cap, rfl, h1, h2, h5⟩ := h.h
  refine ⟨a, cap, rfl, h1, h2, fun hp => ?_⟩
  obtain ⟨b, o, rfl, hb, hc⟩ := h5 hp
  exact ⟨b, o, rfl, Nat.lt_of_lt_of_le hb hu.size, fun i hi => by rw [hu.cell hb (hn b rfl)]; exact hc i hi⟩
theorem RdK.upd0 {w w' : World} {k : IntKind} {v : Value} {l : List Int} (h : RdK w k v l) (hu : Upd [] w w') : RdK w' k v l := h.upd hu (by simp)
theorem RdK.form {w : World} {k : IntKind} {v : Value} {l : List Int} (h : RdK w k v l) : ∃ a cap, v = .slice a l.length cap ∧ l.length ≤ cap ∧ cap ≤ maxLen := by
  obtain ⟨a, cap, rfl, h1, h2, -⟩ := h.h
  exact ⟨a, cap, rfl, h1, h2⟩
theorem RdK.some_ {w : World} {k : IntKind} {v : Value} {l : List Int} (h : RdK w k v l) (hp : 0 < l.length) : ∃ b o cap, v = .slice (some ⟨b, o, none⟩) l.length cap ∧ l.length ≤ cap := by
  obtain ⟨a, cap, rfl, h1, h2, h5⟩ := h.h
  obtain ⟨b, o, rfl, -⟩ := h5 hp
  exact ⟨b, o, cap, rfl, h1⟩
theorem RdK.at_ {w : World} {k : IntKind} {v : Value} {l : List Int} (h : RdK w k v l) {b o n c : Nat} (hv : v = .slice (some ⟨b, o, none⟩) n c) (i : Nat) (hi : i < l.length) : w.cell? ⟨b, o + i * 1, none⟩ = some (.int k (l.getD i 0)) := by
  obtain ⟨a, cap, rfl, h1, h2, h5⟩ := h.h
  obtain ⟨b', o', rfl, -, hc⟩ := h5 (by omega)
  injection hv with hv
  injection hv with hv
  injection hv with h6 h7
  subst h6; subst h7
  rw [Nat.mul_one]; exact hc i hi
theorem RdK.rd {w : World} {k : IntKind} {v : Value} {l : List Int} (h : RdK w k v l) : RdL w 1 v l.length (l.map (.int k)) := by
  obtain ⟨a, cap, rfl, h1, h2, h5⟩ := h.h
  refine ⟨a, cap, rfl, by simp, fun hp => ?_⟩
  obtain ⟨b, o, rfl, -, hc⟩ := h5 hp
  refine ⟨b, o, rfl, fun j x hx => ?_⟩
  have hj : j < l.length := by
    rcases Nat.lt_or_ge j l.length with h | h
    · exact h
    · rw [List.getElem?_eq_none (by simpa using h)] at hx; cases hx
  rw [hc j hj]
  simp [hj] at hx
  rw [← hx]; simp [List.getD, hj]
theorem RdK.cut {w : World} {k : IntKind} {a : Option Addr} {cap : Nat} {l : List Int} (h : RdK w k (.slice a l.length cap) l) (j : Nat) (hj : j ≤ l.length) : RdK w k (.slice (if cap = j then a else a.map (·.add (j * 1))) (l.length - j) (cap - j)) (l.drop j) := by
  obtain ⟨a', cap', he, h1, h2, h5⟩ := h.h
  cases he
  refine ⟨(if cap = j then a else a.map (·.add (j * 1))), cap - j, by rw [List.length_drop], by simp; omega, by omega, fun hp => ?_⟩
  have hp2 : j < l.length := by simp at hp; omega
  obtain ⟨b, o, rfl, hb, hc⟩ := h5 (by omega)
  refine ⟨b, o + j, by rw [if_neg (by omega)]; simp [Addr.add_lit], hb, fun i hi => ?_⟩
  have hi' : j + i < l.length := by simp at hi; omega
  rw [Nat.add_assoc, hc (j + i) hi']
  simp [List.getD, List.getElem?_drop]
theorem RdK.nil_ (w : World) (k : IntKind) : RdK w k (.slice none 0 0) [] := ⟨none, 0, rfl, by simp, by decide, fun h => absurd h (by simp)⟩
theorem one_ints {k : IntKind} {l : List Int} : ∀ x ∈ l.map (Value.int k), x.oneCell' = true := by
  intro x hx
  simp at hx
  obtain ⟨y, -, rfl⟩ := hx
  rfl
theorem getD_drop (l : List Int) (j : Nat) (h : j < l.length) : l.drop j = l.getD j 0 :: l.drop (j + 1) := by
  rw [List.drop_eq_getElem_cons h]; simp [List.getD, h]
theorem getD_take (l : List Int) (j : Nat) (h : j < l.length) : l.take (j + 1) = l.take j ++ [l.getD j 0] := by
  rw [List.take_add_one]; simp [List.getD, h]
/-- new blocks of a slice's own -/
def Fresh (w : World) (v : Value) : Prop := ∀ g, v.ownBlock = some g → w.heap.size ≤ g
theorem Fresh.nil_ (w : World) : Fresh w (.slice none 0 0) := by intro g hg; simp [Value.ownBlock] at hg
theorem Fresh.mono {w w' : World} {v : Value} (h : Fresh w' v) (hu : w.heap.size ≤ w'.heap.size) : Fresh w v := fun g hg => Nat.le_trans hu (h g hg)
/-- a slice literal lies in a new block -/
theorem Sl.lit {w : World} {e : TypeId} {g n : Nat} {cs : Array Value} (hb : Blk w g e cs) (hn : cs.size = n) (hm : n ≤ maxLen) : Sl w e 1 (.slice (some ⟨g, 0, none⟩) n n) n cs.toList :=
  ⟨by simpa using hn, .inr ⟨g, 0, n, cs, rfl, hb, Nat.le_refl _, hm, by omega, by rw [List.drop_zero, Nat.mul_one, ← hn]; exact List.take_of_length_le (by simp)⟩⟩
end Go.Proofs.Ytklbeipdigancaa
