/- Slices of bytes that are read. -/
import Derived.Test.YtejofmohpjffkaaV10
import Derived.Test.YtejofmohpjffkaaArgs
namespace Go.Proofs.Ytejofmohpjffkaa
open Go.RowKit
/-- bytes that are read -/
structure Bts (w : World) (v : Value) (l : List Int) : Prop where
  h : SlInts w w.heap.size .u8 v l
theorem Bts.upd {w w' : World} {v : Value} {l : List Int} (h : Bts w v l) (hu : Upd [] w w') : Bts w' v l := by
  obtain ⟨a, cap, rfl, h1, h2, h3, h4, h5⟩ := h.h
  refine ⟨a, cap, rfl, h1, h2, h3, h4, fun hp => ?_⟩
  obtain ⟨b, o, hab, hb, hc⟩ := h5 hp
  exact ⟨b, o, hab, Nat.lt_of_lt_of_le hb hu.size, fun i hi => by rw [hu.cell hb (by simp)]; exact hc i hi⟩
theorem Bts.form {w : World} {v : Value} {l : List Int} (h : Bts w v l) : ∃ a cap, v = .slice a l.length cap ∧ l.length ≤ cap := by
  obtain ⟨a, cap, rfl, h1, -⟩ := h.h
  exact ⟨a, cap, rfl, h1⟩
theorem Bts.some_ {w : World} {v : Value} {l : List Int} (h : Bts w v l) (hp : 0 < l.length) : ∃ b o cap, v = .slice (some ⟨b, o, none⟩) l.length cap ∧ l.length ≤ cap ∧ ∀ i, i < l.length → w.cell? ⟨b, o + i * 1, none⟩ = some (.int .u8 (l.getD i 0)) := by
  obtain ⟨a, cap, rfl, h1, h2, h3, h4, h5⟩ := h.h
  obtain ⟨b, o, rfl, hb, hc⟩ := h5 hp
  exact ⟨b, o, cap, rfl, h1, fun i hi => by rw [Nat.mul_one]; exact hc i hi⟩
theorem Bts.byte {w : World} {v : Value} {l : List Int} (h : Bts w v l) (i : Nat) (hi : i < l.length) : 0 ≤ l.getD i 0 ∧ l.getD i 0 ≤ 255 := by
  obtain ⟨a, cap, rfl, h1, h2, h3, h4, h5⟩ := h.h
  have h6 := h4 (l.getD i 0) (by simp [List.getD, hi])
  simp only [Lit.wf] at h6
  have h7 : IntKind.u8.min ≤ l.getD i 0 ∧ l.getD i 0 ≤ IntKind.u8.max := by simpa using h6
  exact h7

end Go.Proofs.Ytejofmohpjffkaa
