/- Slices of records that come in: what they hold. -/
import Derived.Test.YtbnbbafffihapaaV13
namespace Go.Proofs.Ytbnbbafffihapaa
open Go.ChangeShapes Go.WideShapes Go.ChangeAt Go.RowKit Go.Deep
/-- a slice of records of n cells that is only read -/
structure RdR {α : Type} (w : World) (n : Nat) (f : α → List Value) (v : Value) (l : List α) : Prop where
  h : ∃ a cap, v = .slice a l.length cap ∧ l.length ≤ cap ∧ cap ≤ maxLen ∧ (0 < l.length → ∃ b o, a = some ⟨b, o, none⟩ ∧ b < w.heap.size ∧ ∀ i j (hi : i < l.length), j < n → w.cell? ⟨b, o + i * n + j, none⟩ = (f l[i])[j]?)
theorem open_recs {H : Type} {enc : TypeId × Value → H} {P : Program} {w : World} {r : Reach} {b0 : Nat} {spare : Nat → Bool} {held : Bool} {t e : TypeId} {v : Value} {d : DataW H} {p : List MemPlace} {α : Type} (n : Nat) (f : α → List Value) (Q : α → Prop)
    (hn : 0 < n) (hlen : ∀ x, (f x).length = n) (ht : P.underlying t = some (.slice e)) (hce : P.cellsOf e = n) (hf : ∀ fuel cs x, DataW.trod enc P w 0 spare held fuel e cs = some x → ∃ a, cs = f a ∧ Q a) (hv : Value.okWide P w r b0 t v) (h : DataW.Trod enc P w 0 spare held t v d p) :
    ∃ l : List α, RdR w n f v l ∧ ∀ x ∈ l, Q x := by
  obtain ⟨a0, len0, cap0, rfl⟩ := okWide_slice ht hv
  obtain ⟨fuel, h⟩ := h
  rcases open_slice ht (cs := [.slice a0 len0 cap0]) (by simpa [Value.cells] using h) with ⟨hcs, _⟩ | ⟨a, len, cap, m, n', D, Pl, hcs, _, hl, hm, hmm, _, hx⟩
  · simp at hcs
    obtain ⟨rfl, rfl, rfl⟩ := hcs
    exact ⟨[], ⟨none, 0, rfl, by simp, by decide, fun h => absurd h (by simp)⟩, by simp⟩
  · simp at hcs
    obtain ⟨rfl, rfl, rfl⟩ := hcs
    have hlm : len0 ≤ m := by rw [hmm]; split <;> omega
    have key : ∀ i, i < len0 → ∃ x : α, Q x ∧ ∀ j, j < n → w.cell? ((a.add (i * n)).add j) = (f x)[j]? := by
      intro i hi
      obtain ⟨cs', h1, h2⟩ := hx i (by omega)
      obtain ⟨x, rfl, hq⟩ := hf _ _ _ h2
      refine ⟨x, hq, fun j hj => ?_⟩
      rw [hce] at h1
      exact (World.cells?_some h1).2.2 j hj
    have hlist : ∀ k, k ≤ len0 → ∃ l : List α, l.length = k ∧ (∀ x ∈ l, Q x) ∧ ∀ i j (hi : i < l.length), j < n → w.cell? ((a.add (i * n)).add j) = (f l[i])[j]? := by
      intro k
      induction k with
      | zero => intro _; exact ⟨[], rfl, by simp, fun i j hi => absurd hi (by simp)⟩
      | succ k ih =>
        intro hk
        obtain ⟨l, hl1, hl3, hl2⟩ := ih (by omega)
        obtain ⟨x, hq, hx⟩ := key k (by omega)
        refine ⟨l ++ [x], by simp [hl1], fun y hy => ?_, fun i j hi hj => ?_⟩
        · rcases List.mem_append.1 hy with h1 | h1
          · exact hl3 y h1
          · rw [List.mem_singleton.1 h1]; exact hq
        · by_cases h : i = k
          · subst h; rw [hx j hj]; simp [← hl1]
          · have hi' : i < l.length := by simp at hi; omega
            rw [hl2 i j hi' hj, List.getElem_append_left hi']
    obtain ⟨l, hl1, hl3, hl2⟩ := hlist len0 (Nat.le_refl _)
    subst hl1
    refine ⟨l, ⟨some a, cap0, by simp, by simpa using hl, hm, fun hp => ?_⟩, hl3⟩
    have h0 := hl2 0 0 hp hn
    have h0' : w.cell? ((a.add (0 * n)).add 0) = some ((f l[0])[0]'(by rw [hlen]; exact hn)) := by rw [h0]; simp [hlen, hn]
    have hs : a.spot = none := by
      have := spot_none h0'
      simpa [Addr.add] using this
    have hb := World.block_lt_of_cell? w _ h0'
    obtain ⟨ab, ao, sp⟩ := a
    simp at hs
    subst hs
    refine ⟨ab, ao, rfl, by simpa [Addr.add] using hb, fun i j hi hj => ?_⟩
    have := hl2 i j hi hj
    rwa [Addr.add_lit, Addr.add_lit] at this
section
variable {α : Type} {w w' : World} {n : Nat} {f : α → List Value} {v : Value} {l : List α}
theorem RdR.upd0 (h : RdR w n f v l) (hu : Upd [] w w') : RdR w' n f v l := by
  obtain ⟨a, cap, rfl, h1, h2, h3⟩ := h.h
  refine ⟨a, cap, rfl, h1, h2, fun hp => ?_⟩
  obtain ⟨b, o, rfl, hb, hc⟩ := h3 hp
  exact ⟨b, o, rfl, Nat.lt_of_lt_of_le hb hu.size, fun i j hi hj => (hu.cell hb (by simp)).trans (hc i j hi hj)⟩
theorem RdR.form (h : RdR w n f v l) : ∃ a cap, v = .slice a l.length cap ∧ l.length ≤ cap ∧ cap ≤ maxLen := by
  obtain ⟨a, cap, h1, h2, h3, -⟩ := h.h
  exact ⟨a, cap, h1, h2, h3⟩
theorem RdR.some_ (h : RdR w n f v l) (hp : 0 < l.length) : ∃ b o cap, v = .slice (some ⟨b, o, none⟩) l.length cap ∧ l.length ≤ cap := by
  obtain ⟨a, cap, rfl, h1, h2, h3⟩ := h.h
  obtain ⟨b, o, rfl, hb, hc⟩ := h3 hp
  exact ⟨b, o, cap, rfl, h1⟩
theorem RdR.at_ (h : RdR w n f v l) {b o k c : Nat} (hv : v = .slice (some ⟨b, o, none⟩) k c) (i j : Nat) (hi : i < l.length) (hj : j < n) : w.cell? ⟨b, o + i * n + j, none⟩ = (f l[i])[j]? := by
  obtain ⟨a, cap, h1, h2, h4, h3⟩ := h.h
  obtain ⟨b', o', rfl, hb, hc⟩ := h3 (by omega)
  rw [h1] at hv
  injection hv with h5 h6 h7
  injection h5 with h8
  injection h8 with h9 h10 h11
  subst h9; subst h10
  exact hc i j hi hj
end
end Go.Proofs.Ytbnbbafffihapaa
