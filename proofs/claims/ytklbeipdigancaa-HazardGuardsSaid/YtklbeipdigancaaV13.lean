/- Slices of bools and of strings that come in: what they hold. -/
import Derived.Test.YtklbeipdigancaaV12
namespace Go.Proofs.Ytklbeipdigancaa
open Go.ChangeShapes Go.WideShapes Go.ChangeAt Go.RowKit Go.Deep
theorem bool_of_trod {H : Type} {enc : TypeId × Value → H} {P : Program} {w : World} {base : Nat} {spare : Nat → Bool} {held : Bool} {fuel : Nat} {t : TypeId} {cs : List Value} {x : DataW H × List MemPlace}
    (ht : P.underlying t = some .bool) (h : DataW.trod enc P w base spare held fuel t cs = some x) : ∃ b, cs = [.bool b] := by
  cases fuel with
  | zero => simp [DataW.trod] at h
  | succ m =>
    unfold DataW.trod at h
    rw [ht] at h
    split at h <;> simp_all
theorem string_of_trod {H : Type} {enc : TypeId × Value → H} {P : Program} {w : World} {base : Nat} {spare : Nat → Bool} {held : Bool} {fuel : Nat} {t : TypeId} {cs : List Value} {x : DataW H × List MemPlace}
    (ht : P.underlying t = some .string) (h : DataW.trod enc P w base spare held fuel t cs = some x) : ∃ s, cs = [.string s] := by
  cases fuel with
  | zero => simp [DataW.trod] at h
  | succ m =>
    unfold DataW.trod at h
    rw [ht] at h
    split at h <;> simp_all
/-- a slice of one-cell things that is only read -/
structure RdV (w : World) (v : Value) (l : List Value) : Prop where
  h : ∃ a cap, v = .slice a l.length cap ∧ l.length ≤ cap ∧ cap ≤ maxLen ∧ (0 < l.length → ∃ b o, a = some ⟨b, o, none⟩ ∧ b < w.heap.size ∧ ∀ i, i < l.length → w.cell? ⟨b, o + i, none⟩ = l[i]?)
theorem open_ones {H : Type} {enc : TypeId × Value → H} {P : Program} {w : World} {r : Reach} {b0 : Nat} {spare : Nat → Bool} {held : Bool} {t e : TypeId} {v : Value} {d : DataW H} {p : List MemPlace} {α : Type} (f : α → Value)
    (ht : P.underlying t = some (.slice e)) (hce : P.cellsOf e = 1) (hf : ∀ fuel cs x, DataW.trod enc P w 0 spare held fuel e cs = some x → ∃ a, cs = [f a]) (hv : Value.okWide P w r b0 t v) (h : DataW.Trod enc P w 0 spare held t v d p) :
    ∃ l : List α, RdV w v (l.map f) := by
  obtain ⟨a0, len0, cap0, rfl⟩ := okWide_slice ht hv
  obtain ⟨fuel, h⟩ := h
  rcases open_slice ht (cs := [.slice a0 len0 cap0]) (by simpa [Value.cells] using h) with ⟨hcs, _⟩ | ⟨a, len, cap, m, n, D, Pl, hcs, _, hl, hm, hmm, _, hx⟩
  · simp at hcs
    obtain ⟨rfl, rfl, rfl⟩ := hcs
    exact ⟨[], none, 0, rfl, by simp, by decide, fun h => absurd h (by simp)⟩
  · simp at hcs
    obtain ⟨rfl, rfl, rfl⟩ := hcs
    have hlm : len0 ≤ m := by rw [hmm]; split <;> omega
    have key : ∀ i, i < len0 → ∃ x : α, w.cell? (a.add i) = some (f x) := by
      intro i hi
      obtain ⟨cs', h1, h2⟩ := hx i (by omega)
      obtain ⟨x, rfl⟩ := hf _ _ _ h2
      refine ⟨x, ?_⟩
      rw [hce] at h1
      have := (World.cells?_some h1).2.2 0 (by omega)
      simpa [Addr.add] using this
    have hlist : ∃ l : List α, l.length = len0 ∧ ∀ i, i < len0 → w.cell? (a.add i) = (l.map f)[i]? := by
      clear hx h hmm hlm hv
      have : ∀ n, n ≤ len0 → ∃ l : List α, l.length = n ∧ ∀ i, i < n → w.cell? (a.add i) = (l.map f)[i]? := by
        intro n
        induction n with
        | zero => intro _; exact ⟨[], rfl, fun i hi => absurd hi (by omega)⟩
        | succ n ih =>
          intro hn
          obtain ⟨l, hl1, hl2⟩ := ih (by omega)
          obtain ⟨x, hx⟩ := key n (by omega)
          refine ⟨l ++ [x], by simp [hl1], fun i hi => ?_⟩
          by_cases h : i = n
          · subst h; rw [hx]; simp [← hl1]
          · rw [hl2 i (by omega), List.map_append, List.getElem?_append_left (by simp; omega)]
      exact this len0 (Nat.le_refl _)
    obtain ⟨l, hl1, hl2⟩ := hlist
    subst hl1
    refine ⟨l, some a, cap0, by simp, by simpa using hl, hm, fun hp => ?_⟩
    have hp : 0 < l.length := by simpa using hp
    have h0 := hl2 0 hp
    have h0' : w.cell? (a.add 0) = some (f l[0]) := by rw [h0]; simp [hp]
    have hs : a.spot = none := by
      have := spot_none h0'
      simpa [Addr.add] using this
    have hb := World.block_lt_of_cell? w _ h0'
    obtain ⟨ab, ao, sp⟩ := a
    simp at hs
    subst hs
    refine ⟨ab, ao, rfl, by simpa [Addr.add] using hb, fun i hi => ?_⟩
    have := hl2 i (by simpa using hi)
    rwa [Addr.add_lit] at this
theorem open_bools {H : Type} {enc : TypeId × Value → H} {P : Program} {w : World} {r : Reach} {b0 : Nat} {spare : Nat → Bool} {held : Bool} {t e : TypeId} {v : Value} {d : DataW H} {p : List MemPlace}
    (ht : P.underlying t = some (.slice e)) (he : P.underlying e = some .bool) (hce : P.cellsOf e = 1) (hv : Value.okWide P w r b0 t v) (h : DataW.Trod enc P w 0 spare held t v d p) : ∃ l : List Bool, RdV w v (l.map .bool) :=
  open_ones Value.bool ht hce (fun _ _ _ h => bool_of_trod he h) hv h
theorem open_strings {H : Type} {enc : TypeId × Value → H} {P : Program} {w : World} {r : Reach} {b0 : Nat} {spare : Nat → Bool} {held : Bool} {t e : TypeId} {v : Value} {d : DataW H} {p : List MemPlace}
    (ht : P.underlying t = some (.slice e)) (he : P.underlying e = some .string) (hce : P.cellsOf e = 1) (hv : Value.okWide P w r b0 t v) (h : DataW.Trod enc P w 0 spare held t v d p) : ∃ l : List ByteArray, RdV w v (l.map .string) :=
  open_ones Value.string ht hce (fun _ _ _ h => string_of_trod he h) hv h
theorem RdV.upd0 {w w' : World} {v : Value} {l : List Value} (h : RdV w v l) (hu : Upd [] w w') : RdV w' v l := by
  obtain ⟨a, cap, rfl, h1, h2, h5⟩ := h.h
  refine ⟨a, cap, rfl, h1, h2, fun hp => ?_⟩
  obtain ⟨b, o, rfl, hb, hc⟩ := h5 hp
  exact ⟨b, o, rfl, Nat.lt_of_lt_of_le hb hu.size, fun i hi => by rw [hu.cell hb (by simp)]; exact hc i hi⟩
theorem RdV.form {w : World} {v : Value} {l : List Value} (h : RdV w v l) : ∃ a cap, v = .slice a l.length cap ∧ l.length ≤ cap ∧ cap ≤ maxLen := by
  obtain ⟨a, cap, rfl, h1, h2, -⟩ := h.h
  exact ⟨a, cap, rfl, h1, h2⟩
theorem RdV.some_ {w : World} {v : Value} {l : List Value} (h : RdV w v l) (hp : 0 < l.length) : ∃ b o cap, v = .slice (some ⟨b, o, none⟩) l.length cap ∧ l.length ≤ cap := by
  obtain ⟨a, cap, rfl, h1, h2, h5⟩ := h.h
  obtain ⟨b, o, rfl, -⟩ := h5 hp
  exact ⟨b, o, cap, rfl, h1⟩
theorem RdV.at_ {w : World} {v : Value} {l : List Value} (h : RdV w v l) {b o n c : Nat} (hv : v = .slice (some ⟨b, o, none⟩) n c) (i : Nat) (hi : i < l.length) : w.cell? ⟨b, o + i * 1, none⟩ = l[i]? := by
  obtain ⟨a, cap, rfl, h1, h2, h5⟩ := h.h
  obtain ⟨b', o', rfl, -, hc⟩ := h5 (by omega)
  injection hv with hv
  injection hv with hv
  injection hv with h6 h7
  subst h6; subst h7
  rw [Nat.mul_one]; exact hc i hi
end Go.Proofs.Ytklbeipdigancaa
