/- What grows: slices that are appended to; slices that are only read; tests on great literals. -/
import Derived.Test.YtklbeipdigancaaV10
namespace Go.Proofs.Ytklbeipdigancaa
open Go.RowKit
theorem cdx {p X Y : Prop} [Decidable p] (h1 : p → X) (h2 : ¬ p → Y) : (Bool.rec (motive := fun _ => Prop) Y X (decide p) : Prop) := CondP.mk' (fun h => h1 (of_decide_eq_true h)) (fun h => h2 (of_decide_eq_false h))
/-- a slice that was v, and is v' now: only its own block may have changed -/
structure Grow (w w' : World) (v v' : Value) : Prop where
  up : Upd v.ownBlock.toList w w'
  own : ∀ g, v'.ownBlock = some g → v.ownBlock = some g ∨ w.heap.size ≤ g
theorem Grow.refl (w : World) (v : Value) : Grow w w v v := ⟨Upd.refl _ _, fun _ h => .inl h⟩
theorem Grow.upd {w w1 w2 : World} {v v1 : Value} (h : Grow w w1 v v1) (hu : Upd [] w1 w2) : Grow w w2 v v1 := ⟨h.up.step hu (by simp), h.own⟩
theorem Grow.to {w w1 w2 : World} {v v1 v2 : Value} (h : Grow w w1 v v1) (k : Grow w1 w2 v1 v2) : Grow w w2 v v2 :=
  ⟨h.up.step k.up fun x hx => by
    rcases h.own x (by simpa using hx) with h1 | h1
    · exact .inl (by simp [h1])
    · exact .inr h1, fun g hg => by
    rcases k.own g hg with h1 | h1
    · exact h.own g h1
    · right; have := h.up.size; omega⟩
theorem Grow.new {w w' : World} {v v' : Value} (h : Grow w w' v v') (hv : v.ownBlock = none) : Upd [] w w' ∧ ∀ g, v'.ownBlock = some g → w.heap.size ≤ g := by
  obtain ⟨h1, h2⟩ := h
  rw [hv] at h1 h2
  exact ⟨by simpa using h1, fun g hg => (h2 g hg).resolve_left (by simp)⟩
/-- other things stay -/
theorem Grow.blk {w w' : World} {v v' : Value} {g : Nat} {t : TypeId} {cs : Array Value} (h : Grow w w' v v') (hb : Blk w g t cs) (hg : v.ownBlock ≠ some g) : Blk w' g t cs := hb.upd h.up (by simpa using hg)
theorem Grow.from_ {w0 w w' : World} {v v' : Value} (h : Grow w w' v v') (hu : Upd [] w0 w) (ho : ∀ g, v.ownBlock = some g → w0.heap.size ≤ g) : Upd [] w0 w' ∧ ∀ g, v'.ownBlock = some g → w0.heap.size ≤ g :=
  ⟨hu.step h.up fun k hk => .inr (ho k (by simpa using hk)), fun g hg => by
    rcases h.own g hg with h1 | h1
    · exact ho g h1
    · have := hu.size; omega⟩
/-- a slice that is only read: m elements, their cells -/
structure RdL (w : World) (n : Nat) (u : Value) (m : Nat) (news : List Value) : Prop where
  h : ∃ a c, u = .slice a m c ∧ news.length = m * n ∧ (0 < m → ∃ b o, a = some ⟨b, o, none⟩ ∧ ∀ j x, news[j]? = some x → w.cell? ⟨b, o + j, none⟩ = some x)
theorem Sl.rd {w : World} {e : TypeId} {n : Nat} {v : Value} {m : Nat} {xs : List Value} (h : Sl w e n v m xs) : RdL w n v m xs := by
  rcases h.2 with ⟨rfl, rfl⟩ | ⟨g, off, cap, cur, rfl, hb, hc, hm, hs, ht⟩
  · exact ⟨none, 0, rfl, h.1, fun h0 => absurd h0 (by omega)⟩
  · refine ⟨some ⟨g, off, none⟩, cap, rfl, h.1, fun _ => ⟨g, off, rfl, fun j x hx => ?_⟩⟩
    have hj : j < m * n := by
      rw [← h.1]
      rcases Nat.lt_or_ge j xs.length with h1 | h1
      · exact h1
      · rw [List.getElem?_eq_none h1] at hx; cases hx
    rw [(h.cells rfl j hj).1]; exact hx
section
variable {P : Program} {K : Value → World → Prop} {w : World}
theorem apg {t e n bytes ty : Nat} [SlT P t e n] [ElemT P e n bytes] {v : Value} {len : Nat} {xs : List Value} {g m c : Nat} {cs : Array Value} (hs : Sl w e n v len xs) (hb : Blk w g e cs) (hcs : cs.toList.length = m * n) (h1 : cs.toList.all (·.oneCell') = true)
    (hm : 0 < m) (h63 : len + m ≤ maxLen) (hby : (len + m) * bytes ≤ 140737488355328)
    (k : ∀ v' w', Sl w' e n v' (len + m) (xs ++ cs.toList) → Grow w w' v v' → K v' w') : RunP P (Builtin.append_ #[t, t] ty #[v, .slice (some ⟨g, 0, none⟩) m c]) K w :=
  app hs hb hcs h1 hm h63 hby fun g' off cap w' hs' hu hg => k _ _ hs' ⟨hu, fun g hg' => by
    have : g' = g := by simpa [Value.ownBlock] using hg'
    subst this
    rcases hg with h | h
    · exact .inl h
    · exact .inr (by omega)⟩
theorem apx {t e n bytes ty : Nat} [SlT P t e n] [ElemT P e n bytes] {v u : Value} {len m : Nat} {xs news : List Value} (hs : Sl w e n v len xs) (hr : RdL w n u m news) (h1 : ∀ x ∈ news, x.oneCell' = true)
    (h63 : len + m ≤ maxLen) (hby : (len + m) * bytes ≤ 140737488355328)
    (k : ∀ v' w', Sl w' e n v' (len + m) (xs ++ news) → Grow w w' v v' → K v' w') : RunP P (Builtin.append_ #[t, t] ty #[v, u]) K w := by
  obtain ⟨a, c, rfl, hl, hc⟩ := hr.h
  by_cases hm : m = 0
  · subst hm
    have hn : news = [] := List.eq_nil_of_length_eq_zero (by omega)
    subst hn
    obtain ⟨b, cap, rfl, hcap, -⟩ := hs.form
    exact ap0 (n := n) (bytes := bytes) (e := e) hcap (k _ _ (by simpa using hs) (Grow.refl _ _))
  · obtain ⟨b, o, rfl, hc2⟩ := hc (by omega)
    exact apr news hs hl (fun j x hx => hc2 j x hx) h1 (by omega) h63 hby fun g' off cap w' hs' hu hg => k _ _ hs' ⟨hu, fun g hg' => by
      have : g' = g := by simpa [Value.ownBlock] using hg'
      subst this
      rcases hg with h | h
      · exact .inl h
      · exact .inr (by omega)⟩
end
end Go.Proofs.Ytklbeipdigancaa
