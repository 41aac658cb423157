/- Histories: contracts: the object; the reference's May. -/
import Derived.Test.YtblngbagjieeiaaOb
import Derived.Test.YtblngbagjieeiaaFa
import Derived.WalkSpells
namespace Go.Proofs.Ytblngbagjieeiaa
open Go.RowKit
attribute [local irreducible] Instr.loadAt Instr.storeAt Instr.fieldAt Instr.indexAt Instr.sliceAt Instr.buildSlice Instr.box Instr.alloc Builtin.append_ Builtin.len_ Builtin.min_ Builtin.max_ Calls Instr.build Instr.makeSlice binSem convert Instr.index Instr.range Instr.next
attribute [local irreducible] Instr.lookup Instr.mapUpdate Instr.makeMap Builtin.delete_
abbrev TH : Nat := 26
abbrev ptrV (g : Nat) : Value := .pointer (some ⟨g, 0, none⟩)
instance : MapT Try.prog 24 3 29 := ⟨Try.underlying24, Try.underlying3⟩
instance : ZeroT Try.prog 29 (.agg (c3V z3)) := ⟨by kernel_rfl⟩
def evsC (l : List EvD) : List Value := l.flatMap evL
theorem evsC_app (l : List EvD) (e : EvD) : evsC (l ++ [e]) = evsC l ++ evL e := by simp [evsC]
theorem evsC_len : ∀ l : List EvD, (evsC l).length = l.length * 8
  | [] => rfl
  | e :: l => by
    show (evL e ++ evsC l).length = _
    rw [List.length_append, evsC_len l, evL_len, List.length_cons]; omega
theorem evsC_at : ∀ (l : List EvD) (i j : Nat), i < l.length → j < 8 → (evsC l)[i * 8 + j]? = (evL (l.getD i evZ))[j]?
  | [], _, _, h, _ => absurd h (by simp)
  | e :: l, 0, j, _, hj => by
    show (evL e ++ evsC l)[0 * 8 + j]? = _
    rw [List.getElem?_append_left (by rw [evL_len]; omega)]
    simp [List.getD]
  | e :: l, i + 1, j, h, hj => by
    show (evL e ++ evsC l)[(i + 1) * 8 + j]? = _
    rw [List.getElem?_append_right (by rw [evL_len]; omega), evL_len, show (i + 1) * 8 + j - 8 = i * 8 + j by omega, evsC_at l i j (by simpa using h) hj]
    rfl
theorem one_evs {l : List EvD} : ∀ x ∈ evsC l, x.oneCell' = true := by
  intro x hx
  obtain ⟨e, -, he⟩ := List.mem_flatMap.1 hx
  simp only [evL, evV, List.mem_cons, List.not_mem_nil, or_false] at he
  rcases he with rfl | rfl | rfl | rfl | rfl | rfl | rfl | rfl <;> rfl
theorem RdR.of_sl {w : World} {v : Value} {l : List EvD} (h : Sl w TEv 8 v l.length (evsC l)) : RdE w v l := by
  have hle := h.le
  obtain ⟨a, cap, rfl, hc, h0⟩ := h.form
  have h' := h
  rcases h.2 with ⟨h1, h2⟩ | ⟨g, off, cap', cur, h1, hb, hcc, hm, hs, ht⟩
  · injection h1 with e1 e2 e3
    subst e1; subst e3
    exact ⟨none, 0, rfl, hc, by decide, fun hp => by omega⟩
  · injection h1 with e1 e2 e3
    subst e1; subst e3
    refine ⟨_, _, rfl, hc, hm, fun hp => ⟨g, off, rfl, h'.lt g rfl, fun i j hi hj => ?_⟩⟩
    rw [Nat.add_assoc, (h'.cells rfl (i * 8 + j) (by omega)).1, evsC_at l i j hi hj]
    simp [List.getD, hi]
theorem RdR.rdl {w : World} {v : Value} {l : List EvD} (h : RdE w v l) : RdL w 8 v l.length (evsC l) := by
  obtain ⟨a, cap, rfl, h1, h2, h3⟩ := h.h
  refine ⟨a, cap, rfl, evsC_len l, fun h0 => ?_⟩
  obtain ⟨b, o, rfl, hb, hc⟩ := h3 (by omega)
  refine ⟨b, o, rfl, fun k x hx => ?_⟩
  have hk : k < l.length * 8 := by
    rw [← evsC_len]
    rcases Nat.lt_or_ge k (evsC l).length with h | h
    · exact h
    · rw [List.getElem?_eq_none h] at hx; cases hx
  have e : k / 8 * 8 + k % 8 = k := by omega
  have h5 := hc (k / 8) (k % 8) (by omega) (by omega)
  rw [Nat.add_assoc, e] at h5
  have h6 := evsC_at l (k / 8) (k % 8) (by omega) (by omega)
  rw [e] at h6
  rw [h5, ← hx, h6]
  simp [List.getD, show k / 8 < l.length by omega]
theorem RdR.ldE {w : World} {v : Value} {l : List EvD} (h : RdE w v l) {b o k c : Nat} (hv : v = .slice (some ⟨b, o, none⟩) k c) (i : Nat) (hi : i < l.length) : ∀ (j : Nat) (u : Value), (evL (l.getD i evZ))[j]? = some u → w.cell? ⟨b, o + i * 8 + j, none⟩ = some u := fun j u hu => by
  have hj : j < 8 := by
    rcases Nat.lt_or_ge j 8 with h | h
    · exact h
    · rw [List.getElem?_eq_none (by rw [evL_len]; exact h)] at hu; cases hu
  rw [h.cell hv i j hi hj]; exact hu
theorem clone_c {w : World} {v : Value} {l : List EvD} (h : Sl w TEv 8 v l.length (evsC l)) (hl : l.length ≤ 100000) : Fn Try.prog 34 #[v] w fun r w' => Sl w' TEv 8 r l.length (evsC l) ∧ Upd [] w w' ∧ ∀ g, r.ownBlock = some g → w.heap.size ≤ g := by
  have h' := h
  obtain ⟨a, cap, rfl, hc, h0⟩ := h.form
  refine fn_enter Try.func34 rfl rfl ?_
  refine sl_eq ?_
  cases a with
  | none =>
    obtain ⟨h1, h2⟩ := h0 rfl
    obtain rfl := List.length_eq_zero_iff.1 h1
    exact ⟨Sl.nil_ _ _ _, Upd.refl _ _, by simp [Value.ownBlock]⟩
  | some a =>
    refine bs #[] (fun _ => by kernel_rfl) fun w1 hb1 hu1 hs1 => ?_
    have hz : Sl w1 TEv 8 (.slice (some ⟨w.heap.size, 0, none⟩) 0 0) 0 [] := ⟨rfl, .inr ⟨w.heap.size, 0, 0, #[], rfl, hb1, by omega, by decide, by simp, by simp⟩⟩
    refine apx hz (h'.upd hu1 (by simp)).rd one_evs (by simp only [maxLen]; omega) (by omega) fun v2 w2 hs2 hG2 => ?_
    refine ⟨by simpa using hs2, hu1.step hG2.up (by simp [Value.ownBlock]), fun g hg => ?_⟩
    rcases hG2.own g hg with h3 | h3
    · have : w.heap.size = g := by simpa [Value.ownBlock] using h3
      omega
    · omega
def mvOwn : Value → List Nat
  | .map (some b) => [b]
  | _ => []
/-- a history as it lies in memory -/
structure IsH (w : World) (g : Nat) (lv mv : Value) (l : List EvD) (f : BF) : Prop where
  blk : Blk w g TH #[lv, mv]
  sl : Sl w TEv 8 lv l.length (evsC l)
  mp : (mv = .map none ∧ ∀ k, f k = none) ∨ ∃ b, mv = .map (some b) ∧ MapF w b (fun k => (f k).map fun c => .agg (c3V c))
def footH (g : Nat) (lv mv : Value) : List Nat := g :: (lv.ownBlock.toList ++ mvOwn mv)
section
variable {w w' : World} {g : Nat} {lv mv : Value} {l : List EvD} {f : BF}
theorem IsH.upd {S : List Nat} (h : IsH w g lv mv l f) (hu : Upd S w w') (hS : ∀ k ∈ footH g lv mv, k ∉ S) : IsH w' g lv mv l f := by
  refine ⟨h.blk.upd hu (hS g (by simp [footH])), h.sl.upd hu (fun q hq => hS q (by simp [footH, hq])), ?_⟩
  rcases h.mp with h1 | ⟨b, rfl, h2⟩
  · exact .inl h1
  · exact .inr ⟨b, rfl, h2.upd hu (hS b (by simp [footH, mvOwn]))⟩
theorem IsH.upd0 (h : IsH w g lv mv l f) (hu : Upd [] w w') : IsH w' g lv mv l f := h.upd hu (by simp)
theorem IsH.lt (h : IsH w g lv mv l f) : ∀ k ∈ footH g lv mv, k < w.heap.size := fun k hk => by
  simp only [footH, List.mem_cons, List.mem_append] at hk
  rcases hk with rfl | hk | hk
  · exact h.blk.lt
  · exact h.sl.lt k (by simpa using hk)
  · rcases h.mp with ⟨h1, -⟩ | ⟨b, rfl, h2⟩
    · rw [h1] at hk; cases hk
    · have : k = b := by simpa [mvOwn] using hk
      rw [this]; exact h2.lt
theorem map_ne {b q : Nat} {F : Int → Option Value} {T : Nat} {cs : Array Value} (h : MapF w b F) (hb : Blk w q T cs) : b ≠ q := by
  rintro rfl
  obtain ⟨es, clock, h1, -⟩ := h
  rw [hb] at h1; cases h1
theorem map_sl {b : Nat} {F : Int → Option Value} {T n k : Nat} {v : Value} {xs : List Value} (h : MapF w b F) (hs : Sl w T n v k xs) : v.ownBlock ≠ some b := by
  intro e
  rcases hs.2 with ⟨h1, -⟩ | ⟨g, off, cap', cur, h1, hb, -⟩
  · rw [h1] at e; simp [Value.ownBlock] at e
  · rw [h1] at e
    have : g = b := by simpa [Value.ownBlock] using e
    subst this
    exact map_ne h hb rfl
theorem lv_ne (h : IsH w g lv mv l f) : lv.ownBlock ≠ some g := h.sl.blk_ne h.blk (by decide)
def obH (g : Nat) (lv mv : Value) (l : List EvD) (f : BF) : Ob := ⟨footH g lv mv, fun w => IsH w g lv mv l f, fun h hu hS => h.upd hu hS, fun h => h.lt⟩
theorem busy_c (h : IsH w g lv mv l f) (th : Int) : Fn Try.prog 11 #[ptrV g, .int .i64 th] w fun r w' => r = .bool (f th).isSome ∧ Upd [] w w' := by
  refine fn_enter Try.func11 rfl rfl ?_
  refine ptr_eq ?_
  refine fa ?_
  refine ldb h.blk (v := mv) rfl ?_
  rcases h.mp with ⟨rfl, h0⟩ | ⟨b, rfl, hM⟩
  · refine mlk0 ?_
    refine al (c3V z3) (fun _ => by kernel_rfl) fun w1 hb1 hu1 hs1 => ?_
    refine stw hb1 rfl rfl rfl fun w2 hb2 hu2 hs2 => ?_
    rw [h0]
    exact ⟨rfl, hu1.step hu2 (by simp)⟩
  · refine mlk hM ?_
    cases hf : f th with
    | none =>
      refine al (c3V z3) (fun _ => by kernel_rfl) fun w1 hb1 hu1 hs1 => ?_
      refine stw hb1 rfl rfl rfl fun w2 hb2 hu2 hs2 => ?_
      exact ⟨rfl, hu1.step hu2 (by simp)⟩
    | some c =>
      refine al (c3V z3) (fun _ => by kernel_rfl) fun w1 hb1 hu1 hs1 => ?_
      refine stw hb1 rfl rfl rfl fun w2 hb2 hu2 hs2 => ?_
      exact ⟨rfl, hu1.step hu2 (by simp)⟩
end
end Go.Proofs.Ytblngbagjieeiaa
