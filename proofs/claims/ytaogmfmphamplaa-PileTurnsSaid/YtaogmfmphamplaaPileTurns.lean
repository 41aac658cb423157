/- The walk of the law PileTurns. -/
import Derived.Test.YtaogmfmphamplaaPile
namespace Go.Proofs.Ytaogmfmphamplaa
open Go.RowKit
attribute [local irreducible] Instr.loadAt Instr.storeAt Instr.fieldAt Instr.indexAt Instr.sliceAt Instr.buildSlice Instr.box Instr.alloc Builtin.append_ Builtin.len_ Calls

structure Two (w w' : World) (p q : Nat) (vp vq : Value) (lp lq : List Int) : Prop where
  hp : IsPile w' p vp lp
  hq : IsPile w' q vq lq
  up : Upd [] w w'
  fp : ∀ k ∈ foot p vp, w.heap.size ≤ k
  fq : ∀ k ∈ foot q vq, w.heap.size ≤ k
  dj : ∀ k ∈ foot p vp, k ∉ foot q vq
theorem Two.symm {w w' : World} {p q : Nat} {vp vq : Value} {lp lq : List Int} (h : Two w w' p q vp vq lp lq) : Two w w' q p vq vp lq lp :=
  ⟨h.hq, h.hp, h.up, h.fq, h.fp, fun k hk hn => h.dj k hn hk⟩
theorem push2 {w w' : World} {p q : Nat} {vp vq : Value} {lp lq : List Int} (h : Two w w' p q vp vq lp lq) (x : Int) (hl : lp.length < 4294967296) :
    Fn Try.prog 27 #[.pointer (some ⟨p, 0, none⟩), .int .i64 x] w' fun _ w'' => ∃ vp', Two w w'' p q vp' vq (lp ++ [x]) lq := by
  refine (push_c h.hp x hl).mono ?_
  rintro _ w2 ⟨r, rfl, v2, h2, hu, hf⟩
  have hs := h.up.size
  refine ⟨r, rfl, v2, h2, h.hq.upd hu fun k hk hn => h.dj k hn hk, h.up.step hu fun k hk => .inr (h.fp k hk), ?_, h.fq, ?_⟩
  · intro k hk
    rcases hf k hk with h1 | h1
    · exact h.fp k h1
    · omega
  · intro k hk hn
    rcases hf k hk with h1 | h1
    · exact h.dj k h1 hn
    · have := h.hq.lt k hn; omega
theorem Two.cut {w w' w'' : World} {p q : Nat} {vp vq vp' : Value} {lp lq lp' : List Int} (h : Two w w' p q vp vq lp lq) (h2 : IsPile w'' p vp' lp') (hu : Upd [p] w' w'') (hb : vp'.ownBlock = vp.ownBlock) : Two w w'' p q vp' vq lp' lq := by
  have hf : foot p vp' = foot p vp := by simp [foot, hb]
  refine ⟨h2, h.hq.upd hu fun k hk hn => h.dj k (by simp at hn; simp [foot, hn]) hk, h.up.step hu fun k hk => .inr (h.fp k (by simp at hk; simp [foot, hk])), ?_, h.fq, ?_⟩
  · rw [hf]; exact h.fp
  · rw [hf]; exact h.dj
theorem shift2 {w w' : World} {p q : Nat} {vp vq : Value} {x : Int} {lp lq : List Int} (h : Two w w' p q vp vq (x :: lp) lq) :
    Fn Try.prog 28 #[.pointer (some ⟨p, 0, none⟩)] w' fun r w'' => r = .tuple #[.int .i64 x, .bool true] ∧ ∃ vp', Two w w'' p q vp' vq lp lq := by
  refine (shift_c h.hp).mono ?_
  rintro _ w2 ⟨_, rfl, rfl, v2, h2, hu, hf⟩
  exact ⟨_, rfl, rfl, v2, h.cut h2 hu hf⟩
theorem pop2 {w w' : World} {p q : Nat} {vp vq : Value} {x : Int} {lp lq : List Int} (h : Two w w' p q vp vq (lp ++ [x]) lq) :
    Fn Try.prog 29 #[.pointer (some ⟨p, 0, none⟩)] w' fun r w'' => r = .tuple #[.int .i64 x, .bool true] ∧ ∃ vp', Two w w'' p q vp' vq lp lq := by
  refine (pop_c h.hp).mono ?_
  rintro _ w2 ⟨_, rfl, rfl, v2, h2, hu, hf⟩
  exact ⟨_, rfl, rfl, v2, h.cut h2 hu hf⟩

theorem take_next (l : List Int) (j : Nat) (h : j < l.length) : l.take (j + 1) = l.take j ++ [l.getD j 0] := by
  rw [List.take_add_one]; simp [List.getD, h]
theorem drop_here (l : List Int) (j : Nat) (h : j < l.length) : l.drop j = l.getD j 0 :: l.drop (j + 1) := by
  rw [List.drop_eq_getElem_cons h]; simp [List.getD, h]

set_option maxRecDepth 10000 in
theorem PileTurns_fn (w : World) (v : Value) (l : List Int) (hv : SlInts w w.heap.size .i64 v l) : Fn Try.prog 7 #[v] w fun r w' => r = .bool true ∧ Upd [] w w' := by
  obtain ⟨a, cap, rfl, h1, h2, h3, h4, h5⟩ := hv
  refine fn_enter Try.func7 rfl rfl ?_
  refine len_sl ?_
  refine cd (fun hbig => ?_) (fun hbig => ?_)
  · refine cl (lives04 _) ?_
    rintro _ _ ⟨rfl, hu⟩
    exact ⟨rfl, hu⟩
  have hread : ∀ (w' : World) (j : Nat), Upd [] w w' → j < l.length → ∃ b o, a = some ⟨b, o, none⟩ ∧ w'.cell? ⟨b, o + j * 1, none⟩ = some (.int .i64 (l.getD j 0)) := by
    intro w' j hu hj
    obtain ⟨b, o, hab, hb, hc⟩ := h5 (by omega)
    refine ⟨b, o, hab, ?_⟩
    rw [hu.cell hb (by simp), Nat.mul_one]
    exact hc j hj
  refine al #[.slice none 0 0] (fun _ => by kernel_rfl) fun w1 hb1 hu1 hs1 => ?_
  refine al #[.slice none 0 0] (fun _ => by kernel_rfl) fun w2 hb2 hu2 hs2 => ?_
  have T0 : Two w w2 w.heap.size w1.heap.size (.slice none 0 0) (.slice none 0 0) [] [] :=
    ⟨(new_pile hb1).upd hu2 (by simp), new_pile hb2, hu1.trans hu2, by simp [foot, Value.ownBlock], by simp [foot, Value.ownBlock]; omega, by simp [foot, Value.ownBlock]; omega⟩
  generalize hp : w.heap.size = p at *
  generalize hq : w1.heap.size = q at *
  refine loop_rule [0, 3, 4] [5] (fun vs w' m => ∃ (j : Nat) (vp vq : Value), vs = [.int .i64 j] ∧ j ≤ l.length ∧ m = l.length - j ∧ Two w w' p q vp vq (l.take j) (l.take j)) rfl [.int .i64 0] l.length rfl ⟨0, _, _, rfl, by omega, by omega, T0⟩ ?_
  rintro _ w3 m ⟨j, vp, vq, rfl, hj, rfl, T⟩
  refine len_sl ?_
  refine cd (fun hlt => ?_) (fun hlt => ?_)
  · have hlt : j < l.length := by omega
    obtain ⟨b, o, rfl, hc⟩ := hread w3 j T.up hlt
    refine ix j rfl hlt ?_
    refine ld hc ?_
    refine cl (push2 T _ (by rw [List.length_take]; omega)) ?_
    rintro _ w4 ⟨vp', T4⟩
    refine ix j rfl hlt ?_
    obtain ⟨b, o, hbo, hc⟩ := hread w4 j T4.up hlt
    cases hbo
    refine ld hc ?_
    refine cl (push2 T4.symm _ (by rw [List.length_take]; omega)) ?_
    rintro _ w5 ⟨vq', T5⟩
    refine ar64 (by omega) ?_
    refine round_mk [.int .i64 ((j + 1 : Nat) : Int)] (l.length - (j + 1)) rfl rfl ?_ ?_
    · refine ⟨j + 1, vp', vq', rfl, by omega, rfl, ?_⟩
      rw [take_next l j hlt]
      exact T5.symm
    · omega
  · have hj : j = l.length := by omega
    subst hj
    rw [List.take_length] at T
    refine loop_rule [0, 3, 4] [6] (fun vs w' m => ∃ (j : Nat) (vp vq : Value), vs = [.int .i64 j] ∧ j ≤ l.length ∧ m = l.length - j ∧ Two w w' p q vp vq (l.drop j) (l.take (l.length - j))) rfl [.int .i64 0] l.length rfl ⟨0, _, _, rfl, by omega, by omega, by simpa using T⟩ ?_
    rintro _ w4 m ⟨j, vp, vq, rfl, hj, rfl, T4⟩
    refine len_sl ?_
    refine cd (fun hlt => ?_) (fun hlt => ?_)
    · have hlt : j < l.length := by omega
      rw [drop_here l j hlt, show l.length - j = (l.length - (j + 1)) + 1 by omega, take_next l _ (by omega)] at T4
      refine cl (shift2 T4) ?_
      rintro _ w5 ⟨rfl, vp', T5⟩
      refine cl (pop2 T5.symm) ?_
      rintro _ w6 ⟨rfl, vq', T6⟩
      obtain ⟨b, o, rfl, hc⟩ := hread w6 j T6.up hlt
      obtain ⟨b', o', hbo, hc'⟩ := hread w6 (l.length - (j + 1)) T6.up (by omega)
      cases hbo
      refine ix j rfl hlt ?_
      refine ld hc ?_
      refine cN (by simp) ?_
      refine len_sl ?_
      refine ar64 (by omega) ?_
      refine ar64 (by omega) ?_
      refine ix (l.length - (j + 1)) (by omega) (by omega) ?_
      refine ld hc' ?_
      refine cN (by simp) ?_
      refine ar64 (by omega) ?_
      refine round_mk [.int .i64 ((j + 1 : Nat) : Int)] (l.length - (j + 1)) rfl rfl ?_ ?_
      · exact ⟨j + 1, _, _, rfl, by omega, rfl, T6.symm⟩
      · omega
    · have hj : j = l.length := by omega
      subst hj
      rw [List.drop_length, Nat.sub_self, List.take_zero] at T4
      refine cl (pop_none T4.hp) ?_
      rintro _ _ ⟨rfl, rfl⟩
      refine cl (shift_none T4.hq) ?_
      rintro _ _ ⟨rfl, rfl⟩
      refine cl (len_c T4.hp) ?_
      rintro _ _ ⟨rfl, rfl⟩
      refine cl (lives04 _) ?_
      rintro _ _ ⟨rfl, hu⟩
      exact ⟨rfl, T4.up.trans hu⟩
theorem PileTurns_walk (w : World) (v : Value) (ls : List (List Int)) (h : SlRows w w.heap.size [.i64] v ls) : Calls Try.prog 7 #[v] w fun e w' => e = .returned (.bool true) ∧ Below w.heap.size w w' :=
  (PileTurns_fn w v _ h.ints).mono fun _ _ ⟨_, he, hv, hu⟩ => ⟨by rw [he, hv], hu.below⟩
end Go.Proofs.Ytaogmfmphamplaa
