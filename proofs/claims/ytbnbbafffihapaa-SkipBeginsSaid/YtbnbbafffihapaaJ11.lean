/- Joined: Rn. -/
import Derived.Test.YtbnbbafffihapaaJ10
import Derived.Test.YtbnbbafffihapaaJ1
/- The law SkipBegins: its walk. -/
namespace Go.Proofs.Ytbnbbafffihapaa
open Go.RowKit
attribute [local irreducible] Instr.loadAt Instr.storeAt Instr.fieldAt Instr.indexAt Instr.sliceAt Instr.buildSlice Instr.box Instr.alloc Builtin.append_ Builtin.len_ Builtin.min_ Builtin.max_ Calls Instr.build Instr.makeSlice binSem convert Instr.index Instr.range Instr.next
theorem stM_len' (s : MS) (a x : Int) : (stM s a x).W.length = s.W.length := by
  rw [stM_def]
  split
  · show (s.W.set a.toNat x).length = _; rw [List.length_set]
  · rfl
theorem stM_u (s : MS) (a : Int) {x : Int} (h : ∀ y ∈ s.W, u64R y) (hx : u64R x) : ∀ y ∈ (stM s a x).W, u64R y := by
  rw [stM_def]
  split
  · intro y hy
    have hy : y ∈ s.W.set a.toNat x := hy
    rcases List.mem_or_eq_of_mem_set hy with h1 | h1
    · exact h y h1
    · rw [h1]; exact hx
  · exact h
theorem stM_get (s : MS) {a : Int} (h0 : 0 ≤ a) (h1 : a < s.W.length) (x : Int) (j : Nat) : (stM s a x).W.getD j 0 = if (j : Int) = a then x else s.W.getD j 0 := by
  rw [stM_def, if_pos (show okA s a from ⟨h0, h1⟩)]
  show (s.W.set a.toNat x).getD j 0 = _
  by_cases h : (j : Int) = a
  · rw [if_pos h, show a.toNat = j by omega, getD_set_eq (by omega)]
  · rw [if_neg h, getD_set_ne' (by omega)]
section
variable {A T N L : Int}
theorem layL_len' (s : MS) (se : Nat) : ∀ i, (layL A T N L s se i).W.length = s.W.length
  | 0 => rfl
  | i + 1 => by rw [layL, stM_len', layL_len' s se i]
theorem layL_u (s : MS) (se : Nat) (h : ∀ y ∈ s.W, u64R y) : ∀ i, se + i < 1000000 → ∀ y ∈ (layL A T N L s se i).W, u64R y
  | 0, _ => h
  | i + 1, hi => by rw [layL]; exact stM_u _ _ (layL_u s se h i (by omega)) ⟨by omega, by omega⟩
theorem layN_len' (s : MS) : ∀ i, (layN A T N L s i).W.length = s.W.length
  | 0 => rfl
  | i + 1 => by rw [layN, stM_len', layN_len' s i]
theorem layN_u (s : MS) (h : ∀ y ∈ s.W, u64R y) : ∀ i, ∀ y ∈ (layN A T N L s i).W, u64R y
  | 0 => h
  | i + 1 => by rw [layN]; exact stM_u _ _ (layN_u s h i) ⟨by decide, by decide⟩
end
structure BegW (c : Cf) (W : List Int) : Prop where
  l : W.length = (sizeP c.A c.T c.N c.L).toNat
  u : ∀ x ∈ W, u64R x
  n : c.A ≠ 0 → ∀ j : Nat, (j : Int) < c.L → atV c W 1 (5 + (j : Int)) = 4
theorem node1 {A T N L B P S : Int} (hr : rightC ⟨A, T, N, L, B, P, S⟩) (hA : A ≠ 0) {j : Int} (h0 : 0 ≤ j) (h1 : j < L) : nodeA A T N L 1 (5 + j) = nodesP A T N L + 5 + j := by
  obtain ⟨b1, b2, b3, b4, b5, -⟩ := plan_bd hr
  unfold nodeA
  have hw : widthP A L = 5 + L := if_neg hA
  rw [if_pos ⟨⟨by omega, by omega⟩, by omega, by rw [hw]; omega⟩]
  omega
theorem begW {A T N L B P S : Int} (hr : rightC ⟨A, T, N, L, B, P, S⟩) : BegW ⟨A, T, N, L, B, P, S⟩ (layS A T N L (newMS (sizeP A T N L).toNat)).W := by
  obtain ⟨b1, b2, b3, b4, b5, b6, b7, b8, b9, b10, b11, b12⟩ := plan_bd hr
  have hl0 : (newMS (sizeP A T N L).toNat).W.length = (sizeP A T N L).toNat := by simp [newMS]
  have hu0 : ∀ y ∈ (newMS (sizeP A T N L).toNat).W, u64R y := by
    intro y hy
    have : y = 0 := by
      have hy : y ∈ List.replicate (sizeP A T N L).toNat 0 := hy
      exact (List.mem_replicate.1 hy).2
    rw [this]; exact ⟨by decide, by decide⟩
  have h3l : (lay3 A T N L (newMS (sizeP A T N L).toNat)).W.length = (sizeP A T N L).toNat := by unfold lay3; rw [stM_len', layL_len', stM_len', hl0]
  have h3u : ∀ y ∈ (lay3 A T N L (newMS (sizeP A T N L).toNat)).W, u64R y := by
    unfold lay3
    exact stM_u _ _ (layL_u _ _ (stM_u _ _ hu0 ⟨by omega, by omega⟩) _ (by omega)) ⟨by decide, by decide⟩
  generalize hs3 : lay3 A T N L (newMS (sizeP A T N L).toNat) = s3 at *
  by_cases hA : A = 0
  · have e : layS A T N L (newMS (sizeP A T N L).toNat) = s3 := by unfold layS; rw [if_pos hA, hs3]
    rw [e]
    exact ⟨h3l, h3u, fun h => absurd hA h⟩
  · obtain ⟨s5, hs5⟩ : ∃ s5, s5 = stM (stM s3 (nodeA A T N L 1 3) L) (nodeA A T N L 2 0) 18446744073709551615 := ⟨_, rfl⟩
    have e : layS A T N L (newMS (sizeP A T N L).toNat) = layN A T N L s5 L.toNat := by unfold layS; rw [if_neg hA, hs3, hs5]
    have h5l : s5.W.length = (sizeP A T N L).toNat := by rw [hs5, stM_len', stM_len', h3l]
    have h5u : ∀ y ∈ s5.W, u64R y := by rw [hs5]; exact stM_u _ _ (stM_u _ _ h3u ⟨by omega, by omega⟩) ⟨by decide, by decide⟩
    rw [e]
    refine ⟨by rw [layN_len', h5l], layN_u s5 h5u _, fun _ j hj => ?_⟩
    have hj : (j : Int) < L := hj
    have hw : widthP A L = 5 + L := if_neg hA
    have h1w : 1 * widthP A L ≤ N * widthP A L := Int.mul_le_mul_of_nonneg_right (by omega) (by omega)
    have key : ∀ i : Nat, i ≤ L.toNat → ∀ j : Nat, j < i → (layN A T N L s5 i).W.getD (nodesP A T N L + 5 + (j : Int)).toNat 0 = 4 := by
      intro i
      induction i with
      | zero => intro _ j hj; omega
      | succ i ih =>
        intro hi j hj
        rw [layN, node1 hr hA (by omega) (by omega), stM_get _ (by omega) (by rw [layN_len', h5l]; omega)]
        by_cases hij : j = i
        · subst hij
          rw [if_pos (by omega)]; rfl
        · rw [if_neg (by omega)]
          exact ih (by omega) j (by omega)
    unfold atV
    show (if nodeA A T N L 1 (5 + (j : Int)) < 0 then _ else _) = _
    rw [node1 hr hA (by omega) hj, if_neg (by omega)]
    show (layN A T N L s5 L.toNat).W.getD (nodeA A T N L 1 (5 + (j : Int))).toNat 0 = 4
    rw [node1 hr hA (by omega) hj]
    exact key L.toNat (Nat.le_refl _) j (by omega)
theorem empty_row {c : Cf} {W : List Int} (h : BegW c W) (hA : c.A ≠ 0) {i : Int} (h0 : 0 ≤ i) (h1 : i < c.L) : rowV c W i = [] := by
  have := h.n hA i.toNat (by omega)
  rw [Int.toNat_of_nonneg h0] at this
  unfold rowV
  rw [this]
  cases c.N.toNat with
  | zero => rfl
  | succ m => rw [rowF, if_pos (by decide)]
theorem BegW.rowi {c : Cf} {W : List Int} (h : BegW c W) (i : Int) : rowI c W i = [] := by
  unfold rowI
  split
  · rfl
  · rename_i hn
    rw [empty_row h (fun hh => hn (.inl hh)) (by omega) (by omega)]; rfl
theorem BegW.lv {c : Cf} {W : List Int} (hL : 1 ≤ c.L) (h : BegW c W) : lvL c W = [] ∧ deadN c W = 0 := by
  unfold lvL deadN
  by_cases hA : c.A = 0
  · rw [if_pos hA, if_pos hA]; exact ⟨rfl, rfl⟩
  · rw [if_neg hA, if_neg hA, empty_row h hA (by omega) (by omega)]; exact ⟨rfl, rfl⟩
theorem BegW.rows {c : Cf} {W : List Int} (h : BegW c W) (hA : c.A ≠ 0) : ∀ n : Nat, (n : Int) ≤ c.L → rowsR c W n = some (List.replicate n []) := by
  intro n
  induction n with
  | zero => intro _; rfl
  | succ n ih =>
    intro hn
    rw [rowsR, ih (by omega), empty_row h hA (by omega) (show (n : Int) < c.L by omega)]
    show some (List.replicate n [] ++ [[]]) = _
    rw [List.replicate_succ']
theorem BegW.sound {c : Cf} {W : List Int} (hL : 1 ≤ c.L) (h : BegW c W) : soundB c W = decide (c.A ≠ 0) := by
  unfold soundB
  by_cases hA : c.A = 0
  · rw [if_pos hA, decide_eq_false (by simp [hA])]
  · rw [if_neg hA, h.rows hA c.L.toNat (by omega), decide_eq_true hA]
    show (if c.A = 1 then nestB (List.replicate c.L.toNat []) else (List.replicate c.L.toNat []).all risB) = true
    have hg : ∀ i, (List.replicate c.L.toNat ([] : List Int)).getD i [] = [] := fun i => by
      simp only [List.getD, List.getElem?_replicate]
      split <;> rfl
    split
    · unfold nestB
      rw [all_range]
      intro i _
      unfold nestAt
      rw [hg]
      cases decide (i = 0) <;> rfl
    · rw [List.all_eq_true]
      intro x hx
      rw [(List.mem_replicate.1 hx).2]; rfl
section
variable {w : World}
set_option maxRecDepth 10000 in
theorem row_nil (w : World) : Fn Try.prog 11 #[.pointer none, .int .i64 0] w fun r w' => r = .slice none 0 0 ∧ Upd [] w w' := by
  refine fn_enter Try.func11 rfl rfl ?_
  refine cl (of_nil w) ?_
  rintro _ w1 ⟨rfl, hu1⟩
  refine al zVw (fun _ => by kernel_rfl) fun w2 hb2 hu2 hs2 => ?_
  refine stw hb2 rfl rfl zVw_one fun w3 hb3 hu3 hs3 => ?_
  exact ⟨rfl, (hu1.trans hu2).step hu3 (by have := hu1.size; simp; omega)⟩
set_option maxRecDepth 10000 in
theorem live_nil (w : World) : Fn Try.prog 12 #[.pointer none] w fun r w' => r = .slice none 0 0 ∧ Upd [] w w' := by
  refine fn_enter Try.func12 rfl rfl ?_
  refine cl (of_nil w) ?_
  rintro _ w1 ⟨rfl, hu1⟩
  refine al zVw (fun _ => by kernel_rfl) fun w2 hb2 hu2 hs2 => ?_
  refine stw hb2 rfl rfl zVw_one fun w3 hb3 hu3 hs3 => ?_
  exact ⟨rfl, (hu1.trans hu2).step hu3 (by have := hu1.size; simp; omega)⟩
set_option maxRecDepth 10000 in
theorem dead_nil (w : World) : Fn Try.prog 13 #[.pointer none] w fun r w' => r = .int .i64 0 ∧ Upd [] w w' := by
  refine fn_enter Try.func13 rfl rfl ?_
  refine cl (of_nil w) ?_
  rintro _ w1 ⟨rfl, hu1⟩
  refine al zVw (fun _ => by kernel_rfl) fun w2 hb2 hu2 hs2 => ?_
  refine stw hb2 rfl rfl zVw_one fun w3 hb3 hu3 hs3 => ?_
  exact ⟨rfl, (hu1.trans hu2).step hu3 (by have := hu1.size; simp; omega)⟩
set_option maxRecDepth 10000 in
theorem sound_nil (w : World) : Fn Try.prog 14 #[.pointer none] w fun r w' => r = .bool false ∧ Upd [] w w' := by
  refine fn_enter Try.func14 rfl rfl ?_
  refine cl (of_nil w) ?_
  rintro _ w1 ⟨rfl, hu1⟩
  refine al zVw (fun _ => by kernel_rfl) fun w2 hb2 hu2 hs2 => ?_
  refine stw hb2 rfl rfl zVw_one fun w3 hb3 hu3 hs3 => ?_
  exact ⟨rfl, (hu1.trans hu2).step hu3 (by have := hu1.size; simp; omega)⟩
set_option maxRecDepth 10000 in
theorem sound_any {w : World} {X : Mc} (h : Qm w X) (hg : X.c.A ≠ 0 → ∀ i, 0 ≤ i → i < X.c.L → rowV X.c X.s.W i = []) : Fn Try.prog 14 #[ptrV X.m] w fun r w' => r = .bool (soundB X.c X.s.W) ∧ Upd [] w w' := by
  by_cases hA : X.c.A = 0
  · refine fn_enter Try.func14 rfl rfl ?_
    refine cl (of_q h) ?_
    rintro r w1 ⟨hu1, (⟨-, rfl⟩ | ⟨hA', -⟩)⟩
    · refine al zVw (fun _ => by kernel_rfl) fun w2 hb2 hu2 hs2 => ?_
      refine stw hb2 rfl rfl zVw_one fun w3 hb3 hu3 hs3 => ?_
      exact ⟨by rw [soundB, if_pos hA]; rfl, (hu1.trans hu2).step hu3 (by have := hu1.size; simp; omega)⟩
    · exact absurd hA hA'
  · exact sound_q h (.inr (hg hA))
set_option maxRecDepth 100000 in
set_option maxHeartbeats 2000000 in
theorem begins_law {c : Cf} {i : Int} (hi : -9223372036854775808 ≤ i ∧ i ≤ 9223372036854775807) : Fn Try.prog 3 #[.agg (cf7 c), .int .i64 i] w fun r w' => r = .bool true ∧ Upd [] w w' := by
  obtain ⟨A, T, N, L, B, P, S⟩ := c
  refine fn_enter Try.func3 rfl rfl ?_
  refine bx fun w1 hb1 hu1 hs1 => ?_
  have hb1 : Blk w1 w.heap.size 23 (cf7 ⟨A, T, N, L, B, P, S⟩) := hb1
  refine cl (row_nil w1) ?_
  rintro _ w2 ⟨rfl, hu2⟩
  refine len_sl ?_
  refine cl (live_nil w2) ?_
  rintro _ w3 ⟨rfl, hu3⟩
  refine len_sl ?_
  refine cl (dead_nil w3) ?_
  rintro _ w4 ⟨rfl, hu4⟩
  refine cl (sound_nil w4) ?_
  rintro _ w5 ⟨rfl, hu5⟩
  have hu15 := ((hu2.trans hu3).trans hu4).trans hu5
  have hU5 := hu1.trans hu15
  have hb5 := hb1.upd hu15 (by simp)
  refine ldw hb5 rfl ?_
  refine cl (rright_c ⟨A, T, N, L, B, P, S⟩ w5) ?_
  rintro _ w6 ⟨rfl, hu6⟩
  have hU6 := hU5.trans hu6
  have hb6 := hb5.upd hu6 (by simp)
  by_cases hr : rightC ⟨A, T, N, L, B, P, S⟩
  rotate_left
  · refine cY hr ?_
    refine cl (lives24 _) ?_
    rintro _ w7 ⟨rfl, hu7⟩
    exact ⟨rfl, hU6.trans hu7⟩
  refine cN (fun h => h hr) ?_
  refine ldw hb6 rfl ?_
  refine cl (core_new2 (draws := []) true (RdK.nil_ w6 .u8) (by decide)) ?_
  rintro _ w7 ⟨-, hyes⟩
  obtain ⟨m, mp, mv, lv, fp, fv, gs, tv, ths, rfl, hN, -⟩ := hyes hr
  have hbeg := begW hr
  have hL : 1 ≤ L := (plan_bd hr).2.2.2.2.2.1.1
  generalize hX : mc0 m ⟨A, T, N, L, B, P, S⟩ mp mv lv (layS A T N L (newMS (sizeP A T N L).toNat)) gs fp fv [] tv ths = X at *
  have hXc : X.c = ⟨A, T, N, L, B, P, S⟩ := by rw [← hX]; rfl
  have hXW : X.s.W = (layS A T N L (newMS (sizeP A T N L).toNat)).W := by rw [← hX]; rfl
  have hXm : X.m = m := by rw [← hX]; rfl
  rw [← hXm]
  rw [← hXc, ← hXW] at hbeg
  have Q : Qm w7 X := ⟨hN.ok, by rw [hXc]; exact hr, hbeg.l, hbeg.u⟩
  have hL' : 1 ≤ X.c.L := by rw [hXc]; exact hL
  obtain ⟨e1, e2⟩ := hbeg.lv hL'
  have e3 := hbeg.sound hL'
  have hb7 := hb6.upd hN.up (by simp)
  refine ptr_eq ?_
  have Us : Upd [] w7 w7.drew := (Upd.refl [] w7).drew
  refine draw_mixA [(0, true), (1, true), (2, false), (3, true), (4, true), (5, true), (6, true), (7, false), (8, true), (9, true), (10, true), (11, true), (12, true), (13, false), (14, true), (15, true), (16, true), (17, true), (19, true), (20, true), (21, true), (18, false), (22, true), (23, true), (24, true), (25, false), (26, true), (27, true)] (fun w' => Upd [] w7 w') (by decide +kernel) Us ?_
  refine cl (row_q (Q.upd0 Us) i hi) ?_
  rintro rv w8 ⟨hG, hu8⟩
  rw [hbeg.rowi i] at hG
  obtain ⟨ra, rc, rfl, -⟩ := hG.s.form
  have U8 := Us.trans hu8
  refine ⟨U8, ?_⟩
  refine q_len ?_
  refine cl (live_q (Q.upd0 U8)) ?_
  rintro rv w9 ⟨hG9, hu9⟩
  rw [e1] at hG9
  obtain ⟨ra9, rc9, rfl, -⟩ := hG9.s.form
  have U9 := U8.trans hu9
  refine ⟨U9, ?_⟩
  refine q_len ?_
  refine cl (dead_q (Q.upd0 U9)) ?_
  rintro _ wa ⟨rfl, hua⟩
  rw [e2]
  have Ua := U9.trans hua
  refine ⟨Ua, ?_⟩
  refine q_fa ?_
  refine q_ld (v := .int .i64 A) (fun w' hw' => by rw [(hb7.upd hw' (by simp)).cell]; rfl) ?_
  refine cl (sound_any (Q.upd0 Ua) (fun hA i h0 h1 => empty_row hbeg hA h0 h1)) ?_
  rintro _ wb ⟨rfl, hub⟩
  rw [e3, hXc]
  have Ub := Ua.trans hub
  refine ⟨Ub, ?_⟩
  refine rq (.bool true) (fun w' _ => bq ⟨by
    show Value.bool (decide (A ≠ 0) == (A != 0)) = _
    by_cases hA : A = 0
    · subst hA; rfl
    · rw [decide_eq_true hA]; simp [hA], rfl⟩) ?_
  refine cl (lives24 wb) ?_
  rintro _ wc ⟨rfl, huc⟩
  refine ⟨Ub.trans huc, ?_⟩
  exact ⟨rfl, ((hU6.trans hN.up).trans Ub).trans huc⟩
theorem SkipBegins_walk (w : World) (l : List Int) (wl : Fits [.i64, .i64, .i64, .i64, .i64, .i64, .i64] l) (i : Int) (hi : (Lit.int .i64 i).wf) :
    Calls Try.prog 3 #[.agg (mkInts [.i64, .i64, .i64, .i64, .i64, .i64, .i64] l).toArray, .int .i64 i] w fun e w' => e = .returned (.bool true) ∧ Below w.heap.size w w' := by
  obtain ⟨⟨A, T, N, L, B, P, S⟩, rfl⟩ := cf_of wl
  have h0 : IntKind.i64.min ≤ i ∧ i ≤ IntKind.i64.max := by simpa [Lit.wf] using hi
  exact (begins_law (c := ⟨A, T, N, L, B, P, S⟩) h0).mono fun _ _ ⟨_, he, hr, hup⟩ => ⟨by rw [he, hr], hup.below⟩
end
end Go.Proofs.Ytbnbbafffihapaa

