/- Contracts of the configuration's functions: checks, the reference, the law. -/
import Derived.Test.YtejofmohpjffkaaDf2
import Derived.Test.YtejofmohpjffkaaArgs
namespace Go.Proofs.Ytejofmohpjffkaa.K
open Go.RowKit
attribute [local irreducible] Instr.loadAt Instr.storeAt Instr.fieldAt Instr.indexAt Instr.sliceAt Instr.buildSlice Instr.box Instr.alloc Builtin.append_ Builtin.len_ Builtin.min_ Builtin.max_ Calls Instr.build Instr.makeSlice binSem convert

theorem check_c (c : Cf) (w : World) : Fn Try.prog 14 #[.agg (cf7 c)] w fun r w' => r = .int .i64 (errC c) ∧ Upd [] w w' := by
  obtain ⟨A, T, N, L, B, P, S⟩ := c
  refine fn_enter Try.func14 rfl rfl ?_
  refine bx fun w1 hb1 hu1 hs1 => ?_
  refine ldw hb1 rfl ?_
  refine cl (new_c ⟨A, T, N, L, B, P, S⟩ w1) ?_
  rintro _ w2 ⟨⟨p, rfl, hp, hp1⟩, hu2⟩
  refine al z15 (fun _ => by kernel_rfl) fun w3 hb3 hu3 hs3 => ?_
  have z2 := hu2.size
  refine stw hb3 rfl hp hp1 fun w4 hb4 hu4 hs4 => ?_
  exact ⟨rfl, ((hu1.trans hu2).trans hu3).step hu4 (by simp; omega)⟩
theorem sent_c (c : Cf) (w : World) : Fn Try.prog 49 #[.agg (cf7 c)] w fun r w' => r = .int .i64 (if c.A = 0 then 0 else 2) ∧ Upd [] w w' := by
  obtain ⟨A, T, N, L, B, P, S⟩ := c
  refine fn_enter Try.func49 rfl rfl ?_
  refine bx fun w1 hb1 hu1 hs1 => ?_
  refine fa ?_
  refine ldb hb1 rfl ?_
  refine cd (fun h => ?_) (fun h => ?_)
  · exact ⟨by rw [if_pos h]; rfl, hu1⟩
  · exact ⟨by rw [if_neg h]; rfl, hu1⟩

theorem right_c (c : Cf) (w : World) : Fn Try.prog 15 #[.agg (cf7 c)] w fun r w' => r = .bool (decide (rightC c)) ∧ Upd [] w w' := by
  obtain ⟨A, T, N, L, B, P, S⟩ := c
  refine fn_enter Try.func15 rfl rfl ?_
  refine bx fun w1 hb1 hu1 hs1 => ?_
  refine fa ?_
  refine ldb hb1 rfl ?_
  refine cd (fun hA0 => by exact ⟨by rw [decide_eq_false (fun hh => by have hh := ((rightC_iff ..).1 hh).1; unfold allIn within at hh; omega)]; rfl, hu1⟩) (fun hA0 => ?_)
  refine fa ?_
  refine ldb hb1 rfl ?_
  refine cd (fun hA1 => by exact ⟨by rw [decide_eq_false (fun hh => by have hh := ((rightC_iff ..).1 hh).1; unfold allIn within at hh; omega)]; rfl, hu1⟩) (fun hA1 => ?_)
  refine fa ?_
  refine ldb hb1 rfl ?_
  refine cd (fun hT0 => by exact ⟨by rw [decide_eq_false (fun hh => by have hh := ((rightC_iff ..).1 hh).1; unfold allIn within at hh; omega)]; rfl, hu1⟩) (fun hT0 => ?_)
  refine fa ?_
  refine ldb hb1 rfl ?_
  refine cd (fun hT1 => by exact ⟨by rw [decide_eq_false (fun hh => by have hh := ((rightC_iff ..).1 hh).1; unfold allIn within at hh; omega)]; rfl, hu1⟩) (fun hT1 => ?_)
  refine fa ?_
  refine ldb hb1 rfl ?_
  refine cd (fun hN0 => by exact ⟨by rw [decide_eq_false (fun hh => by have hh := ((rightC_iff ..).1 hh).1; unfold allIn within at hh; omega)]; rfl, hu1⟩) (fun hN0 => ?_)
  refine fa ?_
  refine ldb hb1 rfl ?_
  refine cd (fun hN1 => by exact ⟨by rw [decide_eq_false (fun hh => by have hh := ((rightC_iff ..).1 hh).1; unfold allIn within at hh; omega)]; rfl, hu1⟩) (fun hN1 => ?_)
  refine fa ?_
  refine ldb hb1 rfl ?_
  refine cd (fun hL0 => by exact ⟨by rw [decide_eq_false (fun hh => by have hh := ((rightC_iff ..).1 hh).1; unfold allIn within at hh; omega)]; rfl, hu1⟩) (fun hL0 => ?_)
  refine fa ?_
  refine ldb hb1 rfl ?_
  refine cd (fun hL1 => by exact ⟨by rw [decide_eq_false (fun hh => by have hh := ((rightC_iff ..).1 hh).1; unfold allIn within at hh; omega)]; rfl, hu1⟩) (fun hL1 => ?_)
  refine fa ?_
  refine ldb hb1 rfl ?_
  refine cd (fun hB0 => by exact ⟨by rw [decide_eq_false (fun hh => by have hh := ((rightC_iff ..).1 hh).1; unfold allIn within at hh; omega)]; rfl, hu1⟩) (fun hB0 => ?_)
  refine fa ?_
  refine ldb hb1 rfl ?_
  refine cd (fun hB1 => by exact ⟨by rw [decide_eq_false (fun hh => by have hh := ((rightC_iff ..).1 hh).1; unfold allIn within at hh; omega)]; rfl, hu1⟩) (fun hB1 => ?_)
  refine fa ?_
  refine ldb hb1 rfl ?_
  refine cd (fun hP0 => by exact ⟨by rw [decide_eq_false (fun hh => by have hh := ((rightC_iff ..).1 hh).1; unfold allIn within at hh; omega)]; rfl, hu1⟩) (fun hP0 => ?_)
  refine fa ?_
  refine ldb hb1 rfl ?_
  refine cd (fun hP1 => by exact ⟨by rw [decide_eq_false (fun hh => by have hh := ((rightC_iff ..).1 hh).1; unfold allIn within at hh; omega)]; rfl, hu1⟩) (fun hP1 => ?_)
  refine fa ?_
  refine ldb hb1 rfl ?_
  refine cd (fun hS0 => by exact ⟨by rw [decide_eq_false (fun hh => by have hh := ((rightC_iff ..).1 hh).1; unfold allIn within at hh; omega)]; rfl, hu1⟩) (fun hS0 => ?_)
  refine fa ?_
  refine ldb hb1 rfl ?_
  refine cd (fun hS1 => by exact ⟨by rw [decide_eq_false (fun hh => by have hh := ((rightC_iff ..).1 hh).1; unfold allIn within at hh; omega)]; rfl, hu1⟩) (fun hS1 => ?_)
  refine draw_all (fun w' => Upd [] w1 w') (by decide +kernel) (Upd.refl _ _).drew ?_
  refine q_fa ?_
  refine q_ld (v := .int .i64 N) (fun w' hw' => (hb1.upd hw' (by simp)).cell 2) ?_
  refine rq (.agg #[.int .i64 A, .int .i64 T, .int .i64 N, .int .i64 L, .int .i64 B, .int .i64 P, .int .i64 S]) (fun w' hw' => ldw (hb1.upd hw' (by simp)) rfl ⟨rfl, rfl⟩) ?_
  refine q_cl (.int .i64 (if A = 0 then 0 else 2)) (fun w' hw' => (sent_c ⟨A, T, N, L, B, P, S⟩ w').mono fun _ _ ⟨v, he, h1, h2⟩ => ⟨v, he, h1, hw'.trans h2⟩) ?_
  intro w2 hw2
  refine ⟨?_, hu1.trans hw2⟩
  refine congrArg Value.bool ?_
  by_cases hA : A = 0
  · rw [if_pos hA]
    have : rightC ⟨A, T, N, L, B, P, S⟩ := (rightC_iff ..).2 ⟨⟨by unfold within; omega, by unfold within; omega, by unfold within; omega, by unfold within; omega, by unfold within; omega, by unfold within; omega, by unfold within; omega⟩, .inl hA⟩
    rw [decide_eq_true this]
    simp; omega
  · rw [if_neg hA]
    by_cases hN : 3 ≤ N
    · have : rightC ⟨A, T, N, L, B, P, S⟩ := (rightC_iff ..).2 ⟨⟨by unfold within; omega, by unfold within; omega, by unfold within; omega, by unfold within; omega, by unfold within; omega, by unfold within; omega, by unfold within; omega⟩, .inr hN⟩
      rw [decide_eq_true this]
      simp; omega
    · have : ¬ rightC ⟨A, T, N, L, B, P, S⟩ := fun hh => by have := ((rightC_iff ..).1 hh).2; omega
      rw [decide_eq_false this]
      simp; omega

theorem clip_c' (x lo hi : Int) (h : lo ≤ hi) (w : World) : Fn Try.prog 50 #[.int .i64 x, .int .i64 lo, .int .i64 hi] w fun r w' => r = .int .i64 (clamp x lo hi) ∧ w' = w := clip_c x lo hi h w
theorem rnear_c (c : Cf) (w : World) : Fn Try.prog 16 #[.agg (cf7 c)] w fun r w' => r = .agg (cf7 (nearC c)) ∧ Upd [] w w' := by
  obtain ⟨A, T, N, L, B, P, S⟩ := c
  refine fn_enter Try.func16 rfl rfl ?_
  refine bx fun w1 hb1 hu1 hs1 => ?_
  refine al #[.int .i64 0, .int .i64 0, .int .i64 0, .int .i64 0, .int .i64 0, .int .i64 0, .int .i64 0] (fun _ => by kernel_rfl) fun w2 hb2 hu2 hs2 => ?_
  have hb1' : Blk w2 w.heap.size 23 #[.int .i64 A, .int .i64 T, .int .i64 N, .int .i64 L, .int .i64 B, .int .i64 P, .int .i64 S] := hb1.upd hu2 (by simp)
  have hz1 : w.heap.size < w1.heap.size := by omega
  have hz2 : w1.heap.size < w2.heap.size := by omega
  refine draw_mix 23 [(0, true), (1, true), (2, true), (3, true), (4, true), (5, true), (6, true), (7, true), (8, true), (9, true), (10, true), (11, true), (12, true), (13, true), (14, true), (15, true), (16, true), (17, true), (18, true), (19, true), (20, true), (21, true), (22, false)] (fun w' => Blk w' w.heap.size 23 #[.int .i64 A, .int .i64 T, .int .i64 N, .int .i64 L, .int .i64 B, .int .i64 P, .int .i64 S]) (by decide +kernel) hb1'.drew ?_
  refine q_fa ?_
  refine q_ld (v := .int .i64 A) (fun w' hw' => hw'.cell 0) ?_
  refine t_cl (.int .i64 (clamp A 0 2)) (fun w' _ => clip_c' A 0 2 (by decide) w') ?_
  refine q_fa ?_
  refine q_ld (v := .int .i64 T) (fun w' hw' => hw'.cell 1) ?_
  refine t_cl (.int .i64 (clamp T 1 6)) (fun w' _ => clip_c' T 1 6 (by decide) w') ?_
  refine q_fa ?_
  refine q_ld (v := .int .i64 N) (fun w' hw' => hw'.cell 2) ?_
  refine t_cl (.int .i64 (clamp N 1 64)) (fun w' _ => clip_c' N 1 64 (by decide) w') ?_
  refine q_fa ?_
  refine q_ld (v := .int .i64 L) (fun w' hw' => hw'.cell 3) ?_
  refine t_cl (.int .i64 (clamp L 1 6)) (fun w' _ => clip_c' L 1 6 (by decide) w') ?_
  refine q_fa ?_
  refine q_ld (v := .int .i64 B) (fun w' hw' => hw'.cell 4) ?_
  refine t_cl (.int .i64 (clamp B 1 16)) (fun w' _ => clip_c' B 1 16 (by decide) w') ?_
  refine q_fa ?_
  refine q_ld (v := .int .i64 P) (fun w' hw' => hw'.cell 5) ?_
  refine t_cl (.int .i64 (clamp P 1 16)) (fun w' _ => clip_c' P 1 16 (by decide) w') ?_
  refine q_fa ?_
  refine q_ld (v := .int .i64 S) (fun w' hw' => hw'.cell 6) ?_
  refine t_cl (.int .i64 (clamp S 1 64)) (fun w' _ => clip_c' S 1 64 (by decide) w') ?_
  refine rq (.agg #[.int .i64 (clamp A 0 2), .int .i64 (clamp T 1 6), .int .i64 (clamp N 1 64), .int .i64 (clamp L 1 6), .int .i64 (clamp B 1 16), .int .i64 (clamp P 1 16), .int .i64 (clamp S 1 64)]) (fun w' _ => bd _ (fun _ => by kernel_rfl) ⟨rfl, rfl⟩) ?_
  refine al #[.int .i64 0, .int .i64 0, .int .i64 0, .int .i64 0, .int .i64 0, .int .i64 0, .int .i64 0] (fun _ => by kernel_rfl) fun w3 hb3 hu3 hs3 => ?_
  refine ⟨hb1'.drew.upd hu3 (by simp), ?_⟩
  refine stw hb3 rfl rfl rfl fun w4 hb4 hu4 hs4 => ?_
  have hU4 : Upd [] w w4 := ((hu1.trans hu2).drew.trans hu3).step hu4 (by simp; omega)
  have hr4 := (hb2.drew.upd hu3 (by simp)).upd hu4 (by simp; omega)
  refine fa ?_
  refine ldb hb4 rfl ?_
  have hd : w.heap.size ≤ w1.heap.size := by omega
  have hlast : ∀ w5 cs, Blk w5 w2.heap.size 23 (cf7 cs) → True := fun _ _ _ => trivial
  refine cd (fun hA => ?_) (fun hA => ?_)
  · refine fa ?_
    refine ldb hb4 rfl ?_
    refine cd (fun hN => ?_) (fun hN => ?_)
    · refine fa ?_
      refine st hb4 (by simp) rfl fun w5 hb5 hu5 hs5 => ?_
      refine ldw hb5 rfl ?_
      refine stw (hr4.upd hu5 (by simp; omega)) rfl rfl rfl fun w6 hb6 hu6 hs6 => ?_
      refine rlw hb6 rfl ?_
      refine ⟨?_, (hU4.step hu5 (by simp; omega)).step hu6 (by simp; omega)⟩
      simp only [nearC, cf7, if_neg (show ¬ clamp A 0 2 = 0 by omega), if_pos (show 3 > clamp N 1 64 by omega)]
      rfl
    · refine ldw hb4 rfl ?_
      refine stw hr4 rfl rfl rfl fun w6 hb6 hu6 hs6 => ?_
      refine rlw hb6 rfl ?_
      refine ⟨?_, hU4.step hu6 (by simp; omega)⟩
      simp only [nearC, cf7, if_neg (show ¬ clamp A 0 2 = 0 by omega), if_neg (show ¬ 3 > clamp N 1 64 by omega)]
      rfl
  · have h0 : 0 ≤ clamp A 0 2 := by unfold clamp; split <;> (try split) <;> omega
    refine ldw hb4 rfl ?_
    refine stw hr4 rfl rfl rfl fun w6 hb6 hu6 hs6 => ?_
    refine rlw hb6 rfl ?_
    refine ⟨?_, hU4.step hu6 (by simp; omega)⟩
    simp only [nearC, cf7, if_pos (show clamp A 0 2 = 0 by omega)]
    rfl

theorem clamp_in (x lo hi : Int) (h : lo ≤ hi) : within (clamp x lo hi) lo hi := by unfold within clamp; split <;> (try split) <;> omega
theorem clamp_id (x lo hi : Int) (h : within x lo hi) : clamp x lo hi = x := by unfold within at h; unfold clamp; split <;> (try split) <;> omega
theorem near_right (c : Cf) : rightC (nearC c) := by
  obtain ⟨A, T, N, L, B, P, S⟩ := c
  have h1 := clamp_in A 0 2 (by decide)
  have h2 := clamp_in N 1 64 (by decide)
  refine (rightC_iff ..).2 ⟨⟨clamp_in A 0 2 (by decide), clamp_in T 1 6 (by decide), ?_, clamp_in L 1 6 (by decide), clamp_in B 1 16 (by decide), clamp_in P 1 16 (by decide), clamp_in S 1 64 (by decide)⟩, ?_⟩
  · unfold within at *
    split
    · exact h2
    · split <;> omega
  · by_cases hA : clamp A 0 2 = 0
    · exact .inl hA
    · right; rw [if_neg hA]; split <;> omega
theorem near_id (c : Cf) (h : rightC c) : nearC c = c := by
  obtain ⟨A, T, N, L, B, P, S⟩ := c
  obtain ⟨⟨hA, hT, hN, hL, hB, hP, hS⟩, h3⟩ := h
  simp only [nearC, clamp_id _ _ _ hA, clamp_id _ _ _ hT, clamp_id _ _ _ hN, clamp_id _ _ _ hL, clamp_id _ _ _ hB, clamp_id _ _ _ hP, clamp_id _ _ _ hS]
  by_cases hA0 : A = 0
  · rw [if_pos hA0]
  · rw [if_neg hA0, if_neg (by omega)]
theorem err_near (c : Cf) : errC (nearC c) = 0 := if_pos (near_right c)
theorem eq_cf (c : Cf) : eqCells (cf7 c).toList (cf7 c).toList = true := by
  obtain ⟨A, T, N, L, B, P, S⟩ := c
  exact eqCells_refl [.i .i64, .i .i64, .i .i64, .i .i64, .i .i64, .i .i64, .i .i64] _ rfl
theorem fits_cf (c : Cf) : fitsK [.i .i64, .i .i64, .i .i64, .i .i64, .i .i64, .i .i64, .i .i64] (cf7 c).toList = true := by
  obtain ⟨A, T, N, L, B, P, S⟩ := c
  rfl
theorem cf7_len (c : Cf) : (cf7 c).toList.length = 7 := by obtain ⟨A, T, N, L, B, P, S⟩ := c; rfl
theorem cf7_one (c : Cf) : (cf7 c).toList.all (·.oneCell') = true := by obtain ⟨A, T, N, L, B, P, S⟩ := c; rfl
theorem lives_c (w : World) : Fn Try.prog 17 #[] w fun r w' => r = .bool true ∧ Upd [] w w' := by
  refine fn_enter Try.func17 rfl rfl ?_
  refine bd (cf7 ⟨0, 0, 0, 0, 0, 0, 0⟩) (fun _ => by kernel_rfl) ?_
  refine cl (near_c ⟨0, 0, 0, 0, 0, 0, 0⟩ w) ?_
  rintro _ w1 ⟨rfl, hu1⟩
  refine bd (cf7 ⟨0, 1, 1, 1, 1, 1, 1⟩) (fun _ => by kernel_rfl) ?_
  refine aq (fits_cf _) (fits_cf _) ?_
  have e : nearC ⟨0, 0, 0, 0, 0, 0, 0⟩ = ⟨0, 1, 1, 1, 1, 1, 1⟩ := by simp [nearC, clamp]
  exact ⟨by rw [e, eq_cf]; rfl, hu1⟩
theorem eqq {w : World} (c : Cf) {x y : Operand} : RunP Try.prog (binSem .eql 23 x y (.agg (cf7 c)) (.agg (cf7 c))) (fun v' w' => v' = .bool true ∧ w' = w) w := aq (fits_cf _) (fits_cf _) ⟨by rw [eq_cf], rfl⟩
theorem q_err {w0 : World} (c : Cf) (v : Int) (h : errC c = v) : ∀ w, Upd [] w0 w → Fn Try.prog 14 #[.agg (cf7 c)] w fun r w' => r = .int .i64 v ∧ Upd [] w0 w' := fun w hw => (check_c c w).mono fun _ _ ⟨u, he, h1, h2⟩ => ⟨u, he, h ▸ h1, hw.trans h2⟩
theorem checks_c (c : Cf) (w : World) : Fn Try.prog 3 #[.agg (cf7 c)] w fun r w' => r = .bool true ∧ Upd [] w w' := by
  refine fn_enter Try.func3 rfl rfl ?_
  refine bx fun w1 hb1 hu1 hs1 => ?_
  refine ldw hb1 (cf7_len c) ?_
  refine cl (near_c c w1) ?_
  rintro _ w2 ⟨rfl, hu2⟩
  refine al #[.int .i64 0, .int .i64 0, .int .i64 0, .int .i64 0, .int .i64 0, .int .i64 0, .int .i64 0] (fun _ => by kernel_rfl) fun w3 hb3 hu3 hs3 => ?_
  have z2 := hu2.size
  refine stw hb3 rfl (cf7_len _) (cf7_one _) fun w4 hb4 hu4 hs4 => ?_
  have hb1 : Blk w1 w.heap.size 23 (cf7 c) := hb1
  have hc : Blk w4 w.heap.size 23 (cf7 c) := ((hb1.upd hu2 (by simp)).upd hu3 (by simp)).upd hu4 (by simp; omega)
  have hU : Upd [] w w4 := ((hu1.trans hu2).trans hu3).step hu4 (by simp; omega)
  generalize w.heap.size = q1 at *
  generalize w2.heap.size = q2 at *
  have lc : ∀ w', Upd [] w4 w' → RunP Try.prog (Instr.loadAt 23 (.pointer (some ⟨q1, 0, none⟩))) (fun v w'' => v = .agg (cf7 c) ∧ w'' = w') w' := fun w' hw' => ldw (hc.upd hw' (by simp)) (cf7_len c) ⟨rfl, rfl⟩
  have ln : ∀ w', Upd [] w4 w' → RunP Try.prog (Instr.loadAt 23 (.pointer (some ⟨q2, 0, none⟩))) (fun v w'' => v = .agg (cf7 (nearC c)) ∧ w'' = w') w' := fun w' hw' => ldw (hb4.upd hw' (by simp)) (cf7_len _) ⟨rfl, rfl⟩
  by_cases hr : rightC c
  all_goals
    refine draw_all (fun w' => Upd [] w4 w') (by decide +kernel) (Upd.refl _ _).drew ?_
    refine rq (.agg (cf7 c)) lc ?_
    first
    | refine q_cl (.int .i64 0) (q_err c _ (if_pos hr)) ?_
    | refine q_cl (.int .i64 6) (q_err c _ (if_neg hr)) ?_
    refine rq (.agg (cf7 c)) lc ?_
    refine q_cl (.bool (decide (rightC c))) (fun w' hw' => (right_c c w').mono fun _ _ ⟨u, he, h1, h2⟩ => ⟨u, he, h1, hw'.trans h2⟩) ?_
    refine rq (.bool true) (fun _ _ => bq ⟨by simp [hr], rfl⟩) ?_
    refine rq (.agg (cf7 (nearC c))) ln ?_
    refine rq (.agg (cf7 c)) lc ?_
    refine q_cl (.agg (cf7 (nearC c))) (fun w' hw' => (rnear_c c w').mono fun _ _ ⟨u, he, h1, h2⟩ => ⟨u, he, h1, hw'.trans h2⟩) ?_
    refine rq (.bool true) (fun _ _ => eqq _) ?_
    refine rq (.agg (cf7 (nearC c))) ln ?_
    refine q_cl (.int .i64 0) (q_err (nearC c) _ (err_near c)) ?_
    refine rq (.agg (cf7 (nearC c))) ln ?_
    refine q_cl (.agg (cf7 (nearC c))) (fun w' hw' => (near_c (nearC c) w').mono fun _ _ ⟨u, he, h1, h2⟩ => ⟨u, he, by rw [h1, near_id _ (near_right c)], hw'.trans h2⟩) ?_
    refine rq (.agg (cf7 (nearC c))) ln ?_
    refine rq (.bool true) (fun _ _ => eqq _) ?_
    refine rq (.agg (cf7 c)) lc ?_
  · refine q_cl (.int .i64 0) (q_err c _ (if_pos hr)) ?_
    refine rq (.agg (cf7 c)) (fun w' hw' => by have := ln w' hw'; rwa [near_id c hr] at this) ?_
    refine rq (.agg (cf7 c)) lc ?_
    refine rq (.bool true) (fun _ _ => eqq _) ?_
    refine q_cl (.bool true) (fun w' hw' => (lives_c w').mono fun _ _ ⟨u, he, h1, h2⟩ => ⟨u, he, h1, hw'.trans h2⟩) ?_
    intro w5 hw5
    exact ⟨rfl, hU.trans hw5⟩
  · refine q_cl (.int .i64 6) (q_err c _ (if_neg hr)) ?_
    refine q_cl (.bool true) (fun w' hw' => (lives_c w').mono fun _ _ ⟨u, he, h1, h2⟩ => ⟨u, he, h1, hw'.trans h2⟩) ?_
    intro w5 hw5
    exact ⟨rfl, hU.trans hw5⟩
theorem cf_of {l : List Int} (h : Fits [.i64, .i64, .i64, .i64, .i64, .i64, .i64] l) : ∃ c : Cf, l = cfL c := by
  have hlen := h.1
  match l, hlen with
  | [a, b, c, d, e, f, g], _ => exact ⟨⟨a, b, c, d, e, f, g⟩, rfl⟩
theorem ConfChecks_walk (w : World) (l : List Int) (wl : Fits [.i64, .i64, .i64, .i64, .i64, .i64, .i64] l) :
    Calls Try.prog 3 #[.agg (mkInts [.i64, .i64, .i64, .i64, .i64, .i64, .i64] l).toArray] w fun e w' => e = .returned (.bool true) ∧ Below w.heap.size w w' := by
  obtain ⟨c, rfl⟩ := cf_of wl
  obtain ⟨A, T, N, L, B, P, S⟩ := c
  exact (checks_c ⟨A, T, N, L, B, P, S⟩ w).mono fun _ _ ⟨_, he, hv, hu⟩ => ⟨by rw [he, hv], hu.below⟩
end Go.Proofs.Ytejofmohpjffkaa.K
