/- The law PlanMakes, walked. -/
import Derived.Test.YtjninopakpfklaaPlanTells
import Derived.Test.YtjninopakpfklaaPSlotsx1
import Derived.Test.YtjninopakpfklaaPWidthx1
import Derived.Test.YtjninopakpfklaaPSentinelsx1
namespace Go.Proofs.Ytjninopakpfklaa
open Go.RowKit Go.Proofs.YtjninopakpfklaaW.PrintWords
theorem slots_c (a0 a1 a2 a3 a4 a5 a6 a7 a8 a9 a10 a11 a12 a13 a14 : Int) (w : World) :
    Calls Try.prog 20 #[.agg (i64s [a0, a1, a2, a3, a4, a5, a6, a7, a8, a9, a10, a11, a12, a13, a14])] w fun e w' => e = .returned (.int .i64 a7) ∧ Upd [] w w' :=
  (PSlots.plan_Plan_Slots.calls a0 a1 a2 a3 a4 a5 a6 a7 a8 a9 a10 a11 a12 a13 a14 a7 w rfl).mono fun _ _ h => ⟨h.1, Upd.of_below h.2⟩
theorem width_c (a0 a1 a2 a3 a4 a5 a6 a7 a8 a9 a10 a11 a12 a13 a14 : Int) (w : World) :
    Calls Try.prog 22 #[.agg (i64s [a0, a1, a2, a3, a4, a5, a6, a7, a8, a9, a10, a11, a12, a13, a14])] w fun e w' => e = .returned (.int .i64 a8) ∧ Upd [] w w' :=
  (PWidth.plan_Plan_Width.calls a0 a1 a2 a3 a4 a5 a6 a7 a8 a9 a10 a11 a12 a13 a14 a8 w rfl).mono fun _ _ h => ⟨h.1, Upd.of_below h.2⟩
theorem sents_c (a0 a1 a2 a3 a4 a5 a6 a7 a8 a9 a10 a11 a12 a13 a14 : Int) (w : World) :
    Calls Try.prog 24 #[.agg (i64s [a0, a1, a2, a3, a4, a5, a6, a7, a8, a9, a10, a11, a12, a13, a14])] w fun e w' => e = .returned (.int .i64 a9) ∧ Upd [] w w' :=
  (PSentinels.plan_Plan_Sentinels.calls a0 a1 a2 a3 a4 a5 a6 a7 a8 a9 a10 a11 a12 a13 a14 a9 w rfl).mono fun _ _ h => ⟨h.1, Upd.of_below h.2⟩

theorem rslots_c (A T N L B P S : Int) (h : V A T N L B P S) (w : World) : Calls Try.prog 21 #[confV A T N L B P S] w fun e w' => e = .returned (.int .i64 (slots A L)) ∧ Upd [] w w' :=
  (PAll.jostleref06_Slots.calls A T N L B P S _ w (by
    unfold V at h
    unfold PAll.jostleref06_Slots.f slots
    by_cases hA : A = 0
    · rw [if_pos hA, if_pos hA]
    · rw [if_neg hA, if_neg hA, PAll.Pl.wr (2 * L) (by omega) (by omega), PAll.Pl.wr _ (by omega) (by omega)])).mono fun _ _ h => ⟨h.1, Upd.of_below h.2⟩
theorem rwidth_c (A T N L B P S : Int) (h : V A T N L B P S) (w : World) : Calls Try.prog 23 #[confV A T N L B P S] w fun e w' => e = .returned (.int .i64 (width A L)) ∧ Upd [] w w' :=
  (PAll.jostleref06_Width.calls A T N L B P S _ w (by
    unfold V at h
    unfold PAll.jostleref06_Width.f width
    by_cases hA : A = 0
    · rw [if_pos hA, if_pos hA]
    · rw [if_neg hA, if_neg hA, PAll.Pl.wr _ (by omega) (by omega)])).mono fun _ _ h => ⟨h.1, Upd.of_below h.2⟩
theorem rsent_c (A T N L B P S : Int) (w : World) : Calls Try.prog 25 #[confV A T N L B P S] w fun e w' => e = .returned (.int .i64 (sent A)) ∧ Upd [] w w' :=
  (PRight.jostleref06_Sentinels.calls A T N L B P S _ w (by unfold PRight.jostleref06_Sentinels.f sent; split <;> rfl)).mono fun _ _ h => ⟨h.1, Upd.of_below h.2⟩

theorem conf_o (a0 a1 a2 a3 a4 a5 a6 a7 a8 a9 a10 a11 a12 a13 a14 : Int) (w : World) :
    Calls Try.prog 18 #[.agg (i64s [a0, a1, a2, a3, a4, a5, a6, a7, a8, a9, a10, a11, a12, a13, a14])] w fun e w' => e = .returned (.agg #[.int .i64 a0, .int .i64 a1, .int .i64 a2, .int .i64 a3, .int .i64 a4, .int .i64 a5, .int .i64 a6]) ∧ Upd [] w w' := conf_c a0 a1 a2 a3 a4 a5 a6 a7 a8 a9 a10 a11 a12 a13 a14 w
theorem keep22 {w w' w'' : World} {g gp : Nat} {a0 a1 a2 a3 a4 a5 a6 a7 a8 a9 a10 a11 a12 a13 a14 : Int} (hu : Upd [] w' w'') (hC : Hid (Blk w' g 23 #[.int .i64 a0, .int .i64 a1, .int .i64 a2, .int .i64 a3, .int .i64 a4, .int .i64 a5, .int .i64 a6])) (hB : Hid (Blk w' gp 25 (i64s [a0, a1, a2, a3, a4, a5, a6, a7, a8, a9, a10, a11, a12, a13, a14]))) (h : Hid (Upd [] w w')) :
    Hid (Blk w'' g 23 #[.int .i64 a0, .int .i64 a1, .int .i64 a2, .int .i64 a3, .int .i64 a4, .int .i64 a5, .int .i64 a6]) ∧ Hid (Blk w'' gp 25 (i64s [a0, a1, a2, a3, a4, a5, a6, a7, a8, a9, a10, a11, a12, a13, a14])) ∧ Hid (Upd [] w w'') ∧ w''.cell? ⟨g, 0, none⟩ = some (.int .i64 a0) ∧ w''.cell? ⟨g, 1, none⟩ = some (.int .i64 a1) ∧ w''.cell? ⟨g, 2, none⟩ = some (.int .i64 a2) ∧ w''.cell? ⟨g, 3, none⟩ = some (.int .i64 a3) ∧ w''.cell? ⟨g, 4, none⟩ = some (.int .i64 a4) ∧ w''.cell? ⟨g, 5, none⟩ = some (.int .i64 a5) ∧ w''.cell? ⟨g, 6, none⟩ = some (.int .i64 a6) ∧ w''.cell? ⟨gp, 0, none⟩ = some (.int .i64 a0) ∧ w''.cell? ⟨gp, 1, none⟩ = some (.int .i64 a1) ∧ w''.cell? ⟨gp, 2, none⟩ = some (.int .i64 a2) ∧ w''.cell? ⟨gp, 3, none⟩ = some (.int .i64 a3) ∧ w''.cell? ⟨gp, 4, none⟩ = some (.int .i64 a4) ∧ w''.cell? ⟨gp, 5, none⟩ = some (.int .i64 a5) ∧ w''.cell? ⟨gp, 6, none⟩ = some (.int .i64 a6) ∧ w''.cell? ⟨gp, 7, none⟩ = some (.int .i64 a7) ∧ w''.cell? ⟨gp, 8, none⟩ = some (.int .i64 a8) ∧ w''.cell? ⟨gp, 9, none⟩ = some (.int .i64 a9) ∧ w''.cell? ⟨gp, 10, none⟩ = some (.int .i64 a10) ∧ w''.cell? ⟨gp, 11, none⟩ = some (.int .i64 a11) ∧ w''.cell? ⟨gp, 12, none⟩ = some (.int .i64 a12) ∧ w''.cell? ⟨gp, 13, none⟩ = some (.int .i64 a13) ∧ w''.cell? ⟨gp, 14, none⟩ = some (.int .i64 a14) := by
  have h1 := hC.out.upd hu (by simp)
  have h2 := hB.out.upd hu (by simp)
  exact ⟨h1, h2, h.out.trans hu, h1.cell 0, h1.cell 1, h1.cell 2, h1.cell 3, h1.cell 4, h1.cell 5, h1.cell 6, h2.cell 0, h2.cell 1, h2.cell 2, h2.cell 3, h2.cell 4, h2.cell 5, h2.cell 6, h2.cell 7, h2.cell 8, h2.cell 9, h2.cell 10, h2.cell 11, h2.cell 12, h2.cell 13, h2.cell 14⟩
theorem keepS {w w' w'' : World} {g gp : Nat} {a0 a1 a2 a3 a4 a5 a6 a7 a8 a9 a10 a11 a12 a13 a14 : Int} (hu : Upd [] w' w'') (h : (Hid (Blk w' g 23 #[.int .i64 a0, .int .i64 a1, .int .i64 a2, .int .i64 a3, .int .i64 a4, .int .i64 a5, .int .i64 a6]) ∧ Hid (Blk w' gp 25 (i64s [a0, a1, a2, a3, a4, a5, a6, a7, a8, a9, a10, a11, a12, a13, a14])) ∧ Hid (Upd [] w w') ∧ w'.cell? ⟨g, 0, none⟩ = some (.int .i64 a0) ∧ w'.cell? ⟨g, 1, none⟩ = some (.int .i64 a1) ∧ w'.cell? ⟨g, 2, none⟩ = some (.int .i64 a2) ∧ w'.cell? ⟨g, 3, none⟩ = some (.int .i64 a3) ∧ w'.cell? ⟨g, 4, none⟩ = some (.int .i64 a4) ∧ w'.cell? ⟨g, 5, none⟩ = some (.int .i64 a5) ∧ w'.cell? ⟨g, 6, none⟩ = some (.int .i64 a6) ∧ w'.cell? ⟨gp, 0, none⟩ = some (.int .i64 a0) ∧ w'.cell? ⟨gp, 1, none⟩ = some (.int .i64 a1) ∧ w'.cell? ⟨gp, 2, none⟩ = some (.int .i64 a2) ∧ w'.cell? ⟨gp, 3, none⟩ = some (.int .i64 a3) ∧ w'.cell? ⟨gp, 4, none⟩ = some (.int .i64 a4) ∧ w'.cell? ⟨gp, 5, none⟩ = some (.int .i64 a5) ∧ w'.cell? ⟨gp, 6, none⟩ = some (.int .i64 a6) ∧ w'.cell? ⟨gp, 7, none⟩ = some (.int .i64 a7) ∧ w'.cell? ⟨gp, 8, none⟩ = some (.int .i64 a8) ∧ w'.cell? ⟨gp, 9, none⟩ = some (.int .i64 a9) ∧ w'.cell? ⟨gp, 10, none⟩ = some (.int .i64 a10) ∧ w'.cell? ⟨gp, 11, none⟩ = some (.int .i64 a11) ∧ w'.cell? ⟨gp, 12, none⟩ = some (.int .i64 a12) ∧ w'.cell? ⟨gp, 13, none⟩ = some (.int .i64 a13) ∧ w'.cell? ⟨gp, 14, none⟩ = some (.int .i64 a14))) :
    (Hid (Blk w'' g 23 #[.int .i64 a0, .int .i64 a1, .int .i64 a2, .int .i64 a3, .int .i64 a4, .int .i64 a5, .int .i64 a6]) ∧ Hid (Blk w'' gp 25 (i64s [a0, a1, a2, a3, a4, a5, a6, a7, a8, a9, a10, a11, a12, a13, a14])) ∧ Hid (Upd [] w w'') ∧ w''.cell? ⟨g, 0, none⟩ = some (.int .i64 a0) ∧ w''.cell? ⟨g, 1, none⟩ = some (.int .i64 a1) ∧ w''.cell? ⟨g, 2, none⟩ = some (.int .i64 a2) ∧ w''.cell? ⟨g, 3, none⟩ = some (.int .i64 a3) ∧ w''.cell? ⟨g, 4, none⟩ = some (.int .i64 a4) ∧ w''.cell? ⟨g, 5, none⟩ = some (.int .i64 a5) ∧ w''.cell? ⟨g, 6, none⟩ = some (.int .i64 a6) ∧ w''.cell? ⟨gp, 0, none⟩ = some (.int .i64 a0) ∧ w''.cell? ⟨gp, 1, none⟩ = some (.int .i64 a1) ∧ w''.cell? ⟨gp, 2, none⟩ = some (.int .i64 a2) ∧ w''.cell? ⟨gp, 3, none⟩ = some (.int .i64 a3) ∧ w''.cell? ⟨gp, 4, none⟩ = some (.int .i64 a4) ∧ w''.cell? ⟨gp, 5, none⟩ = some (.int .i64 a5) ∧ w''.cell? ⟨gp, 6, none⟩ = some (.int .i64 a6) ∧ w''.cell? ⟨gp, 7, none⟩ = some (.int .i64 a7) ∧ w''.cell? ⟨gp, 8, none⟩ = some (.int .i64 a8) ∧ w''.cell? ⟨gp, 9, none⟩ = some (.int .i64 a9) ∧ w''.cell? ⟨gp, 10, none⟩ = some (.int .i64 a10) ∧ w''.cell? ⟨gp, 11, none⟩ = some (.int .i64 a11) ∧ w''.cell? ⟨gp, 12, none⟩ = some (.int .i64 a12) ∧ w''.cell? ⟨gp, 13, none⟩ = some (.int .i64 a13) ∧ w''.cell? ⟨gp, 14, none⟩ = some (.int .i64 a14)) := keep22 hu h.1 h.2.1 h.2.2.1
theorem plan_eqs {A T N L B P S q7 q8 q9 q10 q11 q12 q13 q14 : Int} (hq : PlanOf A T N L B P S q7 q8 q9 q10 q11 q12 q13 q14) : slots A L = q7 ∧ width A L = q8 ∧ sent A = q9 ∧ sizeA A T N L = q14 := by
  unfold PlanOf planL at hq
  simp only [List.cons.injEq] at hq
  exact ⟨hq.2.2.2.2.2.2.2.1, hq.2.2.2.2.2.2.2.2.1, hq.2.2.2.2.2.2.2.2.2.1, hq.2.2.2.2.2.2.2.2.2.2.2.2.2.2.1⟩
theorem rslots_q {A T N L B P S q7 q8 q9 q10 q11 q12 q13 q14 : Int} (hq : PlanOf A T N L B P S q7 q8 q9 q10 q11 q12 q13 q14) (h : V A T N L B P S) (w : World) : Calls Try.prog 21 #[confV A T N L B P S] w fun e w' => e = .returned (.int .i64 q7) ∧ Upd [] w w' := by
  rw [← (plan_eqs hq).1]; exact rslots_c A T N L B P S h w
theorem rwidth_q {A T N L B P S q7 q8 q9 q10 q11 q12 q13 q14 : Int} (hq : PlanOf A T N L B P S q7 q8 q9 q10 q11 q12 q13 q14) (h : V A T N L B P S) (w : World) : Calls Try.prog 23 #[confV A T N L B P S] w fun e w' => e = .returned (.int .i64 q8) ∧ Upd [] w w' := by
  rw [← (plan_eqs hq).2.1]; exact rwidth_c A T N L B P S h w
theorem rsent_q {A T N L B P S q7 q8 q9 q10 q11 q12 q13 q14 : Int} (hq : PlanOf A T N L B P S q7 q8 q9 q10 q11 q12 q13 q14) (w : World) : Calls Try.prog 25 #[confV A T N L B P S] w fun e w' => e = .returned (.int .i64 q9) ∧ Upd [] w w' := by
  rw [← (plan_eqs hq).2.2.1]; exact rsent_c A T N L B P S w
theorem all_qn {A T N L B P S q7 q8 q9 q10 q11 q12 q13 q14 : Int} (hq : PlanOf A T N L B P S q7 q8 q9 q10 q11 q12 q13 q14) (h : V A T N L B P S) (w : World) : Calls Try.prog 26 #[confV A T N L B P S] w fun e w' => ∃ (Ad : Option Addr) (n c : Nat), e = .returned (.slice Ad n c) ∧ (n : Int) = q14 ∧ Upd [] w w' := by
  refine (all_q h w).mono ?_
  rintro e w1 ⟨v, rfl, hR, hU⟩
  obtain ⟨Ad, cp, rfl, hcp, hC⟩ := Kd.R_reads hR
  refine ⟨Ad, _, cp, rfl, ?_, hU⟩
  rw [← (plan_eqs hq).2.2.2]
  exact PAll.Pl.all_length A T N L B P S h

set_option maxRecDepth 100000 in
set_option maxHeartbeats 2000000 in
theorem makes_n (A T N L B P S : Int) (h : ¬ V A T N L B P S) (w : World) : Calls Try.prog 3 #[confV A T N L B P S] w fun e w' => e = .returned (.bool true) ∧ Upd [] w w' := by
  unfold confV
  have H := hid h
  clear h
  go_enter Try.func3, Try.ntmps3
  go_wp2_with fail
  refine (new_no A T N L B P S _ H.out).mono ?_
  rintro e w2 ⟨rfl, hU2⟩
  have HC2 := hid (blk7 hU2)
  have HU2 := hid (upd_alloc hU2)
  clear hU2
  obtain ⟨c0, c1, c2, c3, c4, c5, c6⟩ := cells7 HC2.out
  go_wp2_with (refine wpList_store_blk rfl 25 (.tmp 3) (.tmp 8) rfl rfl w2.heap.size (i64s zero15) rfl rfl 25 _ (Blk.new w2 25 _) info25 rfl (i64s_one _) ?_; intro w3 hb3 hu3; obtain ⟨z0, z1, z2, z3, z4, z5, z6, z7, z8, z9, z10, z11, z12, z13, z14⟩ := blk15 hb3; have HB3 := hid hb3; have HC3 := hid ((HC2.out.alloc _).upd hu3 (by have := HC2.out.lt; simp; omega)); have HU3 := hid ((HU2.out.alloc _).step hu3 (by have := HU2.out.size; simp; omega)); clear hb3 hu3 c0 c1 c2 c3 c4 c5 c6; obtain ⟨c0, c1, c2, c3, c4, c5, c6⟩ := cells7 HC3.out)
  refine (right_n A T N L B P S H.out _).mono ?_
  rintro e w4 ⟨rfl, hU4⟩
  have HC4 := hid (HC3.out.upd hU4 (by simp))
  have HB4 := hid (HB3.out.upd hU4 (by simp))
  have HU4 := hid (HU3.out.trans hU4)
  clear hU4 c0 c1 c2 c3 c4 c5 c6 z0 z1 z2 z3 z4 z5 z6 z7 z8 z9 z10 z11 z12 z13 z14
  obtain ⟨c0, c1, c2, c3, c4, c5, c6⟩ := cells7 HC4.out
  obtain ⟨z0, z1, z2, z3, z4, z5, z6, z7, z8, z9, z10, z11, z12, z13, z14⟩ := blk15 HB4.out
  go_wp2_with fail
  refine (size_c _ _ _ _ _ _ _ _ _ _ _ _ _ _ _ _).mono ?_
  rintro e w5 ⟨rfl, hU5⟩
  have HC5 := hid (HC4.out.upd hU5 (by simp))
  have HB5 := hid (HB4.out.upd hU5 (by simp))
  have HU5 := hid (HU4.out.trans hU5)
  clear hU5 c0 c1 c2 c3 c4 c5 c6 z0 z1 z2 z3 z4 z5 z6 z7 z8 z9 z10 z11 z12 z13 z14
  obtain ⟨c0, c1, c2, c3, c4, c5, c6⟩ := cells7 HC5.out
  obtain ⟨z0, z1, z2, z3, z4, z5, z6, z7, z8, z9, z10, z11, z12, z13, z14⟩ := blk15 HB5.out
  go_wp2_with fail
  refine (conf_o _ _ _ _ _ _ _ _ _ _ _ _ _ _ _ _).mono ?_
  rintro e w6 ⟨rfl, hU6⟩
  have HC6 := hid (HC5.out.upd hU6 (by simp))
  have HB6 := hid (HB5.out.upd hU6 (by simp))
  have HU6 := hid (HU5.out.trans hU6)
  clear hU6 c0 c1 c2 c3 c4 c5 c6 z0 z1 z2 z3 z4 z5 z6 z7 z8 z9 z10 z11 z12 z13 z14
  obtain ⟨c0, c1, c2, c3, c4, c5, c6⟩ := cells7 HC6.out
  obtain ⟨z0, z1, z2, z3, z4, z5, z6, z7, z8, z9, z10, z11, z12, z13, z14⟩ := blk15 HB6.out
  go_wp2_with fail
  refine (lives_c _).mono ?_
  rintro e w7 ⟨rfl, hU7⟩
  go_wp2_with fail
  go_ret
  exact ⟨rfl, HU6.out.trans hU7⟩
set_option maxRecDepth 100000 in
set_option maxHeartbeats 2000000 in
theorem makes_y (A T N L B P S : Int) (h : V A T N L B P S) (w : World) : Calls Try.prog 3 #[confV A T N L B P S] w fun e w' => e = .returned (.bool true) ∧ Upd [] w w' := by
  obtain ⟨q7, q8, q9, q10, q11, q12, q13, q14, hq⟩ := planOf A T N L B P S
  have HQ := hid hq
  clear hq
  unfold confV
  have H := hid h
  clear h
  go_enter Try.func3, Try.ntmps3
  go_wp2_with fail
  refine (new_q HQ.out H.out _).mono ?_
  rintro e w2 ⟨rfl, hU2⟩
  have HC2 := hid (blk7 hU2)
  have HU2 := hid (upd_alloc hU2)
  clear hU2
  obtain ⟨c0, c1, c2, c3, c4, c5, c6⟩ := cells7 HC2.out
  go_wp2_with (refine wpList_store_blk rfl 25 (.tmp 3) (.tmp 8) rfl rfl w2.heap.size (i64s [A, T, N, L, B, P, S, q7, q8, q9, q10, q11, q12, q13, q14]) rfl rfl 25 _ (Blk.new w2 25 _) info25 rfl (i64s_one _) ?_; intro w3 hb3 hu3; obtain ⟨z0, z1, z2, z3, z4, z5, z6, z7, z8, z9, z10, z11, z12, z13, z14⟩ := blk15 hb3; have HB3 := hid hb3; have HC3 := hid ((HC2.out.alloc _).upd hu3 (by have := HC2.out.lt; simp; omega)); have HU3 := hid ((HU2.out.alloc _).step hu3 (by have := HU2.out.size; simp; omega)); clear hb3 hu3 c0 c1 c2 c3 c4 c5 c6; obtain ⟨c0, c1, c2, c3, c4, c5, c6⟩ := cells7 HC3.out)
  refine (right_y A T N L B P S H.out _).mono ?_
  rintro e w4 ⟨rfl, hU4⟩
  have HC4 := hid (HC3.out.upd hU4 (by simp))
  have HB4 := hid (HB3.out.upd hU4 (by simp))
  have HU4 := hid (HU3.out.trans hU4)
  clear hU4 c0 c1 c2 c3 c4 c5 c6 z0 z1 z2 z3 z4 z5 z6 z7 z8 z9 z10 z11 z12 z13 z14
  obtain ⟨c0, c1, c2, c3, c4, c5, c6⟩ := cells7 HC4.out
  obtain ⟨z0, z1, z2, z3, z4, z5, z6, z7, z8, z9, z10, z11, z12, z13, z14⟩ := blk15 HB4.out
  go_wp2_with fail
  go_region_held3 (fun w' => Hid (Blk w' w.heap.size 23 #[.int .i64 A, .int .i64 T, .int .i64 N, .int .i64 L, .int .i64 B, .int .i64 P, .int .i64 S]) ∧ Hid (Blk w' w2.heap.size 25 (i64s [A, T, N, L, B, P, S, q7, q8, q9, q10, q11, q12, q13, q14])) ∧ Hid (Upd [] w w') ∧ w'.cell? ⟨w.heap.size, 0, none⟩ = some (.int .i64 A) ∧ w'.cell? ⟨w.heap.size, 1, none⟩ = some (.int .i64 T) ∧ w'.cell? ⟨w.heap.size, 2, none⟩ = some (.int .i64 N) ∧ w'.cell? ⟨w.heap.size, 3, none⟩ = some (.int .i64 L) ∧ w'.cell? ⟨w.heap.size, 4, none⟩ = some (.int .i64 B) ∧ w'.cell? ⟨w.heap.size, 5, none⟩ = some (.int .i64 P) ∧ w'.cell? ⟨w.heap.size, 6, none⟩ = some (.int .i64 S) ∧ w'.cell? ⟨w2.heap.size, 0, none⟩ = some (.int .i64 A) ∧ w'.cell? ⟨w2.heap.size, 1, none⟩ = some (.int .i64 T) ∧ w'.cell? ⟨w2.heap.size, 2, none⟩ = some (.int .i64 N) ∧ w'.cell? ⟨w2.heap.size, 3, none⟩ = some (.int .i64 L) ∧ w'.cell? ⟨w2.heap.size, 4, none⟩ = some (.int .i64 B) ∧ w'.cell? ⟨w2.heap.size, 5, none⟩ = some (.int .i64 P) ∧ w'.cell? ⟨w2.heap.size, 6, none⟩ = some (.int .i64 S) ∧ w'.cell? ⟨w2.heap.size, 7, none⟩ = some (.int .i64 q7) ∧ w'.cell? ⟨w2.heap.size, 8, none⟩ = some (.int .i64 q8) ∧ w'.cell? ⟨w2.heap.size, 9, none⟩ = some (.int .i64 q9) ∧ w'.cell? ⟨w2.heap.size, 10, none⟩ = some (.int .i64 q10) ∧ w'.cell? ⟨w2.heap.size, 11, none⟩ = some (.int .i64 q11) ∧ w'.cell? ⟨w2.heap.size, 12, none⟩ = some (.int .i64 q12) ∧ w'.cell? ⟨w2.heap.size, 13, none⟩ = some (.int .i64 q13) ∧ w'.cell? ⟨w2.heap.size, 14, none⟩ = some (.int .i64 q14))
    (first | exact keepS hu9 (by assumption) | exact keepS (Upd.drew (Upd.refl [] _)) (by assumption) | exact keep22 (Upd.drew (Upd.refl [] _)) HC4 HB4 HU4 | go_keep)
    (first
      | (go_at_call 18; refine (conf_o _ _ _ _ _ _ _ _ _ _ _ _ _ _ _ _).mono ?_; rintro e w9 ⟨rfl, hu9⟩)
      | (go_at_call 20; refine (slots_c _ _ _ _ _ _ _ _ _ _ _ _ _ _ _ _).mono ?_; rintro e w9 ⟨rfl, hu9⟩)
      | (go_at_call 22; refine (width_c _ _ _ _ _ _ _ _ _ _ _ _ _ _ _ _).mono ?_; rintro e w9 ⟨rfl, hu9⟩)
      | (go_at_call 24; refine (sents_c _ _ _ _ _ _ _ _ _ _ _ _ _ _ _ _).mono ?_; rintro e w9 ⟨rfl, hu9⟩)
      | (go_at_call 17; refine (size_c _ _ _ _ _ _ _ _ _ _ _ _ _ _ _ _).mono ?_; rintro e w9 ⟨rfl, hu9⟩)
      | (go_at_call 21; refine (rslots_q HQ.out H.out _).mono ?_; rintro e w9 ⟨rfl, hu9⟩)
      | (go_at_call 23; refine (rwidth_q HQ.out H.out _).mono ?_; rintro e w9 ⟨rfl, hu9⟩)
      | (go_at_call 25; refine (rsent_q HQ.out _).mono ?_; rintro e w9 ⟨rfl, hu9⟩)
      | (go_at_call 26; refine (all_qn HQ.out H.out _).mono ?_; rintro e w9 ⟨Ad, n, cp, rfl, hn, hu9⟩)
      | (go_at_call 19; refine (lives_c _).mono ?_; rintro e w9 ⟨rfl, hu9⟩))
  have HF : Hid (Upd [] w w9) := (keepS (g := w.heap.size) (gp := w2.heap.size) (Upd.refl [] w9) (by assumption)).2.2.1
  clear hn
  go_wp2_with fail
  go_ret
  exact ⟨rfl, HF.out⟩

theorem PlanMakes_walk (w : World) (l : List Int) (wl : Fits [.i64, .i64, .i64, .i64, .i64, .i64, .i64] l) :
    Calls Try.prog 3 #[.agg (mkInts [.i64, .i64, .i64, .i64, .i64, .i64, .i64] l).toArray] w fun e w' => e = .returned (.bool true) ∧ Below w.heap.size w w' := by
  obtain ⟨A, T, N, L, B, P, S, rfl⟩ := seven wl.1
  by_cases h : V A T N L B P S
  · exact (makes_y A T N L B P S h w).mono fun _ _ h => ⟨h.1, h.2.below⟩
  · exact (makes_n A T N L B P S h w).mono fun _ _ h => ⟨h.1, h.2.below⟩
end Go.Proofs.Ytjninopakpfklaa
