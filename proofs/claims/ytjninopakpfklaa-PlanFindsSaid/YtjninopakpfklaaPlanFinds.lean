/- The law PlanFinds, walked. -/
import Derived.Test.YtjninopakpfklaaPlanAddr
namespace Go.Proofs.Ytjninopakpfklaa
open Go.RowKit Go.Proofs.YtjninopakpfklaaW.PrintWords

theorem two_blk {w w1 : World} {a0 a1 a2 a3 a4 a5 a6 x y : Int} (h : Upd [] ((w.alloc (.cells #[.int .i64 a0, .int .i64 a1, .int .i64 a2, .int .i64 a3, .int .i64 a4, .int .i64 a5, .int .i64 a6] 23)).alloc (.cells #[.int .i64 x, .int .i64 y] 41)) w1) :
    Hid (Blk w1 w.heap.size 23 #[.int .i64 a0, .int .i64 a1, .int .i64 a2, .int .i64 a3, .int .i64 a4, .int .i64 a5, .int .i64 a6]) ∧ Hid (Blk w1 (w.heap.size + 1) 41 #[.int .i64 x, .int .i64 y]) ∧ Hid (Upd [] w w1) := by
  have h1 := Blk.new w 23 #[.int .i64 a0, .int .i64 a1, .int .i64 a2, .int .i64 a3, .int .i64 a4, .int .i64 a5, .int .i64 a6]
  have h2 := Blk.new (w.alloc (.cells #[.int .i64 a0, .int .i64 a1, .int .i64 a2, .int .i64 a3, .int .i64 a4, .int .i64 a5, .int .i64 a6] 23)) 41 #[.int .i64 x, .int .i64 y]
  rw [show (w.alloc (.cells #[.int .i64 a0, .int .i64 a1, .int .i64 a2, .int .i64 a3, .int .i64 a4, .int .i64 a5, .int .i64 a6] 23)).heap.size = w.heap.size + 1 by simp] at h2
  exact ⟨(h1.alloc _).upd h (by simp), h2.upd h (by simp), (((Upd.refl [] w).alloc _).alloc _).trans h⟩

theorem keepN {w w' w'' : World} {g gp : Nat} {x y a0 a1 a2 a3 a4 a5 a6 a7 a8 a9 a10 a11 a12 a13 a14 : Int} (hu : Upd [] w' w'') (hC : Hid (Blk w' g 41 #[.int .i64 x, .int .i64 y])) (hB : Hid (Blk w' gp 25 (i64s [a0, a1, a2, a3, a4, a5, a6, a7, a8, a9, a10, a11, a12, a13, a14]))) (h : Hid (Upd [] w w')) :
    (Hid (Blk w'' g 41 #[.int .i64 x, .int .i64 y]) ∧ Hid (Blk w'' gp 25 (i64s [a0, a1, a2, a3, a4, a5, a6, a7, a8, a9, a10, a11, a12, a13, a14])) ∧ Hid (Upd [] w w'') ∧ w''.cell? ⟨g, 0, none⟩ = some (.int .i64 x) ∧ w''.cell? ⟨g, 1, none⟩ = some (.int .i64 y) ∧ w''.cell? ⟨gp, 0, none⟩ = some (.int .i64 a0) ∧ w''.cell? ⟨gp, 1, none⟩ = some (.int .i64 a1) ∧ w''.cell? ⟨gp, 2, none⟩ = some (.int .i64 a2) ∧ w''.cell? ⟨gp, 3, none⟩ = some (.int .i64 a3) ∧ w''.cell? ⟨gp, 4, none⟩ = some (.int .i64 a4) ∧ w''.cell? ⟨gp, 5, none⟩ = some (.int .i64 a5) ∧ w''.cell? ⟨gp, 6, none⟩ = some (.int .i64 a6) ∧ w''.cell? ⟨gp, 7, none⟩ = some (.int .i64 a7) ∧ w''.cell? ⟨gp, 8, none⟩ = some (.int .i64 a8) ∧ w''.cell? ⟨gp, 9, none⟩ = some (.int .i64 a9) ∧ w''.cell? ⟨gp, 10, none⟩ = some (.int .i64 a10) ∧ w''.cell? ⟨gp, 11, none⟩ = some (.int .i64 a11) ∧ w''.cell? ⟨gp, 12, none⟩ = some (.int .i64 a12) ∧ w''.cell? ⟨gp, 13, none⟩ = some (.int .i64 a13) ∧ w''.cell? ⟨gp, 14, none⟩ = some (.int .i64 a14)) := by
  have h1 := hC.out.upd hu (by simp)
  have h2 := hB.out.upd hu (by simp)
  exact ⟨h1, h2, h.out.trans hu, h1.cell 0, h1.cell 1, h2.cell 0, h2.cell 1, h2.cell 2, h2.cell 3, h2.cell 4, h2.cell 5, h2.cell 6, h2.cell 7, h2.cell 8, h2.cell 9, h2.cell 10, h2.cell 11, h2.cell 12, h2.cell 13, h2.cell 14⟩
theorem keepNS {w w' w'' : World} {g gp : Nat} {x y a0 a1 a2 a3 a4 a5 a6 a7 a8 a9 a10 a11 a12 a13 a14 : Int} (hu : Upd [] w' w'') (h : (Hid (Blk w' g 41 #[.int .i64 x, .int .i64 y]) ∧ Hid (Blk w' gp 25 (i64s [a0, a1, a2, a3, a4, a5, a6, a7, a8, a9, a10, a11, a12, a13, a14])) ∧ Hid (Upd [] w w') ∧ w'.cell? ⟨g, 0, none⟩ = some (.int .i64 x) ∧ w'.cell? ⟨g, 1, none⟩ = some (.int .i64 y) ∧ w'.cell? ⟨gp, 0, none⟩ = some (.int .i64 a0) ∧ w'.cell? ⟨gp, 1, none⟩ = some (.int .i64 a1) ∧ w'.cell? ⟨gp, 2, none⟩ = some (.int .i64 a2) ∧ w'.cell? ⟨gp, 3, none⟩ = some (.int .i64 a3) ∧ w'.cell? ⟨gp, 4, none⟩ = some (.int .i64 a4) ∧ w'.cell? ⟨gp, 5, none⟩ = some (.int .i64 a5) ∧ w'.cell? ⟨gp, 6, none⟩ = some (.int .i64 a6) ∧ w'.cell? ⟨gp, 7, none⟩ = some (.int .i64 a7) ∧ w'.cell? ⟨gp, 8, none⟩ = some (.int .i64 a8) ∧ w'.cell? ⟨gp, 9, none⟩ = some (.int .i64 a9) ∧ w'.cell? ⟨gp, 10, none⟩ = some (.int .i64 a10) ∧ w'.cell? ⟨gp, 11, none⟩ = some (.int .i64 a11) ∧ w'.cell? ⟨gp, 12, none⟩ = some (.int .i64 a12) ∧ w'.cell? ⟨gp, 13, none⟩ = some (.int .i64 a13) ∧ w'.cell? ⟨gp, 14, none⟩ = some (.int .i64 a14))) :
    (Hid (Blk w'' g 41 #[.int .i64 x, .int .i64 y]) ∧ Hid (Blk w'' gp 25 (i64s [a0, a1, a2, a3, a4, a5, a6, a7, a8, a9, a10, a11, a12, a13, a14])) ∧ Hid (Upd [] w w'') ∧ w''.cell? ⟨g, 0, none⟩ = some (.int .i64 x) ∧ w''.cell? ⟨g, 1, none⟩ = some (.int .i64 y) ∧ w''.cell? ⟨gp, 0, none⟩ = some (.int .i64 a0) ∧ w''.cell? ⟨gp, 1, none⟩ = some (.int .i64 a1) ∧ w''.cell? ⟨gp, 2, none⟩ = some (.int .i64 a2) ∧ w''.cell? ⟨gp, 3, none⟩ = some (.int .i64 a3) ∧ w''.cell? ⟨gp, 4, none⟩ = some (.int .i64 a4) ∧ w''.cell? ⟨gp, 5, none⟩ = some (.int .i64 a5) ∧ w''.cell? ⟨gp, 6, none⟩ = some (.int .i64 a6) ∧ w''.cell? ⟨gp, 7, none⟩ = some (.int .i64 a7) ∧ w''.cell? ⟨gp, 8, none⟩ = some (.int .i64 a8) ∧ w''.cell? ⟨gp, 9, none⟩ = some (.int .i64 a9) ∧ w''.cell? ⟨gp, 10, none⟩ = some (.int .i64 a10) ∧ w''.cell? ⟨gp, 11, none⟩ = some (.int .i64 a11) ∧ w''.cell? ⟨gp, 12, none⟩ = some (.int .i64 a12) ∧ w''.cell? ⟨gp, 13, none⟩ = some (.int .i64 a13) ∧ w''.cell? ⟨gp, 14, none⟩ = some (.int .i64 a14)) := keepN hu h.1 h.2.1 h.2.2.1
set_option maxRecDepth 100000 in
set_option maxHeartbeats 2000000 in
theorem finds_n (A T N L B P S x y : Int) (h : ¬ V A T N L B P S) (w : World) : Calls Try.prog 5 #[confV A T N L B P S, .agg #[.int .i64 x, .int .i64 y]] w fun e w' => e = .returned (.bool true) ∧ Upd [] w w' := by
  unfold confV
  have H := hid h
  clear h
  go_enter Try.func5, Try.ntmps5
  go_wp2_with fail
  refine (right_n A T N L B P S H.out _).mono ?_
  rintro e w1 ⟨rfl, hU1⟩
  obtain ⟨HC1, HN1, HU1⟩ := two_blk hU1
  clear hU1
  go_wp2_with fail
  refine (lives_c _).mono ?_
  rintro e w2 ⟨rfl, hU2⟩
  go_wp2_with fail
  go_ret
  exact ⟨rfl, HU1.out.trans hU2⟩

set_option maxRecDepth 100000 in
set_option maxHeartbeats 2000000 in
theorem finds_y (A T N L B P S x y : Int) (h : V A T N L B P S) (w : World) : Calls Try.prog 5 #[confV A T N L B P S, .agg #[.int .i64 x, .int .i64 y]] w fun e w' => e = .returned (.bool true) ∧ Upd [] w w' := by
  obtain ⟨q7, q8, q9, q10, q11, q12, q13, q14, hq⟩ := planOf A T N L B P S
  have HQ := hid hq
  clear hq
  unfold confV
  have H := hid h
  clear h
  go_enter Try.func5, Try.ntmps5
  go_wp2_with fail
  refine (right_y A T N L B P S H.out _).mono ?_
  rintro e w1 ⟨rfl, hU1⟩
  obtain ⟨HC1, HN1, HU1⟩ := two_blk hU1
  clear hU1
  obtain ⟨c0, c1, c2, c3, c4, c5, c6⟩ := cells7 HC1.out
  go_wp2_with fail
  refine (new_q HQ.out H.out _).mono ?_
  rintro e w2 ⟨rfl, hU2⟩
  clear c0 c1 c2 c3 c4 c5 c6
  have HC2 := hid (HC1.out.upd hU2 (by simp))
  have HN2 := hid (HN1.out.upd hU2 (by simp))
  have HU2 := hid (HU1.out.trans hU2)
  clear hU2
  obtain ⟨c0, c1, c2, c3, c4, c5, c6⟩ := cells7 HC2.out

  go_wp2_with (refine wpList_store_blk rfl 25 (.tmp 5) (.tmp 19) rfl rfl w2.heap.size (i64s [A, T, N, L, B, P, S, q7, q8, q9, q10, q11, q12, q13, q14]) rfl rfl 25 _ (Blk.new w2 25 _) info25 rfl (i64s_one _) ?_; intro w3 hb3 hu3; have HB3 := hid hb3; have HC3 := hid ((HC2.out.alloc _).upd hu3 (by have := HC2.out.lt; simp; omega)); have HN3 := hid ((HN2.out.alloc _).upd hu3 (by have := HN2.out.lt; simp; omega)); have HU3 := hid ((HU2.out.alloc _).step hu3 (by have := HU2.out.size; simp; omega)); clear hb3 hu3 c0 c1 c2 c3 c4 c5 c6; obtain ⟨c0, c1, c2, c3, c4, c5, c6⟩ := cells7 HC3.out)
  refine (all_q H.out _).mono ?_
  rintro e w4 ⟨v, rfl, hR, hU4⟩
  obtain ⟨Ad, cp, rfl, hcp, hC⟩ := Kd.R_reads hR
  have HL4 := hid hC
  have HCP := hid hcp
  have HB4 := hid (HB3.out.upd hU4 (by simp))
  have HN4 := hid (HN3.out.upd hU4 (by simp))
  have HU4 := hid (HU3.out.trans hU4)
  clear hR hC hcp hU4 c0 c1 c2 c3 c4 c5 c6
  have n0 := HN4.out.cell 0
  have n1 := HN4.out.cell 1
  simp at n0 n1
  go_wp2_with fail
  refine (find1 H.out x y Ad cp _ ?_ HCP.out).mono ?_
  exact HL4.out
  rintro e w5 ⟨rfl, hU5⟩
  have HL5 := hid (Kd.C_below HL4.out hU5.below)
  have HB5 := hid (HB4.out.upd hU5 (by simp))
  have HN5 := hid (HN4.out.upd hU5 (by simp))
  have HU5 := hid (HU4.out.trans hU5)
  clear hU5 n0 n1
  have n0 := HN5.out.cell 0
  have n1 := HN5.out.cell 1
  simp at n0 n1
  go_wp2_with fail
  refine (find2 H.out x Ad cp _ ?_ HCP.out).mono ?_
  exact HL5.out
  rintro e w6 ⟨rfl, hU6⟩
  have HL6 := hid (Kd.C_below HL5.out hU6.below)
  have HB6 := hid (HB5.out.upd hU6 (by simp))
  have HN6 := hid (HN5.out.upd hU6 (by simp))
  have HU6 := hid (HU5.out.trans hU6)
  clear hU6 n0 n1
  have n0 := HN6.out.cell 0
  have n1 := HN6.out.cell 1
  simp at n0 n1
  go_wp2_with fail
  refine (find3 H.out x y Ad cp _ ?_ HCP.out).mono ?_
  exact HL6.out
  rintro e w7 ⟨rfl, hU7⟩
  have HL7 := hid (Kd.C_below HL6.out hU7.below)
  have HB7 := hid (HB6.out.upd hU7 (by simp))
  have HN7 := hid (HN6.out.upd hU7 (by simp))
  have HU7 := hid (HU6.out.trans hU7)
  clear hU7 n0 n1
  have n0 := HN7.out.cell 0
  have n1 := HN7.out.cell 1
  simp at n0 n1
  go_wp2_with fail
  refine (find4 H.out x Ad cp _ ?_ HCP.out).mono ?_
  exact HL7.out
  rintro e w8 ⟨rfl, hU8⟩
  have HL8 := hid (Kd.C_below HL7.out hU8.below)
  have HB8 := hid (HB7.out.upd hU8 (by simp))
  have HN8 := hid (HN7.out.upd hU8 (by simp))
  have HU8 := hid (HU7.out.trans hU8)
  clear hU8 n0 n1
  have n0 := HN8.out.cell 0
  have n1 := HN8.out.cell 1
  simp at n0 n1
  obtain ⟨z0, z1, z2, z3, z4, z5, z6, z7, z8, z9, z10, z11, z12, z13, z14⟩ := blk15 HB8.out
  go_wp2_with fail
  refine (haz_q HQ.out H.out x y _).mono ?_
  rintro e w9 ⟨rfl, hU9⟩
  have HB9 := hid (HB8.out.upd hU9 (by simp))
  have HN9 := hid (HN8.out.upd hU9 (by simp))
  have HU9 := hid (HU8.out.trans hU9)
  clear hU9 n0 n1 z0 z1 z2 z3 z4 z5 z6 z7 z8 z9 z10 z11 z12 z13 z14
  have n0 := HN9.out.cell 0
  have n1 := HN9.out.cell 1
  simp at n0 n1
  obtain ⟨z0, z1, z2, z3, z4, z5, z6, z7, z8, z9, z10, z11, z12, z13, z14⟩ := blk15 HB9.out
  go_wp2_with fail
  refine (link_q HQ.out H.out x _).mono ?_
  rintro e w10 ⟨rfl, hU10⟩
  have HB10 := hid (HB9.out.upd hU10 (by simp))
  have HN10 := hid (HN9.out.upd hU10 (by simp))
  have HU10 := hid (HU9.out.trans hU10)
  clear hU10 n0 n1 z0 z1 z2 z3 z4 z5 z6 z7 z8 z9 z10 z11 z12 z13 z14
  have n0 := HN10.out.cell 0
  have n1 := HN10.out.cell 1
  simp at n0 n1
  obtain ⟨z0, z1, z2, z3, z4, z5, z6, z7, z8, z9, z10, z11, z12, z13, z14⟩ := blk15 HB10.out
  go_wp2_with fail
  refine (node_q HQ.out H.out x y _).mono ?_
  rintro e w11 ⟨rfl, hU11⟩
  have HB11 := hid (HB10.out.upd hU11 (by simp))
  have HN11 := hid (HN10.out.upd hU11 (by simp))
  have HU11 := hid (HU10.out.trans hU11)
  clear hU11 n0 n1 z0 z1 z2 z3 z4 z5 z6 z7 z8 z9 z10 z11 z12 z13 z14
  have n0 := HN11.out.cell 0
  have n1 := HN11.out.cell 1
  simp at n0 n1
  obtain ⟨z0, z1, z2, z3, z4, z5, z6, z7, z8, z9, z10, z11, z12, z13, z14⟩ := blk15 HB11.out
  go_wp2_with fail
  refine (tree_q HQ.out H.out x _).mono ?_
  rintro e w12 ⟨rfl, hU12⟩
  have HB12 := hid (HB11.out.upd hU12 (by simp))
  have HN12 := hid (HN11.out.upd hU12 (by simp))
  have HU12 := hid (HU11.out.trans hU12)
  clear hU12 n0 n1 z0 z1 z2 z3 z4 z5 z6 z7 z8 z9 z10 z11 z12 z13 z14
  have n0 := HN12.out.cell 0
  have n1 := HN12.out.cell 1
  simp at n0 n1
  obtain ⟨z0, z1, z2, z3, z4, z5, z6, z7, z8, z9, z10, z11, z12, z13, z14⟩ := blk15 HB12.out
  go_wp2_with fail
  refine (lives_c _).mono ?_
  rintro e w13 ⟨rfl, hU13⟩
  go_wp2_with fail
  go_ret
  exact ⟨rfl, HU12.out.trans hU13⟩
theorem two {l : List Int} (h : l.length = 2) : ∃ a b, l = [a, b] := by
  match l, h with
  | [a, b], _ => exact ⟨a, b, rfl⟩
theorem PlanFinds_walk (w : World) (l : List Int) (wl : Fits [.i64, .i64, .i64, .i64, .i64, .i64, .i64] l) (n : List Int) (wn : Fits [.i64, .i64] n) :
    Calls Try.prog 5 #[.agg (mkInts [.i64, .i64, .i64, .i64, .i64, .i64, .i64] l).toArray, .agg (mkInts [.i64, .i64] n).toArray] w fun e w' => e = .returned (.bool true) ∧ Below w.heap.size w w' := by
  obtain ⟨A, T, N, L, B, P, S, rfl⟩ := seven wl.1
  obtain ⟨x, y, rfl⟩ := two wn.1
  by_cases h : V A T N L B P S
  · exact (finds_y A T N L B P S x y h w).mono fun _ _ h => ⟨h.1, h.2.below⟩
  · exact (finds_n A T N L B P S x y h w).mono fun _ _ h => ⟨h.1, h.2.below⟩
end Go.Proofs.Ytjninopakpfklaa
