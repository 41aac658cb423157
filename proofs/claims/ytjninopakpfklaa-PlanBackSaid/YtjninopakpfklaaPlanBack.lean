/- The law PlanBack, walked. -/
import Derived.Test.YtjninopakpfklaaPlanAddr
namespace Go.Proofs.Ytjninopakpfklaa
open Go.RowKit Go.Proofs.YtjninopakpfklaaW.PrintWords

theorem haz_z (n f : Int) (w : World) : Calls Try.prog 29 #[.agg (i64s zero15), .int .i64 n, .int .i64 f] w fun e w' => e = .returned (.int .i64 (-1)) ∧ Upd [] w w' :=
  (PHazard.Pl.haz_c_zero n f w).mono fun _ _ h => ⟨h.1, Upd.of_below h.2⟩
theorem link_z (n : Int) (w : World) : Calls Try.prog 30 #[.agg (i64s zero15), .int .i64 n] w fun e w' => e = .returned (.int .i64 (-1)) ∧ Upd [] w w' :=
  (PLink.Pl.link_c_zero n w).mono fun _ _ h => ⟨h.1, Upd.of_below h.2⟩
theorem node_z (n f : Int) (w : World) : Calls Try.prog 31 #[.agg (i64s zero15), .int .i64 n, .int .i64 f] w fun e w' => e = .returned (.int .i64 (-1)) ∧ Upd [] w w' :=
  (PNode.Pl.node_c_zero n f w).mono fun _ _ h => ⟨h.1, Upd.of_below h.2⟩
theorem tree_z (n : Int) (w : World) : Calls Try.prog 32 #[.agg (i64s zero15), .int .i64 n] w fun e w' => e = .returned (.int .i64 (-1)) ∧ Upd [] w w' :=
  (PTree.Pl.tree_c_zero n w).mono fun _ _ h => ⟨h.1, Upd.of_below h.2⟩

theorem three_blk {w w1 : World} {a0 a1 a2 a3 a4 a5 a6 x y : Int} (h : Upd [] (((w.alloc (.cells #[.int .i64 a0, .int .i64 a1, .int .i64 a2, .int .i64 a3, .int .i64 a4, .int .i64 a5, .int .i64 a6] 23)).alloc (.cells #[.int .i64 x, .int .i64 y] 41)).alloc (.cells #[.int .i64 0, .int .i64 0, .int .i64 0, .int .i64 0, .int .i64 0, .int .i64 0, .int .i64 0, .int .i64 0, .int .i64 0, .int .i64 0, .int .i64 0, .int .i64 0, .int .i64 0, .int .i64 0, .int .i64 0] 25)) w1) :
    Hid (Blk w1 w.heap.size 23 #[.int .i64 a0, .int .i64 a1, .int .i64 a2, .int .i64 a3, .int .i64 a4, .int .i64 a5, .int .i64 a6]) ∧ Hid (Blk w1 (w.heap.size + 1) 41 #[.int .i64 x, .int .i64 y]) ∧ Hid (Blk w1 (w.heap.size + 2) 25 (i64s zero15)) ∧ Hid (Upd [] w w1) := by
  have h1 := Blk.new w 23 #[.int .i64 a0, .int .i64 a1, .int .i64 a2, .int .i64 a3, .int .i64 a4, .int .i64 a5, .int .i64 a6]
  have h2 := Blk.new (w.alloc (.cells #[.int .i64 a0, .int .i64 a1, .int .i64 a2, .int .i64 a3, .int .i64 a4, .int .i64 a5, .int .i64 a6] 23)) 41 #[.int .i64 x, .int .i64 y]
  have h3 := Blk.new ((w.alloc (.cells #[.int .i64 a0, .int .i64 a1, .int .i64 a2, .int .i64 a3, .int .i64 a4, .int .i64 a5, .int .i64 a6] 23)).alloc (.cells #[.int .i64 x, .int .i64 y] 41)) 25 #[.int .i64 0, .int .i64 0, .int .i64 0, .int .i64 0, .int .i64 0, .int .i64 0, .int .i64 0, .int .i64 0, .int .i64 0, .int .i64 0, .int .i64 0, .int .i64 0, .int .i64 0, .int .i64 0, .int .i64 0]
  rw [show (w.alloc (.cells #[.int .i64 a0, .int .i64 a1, .int .i64 a2, .int .i64 a3, .int .i64 a4, .int .i64 a5, .int .i64 a6] 23)).heap.size = w.heap.size + 1 by simp] at h2
  rw [show ((w.alloc (.cells #[.int .i64 a0, .int .i64 a1, .int .i64 a2, .int .i64 a3, .int .i64 a4, .int .i64 a5, .int .i64 a6] 23)).alloc (.cells #[.int .i64 x, .int .i64 y] 41)).heap.size = w.heap.size + 2 by simp] at h3
  exact ⟨((h1.alloc _).alloc _).upd h (by simp), (h2.alloc _).upd h (by simp), h3.upd h (by simp), ((((Upd.refl [] w).alloc _).alloc _).alloc _).trans h⟩

theorem where_kinds {A T N L B P S : Int} (h : V A T N L B P S) (a : Int) (h0 : 0 ≤ a) (h1 : a < sizeA A T N L) :
    PAll.Pl.whereL A T N L a = ⟨0, a, 0⟩ ∨ (∃ X Y, PAll.Pl.whereL A T N L a = ⟨1, X, Y⟩ ∧ PHazard.Pl.hazA A T L X Y = a) ∨ (∃ X, PAll.Pl.whereL A T N L a = ⟨2, X, 0⟩ ∧ PLink.Pl.linkA A T N L X = a) ∨
      (∃ X Y, PAll.Pl.whereL A T N L a = ⟨3, X, Y⟩ ∧ PNode.Pl.nodeA A T N L X Y = a) ∨ (∃ X, PAll.Pl.whereL A T N L a = ⟨4, X, 0⟩ ∧ PTree.Pl.treeA A T N L X = a) := by
  have k1 := is1 h a h0 h1
  have k2 := is2 h a h0 h1
  have k3 := is3 h a h0 h1
  have k4 := is4 h a h0 h1
  unfold PAll.Pl.whereL at *
  split
  · exact .inl rfl
  split
  · rw [if_neg (by assumption), if_pos (by assumption)] at k1
    exact .inr (.inl ⟨_, _, rfl, (k1 _ _).1 rfl⟩)
  split
  · rw [if_neg (by assumption), if_neg (by assumption), if_pos (by assumption)] at k2
    exact .inr (.inr (.inl ⟨_, rfl, (k2 _).1 rfl⟩))
  split
  · rw [if_neg (by assumption), if_neg (by assumption), if_neg (by assumption), if_pos (by assumption)] at k3
    exact .inr (.inr (.inr (.inl ⟨_, _, rfl, (k3 _ _).1 rfl⟩)))
  · rw [if_neg (by assumption), if_neg (by assumption), if_neg (by assumption), if_neg (by assumption)] at k4
    exact .inr (.inr (.inr (.inr ⟨_, rfl, (k4 _).1 rfl⟩)))
theorem where_k {A T N L B P S q7 q8 q9 q10 q11 q12 q13 q14 : Int} (hq : PlanOf A T N L B P S q7 q8 q9 q10 q11 q12 q13 q14) (h : V A T N L B P S) {a k X Y : Int} (h0 : 0 ≤ a) (h1 : a < sizeA A T N L) (hw : PAll.Pl.whereL A T N L a = ⟨k, X, Y⟩) (w : World) :
    Calls Try.prog 27 #[.agg (i64s [A, T, N, L, B, P, S, q7, q8, q9, q10, q11, q12, q13, q14]), .int .i64 a] w fun e w' => e = .returned (.tuple #[.int .i64 k, .int .i64 X, .int .i64 Y]) ∧ Upd [] w w' := by
  have := where_q hq h a h0 h1 w
  rw [hw] at this
  exact this
theorem size14 {A T N L B P S q7 q8 q9 q10 q11 q12 q13 q14 : Int} (hq : PlanOf A T N L B P S q7 q8 q9 q10 q11 q12 q13 q14) : sizeA A T N L = q14 := by
  unfold PlanOf planL at hq
  simp only [List.cons.injEq] at hq
  exact hq.2.2.2.2.2.2.2.2.2.2.2.2.2.2.1

set_option maxRecDepth 100000 in
set_option maxHeartbeats 2000000 in
theorem back_n (A T N L B P S a x y : Int) (h : ¬ V A T N L B P S) (w : World) : Calls Try.prog 6 #[confV A T N L B P S, .int .i64 a, .agg #[.int .i64 x, .int .i64 y]] w fun e w' => e = .returned (.bool true) ∧ Upd [] w w' := by
  obtain ⟨q7, q8, q9, q10, q11, q12, q13, q14, hq⟩ := planOf A T N L B P S
  have HQ := hid hq
  clear hq
  unfold confV
  have H := hid h
  clear h
  go_enter Try.func6, Try.ntmps6
  go_wp2_with fail
  refine (haz_z x y _).mono ?_
  rintro e w1 ⟨rfl, hU1⟩
  obtain ⟨HC1, HN1, HZ1, HU1⟩ := three_blk hU1
  clear hU1
  have c0 := HC1.out.cell 0
  have n0 := HN1.out.cell 0
  have n1 := HN1.out.cell 1
  clear c0
  simp at n0 n1
  obtain ⟨z0, z1, z2, z3, z4, z5, z6, z7, z8, z9, z10, z11, z12, z13, z14⟩ := blk15 (show Blk w1 (w.heap.size + 2) 25 (i64s [0, 0, 0, 0, 0, 0, 0, 0, 0, 0, 0, 0, 0, 0, 0]) from HZ1.out)
  go_wp2_with fail
  refine (link_z x _).mono ?_
  rintro e w2 ⟨rfl, hU2⟩
  have HC2 := hid (HC1.out.upd hU2 (by simp))
  have HZ2 := hid (HZ1.out.upd hU2 (by simp))
  have HN2 := hid (HN1.out.upd hU2 (by simp))
  have HU2 := hid (HU1.out.trans hU2)
  clear hU2 n0 n1 z0 z1 z2 z3 z4 z5 z6 z7 z8 z9 z10 z11 z12 z13 z14
  have c0 := HC2.out.cell 0
  have n0 := HN2.out.cell 0
  have n1 := HN2.out.cell 1
  clear c0
  simp at n0 n1
  obtain ⟨z0, z1, z2, z3, z4, z5, z6, z7, z8, z9, z10, z11, z12, z13, z14⟩ := blk15 (show Blk w2 (w.heap.size + 2) 25 (i64s [0, 0, 0, 0, 0, 0, 0, 0, 0, 0, 0, 0, 0, 0, 0]) from HZ2.out)
  go_wp2_with fail
  refine (node_z x y _).mono ?_
  rintro e w3 ⟨rfl, hU3⟩
  have HC3 := hid (HC2.out.upd hU3 (by simp))
  have HZ3 := hid (HZ2.out.upd hU3 (by simp))
  have HN3 := hid (HN2.out.upd hU3 (by simp))
  have HU3 := hid (HU2.out.trans hU3)
  clear hU3 n0 n1 z0 z1 z2 z3 z4 z5 z6 z7 z8 z9 z10 z11 z12 z13 z14
  have c0 := HC3.out.cell 0
  have n0 := HN3.out.cell 0
  have n1 := HN3.out.cell 1
  clear c0
  simp at n0 n1
  obtain ⟨z0, z1, z2, z3, z4, z5, z6, z7, z8, z9, z10, z11, z12, z13, z14⟩ := blk15 (show Blk w3 (w.heap.size + 2) 25 (i64s [0, 0, 0, 0, 0, 0, 0, 0, 0, 0, 0, 0, 0, 0, 0]) from HZ3.out)
  go_wp2_with fail
  refine (tree_z x _).mono ?_
  rintro e w4 ⟨rfl, hU4⟩
  have HC4 := hid (HC3.out.upd hU4 (by simp))
  have HZ4 := hid (HZ3.out.upd hU4 (by simp))
  have HN4 := hid (HN3.out.upd hU4 (by simp))
  have HU4 := hid (HU3.out.trans hU4)
  clear hU4 n0 n1 z0 z1 z2 z3 z4 z5 z6 z7 z8 z9 z10 z11 z12 z13 z14
  have c0 := HC4.out.cell 0
  have n0 := HN4.out.cell 0
  have n1 := HN4.out.cell 1
  clear c0
  simp at n0 n1
  obtain ⟨z0, z1, z2, z3, z4, z5, z6, z7, z8, z9, z10, z11, z12, z13, z14⟩ := blk15 (show Blk w4 (w.heap.size + 2) 25 (i64s [0, 0, 0, 0, 0, 0, 0, 0, 0, 0, 0, 0, 0, 0, 0]) from HZ4.out)
  go_wp2_with fail
  refine (size_c 0 0 0 0 0 0 0 0 0 0 0 0 0 0 0 _).mono ?_
  rintro e w5 ⟨rfl, hU5⟩
  have HC5 := hid (HC4.out.upd hU5 (by simp))
  have HU5 := hid (HU4.out.trans hU5)
  clear hU5 n0 n1 z0 z1 z2 z3 z4 z5 z6 z7 z8 z9 z10 z11 z12 z13 z14 HN1 HN2 HN3 HN4 HZ1 HZ2 HZ3 HZ4 HC1 HC2 HC3 HC4 HU1 HU2 HU3 HU4
  obtain ⟨c0, c1, c2, c3, c4, c5, c6⟩ := cells7 HC5.out
  go_wp2_with fail
  refine (new_no A T N L B P S _ H.out).mono ?_
  rintro e w6 ⟨rfl, hU6⟩
  have HU6 := hid (HU5.out.trans hU6)
  clear hU6 c0 c1 c2 c3 c4 c5 c6
  go_wp2_with (refine wpList_store_blk rfl 25 (.tmp 8) (.tmp 52) rfl rfl w6.heap.size (i64s zero15) rfl rfl 25 _ (Blk.new w6 25 _) info25 rfl (i64s_one _) ?_; intro w7 hb7 hu7; obtain ⟨z0, z1, z2, z3, z4, z5, z6, z7, z8, z9, z10, z11, z12, z13, z14⟩ := blk15 hb7; have HB7 := hid hb7; have HU7 := hid ((HU6.out.alloc _).step hu7 (by have := HU6.out.size; simp; omega)); clear hb7 hu7)
  refine (lives_c _).mono ?_
  rintro e wl ⟨rfl, hUl⟩
  go_wp2_with fail
  go_ret
  exact ⟨rfl, HU7.out.trans hUl⟩
set_option maxRecDepth 100000 in
set_option maxHeartbeats 2000000 in
theorem back_y (A T N L B P S a x y : Int) (h : V A T N L B P S) (w : World) : Calls Try.prog 6 #[confV A T N L B P S, .int .i64 a, .agg #[.int .i64 x, .int .i64 y]] w fun e w' => e = .returned (.bool true) ∧ Upd [] w w' := by
  obtain ⟨q7, q8, q9, q10, q11, q12, q13, q14, hq⟩ := planOf A T N L B P S
  have HQ := hid hq
  clear hq
  unfold confV
  have H := hid h
  clear h
  go_enter Try.func6, Try.ntmps6
  go_wp2_with fail
  refine (haz_z x y _).mono ?_
  rintro e w1 ⟨rfl, hU1⟩
  obtain ⟨HC1, HN1, HZ1, HU1⟩ := three_blk hU1
  clear hU1
  have c0 := HC1.out.cell 0
  have n0 := HN1.out.cell 0
  have n1 := HN1.out.cell 1
  clear c0
  simp at n0 n1
  obtain ⟨z0, z1, z2, z3, z4, z5, z6, z7, z8, z9, z10, z11, z12, z13, z14⟩ := blk15 (show Blk w1 (w.heap.size + 2) 25 (i64s [0, 0, 0, 0, 0, 0, 0, 0, 0, 0, 0, 0, 0, 0, 0]) from HZ1.out)
  go_wp2_with fail
  refine (link_z x _).mono ?_
  rintro e w2 ⟨rfl, hU2⟩
  have HC2 := hid (HC1.out.upd hU2 (by simp))
  have HZ2 := hid (HZ1.out.upd hU2 (by simp))
  have HN2 := hid (HN1.out.upd hU2 (by simp))
  have HU2 := hid (HU1.out.trans hU2)
  clear hU2 n0 n1 z0 z1 z2 z3 z4 z5 z6 z7 z8 z9 z10 z11 z12 z13 z14
  have c0 := HC2.out.cell 0
  have n0 := HN2.out.cell 0
  have n1 := HN2.out.cell 1
  clear c0
  simp at n0 n1
  obtain ⟨z0, z1, z2, z3, z4, z5, z6, z7, z8, z9, z10, z11, z12, z13, z14⟩ := blk15 (show Blk w2 (w.heap.size + 2) 25 (i64s [0, 0, 0, 0, 0, 0, 0, 0, 0, 0, 0, 0, 0, 0, 0]) from HZ2.out)
  go_wp2_with fail
  refine (node_z x y _).mono ?_
  rintro e w3 ⟨rfl, hU3⟩
  have HC3 := hid (HC2.out.upd hU3 (by simp))
  have HZ3 := hid (HZ2.out.upd hU3 (by simp))
  have HN3 := hid (HN2.out.upd hU3 (by simp))
  have HU3 := hid (HU2.out.trans hU3)
  clear hU3 n0 n1 z0 z1 z2 z3 z4 z5 z6 z7 z8 z9 z10 z11 z12 z13 z14
  have c0 := HC3.out.cell 0
  have n0 := HN3.out.cell 0
  have n1 := HN3.out.cell 1
  clear c0
  simp at n0 n1
  obtain ⟨z0, z1, z2, z3, z4, z5, z6, z7, z8, z9, z10, z11, z12, z13, z14⟩ := blk15 (show Blk w3 (w.heap.size + 2) 25 (i64s [0, 0, 0, 0, 0, 0, 0, 0, 0, 0, 0, 0, 0, 0, 0]) from HZ3.out)
  go_wp2_with fail
  refine (tree_z x _).mono ?_
  rintro e w4 ⟨rfl, hU4⟩
  have HC4 := hid (HC3.out.upd hU4 (by simp))
  have HZ4 := hid (HZ3.out.upd hU4 (by simp))
  have HN4 := hid (HN3.out.upd hU4 (by simp))
  have HU4 := hid (HU3.out.trans hU4)
  clear hU4 n0 n1 z0 z1 z2 z3 z4 z5 z6 z7 z8 z9 z10 z11 z12 z13 z14
  have c0 := HC4.out.cell 0
  have n0 := HN4.out.cell 0
  have n1 := HN4.out.cell 1
  clear c0
  simp at n0 n1
  obtain ⟨z0, z1, z2, z3, z4, z5, z6, z7, z8, z9, z10, z11, z12, z13, z14⟩ := blk15 (show Blk w4 (w.heap.size + 2) 25 (i64s [0, 0, 0, 0, 0, 0, 0, 0, 0, 0, 0, 0, 0, 0, 0]) from HZ4.out)
  go_wp2_with fail
  refine (size_c 0 0 0 0 0 0 0 0 0 0 0 0 0 0 0 _).mono ?_
  rintro e w5 ⟨rfl, hU5⟩
  have HC5 := hid (HC4.out.upd hU5 (by simp))
  have HU5 := hid (HU4.out.trans hU5)
  clear hU5 n0 n1 z0 z1 z2 z3 z4 z5 z6 z7 z8 z9 z10 z11 z12 z13 z14 HN1 HN2 HN3 HN4 HZ1 HZ2 HZ3 HZ4 HC1 HC2 HC3 HC4 HU1 HU2 HU3 HU4
  obtain ⟨c0, c1, c2, c3, c4, c5, c6⟩ := cells7 HC5.out
  go_wp2_with fail
  refine (new_q HQ.out H.out _).mono ?_
  rintro e w6 ⟨rfl, hU6⟩
  have HU6 := hid (HU5.out.trans hU6)
  clear hU6 c0 c1 c2 c3 c4 c5 c6
  as_aux_lemma =>
    have hs := size14 HQ.out
    have H14 := hid hs
    clear hs
    by_cases ha : a < 0
    · as_aux_lemma =>
        go_wp2_with (refine wpList_store_blk rfl 25 (.tmp 8) (.tmp 52) rfl rfl w6.heap.size (i64s [A, T, N, L, B, P, S, q7, q8, q9, q10, q11, q12, q13, q14]) rfl rfl 25 _ (Blk.new w6 25 _) info25 rfl (i64s_one _) ?_; intro w7 hb7 hu7; obtain ⟨z0, z1, z2, z3, z4, z5, z6, z7, z8, z9, z10, z11, z12, z13, z14⟩ := blk15 hb7; have HB7 := hid hb7; have HU7 := hid ((HU6.out.alloc _).step hu7 (by have := HU6.out.size; simp; omega)); clear hb7 hu7)
        refine (lives_c _).mono ?_
        rintro e wl ⟨rfl, hUl⟩
        go_wp2_with fail
        go_ret
        exact ⟨rfl, HU7.out.trans hUl⟩
    · have H0 := hid (show 0 ≤ a by omega)
      go_wp2_with (refine wpList_store_blk rfl 25 (.tmp 8) (.tmp 52) rfl rfl w6.heap.size (i64s [A, T, N, L, B, P, S, q7, q8, q9, q10, q11, q12, q13, q14]) rfl rfl 25 _ (Blk.new w6 25 _) info25 rfl (i64s_one _) ?_; intro w7 hb7 hu7; obtain ⟨z0, z1, z2, z3, z4, z5, z6, z7, z8, z9, z10, z11, z12, z13, z14⟩ := blk15 hb7; have HB7 := hid hb7; have HU7 := hid ((HU6.out.alloc _).step hu7 (by have := HU6.out.size; simp; omega)); clear hb7 hu7)
      refine (size_c _ _ _ _ _ _ _ _ _ _ _ _ _ _ _ _).mono ?_
      rintro e w8 ⟨rfl, hU8⟩
      have HB8 := hid (HB7.out.upd hU8 (by simp))
      have HU8 := hid (HU7.out.trans hU8)
      clear hU8 z0 z1 z2 z3 z4 z5 z6 z7 z8 z9 z10 z11 z12 z13 z14
      obtain ⟨z0, z1, z2, z3, z4, z5, z6, z7, z8, z9, z10, z11, z12, z13, z14⟩ := blk15 HB8.out
      by_cases hb : q14 ≤ a
      · as_aux_lemma =>
          go_wp2_with fail
          refine (lives_c _).mono ?_
          rintro e wl ⟨rfl, hUl⟩
          go_wp2_with fail
          go_ret
          exact ⟨rfl, HU8.out.trans hUl⟩
      · have H1 := hid (show a < sizeA A T N L by rw [H14.out]; omega)
        have hk := where_kinds H.out a H0.out H1.out
        go_wp2_with fail
        rcases hk with hw | ⟨X, Y, hw, hr⟩ | ⟨X, hw, hr⟩ | ⟨X, Y, hw, hr⟩ | ⟨X, hw, hr⟩
        · as_aux_lemma =>
            have HW := hid hw
            clear hw
            refine (where_k HQ.out H.out H0.out H1.out HW.out _).mono ?_
            rintro e w9 ⟨rfl, hU9⟩
            have HB9 := hid (HB8.out.upd hU9 (by simp))
            have HU9 := hid (HU8.out.trans hU9)
            clear hU9 z0 z1 z2 z3 z4 z5 z6 z7 z8 z9 z10 z11 z12 z13 z14
            obtain ⟨z0, z1, z2, z3, z4, z5, z6, z7, z8, z9, z10, z11, z12, z13, z14⟩ := blk15 HB9.out
            go_wp2_with fail
            refine (lives_c _).mono ?_
            rintro e wl ⟨rfl, hUl⟩
            go_wp2_with fail
            go_ret
            exact ⟨rfl, HU9.out.trans hUl⟩
        · as_aux_lemma =>
            have HW := hid hw
            clear hw
            refine (where_k HQ.out H.out H0.out H1.out HW.out _).mono ?_
            rintro e w9 ⟨rfl, hU9⟩
            have HB9 := hid (HB8.out.upd hU9 (by simp))
            have HU9 := hid (HU8.out.trans hU9)
            clear hU9 z0 z1 z2 z3 z4 z5 z6 z7 z8 z9 z10 z11 z12 z13 z14
            obtain ⟨z0, z1, z2, z3, z4, z5, z6, z7, z8, z9, z10, z11, z12, z13, z14⟩ := blk15 HB9.out
            have HR := hid hr
            clear hr
            go_wp2_with fail
            refine (haz_q HQ.out H.out X Y _).mono ?_
            rw [HR.out]
            rintro e w10 ⟨rfl, hU10⟩
            have HU10 := hid (HU9.out.trans hU10)
            clear hU10
            go_wp2_with fail
            refine (lives_c _).mono ?_
            rintro e wl ⟨rfl, hUl⟩
            go_wp2_with fail
            go_ret
            exact ⟨rfl, HU10.out.trans hUl⟩
        · as_aux_lemma =>
            have HW := hid hw
            clear hw
            refine (where_k HQ.out H.out H0.out H1.out HW.out _).mono ?_
            rintro e w9 ⟨rfl, hU9⟩
            have HB9 := hid (HB8.out.upd hU9 (by simp))
            have HU9 := hid (HU8.out.trans hU9)
            clear hU9 z0 z1 z2 z3 z4 z5 z6 z7 z8 z9 z10 z11 z12 z13 z14
            obtain ⟨z0, z1, z2, z3, z4, z5, z6, z7, z8, z9, z10, z11, z12, z13, z14⟩ := blk15 HB9.out
            have HR := hid hr
            clear hr
            go_wp2_with fail
            refine (link_q HQ.out H.out X _).mono ?_
            rw [HR.out]
            rintro e w10 ⟨rfl, hU10⟩
            have HU10 := hid (HU9.out.trans hU10)
            clear hU10
            go_wp2_with fail
            refine (lives_c _).mono ?_
            rintro e wl ⟨rfl, hUl⟩
            go_wp2_with fail
            go_ret
            exact ⟨rfl, HU10.out.trans hUl⟩
        · as_aux_lemma =>
            have HW := hid hw
            clear hw
            refine (where_k HQ.out H.out H0.out H1.out HW.out _).mono ?_
            rintro e w9 ⟨rfl, hU9⟩
            have HB9 := hid (HB8.out.upd hU9 (by simp))
            have HU9 := hid (HU8.out.trans hU9)
            clear hU9 z0 z1 z2 z3 z4 z5 z6 z7 z8 z9 z10 z11 z12 z13 z14
            obtain ⟨z0, z1, z2, z3, z4, z5, z6, z7, z8, z9, z10, z11, z12, z13, z14⟩ := blk15 HB9.out
            have HR := hid hr
            clear hr
            go_wp2_with fail
            refine (node_q HQ.out H.out X Y _).mono ?_
            rw [HR.out]
            rintro e w10 ⟨rfl, hU10⟩
            have HU10 := hid (HU9.out.trans hU10)
            clear hU10
            go_wp2_with fail
            refine (lives_c _).mono ?_
            rintro e wl ⟨rfl, hUl⟩
            go_wp2_with fail
            go_ret
            exact ⟨rfl, HU10.out.trans hUl⟩
        · as_aux_lemma =>
            have HW := hid hw
            clear hw
            refine (where_k HQ.out H.out H0.out H1.out HW.out _).mono ?_
            rintro e w9 ⟨rfl, hU9⟩
            have HB9 := hid (HB8.out.upd hU9 (by simp))
            have HU9 := hid (HU8.out.trans hU9)
            clear hU9 z0 z1 z2 z3 z4 z5 z6 z7 z8 z9 z10 z11 z12 z13 z14
            obtain ⟨z0, z1, z2, z3, z4, z5, z6, z7, z8, z9, z10, z11, z12, z13, z14⟩ := blk15 HB9.out
            have HR := hid hr
            clear hr
            go_wp2_with fail
            refine (tree_q HQ.out H.out X _).mono ?_
            rw [HR.out]
            rintro e w10 ⟨rfl, hU10⟩
            have HU10 := hid (HU9.out.trans hU10)
            clear hU10
            go_wp2_with fail
            refine (lives_c _).mono ?_
            rintro e wl ⟨rfl, hUl⟩
            go_wp2_with fail
            go_ret
            exact ⟨rfl, HU10.out.trans hUl⟩

theorem two2 {l : List Int} (h : l.length = 2) : ∃ a b, l = [a, b] := by
  match l, h with
  | [a, b], _ => exact ⟨a, b, rfl⟩
theorem PlanBack_walk (w : World) (l : List Int) (wl : Fits [.i64, .i64, .i64, .i64, .i64, .i64, .i64] l) (a : Int) (wa : (Lit.int .i64 a).wf = true) (n : List Int) (wn : Fits [.i64, .i64] n) :
    Calls Try.prog 6 #[.agg (mkInts [.i64, .i64, .i64, .i64, .i64, .i64, .i64] l).toArray, .int .i64 a, .agg (mkInts [.i64, .i64] n).toArray] w fun e w' => e = .returned (.bool true) ∧ Below w.heap.size w w' := by
  obtain ⟨A, T, N, L, B, P, S, rfl⟩ := seven wl.1
  obtain ⟨x, y, rfl⟩ := two2 wn.1
  by_cases h : V A T N L B P S
  · exact (back_y A T N L B P S a x y h w).mono fun _ _ h => ⟨h.1, h.2.below⟩
  · exact (back_n A T N L B P S a x y h w).mono fun _ _ h => ⟨h.1, h.2.below⟩
end Go.Proofs.Ytjninopakpfklaa
