/- The law PlanTells, walked. -/
import Derived.Test.YtjninopakpfklaaPlanMid
import Derived.Test.YtjninopakpfklaaPlWhere
import Derived.Test.YtjninopakpfklaaPlRight
import Derived.Test.YtjninopakpfklaaArgs
namespace Go.Proofs.Ytjninopakpfklaa
open Go.RowKit Go.Proofs.YtjninopakpfklaaW.PrintWords

theorem right_y (A T N L B P S : Int) (h : V A T N L B P S) (w : World) : Calls Try.prog 16 #[confV A T N L B P S] w fun e w' => e = .returned (.bool true) ∧ Upd [] w w' :=
  (PRight.Pl.right_c A T N L B P S w).mono fun _ _ h' => ⟨h'.1.trans (by rw [decide_eq_true h]), Upd.of_below h'.2⟩
theorem right_n (A T N L B P S : Int) (h : ¬ V A T N L B P S) (w : World) : Calls Try.prog 16 #[confV A T N L B P S] w fun e w' => e = .returned (.bool false) ∧ Upd [] w w' :=
  (PRight.Pl.right_c A T N L B P S w).mono fun _ _ h' => ⟨h'.1.trans (by rw [decide_eq_false h]), Upd.of_below h'.2⟩

theorem blk7 {w w1 : World} {a0 a1 a2 a3 a4 a5 a6 : Int} (h : Upd [] (w.alloc (.cells #[.int .i64 a0, .int .i64 a1, .int .i64 a2, .int .i64 a3, .int .i64 a4, .int .i64 a5, .int .i64 a6] 23)) w1) :
    Blk w1 w.heap.size 23 #[.int .i64 a0, .int .i64 a1, .int .i64 a2, .int .i64 a3, .int .i64 a4, .int .i64 a5, .int .i64 a6] := (Blk.new w 23 _).upd h (by simp)
theorem cells7 {w1 : World} {g : Nat} {a0 a1 a2 a3 a4 a5 a6 : Int} (h : Blk w1 g 23 #[.int .i64 a0, .int .i64 a1, .int .i64 a2, .int .i64 a3, .int .i64 a4, .int .i64 a5, .int .i64 a6]) :
    w1.cell? ⟨g, 0, none⟩ = some (.int .i64 a0) ∧ w1.cell? ⟨g, 1, none⟩ = some (.int .i64 a1) ∧ w1.cell? ⟨g, 2, none⟩ = some (.int .i64 a2) ∧ w1.cell? ⟨g, 3, none⟩ = some (.int .i64 a3) ∧ w1.cell? ⟨g, 4, none⟩ = some (.int .i64 a4) ∧ w1.cell? ⟨g, 5, none⟩ = some (.int .i64 a5) ∧ w1.cell? ⟨g, 6, none⟩ = some (.int .i64 a6) :=
  ⟨h.cell 0, h.cell 1, h.cell 2, h.cell 3, h.cell 4, h.cell 5, h.cell 6⟩
theorem upd_alloc {w w1 : World} {o : Obj} (h : Upd [] (w.alloc o) w1) : Upd [] w w1 := ((Upd.refl [] w).alloc o).trans h

set_option maxRecDepth 100000 in
set_option maxHeartbeats 1000000 in
theorem tells_n (A T N L B P S a : Int) (h : ¬ V A T N L B P S) (w : World) : Calls Try.prog 4 #[confV A T N L B P S, .int .i64 a] w fun e w' => e = .returned (.bool true) ∧ Upd [] w w' := by
  unfold confV
  have H := hid h
  clear h
  go_enter Try.func4, Try.ntmps4
  go_wp2_with fail
  refine (right_n A T N L B P S H.out _).mono ?_
  rintro e w1 ⟨rfl, hU1⟩
  have HU1 := hid (upd_alloc hU1)
  clear hU1
  go_wp2_with fail
  refine (lives_c _).mono ?_
  rintro e w2 ⟨rfl, hU2⟩
  go_wp2_with fail
  go_ret
  exact ⟨rfl, HU1.out.trans hU2⟩

/-- a plan's numbers, the last eight under names of their own -/
def PlanOf (A T N L B P S q7 q8 q9 q10 q11 q12 q13 q14 : Int) : Prop := planL A T N L B P S = [A, T, N, L, B, P, S, q7, q8, q9, q10, q11, q12, q13, q14]
theorem planOf (A T N L B P S : Int) : ∃ q7 q8 q9 q10 q11 q12 q13 q14, PlanOf A T N L B P S q7 q8 q9 q10 q11 q12 q13 q14 := ⟨_, _, _, _, _, _, _, _, rfl⟩
theorem new_q {A T N L B P S q7 q8 q9 q10 q11 q12 q13 q14 : Int} (hq : PlanOf A T N L B P S q7 q8 q9 q10 q11 q12 q13 q14) (h : V A T N L B P S) (w : World) :
    Calls Try.prog 15 #[confV A T N L B P S] w (NewPost w [A, T, N, L, B, P, S, q7, q8, q9, q10, q11, q12, q13, q14] 0) := by
  have := new_ok A T N L B P S w h
  rw [hq] at this
  exact this
/-- how many addresses there are -/
def sizeA (A T N L : Int) : Int := 8 + T * slots A L + N + N * width A L + tree A L
theorem where_q {A T N L B P S q7 q8 q9 q10 q11 q12 q13 q14 : Int} (hq : PlanOf A T N L B P S q7 q8 q9 q10 q11 q12 q13 q14) (h : V A T N L B P S) (a : Int) (h0 : 0 ≤ a) (h1 : a < sizeA A T N L) (w : World) :
    Calls Try.prog 27 #[.agg (i64s [A, T, N, L, B, P, S, q7, q8, q9, q10, q11, q12, q13, q14]), .int .i64 a] w fun e w' => e = .returned (.tuple #[.int .i64 (PAll.Pl.whereL A T N L a).f0, .int .i64 (PAll.Pl.whereL A T N L a).f1, .int .i64 (PAll.Pl.whereL A T N L a).f2]) ∧ Upd [] w w' := by
  have := PWhere.Pl.where_c A T N L B P S a h h0 h1 w
  rw [hq] at this
  exact this.mono fun _ _ h' => ⟨h'.1, Upd.of_below h'.2⟩
theorem where_qn {A T N L B P S q7 q8 q9 q10 q11 q12 q13 q14 : Int} (hq : PlanOf A T N L B P S q7 q8 q9 q10 q11 q12 q13 q14) (a : Int) (h1 : a < 0 ∨ sizeA A T N L ≤ a) (w : World) :
    Calls Try.prog 27 #[.agg (i64s [A, T, N, L, B, P, S, q7, q8, q9, q10, q11, q12, q13, q14]), .int .i64 a] w fun e w' => e = .returned (.tuple #[.int .i64 5, .int .i64 0, .int .i64 0]) ∧ Upd [] w w' := by
  have := PWhere.Pl.where_c_no A T N L B P S a h1 w
  rw [hq] at this
  exact this.mono fun _ _ h' => ⟨h'.1, Upd.of_below h'.2⟩

theorem all_q {A T N L B P S : Int} (h : V A T N L B P S) (w : World) :
    Calls Try.prog 26 #[confV A T N L B P S] w fun e w' => ∃ v, e = .returned v ∧ Kd.R PAll.k39 39 w' w.heap.size (fun _ => True) v (PAll.Pl.allL A T N L) ∧ Upd [] w w' :=
  (PAll.Pl.all_c A T N L B P S h w).mono fun _ _ ⟨v, h1, h2, h3⟩ => ⟨v, h1, h2, Upd.of_below h3⟩

set_option maxRecDepth 100000 in
set_option maxHeartbeats 1000000 in
theorem tells_y (A T N L B P S a : Int) (h : V A T N L B P S) (w : World) : Calls Try.prog 4 #[confV A T N L B P S, .int .i64 a] w fun e w' => e = .returned (.bool true) ∧ Upd [] w w' := by
  obtain ⟨q7, q8, q9, q10, q11, q12, q13, q14, hq⟩ := planOf A T N L B P S
  have HQ := hid hq
  clear hq
  unfold confV
  have H := hid h
  clear h
  go_enter Try.func4, Try.ntmps4
  go_wp2_with fail
  refine (right_y A T N L B P S H.out _).mono ?_
  rintro e w1 ⟨rfl, hU1⟩
  have HC1 := hid (blk7 hU1)
  have HU1 := hid (upd_alloc hU1)
  obtain ⟨c0, c1, c2, c3, c4, c5, c6⟩ := cells7 HC1.out
  clear hU1
  go_wp2_with fail
  refine (new_q HQ.out H.out _).mono ?_
  rintro e w2 ⟨rfl, hU2⟩
  clear c0 c1 c2 c3 c4 c5 c6
  have HC2 := hid (HC1.out.upd hU2 (by simp))
  have HU2 := hid (HU1.out.trans hU2)
  clear hU2
  obtain ⟨c0, c1, c2, c3, c4, c5, c6⟩ := cells7 HC2.out
  go_wp2_with (refine wpList_store_blk rfl 25 (.tmp 5) (.tmp 18) rfl rfl w2.heap.size (i64s [A, T, N, L, B, P, S, q7, q8, q9, q10, q11, q12, q13, q14]) rfl rfl 25 _ (Blk.new w2 25 _) info25 rfl (i64s_one _) ?_; intro w3 hb3 hu3; obtain ⟨z0, z1, z2, z3, z4, z5, z6, z7, z8, z9, z10, z11, z12, z13, z14⟩ := blk15 hb3; have HB3 := hid hb3; have HC3 := hid ((HC2.out.alloc _).upd hu3 (by have := HC2.out.lt; simp; omega)); have HU3 := hid ((HU2.out.alloc _).step hu3 (by have := HU2.out.size; simp; omega)); clear hb3 hu3 c0 c1 c2 c3 c4 c5 c6; obtain ⟨c0, c1, c2, c3, c4, c5, c6⟩ := cells7 HC3.out)
  refine (all_q H.out _).mono ?_
  rintro e w4 ⟨v, rfl, hR, hU4⟩
  obtain ⟨Ad, cp, rfl, hcp, hC⟩ := Kd.R_reads hR
  have HC4 := hid hC
  have HB4 := hid (HB3.out.upd hU4 (by simp))
  have HU4 := hid (HU3.out.trans hU4)
  clear hR hC hU4 c0 c1 c2 c3 c4 c5 c6 z0 z1 z2 z3 z4 z5 z6 z7 z8 z9 z10 z11 z12 z13 z14
  obtain ⟨z0, z1, z2, z3, z4, z5, z6, z7, z8, z9, z10, z11, z12, z13, z14⟩ := blk15 HB4.out
  have hl0 := PAll.Pl.all_length A T N L B P S H.out
  have hl1 : ((PAll.Pl.allL A T N L).length : Int) = sizeA A T N L := hl0
  have hl2 : (PAll.Pl.allL A T N L).length < 2000 := by
    have hb := bounds_sw A T N L B P S (by have := H.out; unfold V at this; unfold V0; omega)
    have := H.out
    unfold V at this
    omega
  clear hl0
  by_cases ha : a < 0 ∨ sizeA A T N L ≤ a
  · have HA := hid ha
    have HL1 := hid hl1
    have h0 : a < 0 ∨ ¬ a < 0 ∧ ((PAll.Pl.allL A T N L).length : Int) ≤ a := by omega
    clear ha hl1
    generalize (PAll.Pl.allL A T N L).length = n at *
    rcases h0 with h0 | h0
    · go_wp2_with fail
      refine (where_qn HQ.out a HA.out _).mono ?_
      rintro e w5 ⟨rfl, hU5⟩
      go_wp2_with fail
      refine (lives_c _).mono ?_
      rintro e w6 ⟨rfl, hU6⟩
      go_wp2_with fail
      go_ret
      exact ⟨rfl, (HU4.out.trans hU5).trans hU6⟩
    · obtain ⟨h0, h1⟩ := h0
      go_wp2_with fail
      refine (where_qn HQ.out a HA.out _).mono ?_
      rintro e w5 ⟨rfl, hU5⟩
      go_wp2_with fail
      refine (lives_c _).mono ?_
      rintro e w6 ⟨rfl, hU6⟩
      go_wp2_with fail
      go_ret
      exact ⟨rfl, (HU4.out.trans hU5).trans hU6⟩
  · have h0 : 0 ≤ a := by omega
    have h1 : a < sizeA A T N L := by omega
    clear ha
    have HH := hid h1
    have hg := PAll.Pl.all_get A T N L B P S H.out a.toNat (by omega)
    rw [Int.toNat_of_nonneg h0] at hg
    have hgd : PAll.rd_T39 (PAll.Pl.allL A T N L) a = PAll.Pl.whereL A T N L a := by
      unfold PAll.rd_T39
      rw [List.getD_eq_getElem?_getD, hg]; rfl
    have h2 : a < ((PAll.Pl.allL A T N L).length : Int) := by omega
    clear hg h1
    have HGD := hid hgd
    clear hgd hl1
    obtain ⟨ad, hq1, r0, r1, r2⟩ := PAll.at_T39 HC4.out a h0 h2
    subst hq1
    clear r0 r1 r2
    go_wp2_with fail
    refine (where_q HQ.out H.out a h0 HH.out _).mono ?_
    rintro e w5 ⟨rfl, hU5⟩
    obtain ⟨ad', had', r0, r1, r2⟩ := PAll.at_T39 (Kd.C_below HC4.out hU5.below) a h0 h2
    obtain rfl := Option.some.inj had'
    rw [HGD.out] at r0 r1 r2
    have HU5 := hid (HU4.out.trans hU5)
    clear hU5 z0 z1 z2 z3 z4 z5 z6 z7 z8 z9 z10 z11 z12 z13 z14
    have HH2 := hid h2
    generalize (PAll.Pl.allL A T N L).length = n at *
    generalize PAll.Pl.whereL A T N L a = x at *
    go_wp2_with fail
    refine (lives_c _).mono ?_
    rintro e w6 ⟨rfl, hU6⟩
    go_wp2_with fail
    go_ret
    exact ⟨rfl, HU5.out.trans hU6⟩

theorem tells_w (A T N L B P S a : Int) (w : World) : Calls Try.prog 4 #[confV A T N L B P S, .int .i64 a] w fun e w' => e = .returned (.bool true) ∧ Upd [] w w' := by
  by_cases h : V A T N L B P S
  · exact tells_y A T N L B P S a h w
  · exact tells_n A T N L B P S a h w
theorem seven {l : List Int} (h : l.length = 7) : ∃ a b c d e f g, l = [a, b, c, d, e, f, g] := by
  match l, h with
  | [a, b, c, d, e, f, g], _ => exact ⟨a, b, c, d, e, f, g, rfl⟩
theorem PlanTells_walk (w : World) (l : List Int) (wl : Fits [.i64, .i64, .i64, .i64, .i64, .i64, .i64] l) (a : Int) (wa : (Lit.int .i64 a).wf = true) :
    Calls Try.prog 4 #[.agg (mkInts [.i64, .i64, .i64, .i64, .i64, .i64, .i64] l).toArray, .int .i64 a] w fun e w' => e = .returned (.bool true) ∧ Below w.heap.size w w' := by
  obtain ⟨A, T, N, L, B, P, S, rfl⟩ := seven wl.1
  exact (tells_w A T N L B P S a w).mono fun _ _ h => ⟨h.1, h.2.below⟩
end Go.Proofs.Ytjninopakpfklaa
