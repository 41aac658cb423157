/- The contracts of plan.New whole, of a plan's numbers, and of the chapter's example. -/
import Derived.Test.YtjninopakpfklaaPlanNew
import Derived.Test.YtjninopakpfklaaPlNode
import Derived.Test.YtjninopakpfklaaPSizex1
import Derived.Test.YtjninopakpfklaaPConfx1
namespace Go.Proofs.Ytjninopakpfklaa
open Go.RowKit

theorem new_ok (A T N L B P S : Int) (w : World) (h : V A T N L B P S) : Calls Try.prog 15 #[confV A T N L B P S] w (NewPost w (planL A T N L B P S) 0) := by
  have := new_half A T N L B P S w (by unfold V at h; unfold V0; omega)
  rwa [if_neg (by unfold V at h; unfold sent; split <;> omega)] at this
theorem new_no (A T N L B P S : Int) (w : World) (h : ¬ V A T N L B P S) : Calls Try.prog 15 #[confV A T N L B P S] w (NewPost w zero15 6) := by
  by_cases h0 : V0 A T N L B P S
  · have := new_half A T N L B P S w h0
    rwa [if_pos (by unfold V at h; unfold V0 at h0; unfold sent; split <;> omega)] at this
  · exact new_bad1 A T N L B P S w (by rw [spans_ok]; unfold V0 at h0; exact decide_eq_false h0)

theorem size_c (a0 a1 a2 a3 a4 a5 a6 a7 a8 a9 a10 a11 a12 a13 a14 : Int) (w : World) :
    Calls Try.prog 17 #[.agg (i64s [a0, a1, a2, a3, a4, a5, a6, a7, a8, a9, a10, a11, a12, a13, a14])] w fun e w' => e = .returned (.int .i64 a14) ∧ Upd [] w w' :=
  (PSize.plan_Plan_Size.calls a0 a1 a2 a3 a4 a5 a6 a7 a8 a9 a10 a11 a12 a13 a14 a14 w rfl).mono fun _ _ h => ⟨h.1, Upd.of_below h.2⟩
theorem conf_c (a0 a1 a2 a3 a4 a5 a6 a7 a8 a9 a10 a11 a12 a13 a14 : Int) (w : World) :
    Calls Try.prog 18 #[.agg (i64s [a0, a1, a2, a3, a4, a5, a6, a7, a8, a9, a10, a11, a12, a13, a14])] w fun e w' => e = .returned (confV a0 a1 a2 a3 a4 a5 a6) ∧ Upd [] w w' :=
  (PConf.plan_Plan_Conf.calls a0 a1 a2 a3 a4 a5 a6 a7 a8 a9 a10 a11 a12 a13 a14 a0 a1 a2 a3 a4 a5 a6 w rfl).mono fun _ _ h => ⟨h.1, Upd.of_below h.2⟩

theorem blk15 {w : World} {g : Nat} {a0 a1 a2 a3 a4 a5 a6 a7 a8 a9 a10 a11 a12 a13 a14 : Int} (h : Blk w g 25 (i64s [a0, a1, a2, a3, a4, a5, a6, a7, a8, a9, a10, a11, a12, a13, a14])) :
    w.cell? ⟨g, 0, none⟩ = some (.int .i64 a0) ∧ w.cell? ⟨g, 1, none⟩ = some (.int .i64 a1) ∧ w.cell? ⟨g, 2, none⟩ = some (.int .i64 a2) ∧ w.cell? ⟨g, 3, none⟩ = some (.int .i64 a3) ∧ w.cell? ⟨g, 4, none⟩ = some (.int .i64 a4) ∧ w.cell? ⟨g, 5, none⟩ = some (.int .i64 a5) ∧ w.cell? ⟨g, 6, none⟩ = some (.int .i64 a6) ∧ w.cell? ⟨g, 7, none⟩ = some (.int .i64 a7) ∧ w.cell? ⟨g, 8, none⟩ = some (.int .i64 a8) ∧ w.cell? ⟨g, 9, none⟩ = some (.int .i64 a9) ∧ w.cell? ⟨g, 10, none⟩ = some (.int .i64 a10) ∧ w.cell? ⟨g, 11, none⟩ = some (.int .i64 a11) ∧ w.cell? ⟨g, 12, none⟩ = some (.int .i64 a12) ∧ w.cell? ⟨g, 13, none⟩ = some (.int .i64 a13) ∧ w.cell? ⟨g, 14, none⟩ = some (.int .i64 a14) :=
  ⟨h.cell 0, h.cell 1, h.cell 2, h.cell 3, h.cell 4, h.cell 5, h.cell 6, h.cell 7, h.cell 8, h.cell 9, h.cell 10, h.cell 11, h.cell 12, h.cell 13, h.cell 14⟩

theorem new20 (w : World) : Calls Try.prog 15 #[confV 0 1 2 1 1 1 1] w (NewPost w [0, 1, 2, 1, 1, 1, 1, 2, 3, 0, 8, 10, 12, 18, 20] 0) := new_ok 0 1 2 1 1 1 1 w (by unfold V; omega)
theorem node16 (w : World) : Calls Try.prog 31 #[.agg (i64s [0, 1, 2, 1, 1, 1, 1, 2, 3, 0, 8, 10, 12, 18, 20]), .int .i64 2, .int .i64 1] w fun e w' => e = .returned (.int .i64 16) ∧ Upd [] w w' :=
  (PNode.Pl.node_c 0 1 2 1 1 1 1 2 1 (by unfold V; omega) w).mono fun _ _ h => ⟨h.1, Upd.of_below h.2⟩

set_option maxRecDepth 100000 in
set_option maxHeartbeats 1000000 in
theorem lives_c (w : World) : Calls Try.prog 19 #[] w fun e w' => e = .returned (.bool true) ∧ Upd [] w w' := by
  go_enter Try.func19, Try.ntmps19
  go_wp2_with fail
  refine (new20 _).mono ?_
  rintro e w1 ⟨rfl, hU1⟩
  have HU1 := hid hU1
  go_wp2_with (refine wpList_store_blk rfl 25 (.tmp 1) (.tmp 6) rfl rfl w1.heap.size (i64s [0, 1, 2, 1, 1, 1, 1, 2, 3, 0, 8, 10, 12, 18, 20]) rfl rfl 25 _ (Blk.new w1 25 _) info25 rfl (i64s_one _) ?_; intro w2 hb2 hu2; obtain ⟨z0, z1, z2, z3, z4, z5, z6, z7, z8, z9, z10, z11, z12, z13, z14⟩ := blk15 hb2; have HB := hid hb2; have HU2 := hid ((HU1.out.alloc _).step hu2 (by have := HU1.out.size; simp; omega)); clear hb2 hu2)
  refine (size_c 0 1 2 1 1 1 1 _ _ _ _ _ _ _ _ _).mono ?_
  rintro e w3 ⟨rfl, hU3⟩
  clear z0 z1 z2 z3 z4 z5 z6 z7 z8 z9 z10 z11 z12 z13 z14
  obtain ⟨z0, z1, z2, z3, z4, z5, z6, z7, z8, z9, z10, z11, z12, z13, z14⟩ := blk15 (HB.out.upd hU3 (by simp))
  have HU3 := hid (HU2.out.trans hU3)
  clear hU3
  go_wp2_with fail
  refine (node16 _).mono ?_
  rintro e w4 ⟨rfl, hU4⟩
  go_wp2_with fail
  go_ret
  exact ⟨rfl, HU3.out.trans hU4⟩
end Go.Proofs.Ytjninopakpfklaa
