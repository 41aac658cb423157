/- Contracts of the configuration's functions. -/
import Derived.Test.YtejofmohpjffkaaTy
namespace Go.Proofs.Ytejofmohpjffkaa.K
open Go.RowKit
attribute [local irreducible] Instr.loadAt Instr.storeAt Instr.fieldAt Instr.indexAt Instr.sliceAt Instr.buildSlice Instr.box Instr.alloc Builtin.append_ Builtin.len_ Builtin.min_ Builtin.max_ Calls Instr.build Instr.makeSlice binSem convert

structure Cf where
  (A T N L B P S : Int)
/-- a configuration's cells -/
def cf7 : Cf → Array Value
  | ⟨A, T, N, L, B, P, S⟩ => #[.int .i64 A, .int .i64 T, .int .i64 N, .int .i64 L, .int .i64 B, .int .i64 P, .int .i64 S]
def cfL : Cf → List Int
  | ⟨A, T, N, L, B, P, S⟩ => [A, T, N, L, B, P, S]
def within (x lo hi : Int) : Prop := lo ≤ x ∧ x ≤ hi
def rightC : Cf → Prop
  | ⟨A, T, N, L, B, P, S⟩ => (within A 0 2 ∧ within T 1 6 ∧ within N 1 64 ∧ within L 1 6 ∧ within B 1 16 ∧ within P 1 16 ∧ within S 1 64) ∧ (A = 0 ∨ 3 ≤ N)
instance (c : Cf) : Decidable (rightC c) := by
  obtain ⟨A, T, N, L, B, P, S⟩ := c
  unfold rightC within
  exact inferInstance

theorem of_c (c : Cf) (w : World) : Fn Try.prog 45 #[.agg (cf7 c)] w fun r w' => r = .agg (cf7 c) ∧ Upd [] w w' := by
  obtain ⟨A, T, N, L, B, P, S⟩ := c
  refine fn_enter Try.func45 rfl rfl ?_
  refine bx fun w1 hb1 hu1 hs1 => ?_
  refine al #[.int .i64 0, .int .i64 0, .int .i64 0, .int .i64 0, .int .i64 0, .int .i64 0, .int .i64 0] (fun _ => by kernel_rfl) fun w2 hb2 hu2 hs2 => ?_
  have hb1' := hb1.upd hu2 (by simp)
  repeat (first | refine fa ?_ | refine ldb hb1' rfl ?_)
  refine bd (cf7 ⟨A, T, N, L, B, P, S⟩) (fun _ => by kernel_rfl) ?_
  refine stw hb2 rfl rfl rfl fun w3 hb3 hu3 hs3 => ?_
  refine rlw hb3 rfl ?_
  exact ⟨rfl, (hu1.trans hu2).step hu3 (by simp; omega)⟩
theorem conf_c (c : Cf) (w : World) : Fn Try.prog 47 #[.agg (cf7 c)] w fun r w' => r = .agg (cf7 c) ∧ Upd [] w w' := by
  obtain ⟨A, T, N, L, B, P, S⟩ := c
  refine fn_enter Try.func47 rfl rfl ?_
  refine bx fun w1 hb1 hu1 hs1 => ?_
  refine al #[.int .i64 0, .int .i64 0, .int .i64 0, .int .i64 0, .int .i64 0, .int .i64 0, .int .i64 0] (fun _ => by kernel_rfl) fun w2 hb2 hu2 hs2 => ?_
  have hb1' := hb1.upd hu2 (by simp)
  refine ixA 0 rfl (by decide) ?_
  refine ldb hb1' rfl ?_
  refine ixA 1 rfl (by decide) ?_
  refine ldb hb1' rfl ?_
  refine ixA 2 rfl (by decide) ?_
  refine ldb hb1' rfl ?_
  refine ixA 3 rfl (by decide) ?_
  refine ldb hb1' rfl ?_
  refine ixA 4 rfl (by decide) ?_
  refine ldb hb1' rfl ?_
  refine ixA 5 rfl (by decide) ?_
  refine ldb hb1' rfl ?_
  refine ixA 6 rfl (by decide) ?_
  refine ldb hb1' rfl ?_
  refine bd (cf7 ⟨A, T, N, L, B, P, S⟩) (fun _ => by kernel_rfl) ?_
  refine stw hb2 rfl rfl rfl fun w3 hb3 hu3 hs3 => ?_
  refine rlw hb3 rfl ?_
  exact ⟨rfl, (hu1.trans hu2).step hu3 (by simp; omega)⟩
def loC : Cf := ⟨0, 1, 1, 1, 1, 1, 1⟩
def hiC : Cf := ⟨2, 6, 64, 6, 16, 16, 64⟩
theorem bounds_c (w : World) : Fn Try.prog 46 #[] w fun r w' => r = .tuple #[.agg (cf7 loC), .agg (cf7 hiC)] ∧ Upd [] w w' := by
  refine fn_enter Try.func46 rfl rfl ?_
  refine al #[.int .i64 0, .int .i64 0, .int .i64 0, .int .i64 0, .int .i64 0, .int .i64 0, .int .i64 0] (fun _ => by kernel_rfl) fun w1 hb1 hu1 hs1 => ?_
  refine al #[.int .i64 0, .int .i64 0, .int .i64 0, .int .i64 0, .int .i64 0, .int .i64 0, .int .i64 0] (fun _ => by kernel_rfl) fun w2 hb2 hu2 hs2 => ?_
  refine bd (cf7 loC) (fun _ => by kernel_rfl) ?_
  refine bd (cf7 hiC) (fun _ => by kernel_rfl) ?_
  refine stw (hb1.upd hu2 (by simp)) rfl rfl rfl fun w3 hb3 hu3 hs3 => ?_
  refine stw (hb2.upd hu3 (by simp; omega)) rfl rfl rfl fun w4 hb4 hu4 hs4 => ?_
  refine rlw (hb3.upd hu4 (by simp; omega)) rfl ?_
  refine rlw hb4 rfl ?_
  exact ⟨rfl, ((hu1.trans hu2).step hu3 (by simp)).step hu4 (by simp; omega)⟩
theorem clip_c (x lo hi : Int) (h : lo ≤ hi) (w : World) : Fn Try.prog 50 #[.int .i64 x, .int .i64 lo, .int .i64 hi] w fun r w' => r = .int .i64 (if x < lo then lo else if x > hi then hi else x) ∧ w' = w := by
  refine fn_enter Try.func50 rfl rfl ?_
  refine cd (fun h1 => ?_) (fun h1 => ?_)
  · exact ⟨by rw [if_pos h1]; rfl, rfl⟩
  · refine cd (fun h2 => ?_) (fun h2 => ?_)
    · exact ⟨by rw [if_neg h1, if_pos h2]; rfl, rfl⟩
    · exact ⟨by rw [if_neg h1, if_neg h2]; rfl, rfl⟩

def clamp (x lo hi : Int) : Int := if x < lo then lo else if x > hi then hi else x
def min_ (x hi : Int) : Int := if hi < x then hi else x
theorem cl_eq (x lo hi : Int) (h : lo ≤ hi) : (if min_ x hi > lo then min_ x hi else lo) = clamp x lo hi := by
  unfold clamp min_
  repeat' split
  all_goals omega
def nearC : Cf → Cf
  | ⟨A, T, N, L, B, P, S⟩ => ⟨clamp A 0 2, clamp T 1 6, if clamp A 0 2 = 0 then clamp N 1 64 else (if 3 > clamp N 1 64 then 3 else clamp N 1 64), clamp L 1 6, clamp B 1 16, clamp P 1 16, clamp S 1 64⟩

/-- the loop of Near: where it stands after so many rounds -/
def upTo (c : Cf) (k : Nat) : List Int := (List.range 7).map fun j => if j < k then clamp ((cfL c).getD j 0) ((cfL loC).getD j 0) ((cfL hiC).getD j 0) else (cfL c).getD j 0
def ints7 (l : List Int) : Array Value := (l.map (Value.int .i64)).toArray
theorem upTo_get (c : Cf) (k : Nat) (hk : k < 7) : (ints7 (upTo c k))[k]? = some (.int .i64 ((cfL c).getD k 0)) := by
  obtain ⟨A, T, N, L, B, P, S⟩ := c
  rcases (show k = 0 ∨ k = 1 ∨ k = 2 ∨ k = 3 ∨ k = 4 ∨ k = 5 ∨ k = 6 by omega) with rfl | rfl | rfl | rfl | rfl | rfl | rfl <;> rfl
theorem upTo_step (c : Cf) (k : Nat) (hk : k < 7) : (ints7 (upTo c k)).setIfInBounds k (.int .i64 (clamp ((cfL c).getD k 0) ((cfL loC).getD k 0) ((cfL hiC).getD k 0))) = ints7 (upTo c (k + 1)) := by
  obtain ⟨A, T, N, L, B, P, S⟩ := c
  rcases (show k = 0 ∨ k = 1 ∨ k = 2 ∨ k = 3 ∨ k = 4 ∨ k = 5 ∨ k = 6 by omega) with rfl | rfl | rfl | rfl | rfl | rfl | rfl <;> rfl
theorem lo_get (k : Nat) (hk : k < 7) : (cf7 loC)[k]? = some (.int .i64 ((cfL loC).getD k 0)) := by
  rcases (show k = 0 ∨ k = 1 ∨ k = 2 ∨ k = 3 ∨ k = 4 ∨ k = 5 ∨ k = 6 by omega) with rfl | rfl | rfl | rfl | rfl | rfl | rfl <;> rfl
theorem hi_get (k : Nat) (hk : k < 7) : (cf7 hiC)[k]? = some (.int .i64 ((cfL hiC).getD k 0)) := by
  rcases (show k = 0 ∨ k = 1 ∨ k = 2 ∨ k = 3 ∨ k = 4 ∨ k = 5 ∨ k = 6 by omega) with rfl | rfl | rfl | rfl | rfl | rfl | rfl <;> rfl
theorem lo_hi (k : Nat) (hk : k < 7) : (cfL loC).getD k 0 ≤ (cfL hiC).getD k 0 := by
  rcases (show k = 0 ∨ k = 1 ∨ k = 2 ∨ k = 3 ∨ k = 4 ∨ k = 5 ∨ k = 6 by omega) with rfl | rfl | rfl | rfl | rfl | rfl | rfl <;> decide
theorem ints7_size (c : Cf) (k : Nat) : (ints7 (upTo c k)).size = 7 := by simp [ints7, upTo]

set_option maxRecDepth 10000 in
theorem near_c (c : Cf) (w : World) : Fn Try.prog 13 #[.agg (cf7 c)] w fun r w' => r = .agg (cf7 (nearC c)) ∧ Upd [] w w' := by
  refine fn_enter Try.func13 rfl rfl ?_
  refine bx fun w1 hb1 hu1 hs1 => ?_
  refine al #[.int .i64 0, .int .i64 0, .int .i64 0, .int .i64 0, .int .i64 0, .int .i64 0, .int .i64 0] (fun _ => by kernel_rfl) fun w2 hb2 hu2 hs2 => ?_
  refine ldw (hb1.upd hu2 (by simp)) rfl ?_
  refine cl (of_c c w2) ?_
  rintro _ w3 ⟨rfl, hu3⟩
  refine al #[.int .i64 0, .int .i64 0, .int .i64 0, .int .i64 0, .int .i64 0, .int .i64 0, .int .i64 0] (fun _ => by kernel_rfl) fun w4 hb4 hu4 hs4 => ?_
  refine stw hb4 rfl (by obtain ⟨A, T, N, L, B, P, S⟩ := c; rfl) (by obtain ⟨A, T, N, L, B, P, S⟩ := c; rfl) fun w5 hb5 hu5 hs5 => ?_
  refine cl (bounds_c w5) ?_
  rintro _ w6 ⟨rfl, hu6⟩
  refine al #[.int .i64 0, .int .i64 0, .int .i64 0, .int .i64 0, .int .i64 0, .int .i64 0, .int .i64 0] (fun _ => by kernel_rfl) fun w7 hb7 hu7 hs7 => ?_
  refine al #[.int .i64 0, .int .i64 0, .int .i64 0, .int .i64 0, .int .i64 0, .int .i64 0, .int .i64 0] (fun _ => by kernel_rfl) fun w8 hb8 hu8 hs8 => ?_
  refine stw (hb7.upd hu8 (by simp)) rfl rfl rfl fun w9 hb9 hu9 hs9 => ?_
  refine stw (hb8.upd hu9 (by simp; omega)) rfl rfl rfl fun w10 hb10 hu10 hs10 => ?_
  have z2 := hu2.size
  have z3 := hu3.size
  have z6 := hu6.size
  have hl := hb9.upd hu10 (by simp; omega)
  have hp : Blk w10 w3.heap.size 70 (ints7 (upTo c 0)) := by
    have h := (((((hb5.upd hu6 (by simp)).upd hu7 (by simp)).upd hu8 (by simp)).upd hu9 (by simp; omega)).upd hu10 (by simp; omega))
    have e : cf7 c = ints7 (upTo c 0) := by obtain ⟨A, T, N, L, B, P, S⟩ := c; rfl
    rw [← e]; exact h
  have hr : Blk w10 w1.heap.size 23 #[.int .i64 0, .int .i64 0, .int .i64 0, .int .i64 0, .int .i64 0, .int .i64 0, .int .i64 0] :=
    (((((((hb2.upd hu3 (by simp)).upd hu4 (by simp)).upd hu5 (by simp; omega)).upd hu6 (by simp)).upd hu7 (by simp)).upd hu8 (by simp)).upd hu9 (by simp; omega)).upd hu10 (by simp; omega)
  have hU : Upd [] w w10 := ((((((((hu1.trans hu2).trans hu3).trans hu4).step hu5 (by simp; omega)).trans hu6).trans hu7).trans hu8).step hu9 (by simp; omega)).step hu10 (by simp; omega)
  have hz1 : w.heap.size < w1.heap.size := by omega
  generalize hq1 : w1.heap.size = q1 at *
  generalize hq3 : w3.heap.size = q3 at *
  generalize hq6 : w6.heap.size = q6 at *
  generalize hq7 : w7.heap.size = q7 at *
  have d1 : q1 ≠ q3 := by omega
  have d2 : q6 ≠ q3 := by omega
  have d3 : q7 ≠ q3 := by omega
  have d4 : w.heap.size ≤ q3 := by omega
  have d5 : w.heap.size ≤ q1 := by omega
  refine loop_rule [2, 3, 4, 5] [13] (fun vs w' m => ∃ j : Nat, vs = [.int .i64 j] ∧ j ≤ 7 ∧ m = 7 - j ∧ Blk w' q3 70 (ints7 (upTo c j)) ∧ Blk w' q6 70 (cf7 loC) ∧ Blk w' q7 70 (cf7 hiC) ∧ Blk w' q1 23 #[.int .i64 0, .int .i64 0, .int .i64 0, .int .i64 0, .int .i64 0, .int .i64 0, .int .i64 0] ∧ Upd [] w w') rfl [.int .i64 0] 7 rfl ⟨0, rfl, by omega, rfl, hp, hl, hb10, hr, hU⟩ ?_
  rintro _ w11 m ⟨j, rfl, hj, rfl, gp, gl, gh, gr, gU⟩
  refine cd (fun hlt => ?_) (fun hlt => ?_)
  · have hlt : j < 7 := by omega
    refine draw_tail 12 (by decide +kernel) ?_
    refine q_ixA j rfl hlt ?_
    refine q_ld (v := .int .i64 ((cfL loC).getD j 0)) (by rintro _ rfl; rw [gl.drew.cell]; simpa using lo_get j hlt) ?_
    refine q_ixA j rfl hlt ?_
    refine q_ld (v := .int .i64 ((cfL c).getD j 0)) (by rintro _ rfl; rw [gp.drew.cell]; simpa using upTo_get c j hlt) ?_
    refine q_ixA j rfl hlt ?_
    refine q_ld (v := .int .i64 ((cfL hiC).getD j 0)) (by rintro _ rfl; rw [gh.drew.cell]; simpa using hi_get j hlt) ?_
    refine rq (.int .i64 (min_ ((cfL c).getD j 0) ((cfL hiC).getD j 0))) (fun _ _ => mn2 ⟨⟨rfl, rfl⟩⟩) ?_
    refine rq (.int .i64 (clamp ((cfL c).getD j 0) ((cfL loC).getD j 0) ((cfL hiC).getD j 0))) (fun _ _ => mx2 ⟨⟨congrArg (Value.int .i64) (cl_eq _ _ _ (lo_hi j hlt)), rfl⟩⟩) ?_
    refine ixA j rfl hlt ?_
    have gp' : Blk w11.drew q3 70 (ints7 (upTo c j)) := gp.drew
    refine st gp' (by rw [ints7_size]; omega) rfl fun w12 hb12 hu12 hs12 => ?_
    refine ar64 (by omega) ?_
    refine round_mk [.int .i64 ((j + 1 : Nat) : Int)] (7 - (j + 1)) rfl rfl ?_ (by omega)
    refine ⟨j + 1, rfl, by omega, rfl, ?_, gl.drew.upd hu12 (by simpa using d2), gh.drew.upd hu12 (by simpa using d3), gr.drew.upd hu12 (by simpa using d1), gU.drew.step hu12 (by simpa using d4)⟩
    rw [← upTo_step c j hlt]
    simpa using hb12
  · have hj : j = 7 := by omega
    subst hj
    obtain ⟨A, T, N, L, B, P, S⟩ := c
    have gp : Blk w11 q3 70 #[.int .i64 (clamp A 0 2), .int .i64 (clamp T 1 6), .int .i64 (clamp N 1 64), .int .i64 (clamp L 1 6), .int .i64 (clamp B 1 16), .int .i64 (clamp P 1 16), .int .i64 (clamp S 1 64)] := gp
    refine ixA 0 rfl (by decide) ?_
    refine ldb gp rfl ?_
    refine cd (fun hA => ?_) (fun hA => ?_)
    · refine ixA 2 rfl (by decide) ?_
      refine ldb gp rfl ?_
      refine mx2 ?_
      refine val _ rfl ?_
      refine ixA 2 rfl (by decide) ?_
      refine st gp (by simp) rfl fun w12 hb12 hu12 hs12 => ?_
      have gp2 : Blk w12 q3 70 (cf7 (nearC ⟨A, T, N, L, B, P, S⟩)) := by
        have e : cf7 (nearC ⟨A, T, N, L, B, P, S⟩) = #[.int .i64 (clamp A 0 2), .int .i64 (clamp T 1 6), .int .i64 (if 3 > clamp N 1 64 then 3 else clamp N 1 64), .int .i64 (clamp L 1 6), .int .i64 (clamp B 1 16), .int .i64 (clamp P 1 16), .int .i64 (clamp S 1 64)] := by
          simp only [nearC, cf7, if_neg hA]
        rw [e]; exact hb12
      refine ldw gp2 rfl ?_
      refine cl (conf_c _ w12) ?_
      rintro _ w13 ⟨rfl, hu13⟩
      refine stw ((gr.upd hu12 (by simpa using d1)).upd hu13 (by simp)) rfl rfl rfl fun w14 hb14 hu14 hs14 => ?_
      refine rlw hb14 rfl ?_
      exact ⟨rfl, ((gU.step hu12 (by simpa using d4)).trans hu13).step hu14 (by simpa using d5)⟩
    · have hA0 : clamp A 0 2 = 0 := by simpa using hA
      have gp2 : Blk w11 q3 70 (cf7 (nearC ⟨A, T, N, L, B, P, S⟩)) := by
        have e : cf7 (nearC ⟨A, T, N, L, B, P, S⟩) = #[.int .i64 (clamp A 0 2), .int .i64 (clamp T 1 6), .int .i64 (clamp N 1 64), .int .i64 (clamp L 1 6), .int .i64 (clamp B 1 16), .int .i64 (clamp P 1 16), .int .i64 (clamp S 1 64)] := by
          simp only [nearC, cf7, if_pos hA0]
        rw [e]; exact gp
      refine ldw gp2 rfl ?_
      refine cl (conf_c _ w11) ?_
      rintro _ w13 ⟨rfl, hu13⟩
      refine stw (gr.upd hu13 (by simp)) rfl rfl rfl fun w14 hb14 hu14 hs14 => ?_
      refine rlw hb14 rfl ?_
      exact ⟨rfl, (gU.trans hu13).step hu14 (by simpa using d5)⟩
end Go.Proofs.Ytejofmohpjffkaa.K
