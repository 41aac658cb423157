/- Contracts of package conf: the nearest configuration; arrays that are compared; a number that is read. -/
import Derived.Test.YtlhbgnoghjendaaDoorWa
import Derived.Test.YtlhbgnoghjendaaDoorUd
import Derived.ChangeKeysEq
namespace Go.Proofs.YtlhbgnoghjendaaDoor
open Go.RowKit
attribute [local irreducible] Instr.loadAt Instr.storeAt Instr.fieldAt Instr.indexAt Instr.sliceAt Instr.buildSlice Instr.box Instr.alloc Builtin.append_ Builtin.len_ Builtin.min_ Builtin.max_ Calls Instr.build Instr.makeSlice binSem convert Instr.index Instr.range Instr.next
theorem conf_c (c : Cf) (w : World) : Fn Tryd.prog 27 #[.agg (cf7 c)] w fun r w' => r = .agg (cf7 c) ∧ Upd [] w w' := by
  obtain ⟨A, T, N, L, B, P, S⟩ := c
  refine fn_enter Tryd.func27 rfl rfl ?_
  refine bx fun w1 hb1 hu1 hs1 => ?_
  refine al #[.int .i64 0, .int .i64 0, .int .i64 0, .int .i64 0, .int .i64 0, .int .i64 0, .int .i64 0] (fun _ => by kernel_rfl) fun w2 hb2 hu2 hs2 => ?_
  have hb1' := hb1.upd hu2 (by simp)
  refine ixA 0 rfl (by decide) ?_
  refine ldb hb1' rfl ?_
  refine ixA 1 rfl (by decide) ?_
  refine ldb hb1' rfl ?_
  refine ixA 2 rfl (by decide) ?_
  refine ldb hb1' rfl ?_
  refine ixA 3 rfl (by decide) ?_
  refine ldb hb1' rfl ?_
  refine ixA 4 rfl (by decide) ?_
  refine ldb hb1' rfl ?_
  refine ixA 5 rfl (by decide) ?_
  refine ldb hb1' rfl ?_
  refine ixA 6 rfl (by decide) ?_
  refine ldb hb1' rfl ?_
  refine bd (cf7 ⟨A, T, N, L, B, P, S⟩) (fun _ => by kernel_rfl) ?_
  refine stw hb2 rfl rfl rfl fun w3 hb3 hu3 hs3 => ?_
  refine rlw hb3 rfl ?_
  exact ⟨rfl, (hu1.trans hu2).step hu3 (by simp; omega)⟩
def loC : Cf := ⟨0, 1, 1, 1, 1, 1, 1⟩
def hiC : Cf := ⟨2, 6, 64, 6, 16, 16, 64⟩
theorem bounds_c (w : World) : Fn Tryd.prog 51 #[] w fun r w' => r = .tuple #[.agg (cf7 loC), .agg (cf7 hiC)] ∧ Upd [] w w' := by
  refine fn_enter Tryd.func51 rfl rfl ?_
  refine al #[.int .i64 0, .int .i64 0, .int .i64 0, .int .i64 0, .int .i64 0, .int .i64 0, .int .i64 0] (fun _ => by kernel_rfl) fun w1 hb1 hu1 hs1 => ?_
  refine al #[.int .i64 0, .int .i64 0, .int .i64 0, .int .i64 0, .int .i64 0, .int .i64 0, .int .i64 0] (fun _ => by kernel_rfl) fun w2 hb2 hu2 hs2 => ?_
  refine bd (cf7 loC) (fun _ => by kernel_rfl) ?_
  refine bd (cf7 hiC) (fun _ => by kernel_rfl) ?_
  refine stw (hb1.upd hu2 (by simp)) rfl rfl rfl fun w3 hb3 hu3 hs3 => ?_
  refine stw (hb2.upd hu3 (by simp; omega)) rfl rfl rfl fun w4 hb4 hu4 hs4 => ?_
  refine rlw (hb3.upd hu4 (by simp; omega)) rfl ?_
  refine rlw hb4 rfl ?_
  exact ⟨rfl, ((hu1.trans hu2).step hu3 (by simp)).step hu4 (by simp; omega)⟩
def clamp (x lo hi : Int) : Int := if x < lo then lo else if x > hi then hi else x
def min_ (x hi : Int) : Int := if hi < x then hi else x
theorem cl_eq (x lo hi : Int) (h : lo ≤ hi) : (if min_ x hi > lo then min_ x hi else lo) = clamp x lo hi := by
  unfold clamp min_
  repeat' split
  all_goals omega
def nearC : Cf → Cf
  | ⟨A, T, N, L, B, P, S⟩ => ⟨clamp A 0 2, clamp T 1 6, if clamp A 0 2 = 0 then clamp N 1 64 else (if 3 > clamp N 1 64 then 3 else clamp N 1 64), clamp L 1 6, clamp B 1 16, clamp P 1 16, clamp S 1 64⟩

/-- the loop of Near: where it stands after so many rounds -/
def upTo (c : Cf) (k : Nat) : List Int := (List.range 7).map fun j => if j < k then clamp ((cfL c).getD j 0) ((cfL loC).getD j 0) ((cfL hiC).getD j 0) else (cfL c).getD j 0
def ints7 (l : List Int) : Array Value := (l.map (Value.int .i64)).toArray
theorem upTo_get (c : Cf) (k : Nat) (hk : k < 7) : (ints7 (upTo c k))[k]? = some (.int .i64 ((cfL c).getD k 0)) := by
  obtain ⟨A, T, N, L, B, P, S⟩ := c
  rcases (show k = 0 ∨ k = 1 ∨ k = 2 ∨ k = 3 ∨ k = 4 ∨ k = 5 ∨ k = 6 by omega) with rfl | rfl | rfl | rfl | rfl | rfl | rfl <;> rfl
theorem upTo_step (c : Cf) (k : Nat) (hk : k < 7) : (ints7 (upTo c k)).setIfInBounds k (.int .i64 (clamp ((cfL c).getD k 0) ((cfL loC).getD k 0) ((cfL hiC).getD k 0))) = ints7 (upTo c (k + 1)) := by
  obtain ⟨A, T, N, L, B, P, S⟩ := c
  rcases (show k = 0 ∨ k = 1 ∨ k = 2 ∨ k = 3 ∨ k = 4 ∨ k = 5 ∨ k = 6 by omega) with rfl | rfl | rfl | rfl | rfl | rfl | rfl <;> rfl
theorem lo_get (k : Nat) (hk : k < 7) : (cf7 loC)[k]? = some (.int .i64 ((cfL loC).getD k 0)) := by
  rcases (show k = 0 ∨ k = 1 ∨ k = 2 ∨ k = 3 ∨ k = 4 ∨ k = 5 ∨ k = 6 by omega) with rfl | rfl | rfl | rfl | rfl | rfl | rfl <;> rfl
theorem hi_get (k : Nat) (hk : k < 7) : (cf7 hiC)[k]? = some (.int .i64 ((cfL hiC).getD k 0)) := by
  rcases (show k = 0 ∨ k = 1 ∨ k = 2 ∨ k = 3 ∨ k = 4 ∨ k = 5 ∨ k = 6 by omega) with rfl | rfl | rfl | rfl | rfl | rfl | rfl <;> rfl
theorem lo_hi (k : Nat) (hk : k < 7) : (cfL loC).getD k 0 ≤ (cfL hiC).getD k 0 := by
  rcases (show k = 0 ∨ k = 1 ∨ k = 2 ∨ k = 3 ∨ k = 4 ∨ k = 5 ∨ k = 6 by omega) with rfl | rfl | rfl | rfl | rfl | rfl | rfl <;> decide
theorem ints7_size (c : Cf) (k : Nat) : (ints7 (upTo c k)).size = 7 := by simp [ints7, upTo]

set_option maxRecDepth 10000 in
theorem near_c (c : Cf) (w : World) : Fn Tryd.prog 21 #[.agg (cf7 c)] w fun r w' => r = .agg (cf7 (nearC c)) ∧ Upd [] w w' := by
  refine fn_enter Tryd.func21 rfl rfl ?_
  refine bx fun w1 hb1 hu1 hs1 => ?_
  refine al #[.int .i64 0, .int .i64 0, .int .i64 0, .int .i64 0, .int .i64 0, .int .i64 0, .int .i64 0] (fun _ => by kernel_rfl) fun w2 hb2 hu2 hs2 => ?_
  refine ldw (hb1.upd hu2 (by simp)) rfl ?_
  refine cl (of_c c w2) ?_
  rintro _ w3 ⟨rfl, hu3⟩
  refine al #[.int .i64 0, .int .i64 0, .int .i64 0, .int .i64 0, .int .i64 0, .int .i64 0, .int .i64 0] (fun _ => by kernel_rfl) fun w4 hb4 hu4 hs4 => ?_
  refine stw hb4 rfl (by obtain ⟨A, T, N, L, B, P, S⟩ := c; rfl) (by obtain ⟨A, T, N, L, B, P, S⟩ := c; rfl) fun w5 hb5 hu5 hs5 => ?_
  refine cl (bounds_c w5) ?_
  rintro _ w6 ⟨rfl, hu6⟩
  refine al #[.int .i64 0, .int .i64 0, .int .i64 0, .int .i64 0, .int .i64 0, .int .i64 0, .int .i64 0] (fun _ => by kernel_rfl) fun w7 hb7 hu7 hs7 => ?_
  refine al #[.int .i64 0, .int .i64 0, .int .i64 0, .int .i64 0, .int .i64 0, .int .i64 0, .int .i64 0] (fun _ => by kernel_rfl) fun w8 hb8 hu8 hs8 => ?_
  refine stw (hb7.upd hu8 (by simp)) rfl rfl rfl fun w9 hb9 hu9 hs9 => ?_
  refine stw (hb8.upd hu9 (by simp; omega)) rfl rfl rfl fun w10 hb10 hu10 hs10 => ?_
  have z2 := hu2.size
  have z3 := hu3.size
  have z6 := hu6.size
  have hl := hb9.upd hu10 (by simp; omega)
  have hp : Blk w10 w3.heap.size 52 (ints7 (upTo c 0)) := by
    have h := (((((hb5.upd hu6 (by simp)).upd hu7 (by simp)).upd hu8 (by simp)).upd hu9 (by simp; omega)).upd hu10 (by simp; omega))
    have e : cf7 c = ints7 (upTo c 0) := by obtain ⟨A, T, N, L, B, P, S⟩ := c; rfl
    rw [← e]; exact h
  have hr : Blk w10 w1.heap.size 24 #[.int .i64 0, .int .i64 0, .int .i64 0, .int .i64 0, .int .i64 0, .int .i64 0, .int .i64 0] :=
    (((((((hb2.upd hu3 (by simp)).upd hu4 (by simp)).upd hu5 (by simp; omega)).upd hu6 (by simp)).upd hu7 (by simp)).upd hu8 (by simp)).upd hu9 (by simp; omega)).upd hu10 (by simp; omega)
  have hU : Upd [] w w10 := ((((((((hu1.trans hu2).trans hu3).trans hu4).step hu5 (by simp; omega)).trans hu6).trans hu7).trans hu8).step hu9 (by simp; omega)).step hu10 (by simp; omega)
  have hz1 : w.heap.size < w1.heap.size := by omega
  generalize hq1 : w1.heap.size = q1 at *
  generalize hq3 : w3.heap.size = q3 at *
  generalize hq6 : w6.heap.size = q6 at *
  generalize hq7 : w7.heap.size = q7 at *
  have d1 : q1 ≠ q3 := by omega
  have d2 : q6 ≠ q3 := by omega
  have d3 : q7 ≠ q3 := by omega
  have d4 : w.heap.size ≤ q3 := by omega
  have d5 : w.heap.size ≤ q1 := by omega
  refine loop_rule [2, 3, 4, 5] [13] (fun vs w' m => ∃ j : Nat, vs = [.int .i64 j] ∧ j ≤ 7 ∧ m = 7 - j ∧ Blk w' q3 52 (ints7 (upTo c j)) ∧ Blk w' q6 52 (cf7 loC) ∧ Blk w' q7 52 (cf7 hiC) ∧ Blk w' q1 24 #[.int .i64 0, .int .i64 0, .int .i64 0, .int .i64 0, .int .i64 0, .int .i64 0, .int .i64 0] ∧ Upd [] w w') rfl [.int .i64 0] 7 rfl ⟨0, rfl, by omega, rfl, hp, hl, hb10, hr, hU⟩ ?_
  rintro _ w11 m ⟨j, rfl, hj, rfl, gp, gl, gh, gr, gU⟩
  refine cd (fun hlt => ?_) (fun hlt => ?_)
  · have hlt : j < 7 := by omega
    refine draw_tail 12 (by decide +kernel) ?_
    refine q_ixA j rfl hlt ?_
    refine q_ld (v := .int .i64 ((cfL loC).getD j 0)) (by rintro _ rfl; rw [gl.drew.cell]; simpa using lo_get j hlt) ?_
    refine q_ixA j rfl hlt ?_
    refine q_ld (v := .int .i64 ((cfL c).getD j 0)) (by rintro _ rfl; rw [gp.drew.cell]; simpa using upTo_get c j hlt) ?_
    refine q_ixA j rfl hlt ?_
    refine q_ld (v := .int .i64 ((cfL hiC).getD j 0)) (by rintro _ rfl; rw [gh.drew.cell]; simpa using hi_get j hlt) ?_
    refine rq (.int .i64 (min_ ((cfL c).getD j 0) ((cfL hiC).getD j 0))) (fun _ _ => mn2 ⟨⟨rfl, rfl⟩⟩) ?_
    refine rq (.int .i64 (clamp ((cfL c).getD j 0) ((cfL loC).getD j 0) ((cfL hiC).getD j 0))) (fun _ _ => mx2 ⟨⟨congrArg (Value.int .i64) (cl_eq _ _ _ (lo_hi j hlt)), rfl⟩⟩) ?_
    refine ixA j rfl hlt ?_
    have gp' : Blk w11.drew q3 52 (ints7 (upTo c j)) := gp.drew
    refine st gp' (by rw [ints7_size]; omega) rfl fun w12 hb12 hu12 hs12 => ?_
    refine ar64 (by omega) ?_
    refine round_mk [.int .i64 ((j + 1 : Nat) : Int)] (7 - (j + 1)) rfl rfl ?_ (by omega)
    refine ⟨j + 1, rfl, by omega, rfl, ?_, gl.drew.upd hu12 (by simpa using d2), gh.drew.upd hu12 (by simpa using d3), gr.drew.upd hu12 (by simpa using d1), gU.drew.step hu12 (by simpa using d4)⟩
    rw [← upTo_step c j hlt]
    simpa using hb12
  · have hj : j = 7 := by omega
    subst hj
    obtain ⟨A, T, N, L, B, P, S⟩ := c
    have gp : Blk w11 q3 52 #[.int .i64 (clamp A 0 2), .int .i64 (clamp T 1 6), .int .i64 (clamp N 1 64), .int .i64 (clamp L 1 6), .int .i64 (clamp B 1 16), .int .i64 (clamp P 1 16), .int .i64 (clamp S 1 64)] := gp
    refine ixA 0 rfl (by decide) ?_
    refine ldb gp rfl ?_
    refine cd (fun hA => ?_) (fun hA => ?_)
    · refine ixA 2 rfl (by decide) ?_
      refine ldb gp rfl ?_
      refine mx2 ?_
      refine val _ rfl ?_
      refine ixA 2 rfl (by decide) ?_
      refine st gp (by simp) rfl fun w12 hb12 hu12 hs12 => ?_
      have gp2 : Blk w12 q3 52 (cf7 (nearC ⟨A, T, N, L, B, P, S⟩)) := by
        have e : cf7 (nearC ⟨A, T, N, L, B, P, S⟩) = #[.int .i64 (clamp A 0 2), .int .i64 (clamp T 1 6), .int .i64 (if 3 > clamp N 1 64 then 3 else clamp N 1 64), .int .i64 (clamp L 1 6), .int .i64 (clamp B 1 16), .int .i64 (clamp P 1 16), .int .i64 (clamp S 1 64)] := by
          simp only [nearC, cf7, if_neg hA]
        rw [e]; exact hb12
      refine ldw gp2 rfl ?_
      refine cl (conf_c _ w12) ?_
      rintro _ w13 ⟨rfl, hu13⟩
      refine stw ((gr.upd hu12 (by simpa using d1)).upd hu13 (by simp)) rfl rfl rfl fun w14 hb14 hu14 hs14 => ?_
      refine rlw hb14 rfl ?_
      exact ⟨rfl, ((gU.step hu12 (by simpa using d4)).trans hu13).step hu14 (by simpa using d5)⟩
    · have hA0 : clamp A 0 2 = 0 := by simpa using hA
      have gp2 : Blk w11 q3 52 (cf7 (nearC ⟨A, T, N, L, B, P, S⟩)) := by
        have e : cf7 (nearC ⟨A, T, N, L, B, P, S⟩) = #[.int .i64 (clamp A 0 2), .int .i64 (clamp T 1 6), .int .i64 (clamp N 1 64), .int .i64 (clamp L 1 6), .int .i64 (clamp B 1 16), .int .i64 (clamp P 1 16), .int .i64 (clamp S 1 64)] := by
          simp only [nearC, cf7, if_pos hA0]
        rw [e]; exact gp
      refine ldw gp2 rfl ?_
      refine cl (conf_c _ w11) ?_
      rintro _ w13 ⟨rfl, hu13⟩
      refine stw (gr.upd hu13 (by simp)) rfl rfl rfl fun w14 hb14 hu14 hs14 => ?_
      refine rlw hb14 rfl ?_
      exact ⟨rfl, (gU.trans hu13).step hu14 (by simpa using d5)⟩

theorem clamp_iff (x lo hi : Int) (h : lo ≤ hi) : clamp x lo hi = x ↔ within x lo hi := by
  unfold clamp within
  split
  · omega
  · split <;> omega
theorem near_iff (c : Cf) : nearC c = c ↔ rightC c := by
  obtain ⟨A, T, N, L, B, P, S⟩ := c
  have h0 := clamp_iff A 0 2 (by decide)
  have h1 := clamp_iff T 1 6 (by decide)
  have h2 := clamp_iff N 1 64 (by decide)
  have h3 := clamp_iff L 1 6 (by decide)
  have h4 := clamp_iff B 1 16 (by decide)
  have h5 := clamp_iff P 1 16 (by decide)
  have h6 := clamp_iff S 1 64 (by decide)
  unfold nearC rightC
  rw [Cf.mk.injEq]
  constructor
  · rintro ⟨e0, e1, e2, e3, e4, e5, e6⟩
    rw [e0] at e2
    by_cases hA : A = 0
    · rw [if_pos hA] at e2
      exact ⟨⟨h0.1 e0, h1.1 e1, h2.1 e2, h3.1 e3, h4.1 e4, h5.1 e5, h6.1 e6⟩, .inl hA⟩
    · rw [if_neg hA] at e2
      have hc : 1 ≤ clamp N 1 64 ∧ clamp N 1 64 ≤ 64 := by unfold clamp; split <;> (try split) <;> omega
      have hN : clamp N 1 64 = N := by
        unfold clamp at e2 ⊢
        split at e2 <;> (try split at e2) <;> (try split at e2) <;> (try split) <;> (try split) <;> omega
      exact ⟨⟨h0.1 e0, h1.1 e1, h2.1 hN, h3.1 e3, h4.1 e4, h5.1 e5, h6.1 e6⟩, .inr (by rw [hN] at e2; split at e2 <;> omega)⟩
  · rintro ⟨⟨e0, e1, e2, e3, e4, e5, e6⟩, hor⟩
    refine ⟨h0.2 e0, h1.2 e1, ?_, h3.2 e3, h4.2 e4, h5.2 e5, h6.2 e6⟩
    rw [h0.2 e0, h2.2 e2]
    split
    · rfl
    · split <;> omega
section
variable {P : Program} {K : Value → World → Prop} {w : World}
theorem eqItems_int {e : TypeId} (he : P.underlying e = some (.int .i64)) (d : Nat) (X Y : List Int) : ∀ (is : List Nat), (∀ i ∈ is, i < X.length ∧ i < Y.length) →
    (Op.eqItems (d + 1) e 1 (ints7 X) (ints7 Y) is).run P w = .ok (is.all fun i => X.getD i 0 == Y.getD i 0) w
  | [], _ => rfl
  | i :: is, h => by
    have hi := h i List.mem_cons_self
    have ih := eqItems_int he d X Y is (fun j hj => h j (List.mem_cons_of_mem _ hj))
    have ho : okT P e (.i .i64) := he
    have ex : (ints7 X)[i * 1]? = some (.int .i64 (X.getD i 0)) := by simp [ints7, List.getD, hi.1]
    have ey : (ints7 Y)[i * 1]? = some (.int .i64 (Y.getD i 0)) := by simp [ints7, List.getD, hi.2]
    have e1 : (part e (ints7 X) (i * 1)).run P w = .ok (.int .i64 (X.getD i 0)) w := by simp only [part, Sem.run_bind, okT_agg ho, Result.andThen_ok]; rw [ex]; rfl
    have e2 : (part e (ints7 Y) (i * 1)).run P w = .ok (.int .i64 (Y.getD i 0)) w := by simp only [part, Sem.run_bind, okT_agg ho, Result.andThen_ok]; rw [ey]; rfl
    have e3 := okT_eq ho d (a := .int .i64 (X.getD i 0)) (b := .int .i64 (Y.getD i 0)) rfl rfl w
    have e4 : eqCell (.int .i64 (X.getD i 0)) (.int .i64 (Y.getD i 0)) = (X.getD i 0 == Y.getD i 0) := rfl
    rw [e4] at e3
    unfold Op.eqItems
    simp only [Sem.run_bind, Sem.run_ite, e1, e2, e3, Result.andThen_ok, List.all_cons, ih]
    generalize (X.getD i 0 == Y.getD i 0) = b
    cases b <;> simp
theorem all_eq {X Y : List Int} {n : Nat} (hx : X.length = n) (hy : Y.length = n) : ((List.range n).all fun i => X.getD i 0 == Y.getD i 0) = decide (X = Y) := by
  by_cases h : X = Y
  · subst h
    rw [decide_eq_true rfl, List.all_eq_true]
    intro i _
    simp
  · rw [decide_eq_false h]
    cases hb : ((List.range n).all fun i => X.getD i 0 == Y.getD i 0) with
    | false => rfl
    | true =>
      rw [List.all_eq_true] at hb
      refine absurd (List.ext_getElem (by omega) fun i h1 h2 => ?_) h
      have := hb i (by simp; omega)
      simpa [List.getD, h1, h2] using this
theorem arr_ne {t n e : Nat} [ArrT P t n e 1] [IntT P e .i64] {x y : Operand} {X Y : List Int} (hx : X.length = n) (hy : Y.length = n) (hg : P.eqGuardType P.depth t = false) {i : TypeInfo} (hi : P.info? e = some i) (hc : P.cellsOf e = 1) (k : K (.bool (!decide (X = Y))) w) :
    RunP P (binSem .neq t x y (.agg (ints7 X)) (.agg (ints7 Y))) K w := by
  refine rn _ _ (bin_agg hg ?_) k
  rw [run_neq_struct, show (10000 : Nat) = 9999 + 1 from rfl, run_equalIn_array w 9999 (ints7 X) (ints7 Y) (ArrT.u (P := P) (t := t) (len := n) (e := e) (n := 1)) hi, hc, eqItems_int (IntT.u (P := P) (t := e) (k := .i64)) 9998 X Y _ (fun i h => by have := List.mem_range.1 h; omega), all_eq hx hy]
  rfl
end
/-! ### A number that is read -/
theorem dec_no32 (k : Nat) : (32 : UInt8) ∉ decU k := fun h => by
  have := List.all_eq_true.1 (decU_isD k) _ h
  exact absurd this (by decide)
theorem num_back {l : List UInt8} {o k v : Int} (hl : (32 : UInt8) ∉ l) (h : readR (l ++ [32, 48]) = some (o, k, v)) (ho : o = 2) : ∃ n : Nat, n < 4294967296 ∧ k = n ∧ l = decU n := by
  unfold readR at h
  split at h
  · cases h; cases ho
  · split at h
    · cases h; cases ho
    · split at h
      · cases h; cases ho
      · obtain ⟨⟨a, b⟩, hp, he⟩ := Option.map_eq_some_iff.1 h
        cases he
        obtain ⟨h1, h2, h3⟩ := pairOf_some hp
        refine ⟨a, h2, rfl, ?_⟩
        have e1 := cutC_app 32 l [48] hl
        have e2 := cutC_app 32 (decU a) (decU b) (dec_no32 a)
        rw [← h1] at e2
        have e3 : cutC 32 (l ++ [32, 48]) = some (l, [48]) := e1
        rw [e3] at e2
        injection e2 with e2
        injection e2
theorem num_forth {n : Nat} (h : n < 4294967296) : readR (decU n ++ [32, 48]) = some (2, (n : Int), 0) := by
  have h1 := read_tell (o := 2) h (show 0 < 4294967296 by decide) (.inl rfl)
  rw [tell2] at h1
  have h0 : decU 0 = [48] := by rw [decU_small (by decide)]; rfl
  rw [h0] at h1
  exact h1
theorem str_by_add (a b : List UInt8) : by8 a ++ by8 b = by8 (a ++ b) := by apply ByteArray.ext; simp [by8]
/-- what is read of a part: whether it is a number, and which -/
structure NumR (l : List UInt8) (n : Int) (b : Bool) : Prop where
  back : b = true → ∃ k : Nat, k < 4294967296 ∧ n = k ∧ l = decU k
  forth : ∀ k : Nat, k < 4294967296 → l = decU k → b = true ∧ n = k
theorem cnum_c (l : List UInt8) (hl : l.length ≤ 1000000) (h32 : (32 : UInt8) ∉ l) (w : World) : Fn Tryd.prog 25 #[.string (by8 l)] w fun r w' => (∃ n b, r = .tuple #[.int .i64 n, .bool b] ∧ NumR l n b) ∧ Upd [] w w' := by
  refine fn_enter Tryd.func25 rfl rfl ?_
  refine sadd (b := by8 [32, 48]) (by rw [by8_size, by8_size]; simp; omega) ?_
  rw [str_by_add]
  refine cl (read_c (l ++ [32, 48]) (by simp; omega) w) ?_
  rintro _ w1 ⟨rfl, hu1⟩
  cases hy : readR (l ++ [32, 48]) with
  | none =>
    refine al z3 (fun _ => by kernel_rfl) fun w2 hb2 hu2 hs2 => ?_
    refine stw hb2 rfl rfl rfl fun w3 hb3 hu3 hs3 => ?_
    have hU3 := (hu1.trans hu2).step hu3 (by have := hu1.size; simp; omega)
    refine draw_all (fun w' => Upd [] w3 w') (by decide +kernel) (Upd.refl _ _).drew ?_
    refine q_fa ?_
    refine q_ld (v := .int .u32 0) (fun w' hw' => (hb3.upd hw' (by simp)).cell 1) ?_
    refine rq (.int .i64 0) (fun _ _ => cv (ar64 (by omega) ⟨rfl, rfl⟩)) ?_
    intro w4 hu4
    refine ⟨⟨_, _, rfl, ⟨fun h => (by cases h), fun k hk he => ?_⟩⟩, hU3.trans hu4⟩
    rw [he, num_forth hk] at hy; cases hy
  | some p =>
    obtain ⟨o, k, v⟩ := p
    have hkv : ∃ kk : Nat, kk < 4294967296 ∧ k = kk := by
      unfold readR at hy
      split at hy
      · cases hy; exact ⟨0, by decide, rfl⟩
      · split at hy
        · cases hy; exact ⟨0, by decide, rfl⟩
        · split at hy
          · cases hy; exact ⟨0, by decide, rfl⟩
          · obtain ⟨⟨a, b⟩, hp, he⟩ := Option.map_eq_some_iff.1 hy
            cases he
            exact ⟨a, (pairOf_some hp).2.1, rfl⟩
    obtain ⟨kk, hkk, rfl⟩ := hkv
    refine al z3 (fun _ => by kernel_rfl) fun w2 hb2 hu2 hs2 => ?_
    refine stw hb2 rfl rfl rfl fun w3 hb3 hu3 hs3 => ?_
    have hU3 := (hu1.trans hu2).step hu3 (by have := hu1.size; simp; omega)
    refine draw_all (fun w' => Upd [] w3 w') (by decide +kernel) (Upd.refl _ _).drew ?_
    refine q_fa ?_
    refine q_ld (v := .int .u32 (kk : Int)) (fun w' hw' => (hb3.upd hw' (by simp)).cell 1) ?_
    refine rq (.int .i64 (kk : Int)) (fun _ _ => cv (ar64 (by omega) ⟨rfl, rfl⟩)) ?_
    refine q_fa ?_
    refine q_ld (v := .int .i64 o) (fun w' hw' => (hb3.upd hw' (by simp)).cell 0) ?_
    intro w4 hu4
    refine ⟨⟨_, _, rfl, ⟨fun h => ?_, fun k hk he => ?_⟩⟩, hU3.trans hu4⟩
    · obtain ⟨n, h1, h2, h3⟩ := num_back h32 hy (by simpa using h)
      exact ⟨n, h1, h2, h3⟩
    · rw [he, num_forth hk] at hy
      cases hy
      exact ⟨by simp, rfl⟩
end Go.Proofs.YtlhbgnoghjendaaDoor
