/- The reference's line of picks, its text of a configuration; which scripts are light. -/
import Derived.Test.YtlhbgnoghjendaaDoorUf
namespace Go.Proofs.YtlhbgnoghjendaaDoor
open Go.RowKit
attribute [local irreducible] Instr.loadAt Instr.storeAt Instr.fieldAt Instr.indexAt Instr.sliceAt Instr.buildSlice Instr.box Instr.alloc Builtin.append_ Builtin.len_ Builtin.min_ Builtin.max_ Calls Instr.build Instr.makeSlice binSem convert Instr.index Instr.range Instr.next
def cfN (c : Cf) (j : Nat) : Nat := ((cfL c).getD j 0).toNat
set_option maxRecDepth 10000 in
theorem rcshow_c {c : Cf} (hc : rightC c) (w : World) : Fn Tryd.prog 12 #[.agg (cf7 c)] w fun r w' => r = .string (strOfNums (confL c)) ∧ Upd [] w w' := by
  obtain ⟨C, hC⟩ : ∃ C, C = c := ⟨_, rfl⟩
  obtain ⟨A, hA⟩ : ∃ A, A = c.A := ⟨_, rfl⟩
  have hA2 : 0 ≤ c.A ∧ c.A ≤ 2 := by
    obtain ⟨A, T, N, L, B, P, S⟩ := c
    exact hc.1.1
  unfold confL
  rw [← hA]
  subst hC
  refine fn_enter Tryd.func12 rfl rfl ?_
  refine bx fun w1 hb1 hu1 hs1 => ?_
  have hb1 : Blk w1 w.heap.size 24 (cf7 C) := hb1
  refine ldw hb1 (cf7_len C) ?_
  refine cl (rright_c C w1) ?_
  rintro _ w2 ⟨rfl, hu2⟩
  rw [decide_eq_true hc]
  have hb2 := hb1.upd hu2 (by simp)
  have hU2 := hu1.trans hu2
  have hcell : ∀ j, j < 7 → ∀ w', Upd [] w2 w' → w'.cell? ⟨w.heap.size, 0 + j, none⟩ = some (.int .i64 (cfN C j : Int)) := fun j hj w' hu => by
    have hbd := right_bd hc j hj
    rw [(hb2.upd hu (by simp)).cell, ← Array.getElem?_toList, Nat.zero_add, cf_get C j hj]
    unfold cfN
    rw [Int.toNat_of_nonneg hbd.1]
  have hcA := hcell 0 (by omega) w2 (Upd.refl _ _)
  have hA0 : (cfN C 0 : Int) = A := by
    have : (cfL C).getD 0 0 = C.A := by cases C; rfl
    unfold cfN
    rw [this, hA, Int.toNat_of_nonneg hA2.1]
  rw [hA0] at hcA
  rw [← hA] at hA2
  clear hA hA0
  rcases (show A = 0 ∨ A = 1 ∨ A = 2 by omega) with rfl | rfl | rfl
  · refine fa ?_
    refine ld hcA ?_
    refine fa ?_
    refine ld hcA ?_
    refine draw_all (fun w' => Upd [] w2 w') (by decide +kernel) (Upd.refl _ _).drew ?_
    refine rq (.string (strOfNums (kindL 0 ++ tailL C 1 ++ ([32] ++ nameL 1 ++ [32])))) (fun w' _ => sadd (a := strOfNums (kindL 0 ++ tailL C 1)) (b := strOfNums ([32] ++ nameL 1 ++ [32])) (by have := tailL_len hc 1 (by omega); have := kindL_len 0; have := nameL_len 1; rw [strOfNums_size, strOfNums_size]; simp only [List.length_append, List.length_cons, List.length_nil]; omega) ⟨by rw [str_add], rfl⟩) ?_
    refine q_fa ?_
    refine q_ld (v := .int .i64 (cfN C 1 : Int)) (fun w' hw' => hcell 1 (by omega) w' hw') ?_
    refine q_cl (.string (strOfNums (decB (cfN C 1)))) (fun w' hw' => (r10d_c (cfN C 1) (by have := right_bd hc 1 (by omega); unfold cfN; omega) w').mono fun _ _ ⟨u, he, h1, h2⟩ => ⟨u, he, h1, hw'.trans h2⟩) ?_
    refine rq (.string (strOfNums (kindL 0 ++ tailL C (1 + 1)))) (fun w' _ => sadd (by have := tailL_len hc 1 (by omega); have := kindL_len 0; have := nameL_len 1; have := right_bd hc 1 (by omega); have : (decB (cfN C 1)).length ≤ 10 := decB_len 9 _ (by unfold cfN; omega); rw [strOfNums_size, strOfNums_size]; simp only [List.length_append, List.length_cons, List.length_nil]; omega) ⟨by
      rw [str_add]
      refine congrArg (fun l => Value.string (strOfNums l)) ?_
      show _ = kindL 0 ++ (tailL C 1 ++ ([32] ++ nameL 1 ++ [32] ++ decB (cfN C 1)))
      simp only [List.append_assoc], rfl⟩) ?_
    refine rq (.string (strOfNums (kindL 0 ++ tailL C 2 ++ ([32] ++ nameL 2 ++ [32])))) (fun w' _ => sadd (a := strOfNums (kindL 0 ++ tailL C 2)) (b := strOfNums ([32] ++ nameL 2 ++ [32])) (by have := tailL_len hc 2 (by omega); have := kindL_len 0; have := nameL_len 2; rw [strOfNums_size, strOfNums_size]; simp only [List.length_append, List.length_cons, List.length_nil]; omega) ⟨by rw [str_add], rfl⟩) ?_
    refine q_fa ?_
    refine q_ld (v := .int .i64 (cfN C 2 : Int)) (fun w' hw' => hcell 2 (by omega) w' hw') ?_
    refine q_cl (.string (strOfNums (decB (cfN C 2)))) (fun w' hw' => (r10d_c (cfN C 2) (by have := right_bd hc 2 (by omega); unfold cfN; omega) w').mono fun _ _ ⟨u, he, h1, h2⟩ => ⟨u, he, h1, hw'.trans h2⟩) ?_
    refine rq (.string (strOfNums (kindL 0 ++ tailL C (2 + 1)))) (fun w' _ => sadd (by have := tailL_len hc 2 (by omega); have := kindL_len 0; have := nameL_len 2; have := right_bd hc 2 (by omega); have : (decB (cfN C 2)).length ≤ 10 := decB_len 9 _ (by unfold cfN; omega); rw [strOfNums_size, strOfNums_size]; simp only [List.length_append, List.length_cons, List.length_nil]; omega) ⟨by
      rw [str_add]
      refine congrArg (fun l => Value.string (strOfNums l)) ?_
      show _ = kindL 0 ++ (tailL C 2 ++ ([32] ++ nameL 2 ++ [32] ++ decB (cfN C 2)))
      simp only [List.append_assoc], rfl⟩) ?_
    refine rq (.string (strOfNums (kindL 0 ++ tailL C 3 ++ ([32] ++ nameL 3 ++ [32])))) (fun w' _ => sadd (a := strOfNums (kindL 0 ++ tailL C 3)) (b := strOfNums ([32] ++ nameL 3 ++ [32])) (by have := tailL_len hc 3 (by omega); have := kindL_len 0; have := nameL_len 3; rw [strOfNums_size, strOfNums_size]; simp only [List.length_append, List.length_cons, List.length_nil]; omega) ⟨by rw [str_add], rfl⟩) ?_
    refine q_fa ?_
    refine q_ld (v := .int .i64 (cfN C 3 : Int)) (fun w' hw' => hcell 3 (by omega) w' hw') ?_
    refine q_cl (.string (strOfNums (decB (cfN C 3)))) (fun w' hw' => (r10d_c (cfN C 3) (by have := right_bd hc 3 (by omega); unfold cfN; omega) w').mono fun _ _ ⟨u, he, h1, h2⟩ => ⟨u, he, h1, hw'.trans h2⟩) ?_
    refine rq (.string (strOfNums (kindL 0 ++ tailL C (3 + 1)))) (fun w' _ => sadd (by have := tailL_len hc 3 (by omega); have := kindL_len 0; have := nameL_len 3; have := right_bd hc 3 (by omega); have : (decB (cfN C 3)).length ≤ 10 := decB_len 9 _ (by unfold cfN; omega); rw [strOfNums_size, strOfNums_size]; simp only [List.length_append, List.length_cons, List.length_nil]; omega) ⟨by
      rw [str_add]
      refine congrArg (fun l => Value.string (strOfNums l)) ?_
      show _ = kindL 0 ++ (tailL C 3 ++ ([32] ++ nameL 3 ++ [32] ++ decB (cfN C 3)))
      simp only [List.append_assoc], rfl⟩) ?_
    refine rq (.string (strOfNums (kindL 0 ++ tailL C 4 ++ ([32] ++ nameL 4 ++ [32])))) (fun w' _ => sadd (a := strOfNums (kindL 0 ++ tailL C 4)) (b := strOfNums ([32] ++ nameL 4 ++ [32])) (by have := tailL_len hc 4 (by omega); have := kindL_len 0; have := nameL_len 4; rw [strOfNums_size, strOfNums_size]; simp only [List.length_append, List.length_cons, List.length_nil]; omega) ⟨by rw [str_add], rfl⟩) ?_
    refine q_fa ?_
    refine q_ld (v := .int .i64 (cfN C 4 : Int)) (fun w' hw' => hcell 4 (by omega) w' hw') ?_
    refine q_cl (.string (strOfNums (decB (cfN C 4)))) (fun w' hw' => (r10d_c (cfN C 4) (by have := right_bd hc 4 (by omega); unfold cfN; omega) w').mono fun _ _ ⟨u, he, h1, h2⟩ => ⟨u, he, h1, hw'.trans h2⟩) ?_
    refine rq (.string (strOfNums (kindL 0 ++ tailL C (4 + 1)))) (fun w' _ => sadd (by have := tailL_len hc 4 (by omega); have := kindL_len 0; have := nameL_len 4; have := right_bd hc 4 (by omega); have : (decB (cfN C 4)).length ≤ 10 := decB_len 9 _ (by unfold cfN; omega); rw [strOfNums_size, strOfNums_size]; simp only [List.length_append, List.length_cons, List.length_nil]; omega) ⟨by
      rw [str_add]
      refine congrArg (fun l => Value.string (strOfNums l)) ?_
      show _ = kindL 0 ++ (tailL C 4 ++ ([32] ++ nameL 4 ++ [32] ++ decB (cfN C 4)))
      simp only [List.append_assoc], rfl⟩) ?_
    refine rq (.string (strOfNums (kindL 0 ++ tailL C 5 ++ ([32] ++ nameL 5 ++ [32])))) (fun w' _ => sadd (a := strOfNums (kindL 0 ++ tailL C 5)) (b := strOfNums ([32] ++ nameL 5 ++ [32])) (by have := tailL_len hc 5 (by omega); have := kindL_len 0; have := nameL_len 5; rw [strOfNums_size, strOfNums_size]; simp only [List.length_append, List.length_cons, List.length_nil]; omega) ⟨by rw [str_add], rfl⟩) ?_
    refine q_fa ?_
    refine q_ld (v := .int .i64 (cfN C 5 : Int)) (fun w' hw' => hcell 5 (by omega) w' hw') ?_
    refine q_cl (.string (strOfNums (decB (cfN C 5)))) (fun w' hw' => (r10d_c (cfN C 5) (by have := right_bd hc 5 (by omega); unfold cfN; omega) w').mono fun _ _ ⟨u, he, h1, h2⟩ => ⟨u, he, h1, hw'.trans h2⟩) ?_
    refine rq (.string (strOfNums (kindL 0 ++ tailL C (5 + 1)))) (fun w' _ => sadd (by have := tailL_len hc 5 (by omega); have := kindL_len 0; have := nameL_len 5; have := right_bd hc 5 (by omega); have : (decB (cfN C 5)).length ≤ 10 := decB_len 9 _ (by unfold cfN; omega); rw [strOfNums_size, strOfNums_size]; simp only [List.length_append, List.length_cons, List.length_nil]; omega) ⟨by
      rw [str_add]
      refine congrArg (fun l => Value.string (strOfNums l)) ?_
      show _ = kindL 0 ++ (tailL C 5 ++ ([32] ++ nameL 5 ++ [32] ++ decB (cfN C 5)))
      simp only [List.append_assoc], rfl⟩) ?_
    refine rq (.string (strOfNums (kindL 0 ++ tailL C 6 ++ ([32] ++ nameL 6 ++ [32])))) (fun w' _ => sadd (a := strOfNums (kindL 0 ++ tailL C 6)) (b := strOfNums ([32] ++ nameL 6 ++ [32])) (by have := tailL_len hc 6 (by omega); have := kindL_len 0; have := nameL_len 6; rw [strOfNums_size, strOfNums_size]; simp only [List.length_append, List.length_cons, List.length_nil]; omega) ⟨by rw [str_add], rfl⟩) ?_
    refine q_fa ?_
    refine q_ld (v := .int .i64 (cfN C 6 : Int)) (fun w' hw' => hcell 6 (by omega) w' hw') ?_
    refine q_cl (.string (strOfNums (decB (cfN C 6)))) (fun w' hw' => (r10d_c (cfN C 6) (by have := right_bd hc 6 (by omega); unfold cfN; omega) w').mono fun _ _ ⟨u, he, h1, h2⟩ => ⟨u, he, h1, hw'.trans h2⟩) ?_
    refine rq (.string (strOfNums (kindL 0 ++ tailL C (6 + 1)))) (fun w' _ => sadd (by have := tailL_len hc 6 (by omega); have := kindL_len 0; have := nameL_len 6; have := right_bd hc 6 (by omega); have : (decB (cfN C 6)).length ≤ 10 := decB_len 9 _ (by unfold cfN; omega); rw [strOfNums_size, strOfNums_size]; simp only [List.length_append, List.length_cons, List.length_nil]; omega) ⟨by
      rw [str_add]
      refine congrArg (fun l => Value.string (strOfNums l)) ?_
      show _ = kindL 0 ++ (tailL C 6 ++ ([32] ++ nameL 6 ++ [32] ++ decB (cfN C 6)))
      simp only [List.append_assoc], rfl⟩) ?_
    intro w3 hu3
    exact ⟨rfl, hU2.trans hu3⟩
  · refine fa ?_
    refine ld hcA ?_
    refine fa ?_
    refine ld hcA ?_
    refine draw_all (fun w' => Upd [] w2 w') (by decide +kernel) (Upd.refl _ _).drew ?_
    refine rq (.string (strOfNums (kindL 1 ++ tailL C 1 ++ ([32] ++ nameL 1 ++ [32])))) (fun w' _ => sadd (a := strOfNums (kindL 1 ++ tailL C 1)) (b := strOfNums ([32] ++ nameL 1 ++ [32])) (by have := tailL_len hc 1 (by omega); have := kindL_len 1; have := nameL_len 1; rw [strOfNums_size, strOfNums_size]; simp only [List.length_append, List.length_cons, List.length_nil]; omega) ⟨by rw [str_add], rfl⟩) ?_
    refine q_fa ?_
    refine q_ld (v := .int .i64 (cfN C 1 : Int)) (fun w' hw' => hcell 1 (by omega) w' hw') ?_
    refine q_cl (.string (strOfNums (decB (cfN C 1)))) (fun w' hw' => (r10d_c (cfN C 1) (by have := right_bd hc 1 (by omega); unfold cfN; omega) w').mono fun _ _ ⟨u, he, h1, h2⟩ => ⟨u, he, h1, hw'.trans h2⟩) ?_
    refine rq (.string (strOfNums (kindL 1 ++ tailL C (1 + 1)))) (fun w' _ => sadd (by have := tailL_len hc 1 (by omega); have := kindL_len 1; have := nameL_len 1; have := right_bd hc 1 (by omega); have : (decB (cfN C 1)).length ≤ 10 := decB_len 9 _ (by unfold cfN; omega); rw [strOfNums_size, strOfNums_size]; simp only [List.length_append, List.length_cons, List.length_nil]; omega) ⟨by
      rw [str_add]
      refine congrArg (fun l => Value.string (strOfNums l)) ?_
      show _ = kindL 1 ++ (tailL C 1 ++ ([32] ++ nameL 1 ++ [32] ++ decB (cfN C 1)))
      simp only [List.append_assoc], rfl⟩) ?_
    refine rq (.string (strOfNums (kindL 1 ++ tailL C 2 ++ ([32] ++ nameL 2 ++ [32])))) (fun w' _ => sadd (a := strOfNums (kindL 1 ++ tailL C 2)) (b := strOfNums ([32] ++ nameL 2 ++ [32])) (by have := tailL_len hc 2 (by omega); have := kindL_len 1; have := nameL_len 2; rw [strOfNums_size, strOfNums_size]; simp only [List.length_append, List.length_cons, List.length_nil]; omega) ⟨by rw [str_add], rfl⟩) ?_
    refine q_fa ?_
    refine q_ld (v := .int .i64 (cfN C 2 : Int)) (fun w' hw' => hcell 2 (by omega) w' hw') ?_
    refine q_cl (.string (strOfNums (decB (cfN C 2)))) (fun w' hw' => (r10d_c (cfN C 2) (by have := right_bd hc 2 (by omega); unfold cfN; omega) w').mono fun _ _ ⟨u, he, h1, h2⟩ => ⟨u, he, h1, hw'.trans h2⟩) ?_
    refine rq (.string (strOfNums (kindL 1 ++ tailL C (2 + 1)))) (fun w' _ => sadd (by have := tailL_len hc 2 (by omega); have := kindL_len 1; have := nameL_len 2; have := right_bd hc 2 (by omega); have : (decB (cfN C 2)).length ≤ 10 := decB_len 9 _ (by unfold cfN; omega); rw [strOfNums_size, strOfNums_size]; simp only [List.length_append, List.length_cons, List.length_nil]; omega) ⟨by
      rw [str_add]
      refine congrArg (fun l => Value.string (strOfNums l)) ?_
      show _ = kindL 1 ++ (tailL C 2 ++ ([32] ++ nameL 2 ++ [32] ++ decB (cfN C 2)))
      simp only [List.append_assoc], rfl⟩) ?_
    refine rq (.string (strOfNums (kindL 1 ++ tailL C 3 ++ ([32] ++ nameL 3 ++ [32])))) (fun w' _ => sadd (a := strOfNums (kindL 1 ++ tailL C 3)) (b := strOfNums ([32] ++ nameL 3 ++ [32])) (by have := tailL_len hc 3 (by omega); have := kindL_len 1; have := nameL_len 3; rw [strOfNums_size, strOfNums_size]; simp only [List.length_append, List.length_cons, List.length_nil]; omega) ⟨by rw [str_add], rfl⟩) ?_
    refine q_fa ?_
    refine q_ld (v := .int .i64 (cfN C 3 : Int)) (fun w' hw' => hcell 3 (by omega) w' hw') ?_
    refine q_cl (.string (strOfNums (decB (cfN C 3)))) (fun w' hw' => (r10d_c (cfN C 3) (by have := right_bd hc 3 (by omega); unfold cfN; omega) w').mono fun _ _ ⟨u, he, h1, h2⟩ => ⟨u, he, h1, hw'.trans h2⟩) ?_
    refine rq (.string (strOfNums (kindL 1 ++ tailL C (3 + 1)))) (fun w' _ => sadd (by have := tailL_len hc 3 (by omega); have := kindL_len 1; have := nameL_len 3; have := right_bd hc 3 (by omega); have : (decB (cfN C 3)).length ≤ 10 := decB_len 9 _ (by unfold cfN; omega); rw [strOfNums_size, strOfNums_size]; simp only [List.length_append, List.length_cons, List.length_nil]; omega) ⟨by
      rw [str_add]
      refine congrArg (fun l => Value.string (strOfNums l)) ?_
      show _ = kindL 1 ++ (tailL C 3 ++ ([32] ++ nameL 3 ++ [32] ++ decB (cfN C 3)))
      simp only [List.append_assoc], rfl⟩) ?_
    refine rq (.string (strOfNums (kindL 1 ++ tailL C 4 ++ ([32] ++ nameL 4 ++ [32])))) (fun w' _ => sadd (a := strOfNums (kindL 1 ++ tailL C 4)) (b := strOfNums ([32] ++ nameL 4 ++ [32])) (by have := tailL_len hc 4 (by omega); have := kindL_len 1; have := nameL_len 4; rw [strOfNums_size, strOfNums_size]; simp only [List.length_append, List.length_cons, List.length_nil]; omega) ⟨by rw [str_add], rfl⟩) ?_
    refine q_fa ?_
    refine q_ld (v := .int .i64 (cfN C 4 : Int)) (fun w' hw' => hcell 4 (by omega) w' hw') ?_
    refine q_cl (.string (strOfNums (decB (cfN C 4)))) (fun w' hw' => (r10d_c (cfN C 4) (by have := right_bd hc 4 (by omega); unfold cfN; omega) w').mono fun _ _ ⟨u, he, h1, h2⟩ => ⟨u, he, h1, hw'.trans h2⟩) ?_
    refine rq (.string (strOfNums (kindL 1 ++ tailL C (4 + 1)))) (fun w' _ => sadd (by have := tailL_len hc 4 (by omega); have := kindL_len 1; have := nameL_len 4; have := right_bd hc 4 (by omega); have : (decB (cfN C 4)).length ≤ 10 := decB_len 9 _ (by unfold cfN; omega); rw [strOfNums_size, strOfNums_size]; simp only [List.length_append, List.length_cons, List.length_nil]; omega) ⟨by
      rw [str_add]
      refine congrArg (fun l => Value.string (strOfNums l)) ?_
      show _ = kindL 1 ++ (tailL C 4 ++ ([32] ++ nameL 4 ++ [32] ++ decB (cfN C 4)))
      simp only [List.append_assoc], rfl⟩) ?_
    refine rq (.string (strOfNums (kindL 1 ++ tailL C 5 ++ ([32] ++ nameL 5 ++ [32])))) (fun w' _ => sadd (a := strOfNums (kindL 1 ++ tailL C 5)) (b := strOfNums ([32] ++ nameL 5 ++ [32])) (by have := tailL_len hc 5 (by omega); have := kindL_len 1; have := nameL_len 5; rw [strOfNums_size, strOfNums_size]; simp only [List.length_append, List.length_cons, List.length_nil]; omega) ⟨by rw [str_add], rfl⟩) ?_
    refine q_fa ?_
    refine q_ld (v := .int .i64 (cfN C 5 : Int)) (fun w' hw' => hcell 5 (by omega) w' hw') ?_
    refine q_cl (.string (strOfNums (decB (cfN C 5)))) (fun w' hw' => (r10d_c (cfN C 5) (by have := right_bd hc 5 (by omega); unfold cfN; omega) w').mono fun _ _ ⟨u, he, h1, h2⟩ => ⟨u, he, h1, hw'.trans h2⟩) ?_
    refine rq (.string (strOfNums (kindL 1 ++ tailL C (5 + 1)))) (fun w' _ => sadd (by have := tailL_len hc 5 (by omega); have := kindL_len 1; have := nameL_len 5; have := right_bd hc 5 (by omega); have : (decB (cfN C 5)).length ≤ 10 := decB_len 9 _ (by unfold cfN; omega); rw [strOfNums_size, strOfNums_size]; simp only [List.length_append, List.length_cons, List.length_nil]; omega) ⟨by
      rw [str_add]
      refine congrArg (fun l => Value.string (strOfNums l)) ?_
      show _ = kindL 1 ++ (tailL C 5 ++ ([32] ++ nameL 5 ++ [32] ++ decB (cfN C 5)))
      simp only [List.append_assoc], rfl⟩) ?_
    refine rq (.string (strOfNums (kindL 1 ++ tailL C 6 ++ ([32] ++ nameL 6 ++ [32])))) (fun w' _ => sadd (a := strOfNums (kindL 1 ++ tailL C 6)) (b := strOfNums ([32] ++ nameL 6 ++ [32])) (by have := tailL_len hc 6 (by omega); have := kindL_len 1; have := nameL_len 6; rw [strOfNums_size, strOfNums_size]; simp only [List.length_append, List.length_cons, List.length_nil]; omega) ⟨by rw [str_add], rfl⟩) ?_
    refine q_fa ?_
    refine q_ld (v := .int .i64 (cfN C 6 : Int)) (fun w' hw' => hcell 6 (by omega) w' hw') ?_
    refine q_cl (.string (strOfNums (decB (cfN C 6)))) (fun w' hw' => (r10d_c (cfN C 6) (by have := right_bd hc 6 (by omega); unfold cfN; omega) w').mono fun _ _ ⟨u, he, h1, h2⟩ => ⟨u, he, h1, hw'.trans h2⟩) ?_
    refine rq (.string (strOfNums (kindL 1 ++ tailL C (6 + 1)))) (fun w' _ => sadd (by have := tailL_len hc 6 (by omega); have := kindL_len 1; have := nameL_len 6; have := right_bd hc 6 (by omega); have : (decB (cfN C 6)).length ≤ 10 := decB_len 9 _ (by unfold cfN; omega); rw [strOfNums_size, strOfNums_size]; simp only [List.length_append, List.length_cons, List.length_nil]; omega) ⟨by
      rw [str_add]
      refine congrArg (fun l => Value.string (strOfNums l)) ?_
      show _ = kindL 1 ++ (tailL C 6 ++ ([32] ++ nameL 6 ++ [32] ++ decB (cfN C 6)))
      simp only [List.append_assoc], rfl⟩) ?_
    intro w3 hu3
    exact ⟨rfl, hU2.trans hu3⟩
  · refine fa ?_
    refine ld hcA ?_
    refine fa ?_
    refine ld hcA ?_
    refine draw_all (fun w' => Upd [] w2 w') (by decide +kernel) (Upd.refl _ _).drew ?_
    refine rq (.string (strOfNums (kindL 2 ++ tailL C 1 ++ ([32] ++ nameL 1 ++ [32])))) (fun w' _ => sadd (a := strOfNums (kindL 2 ++ tailL C 1)) (b := strOfNums ([32] ++ nameL 1 ++ [32])) (by have := tailL_len hc 1 (by omega); have := kindL_len 2; have := nameL_len 1; rw [strOfNums_size, strOfNums_size]; simp only [List.length_append, List.length_cons, List.length_nil]; omega) ⟨by rw [str_add], rfl⟩) ?_
    refine q_fa ?_
    refine q_ld (v := .int .i64 (cfN C 1 : Int)) (fun w' hw' => hcell 1 (by omega) w' hw') ?_
    refine q_cl (.string (strOfNums (decB (cfN C 1)))) (fun w' hw' => (r10d_c (cfN C 1) (by have := right_bd hc 1 (by omega); unfold cfN; omega) w').mono fun _ _ ⟨u, he, h1, h2⟩ => ⟨u, he, h1, hw'.trans h2⟩) ?_
    refine rq (.string (strOfNums (kindL 2 ++ tailL C (1 + 1)))) (fun w' _ => sadd (by have := tailL_len hc 1 (by omega); have := kindL_len 2; have := nameL_len 1; have := right_bd hc 1 (by omega); have : (decB (cfN C 1)).length ≤ 10 := decB_len 9 _ (by unfold cfN; omega); rw [strOfNums_size, strOfNums_size]; simp only [List.length_append, List.length_cons, List.length_nil]; omega) ⟨by
      rw [str_add]
      refine congrArg (fun l => Value.string (strOfNums l)) ?_
      show _ = kindL 2 ++ (tailL C 1 ++ ([32] ++ nameL 1 ++ [32] ++ decB (cfN C 1)))
      simp only [List.append_assoc], rfl⟩) ?_
    refine rq (.string (strOfNums (kindL 2 ++ tailL C 2 ++ ([32] ++ nameL 2 ++ [32])))) (fun w' _ => sadd (a := strOfNums (kindL 2 ++ tailL C 2)) (b := strOfNums ([32] ++ nameL 2 ++ [32])) (by have := tailL_len hc 2 (by omega); have := kindL_len 2; have := nameL_len 2; rw [strOfNums_size, strOfNums_size]; simp only [List.length_append, List.length_cons, List.length_nil]; omega) ⟨by rw [str_add], rfl⟩) ?_
    refine q_fa ?_
    refine q_ld (v := .int .i64 (cfN C 2 : Int)) (fun w' hw' => hcell 2 (by omega) w' hw') ?_
    refine q_cl (.string (strOfNums (decB (cfN C 2)))) (fun w' hw' => (r10d_c (cfN C 2) (by have := right_bd hc 2 (by omega); unfold cfN; omega) w').mono fun _ _ ⟨u, he, h1, h2⟩ => ⟨u, he, h1, hw'.trans h2⟩) ?_
    refine rq (.string (strOfNums (kindL 2 ++ tailL C (2 + 1)))) (fun w' _ => sadd (by have := tailL_len hc 2 (by omega); have := kindL_len 2; have := nameL_len 2; have := right_bd hc 2 (by omega); have : (decB (cfN C 2)).length ≤ 10 := decB_len 9 _ (by unfold cfN; omega); rw [strOfNums_size, strOfNums_size]; simp only [List.length_append, List.length_cons, List.length_nil]; omega) ⟨by
      rw [str_add]
      refine congrArg (fun l => Value.string (strOfNums l)) ?_
      show _ = kindL 2 ++ (tailL C 2 ++ ([32] ++ nameL 2 ++ [32] ++ decB (cfN C 2)))
      simp only [List.append_assoc], rfl⟩) ?_
    refine rq (.string (strOfNums (kindL 2 ++ tailL C 3 ++ ([32] ++ nameL 3 ++ [32])))) (fun w' _ => sadd (a := strOfNums (kindL 2 ++ tailL C 3)) (b := strOfNums ([32] ++ nameL 3 ++ [32])) (by have := tailL_len hc 3 (by omega); have := kindL_len 2; have := nameL_len 3; rw [strOfNums_size, strOfNums_size]; simp only [List.length_append, List.length_cons, List.length_nil]; omega) ⟨by rw [str_add], rfl⟩) ?_
    refine q_fa ?_
    refine q_ld (v := .int .i64 (cfN C 3 : Int)) (fun w' hw' => hcell 3 (by omega) w' hw') ?_
    refine q_cl (.string (strOfNums (decB (cfN C 3)))) (fun w' hw' => (r10d_c (cfN C 3) (by have := right_bd hc 3 (by omega); unfold cfN; omega) w').mono fun _ _ ⟨u, he, h1, h2⟩ => ⟨u, he, h1, hw'.trans h2⟩) ?_
    refine rq (.string (strOfNums (kindL 2 ++ tailL C (3 + 1)))) (fun w' _ => sadd (by have := tailL_len hc 3 (by omega); have := kindL_len 2; have := nameL_len 3; have := right_bd hc 3 (by omega); have : (decB (cfN C 3)).length ≤ 10 := decB_len 9 _ (by unfold cfN; omega); rw [strOfNums_size, strOfNums_size]; simp only [List.length_append, List.length_cons, List.length_nil]; omega) ⟨by
      rw [str_add]
      refine congrArg (fun l => Value.string (strOfNums l)) ?_
      show _ = kindL 2 ++ (tailL C 3 ++ ([32] ++ nameL 3 ++ [32] ++ decB (cfN C 3)))
      simp only [List.append_assoc], rfl⟩) ?_
    refine rq (.string (strOfNums (kindL 2 ++ tailL C 4 ++ ([32] ++ nameL 4 ++ [32])))) (fun w' _ => sadd (a := strOfNums (kindL 2 ++ tailL C 4)) (b := strOfNums ([32] ++ nameL 4 ++ [32])) (by have := tailL_len hc 4 (by omega); have := kindL_len 2; have := nameL_len 4; rw [strOfNums_size, strOfNums_size]; simp only [List.length_append, List.length_cons, List.length_nil]; omega) ⟨by rw [str_add], rfl⟩) ?_
    refine q_fa ?_
    refine q_ld (v := .int .i64 (cfN C 4 : Int)) (fun w' hw' => hcell 4 (by omega) w' hw') ?_
    refine q_cl (.string (strOfNums (decB (cfN C 4)))) (fun w' hw' => (r10d_c (cfN C 4) (by have := right_bd hc 4 (by omega); unfold cfN; omega) w').mono fun _ _ ⟨u, he, h1, h2⟩ => ⟨u, he, h1, hw'.trans h2⟩) ?_
    refine rq (.string (strOfNums (kindL 2 ++ tailL C (4 + 1)))) (fun w' _ => sadd (by have := tailL_len hc 4 (by omega); have := kindL_len 2; have := nameL_len 4; have := right_bd hc 4 (by omega); have : (decB (cfN C 4)).length ≤ 10 := decB_len 9 _ (by unfold cfN; omega); rw [strOfNums_size, strOfNums_size]; simp only [List.length_append, List.length_cons, List.length_nil]; omega) ⟨by
      rw [str_add]
      refine congrArg (fun l => Value.string (strOfNums l)) ?_
      show _ = kindL 2 ++ (tailL C 4 ++ ([32] ++ nameL 4 ++ [32] ++ decB (cfN C 4)))
      simp only [List.append_assoc], rfl⟩) ?_
    refine rq (.string (strOfNums (kindL 2 ++ tailL C 5 ++ ([32] ++ nameL 5 ++ [32])))) (fun w' _ => sadd (a := strOfNums (kindL 2 ++ tailL C 5)) (b := strOfNums ([32] ++ nameL 5 ++ [32])) (by have := tailL_len hc 5 (by omega); have := kindL_len 2; have := nameL_len 5; rw [strOfNums_size, strOfNums_size]; simp only [List.length_append, List.length_cons, List.length_nil]; omega) ⟨by rw [str_add], rfl⟩) ?_
    refine q_fa ?_
    refine q_ld (v := .int .i64 (cfN C 5 : Int)) (fun w' hw' => hcell 5 (by omega) w' hw') ?_
    refine q_cl (.string (strOfNums (decB (cfN C 5)))) (fun w' hw' => (r10d_c (cfN C 5) (by have := right_bd hc 5 (by omega); unfold cfN; omega) w').mono fun _ _ ⟨u, he, h1, h2⟩ => ⟨u, he, h1, hw'.trans h2⟩) ?_
    refine rq (.string (strOfNums (kindL 2 ++ tailL C (5 + 1)))) (fun w' _ => sadd (by have := tailL_len hc 5 (by omega); have := kindL_len 2; have := nameL_len 5; have := right_bd hc 5 (by omega); have : (decB (cfN C 5)).length ≤ 10 := decB_len 9 _ (by unfold cfN; omega); rw [strOfNums_size, strOfNums_size]; simp only [List.length_append, List.length_cons, List.length_nil]; omega) ⟨by
      rw [str_add]
      refine congrArg (fun l => Value.string (strOfNums l)) ?_
      show _ = kindL 2 ++ (tailL C 5 ++ ([32] ++ nameL 5 ++ [32] ++ decB (cfN C 5)))
      simp only [List.append_assoc], rfl⟩) ?_
    refine rq (.string (strOfNums (kindL 2 ++ tailL C 6 ++ ([32] ++ nameL 6 ++ [32])))) (fun w' _ => sadd (a := strOfNums (kindL 2 ++ tailL C 6)) (b := strOfNums ([32] ++ nameL 6 ++ [32])) (by have := tailL_len hc 6 (by omega); have := kindL_len 2; have := nameL_len 6; rw [strOfNums_size, strOfNums_size]; simp only [List.length_append, List.length_cons, List.length_nil]; omega) ⟨by rw [str_add], rfl⟩) ?_
    refine q_fa ?_
    refine q_ld (v := .int .i64 (cfN C 6 : Int)) (fun w' hw' => hcell 6 (by omega) w' hw') ?_
    refine q_cl (.string (strOfNums (decB (cfN C 6)))) (fun w' hw' => (r10d_c (cfN C 6) (by have := right_bd hc 6 (by omega); unfold cfN; omega) w').mono fun _ _ ⟨u, he, h1, h2⟩ => ⟨u, he, h1, hw'.trans h2⟩) ?_
    refine rq (.string (strOfNums (kindL 2 ++ tailL C (6 + 1)))) (fun w' _ => sadd (by have := tailL_len hc 6 (by omega); have := kindL_len 2; have := nameL_len 6; have := right_bd hc 6 (by omega); have : (decB (cfN C 6)).length ≤ 10 := decB_len 9 _ (by unfold cfN; omega); rw [strOfNums_size, strOfNums_size]; simp only [List.length_append, List.length_cons, List.length_nil]; omega) ⟨by
      rw [str_add]
      refine congrArg (fun l => Value.string (strOfNums l)) ?_
      show _ = kindL 2 ++ (tailL C 6 ++ ([32] ++ nameL 6 ++ [32] ++ decB (cfN C 6)))
      simp only [List.append_assoc], rfl⟩) ?_
    intro w3 hu3
    exact ⟨rfl, hU2.trans hu3⟩
end Go.Proofs.YtlhbgnoghjendaaDoor
