/- Contracts: the plan's numbers and addresses, words that point, feeds, ghosts. -/
import Derived.Test.YtdomclcokkijjaaEa
namespace Go.Proofs.Ytdomclcokkijjaa
open Go.RowKit
attribute [local irreducible] Instr.loadAt Instr.storeAt Instr.fieldAt Instr.indexAt Instr.sliceAt Instr.buildSlice Instr.box Instr.alloc Builtin.append_ Builtin.len_ Builtin.min_ Builtin.max_ Calls Instr.build Instr.makeSlice binSem convert Instr.index Instr.range Instr.next
theorem plan_bd {A T N L B P S : Int} (h : rightC ⟨A, T, N, L, B, P, S⟩) : (2 ≤ slotsP A L ∧ slotsP A L ≤ 14) ∧ (3 ≤ widthP A L ∧ widthP A L ≤ 11) ∧ (0 ≤ sentP A ∧ sentP A ≤ 2 ∧ sentP A < N) ∧ (1 ≤ T ∧ T ≤ 6) ∧ (1 ≤ N ∧ N ≤ 64) ∧ (1 ≤ L ∧ L ≤ 6) ∧ (10 ≤ linksP A T L ∧ linksP A T L ≤ 92) ∧ nodesP A T N L = linksP A T L + N ∧
    (nodesP A T N L + 3 ≤ treeP A T N L ∧ treeP A T N L ≤ 860) ∧ treeP A T N L ≤ sizeP A T N L ∧ sizeP A T N L ≤ 924 ∧ treeP A T N L = nodesP A T N L + N * widthP A L := by
  obtain ⟨⟨hA, hT, hN, hL, -⟩, hAN⟩ := h
  unfold within at hA hT hN hL
  have hs : 2 ≤ slotsP A L ∧ slotsP A L ≤ 14 := by unfold slotsP; split <;> omega
  have hw : 3 ≤ widthP A L ∧ widthP A L ≤ 11 := by unfold widthP; split <;> omega
  have hse : 0 ≤ sentP A ∧ sentP A ≤ 2 ∧ sentP A < N := by unfold sentP; split <;> omega
  have h1 := mul_bd (a := T) (b := slotsP A L) (x := 6) (y := 14) (by omega) (by omega)
  have h1' : 1 * 2 ≤ T * slotsP A L := Int.mul_le_mul (by omega) hs.1 (by omega) (by omega)
  have h2 := mul_bd (a := N) (b := widthP A L) (x := 64) (y := 11) (by omega) (by omega)
  have h2' : 1 * 3 ≤ N * widthP A L := Int.mul_le_mul (by omega) hw.1 (by omega) (by omega)
  have h3 : 0 ≤ nthP A L ∧ nthP A L ≤ 64 := by
    unfold nthP
    split
    · rcases (show L = 1 ∨ L = 2 ∨ L = 3 ∨ L = 4 ∨ L = 5 ∨ L = 6 by omega) with rfl | rfl | rfl | rfl | rfl | rfl <;> decide
    · omega
  have e1 : linksP A T L = 8 + T * slotsP A L := rfl
  have e2 : nodesP A T N L = linksP A T L + N := rfl
  have e3 : treeP A T N L = nodesP A T N L + N * widthP A L := rfl
  have e4 : sizeP A T N L = treeP A T N L + nthP A L := rfl
  refine ⟨hs, hw, hse, hT, hN, hL, ⟨by omega, by omega⟩, e2, ⟨by omega, by omega⟩, by omega, by omega, e3⟩
theorem size_c (A T N L B P S : Int) (w : World) : Fn Try.prog 66 #[.agg (planC ⟨A, T, N, L, B, P, S⟩)] w fun r w' => r = .int .i64 (sizeP A T N L) ∧ Upd [] w w' := by
  refine fn_enter Try.func66 rfl rfl ?_
  refine bx fun w1 hb1 hu1 hs1 => ?_
  have hb1 : Blk w1 w.heap.size TP (planC ⟨A, T, N, L, B, P, S⟩) := hb1
  refine fa ?_
  refine ldb hb1 rfl ?_
  exact ⟨rfl, hu1⟩
theorem sent_c (A T N L B P S : Int) (w : World) : Fn Try.prog 69 #[.agg (planC ⟨A, T, N, L, B, P, S⟩)] w fun r w' => r = .int .i64 (sentP A) ∧ Upd [] w w' := by
  refine fn_enter Try.func69 rfl rfl ?_
  refine bx fun w1 hb1 hu1 hs1 => ?_
  have hb1 : Blk w1 w.heap.size TP (planC ⟨A, T, N, L, B, P, S⟩) := hb1
  refine fa ?_
  refine ldb hb1 rfl ?_
  exact ⟨rfl, hu1⟩
theorem conf_c (A T N L B P S : Int) (w : World) : Fn Try.prog 38 #[.agg (planC ⟨A, T, N, L, B, P, S⟩)] w fun r w' => r = .agg (cf7 ⟨A, T, N, L, B, P, S⟩) ∧ Upd [] w w' := by
  refine fn_enter Try.func38 rfl rfl ?_
  refine bx fun w1 hb1 hu1 hs1 => ?_
  have hb1 : Blk w1 w.heap.size TP (planC ⟨A, T, N, L, B, P, S⟩) := hb1
  refine al (cf7 ⟨0, 0, 0, 0, 0, 0, 0⟩) (fun _ => by kernel_rfl) fun w2 hb2 hu2 hs2 => ?_
  refine fa ?_
  refine lda (cf7 ⟨A, T, N, L, B, P, S⟩).toList rfl (fun j v hj => ?_) ?_
  · have hlt : j < 7 := by
      rcases Nat.lt_or_ge j 7 with h | h
      · exact h
      · rw [List.getElem?_eq_none (by show 7 ≤ j; exact h)] at hj; cases hj
    rw [(hb1.upd hu2 (by simp)).cell, ← Array.getElem?_toList, show 0 + 0 + j = j by omega]
    have e : (planC ⟨A, T, N, L, B, P, S⟩).toList = (cf7 ⟨A, T, N, L, B, P, S⟩).toList ++ [.int .i64 (slotsP A L), .int .i64 (widthP A L), .int .i64 (sentP A), .int .i64 8, .int .i64 (linksP A T L), .int .i64 (nodesP A T N L), .int .i64 (treeP A T N L), .int .i64 (sizeP A T N L)] := rfl
    rw [e, List.getElem?_append_left (by show j < 7; exact hlt)]
    exact hj
  refine stw hb2 rfl rfl rfl fun w3 hb3 hu3 hs3 => ?_
  refine rlw hb3 rfl ?_
  exact ⟨rfl, (hu1.trans hu2).step hu3 (by simp; omega)⟩
def linkA (A T N L n : Int) : Int := if 1 ≤ n ∧ n ≤ N then linksP A T L + n - 1 else -1
def nodeA (A T N L n f : Int) : Int := if (1 ≤ n ∧ n ≤ N) ∧ 0 ≤ f ∧ f ≤ widthP A L - 1 then nodesP A T N L + (n - 1) * widthP A L + f else -1
theorem link_a {A T N L B P S : Int} (hr : rightC ⟨A, T, N, L, B, P, S⟩) (n : Int) (w : World) : Fn Try.prog 94 #[.agg (planC ⟨A, T, N, L, B, P, S⟩), .int .i64 n] w fun r w' => r = .int .i64 (linkA A T N L n) ∧ Upd [] w w' := by
  obtain ⟨b1, b2, b3, b4, b5, b6, b7, b8, b9, b10, b11, b12⟩ := plan_bd hr
  refine fn_enter Try.func94 rfl rfl ?_
  refine bx fun w1 hb1 hu1 hs1 => ?_
  have hb1 : Blk w1 w.heap.size TP (planC ⟨A, T, N, L, B, P, S⟩) := hb1
  refine fa ?_
  refine fa ?_
  refine ldb hb1 rfl ?_
  refine bd #[.int .i64 n, .int .i64 1, .int .i64 N] (fun _ => by kernel_rfl) ?_
  refine bs (spanC [(n, 1, N)]) (fun _ => by kernel_rfl) fun w2 hb2 hu2 hs2 => ?_
  refine cl (within_c _ hb2 (by show 1 ≤ 100; omega)) ?_
  rintro _ w3 ⟨⟨b, rfl, hb⟩, hu3⟩
  have hU3 := (hu1.trans hu2).trans hu3
  by_cases hn : 1 ≤ n ∧ n ≤ N
  · have : b = true := hb.2 (fun j hj => by
      have : j = 0 := by have : j < 1 := hj; omega
      subst this; exact hn)
    subst this
    refine fa ?_
    refine ldb ((hb1.upd hu2 (by simp)).upd hu3 (by simp)) (v := .int .i64 (linksP A T L)) rfl ?_
    refine ar64 (by omega) ?_
    refine ar64 (by omega) ?_
    exact ⟨by rw [linkA, if_pos hn]; rfl, hU3⟩
  · have : b = false := by
      cases b
      · rfl
      · exact absurd (hb.1 rfl 0 (by simp)) hn
    subst this
    exact ⟨by rw [linkA, if_neg hn]; rfl, hU3⟩
theorem node_a {A T N L B P S : Int} (hr : rightC ⟨A, T, N, L, B, P, S⟩) (n f : Int) (w : World) : Fn Try.prog 95 #[.agg (planC ⟨A, T, N, L, B, P, S⟩), .int .i64 n, .int .i64 f] w fun r w' => r = .int .i64 (nodeA A T N L n f) ∧ Upd [] w w' := by
  obtain ⟨b1, b2, b3, b4, b5, b6, b7, b8, b9, b10, b11, b12⟩ := plan_bd hr
  refine fn_enter Try.func95 rfl rfl ?_
  refine bx fun w1 hb1 hu1 hs1 => ?_
  have hb1 : Blk w1 w.heap.size TP (planC ⟨A, T, N, L, B, P, S⟩) := hb1
  refine fa ?_
  refine fa ?_
  refine ldb hb1 rfl ?_
  refine bd #[.int .i64 n, .int .i64 1, .int .i64 N] (fun _ => by kernel_rfl) ?_
  refine fa ?_
  refine ldb hb1 (v := .int .i64 (widthP A L)) rfl ?_
  refine ar64 (by omega) ?_
  refine bd #[.int .i64 f, .int .i64 0, .int .i64 (widthP A L - 1)] (fun _ => by kernel_rfl) ?_
  refine bs (spanC [(n, 1, N), (f, 0, widthP A L - 1)]) (fun _ => by kernel_rfl) fun w2 hb2 hu2 hs2 => ?_
  refine cl (within_c _ hb2 (by show 2 ≤ 100; omega)) ?_
  rintro _ w3 ⟨⟨b, rfl, hb⟩, hu3⟩
  have hU3 := (hu1.trans hu2).trans hu3
  by_cases hn : (1 ≤ n ∧ n ≤ N) ∧ 0 ≤ f ∧ f ≤ widthP A L - 1
  · have : b = true := hb.2 (fun j hj => by
      have : j < 2 := hj
      rcases (show j = 0 ∨ j = 1 by omega) with rfl | rfl
      · exact hn.1
      · exact hn.2)
    subst this
    have hb3 := (hb1.upd hu2 (by simp)).upd hu3 (by simp)
    have hm := mul_bd (a := n - 1) (b := widthP A L) (x := 64) (y := 11) (by omega) (by omega)
    refine fa ?_
    refine ldb hb3 (v := .int .i64 (nodesP A T N L)) rfl ?_
    refine ar64 (by omega) ?_
    refine fa ?_
    refine ldb hb3 (v := .int .i64 (widthP A L)) rfl ?_
    refine ar64 (by omega) ?_
    refine ar64 (by omega) ?_
    refine ar64 (by omega) ?_
    exact ⟨by rw [nodeA, if_pos hn]; rfl, hU3⟩
  · have : b = false := by
      cases b
      · rfl
      · exact absurd ⟨hb.1 rfl 0 (by simp), hb.1 rfl 1 (by simp)⟩ hn
    subst this
    exact ⟨by rw [nodeA, if_neg hn]; rfl, hU3⟩
end Go.Proofs.Ytdomclcokkijjaa
