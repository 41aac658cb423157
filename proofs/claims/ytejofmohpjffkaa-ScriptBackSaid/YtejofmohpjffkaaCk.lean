/- The reference's decoding; the law CallCodes. -/
import Derived.Test.YtejofmohpjffkaaCj
namespace Go.Proofs.Ytejofmohpjffkaa
open Go.RowKit
attribute [local irreducible] Instr.loadAt Instr.storeAt Instr.fieldAt Instr.indexAt Instr.sliceAt Instr.buildSlice Instr.box Instr.alloc Builtin.append_ Builtin.len_ Builtin.min_ Builtin.max_ Calls Instr.build Instr.makeSlice binSem convert Instr.index Instr.range Instr.next

def pad9 (l : List Int) (k : Nat) : Array Value := ((List.range 9).map fun i => Value.int .u32 (if i < k then l.getD i 0 else 0)).toArray
theorem pad9_size (l : List Int) (k : Nat) : (pad9 l k).size = 9 := by simp [pad9]
theorem pad9_set (l : List Int) (k : Nat) (hk : k < 9) : (pad9 l k).setIfInBounds k (.int .u32 (l.getD k 0)) = pad9 l (k + 1) := by
  rcases (show k = 0 ∨ k = 1 ∨ k = 2 ∨ k = 3 ∨ k = 4 ∨ k = 5 ∨ k = 6 ∨ k = 7 ∨ k = 8 by omega) with rfl | rfl | rfl | rfl | rfl | rfl | rfl | rfl | rfl <;> rfl
def all9 (l : List Int) : Array Value := #[.int .u32 (l.getD 0 0), .int .u32 (l.getD 1 0), .int .u32 (l.getD 2 0), .int .u32 (l.getD 3 0), .int .u32 (l.getD 4 0), .int .u32 (l.getD 5 0), .int .u32 (l.getD 6 0), .int .u32 (l.getD 7 0), .int .u32 (l.getD 8 0)]
theorem pad9_all (l : List Int) (k : Nat) (h : 9 ≤ k ∨ l.length ≤ k) : pad9 l k = all9 l := by
  have key : ∀ i, i < 9 → (if i < k then l.getD i 0 else 0) = l.getD i 0 := fun i hi => by
    split
    · rfl
    · rw [List.getD_eq_getElem?_getD, List.getElem?_eq_none (by omega)]; rfl
  unfold pad9 all9
  simp only [List.range, List.range.loop, List.map_cons, List.map_nil]
  simp only [key 0 (by omega), key 1 (by omega), key 2 (by omega), key 3 (by omega), key 4 (by omega), key 5 (by omega), key 6 (by omega), key 7 (by omega), key 8 (by omega)]
theorem leN4 (l : List Int) (d : Nat) : leN (l.drop d) 4 = (l.getD d 0).toNat + (l.getD (d + 1) 0).toNat * 256 + (l.getD (d + 2) 0).toNat * 65536 + (l.getD (d + 3) 0).toNat * 16777216 := by
  have e : ∀ i, (l.drop d).getD i 0 = l.getD (d + i) 0 := fun i => by simp [List.getD, List.getElem?_drop]
  rw [show (4 : Nat) = 3 + 1 from rfl, leN_succ, leN_succ, leN_succ, leN_succ]
  simp only [e]
  simp [leN]
theorem decR_yes {l : List Int} (h : decO l = 0) : decR l = (0, (leN (l.drop 1) 4 : Int), (leN (l.drop 5) 4 : Int)) := by
  by_cases hl : l = []
  · subst hl; rfl
  · rw [decR, if_neg hl, if_pos h]
theorem decR_no {l : List Int} (h : ¬ decO l = 0) : decR l = (decO l, 0, 0) := by
  by_cases hl : l = []
  · subst hl; exact absurd rfl h
  · rw [decR, if_neg hl, if_neg h]
set_option maxRecDepth 10000 in
theorem rdecode_c (v : Value) (l : List Int) (w : World) (hv : Bts w v l) : Fn Try.prog 30 #[v] w fun r w' => r = .agg (c3 (decR l).1 (decR l).2.1 (decR l).2.2) ∧ Upd [] w w' := by
  obtain ⟨a, cap, rfl, hcap⟩ := hv.form
  have hb := byte_nat hv
  refine fn_enter Try.func30 rfl rfl ?_
  refine al z3 (fun _ => by kernel_rfl) fun w1 hb1 hu1 hs1 => ?_
  refine al #[.int .u32 0, .int .u32 0, .int .u32 0, .int .u32 0, .int .u32 0, .int .u32 0, .int .u32 0, .int .u32 0, .int .u32 0] (fun _ => by kernel_rfl) fun w2 hb2 hu2 hs2 => ?_
  have hU2 := hu1.trans hu2
  have hr2 := hb1.upd hu2 (by simp)
  have hb2 : Blk w2 w1.heap.size 88 (pad9 l 0) := hb2
  have hd : w.heap.size ≤ w1.heap.size ∧ w.heap.size ≠ w1.heap.size := by omega
  generalize w1.heap.size = q at *
  refine loop_rule [0, 2, 3] [4] (fun vs w' m => ∃ j : Nat, vs = [.int .i64 j] ∧ j ≤ 9 ∧ m = 9 - j ∧ Blk w' q 88 (pad9 l j) ∧ Blk w' w.heap.size 43 z3 ∧ Upd [] w w') rfl [.int .i64 0] 9 rfl ⟨0, rfl, by omega, rfl, hb2, hr2, hU2⟩ ?_
  rintro _ w3 m ⟨j, rfl, hj, rfl, gx, gr, gU⟩
  by_cases hgo : j < 9 ∧ j < l.length
  · refine cY (by omega) ?_
    refine len_sl ?_
    refine cY (by omega) ?_
    obtain ⟨b, o, cap', he, -, hc⟩ := (hv.upd gU).some_ (by omega)
    cases he
    refine ix j rfl hgo.2 ?_
    refine ld (hc j hgo.2) ?_
    refine cv ?_
    refine ar32 (by have := hb j; omega) ?_
    refine ixA j rfl hgo.1 ?_
    refine st gx (by rw [pad9_size]; omega) rfl fun w4 hb4 hu4 hs4 => ?_
    refine ar64 (by omega) ?_
    refine round_mk [.int .i64 ((j + 1 : Nat) : Int)] (9 - (j + 1)) rfl rfl ?_ (by omega)
    refine ⟨j + 1, rfl, by omega, rfl, ?_, gr.upd hu4 (by simpa using hd.2), gU.step hu4 (by simpa using hd.1)⟩
    rw [← pad9_set l j hgo.1]
    simpa using hb4
  · rw [pad9_all l j (by omega)] at gx
    by_cases h9 : j < 9
    · refine cY (by omega) ?_
      refine len_sl ?_
      refine cN (by omega) ?_
      refine ixA 0 rfl (by decide) ?_
      refine ldb gx rfl ?_
      refine rm (by decide) ?_
      refine val (decO l) (by rw [Int.tmod_eq_emod_of_nonneg (hb 0).1]; unfold decO; have := hb 0; omega) ?_
      have hO : 0 ≤ decO l ∧ decO l < 3 := by unfold decO; omega
      refine cv ?_
      refine ar64 (by omega) ?_
      refine bd (c3 (decO l) 0 0) (fun _ => by kernel_rfl) ?_
      refine al z3 (fun _ => by kernel_rfl) fun w4 hb4 hu4 hs4 => ?_
      have zU := gU.size
      have zx := gx.lt
      have zr := gr.lt
      refine stw hb4 rfl rfl rfl fun w5 hb5 hu5 hs5 => ?_
      have hU5 := (gU.trans hu4).step hu5 (by simp; omega)
      have gx5 := (gx.upd hu4 (by simp)).upd hu5 (by simp; omega)
      have gr5 := (gr.upd hu4 (by simp)).upd hu5 (by simp; omega)
      refine fa ?_
      refine ldb hb5 rfl ?_
      refine cd (fun h0 => ?_) (fun h0 => ?_)
      · have b1 := hb 1; have b2 := hb 2; have b3 := hb 3; have b4 := hb 4; have b5 := hb 5; have b6 := hb 6; have b7 := hb 7; have b8 := hb 8
        refine ixA 1 rfl (by decide) ?_
        refine ldb gx5 rfl ?_
        refine ixA 2 rfl (by decide) ?_
        refine ldb gx5 rfl ?_
        refine ar32 (by omega) ?_
        refine ar32 (by omega) ?_
        refine ixA 3 rfl (by decide) ?_
        refine ldb gx5 rfl ?_
        refine ar32 (by omega) ?_
        refine ar32 (by omega) ?_
        refine ixA 4 rfl (by decide) ?_
        refine ldb gx5 rfl ?_
        refine ar32 (by omega) ?_
        refine ar32 (by omega) ?_
        refine fa ?_
        refine st hb5 (by show 1 < 3; omega) rfl fun w6 hb6 hu6 hs6 => ?_
        have gx6 := gx5.upd hu6 (by simp; omega)
        refine ixA 5 rfl (by decide) ?_
        refine ldb gx6 rfl ?_
        refine ixA 6 rfl (by decide) ?_
        refine ldb gx6 rfl ?_
        refine ar32 (by omega) ?_
        refine ar32 (by omega) ?_
        refine ixA 7 rfl (by decide) ?_
        refine ldb gx6 rfl ?_
        refine ar32 (by omega) ?_
        refine ar32 (by omega) ?_
        refine ixA 8 rfl (by decide) ?_
        refine ldb gx6 rfl ?_
        refine ar32 (by omega) ?_
        refine ar32 (by omega) ?_
        refine fa ?_
        refine st hb6 (by rw [Array.size_setIfInBounds]; show 2 < 3; omega) rfl fun w7 hb7 hu7 hs7 => ?_
        have hU7 := (hU5.step hu6 (by simp; omega)).step hu7 (by simp; omega)
        have gr7 := (gr5.upd hu6 (by simp; omega)).upd hu7 (by simp; omega)
        have e1 : l.getD 1 0 + 256 * l.getD 2 0 + 65536 * l.getD 3 0 + 16777216 * l.getD 4 0 = (leN (l.drop 1) 4 : Int) := by rw [leN4]; simp only [Nat.reduceAdd]; omega
        have e2 : l.getD 5 0 + 256 * l.getD 6 0 + 65536 * l.getD 7 0 + 16777216 * l.getD 8 0 = (leN (l.drop 5) 4 : Int) := by rw [leN4]; simp only [Nat.reduceAdd]; omega
        rw [e1, e2] at hb7
        have hb7 : Blk w7 w3.heap.size 43 (c3 (decO l) (leN (l.drop 1) 4 : Int) (leN (l.drop 5) 4 : Int)) := hb7
        refine ldw hb7 rfl ?_
        refine stw gr7 rfl rfl rfl fun w8 hb8 hu8 hs8 => ?_
        refine rlw hb8 rfl ?_
        refine ⟨?_, hU7.step hu8 (by simp)⟩
        rw [decR_yes h0]; rw [h0]; rfl
      · refine ldw hb5 rfl ?_
        refine stw gr5 rfl rfl rfl fun w8 hb8 hu8 hs8 => ?_
        refine rlw hb8 rfl ?_
        refine ⟨?_, hU5.step hu8 (by simp)⟩
        rw [decR_no h0]; rfl
    · refine cN (by omega) ?_
      refine ixA 0 rfl (by decide) ?_
      refine ldb gx rfl ?_
      refine rm (by decide) ?_
      refine val (decO l) (by rw [Int.tmod_eq_emod_of_nonneg (hb 0).1]; unfold decO; have := hb 0; omega) ?_
      have hO : 0 ≤ decO l ∧ decO l < 3 := by unfold decO; omega
      refine cv ?_
      refine ar64 (by omega) ?_
      refine bd (c3 (decO l) 0 0) (fun _ => by kernel_rfl) ?_
      refine al z3 (fun _ => by kernel_rfl) fun w4 hb4 hu4 hs4 => ?_
      have zU := gU.size
      have zx := gx.lt
      have zr := gr.lt
      refine stw hb4 rfl rfl rfl fun w5 hb5 hu5 hs5 => ?_
      have hU5 := (gU.trans hu4).step hu5 (by simp; omega)
      have gx5 := (gx.upd hu4 (by simp)).upd hu5 (by simp; omega)
      have gr5 := (gr.upd hu4 (by simp)).upd hu5 (by simp; omega)
      refine fa ?_
      refine ldb hb5 rfl ?_
      refine cd (fun h0 => ?_) (fun h0 => ?_)
      · have b1 := hb 1; have b2 := hb 2; have b3 := hb 3; have b4 := hb 4; have b5 := hb 5; have b6 := hb 6; have b7 := hb 7; have b8 := hb 8
        refine ixA 1 rfl (by decide) ?_
        refine ldb gx5 rfl ?_
        refine ixA 2 rfl (by decide) ?_
        refine ldb gx5 rfl ?_
        refine ar32 (by omega) ?_
        refine ar32 (by omega) ?_
        refine ixA 3 rfl (by decide) ?_
        refine ldb gx5 rfl ?_
        refine ar32 (by omega) ?_
        refine ar32 (by omega) ?_
        refine ixA 4 rfl (by decide) ?_
        refine ldb gx5 rfl ?_
        refine ar32 (by omega) ?_
        refine ar32 (by omega) ?_
        refine fa ?_
        refine st hb5 (by show 1 < 3; omega) rfl fun w6 hb6 hu6 hs6 => ?_
        have gx6 := gx5.upd hu6 (by simp; omega)
        refine ixA 5 rfl (by decide) ?_
        refine ldb gx6 rfl ?_
        refine ixA 6 rfl (by decide) ?_
        refine ldb gx6 rfl ?_
        refine ar32 (by omega) ?_
        refine ar32 (by omega) ?_
        refine ixA 7 rfl (by decide) ?_
        refine ldb gx6 rfl ?_
        refine ar32 (by omega) ?_
        refine ar32 (by omega) ?_
        refine ixA 8 rfl (by decide) ?_
        refine ldb gx6 rfl ?_
        refine ar32 (by omega) ?_
        refine ar32 (by omega) ?_
        refine fa ?_
        refine st hb6 (by rw [Array.size_setIfInBounds]; show 2 < 3; omega) rfl fun w7 hb7 hu7 hs7 => ?_
        have hU7 := (hU5.step hu6 (by simp; omega)).step hu7 (by simp; omega)
        have gr7 := (gr5.upd hu6 (by simp; omega)).upd hu7 (by simp; omega)
        have e1 : l.getD 1 0 + 256 * l.getD 2 0 + 65536 * l.getD 3 0 + 16777216 * l.getD 4 0 = (leN (l.drop 1) 4 : Int) := by rw [leN4]; simp only [Nat.reduceAdd]; omega
        have e2 : l.getD 5 0 + 256 * l.getD 6 0 + 65536 * l.getD 7 0 + 16777216 * l.getD 8 0 = (leN (l.drop 5) 4 : Int) := by rw [leN4]; simp only [Nat.reduceAdd]; omega
        rw [e1, e2] at hb7
        have hb7 : Blk w7 w3.heap.size 43 (c3 (decO l) (leN (l.drop 1) 4 : Int) (leN (l.drop 5) 4 : Int)) := hb7
        refine ldw hb7 rfl ?_
        refine stw gr7 rfl rfl rfl fun w8 hb8 hu8 hs8 => ?_
        refine rlw hb8 rfl ?_
        refine ⟨?_, hU7.step hu8 (by simp)⟩
        rw [decR_yes h0]; rw [h0]; rfl
      · refine ldw hb5 rfl ?_
        refine stw gr5 rfl rfl rfl fun w8 hb8 hu8 hs8 => ?_
        refine rlw hb8 rfl ?_
        refine ⟨?_, hU5.step hu8 (by simp)⟩
        rw [decR_no h0]; rfl
end Go.Proofs.Ytejofmohpjffkaa
