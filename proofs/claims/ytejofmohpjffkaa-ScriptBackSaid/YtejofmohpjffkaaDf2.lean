/- Contracts of the configuration's functions: the checks. -/
import Derived.Test.YtejofmohpjffkaaDf
namespace Go.Proofs.Ytejofmohpjffkaa.K
open Go.RowKit
attribute [local irreducible] Instr.loadAt Instr.storeAt Instr.fieldAt Instr.indexAt Instr.sliceAt Instr.buildSlice Instr.box Instr.alloc Builtin.append_ Builtin.len_ Builtin.min_ Builtin.max_ Calls Instr.build Instr.makeSlice binSem convert

def spans : Cf → Array Value
  | ⟨A, T, N, L, B, P, S⟩ => #[.int .i64 A, .int .i64 0, .int .i64 2, .int .i64 T, .int .i64 1, .int .i64 6, .int .i64 N, .int .i64 1, .int .i64 64, .int .i64 L, .int .i64 1, .int .i64 6,
      .int .i64 B, .int .i64 1, .int .i64 16, .int .i64 P, .int .i64 1, .int .i64 16, .int .i64 S, .int .i64 1, .int .i64 64]
def inAt (c : Cf) (j : Nat) : Prop := within ((cfL c).getD j 0) ((cfL loC).getD j 0) ((cfL hiC).getD j 0)
theorem span_get (c : Cf) (j : Nat) (hj : j < 7) (i : Nat) (v : Value) (h : [Value.int .i64 ((cfL c).getD j 0), .int .i64 ((cfL loC).getD j 0), .int .i64 ((cfL hiC).getD j 0)][i]? = some v) : (spans c)[j * 3 + i]? = some v := by
  obtain ⟨A, T, N, L, B, P, S⟩ := c
  have hi : i < 3 := by
    rcases Nat.lt_or_ge i 3 with h1 | h1
    · exact h1
    · rw [List.getElem?_eq_none (by simpa using h1)] at h; cases h
  rcases (show i = 0 ∨ i = 1 ∨ i = 2 by omega) with rfl | rfl | rfl <;> cases h <;>
  rcases (show j = 0 ∨ j = 1 ∨ j = 2 ∨ j = 3 ∨ j = 4 ∨ j = 5 ∨ j = 6 by omega) with rfl | rfl | rfl | rfl | rfl | rfl | rfl <;> rfl
def allIn : Cf → Prop
  | ⟨A, T, N, L, B, P, S⟩ => within A 0 2 ∧ within T 1 6 ∧ within N 1 64 ∧ within L 1 6 ∧ within B 1 16 ∧ within P 1 16 ∧ within S 1 64
instance (c : Cf) : Decidable (allIn c) := by
  obtain ⟨A, T, N, L, B, P, S⟩ := c
  unfold allIn within
  exact inferInstance
theorem all_of (c : Cf) (h : ∀ j, j < 7 → inAt c j) : allIn c := by
  obtain ⟨A, T, N, L, B, P, S⟩ := c
  exact ⟨h 0 (by omega), h 1 (by omega), h 2 (by omega), h 3 (by omega), h 4 (by omega), h 5 (by omega), h 6 (by omega)⟩
theorem at_of (c : Cf) (h : allIn c) (j : Nat) (hj : j < 7) : inAt c j := by
  obtain ⟨A, T, N, L, B, P, S⟩ := c
  obtain ⟨h0, h1, h2, h3, h4, h5, h6⟩ := h
  rcases (show j = 0 ∨ j = 1 ∨ j = 2 ∨ j = 3 ∨ j = 4 ∨ j = 5 ∨ j = 6 by omega) with rfl | rfl | rfl | rfl | rfl | rfl | rfl <;> assumption

theorem within_c (c : Cf) (g : Nat) (w : World) (hb : Blk w g 102 (spans c)) : Fn Try.prog 62 #[.slice (some ⟨g, 0, none⟩) 7 7] w fun r w' => r = .bool (decide (allIn c)) ∧ Upd [] w w' := by
  refine fn_enter Try.func62 rfl rfl ?_
  refine len_sl ?_
  refine loop_rule [5, 6] [7] (fun vs w' m => ∃ j : Nat, vs = [.int .i64 j] ∧ j ≤ 7 ∧ m = 7 - j ∧ (∀ i, i < j → inAt c i) ∧ Upd [] w w') rfl [.int .i64 0] 7 rfl ⟨0, rfl, by omega, rfl, fun i hi => absurd hi (by omega), Upd.refl _ _⟩ ?_
  rintro _ w1 m ⟨j, rfl, hj, rfl, hin, hU⟩
  refine cd (fun hlt => ?_) (fun hlt => ?_)
  · have hlt : j < 7 := by omega
    refine ix j rfl hlt ?_
    have hg := hb.upd hU (by simp)
    refine lda [.int .i64 ((cfL c).getD j 0), .int .i64 ((cfL loC).getD j 0), .int .i64 ((cfL hiC).getD j 0)] rfl (fun i v hv => by rw [hg.cell, Nat.zero_add]; exact span_get c j hlt i v hv) ?_
    refine al #[.int .i64 0, .int .i64 0, .int .i64 0] (fun _ => by kernel_rfl) fun w2 hb2 hu2 hs2 => ?_
    refine stw hb2 rfl rfl rfl fun w3 hb3 hu3 hs3 => ?_
    have hU3 := (hU.trans hu2).step hu3 (by have := hU.size; simp; omega)
    refine fa ?_
    refine ldb hb3 rfl ?_
    refine fa ?_
    refine ldb hb3 rfl ?_
    refine cd (fun h1 => ?_) (fun h1 => ?_)
    · refine ⟨?_, hU3⟩
      have : ¬ allIn c := fun h => by have := (at_of c h j hlt).1; omega
      simp [this]
    · refine fa ?_
      refine ldb hb3 rfl ?_
      refine fa ?_
      refine ldb hb3 rfl ?_
      refine cd (fun h2 => ?_) (fun h2 => ?_)
      · refine ⟨?_, hU3⟩
        have : ¬ allIn c := fun h => by have := (at_of c h j hlt).2; omega
        simp [this]
      · refine ar64 (by omega) ?_
        refine round_mk [.int .i64 ((j + 1 : Nat) : Int)] (7 - (j + 1)) rfl rfl ?_ (by omega)
        refine ⟨j + 1, rfl, by omega, rfl, fun i hi => ?_, hU3⟩
        by_cases hij : i = j
        · subst hij; exact ⟨by omega, by omega⟩
        · exact hin i (by omega)
  · have hj7 : j = 7 := by omega
    subst hj7
    refine ⟨?_, hU⟩
    simp [all_of c hin]

def z15 : Array Value := #[.int .i64 0, .int .i64 0, .int .i64 0, .int .i64 0, .int .i64 0, .int .i64 0, .int .i64 0, .int .i64 0, .int .i64 0, .int .i64 0, .int .i64 0, .int .i64 0, .int .i64 0, .int .i64 0, .int .i64 0]
def errC (c : Cf) : Int := if rightC c then 0 else 6
theorem rightC_iff (A T N L B P S : Int) : rightC ⟨A, T, N, L, B, P, S⟩ ↔ allIn ⟨A, T, N, L, B, P, S⟩ ∧ (A = 0 ∨ 3 ≤ N) := Iff.rfl
theorem anyv {K : Value → World → Prop} {w : World} {k' : IntKind} {n : Int} (k : ∀ m, K (.int k' m) w) : ValP k' n K w := ⟨k n⟩
theorem qny {K : Value → Prop} {k' : IntKind} {n : Int} (k : ∀ m, K (.int k' m)) : ValQ k' n K := ⟨k n⟩
set_option maxRecDepth 10000 in
theorem new_c (c : Cf) (w : World) : Fn Try.prog 48 #[.agg (cf7 c)] w fun r w' => (∃ p : Array Value, r = .tuple #[.agg p, .int .i64 (errC c)] ∧ p.toList.length = 15 ∧ p.toList.all (·.oneCell') = true) ∧ Upd [] w w' := by
  obtain ⟨A, T, N, L, B, P, S⟩ := c
  refine fn_enter Try.func48 rfl rfl ?_
  refine bx fun w1 hb1 hu1 hs1 => ?_
  refine al z15 (fun _ => by kernel_rfl) fun w2 hb2 hu2 hs2 => ?_
  have hb1' := hb1.upd hu2 (by simp)
  refine fa ?_
  refine ldb hb1' rfl ?_
  refine bd #[.int .i64 A, .int .i64 0, .int .i64 2] (fun _ => by kernel_rfl) ?_
  refine fa ?_
  refine ldb hb1' rfl ?_
  refine bd #[.int .i64 T, .int .i64 1, .int .i64 6] (fun _ => by kernel_rfl) ?_
  refine fa ?_
  refine ldb hb1' rfl ?_
  refine bd #[.int .i64 N, .int .i64 1, .int .i64 64] (fun _ => by kernel_rfl) ?_
  refine fa ?_
  refine ldb hb1' rfl ?_
  refine bd #[.int .i64 L, .int .i64 1, .int .i64 6] (fun _ => by kernel_rfl) ?_
  refine fa ?_
  refine ldb hb1' rfl ?_
  refine bd #[.int .i64 B, .int .i64 1, .int .i64 16] (fun _ => by kernel_rfl) ?_
  refine fa ?_
  refine ldb hb1' rfl ?_
  refine bd #[.int .i64 P, .int .i64 1, .int .i64 16] (fun _ => by kernel_rfl) ?_
  refine fa ?_
  refine ldb hb1' rfl ?_
  refine bd #[.int .i64 S, .int .i64 1, .int .i64 64] (fun _ => by kernel_rfl) ?_
  refine bs (spans ⟨A, T, N, L, B, P, S⟩) (fun _ => by kernel_rfl) fun w3 hb3 hu3 hs3 => ?_
  refine cl (within_c _ _ _ hb3) ?_
  rintro _ w4 ⟨rfl, hu4⟩
  have hU4 := ((hu1.trans hu2).trans hu3).trans hu4
  have z4 := hu4.size
  have hc4 := (hb1'.upd hu3 (by simp)).upd hu4 (by simp)
  have hr4 := (hb2.upd hu3 (by simp)).upd hu4 (by simp)
  refine cd (fun h => ?_) (fun h => ?_)
  · have h : ¬ allIn ⟨A, T, N, L, B, P, S⟩ := by simpa using h
    refine bd z15 (fun _ => by kernel_rfl) ?_
    refine stw hr4 rfl rfl rfl fun w5 hb5 hu5 hs5 => ?_
    refine rlw hb5 rfl ?_
    refine ⟨⟨z15, ?_, rfl, rfl⟩, hU4.step hu5 (by simp; omega)⟩
    rw [errC, if_neg (fun hh => h ((rightC_iff ..).1 hh).1)]
    rfl
  · have h : allIn ⟨A, T, N, L, B, P, S⟩ := by simpa using h
    obtain ⟨hA, hT, hN, hL, hB, hP, hS⟩ := h
    have hall : allIn ⟨A, T, N, L, B, P, S⟩ := ⟨hA, hT, hN, hL, hB, hP, hS⟩
    refine ldw hc4 rfl ?_
    refine fa ?_
    refine ldb hc4 rfl ?_
    refine anyv fun _ => ?_
    refine anyv fun xs => ?_
    refine fa ?_
    refine ldb hc4 rfl ?_
    refine anyv fun xw => ?_
    refine bd #[.int .i64 A, .int .i64 T, .int .i64 N, .int .i64 L, .int .i64 B, .int .i64 P, .int .i64 S, .int .i64 xs, .int .i64 xw, .int .i64 2, .int .i64 0, .int .i64 0, .int .i64 0, .int .i64 0, .int .i64 0] (fun _ => by kernel_rfl) ?_
    refine al z15 (fun _ => by kernel_rfl) fun w5 hb5 hu5 hs5 => ?_
    refine stw hb5 rfl rfl rfl fun w6 hb6 hu6 hs6 => ?_
    have hc6 := (hc4.upd hu5 (by simp)).upd hu6 (by have := hc4.lt; simp; omega)
    have hr6 := (hr4.upd hu5 (by simp)).upd hu6 (by have := hr4.lt; simp; omega)
    have hU6 := (hU4.trans hu5).step hu6 (by simp; omega)
    have dc : w.heap.size ≠ w4.heap.size := by omega
    have dr : w1.heap.size ≠ w4.heap.size := by omega
    have dw : w.heap.size ≤ w4.heap.size := by omega
    have dq : w.heap.size ≤ w1.heap.size := by omega
    have hp6 := hb6
    clear hb6 hu6 hb5 hu5
    refine fa ?_
    refine ldb hc6 rfl ?_
    refine cd (fun hA0 => ?_) (fun hA0 => ?_)
    · subst hA0
      refine draw_mix 9 [(0, true), (1, true), (2, true), (3, true), (4, false), (5, true), (6, false), (7, true), (8, false)] (fun w' => Blk w' w.heap.size 23 #[.int .i64 0, .int .i64 T, .int .i64 N, .int .i64 L, .int .i64 B, .int .i64 P, .int .i64 S]) (by decide +kernel) hc6.drew ?_
      refine q_fa ?_
      refine q_ld (v := .int .i64 L) (fun w' hw' => hw'.cell 3) ?_
      refine rq (.int .i64 (IntKind.i64.wrap (1 * 2 ^ min L.toNat IntKind.i64.bits))) (fun _ _ => sh_l (by have := hL.1; omega) ⟨⟨rfl, rfl⟩⟩) ?_
      refine q_fa ?_
      refine st hp6.drew (by simp) rfl fun w7 hb7 hu7 hs7 => ?_
      have hb7 : Blk w7 w4.heap.size 76 #[.int .i64 0, .int .i64 T, .int .i64 N, .int .i64 L, .int .i64 B, .int .i64 P, .int .i64 S, .int .i64 2, .int .i64 xw, .int .i64 2, .int .i64 0, .int .i64 0, .int .i64 0, .int .i64 0, .int .i64 0] := hb7
      have hc7 := hc6.drew.upd hu7 (by simpa using dc)
      have hr7 := hr6.drew.upd hu7 (by simpa using dr)
      have hU7 := hU6.drew.step hu7 (by simpa using dw)
      refine ⟨hc7, ?_⟩
      refine q_fa ?_
      refine st hb7 (by simp) rfl fun w8 hb8 hu8 hs8 => ?_
      have hb8 : Blk w8 w4.heap.size 76 #[.int .i64 0, .int .i64 T, .int .i64 N, .int .i64 L, .int .i64 B, .int .i64 P, .int .i64 S, .int .i64 2, .int .i64 3, .int .i64 2, .int .i64 0, .int .i64 0, .int .i64 0, .int .i64 0, .int .i64 0] := hb8
      have hc8 := hc7.upd hu8 (by simpa using dc)
      have hr8 := hr7.upd hu8 (by simpa using dr)
      have hU8 := hU7.step hu8 (by simpa using dw)
      refine ⟨hc8, ?_⟩
      refine q_fa ?_
      refine st hb8 (by simp) rfl fun w9 hb9 hu9 hs9 => ?_
      have hb9 : Blk w9 w4.heap.size 76 #[.int .i64 0, .int .i64 T, .int .i64 N, .int .i64 L, .int .i64 B, .int .i64 P, .int .i64 S, .int .i64 2, .int .i64 3, .int .i64 0, .int .i64 0, .int .i64 0, .int .i64 0, .int .i64 0, .int .i64 0] := hb9
      have hc9 := hc8.upd hu9 (by simpa using dc)
      have hr9 := hr8.upd hu9 (by simpa using dr)
      have hU9 := hU8.step hu9 (by simpa using dw)
      refine ⟨hc9, ?_⟩
      refine fa ?_
      refine ldb hc9 rfl ?_
      refine fa ?_
      refine ldb hb9 rfl ?_
      refine cd (fun hN0 => ?_) (fun hN0 => ?_)
      · refine bd z15 (fun _ => by kernel_rfl) ?_
        refine stw hr9 rfl rfl rfl fun w20 hb20 hu20 hs20 => ?_
        refine rlw hb20 rfl ?_
        refine ⟨⟨z15, ?_, rfl, rfl⟩, hU9.step hu20 (by simpa using dq)⟩
        rw [errC, if_neg (fun hh => by have := ((rightC_iff ..).1 hh).2; unfold within at *; omega)]
        rfl
      · refine fa ?_
        refine st hb9 (by simp) rfl fun w10 hb10 hu10 hs10 => ?_
        have hb10 : Blk w10 w4.heap.size 76 #[.int .i64 0, .int .i64 T, .int .i64 N, .int .i64 L, .int .i64 B, .int .i64 P, .int .i64 S, .int .i64 2, .int .i64 3, .int .i64 0, .int .i64 8, .int .i64 0, .int .i64 0, .int .i64 0, .int .i64 0] := hb10
        have hc10 := hc9.upd hu10 (by simpa using dc)
        have hr10 := hr9.upd hu10 (by simpa using dr)
        have hU10 := hU9.step hu10 (by simpa using dw)
        refine fa ?_
        refine ldb hb10 rfl ?_
        refine fa ?_
        refine ldb hc10 rfl ?_
        refine fa ?_
        refine ldb hb10 rfl ?_
        refine anyv fun _ => ?_
        refine anyv fun x1 => ?_
        refine fa ?_
        refine st hb10 (by simp) rfl fun w11 hb11 hu11 hs11 => ?_
        have hb11 : Blk w11 w4.heap.size 76 #[.int .i64 0, .int .i64 T, .int .i64 N, .int .i64 L, .int .i64 B, .int .i64 P, .int .i64 S, .int .i64 2, .int .i64 3, .int .i64 0, .int .i64 8, .int .i64 x1, .int .i64 0, .int .i64 0, .int .i64 0] := hb11
        have hc11 := hc10.upd hu11 (by simpa using dc)
        have hr11 := hr10.upd hu11 (by simpa using dr)
        have hU11 := hU10.step hu11 (by simpa using dw)
        refine fa ?_
        refine ldb hb11 rfl ?_
        refine fa ?_
        refine ldb hc11 rfl ?_
        refine anyv fun x2 => ?_
        refine fa ?_
        refine st hb11 (by simp) rfl fun w12 hb12 hu12 hs12 => ?_
        have hb12 : Blk w12 w4.heap.size 76 #[.int .i64 0, .int .i64 T, .int .i64 N, .int .i64 L, .int .i64 B, .int .i64 P, .int .i64 S, .int .i64 2, .int .i64 3, .int .i64 0, .int .i64 8, .int .i64 x1, .int .i64 x2, .int .i64 0, .int .i64 0] := hb12
        have hc12 := hc11.upd hu12 (by simpa using dc)
        have hr12 := hr11.upd hu12 (by simpa using dr)
        have hU12 := hU11.step hu12 (by simpa using dw)
        refine fa ?_
        refine ldb hb12 rfl ?_
        refine fa ?_
        refine ldb hc12 rfl ?_
        refine fa ?_
        refine ldb hb12 rfl ?_
        refine anyv fun _ => ?_
        refine anyv fun x3 => ?_
        refine fa ?_
        refine st hb12 (by simp) rfl fun w13 hb13 hu13 hs13 => ?_
        have hb13 : Blk w13 w4.heap.size 76 #[.int .i64 0, .int .i64 T, .int .i64 N, .int .i64 L, .int .i64 B, .int .i64 P, .int .i64 S, .int .i64 2, .int .i64 3, .int .i64 0, .int .i64 8, .int .i64 x1, .int .i64 x2, .int .i64 x3, .int .i64 0] := hb13
        have hc13 := hc12.upd hu13 (by simpa using dc)
        have hr13 := hr12.upd hu13 (by simpa using dr)
        have hU13 := hU12.step hu13 (by simpa using dw)
        refine fa ?_
        refine ldb hb13 rfl ?_
        refine anyv fun x4 => ?_
        refine fa ?_
        refine st hb13 (by simp) rfl fun w14 hb14 hu14 hs14 => ?_
        have hb14 : Blk w14 w4.heap.size 76 #[.int .i64 0, .int .i64 T, .int .i64 N, .int .i64 L, .int .i64 B, .int .i64 P, .int .i64 S, .int .i64 2, .int .i64 3, .int .i64 0, .int .i64 8, .int .i64 x1, .int .i64 x2, .int .i64 x3, .int .i64 x4] := hb14
        have hc14 := hc13.upd hu14 (by simpa using dc)
        have hr14 := hr13.upd hu14 (by simpa using dr)
        have hU14 := hU13.step hu14 (by simpa using dw)
        refine ldw hb14 rfl ?_
        refine stw hr14 rfl rfl rfl fun w20 hb20 hu20 hs20 => ?_
        refine rlw hb20 rfl ?_
        refine ⟨⟨#[.int .i64 0, .int .i64 T, .int .i64 N, .int .i64 L, .int .i64 B, .int .i64 P, .int .i64 S, .int .i64 2, .int .i64 3, .int .i64 0, .int .i64 8, .int .i64 x1, .int .i64 x2, .int .i64 x3, .int .i64 x4], ?_, rfl, rfl⟩, hU14.step hu20 (by simpa using dq)⟩
        rw [errC, if_pos ((rightC_iff ..).2 ⟨hall, by unfold within at *; omega⟩)]
        rfl
    · have hA0 : ¬ A = 0 := by simpa using hA0
      refine fa ?_
      refine ldb hc6 rfl ?_
      refine fa ?_
      refine ldb hp6 rfl ?_
      refine cd (fun hN0 => ?_) (fun hN0 => ?_)
      · refine bd z15 (fun _ => by kernel_rfl) ?_
        refine stw hr6 rfl rfl rfl fun w20 hb20 hu20 hs20 => ?_
        refine rlw hb20 rfl ?_
        refine ⟨⟨z15, ?_, rfl, rfl⟩, hU6.step hu20 (by simpa using dq)⟩
        rw [errC, if_neg (fun hh => by have := ((rightC_iff ..).1 hh).2; unfold within at *; omega)]
        rfl
      · refine fa ?_
        refine st hp6 (by simp) rfl fun w7 hb7 hu7 hs7 => ?_
        have hb7 : Blk w7 w4.heap.size 76 #[.int .i64 A, .int .i64 T, .int .i64 N, .int .i64 L, .int .i64 B, .int .i64 P, .int .i64 S, .int .i64 xs, .int .i64 xw, .int .i64 2, .int .i64 8, .int .i64 0, .int .i64 0, .int .i64 0, .int .i64 0] := hb7
        have hc7 := hc6.upd hu7 (by simpa using dc)
        have hr7 := hr6.upd hu7 (by simpa using dr)
        have hU7 := hU6.step hu7 (by simpa using dw)
        refine fa ?_
        refine ldb hb7 rfl ?_
        refine fa ?_
        refine ldb hc7 rfl ?_
        refine fa ?_
        refine ldb hb7 rfl ?_
        refine anyv fun _ => ?_
        refine anyv fun x1 => ?_
        refine fa ?_
        refine st hb7 (by simp) rfl fun w8 hb8 hu8 hs8 => ?_
        have hb8 : Blk w8 w4.heap.size 76 #[.int .i64 A, .int .i64 T, .int .i64 N, .int .i64 L, .int .i64 B, .int .i64 P, .int .i64 S, .int .i64 xs, .int .i64 xw, .int .i64 2, .int .i64 8, .int .i64 x1, .int .i64 0, .int .i64 0, .int .i64 0] := hb8
        have hc8 := hc7.upd hu8 (by simpa using dc)
        have hr8 := hr7.upd hu8 (by simpa using dr)
        have hU8 := hU7.step hu8 (by simpa using dw)
        refine fa ?_
        refine ldb hb8 rfl ?_
        refine fa ?_
        refine ldb hc8 rfl ?_
        refine anyv fun x2 => ?_
        refine fa ?_
        refine st hb8 (by simp) rfl fun w9 hb9 hu9 hs9 => ?_
        have hb9 : Blk w9 w4.heap.size 76 #[.int .i64 A, .int .i64 T, .int .i64 N, .int .i64 L, .int .i64 B, .int .i64 P, .int .i64 S, .int .i64 xs, .int .i64 xw, .int .i64 2, .int .i64 8, .int .i64 x1, .int .i64 x2, .int .i64 0, .int .i64 0] := hb9
        have hc9 := hc8.upd hu9 (by simpa using dc)
        have hr9 := hr8.upd hu9 (by simpa using dr)
        have hU9 := hU8.step hu9 (by simpa using dw)
        refine fa ?_
        refine ldb hb9 rfl ?_
        refine fa ?_
        refine ldb hc9 rfl ?_
        refine fa ?_
        refine ldb hb9 rfl ?_
        refine anyv fun _ => ?_
        refine anyv fun x3 => ?_
        refine fa ?_
        refine st hb9 (by simp) rfl fun w10 hb10 hu10 hs10 => ?_
        have hb10 : Blk w10 w4.heap.size 76 #[.int .i64 A, .int .i64 T, .int .i64 N, .int .i64 L, .int .i64 B, .int .i64 P, .int .i64 S, .int .i64 xs, .int .i64 xw, .int .i64 2, .int .i64 8, .int .i64 x1, .int .i64 x2, .int .i64 x3, .int .i64 0] := hb10
        have hc10 := hc9.upd hu10 (by simpa using dc)
        have hr10 := hr9.upd hu10 (by simpa using dr)
        have hU10 := hU9.step hu10 (by simpa using dw)
        refine fa ?_
        refine ldb hb10 rfl ?_
        refine anyv fun x4 => ?_
        refine fa ?_
        refine st hb10 (by simp) rfl fun w11 hb11 hu11 hs11 => ?_
        have hb11 : Blk w11 w4.heap.size 76 #[.int .i64 A, .int .i64 T, .int .i64 N, .int .i64 L, .int .i64 B, .int .i64 P, .int .i64 S, .int .i64 xs, .int .i64 xw, .int .i64 2, .int .i64 8, .int .i64 x1, .int .i64 x2, .int .i64 x3, .int .i64 x4] := hb11
        have hc11 := hc10.upd hu11 (by simpa using dc)
        have hr11 := hr10.upd hu11 (by simpa using dr)
        have hU11 := hU10.step hu11 (by simpa using dw)
        refine ldw hb11 rfl ?_
        refine stw hr11 rfl rfl rfl fun w20 hb20 hu20 hs20 => ?_
        refine rlw hb20 rfl ?_
        refine ⟨⟨#[.int .i64 A, .int .i64 T, .int .i64 N, .int .i64 L, .int .i64 B, .int .i64 P, .int .i64 S, .int .i64 xs, .int .i64 xw, .int .i64 2, .int .i64 8, .int .i64 x1, .int .i64 x2, .int .i64 x3, .int .i64 x4], ?_, rfl, rfl⟩, hU11.step hu20 (by simpa using dq)⟩
        rw [errC, if_pos ((rightC_iff ..).2 ⟨hall, by unfold within at *; omega⟩)]
        rfl
end Go.Proofs.Ytejofmohpjffkaa.K
