/- Contracts of package plan: what is made, and its numbers. -/
import Derived.Test.YtlhbgnoghjendaaDoorTy
import Derived.Test.YtlhbgnoghjendaaDoorV14
import Derived.Test.YtlhbgnoghjendaaDoorV15
namespace Go.Proofs.YtlhbgnoghjendaaDoor
open Go.RowKit
attribute [local irreducible] Instr.loadAt Instr.storeAt Instr.fieldAt Instr.indexAt Instr.sliceAt Instr.buildSlice Instr.box Instr.alloc Builtin.append_ Builtin.len_ Builtin.min_ Builtin.max_ Calls Instr.build Instr.makeSlice binSem convert Instr.index Instr.range Instr.next
structure Cf where
  (A T N L B P S : Int)
/-- a configuration's cells -/
def cf7 : Cf → Array Value
  | ⟨A, T, N, L, B, P, S⟩ => #[.int .i64 A, .int .i64 T, .int .i64 N, .int .i64 L, .int .i64 B, .int .i64 P, .int .i64 S]
theorem cf7_len (c : Cf) : (cf7 c).toList.length = 7 := by cases c; rfl
theorem cf7_one (c : Cf) : (cf7 c).toList.all (·.oneCell') = true := by cases c; rfl
def within (x lo hi : Int) : Prop := lo ≤ x ∧ x ≤ hi
def rightC : Cf → Prop
  | ⟨A, T, N, L, B, P, S⟩ => (within A 0 2 ∧ within T 1 6 ∧ within N 1 64 ∧ within L 1 6 ∧ within B 1 16 ∧ within P 1 16 ∧ within S 1 64) ∧ (A = 0 ∨ 3 ≤ N)
instance (c : Cf) : Decidable (rightC c) := by
  obtain ⟨A, T, N, L, B, P, S⟩ := c
  unfold rightC within
  exact inferInstance
abbrev Sp := Int × Int × Int
def okSp (l : List Sp) : Prop := ∀ j, j < l.length → (l.getD j (0, 0, 0)).2.1 ≤ (l.getD j (0, 0, 0)).1 ∧ (l.getD j (0, 0, 0)).1 ≤ (l.getD j (0, 0, 0)).2.2
def cellS (s : Sp) : List Value := [.int .i64 s.1, .int .i64 s.2.1, .int .i64 s.2.2]
def spanC (l : List Sp) : Array Value := (l.flatMap cellS).toArray
theorem spanC_at : ∀ (l : List Sp) (i j : Nat), i < l.length → j < 3 → (l.flatMap cellS)[i * 3 + j]? = (cellS (l.getD i (0, 0, 0)))[j]?
  | x :: l, 0, j, _, hj => by
    show (cellS x ++ l.flatMap cellS)[0 * 3 + j]? = _
    rw [Nat.zero_mul, Nat.zero_add, List.getElem?_append_left (by show j < 3; exact hj)]; rfl
  | x :: l, i + 1, j, h, hj => by
    have h : i < l.length := by simpa using h
    show (cellS x ++ l.flatMap cellS)[(i + 1) * 3 + j]? = _
    rw [List.getElem?_append_right (by show 3 ≤ _; omega), show (i + 1) * 3 + j - (cellS x).length = i * 3 + j by show (i + 1) * 3 + j - 3 = _; omega, spanC_at l i j h hj]
    simp [List.getD]
theorem within_c {w : World} {g : Nat} (l : List Sp) (hb : Blk w g 132 (spanC l)) (hl : l.length ≤ 100) : Fn Tryd.prog 77 #[.slice (some ⟨g, 0, none⟩) l.length l.length] w fun r w' => (∃ b, r = .bool b ∧ (b = true ↔ okSp l)) ∧ Upd [] w w' := by
  refine fn_enter Tryd.func77 rfl rfl ?_
  refine len_sl ?_
  refine loop_rule [5, 6] [7] (fun vs w' m => ∃ j : Nat, vs = [.int .i64 j] ∧ j ≤ l.length ∧ m = l.length - j ∧ (∀ i, i < j → (l.getD i (0, 0, 0)).2.1 ≤ (l.getD i (0, 0, 0)).1 ∧ (l.getD i (0, 0, 0)).1 ≤ (l.getD i (0, 0, 0)).2.2) ∧ Upd [] w w') rfl [.int .i64 0] l.length rfl ⟨0, rfl, by omega, rfl, fun i hi => absurd hi (by omega), Upd.refl _ _⟩ ?_
  rintro _ w1 m ⟨j, rfl, hj, rfl, hin, hU⟩
  refine cd (fun hlt => ?_) (fun hlt => ?_)
  · have hlt : j < l.length := by omega
    refine ix j rfl hlt ?_
    have hg := hb.upd hU (by simp)
    have hat := spanC_at l j
    have hok : okSp l → _ := fun h => h j hlt
    have hstep : ∀ i, i < j + 1 → i < j ∨ i = j := fun i hi => by omega
    refine lda (cellS (l.getD j (0, 0, 0))) rfl (fun i v hv => ?_) ?_
    · have hi : i < 3 := by
        rcases Nat.lt_or_ge i 3 with h | h
        · exact h
        · rw [List.getElem?_eq_none (by show 3 ≤ i; exact h)] at hv; cases hv
      rw [hg.cell, Nat.zero_add, ← Array.getElem?_toList]
      show (l.flatMap cellS)[j * 3 + i]? = _
      rw [hat i hlt hi]; exact hv
    generalize hs : l.getD j (0, 0, 0) = s at *
    refine al #[.int .i64 0, .int .i64 0, .int .i64 0] (fun _ => by kernel_rfl) fun w2 hb2 hu2 hs2 => ?_
    refine stw hb2 rfl rfl rfl fun w3 hb3 hu3 hs3 => ?_
    have hU3 := (hU.trans hu2).step hu3 (by have := hU.size; simp; omega)
    have hb3 : Blk w3 w1.heap.size 132 #[.int .i64 s.1, .int .i64 s.2.1, .int .i64 s.2.2] := hb3
    refine fa ?_
    refine ldb hb3 rfl ?_
    refine fa ?_
    refine ldb hb3 rfl ?_
    by_cases h1 : s.1 < s.2.1
    · refine cY h1 ?_
      exact ⟨⟨_, rfl, iff_of_false (by simp) (fun h => by have := hok h; omega)⟩, hU3⟩
    refine cN h1 ?_
    refine fa ?_
    refine ldb hb3 rfl ?_
    refine fa ?_
    refine ldb hb3 rfl ?_
    refine cd (fun h2 => ?_) (fun h2 => ?_)
    · exact ⟨⟨_, rfl, iff_of_false (by simp) (fun h => by have := hok h; omega)⟩, hU3⟩
    · refine ar64 (by omega) ?_
      refine round_mk [.int .i64 ((j + 1 : Nat) : Int)] (l.length - (j + 1)) rfl rfl ⟨j + 1, rfl, by omega, rfl, fun i hi => ?_, hU3⟩ (by omega)
      rcases hstep i hi with h | h
      · exact hin i h
      · subst h; rw [hs]; omega
  · have hj7 : j = l.length := by omega
    subst hj7
    exact ⟨⟨_, rfl, iff_of_true rfl hin⟩, hU⟩
def slotsP (A L : Int) : Int := if A = 0 then 2 else 2 * L + 2
def widthP (A L : Int) : Int := if A = 0 then 3 else 5 + L
def sentP (A : Int) : Int := if A = 0 then 0 else 2
def nthP (A L : Int) : Int := if A = 0 then 2 ^ L.toNat else 0
def linksP (A T L : Int) : Int := 8 + T * slotsP A L
def nodesP (A T N L : Int) : Int := linksP A T L + N
def treeP (A T N L : Int) : Int := nodesP A T N L + N * widthP A L
def sizeP (A T N L : Int) : Int := treeP A T N L + nthP A L
def planC : Cf → Array Value
  | ⟨A, T, N, L, B, P, S⟩ => #[.int .i64 A, .int .i64 T, .int .i64 N, .int .i64 L, .int .i64 B, .int .i64 P, .int .i64 S, .int .i64 (slotsP A L), .int .i64 (widthP A L), .int .i64 (sentP A), .int .i64 8, .int .i64 (linksP A T L), .int .i64 (nodesP A T N L), .int .i64 (treeP A T N L), .int .i64 (sizeP A T N L)]
theorem planC_len (c : Cf) : (planC c).toList.length = 15 := by cases c; rfl
theorem planC_one (c : Cf) : (planC c).toList.all (·.oneCell') = true := by cases c; rfl
def z15 : Array Value := #[.int .i64 0, .int .i64 0, .int .i64 0, .int .i64 0, .int .i64 0, .int .i64 0, .int .i64 0, .int .i64 0, .int .i64 0, .int .i64 0, .int .i64 0, .int .i64 0, .int .i64 0, .int .i64 0, .int .i64 0]
abbrev TP : Nat := 103
theorem mul_bd {a b x y : Int} (ha : 0 ≤ a ∧ a ≤ x) (hb : 0 ≤ b ∧ b ≤ y) : 0 ≤ a * b ∧ a * b ≤ x * y := ⟨Int.mul_nonneg ha.1 hb.1, Int.mul_le_mul ha.2 hb.2 hb.1 (by omega)⟩
def row (A T N L B P S a b c d e f g h : Int) : Array Value := #[.int .i64 A, .int .i64 T, .int .i64 N, .int .i64 L, .int .i64 B, .int .i64 P, .int .i64 S, .int .i64 a, .int .i64 b, .int .i64 c, .int .i64 d, .int .i64 e, .int .i64 f, .int .i64 g, .int .i64 h]
set_option maxRecDepth 10000 in
theorem new_c (c : Cf) (w : World) : Fn Tryd.prog 54 #[.agg (cf7 c)] w fun r w' => r = .tuple #[.agg (if rightC c then planC c else z15), .int .i64 (if rightC c then 0 else 6)] ∧ Upd [] w w' := by
  obtain ⟨A, T, N, L, B, P, S⟩ := c
  refine fn_enter Tryd.func54 rfl rfl ?_
  refine bx fun w1 hb1 hu1 hs1 => ?_
  refine al z15 (fun _ => by kernel_rfl) fun w2 hb2 hu2 hs2 => ?_
  have hb1' := hb1.upd hu2 (by simp)
  refine fa ?_
  refine ldb hb1' rfl ?_
  refine bd #[.int .i64 A, .int .i64 0, .int .i64 2] (fun _ => by kernel_rfl) ?_
  refine fa ?_
  refine ldb hb1' rfl ?_
  refine bd #[.int .i64 T, .int .i64 1, .int .i64 6] (fun _ => by kernel_rfl) ?_
  refine fa ?_
  refine ldb hb1' rfl ?_
  refine bd #[.int .i64 N, .int .i64 1, .int .i64 64] (fun _ => by kernel_rfl) ?_
  refine fa ?_
  refine ldb hb1' rfl ?_
  refine bd #[.int .i64 L, .int .i64 1, .int .i64 6] (fun _ => by kernel_rfl) ?_
  refine fa ?_
  refine ldb hb1' rfl ?_
  refine bd #[.int .i64 B, .int .i64 1, .int .i64 16] (fun _ => by kernel_rfl) ?_
  refine fa ?_
  refine ldb hb1' rfl ?_
  refine bd #[.int .i64 P, .int .i64 1, .int .i64 16] (fun _ => by kernel_rfl) ?_
  refine fa ?_
  refine ldb hb1' rfl ?_
  refine bd #[.int .i64 S, .int .i64 1, .int .i64 64] (fun _ => by kernel_rfl) ?_
  refine bs (spanC [(A, 0, 2), (T, 1, 6), (N, 1, 64), (L, 1, 6), (B, 1, 16), (P, 1, 16), (S, 1, 64)]) (fun _ => by kernel_rfl) fun w3 hb3 hu3 hs3 => ?_
  refine cl (within_c _ hb3 (by show 7 ≤ 100; omega)) ?_
  rintro _ w4 ⟨⟨b, rfl, hbk⟩, hu4⟩
  have hiff : okSp [(A, 0, 2), (T, 1, 6), (N, 1, 64), (L, 1, 6), (B, 1, 16), (P, 1, 16), (S, 1, 64)] ↔ (within A 0 2 ∧ within T 1 6 ∧ within N 1 64 ∧ within L 1 6 ∧ within B 1 16 ∧ within P 1 16 ∧ within S 1 64) := by
    constructor
    · intro h
      exact ⟨h 0 (by simp), h 1 (by simp), h 2 (by simp), h 3 (by simp), h 4 (by simp), h 5 (by simp), h 6 (by simp)⟩
    · rintro ⟨h0, h1, h2, h3, h4, h5, h6⟩ j hj
      have hj : j < 7 := hj
      rcases (show j = 0 ∨ j = 1 ∨ j = 2 ∨ j = 3 ∨ j = 4 ∨ j = 5 ∨ j = 6 by omega) with rfl | rfl | rfl | rfl | rfl | rfl | rfl <;> assumption
  rw [hiff] at hbk
  have hU4 := ((hu1.trans hu2).trans hu3).trans hu4
  have z4 := hu4.size
  have hc4 := (hb1'.upd hu3 (by simp)).upd hu4 (by simp)
  have hr4 := (hb2.upd hu3 (by simp)).upd hu4 (by simp)
  have hc4 : Blk w4 w.heap.size 24 #[.int .i64 A, .int .i64 T, .int .i64 N, .int .i64 L, .int .i64 B, .int .i64 P, .int .i64 S] := hc4
  by_cases hall : (within A 0 2 ∧ within T 1 6 ∧ within N 1 64 ∧ within L 1 6 ∧ within B 1 16 ∧ within P 1 16 ∧ within S 1 64)
  rotate_left
  · have : b = false := by cases b; rfl; exact absurd (hbk.1 rfl) hall
    subst this
    have hn : ¬ rightC ⟨A, T, N, L, B, P, S⟩ := fun h => hall h.1
    rw [if_neg hn, if_neg hn]
    refine bd z15 (fun _ => by kernel_rfl) ?_
    refine stw hr4 rfl rfl rfl fun w5 hb5 hu5 hs5 => ?_
    refine rlw hb5 rfl ?_
    exact ⟨rfl, hU4.step hu5 (by simp; omega)⟩
  have : b = true := hbk.2 hall
  subst this
  obtain ⟨hA, hT, hN, hL, hB, hP, hS⟩ := hall
  have hall : (within A 0 2 ∧ within T 1 6 ∧ within N 1 64 ∧ within L 1 6 ∧ within B 1 16 ∧ within P 1 16 ∧ within S 1 64) := ⟨hA, hT, hN, hL, hB, hP, hS⟩
  unfold within at hA hT hN hL
  refine ldw hc4 rfl ?_
  refine fa ?_
  refine ldb hc4 rfl ?_
  refine ar64 (by omega) ?_
  refine ar64 (by omega) ?_
  refine fa ?_
  refine ldb hc4 rfl ?_
  refine ar64 (by omega) ?_
  refine bd (row A T N L B P S (2 * L + 2) (5 + L) 2 0 0 0 0 0) (fun _ => by kernel_rfl) ?_
  refine al z15 (fun _ => by kernel_rfl) fun w5 hb5 hu5 hs5 => ?_
  refine stw hb5 rfl rfl rfl fun w6 hb6 hu6 hs6 => ?_
  have hc6 := (hc4.upd hu5 (by simp)).upd hu6 (by have := hc4.lt; simp; omega)
  have hr6 := (hr4.upd hu5 (by simp)).upd hu6 (by have := hr4.lt; simp; omega)
  have hU6 := (hU4.trans hu5).step hu6 (by simp; omega)
  have dc : w.heap.size ≠ w4.heap.size := by omega
  have dr : w1.heap.size ≠ w4.heap.size := by omega
  have dw : w.heap.size ≤ w4.heap.size := by omega
  have dq : w.heap.size ≤ w1.heap.size := by omega
  have hp6 := hb6
  clear hb6 hu6 hb5 hu5
  generalize w4.heap.size = q at *
  refine fa ?_
  refine ldb hc6 rfl ?_
  have hTA := mul_bd (a := T) (b := 2 * L + 2) (x := 6) (y := 14) (by omega) (by omega)
  have hNA := mul_bd (a := N) (b := 5 + L) (x := 64) (y := 11) (by omega) (by omega)
  refine cd (fun hA0 => ?_) (fun hA0 => ?_)
  · subst hA0
    have hpow : (0 : Int) ≤ 1 * 2 ^ min L.toNat IntKind.i64.bits ∧ (1 : Int) * 2 ^ min L.toNat IntKind.i64.bits ≤ 64 ∧ (1 : Int) * 2 ^ min L.toNat IntKind.i64.bits = 2 ^ L.toNat := by
      rcases (show L = 1 ∨ L = 2 ∨ L = 3 ∨ L = 4 ∨ L = 5 ∨ L = 6 by omega) with rfl | rfl | rfl | rfl | rfl | rfl <;> decide
    rw [Int.one_mul] at hpow
    refine draw_mix 9 [(0, true), (1, true), (2, true), (3, true), (4, false), (5, true), (6, false), (7, true), (8, false)] (fun w' => Blk w' w.heap.size 24 #[.int .i64 0, .int .i64 T, .int .i64 N, .int .i64 L, .int .i64 B, .int .i64 P, .int .i64 S]) (by decide +kernel) hc6.drew ?_
    refine q_fa ?_
    refine q_ld (v := .int .i64 L) (fun w' hw' => hw'.cell 3) ?_
    refine rq (.int .i64 (2 ^ L.toNat)) (fun _ _ => sh_l (by omega) (val (2 ^ L.toNat) (by rw [Int.one_mul, IntWalk.i64_in _ (by omega), hpow.2.2]) ⟨rfl, rfl⟩)) ?_
    rw [hpow.2.2] at hpow
    generalize h2L : (2 : Int) ^ L.toNat = tl at *
    refine q_fa ?_
    refine st hp6.drew (by show 7 < 15; omega) rfl fun w7 hb7 hu7 hs7 => ?_
    have hb7 : Blk w7 q TP (row 0 T N L B P S 2 (5 + L) 2 0 0 0 0 0) := hb7
    have hc7 := hc6.drew.upd hu7 (by simpa using dc)
    have hr7 := hr6.drew.upd hu7 (by simpa using dr)
    have hU7 := hU6.drew.step hu7 (by simpa using dw)
    refine ⟨hc7, ?_⟩
    refine q_fa ?_
    refine st hb7 (by show 8 < 15; omega) rfl fun w8 hb8 hu8 hs8 => ?_
    have hb8 : Blk w8 q TP (row 0 T N L B P S 2 3 2 0 0 0 0 0) := hb8
    have hc8 := hc7.upd hu8 (by simpa using dc)
    have hr8 := hr7.upd hu8 (by simpa using dr)
    have hU8 := hU7.step hu8 (by simpa using dw)
    refine ⟨hc8, ?_⟩
    refine q_fa ?_
    refine st hb8 (by show 9 < 15; omega) rfl fun w9 hb9 hu9 hs9 => ?_
    have hb9 : Blk w9 q TP (row 0 T N L B P S 2 3 0 0 0 0 0 0) := hb9
    have hc9 := hc8.upd hu9 (by simpa using dc)
    have hr9 := hr8.upd hu9 (by simpa using dr)
    have hU9 := hU8.step hu9 (by simpa using dw)
    refine ⟨hc9, ?_⟩
    refine fa ?_
    refine ldb hc9 rfl ?_
    refine fa ?_
    refine ldb hb9 rfl ?_
    have hr : rightC ⟨0, T, N, L, B, P, S⟩ := ⟨hall, .inl rfl⟩
    rw [if_pos hr, if_pos hr]
    refine cN (by omega) ?_
    refine fa ?_
    refine st hb9 (by show 10 < 15; omega) rfl fun wa hba hua hsa => ?_
    have hba : Blk wa q TP (row 0 T N L B P S 2 3 0 8 0 0 0 0) := hba
    have hca := (hc9).upd hua (by simpa using dc)
    have hra := (hr9).upd hua (by simpa using dr)
    have hUa := (hU9).step hua (by simpa using dw)
    refine fa ?_
    refine ldb hba rfl ?_
    refine fa ?_
    refine ldb hca rfl ?_
    refine fa ?_
    refine ldb hba rfl ?_
    refine ar64 (by omega) ?_
    refine ar64 (by omega) ?_
    refine fa ?_
    refine st hba (by show 11 < 15; omega) rfl fun wb hbb hub hsb => ?_
    have hbb : Blk wb q TP (row 0 T N L B P S 2 3 0 8 (8 + T * 2) 0 0 0) := hbb
    have hcb := hca.upd hub (by simpa using dc)
    have hrb := hra.upd hub (by simpa using dr)
    have hUb := hUa.step hub (by simpa using dw)
    refine fa ?_
    refine ldb hbb rfl ?_
    refine fa ?_
    refine ldb hcb rfl ?_
    refine ar64 (by omega) ?_
    refine fa ?_
    refine st hbb (by show 12 < 15; omega) rfl fun wc hbc huc hsc => ?_
    have hbc : Blk wc q TP (row 0 T N L B P S 2 3 0 8 (8 + T * 2) (8 + T * 2 + N) 0 0) := hbc
    have hcc := hcb.upd huc (by simpa using dc)
    have hrc := hrb.upd huc (by simpa using dr)
    have hUc := hUb.step huc (by simpa using dw)
    refine fa ?_
    refine ldb hbc rfl ?_
    refine fa ?_
    refine ldb hcc rfl ?_
    refine fa ?_
    refine ldb hbc rfl ?_
    refine ar64 (by omega) ?_
    refine ar64 (by omega) ?_
    refine fa ?_
    refine st hbc (by show 13 < 15; omega) rfl fun wd hbd hud hsd => ?_
    have hbd : Blk wd q TP (row 0 T N L B P S 2 3 0 8 (8 + T * 2) (8 + T * 2 + N) (8 + T * 2 + N + N * 3) 0) := hbd
    have hrd := hrc.upd hud (by simpa using dr)
    have hUd := hUc.step hud (by simpa using dw)
    refine fa ?_
    refine ldb hbd rfl ?_
    refine ar64 (by omega) ?_
    refine fa ?_
    refine st hbd (by show 14 < 15; omega) rfl fun we hbe hue hse => ?_
    have hbe : Blk we q TP (row 0 T N L B P S 2 3 0 8 (8 + T * 2) (8 + T * 2 + N) (8 + T * 2 + N + N * 3) (8 + T * 2 + N + N * 3 + tl)) := hbe
    have hre := hrd.upd hue (by simpa using dr)
    have hUe := hUd.step hue (by simpa using dw)
    refine ldw hbe rfl ?_
    refine stw hre rfl rfl rfl fun wf hbf huf hsf => ?_
    refine rlw hbf rfl ?_
    refine ⟨?_, hUe.step huf (by simpa using dq)⟩
    show Value.tuple #[.agg (row 0 T N L B P S 2 3 0 8 (8 + T * 2) (8 + T * 2 + N) (8 + T * 2 + N + N * 3) (8 + T * 2 + N + N * 3 + tl)), .int .i64 0] = _
    simp only [planC, row, sizeP, treeP, nodesP, linksP, slotsP, widthP, sentP, nthP, if_true, h2L]
  · have hA0 : ¬ A = 0 := by simpa using hA0
    refine fa ?_
    refine ldb hc6 rfl ?_
    refine fa ?_
    refine ldb hp6 rfl ?_
    refine cd (fun hN0 => ?_) (fun hN0 => ?_)
    · have hn : ¬ rightC ⟨A, T, N, L, B, P, S⟩ := fun h => by have := h.2; omega
      rw [if_neg hn, if_neg hn]
      refine bd z15 (fun _ => by kernel_rfl) ?_
      refine stw hr6 rfl rfl rfl fun w20 hb20 hu20 hs20 => ?_
      refine rlw hb20 rfl ?_
      exact ⟨rfl, hU6.step hu20 (by simpa using dq)⟩
    · have hr : rightC ⟨A, T, N, L, B, P, S⟩ := ⟨hall, .inr (by omega)⟩
      rw [if_pos hr, if_pos hr]
      refine fa ?_
      refine st hp6 (by show 10 < 15; omega) rfl fun wa hba hua hsa => ?_
      have hba : Blk wa q TP (row A T N L B P S (2 * L + 2) (5 + L) 2 8 0 0 0 0) := hba
      have hca := (hc6).upd hua (by simpa using dc)
      have hra := (hr6).upd hua (by simpa using dr)
      have hUa := (hU6).step hua (by simpa using dw)
      refine fa ?_
      refine ldb hba rfl ?_
      refine fa ?_
      refine ldb hca rfl ?_
      refine fa ?_
      refine ldb hba rfl ?_
      refine ar64 (by omega) ?_
      refine ar64 (by omega) ?_
      refine fa ?_
      refine st hba (by show 11 < 15; omega) rfl fun wb hbb hub hsb => ?_
      have hbb : Blk wb q TP (row A T N L B P S (2 * L + 2) (5 + L) 2 8 (8 + T * (2 * L + 2)) 0 0 0) := hbb
      have hcb := hca.upd hub (by simpa using dc)
      have hrb := hra.upd hub (by simpa using dr)
      have hUb := hUa.step hub (by simpa using dw)
      refine fa ?_
      refine ldb hbb rfl ?_
      refine fa ?_
      refine ldb hcb rfl ?_
      refine ar64 (by omega) ?_
      refine fa ?_
      refine st hbb (by show 12 < 15; omega) rfl fun wc hbc huc hsc => ?_
      have hbc : Blk wc q TP (row A T N L B P S (2 * L + 2) (5 + L) 2 8 (8 + T * (2 * L + 2)) (8 + T * (2 * L + 2) + N) 0 0) := hbc
      have hcc := hcb.upd huc (by simpa using dc)
      have hrc := hrb.upd huc (by simpa using dr)
      have hUc := hUb.step huc (by simpa using dw)
      refine fa ?_
      refine ldb hbc rfl ?_
      refine fa ?_
      refine ldb hcc rfl ?_
      refine fa ?_
      refine ldb hbc rfl ?_
      refine ar64 (by omega) ?_
      refine ar64 (by omega) ?_
      refine fa ?_
      refine st hbc (by show 13 < 15; omega) rfl fun wd hbd hud hsd => ?_
      have hbd : Blk wd q TP (row A T N L B P S (2 * L + 2) (5 + L) 2 8 (8 + T * (2 * L + 2)) (8 + T * (2 * L + 2) + N) (8 + T * (2 * L + 2) + N + N * (5 + L)) 0) := hbd
      have hrd := hrc.upd hud (by simpa using dr)
      have hUd := hUc.step hud (by simpa using dw)
      refine fa ?_
      refine ldb hbd rfl ?_
      refine ar64 (by omega) ?_
      refine fa ?_
      refine st hbd (by show 14 < 15; omega) rfl fun we hbe hue hse => ?_
      have hbe : Blk we q TP (row A T N L B P S (2 * L + 2) (5 + L) 2 8 (8 + T * (2 * L + 2)) (8 + T * (2 * L + 2) + N) (8 + T * (2 * L + 2) + N + N * (5 + L)) (8 + T * (2 * L + 2) + N + N * (5 + L) + 0)) := hbe
      have hre := hrd.upd hue (by simpa using dr)
      have hUe := hUd.step hue (by simpa using dw)
      refine ldw hbe rfl ?_
      refine stw hre rfl rfl rfl fun wf hbf huf hsf => ?_
      refine rlw hbf rfl ?_
      refine ⟨?_, hUe.step huf (by simpa using dq)⟩
      show Value.tuple #[.agg (row A T N L B P S (2 * L + 2) (5 + L) 2 8 (8 + T * (2 * L + 2)) (8 + T * (2 * L + 2) + N) (8 + T * (2 * L + 2) + N + N * (5 + L)) (8 + T * (2 * L + 2) + N + N * (5 + L) + 0)), .int .i64 0] = _
      simp only [planC, row, sizeP, treeP, nodesP, linksP, slotsP, widthP, sentP, nthP, if_neg hA0]
end Go.Proofs.YtlhbgnoghjendaaDoor
