/- Digits, and the text of a configuration: the program's and the reference's. -/
import Derived.Test.YtlhbgnoghjendaaDoorUc
import Derived.Test.YtlhbgnoghjendaaDoorV9
namespace Go.Proofs.YtlhbgnoghjendaaDoor
open Go.RowKit
attribute [local irreducible] Instr.loadAt Instr.storeAt Instr.fieldAt Instr.indexAt Instr.sliceAt Instr.buildSlice Instr.box Instr.alloc Builtin.append_ Builtin.len_ Builtin.min_ Builtin.max_ Calls Instr.build Instr.makeSlice binSem convert Instr.index Instr.range Instr.next
theorem ext_tail (a b : List Int) : (strOfNums (a ++ b)).extract a.length (strOfNums (a ++ b)).size = strOfNums b := by
  rw [← str_add]
  exact ByteArray.extract_append_eq_right (by rw [strOfNums_size]) (by rw [ByteArray.size_append])
theorem ext_head (a b : List Int) : (strOfNums (a ++ b)).extract 0 a.length = strOfNums a := by
  rw [← str_add]
  exact ByteArray.extract_append_eq_left (by rw [strOfNums_size])
theorem hasS_c (a b : List Int) (hl : a.length + b.length ≤ 1000) (w : World) : Fn Tryd.prog 92 #[.string (strOfNums (a ++ b)), .string (strOfNums b)] w fun r w' => r = .bool true ∧ w' = w := by
  have h1 : (strOfNums (a ++ b)).size = a.length + b.length := by rw [strOfNums_size]; simp
  have h2 : (strOfNums b).size = b.length := strOfNums_size b
  refine fn_enter Tryd.func92 rfl rfl ?_
  refine len_str ?_
  refine len_str ?_
  refine cY (by omega) ?_
  refine len_str ?_
  refine len_str ?_
  refine ar64 (by omega) ?_
  refine s_lo a.length (by omega) (by omega) ?_
  rw [ext_tail]
  exact ⟨by simp [retV], rfl⟩
theorem trimS_c (a b : List Int) (hl : a.length + b.length ≤ 1000) (w : World) : Fn Tryd.prog 78 #[.string (strOfNums (a ++ b)), .string (strOfNums b)] w fun r w' => r = .string (strOfNums a) ∧ w' = w := by
  have h1 : (strOfNums (a ++ b)).size = a.length + b.length := by rw [strOfNums_size]; simp
  have h2 : (strOfNums b).size = b.length := strOfNums_size b
  refine fn_enter Tryd.func78 rfl rfl ?_
  refine cl (hasS_c a b hl w) ?_
  rintro _ w1 ⟨rfl, rfl⟩
  refine len_str ?_
  refine len_str ?_
  refine ar64 (by omega) ?_
  refine s_hi a.length (by omega) (by omega) ?_
  rw [ext_head]
  exact ⟨rfl, rfl⟩
theorem trim_c (a b : List Int) (hl : a.length + b.length ≤ 1000) (w : World) : Fn Tryd.prog 55 #[.string (strOfNums (a ++ b)), .string (strOfNums b)] w fun r w' => r = .string (strOfNums a) ∧ w' = w := by
  refine fn_enter Tryd.func55 rfl rfl ?_
  refine cl (trimS_c a b hl w) ?_
  rintro _ w1 ⟨rfl, rfl⟩
  exact ⟨rfl, rfl⟩
theorem tell_0 (n : Nat) : tellL 2 n 0 = decB n ++ [32, 48] := by
  unfold tellL
  rw [if_neg (fun h => h (.inl rfl)), if_neg (by decide), if_neg (by decide), if_neg (by decide), List.append_assoc, decB_small (n := 0) (by decide)]
  rfl
theorem sdig_c (n : Nat) (hn : n < 4294967296) (w : World) : Fn Tryd.prog 46 #[.int .i64 (n : Int)] w fun r w' => r = .string (strOfNums (decB n)) ∧ Upd [] w w' := by
  have l1 : (decB n).length ≤ 10 := decB_len 9 n (by omega)
  refine fn_enter Tryd.func46 rfl rfl ?_
  refine cv ?_
  refine ar32 (by omega) ?_
  refine bd (c3 2 n 0) (fun _ => by kernel_rfl) ?_
  refine cl (tell_c 2 n 0 hn (by decide) w) ?_
  rintro _ w1 ⟨rfl, hu1⟩
  rw [tell_0]
  refine cl (trim_c (decB n) [32, 48] (by simp; omega) w1) ?_
  rintro _ w2 ⟨rfl, rfl⟩
  exact ⟨rfl, hu1⟩
theorem cdig_c (n : Nat) (hn : n < 4294967296) (w : World) : Fn Tryd.prog 29 #[.int .i64 (n : Int)] w fun r w' => r = .string (strOfNums (decB n)) ∧ Upd [] w w' := by
  have l1 : (decB n).length ≤ 10 := decB_len 9 n (by omega)
  refine fn_enter Tryd.func29 rfl rfl ?_
  refine cv ?_
  refine ar32 (by omega) ?_
  refine bd (c3 2 n 0) (fun _ => by kernel_rfl) ?_
  refine cl (tell_c 2 n 0 hn (by decide) w) ?_
  rintro _ w1 ⟨rfl, hu1⟩
  rw [tell_0]
  refine cl (trim_c (decB n) [32, 48] (by simp; omega) w1) ?_
  rintro _ w2 ⟨rfl, rfl⟩
  exact ⟨rfl, hu1⟩
theorem r36d_c (n : Nat) (hn : n < 4294967296) (w : World) : Fn Tryd.prog 39 #[.int .i64 (n : Int)] w fun r w' => r = .string (strOfNums (decB n)) ∧ Upd [] w w' := by
  refine fn_enter Tryd.func39 rfl rfl ?_
  refine cv ?_
  refine arU (by omega) ?_
  refine cl (rdigits_c n (by omega) w) ?_
  rintro _ w1 ⟨rfl, rfl⟩
  exact ⟨rfl, Upd.refl _ _⟩
theorem r10d_c (n : Nat) (hn : n < 4294967296) (w : World) : Fn Tryd.prog 30 #[.int .i64 (n : Int)] w fun r w' => r = .string (strOfNums (decB n)) ∧ Upd [] w w' := by
  refine fn_enter Tryd.func30 rfl rfl ?_
  refine cv ?_
  refine arU (by omega) ?_
  refine cl (rdigits_c n (by omega) w) ?_
  rintro _ w1 ⟨rfl, rfl⟩
  exact ⟨rfl, Upd.refl _ _⟩
def kindL (A : Int) : List Int := if A = 0 then [109,111,117,110,100] else if A = 1 then [115,117,110,100,101,108,108] else [108,105,110,100,101,110]
def nameL (j : Nat) : List Int := [[], [116,104,114,101,97,100,115], [110,111,100,101,115], [108,101,118,101,108], [98,97,116,99,104], [112,114,111,98,101,115], [115,99,97,110]].getD j []
def partL (c : Cf) (j : Nat) : List Int := [32] ++ nameL j ++ [32] ++ decB ((cfL c).getD j 0).toNat
def tailL (c : Cf) : Nat → List Int
  | 0 => []
  | 1 => []
  | k + 2 => tailL c (k + 1) ++ partL c (k + 1)
def confL (c : Cf) : List Int := kindL c.A ++ tailL c 7
theorem kindL_len (A : Int) : (kindL A).length ≤ 7 := by unfold kindL; repeat' split
                                                         all_goals decide
theorem nameL_len (j : Nat) : (nameL j).length ≤ 7 := by
  rcases Nat.lt_or_ge j 7 with h | h
  · rcases (show j = 0 ∨ j = 1 ∨ j = 2 ∨ j = 3 ∨ j = 4 ∨ j = 5 ∨ j = 6 by omega) with rfl | rfl | rfl | rfl | rfl | rfl | rfl <;> decide
  · unfold nameL; simp [List.getD, h]
theorem right_bd {c : Cf} (h : rightC c) (j : Nat) (hj : j < 7) : 0 ≤ (cfL c).getD j 0 ∧ (cfL c).getD j 0 ≤ 64 := by
  obtain ⟨A, T, N, L, B, P, S⟩ := c
  obtain ⟨⟨h0, h1, h2, h3, h4, h5, h6⟩, -⟩ := h
  unfold within at h0 h1 h2 h3 h4 h5 h6
  rcases (show j = 0 ∨ j = 1 ∨ j = 2 ∨ j = 3 ∨ j = 4 ∨ j = 5 ∨ j = 6 by omega) with rfl | rfl | rfl | rfl | rfl | rfl | rfl <;> simp [cfL] <;> omega
theorem partL_len {c : Cf} (h : rightC c) (j : Nat) (hj : j < 7) : (partL c j).length ≤ 20 := by
  have h1 := right_bd h j hj
  have h2 := nameL_len j
  have h3 : (decB ((cfL c).getD j 0).toNat).length ≤ 10 := decB_len 9 _ (by omega)
  unfold partL
  simp only [List.length_append, List.length_cons, List.length_nil]; omega
theorem tailL_len {c : Cf} (h : rightC c) : ∀ k, k ≤ 7 → (tailL c k).length ≤ 20 * k
  | 0, _ => by simp [tailL]
  | 1, _ => by simp [tailL]
  | k + 2, hk => by
    have h1 := tailL_len h (k + 1) (by omega)
    have h2 := partL_len h (k + 1) (by omega)
    simp only [tailL, List.length_append]
    omega
theorem cf_get (c : Cf) (k : Nat) (hk : k < 7) : (cf7 c).toList[k]? = some (.int .i64 ((cfL c).getD k 0)) := by
  obtain ⟨A, T, N, L, B, P, S⟩ := c
  rcases (show k = 0 ∨ k = 1 ∨ k = 2 ∨ k = 3 ∨ k = 4 ∨ k = 5 ∨ k = 6 by omega) with rfl | rfl | rfl | rfl | rfl | rfl | rfl <;> rfl
theorem name_get (k : Nat) (hk : k < 7) : namesA.toList[k]? = some (.string (strOfNums (nameL k))) := by
  rcases (show k = 0 ∨ k = 1 ∨ k = 2 ∨ k = 3 ∨ k = 4 ∨ k = 5 ∨ k = 6 by omega) with rfl | rfl | rfl | rfl | rfl | rfl | rfl <;> rfl
theorem kind_get (A : Int) (h : 0 ≤ A ∧ A ≤ 2) : kindsA.toList[A.toNat]? = some (.string (strOfNums (kindL A))) := by
  rcases (show A = 0 ∨ A = 1 ∨ A = 2 by omega) with rfl | rfl | rfl <;> rfl
set_option maxRecDepth 10000 in
theorem cshow_c {c : Cf} (hc : rightC c) (w : World) : Fn Tryd.prog 10 #[.agg (cf7 c)] w fun r w' => r = .string (strOfNums (confL c)) ∧ Upd [] w w' := by
  refine fn_enter Tryd.func10 rfl rfl ?_
  refine bx fun w1 hb1 hu1 hs1 => ?_
  refine ldw hb1 (cf7_len c) ?_
  refine cl (check_c c w1) ?_
  rintro _ w2 ⟨rfl, hu2⟩
  have he : errC c = 0 := if_pos hc
  rw [he]
  have hb2 := hb1.upd hu2 (by simp)
  have hb2 : Blk w2 w.heap.size 24 (cf7 c) := hb2
  have hA := right_bd hc 0 (by omega)
  have hA2 : 0 ≤ c.A ∧ c.A ≤ 2 := by
    obtain ⟨A, T, N, L, B, P, S⟩ := c
    exact hc.1.1
  have hAe : (cfL c).getD 0 0 = c.A := by cases c; rfl
  have hcell : ∀ w', Upd [] w2 w' → w'.cell? ⟨w.heap.size, 0 + 0, none⟩ = some (.int .i64 c.A) := fun w' hu => by
    rw [(hb2.upd hu (by simp)).cell, ← Array.getElem?_toList, show 0 + 0 = 0 from rfl, cf_get c 0 (by omega), hAe]
  refine draw_all (fun w' => Upd [] w2 w') (by decide +kernel) (Upd.refl _ _).drew ?_
  refine q_cl (.agg kindsA) (fun w' hw' => (kinds_c w').mono fun _ _ ⟨u, he, h1, h2⟩ => ⟨u, he, h1, hw'.trans h2⟩) ?_
  refine q_fa ?_
  refine q_ld (v := .int .i64 c.A) (fun w' hw' => hcell w' hw') ?_
  refine rq (.string (strOfNums (kindL c.A))) (fun w' _ => ixv c.A.toNat (by omega) (by omega) (kind_get c.A hA2) ⟨rfl, rfl⟩) ?_
  intro w3 hu3
  have hb3 := hb2.upd hu3 (by simp)
  refine ldw hb3 (cf7_len c) ?_
  refine cl (of_c c w3) ?_
  rintro _ w4 ⟨rfl, hu4⟩
  have hU4 := ((hu1.trans hu2).trans hu3).trans hu4
  refine loop_rule [14] [3, 15] (fun vs w' m => ∃ j : Nat, vs = [.string (strOfNums (kindL c.A ++ tailL c j)), .int .i64 j] ∧ j ≤ 7 ∧ m = 7 - j ∧ Upd [] w w') rfl [.string (strOfNums (kindL c.A)), .int .i64 0] 7 rfl ⟨0, by simp [tailL], by omega, rfl, hU4⟩ ?_
  rintro _ w5 m ⟨j, rfl, hj, rfl, hU5⟩
  refine cd (fun hlt => ?_) (fun hlt => ?_)
  · have hlt : j < 7 := by omega
    refine ixv j rfl hlt (cf_get c j hlt) ?_
    have hbd := right_bd hc j hlt
    have htl := tailL_len hc j (by omega)
    have hkl := kindL_len c.A
    have hnl := nameL_len j
    have hdl : (decB ((cfL c).getD j 0).toNat).length ≤ 10 := decB_len 9 _ (by omega)
    obtain ⟨n, hn⟩ := Int.eq_ofNat_of_zero_le hbd.1
    refine cd (fun h0 => ?_) (fun h0 => ?_)
    · refine draw_all (fun w' => Upd [] w5 w') (by decide +kernel) (Upd.refl _ _).drew ?_
      refine q_cl (.agg namesA) (fun w' hw' => (names_c w').mono fun _ _ ⟨u, he, h1, h2⟩ => ⟨u, he, h1, hw'.trans h2⟩) ?_
      refine rq (.string (strOfNums (nameL j))) (fun w' _ => ixv j rfl hlt (name_get j hlt) ⟨rfl, rfl⟩) ?_
      refine rq (.string (strOfNums ([32] ++ nameL j))) (fun w' _ => sadd (a := strOfNums [32]) (by rw [strOfNums_size, strOfNums_size]; simp; omega) ⟨by rw [str_add], rfl⟩) ?_
      refine rq (.string (strOfNums ([32] ++ nameL j ++ [32]))) (fun w' _ => sadd (b := strOfNums [32]) (by rw [strOfNums_size, strOfNums_size]; simp; omega) ⟨by rw [str_add], rfl⟩) ?_
      refine q_cl (.string (strOfNums (decB ((cfL c).getD j 0).toNat))) (fun w' hw' => by
        have hq : (cfL c).getD j 0 = (((cfL c).getD j 0).toNat : Int) := by omega
        rw [hq]
        exact (cdig_c ((cfL c).getD j 0).toNat (by omega) w').mono fun _ _ ⟨u, he, h1, h2⟩ => ⟨u, he, h1, hw'.trans h2⟩) ?_
      refine rq (.string (strOfNums (partL c j))) (fun w' _ => sadd (by rw [strOfNums_size, strOfNums_size]; simp only [List.length_append, List.length_cons, List.length_nil]; omega) ⟨by rw [str_add]; rfl, rfl⟩) ?_
      have hpl := partL_len hc j hlt
      refine rq (.string (strOfNums (kindL c.A ++ tailL c j ++ partL c j))) (fun w' _ => sadd (by rw [strOfNums_size, strOfNums_size]; simp; omega) ⟨by rw [str_add], rfl⟩) ?_
      intro w6 hu6
      refine ar64 (by omega) ?_
      refine round_mk [.string (strOfNums (kindL c.A ++ tailL c (j + 1))), .int .i64 ((j + 1 : Nat) : Int)] (7 - (j + 1)) rfl ?_ ⟨j + 1, rfl, by omega, rfl, hU5.trans hu6⟩ (by omega)
      obtain ⟨i, rfl⟩ : ∃ i, j = i + 1 := ⟨j - 1, by omega⟩
      rw [show tailL c (i + 1 + 1) = tailL c (i + 1) ++ partL c (i + 1) from rfl, List.append_assoc]
      rfl
    · obtain rfl : j = 0 := by omega
      refine ar64 (by omega) ?_
      exact round_mk [.string (strOfNums (kindL c.A ++ tailL c 1)), .int .i64 ((0 + 1 : Nat) : Int)] (7 - (0 + 1)) rfl rfl ⟨0 + 1, rfl, by omega, rfl, hU5⟩ (by omega)
  · obtain rfl : j = 7 := by omega
    exact ⟨rfl, hU5⟩
end Go.Proofs.YtlhbgnoghjendaaDoor
