/- Contracts: all places (the reference's All). -/
import Derived.Test.YtdomclcokkijjaaEq
namespace Go.Proofs.Ytdomclcokkijjaa
open Go.RowKit
attribute [local irreducible] Instr.loadAt Instr.storeAt Instr.fieldAt Instr.indexAt Instr.sliceAt Instr.buildSlice Instr.box Instr.alloc Builtin.append_ Builtin.len_ Builtin.min_ Builtin.max_ Calls Instr.build Instr.makeSlice binSem convert Instr.index Instr.range Instr.next
abbrev TPl : Nat := 84
theorem slots_c (A T N L B P S : Int) (hL : 1 ≤ L ∧ L ≤ 6) (w : World) : Fn Try.prog 75 #[.agg (cf7 ⟨A, T, N, L, B, P, S⟩)] w fun r w' => r = .int .i64 (slotsP A L) ∧ Upd [] w w' := by
  refine fn_enter Try.func75 rfl rfl ?_
  refine bx fun w1 hb1 hu1 hs1 => ?_
  refine fa ?_
  refine ldb hb1 rfl ?_
  refine cd (fun h => ?_) (fun h => ?_)
  · exact ⟨by rw [slotsP, if_pos h]; rfl, hu1⟩
  · refine fa ?_
    refine ldb hb1 rfl ?_
    refine ar64 (by omega) ?_
    refine ar64 (by omega) ?_
    exact ⟨by rw [slotsP, if_neg h]; rfl, hu1⟩
theorem width_c (A T N L B P S : Int) (hL : 1 ≤ L ∧ L ≤ 6) (w : World) : Fn Try.prog 76 #[.agg (cf7 ⟨A, T, N, L, B, P, S⟩)] w fun r w' => r = .int .i64 (widthP A L) ∧ Upd [] w w' := by
  refine fn_enter Try.func76 rfl rfl ?_
  refine bx fun w1 hb1 hu1 hs1 => ?_
  refine fa ?_
  refine ldb hb1 rfl ?_
  refine cd (fun h => ?_) (fun h => ?_)
  · exact ⟨by rw [widthP, if_pos h]; rfl, hu1⟩
  · refine fa ?_
    refine ldb hb1 rfl ?_
    refine ar64 (by omega) ?_
    exact ⟨by rw [widthP, if_neg h]; rfl, hu1⟩
structure AI (w w' : World) (g : Nat) (c : Cf) (v : Value) (L : List Sp) : Prop where
  s : Sl w' TPl 3 v L.length (L.flatMap cellS)
  f : ∀ q, v.ownBlock = some q → w.heap.size ≤ q
  up : Upd [] w w'
  box : Blk w' g 42 (cf7 c)
theorem AI.upd0 {w w1 w2 : World} {g : Nat} {c : Cf} {v : Value} {L : List Sp} (h : AI w w1 g c v L) (hu : Upd [] w1 w2) : AI w w2 g c v L := ⟨h.s.upd hu (by simp), h.f, h.up.trans hu, h.box.upd hu (by simp)⟩
theorem AI.add {w w1 w2 w3 : World} {g : Nat} {c : Cf} {v v' : Value} {L : List Sp} (h : AI w w1 g c v L) (x : Sp) (hu : Upd [] w1 w2) (hG : Grow w2 w3 v v') (hs : Sl w3 TPl 3 v' (L.length + 1) (L.flatMap cellS ++ (cellS x).toArray.toList)) : AI w w3 g c v' (L ++ [x]) := by
  refine ⟨?_, fun q hq => ?_, (h.up.trans hu).step hG.up (fun q hq => .inr (h.f q (by simpa using hq))), hG.blk (h.box.upd hu (by simp)) ((h.s.upd hu (by simp)).blk_ne (h.box.upd hu (by simp)) (by decide))⟩
  · rw [List.length_append, List.flatMap_append]
    simpa using hs
  · rcases hG.own q hq with h1 | h1
    · exact h.f q h1
    · have := h.up.size; have := hu.size; omega
def glP (i : Nat) : List Sp := (List.range i).map fun (j : Nat) => (0, (j : Int), 0)
def hzR (t : Int) (s : Nat) : List Sp := (List.range s).map fun (j : Nat) => (1, t, (j : Int))
def hzP (sl t : Nat) : List Sp := (List.range t).flatMap fun (k : Nat) => hzR k sl
def lkP (n : Nat) : List Sp := (List.range n).map fun (j : Nat) => (2, ((j + 1 : Nat) : Int), 0)
def ndR (n : Int) (f : Nat) : List Sp := (List.range f).map fun (j : Nat) => (3, n, (j : Int))
def ndP (wd n : Nat) : List Sp := (List.range n).flatMap fun (k : Nat) => ndR ((k + 1 : Nat) : Int) wd
def trP (n : Nat) : List Sp := (List.range n).map fun (j : Nat) => (4, (j : Int), 0)
theorem glP_s (i : Nat) : glP (i + 1) = glP i ++ [(0, (i : Int), 0)] := by simp [glP, List.range_succ]
theorem hzR_s (t : Int) (s : Nat) : hzR t (s + 1) = hzR t s ++ [(1, t, (s : Int))] := by simp [hzR, List.range_succ]
theorem hzP_s (sl t : Nat) : hzP sl (t + 1) = hzP sl t ++ hzR t sl := by simp [hzP, List.range_succ]
theorem lkP_s (n : Nat) : lkP (n + 1) = lkP n ++ [(2, ((n + 1 : Nat) : Int), 0)] := by simp [lkP, List.range_succ]
theorem ndR_s (n : Int) (f : Nat) : ndR n (f + 1) = ndR n f ++ [(3, n, (f : Int))] := by simp [ndR, List.range_succ]
theorem ndP_s (wd n : Nat) : ndP wd (n + 1) = ndP wd n ++ ndR ((n + 1 : Nat) : Int) wd := by simp [ndP, List.range_succ]
theorem trP_s (n : Nat) : trP (n + 1) = trP n ++ [(4, (n : Int), 0)] := by simp [trP, List.range_succ]
theorem glP_l (i : Nat) : (glP i).length = i := by simp [glP]
theorem hzR_l (t : Int) (s : Nat) : (hzR t s).length = s := by simp [hzR]
theorem hzP_l (sl : Nat) : ∀ t, (hzP sl t).length = t * sl
  | 0 => by simp [hzP]
  | t + 1 => by rw [hzP_s, List.length_append, hzP_l sl t, hzR_l, Nat.add_mul, Nat.one_mul]
theorem lkP_l (n : Nat) : (lkP n).length = n := by simp [lkP]
theorem ndR_l (n : Int) (f : Nat) : (ndR n f).length = f := by simp [ndR]
theorem ndP_l (wd : Nat) : ∀ n, (ndP wd n).length = n * wd
  | 0 => by simp [ndP]
  | n + 1 => by rw [ndP_s, List.length_append, ndP_l wd n, ndR_l, Nat.add_mul, Nat.one_mul]
theorem trP_l (n : Nat) : (trP n).length = n := by simp [trP]
def allP (A T N L : Int) : List Sp := glP 8 ++ hzP (slotsP A L).toNat T.toNat ++ lkP N.toNat ++ ndP (widthP A L).toNat N.toNat ++ trP (nthP A L).toNat
set_option maxRecDepth 10000 in
theorem all_c {A T N L B P S : Int} (hr : rightC ⟨A, T, N, L, B, P, S⟩) (w : World) : Fn Try.prog 48 #[.agg (cf7 ⟨A, T, N, L, B, P, S⟩)] w fun r w' => ∃ g, AI w w' g ⟨A, T, N, L, B, P, S⟩ r (allP A T N L) := by
  obtain ⟨b1, b2, b3, b4, b5, b6, -⟩ := plan_bd hr
  obtain ⟨t, rfl⟩ := Int.eq_ofNat_of_zero_le (show 0 ≤ T by omega)
  obtain ⟨n, rfl⟩ := Int.eq_ofNat_of_zero_le (show 0 ≤ N by omega)
  obtain ⟨sl, hsl⟩ := Int.eq_ofNat_of_zero_le (show 0 ≤ slotsP A L by omega)
  obtain ⟨wd, hwd⟩ := Int.eq_ofNat_of_zero_le (show 0 ≤ widthP A L by omega)
  have hs14 : sl ≤ 14 := by omega
  have hw11 : wd ≤ 11 := by omega
  have ht6 : t ≤ 6 := by omega
  have hn64 : n ≤ 64 := by omega
  refine fn_enter Try.func48 rfl rfl ?_
  refine bx fun w1 hb1 hu1 hs1 => ?_
  have I1 : AI w w1 w.heap.size ⟨A, t, n, L, B, P, S⟩ (.slice none 0 0) (glP 0) := ⟨Sl.nil_ _ _ _, by simp [Value.ownBlock], hu1, hb1⟩
  generalize w.heap.size = g at I1
  refine loop_rule [1] [3, 4] (fun vs w' m => ∃ (i : Nat) (v : Value), vs = [v, .int .i64 (i : Int)] ∧ i ≤ 8 ∧ m = 8 - i ∧ AI w w' g ⟨A, t, n, L, B, P, S⟩ v (glP i)) rfl [.slice none 0 0, .int .i64 0] 8 rfl ⟨0, _, rfl, by omega, rfl, I1⟩ ?_
  rintro _ w2 m ⟨i, v, rfl, hi, rfl, I⟩
  refine cd (fun hlt => ?_) (fun hlt => ?_)
  · have hl := glP_l i
    refine bd (cellS ((0, (i : Int), 0))).toArray (fun _ => by kernel_rfl) ?_
    refine bs (cellS ((0, (i : Int), 0))).toArray (fun _ => by kernel_rfl) fun xb hxb uxb zxb => ?_
    refine apg ((I).s.upd uxb (by simp)) hxb rfl rfl (by decide) (by simp only [maxLen]; omega) (by omega) fun xv xc hsx hGx => ?_
    have I' := (I).add ((0, (i : Int), 0)) uxb hGx hsx
    refine ar64 (by omega) ?_
    exact round_mk [xv, .int .i64 ((i + 1 : Nat) : Int)] (8 - (i + 1)) rfl rfl ⟨i + 1, _, rfl, by omega, rfl, by rw [glP_s]; exact I'⟩ (by omega)
  have hi : i = 8 := by omega
  subst hi
  -- hazards
  refine loop_rule [1] [3, 5] (fun vs w' m => ∃ (i : Nat) (v : Value), vs = [v, .int .i64 (i : Int)] ∧ i ≤ t ∧ m = t - i ∧ AI w w' g ⟨A, t, n, L, B, P, S⟩ v (glP 8 ++ hzP sl i)) rfl [v, .int .i64 0] t rfl ⟨0, _, rfl, by omega, rfl, by simpa [hzP] using I⟩ ?_
  clear I
  rintro _ w3 m ⟨i, v, rfl, hi, rfl, I⟩
  refine fa ?_
  refine ldb I.box (v := .int .i64 (t : Int)) rfl ?_
  refine cd (fun hlt => ?_) (fun hlt => ?_)
  · refine loop_rule [1, 5] [3, 6] (fun vs w' m => ∃ (j : Nat) (v : Value), vs = [v, .int .i64 (j : Int)] ∧ j ≤ sl ∧ m = sl - j ∧ AI w w' g ⟨A, t, n, L, B, P, S⟩ v (glP 8 ++ hzP sl i ++ hzR i j)) rfl [v, .int .i64 0] sl rfl ⟨0, _, rfl, by omega, rfl, by simpa [hzR] using I⟩ ?_
    clear I
    rintro _ w4 m ⟨j, v, rfl, hj, rfl, I⟩
    refine ldw I.box rfl ?_
    refine cl (slots_c A t n L B P S b6 w4) ?_
    rintro _ w5 ⟨rfl, hu5⟩
    have I := I.upd0 hu5
    rw [hsl]
    refine cd (fun hlj => ?_) (fun hlj => ?_)
    · have hl : (glP 8 ++ hzP sl i ++ hzR i j).length = 8 + i * sl + j := by rw [List.length_append, List.length_append, glP_l, hzP_l, hzR_l]
      have hm : i * sl ≤ 6 * 14 := Nat.mul_le_mul (by omega) hs14
      refine bd (cellS ((1, (i : Int), (j : Int)))).toArray (fun _ => by kernel_rfl) ?_
      refine bs (cellS ((1, (i : Int), (j : Int)))).toArray (fun _ => by kernel_rfl) fun xb hxb uxb zxb => ?_
      refine apg ((I).s.upd uxb (by simp)) hxb rfl rfl (by decide) (by simp only [maxLen]; omega) (by omega) fun xv xc hsx hGx => ?_
      have I' := (I).add ((1, (i : Int), (j : Int))) uxb hGx hsx
      refine ar64 (by omega) ?_
      exact round_mk [xv, .int .i64 ((j + 1 : Nat) : Int)] (sl - (j + 1)) rfl rfl ⟨j + 1, _, rfl, by omega, rfl, by rw [hzR_s, ← List.append_assoc]; exact I'⟩ (by omega)
    · have hj : j = sl := by omega
      subst hj
      rw [List.append_assoc, ← hzP_s] at I
      refine ar64 (by omega) ?_
      exact round_mk [v, .int .i64 ((i + 1 : Nat) : Int)] (t - (i + 1)) rfl rfl ⟨i + 1, _, rfl, by omega, rfl, I⟩ (by omega)
  have hi : i = t := by omega
  subst hi
  have hl1 : (glP 8 ++ hzP sl i).length = 8 + i * sl := by rw [List.length_append, glP_l, hzP_l]
  have hm1 : i * sl ≤ 6 * 14 := Nat.mul_le_mul ht6 hs14
  have hA : allP A i n L = glP 8 ++ hzP sl i ++ lkP n ++ ndP wd n ++ trP (nthP A L).toNat := by
    unfold allP
    rw [hsl, hwd]; rfl
  generalize glP 8 ++ hzP sl i = L1 at *
  -- links
  refine loop_rule [1] [3, 7] (fun vs w' m => ∃ (k : Nat) (v : Value), vs = [v, .int .i64 ((k + 1 : Nat) : Int)] ∧ k ≤ n ∧ m = n - k ∧ AI w w' g ⟨A, i, n, L, B, P, S⟩ v (L1 ++ lkP k)) rfl [v, .int .i64 1] n rfl ⟨0, _, rfl, by omega, rfl, by simpa [lkP] using I⟩ ?_
  clear I
  rintro _ w4 m ⟨k, v, rfl, hk, rfl, I⟩
  refine fa ?_
  refine ldb I.box (v := .int .i64 (n : Int)) rfl ?_
  refine cd (fun hlt => ?_) (fun hlt => ?_)
  · have hl : (L1 ++ lkP k).length = L1.length + k := by rw [List.length_append, lkP_l]
    refine bd (cellS ((2, ((k + 1 : Nat) : Int), 0))).toArray (fun _ => by kernel_rfl) ?_
    refine bs (cellS ((2, ((k + 1 : Nat) : Int), 0))).toArray (fun _ => by kernel_rfl) fun xb hxb uxb zxb => ?_
    refine apg ((I).s.upd uxb (by simp)) hxb rfl rfl (by decide) (by simp only [maxLen]; omega) (by omega) fun xv xc hsx hGx => ?_
    have I' := (I).add ((2, ((k + 1 : Nat) : Int), 0)) uxb hGx hsx
    refine ar64 (by omega) ?_
    exact round_mk [xv, .int .i64 ((k + 1 + 1 : Nat) : Int)] (n - (k + 1)) rfl rfl ⟨k + 1, _, rfl, by omega, rfl, by rw [lkP_s, ← List.append_assoc]; exact I'⟩ (by omega)
  have hk : k = n := by omega
  subst hk
  have hl2 : (L1 ++ lkP k).length = L1.length + k := by rw [List.length_append, lkP_l]
  generalize L1 ++ lkP k = L2 at *
  -- nodes
  refine loop_rule [1] [3, 8] (fun vs w' m => ∃ (j : Nat) (v : Value), vs = [v, .int .i64 ((j + 1 : Nat) : Int)] ∧ j ≤ k ∧ m = k - j ∧ AI w w' g ⟨A, i, k, L, B, P, S⟩ v (L2 ++ ndP wd j)) rfl [v, .int .i64 1] k rfl ⟨0, _, rfl, by omega, rfl, by simpa [ndP] using I⟩ ?_
  clear I
  rintro _ w5 m ⟨j, v, rfl, hj, rfl, I⟩
  refine fa ?_
  refine ldb I.box (v := .int .i64 (k : Int)) rfl ?_
  refine cd (fun hlt => ?_) (fun hlt => ?_)
  · refine loop_rule [1, 8] [3, 9] (fun vs w' m => ∃ (f : Nat) (v : Value), vs = [v, .int .i64 (f : Int)] ∧ f ≤ wd ∧ m = wd - f ∧ AI w w' g ⟨A, i, k, L, B, P, S⟩ v (L2 ++ ndP wd j ++ ndR ((j + 1 : Nat) : Int) f)) rfl [v, .int .i64 0] wd rfl ⟨0, _, rfl, by omega, rfl, by simpa [ndR] using I⟩ ?_
    clear I
    rintro _ w6 m ⟨f, v, rfl, hf, rfl, I⟩
    refine ldw I.box rfl ?_
    refine cl (width_c A i k L B P S b6 w6) ?_
    rintro _ w7 ⟨rfl, hu7⟩
    have I := I.upd0 hu7
    rw [hwd]
    refine cd (fun hlj => ?_) (fun hlj => ?_)
    · have hl : (L2 ++ ndP wd j ++ ndR ((j + 1 : Nat) : Int) f).length = L2.length + j * wd + f := by rw [List.length_append, List.length_append, ndP_l, ndR_l]
      have hm : j * wd ≤ 64 * 11 := Nat.mul_le_mul (by omega) hw11
      refine bd (cellS ((3, ((j + 1 : Nat) : Int), (f : Int)))).toArray (fun _ => by kernel_rfl) ?_
      refine bs (cellS ((3, ((j + 1 : Nat) : Int), (f : Int)))).toArray (fun _ => by kernel_rfl) fun xb hxb uxb zxb => ?_
      refine apg ((I).s.upd uxb (by simp)) hxb rfl rfl (by decide) (by simp only [maxLen]; omega) (by omega) fun xv xc hsx hGx => ?_
      have I' := (I).add ((3, ((j + 1 : Nat) : Int), (f : Int))) uxb hGx hsx
      refine ar64 (by omega) ?_
      exact round_mk [xv, .int .i64 ((f + 1 : Nat) : Int)] (wd - (f + 1)) rfl rfl ⟨f + 1, _, rfl, by omega, rfl, by rw [ndR_s, ← List.append_assoc]; exact I'⟩ (by omega)
    · have hf : f = wd := by omega
      subst hf
      rw [List.append_assoc, ← ndP_s] at I
      refine ar64 (by omega) ?_
      exact round_mk [v, .int .i64 ((j + 1 + 1 : Nat) : Int)] (k - (j + 1)) rfl rfl ⟨j + 1, _, rfl, by omega, rfl, I⟩ (by omega)
  have hj : j = k := by omega
  subst hj
  have hl3 : (L2 ++ ndP wd j).length = L2.length + j * wd := by rw [List.length_append, ndP_l]
  have hm3 : j * wd ≤ 64 * 11 := Nat.mul_le_mul hn64 hw11
  generalize L2 ++ ndP wd j = L3 at *
  obtain ⟨l, hL⟩ := Int.eq_ofNat_of_zero_le (show 0 ≤ L by omega)
  have hll : l ≤ 6 := by omega
  have hpow : ∀ q, q ≤ 6 → 2 ^ q ≤ 64 := fun q hq => Nat.pow_le_pow_right (by decide) hq
  refine loop_rule [1, 3] [10, 11] (fun vs w' m => ∃ q pw : Nat, vs = [.int .i64 (pw : Int), .int .i64 (q : Int)] ∧ q ≤ l ∧ m = l - q ∧ w' = w5 ∧ pw = 2 ^ q) rfl [.int .i64 1, .int .i64 0] l rfl ⟨0, 1, rfl, by omega, rfl, rfl, rfl⟩ ?_
  rintro _ _ m ⟨q, pw, rfl, hq, rfl, rfl, hpw⟩
  refine fa ?_
  refine ldb I.box (v := .int .i64 L) rfl ?_
  have hpq := hpow q (by omega)
  rw [← hpw] at hpq
  refine cd (fun hlt => ?_) (fun hlt => ?_)
  · refine val ((2 * pw : Nat) : Int) (by rw [IntWalk.i64_in _ (by omega)]; omega) ?_
    refine ar64 (by omega) ?_
    exact round_mk [.int .i64 ((2 * pw : Nat) : Int), .int .i64 ((q + 1 : Nat) : Int)] (l - (q + 1)) rfl rfl ⟨q + 1, 2 * pw, rfl, by omega, rfl, rfl, by rw [Nat.pow_succ, hpw]; omega⟩ (by omega)
  have hq : q = l := by omega
  subst hq
  have hcnt : (nthP A L).toNat = if A = 0 then 2 ^ q else 0 := by
    unfold nthP
    have : L.toNat = q := by omega
    rw [this]
    split
    · have : ((2 : Int) ^ q) = ((2 ^ q : Nat) : Int) := by simp
      rw [this]; exact Int.toNat_natCast _
    · rfl
  rw [hcnt, ← hpw] at hA
  obtain ⟨cn, hcn⟩ : ∃ cn, cn = if A = 0 then pw else 0 := ⟨_, rfl⟩
  rw [← hcn] at hA
  have hcn64 : cn ≤ 64 := by rw [hcn]; split <;> omega
  refine loop_rule [1, 10] [3, 12] (fun vs w' m => ∃ (z : Nat) (v : Value), vs = [v, .int .i64 (z : Int)] ∧ z ≤ cn ∧ m = cn - z ∧ AI w w' g ⟨A, i, j, L, B, P, S⟩ v (L3 ++ trP z)) rfl [v, .int .i64 0] cn rfl ⟨0, _, rfl, by omega, rfl, by simpa [trP] using I⟩ ?_
  clear I
  rintro _ w8 m ⟨z, v, rfl, hz, rfl, I⟩
  refine fa ?_
  refine ldb I.box (v := .int .i64 A) rfl ?_
  by_cases hA0 : A = 0
  · refine cY hA0 ?_
    rw [if_pos hA0] at hcn
    refine cd (fun hlt => ?_) (fun hlt => ?_)
    · have hl : (L3 ++ trP z).length = L3.length + z := by rw [List.length_append, trP_l]
      refine bd (cellS ((4, (z : Int), 0))).toArray (fun _ => by kernel_rfl) ?_
      refine bs (cellS ((4, (z : Int), 0))).toArray (fun _ => by kernel_rfl) fun xb hxb uxb zxb => ?_
      refine apg ((I).s.upd uxb (by simp)) hxb rfl rfl (by decide) (by simp only [maxLen]; omega) (by omega) fun xv xc hsx hGx => ?_
      have I' := (I).add ((4, (z : Int), 0)) uxb hGx hsx
      refine ar64 (by omega) ?_
      exact round_mk [xv, .int .i64 ((z + 1 : Nat) : Int)] (cn - (z + 1)) rfl rfl ⟨z + 1, _, rfl, by omega, rfl, by rw [trP_s, ← List.append_assoc]; exact I'⟩ (by omega)
    · have hz : z = cn := by omega
      subst hz
      exact ⟨g, by rw [hA]; exact I⟩
  · refine cN hA0 ?_
    rw [if_neg hA0] at hcn
    have hz : z = cn := by omega
    subst hz
    exact ⟨g, by rw [hA]; exact I⟩
end Go.Proofs.Ytdomclcokkijjaa
