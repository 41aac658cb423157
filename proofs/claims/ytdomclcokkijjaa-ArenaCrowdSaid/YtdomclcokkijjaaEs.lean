/- All places, one by one; the words as they are at first. -/
import Derived.Test.YtdomclcokkijjaaEr
namespace Go.Proofs.Ytdomclcokkijjaa
open Go.RowKit
attribute [local irreducible] Instr.loadAt Instr.storeAt Instr.fieldAt Instr.indexAt Instr.sliceAt Instr.buildSlice Instr.box Instr.alloc Builtin.append_ Builtin.len_ Builtin.min_ Builtin.max_ Calls Instr.build Instr.makeSlice binSem convert Instr.index Instr.range Instr.next
theorem hzP_at (sl : Nat) : ∀ (t j : Nat), j < t * sl → (hzP sl t)[j]? = some (1, ((j / sl : Nat) : Int), ((j % sl : Nat) : Int))
  | 0, j, h => absurd h (by omega)
  | t + 1, j, h => by
    rw [hzP_s]
    by_cases hj : j < t * sl
    · rw [List.getElem?_append_left (by rw [hzP_l]; exact hj), hzP_at sl t j hj]
    · rw [List.getElem?_append_right (by rw [hzP_l]; omega), hzP_l]
      rw [Nat.add_mul, Nat.one_mul] at h
      have e1 : j / sl = t := by
        rw [Nat.div_eq_of_lt_le]
        · rw [Nat.mul_comm] at hj; rw [Nat.mul_comm]; omega
        · rw [Nat.succ_mul]; omega
      have e2 : j % sl = j - t * sl := by
        have := Nat.div_add_mod j sl
        rw [e1, Nat.mul_comm] at this; omega
      rw [e1, e2]
      simp only [hzR, List.getElem?_map, List.getElem?_range (by omega : j - t * sl < sl), Option.map_some]
theorem ndP_at (wd : Nat) : ∀ (n j : Nat), j < n * wd → (ndP wd n)[j]? = some (3, ((j / wd + 1 : Nat) : Int), ((j % wd : Nat) : Int))
  | 0, j, h => absurd h (by omega)
  | t + 1, j, h => by
    rw [ndP_s]
    by_cases hj : j < t * wd
    · rw [List.getElem?_append_left (by rw [ndP_l]; exact hj), ndP_at wd t j hj]
    · rw [List.getElem?_append_right (by rw [ndP_l]; omega), ndP_l]
      rw [Nat.add_mul, Nat.one_mul] at h
      have e1 : j / wd = t := by
        rw [Nat.div_eq_of_lt_le]
        · rw [Nat.mul_comm] at hj; rw [Nat.mul_comm]; omega
        · rw [Nat.succ_mul]; omega
      have e2 : j % wd = j - t * wd := by
        have := Nat.div_add_mod j wd
        rw [e1, Nat.mul_comm] at this; omega
      rw [e1, e2]
      simp only [ndR, List.getElem?_map, List.getElem?_range (by omega : j - t * wd < wd), Option.map_some]
def spAt (sl wd lk nd tr j : Nat) : Sp :=
  if j < 8 then (0, (j : Int), 0) else if j < lk then (1, (((j - 8) / sl : Nat) : Int), (((j - 8) % sl : Nat) : Int))
  else if j < nd then (2, ((j - lk + 1 : Nat) : Int), 0) else if j < tr then (3, (((j - nd) / wd + 1 : Nat) : Int), (((j - nd) % wd : Nat) : Int)) else (4, ((j - tr : Nat) : Int), 0)
theorem cat_at (t n sl wd nt j : Nat) (h : j < 8 + t * sl + n + n * wd + nt) : (glP 8 ++ hzP sl t ++ lkP n ++ ndP wd n ++ trP nt)[j]? = some (spAt sl wd (8 + t * sl) (8 + t * sl + n) (8 + t * sl + n + n * wd) j) := by
  have l1 : (glP 8).length = 8 := glP_l 8
  have l2 : (glP 8 ++ hzP sl t).length = 8 + t * sl := by rw [List.length_append, glP_l, hzP_l]
  have l3 : (glP 8 ++ hzP sl t ++ lkP n).length = 8 + t * sl + n := by rw [List.length_append, l2, lkP_l]
  have l4 : (glP 8 ++ hzP sl t ++ lkP n ++ ndP wd n).length = 8 + t * sl + n + n * wd := by rw [List.length_append, l3, ndP_l]
  unfold spAt
  by_cases h1 : j < 8
  · rw [if_pos h1, List.getElem?_append_left (by omega), List.getElem?_append_left (by omega), List.getElem?_append_left (by omega), List.getElem?_append_left (by omega)]
    simp only [glP, List.getElem?_map, List.getElem?_range h1, Option.map_some]
  rw [if_neg h1]
  by_cases h2 : j < 8 + t * sl
  · rw [if_pos h2, List.getElem?_append_left (by omega), List.getElem?_append_left (by omega), List.getElem?_append_left (by omega), List.getElem?_append_right (by omega), l1]
    exact hzP_at sl t (j - 8) (by omega)
  rw [if_neg h2]
  by_cases h3 : j < 8 + t * sl + n
  · rw [if_pos h3, List.getElem?_append_left (by omega), List.getElem?_append_left (by omega), List.getElem?_append_right (by omega), l2]
    simp only [lkP, List.getElem?_map, List.getElem?_range (by omega : j - (8 + t * sl) < n), Option.map_some]
  rw [if_neg h3]
  by_cases h4 : j < 8 + t * sl + n + n * wd
  · rw [if_pos h4, List.getElem?_append_left (by omega), List.getElem?_append_right (by omega), l3]
    exact ndP_at wd n _ (by omega)
  rw [if_neg h4, List.getElem?_append_right (by omega), l4]
  simp only [trP, List.getElem?_map, List.getElem?_range (by omega : j - (8 + t * sl + n + n * wd) < nt), Option.map_some]
/-- the numbers of a plan, as naturals -/
structure Nums (A T N L : Int) (t n l sl wd nt se : Nat) : Prop where
  eT : T = t
  eN : N = n
  eL : L = l
  sl_ : slotsP A L = sl
  wd_ : widthP A L = wd
  nt_ : nthP A L = nt
  se_ : sentP A = se
  lk_ : linksP A T L = ((8 + t * sl : Nat) : Int)
  nd_ : nodesP A T N L = ((8 + t * sl + n : Nat) : Int)
  tr_ : treeP A T N L = ((8 + t * sl + n + n * wd : Nat) : Int)
  sz_ : sizeP A T N L = ((8 + t * sl + n + n * wd + nt : Nat) : Int)
  all_ : allP A T N L = glP 8 ++ hzP sl t ++ lkP n ++ ndP wd n ++ trP nt
  b1 : 2 ≤ sl ∧ sl ≤ 14
  b2 : 3 ≤ wd ∧ wd ≤ 11
  b3 : se < n ∧ se ≤ 2
  b4 : 1 ≤ t ∧ t ≤ 6
  b5 : 1 ≤ n ∧ n ≤ 64
  b6 : 1 ≤ l ∧ l ≤ 6
  b7 : 8 + t * sl + n + n * wd + nt ≤ 924
  bA : A ≠ 0 → wd = 5 + l ∧ se = 2
  bA0 : A = 0 → se = 0
theorem nums {A T N L B P S : Int} (hr : rightC ⟨A, T, N, L, B, P, S⟩) : ∃ t n l sl wd nt se, Nums A T N L t n l sl wd nt se := by
  obtain ⟨b1, b2, b3, b4, b5, b6, b7, b8, b9, b10, b11, b12⟩ := plan_bd hr
  have e4 : sizeP A T N L = treeP A T N L + nthP A L := rfl
  obtain ⟨t, rfl⟩ := Int.eq_ofNat_of_zero_le (show 0 ≤ T by omega)
  obtain ⟨n, rfl⟩ := Int.eq_ofNat_of_zero_le (show 0 ≤ N by omega)
  obtain ⟨l, rfl⟩ := Int.eq_ofNat_of_zero_le (show 0 ≤ L by omega)
  obtain ⟨sl, hsl⟩ := Int.eq_ofNat_of_zero_le (show 0 ≤ slotsP A l by omega)
  obtain ⟨wd, hwd⟩ := Int.eq_ofNat_of_zero_le (show 0 ≤ widthP A l by omega)
  obtain ⟨se, hse⟩ := Int.eq_ofNat_of_zero_le (show 0 ≤ sentP A by omega)
  obtain ⟨nt, hnt⟩ := Int.eq_ofNat_of_zero_le (show 0 ≤ nthP A l by omega)
  have e1 : linksP A t l = ((8 + t * sl : Nat) : Int) := by unfold linksP; rw [hsl]; simp
  have e2 : nodesP A t n l = ((8 + t * sl + n : Nat) : Int) := by unfold nodesP; rw [e1]; simp
  have e3 : treeP A t n l = ((8 + t * sl + n + n * wd : Nat) : Int) := by unfold treeP; rw [e2, hwd]; simp
  have e5 : sizeP A t n l = ((8 + t * sl + n + n * wd + nt : Nat) : Int) := by rw [e4, e3, hnt]; simp
  refine ⟨t, n, l, sl, wd, nt, se, ⟨rfl, rfl, rfl, hsl, hwd, hnt, hse, e1, e2, e3, e5, ?_, by omega, by omega, by omega, by omega, by omega, by omega, by omega, fun hA => ?_, fun hA => ?_⟩⟩
  · unfold allP
    rw [hsl, hwd, hnt]; rfl
  · unfold widthP at hwd
    unfold sentP at hse
    rw [if_neg hA] at hwd hse
    omega
  · unfold sentP at hse
    rw [if_pos hA] at hse
    omega
def firstW (A N L : Int) (x : Sp) : Int :=
  if x.1 = 0 then (if x.2.1 = 0 then 2 * (sentP A + 1) else if x.2.1 = 2 then 1 else 0)
  else if x.1 = 2 then (if x.2.1 > sentP A ∧ x.2.1 < N then x.2.1 + 1 else 0)
  else if x.1 = 3 then (if A > 0 ∧ x.2.1 = 1 ∧ x.2.2 = 3 then L else if A > 0 ∧ x.2.1 = 1 ∧ x.2.2 ≥ 5 then 4 else if A > 0 ∧ x.2.1 = 2 ∧ x.2.2 = 0 then 18446744073709551615 else 0)
  else 0
def wordsF (A N L : Int) (P : List Sp) (i : Nat) : List Int := (P.take i).map (firstW A N L) ++ List.replicate (P.length - i) 0
theorem wordsF_len (A N L : Int) (P : List Sp) (i : Nat) (h : i ≤ P.length) : (wordsF A N L P i).length = P.length := by simp [wordsF]; omega
theorem wordsF_at (A N L : Int) (P : List Sp) (i k : Nat) (h : i ≤ P.length) (hk : k < P.length) : (wordsF A N L P i)[k]? = some (if k < i then firstW A N L (P.getD k (0, 0, 0)) else 0) := by
  unfold wordsF
  by_cases hi : k < i
  · rw [if_pos hi, List.getElem?_append_left (by rw [List.length_map, List.length_take]; omega), List.getElem?_map, List.getElem?_take, if_pos hi]
    simp [List.getD, hk]
  · rw [if_neg hi, List.getElem?_append_right (by rw [List.length_map, List.length_take]; omega), List.getElem?_replicate, if_pos (by rw [List.length_map, List.length_take]; omega)]
theorem wordsF_set (A N L : Int) (P : List Sp) (i : Nat) (h : i < P.length) : (wordsF A N L P i).set i (firstW A N L (P.getD i (0, 0, 0))) = wordsF A N L P (i + 1) := by
  have l1 := wordsF_len A N L P i (by omega)
  have l2 := wordsF_len A N L P (i + 1) (by omega)
  apply List.ext_getElem?
  intro k
  by_cases hk : k < P.length
  · rw [wordsF_at A N L P (i + 1) k (by omega) hk, List.getElem?_set]
    by_cases he : i = k
    · subst he
      rw [if_pos rfl, if_pos (by omega), if_pos (by omega)]
    · rw [if_neg he, wordsF_at A N L P i k (by omega) hk]
      by_cases h1 : k < i
      · rw [if_pos h1, if_pos (by omega)]
      · rw [if_neg h1, if_neg (by omega)]
  · rw [List.getElem?_eq_none (by rw [List.length_set]; omega), List.getElem?_eq_none (by omega)]
theorem wordsF_eq (A N L : Int) (P : List Sp) (i : Nat) (h : i < P.length) (h0 : firstW A N L (P.getD i (0, 0, 0)) = 0) : wordsF A N L P i = wordsF A N L P (i + 1) := by
  have l1 := wordsF_len A N L P i (by omega)
  have l2 := wordsF_len A N L P (i + 1) (by omega)
  apply List.ext_getElem?
  intro k
  by_cases hk : k < P.length
  · rw [wordsF_at A N L P (i + 1) k (by omega) hk, wordsF_at A N L P i k (by omega) hk]
    by_cases h1 : k < i
    · rw [if_pos h1, if_pos (by omega)]
    · rw [if_neg h1]
      by_cases h2 : k < i + 1
      · have : k = i := by omega
        subst this
        rw [if_pos h2, h0]
      · rw [if_neg h2]
  · rw [List.getElem?_eq_none (by omega), List.getElem?_eq_none (by omega)]
structure FJ (w w' : World) (g : Nat) (c : Cf) (v : Value) (P : List Sp) (gw : Nat) (W : List Int) (o : Option (Nat × Sp)) : Prop where
  s : Sl w' TPl 3 v P.length (P.flatMap cellS)
  box : Blk w' g 42 (cf7 c)
  ws : Sl w' 27 1 (.slice (some ⟨gw, 0, none⟩) P.length P.length) P.length (W.map (.int .u64))
  up : Upd [] w w'
  f : w.heap.size ≤ gw
  pb : ∀ x, o = some x → Blk w' x.1 TPl (cellS x.2).toArray
theorem FJ.upd0 {w w' w'' : World} {g : Nat} {c : Cf} {v : Value} {P : List Sp} {gw : Nat} {W : List Int} {o : Option (Nat × Sp)} (h : FJ w w' g c v P gw W o) (hu : Upd [] w' w'') : FJ w w'' g c v P gw W o :=
  ⟨h.s.upd hu (by simp), h.box.upd hu (by simp), h.ws.upd hu (by simp), h.up.trans hu, h.f, fun x hx => (h.pb x hx).upd hu (by simp)⟩
theorem FJ.set {w w' w'' : World} {g : Nat} {c : Cf} {v : Value} {P : List Sp} {gw : Nat} {W : List Int} {o : Option (Nat × Sp)} {i : Nat} {x : Int} (h : FJ w w' g c v P gw W o) (hs : Sl w'' 27 1 (.slice (some ⟨gw, 0, none⟩) P.length P.length) P.length ((W.map (.int .u64)).set i (.int .u64 x))) (hu : Upd [gw] w' w'') : FJ w w'' g c v P gw (W.set i x) o := by
  refine ⟨h.s.upd hu (fun q hq hm => ?_), h.box.upd hu (fun hm => ?_), by rw [List.map_set]; exact hs, h.up.step hu (by simp; exact h.f), h.f, fun x hx => (h.pb x hx).upd hu (fun hm => ?_)⟩
  · have := h.s.ne_ h.ws (by decide) q hq
    simp only [List.mem_singleton] at hm
    subst hm
    exact this rfl
  · simp only [List.mem_singleton] at hm
    subst hm
    exact h.ws.blk_ne h.box (by decide) rfl
  · simp only [List.mem_singleton] at hm
    have := h.ws.blk_ne (h.pb x hx) (by decide)
    rw [hm] at this
    exact this rfl
theorem FJ.none_ {w w' : World} {g : Nat} {c : Cf} {v : Value} {P : List Sp} {gw : Nat} {W : List Int} {o : Option (Nat × Sp)} (h : FJ w w' g c v P gw W o) : FJ w w' g c v P gw W none := ⟨h.s, h.box, h.ws, h.up, h.f, fun x hx => by cases hx⟩
set_option maxRecDepth 10000 in
theorem first_w {A T N L B P S : Int} (hr : rightC ⟨A, T, N, L, B, P, S⟩) (w : World) : Fn Try.prog 36 #[.agg (cf7 ⟨A, T, N, L, B, P, S⟩)] w fun r w' => Sl w' 27 1 r (allP A T N L).length (((allP A T N L).map (firstW A N L)).map (.int .u64)) ∧ Upd [] w w' ∧ ∀ g, r.ownBlock = some g → w.heap.size ≤ g := by
  obtain ⟨t, n, l, sl, wd, nt, se, U⟩ := nums hr
  have hlen : (allP A T N L).length ≤ 924 := by
    rw [U.all_]
    simp only [List.length_append, glP_l, hzP_l, lkP_l, ndP_l, trP_l]
    exact U.b7
  have q3 := U.b3; have q5 := U.b5; have q6 := U.b6; have qN := U.eN; have qL := U.eL; have qs := U.se_
  refine fn_enter Try.func36 rfl rfl ?_
  refine bx fun w1 hb1 hu1 hs1 => ?_
  have hb1 : Blk w1 w.heap.size 42 (cf7 ⟨A, T, N, L, B, P, S⟩) := hb1
  refine ldw hb1 rfl ?_
  refine cl (all_c hr w1) ?_
  rintro lv w2 ⟨g2, I2⟩
  have hb2 := hb1.upd I2.up (by simp)
  have hs2 := I2.s
  have hU2 := hu1.trans I2.up
  generalize allP A T N L = Pl at *
  obtain ⟨la, lc, rfl, -⟩ := hs2.form
  refine len_sl ?_
  refine mks Pl.length rfl rfl (by omega) (by omega) fun w3 hb3 hu3 hs3 => ?_
  have hz2 := hU2.size
  have hz3 := hu3.size
  refine ldw (hb2.upd hu3 (by simp)) rfl ?_
  refine cl (rsent_c ⟨A, T, N, L, B, P, S⟩ w3) ?_
  rintro _ w4 ⟨rfl, hu4⟩
  have hsent : (if (⟨A, T, N, L, B, P, S⟩ : Cf).A = 0 then (0 : Int) else 2) = (se : Int) := by rw [← qs]; rfl
  rw [hsent]
  have J4 : FJ w w4 w.heap.size ⟨A, T, N, L, B, P, S⟩ (.slice la Pl.length lc) Pl w2.heap.size (wordsF A N L Pl 0) none := by
    refine ⟨(hs2.upd hu3 (by simp)).upd hu4 (by simp), (hb2.upd hu3 (by simp)).upd hu4 (by simp), ?_, (hU2.trans hu3).trans hu4, hz2, fun x hx => by cases hx⟩
    have := (Sl.lit (n := Pl.length) hb3 (by rw [made_row1]; simp) (by simp only [maxLen]; omega)).upd hu4 (by simp)
    rw [made_row1] at this
    simpa [wordsF] using this
  refine loop_rule [1, 3, 4, 5] [6] (fun vs w' m => ∃ i : Nat, vs = [.int .i64 (i : Int)] ∧ i ≤ Pl.length ∧ m = Pl.length - i ∧ FJ w w' w.heap.size ⟨A, T, N, L, B, P, S⟩ (.slice la Pl.length lc) Pl w2.heap.size (wordsF A N L Pl i) none) rfl [.int .i64 0] Pl.length rfl ⟨0, rfl, by omega, rfl, J4⟩ ?_
  rintro _ w5 m ⟨i, rfl, hi, rfl, J⟩
  refine len_sl ?_
  refine cd (fun hlt => ?_) (fun hlt => ?_)
  · have hlt : i < Pl.length := by omega
    obtain ⟨lb, lo, lc', he, -⟩ := J.s.some_ (by omega)
    cases he
    rcases hx : Pl.getD i (0, 0, 0) with ⟨k, a, b⟩
    refine ix i rfl hlt ?_
    refine lda (cellS (k, a, b)) rfl (fun j x hj => ?_) ?_
    · have hj3 : j < 3 := by
        rcases Nat.lt_or_ge j 3 with h | h
        · exact h
        · rw [List.getElem?_eq_none (by show 3 ≤ j; exact h)] at hj; cases hj
      rw [Nat.add_assoc, (J.s.cells rfl (i * 3 + j) (by omega)).1, spanC_at Pl i j hlt hj3, hx]
      exact hj
    refine al (cellS (0, 0, 0)).toArray (fun _ => by kernel_rfl) fun w6 hb6 hu6 hs6 => ?_
    refine stw hb6 rfl rfl rfl fun w7 hb7 hu7 hs7 => ?_
    have hu57 : Upd [] w5 w7 := hu6.step hu7 (by simp)
    replace J : FJ w w7 w.heap.size ⟨A, T, N, L, B, P, S⟩ (.slice (some ⟨lb, lo, none⟩) Pl.length lc) Pl w2.heap.size (wordsF A N L Pl i) (some (w5.heap.size, (k, a, b))) := by
      have := J.upd0 hu57
      exact ⟨this.s, this.box, this.ws, this.up, this.f, fun x hx => by cases hx; exact hb7⟩
    clear hb6 hu6 hs6 hb7 hu7 hs7 hu57
    refine fa ?_
    refine ldb (J.pb _ rfl) (v := .int .i64 (k)) rfl ?_
    refine cd (fun k0 => ?_) (fun k0 => ?_)
    · refine fa ?_
      refine ldb (J.pb _ rfl) (v := .int .i64 (a)) rfl ?_
      refine cd (fun a0 => ?_) (fun a0 => ?_)
      · refine ar64 (by omega) ?_
        refine cv ?_
        refine arU (by omega) ?_
        refine arU (by omega) ?_
        refine ix i rfl hlt ?_
        refine stS J.ws rfl hlt rfl fun xw hxs hxu hxz => ?_
        replace J := J.set hxs hxu
        clear hxs hxu hxz
        refine fa ?_
        refine ldb (J.pb _ rfl) (v := .int .i64 (a)) rfl ?_
        refine cN (by omega) ?_
        refine ar64 (by omega) ?_
        refine round_mk [.int .i64 ((i + 1 : Nat) : Int)] (Pl.length - (i + 1)) rfl rfl ⟨i + 1, rfl, by omega, rfl, ?_⟩ (by omega)
        rw [← wordsF_set A N L Pl i hlt]
        have e : firstW A N L (Pl.getD i (0, 0, 0)) = 2 * ((se : Int) + 1) := by rw [hx]; unfold firstW; simp only []; rw [if_pos k0, if_pos a0, qs]
        rw [e]
        exact J.none_
      · refine fa ?_
        refine ldb (J.pb _ rfl) (v := .int .i64 (a)) rfl ?_
        refine cd (fun a2 => ?_) (fun a2 => ?_)
        · refine ix i rfl hlt ?_
          refine stS J.ws rfl hlt rfl fun xw hxs hxu hxz => ?_
          replace J := J.set hxs hxu
          clear hxs hxu hxz
          refine ar64 (by omega) ?_
          refine round_mk [.int .i64 ((i + 1 : Nat) : Int)] (Pl.length - (i + 1)) rfl rfl ⟨i + 1, rfl, by omega, rfl, ?_⟩ (by omega)
          rw [← wordsF_set A N L Pl i hlt]
          have e : firstW A N L (Pl.getD i (0, 0, 0)) = 1 := by rw [hx]; unfold firstW; simp only []; rw [if_pos k0, if_neg a0, if_pos a2]
          rw [e]
          exact J.none_
        · refine ar64 (by omega) ?_
          refine round_mk [.int .i64 ((i + 1 : Nat) : Int)] (Pl.length - (i + 1)) rfl rfl ⟨i + 1, rfl, by omega, rfl, ?_⟩ (by omega)
          rw [← wordsF_eq A N L Pl i hlt (by rw [hx]; unfold firstW; simp only []; rw [if_pos k0, if_neg a0, if_neg a2])]
          exact J.none_
    refine cd (fun k2 => ?_) (fun k2 => ?_)
    · refine fa ?_
      refine ldb (J.pb _ rfl) (v := .int .i64 (a)) rfl ?_
      refine cd (fun a1 => ?_) (fun a1 => ?_)
      · refine fa ?_
        refine ldb (J.pb _ rfl) (v := .int .i64 (a)) rfl ?_
        refine fa ?_
        refine ldb J.box (v := .int .i64 (N)) rfl ?_
        refine cd (fun a3 => ?_) (fun a3 => ?_)
        · refine fa ?_
          refine ldb (J.pb _ rfl) (v := .int .i64 (a)) rfl ?_
          refine ar64 (by omega) ?_
          refine cv ?_
          refine arU (by omega) ?_
          refine ix i rfl hlt ?_
          refine stS J.ws rfl hlt rfl fun xw hxs hxu hxz => ?_
          replace J := J.set hxs hxu
          clear hxs hxu hxz
          refine ar64 (by omega) ?_
          refine round_mk [.int .i64 ((i + 1 : Nat) : Int)] (Pl.length - (i + 1)) rfl rfl ⟨i + 1, rfl, by omega, rfl, ?_⟩ (by omega)
          rw [← wordsF_set A N L Pl i hlt]
          have e : firstW A N L (Pl.getD i (0, 0, 0)) = a + 1 := by rw [hx]; unfold firstW; simp only []; rw [if_neg k0, if_pos k2, if_pos (by omega)]
          rw [e]
          exact J.none_
        · refine ar64 (by omega) ?_
          refine round_mk [.int .i64 ((i + 1 : Nat) : Int)] (Pl.length - (i + 1)) rfl rfl ⟨i + 1, rfl, by omega, rfl, ?_⟩ (by omega)
          rw [← wordsF_eq A N L Pl i hlt (by rw [hx]; unfold firstW; simp only []; rw [if_neg k0, if_pos k2, if_neg (by omega)])]
          exact J.none_
      · refine ar64 (by omega) ?_
        refine round_mk [.int .i64 ((i + 1 : Nat) : Int)] (Pl.length - (i + 1)) rfl rfl ⟨i + 1, rfl, by omega, rfl, ?_⟩ (by omega)
        rw [← wordsF_eq A N L Pl i hlt (by rw [hx]; unfold firstW; simp only []; rw [if_neg k0, if_pos k2, if_neg (by omega)])]
        exact J.none_
    refine cd (fun k3 => ?_) (fun k3 => ?_)
    · refine fa ?_
      refine ldb J.box (v := .int .i64 (A)) rfl ?_
      by_cases hA : A > 0
      · refine cY hA ?_
        refine fa ?_
        refine ldb (J.pb _ rfl) (v := .int .i64 (a)) rfl ?_
        by_cases a1 : a = 1
        · refine cY a1 ?_
          refine fa ?_
          refine ldb (J.pb _ rfl) (v := .int .i64 (b)) rfl ?_
          by_cases b3 : b = 3
          · refine cY b3 ?_
            refine fa ?_
            refine ldb J.box (v := .int .i64 (L)) rfl ?_
            refine cv ?_
            refine arU (by omega) ?_
            refine ix i rfl hlt ?_
            refine stS J.ws rfl hlt rfl fun xw hxs hxu hxz => ?_
            replace J := J.set hxs hxu
            clear hxs hxu hxz
            refine fa ?_
            refine ldb J.box (v := .int .i64 (A)) rfl ?_
            refine cY hA ?_
            refine fa ?_
            refine ldb (J.pb _ rfl) (v := .int .i64 (a)) rfl ?_
            refine cY a1 ?_
            refine fa ?_
            refine ldb (J.pb _ rfl) (v := .int .i64 (b)) rfl ?_
            refine cN (by omega) ?_
            refine fa ?_
            refine ldb J.box (v := .int .i64 (A)) rfl ?_
            refine cY hA ?_
            refine fa ?_
            refine ldb (J.pb _ rfl) (v := .int .i64 (a)) rfl ?_
            refine cN (by omega) ?_
            refine ar64 (by omega) ?_
            refine round_mk [.int .i64 ((i + 1 : Nat) : Int)] (Pl.length - (i + 1)) rfl rfl ⟨i + 1, rfl, by omega, rfl, ?_⟩ (by omega)
            rw [← wordsF_set A N L Pl i hlt]
            have e : firstW A N L (Pl.getD i (0, 0, 0)) = L := by rw [hx]; unfold firstW; simp only []; rw [if_neg k0, if_neg k2, if_pos k3, if_pos (by omega)]
            rw [e]
            exact J.none_
          · refine cN b3 ?_
            refine fa ?_
            refine ldb J.box (v := .int .i64 (A)) rfl ?_
            refine cY hA ?_
            refine fa ?_
            refine ldb (J.pb _ rfl) (v := .int .i64 (a)) rfl ?_
            refine cY a1 ?_
            refine fa ?_
            refine ldb (J.pb _ rfl) (v := .int .i64 (b)) rfl ?_
            refine cd (fun b5 => ?_) (fun b5 => ?_)
            · refine ix i rfl hlt ?_
              refine stS J.ws rfl hlt rfl fun xw hxs hxu hxz => ?_
              replace J := J.set hxs hxu
              clear hxs hxu hxz
              refine fa ?_
              refine ldb J.box (v := .int .i64 (A)) rfl ?_
              refine cY hA ?_
              refine fa ?_
              refine ldb (J.pb _ rfl) (v := .int .i64 (a)) rfl ?_
              refine cN (by omega) ?_
              refine ar64 (by omega) ?_
              refine round_mk [.int .i64 ((i + 1 : Nat) : Int)] (Pl.length - (i + 1)) rfl rfl ⟨i + 1, rfl, by omega, rfl, ?_⟩ (by omega)
              rw [← wordsF_set A N L Pl i hlt]
              have e : firstW A N L (Pl.getD i (0, 0, 0)) = 4 := by rw [hx]; unfold firstW; simp only []; rw [if_neg k0, if_neg k2, if_pos k3, if_neg (by omega), if_pos (by omega)]
              rw [e]
              exact J.none_
            · refine fa ?_
              refine ldb J.box (v := .int .i64 (A)) rfl ?_
              refine cY hA ?_
              refine fa ?_
              refine ldb (J.pb _ rfl) (v := .int .i64 (a)) rfl ?_
              refine cN (by omega) ?_
              refine ar64 (by omega) ?_
              refine round_mk [.int .i64 ((i + 1 : Nat) : Int)] (Pl.length - (i + 1)) rfl rfl ⟨i + 1, rfl, by omega, rfl, ?_⟩ (by omega)
              rw [← wordsF_eq A N L Pl i hlt (by rw [hx]; unfold firstW; simp only []; rw [if_neg k0, if_neg k2, if_pos k3, if_neg (by omega), if_neg (by omega), if_neg (by omega)])]
              exact J.none_
        · refine cN a1 ?_
          refine fa ?_
          refine ldb J.box (v := .int .i64 (A)) rfl ?_
          refine cY hA ?_
          refine fa ?_
          refine ldb (J.pb _ rfl) (v := .int .i64 (a)) rfl ?_
          refine cN a1 ?_
          refine fa ?_
          refine ldb J.box (v := .int .i64 (A)) rfl ?_
          refine cY hA ?_
          refine fa ?_
          refine ldb (J.pb _ rfl) (v := .int .i64 (a)) rfl ?_
          refine cd (fun a2 => ?_) (fun a2 => ?_)
          · refine fa ?_
            refine ldb (J.pb _ rfl) (v := .int .i64 (b)) rfl ?_
            refine cd (fun b0 => ?_) (fun b0 => ?_)
            · refine ix i rfl hlt ?_
              refine stS J.ws rfl hlt rfl fun xw hxs hxu hxz => ?_
              replace J := J.set hxs hxu
              clear hxs hxu hxz
              refine ar64 (by omega) ?_
              refine round_mk [.int .i64 ((i + 1 : Nat) : Int)] (Pl.length - (i + 1)) rfl rfl ⟨i + 1, rfl, by omega, rfl, ?_⟩ (by omega)
              rw [← wordsF_set A N L Pl i hlt]
              have e : firstW A N L (Pl.getD i (0, 0, 0)) = 18446744073709551615 := by rw [hx]; unfold firstW; simp only []; rw [if_neg k0, if_neg k2, if_pos k3, if_neg (by omega), if_neg (by omega), if_pos (by omega)]
              rw [e]
              exact J.none_
            · refine ar64 (by omega) ?_
              refine round_mk [.int .i64 ((i + 1 : Nat) : Int)] (Pl.length - (i + 1)) rfl rfl ⟨i + 1, rfl, by omega, rfl, ?_⟩ (by omega)
              rw [← wordsF_eq A N L Pl i hlt (by rw [hx]; unfold firstW; simp only []; rw [if_neg k0, if_neg k2, if_pos k3, if_neg (by omega), if_neg (by omega), if_neg (by omega)])]
              exact J.none_
          · refine ar64 (by omega) ?_
            refine round_mk [.int .i64 ((i + 1 : Nat) : Int)] (Pl.length - (i + 1)) rfl rfl ⟨i + 1, rfl, by omega, rfl, ?_⟩ (by omega)
            rw [← wordsF_eq A N L Pl i hlt (by rw [hx]; unfold firstW; simp only []; rw [if_neg k0, if_neg k2, if_pos k3, if_neg (by omega), if_neg (by omega), if_neg (by omega)])]
            exact J.none_
      · refine cN hA ?_
        refine fa ?_
        refine ldb J.box (v := .int .i64 (A)) rfl ?_
        refine cN hA ?_
        refine fa ?_
        refine ldb J.box (v := .int .i64 (A)) rfl ?_
        refine cN hA ?_
        refine ar64 (by omega) ?_
        refine round_mk [.int .i64 ((i + 1 : Nat) : Int)] (Pl.length - (i + 1)) rfl rfl ⟨i + 1, rfl, by omega, rfl, ?_⟩ (by omega)
        rw [← wordsF_eq A N L Pl i hlt (by rw [hx]; unfold firstW; simp only []; rw [if_neg k0, if_neg k2, if_pos k3, if_neg (by omega), if_neg (by omega), if_neg (by omega)])]
        exact J.none_
    · refine ar64 (by omega) ?_
      refine round_mk [.int .i64 ((i + 1 : Nat) : Int)] (Pl.length - (i + 1)) rfl rfl ⟨i + 1, rfl, by omega, rfl, ?_⟩ (by omega)
      rw [← wordsF_eq A N L Pl i hlt (by rw [hx]; unfold firstW; simp only []; rw [if_neg k0, if_neg k2, if_neg k3])]
      exact J.none_
  · have hi : i = Pl.length := by omega
    subst hi
    have e : wordsF A N L Pl Pl.length = Pl.map (firstW A N L) := by simp [wordsF]
    have hw := J.ws
    rw [e] at hw
    refine ⟨hw, J.up, fun g hg => ?_⟩
    have : w2.heap.size = g := by simpa [Value.ownBlock] using hg
    omega
end Go.Proofs.Ytdomclcokkijjaa
