/- The walks of the laws SchedOdd and SchedBack. -/
import Derived.Test.YtjninopakpfklaaSi
namespace Go.Proofs.Ytjninopakpfklaa
open Go.RowKit
attribute [local irreducible] Instr.loadAt Instr.storeAt Instr.fieldAt Instr.indexAt Instr.sliceAt Instr.buildSlice Instr.box Instr.alloc Builtin.append_ Builtin.len_ Builtin.min_ Builtin.max_ Calls Instr.build Instr.makeSlice binSem convert Instr.index Instr.range Instr.next

def okTh (x : Int) : Bool := decide (0 ≤ x) && decide (x < 6)
theorem good_all (l : List Int) : decide (goodP l) = (decide (l.length ≤ 20) && l.all okTh) := by
  have h2 : l.all okTh = true ↔ ∀ x ∈ l, 0 ≤ x ∧ x < 6 := by
    rw [List.all_eq_true]
    exact ⟨fun h x hx => by simpa [okTh] using h x hx, fun h x hx => by simpa [okTh] using h x hx⟩
  by_cases h : goodP l
  · rw [decide_eq_true h, decide_eq_true h.1, h2.2 h.2]; rfl
  · rw [decide_eq_false h]
    by_cases a : l.length ≤ 20
    · have : l.all okTh = false := by
        cases hb : l.all okTh with
        | false => rfl
        | true => exact absurd ⟨a, h2.1 hb⟩ h
      rw [this, Bool.and_false]
    · rw [decide_eq_false a]; rfl
set_option maxRecDepth 100000 in
theorem odd_law {w : World} {v : Value} {l : List Int} (hv : RdK w .i64 v l) (hr : Rng l) (t : Int) : Fn Try.prog 14 #[v, .int .i64 t] w fun r w' => r = .bool true ∧ Upd [] w w' := by
  obtain ⟨a0, ca, rfl, -⟩ := hv.form
  refine fn_enter Try.func14 rfl rfl ?_
  refine len_sl ?_
  refine cd (fun hbig => ?_) (fun hbig => ?_)
  · refine cl (lives35 w) ?_
    rintro _ w1 ⟨rfl, hlive⟩
    exact ⟨rfl, (Upd.refl [] w).trans hlive⟩
  have hl : l.length ≤ 100 := by omega
  refine len_sl ?_
  refine loop_rule [0, 1] [5, 6] (fun vs w' m => ∃ (j : Nat) (b : Bool), vs = [.bool b, .int .i64 j] ∧ j ≤ l.length ∧ m = l.length - j ∧ b = (decide (l.length ≤ 20) && (l.take j).all okTh) ∧ w' = w) rfl [_, .int .i64 0] l.length rfl
    ⟨0, decide ((l.length : Int) ≤ 20), rfl, by omega, rfl, by simp; omega, rfl⟩ ?_
  rintro _ w1 m ⟨j, b, rfl, hj, rfl, hb, rfl⟩
  refine len_sl ?_
  refine cd (fun hlt => ?_) (fun hlt => ?_)
  · have hlt : j < l.length := by omega
    have htk := getD_take l j hlt
    have hstep : (decide (l.length ≤ 20) && (l.take (j + 1)).all okTh) = (b && okTh (l.getD j 0)) := by
      rw [htk, List.all_append, hb]; simp [Bool.and_assoc]
    cases b with
    | false =>
      refine ar64 (by omega) ?_
      refine round_mk [.bool false, .int .i64 ((j + 1 : Nat) : Int)] (l.length - (j + 1)) rfl rfl ⟨j + 1, false, rfl, by omega, rfl, by rw [hstep]; rfl, rfl⟩ (by omega)
    | true =>
      obtain ⟨b_, o_, c_, he_, -⟩ := hv.some_ (by omega)
      cases he_
      have hcell := hv.at_ rfl j hlt
      generalize l.getD j 0 = y at *
      refine ix j rfl hlt ?_
      refine ld hcell ?_
      refine cd (fun h0 => ?_) (fun h0 => ?_)
      · refine ix j rfl hlt ?_
        refine ld hcell ?_
        refine ar64 (by omega) ?_
        refine round_mk [.bool (decide (y < 6)), .int .i64 ((j + 1 : Nat) : Int)] (l.length - (j + 1)) rfl rfl ⟨j + 1, _, rfl, by omega, rfl, by rw [hstep, okTh, decide_eq_true (show 0 ≤ y from h0)]; rfl, rfl⟩ (by omega)
      · refine ar64 (by omega) ?_
        refine round_mk [.bool false, .int .i64 ((j + 1 : Nat) : Int)] (l.length - (j + 1)) rfl rfl ⟨j + 1, _, rfl, by omega, rfl, by rw [hstep, okTh, decide_eq_false (show ¬ 0 ≤ y from h0)]; rfl, rfl⟩ (by omega)
  · have hj : j = l.length := by omega
    subst hj
    rw [List.take_length, ← good_all] at hb
    subst hb
    have hU := Upd.refl [] w1
    refine cl (rank_c (hv.upd0 hU) hl hr) ?_
    rintro r w3 ⟨hrk, hu3⟩
    have hU3 := hU.trans hu3
    by_cases hg : goodP l
    · rw [if_pos hg] at hrk
      obtain ⟨kk, rfl, -⟩ := hrk
      refine cl (next_c (hv.upd0 hU3) hl hr) ?_
      rintro r4 w4 ⟨hn4, hu4⟩
      have hU4 := hU3.trans hu4
      rw [if_pos hg] at hn4
      have hform : ∃ m b, r4 = .tuple #[m, .bool b] := by
        obtain ⟨x, -, hN⟩ := hn4
        rcases hN with ⟨-, rfl⟩ | ⟨_, _, _, _, _, rv, -, -, -, -, rfl, -⟩
        · exact ⟨_, _, rfl⟩
        · exact ⟨_, _, rfl⟩
      obtain ⟨mv, mb, rfl⟩ := hform
      rw [decide_eq_true hg]
      refine cl (counts_c (hv.upd0 hU4) t (by omega)) ?_
      rintro r5 w5 ⟨hc5, hu5⟩
      have hU5 := hU4.trans hu5
      refine cd (fun h1 => ?_) (fun h1 => ?_)
      · rw [if_neg (by omega)] at hc5
        subst hc5
        refine len_sl ?_
        refine cl (lives35 w5) ?_
        rintro _ w6 ⟨rfl, hlive⟩
        exact ⟨rfl, (hU5).trans hlive⟩
      refine cd (fun h6 => ?_) (fun h6 => ?_)
      · rw [if_neg (by omega)] at hc5
        subst hc5
        refine len_sl ?_
        refine cl (lives35 w5) ?_
        rintro _ w6 ⟨rfl, hlive⟩
        exact ⟨rfl, (hU5).trans hlive⟩
      rw [if_pos (by omega)] at hc5
      obtain ⟨⟨g, rfl⟩, hc⟩ := hc5
      obtain ⟨n, rfl⟩ := Int.eq_ofNat_of_zero_le (show 0 ≤ t by omega)
      rw [Int.toNat_natCast] at hc ⊢
      refine len_sl ?_
      refine cN (by omega) ?_
      refine loop_rule [0, 1, 8, 11] [12] (fun vs w' m => ∃ (i : Nat), vs = [.int .i64 i] ∧ i ≤ n ∧ m = n - i ∧ w' = w5) rfl [.int .i64 0] n rfl ⟨0, rfl, by omega, rfl, rfl⟩ ?_
      rintro _ w6 m ⟨i, rfl, hi, rfl, rfl⟩
      refine cd (fun hlt => ?_) (fun hlt => ?_)
      · have hlt : i < n := by omega
        refine loop_rule [0, 1, 8, 11, 12] [13, 14] (fun vs w' m => ∃ (j : Nat), vs = [.int .i64 ((l.take j).count (i : Int) : Nat), .int .i64 j] ∧ j ≤ l.length ∧ m = l.length - j ∧ w' = w6) rfl [.int .i64 0, .int .i64 0] l.length rfl ⟨0, by simp, by omega, rfl, rfl⟩ ?_
        rintro _ w7 m ⟨j, rfl, hj, rfl, rfl⟩
        refine len_sl ?_
        refine cd (fun hlt2 => ?_) (fun hlt2 => ?_)
        · have hlt2 : j < l.length := by omega
          obtain ⟨b_, o_, c_, he_, -⟩ := (hv.upd0 hU5).some_ (by omega)
          cases he_
          refine ix j (by omega) hlt2 ?_
          refine ld ((hv.upd0 hU5).at_ rfl j hlt2) ?_
          have htk := getD_take l j hlt2
          have hcl : (l.take j).count (i : Int) ≤ j := Nat.le_trans List.count_le_length (by simp; omega)
          generalize l.getD j 0 = y at *
          refine cd (fun heq => ?_) (fun heq => ?_)
          · refine ar64 (by omega) ?_
            refine ar64 (by omega) ?_
            refine round_mk [.int .i64 (((l.take (j + 1)).count (i : Int) : Nat) : Int), .int .i64 ((j + 1 : Nat) : Int)] (l.length - (j + 1)) rfl (by rw [htk, List.count_append, heq]; simp; rfl) ⟨j + 1, rfl, by omega, rfl, rfl⟩ (by omega)
          · refine ar64 (by omega) ?_
            refine round_mk [.int .i64 (((l.take (j + 1)).count (i : Int) : Nat) : Int), .int .i64 ((j + 1 : Nat) : Int)] (l.length - (j + 1)) rfl (by rw [htk, List.count_append, List.count_singleton, if_neg (fun h => heq (beq_iff_eq.1 h))]; rfl) ⟨j + 1, rfl, by omega, rfl, rfl⟩ (by omega)
        · have hj : j = l.length := by omega
          subst hj
          rw [List.take_length]
          refine ix i rfl hlt ?_
          refine ld (v := .int .i64 ((l.count (i : Int) : Nat) : Int)) (by rw [hc.at_ rfl i (by simpa using hlt), nI_getD, cntI_getD hlt]) ?_
          refine cN (fun h => h rfl) ?_
          refine ar64 (by omega) ?_
          refine round_mk [.int .i64 ((i + 1 : Nat) : Int)] (n - (i + 1)) rfl rfl ⟨i + 1, rfl, by omega, rfl, rfl⟩ (by omega)
      · refine cl (lives35 w6) ?_
        rintro _ w7 ⟨rfl, hlive⟩
        exact ⟨rfl, (hU5).trans hlive⟩
    · rw [if_neg hg] at hrk
      subst hrk
      refine cl (next_c (hv.upd0 hU3) hl hr) ?_
      rintro r4 w4 ⟨hn4, hu4⟩
      have hU4 := hU3.trans hu4
      rw [if_neg hg] at hn4
      subst hn4
      rw [decide_eq_false hg]
      refine len_sl ?_
      refine cl (lives35 w4) ?_
      rintro _ w5 ⟨rfl, hlive⟩
      exact ⟨rfl, (hU4).trans hlive⟩
theorem rng_of {w : World} {B : Nat} {v : Value} {l : List Int} (h : SlInts w B .i64 v l) : Rng l := by
  obtain ⟨a, cap, rfl, h1, h2, h3, h4, h5⟩ := h
  intro x hx
  have h6 := h4 x hx
  simp only [Lit.wf] at h6
  have h7 : IntKind.i64.min ≤ x ∧ x ≤ IntKind.i64.max := by simpa using h6
  exact h7
theorem SchedOdd_walk (w : World) (v : Value) (ls : List (List Int)) (h : SlRows w w.heap.size [.i64] v ls) (t : Int) (ht : (Lit.int .i64 t).wf = true) :
    Calls Try.prog 14 #[v, .int .i64 t] w fun e w' => e = .returned (.bool true) ∧ Below w.heap.size w w' :=
  (odd_law (RdK.of_ints h.ints (Nat.le_refl _)) (rng_of h.ints) t).mono fun _ _ ⟨_, he, hv, hu⟩ => ⟨by rw [he, hv], hu.below⟩

theorem uniq_n {x : List Nat} {n m : Nat} (h1 : ∀ y ∈ x, y < n) (h2 : n = 0 ∧ x = [] ∨ 0 < n ∧ (n - 1) ∈ x) (h3 : ∀ y ∈ x, y < m) (h4 : 0 < m ∧ (m - 1) ∈ x) : n = m := by
  have h5 := h1 _ h4.2
  rcases h2 with ⟨-, rfl⟩ | ⟨h6, h7⟩
  · exact absurd h4.2 (by simp)
  · have := h3 _ h7; omega
theorem rng_nI {x : List Nat} {n : Nat} (h : ∀ y ∈ x, y < n) (hn : n ≤ 6) : Rng (nI x) := by
  intro z hz
  simp only [nI, List.mem_map] at hz
  obtain ⟨y, hy, rfl⟩ := hz
  have := h y hy; omega
theorem good_nI {x : List Nat} {n : Nat} (h : ∀ y ∈ x, y < n) (hn : n ≤ 6) (hl : x.length ≤ 20) : goodP (nI x) :=
  ⟨by simpa using hl, by
    intro z hz
    simp only [nI, List.mem_map] at hz
    obtain ⟨y, hy, rfl⟩ := hz
    have := h y hy; omega⟩
theorem nI_inj {a b : List Nat} (h : nI a = nI b) : a = b := by
  have h1 : ∀ l : List Nat, (nI l).map Int.toNat = l := fun l => by
    unfold nI
    rw [List.map_map]
    conv => rhs; rw [← List.map_id l]
    apply List.map_congr_left
    intro x _
    simp
  rw [← h1 a, ← h1 b, h]
set_option maxRecDepth 100000 in
theorem back_law {w : World} {v : Value} {l : List Int} (hv : RdK w .i64 v l) (k : Int) (hk : -9223372036854775808 ≤ k ∧ k ≤ 9223372036854775807) : Fn Try.prog 13 #[v, .int .i64 k] w fun r w' => r = .bool true ∧ Upd [] w w' := by
  refine fn_enter Try.func13 rfl rfl ?_
  by_cases hr : rightP l
  · obtain ⟨c, rfl, h6, h20⟩ := right_nat hr
    refine cl (Many_ok hv h6 h20) ?_
    rintro _ w ⟨rfl, rfl⟩
    obtain ⟨a0, ca, rfl, -⟩ := hv.form
    refine len_sl ?_
    refine cd (fun h0 => ?_) (fun h0 => ?_)
    · refine cl (lives35 w) ?_
      rintro _ w1 ⟨rfl, hlive⟩
      exact ⟨rfl, (Upd.refl [] w).trans hlive⟩
    have hcpos : 0 < c.length := by rw [nI_length] at h0; omega
    have hlast : c.length - 1 < (nI c).length := by simp; omega
    refine len_sl ?_
    refine val ((c.length - 1 : Nat) : Int) (by rw [IntWalk.i64_in _ (by simp; omega)]; simp; omega) ?_
    obtain ⟨b_, o_, c_, he_, -⟩ := (hv).some_ (by omega)
    cases he_
    refine ix (c.length - 1) (by omega) hlast ?_
    refine ld ((hv).at_ rfl (c.length - 1) hlast) ?_
    rw [nI_getD]
    refine cd (fun hz => ?_) (fun hz => ?_)
    · refine cl (lives35 w) ?_
      rintro _ w1 ⟨rfl, hlive⟩
      exact ⟨rfl, (Upd.refl [] w).trans hlive⟩
    have hz : c.getD (c.length - 1) 0 ≠ 0 := by omega
    have hpos := mn_pos 0 c
    have hsm := mn_small h6 h20
    refine cN (by omega) ?_
    refine rm (by omega) ?_
    have hm1 : -(mn 0 c : Int) < k.tmod (mn 0 c) ∧ k.tmod (mn 0 c) < mn 0 c := by
      have h1 := Int.tmod_lt_of_pos k (show (0 : Int) < mn 0 c by omega)
      have h2 : -(mn 0 c : Int) < k.tmod (mn 0 c) := by
        rcases Int.le_total 0 k with h | h
        · have := Int.tmod_nonneg (mn 0 c : Int) h; omega
        · have e : k.tmod (mn 0 c) = -((-k).tmod (mn 0 c)) := by rw [Int.neg_tmod, Int.neg_neg]
          have := Int.tmod_lt_of_pos (-k) (show (0 : Int) < mn 0 c by omega)
          omega
      exact ⟨by omega, h1⟩
    refine val (k.tmod (mn 0 c)) rfl ?_
    generalize k.tmod (mn 0 c) = q at *
    refine ar64 (by omega) ?_
    refine rm (by omega) ?_
    obtain ⟨kk, hkk, hkl⟩ : ∃ kk : Nat, (q + (mn 0 c : Int)).tmod (mn 0 c) = (kk : Int) ∧ kk < mn 0 c := by
      refine ⟨((q + (mn 0 c : Int)).tmod (mn 0 c)).toNat, ?_, ?_⟩
      · have := Int.tmod_nonneg (mn 0 c : Int) (show (0 : Int) ≤ q + mn 0 c by omega); omega
      · have h1 := Int.tmod_lt_of_pos (q + (mn 0 c : Int)) (show (0 : Int) < mn 0 c by omega)
        omega
    refine val (kk : Int) hkk ?_
    refine cl (nth_c hv h6 h20 (kk : Int)) ?_
    rintro r w1 ⟨hn1, hu1⟩
    rw [if_pos (by omega), Int.toNat_natCast] at hn1
    obtain ⟨x, xv, rfl, hxv, -, hx⟩ := hn1
    obtain ⟨hcnt, hrank, hxl, hxc⟩ := inter_cnt c.sum c kk x rfl hx
    have hmem : c.length - 1 ∈ x := by
      have h1 := cntN_getD (l := x) (n := c.length) (i := c.length - 1) (by omega)
      rw [hcnt] at h1
      exact List.count_pos_iff.1 (by omega)
    have hgood := good_nI hxc h6 (by omega)
    have hrng := rng_nI hxc h6
    refine cl (rank_c hxv (by simp; omega) hrng) ?_
    rintro r w2 ⟨hrk, hu2⟩
    rw [if_pos hgood] at hrk
    obtain ⟨rk, rfl, x2, n2, hx2, -, -, hn2, hm2, rfl⟩ := hrk
    obtain rfl := nI_inj hx2
    obtain rfl := uniq_n hn2 hm2 hxc ⟨hcpos, hmem⟩
    rw [hrank]
    have hU2 := hu1.trans hu2
    have hxv2 := hxv.upd0 hu2
    refine cN (by omega) ?_
    refine len_sl ?_
    refine cl (counts_c hxv2 _ (by simp; omega)) ?_
    rintro r w3 ⟨hc3, hu3⟩
    rw [if_pos (by simp; omega)] at hc3
    obtain ⟨-, hc3⟩ := hc3
    rw [show (((nI c).length : Nat) : Int).toNat = c.length by simp, cntI_nI, hcnt] at hc3
    have hU3 := hU2.trans hu3
    refine cl (same_c hc3 (hv.upd0 hU3)) ?_
    rintro _ w4 ⟨rfl, hu4⟩
    have hU4 := hU3.trans hu4
    rw [decide_eq_true (rfl : nI c = nI c)]
    have hxv4 := (hxv2.upd0 hu3).upd0 hu4
    refine cl (next_c hxv4 (by simp; omega) hrng) ?_
    rintro r w5 ⟨hn5, hu5⟩
    rw [if_pos hgood] at hn5
    have hU5 := hU4.trans hu5
    obtain ⟨x3, hx3, hN⟩ := hn5
    obtain rfl := nI_inj hx3
    rcases hN with ⟨hdesc, rfl⟩ | ⟨p, a, s1, b, s2, mv, hxe, hpw, hab, hs2, rfl, hmv⟩
    · have hd := desc_rank x c.length hxc hdesc
      rw [hrank, hcnt] at hd
      refine len_sl ?_
      refine ar64 (by omega) ?_
      refine cY (by omega) ?_
      refine cl (lives35 w5) ?_
      rintro _ w6 ⟨rfl, hlive⟩
      exact ⟨rfl, (hU5).trans hlive⟩
    · have hperm : (p ++ b :: (s1 ++ a :: s2).reverse).Perm x := by rw [hxe]; exact (swap_perm a b s1 s2).append_left p
      generalize hy : p ++ b :: (s1 ++ a :: s2).reverse = y at *
      have hyc : ∀ z ∈ y, z < c.length := fun z hz => hxc z (hperm.mem_iff.1 hz)
      have hyl : y.length = c.sum := by rw [hperm.length_eq, hxl]
      have hymem : c.length - 1 ∈ y := hperm.mem_iff.2 hmem
      have hycnt : cntN y c.length = c := by rw [cntN_perm hperm, hcnt]
      have hyrank : rankL c.length y = kk + 1 := by
        rw [← hy, next_rank (by rw [← hxe]; exact hxc) hpw hab hs2, ← hxe, hrank]
      refine cl (rank_c hmv (by simp; omega) (rng_nI hyc h6)) ?_
      rintro r w6 ⟨hrk, hu6⟩
      rw [if_pos (good_nI hyc h6 (by omega))] at hrk
      obtain ⟨rk, rfl, x2, n2, hx2, -, -, hn2, hm2, rfl⟩ := hrk
      obtain rfl := nI_inj hx2
      obtain rfl := uniq_n hn2 hm2 hyc ⟨hcpos, hymem⟩
      rw [hyrank]
      have hU6 := hU5.trans hu6
      refine ar64 (by omega) ?_
      refine cY (by omega) ?_
      refine len_sl ?_
      refine cl (counts_c (hmv.upd0 hu6) _ (by simp; omega)) ?_
      rintro r w7 ⟨hc7, hu7⟩
      rw [if_pos (by simp; omega)] at hc7
      obtain ⟨-, hc7⟩ := hc7
      rw [show (((nI c).length : Nat) : Int).toNat = c.length by simp, cntI_nI, hycnt] at hc7
      have hU7 := hU6.trans hu7
      refine cl (same_c hc7 (hv.upd0 hU7)) ?_
      rintro _ w8 ⟨rfl, hu8⟩
      rw [decide_eq_true (rfl : nI c = nI c)]
      refine cl (lives35 w8) ?_
      rintro _ w9 ⟨rfl, hlive⟩
      exact ⟨rfl, (hU7.trans hu8).trans hlive⟩
  · refine cl (Many_bad hv hr) ?_
    rintro _ w ⟨rfl, rfl⟩
    refine cl (lives35 w) ?_
    rintro _ w1 ⟨rfl, hlive⟩
    exact ⟨rfl, (Upd.refl [] w).trans hlive⟩
theorem SchedBack_walk (w : World) (v : Value) (ls : List (List Int)) (h : SlRows w w.heap.size [.i64] v ls) (k : Int) (hk : (Lit.int .i64 k).wf = true) :
    Calls Try.prog 13 #[v, .int .i64 k] w fun e w' => e = .returned (.bool true) ∧ Below w.heap.size w w' := by
  have h7 : IntKind.i64.min ≤ k ∧ k ≤ IntKind.i64.max := by simpa [Lit.wf] using hk
  exact (back_law (RdK.of_ints h.ints (Nat.le_refl _)) k h7).mono fun _ _ ⟨_, he, hv, hu⟩ => ⟨by rw [he, hv], hu.below⟩
end Go.Proofs.Ytjninopakpfklaa
