/- Contracts of the schedules' functions: what is a whole list, its place, the next one. -/
import Derived.Test.YtjninopakpfklaaSg
import Derived.Test.YtjninopakpfklaaV14
namespace Go.Proofs.Ytjninopakpfklaa
open Go.RowKit
attribute [local irreducible] Instr.loadAt Instr.storeAt Instr.fieldAt Instr.indexAt Instr.sliceAt Instr.buildSlice Instr.box Instr.alloc Builtin.append_ Builtin.len_ Builtin.min_ Builtin.max_ Calls Instr.build Instr.makeSlice binSem convert Instr.index Instr.range Instr.next

def Rng (l : List Int) : Prop := ∀ x ∈ l, -9223372036854775808 ≤ x ∧ x ≤ 9223372036854775807
theorem max_c {w : World} {v : Value} {l : List Int} (hv : RdK w .i64 v l) (hp : 0 < l.length) : Fn Try.prog 76 #[v] w fun r w' => (∃ m : Int, r = .int .i64 m ∧ m ∈ l ∧ ∀ x ∈ l, x ≤ m) ∧ w' = w := by
  obtain ⟨b, o, cap, rfl, hcap⟩ := hv.some_ hp
  have hmax := hv.form
  obtain ⟨_, _, _, hm1, hm2⟩ := hmax
  simp only [maxLen] at hm2
  refine fn_enter Try.func76 rfl rfl ?_
  refine len_sl ?_
  refine cN (by omega) ?_
  refine ix 0 rfl hp ?_
  refine ld (hv.at_ rfl 0 hp) ?_
  refine loop_rule [0] [3, 4] (fun vs w' k => ∃ (j : Nat) (m : Int), vs = [.int .i64 m, .int .i64 j] ∧ j ≤ l.length ∧ k = l.length - j ∧ m ∈ l ∧ (∀ x ∈ l.take j, x ≤ m) ∧ w' = w) rfl [.int .i64 (l.getD 0 0), .int .i64 1] (l.length - 1) rfl
    ⟨1, _, rfl, hp, rfl, getD_mem hp, by rw [getD_take l 0 hp]; simp, rfl⟩ ?_
  rintro _ w1 k ⟨j, m, rfl, hj, rfl, hm, hall, rfl⟩
  refine len_sl ?_
  refine cd (fun hlt => ?_) (fun hlt => ?_)
  · have hlt : j < l.length := by omega
    refine ix j rfl hlt ?_
    refine ld (hv.at_ rfl j hlt) ?_
    have hmem := getD_mem hlt
    have htk := getD_take l j hlt
    generalize l.getD j 0 = y at *
    refine mx2 ?_
    refine val (if y > m then y else m) rfl ?_
    refine ar64 (by omega) ?_
    refine round_mk [.int .i64 (if y > m then y else m), .int .i64 ((j + 1 : Nat) : Int)] (l.length - (j + 1)) rfl rfl ⟨j + 1, _, rfl, by omega, rfl, by split <;> assumption, ?_, rfl⟩ (by omega)
    intro x hx
    rw [htk] at hx
    rcases List.mem_append.1 hx with hx | hx
    · have := hall x hx; split <;> omega
    · simp at hx; subst hx; split <;> omega
  · have hj : j = l.length := by omega
    subst hj
    rw [List.take_length] at hall
    exact ⟨⟨m, rfl, hm, hall⟩, rfl⟩
theorem min_c {w : World} {v : Value} {l : List Int} (hv : RdK w .i64 v l) (hp : 0 < l.length) : Fn Try.prog 77 #[v] w fun r w' => (∃ m : Int, r = .int .i64 m ∧ m ∈ l ∧ ∀ x ∈ l, m ≤ x) ∧ w' = w := by
  obtain ⟨b, o, cap, rfl, hcap⟩ := hv.some_ hp
  have hmax := hv.form
  obtain ⟨_, _, _, hm1, hm2⟩ := hmax
  simp only [maxLen] at hm2
  refine fn_enter Try.func77 rfl rfl ?_
  refine len_sl ?_
  refine cN (by omega) ?_
  refine ix 0 rfl hp ?_
  refine ld (hv.at_ rfl 0 hp) ?_
  refine loop_rule [0] [3, 4] (fun vs w' k => ∃ (j : Nat) (m : Int), vs = [.int .i64 m, .int .i64 j] ∧ j ≤ l.length ∧ k = l.length - j ∧ m ∈ l ∧ (∀ x ∈ l.take j, m ≤ x) ∧ w' = w) rfl [.int .i64 (l.getD 0 0), .int .i64 1] (l.length - 1) rfl
    ⟨1, _, rfl, hp, rfl, getD_mem hp, by rw [getD_take l 0 hp]; simp, rfl⟩ ?_
  rintro _ w1 k ⟨j, m, rfl, hj, rfl, hm, hall, rfl⟩
  refine len_sl ?_
  refine cd (fun hlt => ?_) (fun hlt => ?_)
  · have hlt : j < l.length := by omega
    refine ix j rfl hlt ?_
    refine ld (hv.at_ rfl j hlt) ?_
    have hmem := getD_mem hlt
    have htk := getD_take l j hlt
    generalize l.getD j 0 = y at *
    refine mn2 ?_
    refine val (if y < m then y else m) rfl ?_
    refine ar64 (by omega) ?_
    refine round_mk [.int .i64 (if y < m then y else m), .int .i64 ((j + 1 : Nat) : Int)] (l.length - (j + 1)) rfl rfl ⟨j + 1, _, rfl, by omega, rfl, by split <;> assumption, ?_, rfl⟩ (by omega)
    intro x hx
    rw [htk] at hx
    rcases List.mem_append.1 hx with hx | hx
    · have := hall x hx; split <;> omega
    · simp at hx; subst hx; split <;> omega
  · have hj : j = l.length := by omega
    subst hj
    rw [List.take_length] at hall
    exact ⟨⟨m, rfl, hm, hall⟩, rfl⟩

/-- how often each thread stands in a list -/
def cntI (l : List Int) (n : Nat) : List Nat := (List.range n).map fun (i : Nat) => l.count (i : Int)
@[simp] theorem cntI_len (l : List Int) (n : Nat) : (cntI l n).length = n := by simp [cntI]
theorem cntI_getD {l : List Int} {n i : Nat} (h : i < n) : (cntI l n).getD i 0 = l.count (i : Int) := by simp [cntI, List.getD, h]
theorem count_nI (x : List Nat) (i : Nat) : (nI x).count (i : Int) = x.count i := by
  induction x with
  | nil => rfl
  | cons y x ih =>
    show (((y : Nat) : Int) :: nI x).count (i : Int) = _
    by_cases h : y = i
    · subst h; rw [List.count_cons_self, List.count_cons_self, ih]
    · rw [List.count_cons_of_ne (by omega), List.count_cons_of_ne h, ih]
theorem cntI_nI (x : List Nat) (n : Nat) : cntI (nI x) n = cntN x n := by
  unfold cntI cntN
  apply List.map_congr_left
  intro i _
  exact count_nI x i
theorem cntI_step (l : List Int) (n j k : Nat) (hj : j < l.length) (hk : l.getD j 0 = (k : Int)) (hkn : k < n) :
    ((nI (cntI (l.take j) n)).map (Value.int .i64)).set k (.int .i64 ((((cntI (l.take j) n).getD k 0 : Nat) : Int) + 1)) = (nI (cntI (l.take (j + 1)) n)).map (.int .i64) := by
  apply List.ext_getElem
  · simp
  · intro i h1 h2
    have hin : i < n := by simpa using h2
    rw [List.getElem_set]
    have htk := getD_take l j hj
    by_cases hki : k = i
    · subst hki
      rw [if_pos rfl, cntI_getD hkn]
      simp only [nI, cntI, List.getElem_map, List.getElem_range, htk, List.count_append, hk]
      simp
    · rw [if_neg hki]
      simp only [nI, cntI, List.getElem_map, List.getElem_range, htk, List.count_append, hk]
      rw [List.count_singleton, if_neg (by simp; omega)]
      simp
theorem cntI_same (l : List Int) (n j : Nat) (hj : j < l.length) (hk : ¬ (0 ≤ l.getD j 0 ∧ l.getD j 0 < n)) : cntI (l.take (j + 1)) n = cntI (l.take j) n := by
  unfold cntI
  apply List.map_congr_left
  intro i hi
  have hi : i < n := by simpa using hi
  rw [getD_take l j hj, List.count_append, List.count_singleton, if_neg (fun h => hk (by have h := beq_iff_eq.1 h; omega))]; rfl
theorem mem_nI {x : List Nat} {y : Nat} : ((y : Nat) : Int) ∈ nI x ↔ y ∈ x := by
  unfold nI
  rw [List.mem_map]
  exact ⟨fun ⟨a, h1, h2⟩ => by have : a = y := by omega
                               rwa [← this], fun h => ⟨y, h, rfl⟩⟩
theorem pre_le (c : List Nat) (i : Nat) : ∀ d, pre c i ≤ pre c (i + d)
  | 0 => Nat.le_refl _
  | d + 1 => by
    have h1 := pre_le c i d
    have h2 := pre_succ c (i + d)
    rw [← Nat.add_assoc]; omega
theorem counts_c {w : World} {v : Value} {l : List Int} (hv : RdK w .i64 v l) (t : Int) (hl : l.length < 4294967296) : Fn Try.prog 55 #[v, .int .i64 t] w fun r w' =>
    (if 1 ≤ t ∧ t ≤ 6 then (∃ g, r = .slice (some ⟨g, 0, none⟩) t.toNat t.toNat) ∧ RdK w' .i64 r (nI (cntI l t.toNat)) else r = .slice none 0 0) ∧ Upd [] w w' := by
  obtain ⟨a, ca, rfl, -⟩ := hv.form
  refine fn_enter Try.func55 rfl rfl ?_
  refine cd (fun h => ?_) (fun h1 => ?_)
  · exact ⟨by rw [if_neg (by omega)]; rfl, Upd.refl _ _⟩
  refine cd (fun h => ?_) (fun h6 => ?_)
  · exact ⟨by rw [if_neg (by omega)]; rfl, Upd.refl _ _⟩
  obtain ⟨n, rfl⟩ := Int.eq_ofNat_of_zero_le (show 0 ≤ t by omega)
  refine mks n rfl rfl (by omega) (by omega) fun w1 hb1 hu1 hs1 => ?_
  have hsl : Sl w1 3 1 (.slice (some ⟨w.heap.size, 0, none⟩) n n) n ((nI (cntI (l.take 0) n)).map (.int .i64)) := by
    have := Sl.lit (n := n) hb1 (by rw [made_row1]; simp) (by simp only [maxLen]; omega)
    rw [made_row1] at this
    have e : (nI (cntI (l.take 0) n)).map (Value.int .i64) = List.replicate n (.int .i64 0) := by
      apply List.ext_getElem
      · simp
      · intro i h1 h2; simp [nI, cntI]
    rw [e]; exact this
  refine len_sl ?_
  refine loop_rule [1, 5, 16, 17] [18] (fun vs w' m => ∃ (j : Nat), vs = [.int .i64 j] ∧ j ≤ l.length ∧ m = l.length - j ∧ Sl w' 3 1 (.slice (some ⟨w.heap.size, 0, none⟩) n n) n ((nI (cntI (l.take j) n)).map (.int .i64)) ∧ Upd [] w w') rfl [.int .i64 0] l.length rfl ⟨0, rfl, by omega, rfl, hsl, hu1⟩ ?_
  rintro _ w2 m ⟨j, rfl, hj, rfl, hs, hU⟩
  refine cd (fun hlt => ?_) (fun hlt => ?_)
  · have hlt : j < l.length := by omega
    obtain ⟨b_, o_, c_, he_, -⟩ := (hv.upd0 hU).some_ (by omega)
    cases he_
    refine ix j (by omega) hlt ?_
    refine ld ((hv.upd0 hU).at_ rfl j hlt) ?_
    have hsame := cntI_same l n j hlt
    have hstep := cntI_step l n j
    generalize hx : l.getD j 0 = x at *
    refine cd (fun h0 => ?_) (fun h0 => ?_)
    · refine cd (fun hn => ?_) (fun hn => ?_)
      · obtain ⟨k, rfl⟩ := Int.eq_ofNat_of_zero_le h0
        have hkn : k < n := by omega
        have hcl : (l.take j).count (k : Int) ≤ j := Nat.le_trans List.count_le_length (by simp; omega)
        refine ix k rfl hkn ?_
        refine ld (v := .int .i64 (((cntI (l.take j) n).getD k 0 : Nat) : Int)) (by rw [(RdK.of_sl hs).at_ rfl k (by simpa using hkn), nI_getD]) ?_
        refine ar64 (by rw [cntI_getD hkn]; omega) ?_
        refine ix k rfl hkn ?_
        refine stS hs rfl hkn rfl fun w3 hs3 hu3 hz3 => ?_
        rw [hstep k hlt rfl hkn] at hs3
        refine ar64 (by omega) ?_
        refine round_mk [.int .i64 ((j + 1 : Nat) : Int)] (l.length - (j + 1)) rfl rfl ⟨j + 1, rfl, by omega, rfl, hs3, hU.step hu3 (by simp)⟩ (by omega)
      · refine ar64 (by omega) ?_
        refine round_mk [.int .i64 ((j + 1 : Nat) : Int)] (l.length - (j + 1)) rfl rfl ⟨j + 1, rfl, by omega, rfl, by rw [hsame (by omega)]; exact hs, hU⟩ (by omega)
    · refine ar64 (by omega) ?_
      refine round_mk [.int .i64 ((j + 1 : Nat) : Int)] (l.length - (j + 1)) rfl rfl ⟨j + 1, rfl, by omega, rfl, by rw [hsame (by omega)]; exact hs, hU⟩ (by omega)
  · have hj : j = l.length := by omega
    subst hj
    rw [List.take_length] at hs
    refine ⟨?_, hU⟩
    rw [if_pos (by omega), Int.toNat_natCast]
    exact ⟨⟨_, rfl⟩, RdK.of_sl hs⟩

/-- which lists are interleavings -/
def goodP (l : List Int) : Prop := l.length ≤ 20 ∧ ∀ x ∈ l, 0 ≤ x ∧ x < 6
instance {l : List Int} : Decidable (goodP l) := by unfold goodP; exact inferInstance
def WholeV (w : World) (l : List Int) (rv : Value) : Prop := ∃ (x : List Nat) (n : Nat), l = nI x ∧ n ≤ 6 ∧ x.length ≤ 20 ∧ (∀ y ∈ x, y < n) ∧ (n = 0 ∧ x = [] ∨ 0 < n ∧ (n - 1) ∈ x) ∧ RdK w .i64 rv (nI (cntN x n))
theorem nat_of {l : List Int} (h : ∀ x ∈ l, 0 ≤ x) : ∃ c : List Nat, l = nI c := by
  refine ⟨l.map Int.toNat, ?_⟩
  unfold nI
  rw [List.map_map]
  conv => lhs; rw [← List.map_id l]
  apply List.map_congr_left
  intro x hx
  have := h x hx
  simp; omega
set_option maxRecDepth 10000 in
theorem whole_c {w : World} {v : Value} {l : List Int} (hv : RdK w .i64 v l) (hl : l.length ≤ 100) (hr : Rng l) : Fn Try.prog 73 #[v] w fun r w' =>
    (∃ rv, r = .tuple #[rv, .bool (decide (goodP l))] ∧ (goodP l → WholeV w' l rv)) ∧ Upd [] w w' := by
  obtain ⟨a, ca, rfl, -⟩ := hv.form
  refine fn_enter Try.func73 rfl rfl ?_
  refine len_sl ?_
  refine cd (fun h => ?_) (fun h => ?_)
  · have h : l = [] := List.eq_nil_of_length_eq_zero (by omega)
    subst h
    exact ⟨⟨_, by rw [decide_eq_true (show goodP [] from ⟨by decide, by simp⟩)]; rfl, fun _ => ⟨[], 0, rfl, by omega, by simp, by simp, .inl ⟨rfl, rfl⟩, RdK.nil_ _ _⟩⟩, Upd.refl _ _⟩
  have hp : 0 < l.length := by omega
  refine cl (max_c hv hp) ?_
  rintro _ w ⟨⟨M, rfl, hM, hMall⟩, rfl⟩
  have hMr := hr M hM
  by_cases hbig : M ≤ 5
  · by_cases hneg : 0 ≤ M
    · -- threads 0 .. M
      obtain ⟨mm, rfl⟩ := Int.eq_ofNat_of_zero_le hneg
      refine ar64 (by omega) ?_
      refine cl (counts_c hv _ (by omega)) ?_
      rintro r w1 ⟨hr1, hu1⟩
      rw [if_pos (by omega)] at hr1
      obtain ⟨⟨g, rfl⟩, hrd⟩ := hr1
      rw [show ((mm : Int) + 1).toNat = mm + 1 by omega] at hrd ⊢
      refine cl (min_c (hv.upd0 hu1) hp) ?_
      rintro _ w1 ⟨⟨m, rfl, hm, hmall⟩, rfl⟩
      refine cd (fun hm0 => ?_) (fun hm0 => ?_)
      · have hall : ∀ x ∈ l, 0 ≤ x := fun x hx => by have := hmall x hx; omega
        obtain ⟨x, rfl⟩ := nat_of hall
        have hxn : ∀ y ∈ x, y < mm + 1 := fun y hy => by
          have := hMall (y : Int) (mem_nI.2 hy); omega
        rw [cntI_nI] at hrd
        have hsum := cntN_sum x (mm + 1) hxn
        have hMx : mm ∈ x := mem_nI.1 hM
        refine cl (right_c hrd) ?_
        rintro _ w1 ⟨rfl, rfl⟩
        by_cases hlen : x.length ≤ 20
        · have hgood : goodP (nI x) := ⟨by simpa using hlen, fun y hy => by
            have h1 := hall y hy; have h2 := hMall y hy; omega⟩
          refine cY (by simpa using nat_right (by simp; omega) (by omega)) ?_
          refine cl (total_c hrd (by omega)) ?_
          rintro _ w1 ⟨rfl, rfl⟩
          refine len_sl ?_
          refine cY (by rw [hsum]; simp) ?_
          refine sl_ne ?_
          exact ⟨⟨_, by rw [decide_eq_true hgood]; rfl, fun _ => ⟨x, mm + 1, rfl, by omega, hlen, hxn, .inr ⟨by omega, hMx⟩, hrd⟩⟩, hu1⟩
        · have hbad : ¬ goodP (nI x) := fun h => hlen (by simpa using h.1)
          refine cN (fun h => by have := h.2.2; rw [nI_sum, hsum] at this; omega) ?_
          exact ⟨⟨_, by rw [decide_eq_false hbad]; rfl, fun h => absurd h hbad⟩, hu1⟩
      · have hbad : ¬ goodP l := fun h => by have := h.2 m hm; omega
        exact ⟨⟨_, by rw [decide_eq_false hbad]; rfl, fun h => absurd h hbad⟩, hu1⟩
    · refine ar64 (by omega) ?_
      refine cl (counts_c hv _ (by omega)) ?_
      rintro r w1 ⟨hr1, hu1⟩
      rw [if_neg (by omega)] at hr1
      subst hr1
      refine cl (min_c (hv.upd0 hu1) hp) ?_
      rintro _ w1 ⟨⟨m, rfl, hm, hmall⟩, rfl⟩
      have hmM := hmall M hM
      refine cN (by omega) ?_
      have hbad : ¬ goodP l := fun h => by have := h.2 m hm; omega
      exact ⟨⟨_, by rw [decide_eq_false hbad]; rfl, fun h => absurd h hbad⟩, hu1⟩
  · have hbad : ¬ goodP l := fun h => by have := h.2 M hM; omega
    have hwrap : ∃ t : Int, IntKind.i64.wrap (M + 1) = t ∧ ¬ (1 ≤ t ∧ t ≤ 6) := by
      by_cases hmx : M = 9223372036854775807
      · subst hmx; exact ⟨_, rfl, by decide⟩
      · exact ⟨M + 1, IntWalk.i64_in _ (by omega), by omega⟩
    obtain ⟨t, ht, htb⟩ := hwrap
    refine val t ht ?_
    refine cl (counts_c hv t (by omega)) ?_
    rintro r w1 ⟨hr1, hu1⟩
    rw [if_neg htb] at hr1
    subst hr1
    refine cl (min_c (hv.upd0 hu1) hp) ?_
    rintro _ w1 ⟨⟨m, rfl, hm, hmall⟩, rfl⟩
    refine cd (fun hm0 => ?_) (fun hm0 => ?_)
    · refine cl (right_c (RdK.nil_ w1 .i64)) ?_
      rintro _ w1 ⟨rfl, rfl⟩
      refine cl (total_c (c := []) (RdK.nil_ w1 .i64) (by decide)) ?_
      rintro _ w1 ⟨rfl, rfl⟩
      refine len_sl ?_
      refine cN (by simp; omega) ?_
      exact ⟨⟨_, by rw [decide_eq_false hbad]; rfl, fun h => absurd h hbad⟩, hu1⟩
    · exact ⟨⟨_, by rw [decide_eq_false hbad]; rfl, fun h => absurd h hbad⟩, hu1⟩

def RankV (l : List Int) (k : Int) : Prop := ∃ (x : List Nat) (n : Nat), l = nI x ∧ n ≤ 6 ∧ x.length ≤ 20 ∧ (∀ y ∈ x, y < n) ∧ (n = 0 ∧ x = [] ∨ 0 < n ∧ (n - 1) ∈ x) ∧ k = (rankL n x : Nat)
structure RankI (w w' : World) (x : List Nat) (n j k : Nat) (lv : Value) : Prop where
  le : j ≤ x.length
  rd : RdK w' .i64 lv (nI (cntN (x.drop j) n))
  eq : k + rankL n (x.drop j) = rankL n x
  up : Upd [] w w'
set_option maxRecDepth 10000 in
theorem rank_c {w : World} {v : Value} {l : List Int} (hv : RdK w .i64 v l) (hl : l.length ≤ 100) (hr : Rng l) : Fn Try.prog 54 #[v] w fun r w' =>
    (if goodP l then ∃ k, r = .tuple #[.int .i64 k, .int .i64 0] ∧ RankV l k else r = .tuple #[.int .i64 0, .int .i64 1]) ∧ Upd [] w w' := by
  obtain ⟨a, ca, rfl, -⟩ := hv.form
  refine fn_enter Try.func54 rfl rfl ?_
  refine cl (whole_c hv hl hr) ?_
  rintro _ w1 ⟨⟨rv, rfl, hW⟩, hu1⟩
  by_cases hg : goodP l
  · obtain ⟨x, n, rfl, hn6, hx20, hxn, hnx, hrd⟩ := hW hg
    refine cN (by simpa using hg) ?_
    refine len_sl ?_
    refine loop_rule [17, 18] [4, 6, 19] (fun vs w' m => ∃ (j k : Nat) (lv : Value), vs = [lv, .int .i64 k, .int .i64 j] ∧ m = x.length - j ∧ RankI w w' x n j k lv) rfl [rv, .int .i64 0, .int .i64 0] x.length rfl ⟨0, 0, rv, rfl, rfl, ⟨by omega, hrd, by simp, hu1⟩⟩ ?_
    rintro _ w2 m ⟨j, k, lv, rfl, rfl, I⟩
    have hle := I.le
    have hsm : rankL n x < 3656158440062976 := by
      have h1 := rank_lt hxn
      have h2 := mn_small (c := cntN x n) (by simpa using hn6) (by rw [cntN_sum x n hxn]; exact hx20)
      omega
    refine cd (fun hlt => ?_) (fun hlt => ?_)
    · have hlt : j < x.length := by simpa using hlt
      have hlt' : j < (nI x).length := by simpa using hlt
      obtain ⟨b_, o_, c_, he_, -⟩ := (hv.upd0 I.up).some_ (by omega)
      cases he_
      refine ix j (by omega) hlt' ?_
      refine ld ((hv.upd0 I.up).at_ rfl j hlt') ?_
      rw [nI_getD]
      have hdr := natD_drop x j hlt
      have htn : x.getD j 0 < n := hxn _ (by simp [List.getD, hlt])
      have heq := I.eq
      have hrd2 := I.rd
      rw [hdr] at heq hrd2
      have hdn : ∀ y ∈ x.getD j 0 :: x.drop (j + 1), y < n := fun y hy => by rw [← hdr] at hy; exact hxn y (List.mem_of_mem_drop hy)
      generalize x.getD j 0 = t at *
      have hcsum := cntN_sum _ n hdn
      have hcl : (t :: x.drop (j + 1)).length ≤ 20 := by rw [← hdr]; simp; omega
      generalize hC : cntN (t :: x.drop (j + 1)) n = C at *
      have hClen : C.length = n := by rw [← hC]; simp
      have heq : k + (pre C t + rankL n (x.drop (j + 1))) = rankL n x := by
        have : rankL n (t :: x.drop (j + 1)) = pre C t + rankL n (x.drop (j + 1)) := by rw [← hC]; rfl
        rw [← this]; exact heq
      refine loop_rule [4, 8, 17, 18, 19, 23] [6, 24] (fun vs w' m => ∃ (i kk : Nat), vs = [.int .i64 kk, .int .i64 i] ∧ i ≤ t ∧ m = t - i ∧ kk = k + pre C i ∧ kk ≤ rankL n x ∧ RdK w' .i64 lv (nI C) ∧ Upd [] w w') rfl [.int .i64 k, .int .i64 0] t rfl ⟨0, k, rfl, by omega, rfl, by simp [pre], by omega, hrd2, I.up⟩ ?_
      rintro _ w3 m ⟨i, kk, rfl, hi, rfl, hkk, hkl, hrd3, hU3⟩
      refine cd (fun hlt2 => ?_) (fun hlt2 => ?_)
      · have hlt2 : i < t := by omega
        have hin : i < (nI C).length := by simp; omega
        obtain ⟨b2, o2, c2, rfl, -⟩ := hrd3.some_ (by omega)
        refine ix i rfl hin ?_
        refine ld (hrd3.at_ rfl i hin) ?_
        rw [nI_getD]
        have hps := pre_succ C i
        refine cd (fun hpos => ?_) (fun hpos => ?_)
        · have hpos : C.getD i 0 ≠ 0 := by omega
          have hle2 := natD_le_sum C i
          refine cl (less_c hrd3 (by omega) i hpos (by omega)) ?_
          rintro r w4 ⟨hr4, hf4, hu4⟩
          have hd := dec1_sum C i hpos
          refine cl (many_c (RdK.of_sl hr4) (by rw [dec1_len]; omega) (by omega)) ?_
          rintro _ w4 ⟨rfl, rfl⟩
          rw [wt, if_neg hpos] at hps
          have hmono : pre C (i + 1) ≤ pre C t := by
            have := pre_le C (i + 1) (t - (i + 1))
            rwa [show i + 1 + (t - (i + 1)) = t by omega] at this
          refine ar64 (by omega) ?_
          refine ar64 (by omega) ?_
          refine round_mk [.int .i64 ((kk + mn 0 (dec1 C i) : Nat) : Int), .int .i64 ((i + 1 : Nat) : Int)] (t - (i + 1)) rfl rfl ⟨i + 1, _, rfl, by omega, rfl, by omega, by omega, hrd3.upd0 hu4, hU3.trans hu4⟩ (by omega)
        · rw [wt, if_pos (by omega)] at hps
          refine ar64 (by omega) ?_
          refine round_mk [.int .i64 kk, .int .i64 ((i + 1 : Nat) : Int)] (t - (i + 1)) rfl rfl ⟨i + 1, _, rfl, by omega, rfl, by omega, by omega, hrd3, hU3⟩ (by omega)
      · have hi : i = t := by omega
        subst hi
        have hne : C.getD i 0 ≠ 0 := by rw [← hC]; exact cntN_head htn
        have hle2 := natD_le_sum C i
        refine cl (less_c hrd3 (by omega) i hne (by omega)) ?_
        rintro r w4 ⟨hr4, hf4, hu4⟩
        refine ar64 (by omega) ?_
        have hdec : dec1 C i = cntN (x.drop (j + 1)) n := by rw [← hC]; exact cntN_cons htn
        refine round_mk [r, .int .i64 kk, .int .i64 ((j + 1 : Nat) : Int)] (x.length - (j + 1)) rfl rfl ⟨j + 1, kk, r, rfl, rfl, ⟨by omega, by rw [← hdec]; exact RdK.of_sl hr4, by omega, hU3.trans hu4⟩⟩ (by omega)
    · have hj : j = x.length := by simp at hlt; omega
      subst hj
      have heq := I.eq
      rw [List.drop_length] at heq
      have heq : k + 0 = rankL n x := heq
      exact ⟨by rw [if_pos hg]; exact ⟨k, rfl, x, n, rfl, hn6, hx20, hxn, hnx, by omega⟩, I.up⟩
  · refine cY hg ?_
    exact ⟨by rw [if_neg hg]; rfl, hu1⟩
end Go.Proofs.Ytjninopakpfklaa
