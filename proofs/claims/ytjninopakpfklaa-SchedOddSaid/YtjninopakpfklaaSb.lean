/- Contracts of the schedules' functions: lists that are the same, counts, how many there are. -/
import Derived.Test.YtjninopakpfklaaSa
import Derived.Test.YtjninopakpfklaaTy
namespace Go.Proofs.Ytjninopakpfklaa
open Go.RowKit
attribute [local irreducible] Instr.loadAt Instr.storeAt Instr.fieldAt Instr.indexAt Instr.sliceAt Instr.buildSlice Instr.box Instr.alloc Builtin.append_ Builtin.len_ Builtin.min_ Builtin.max_ Calls Instr.build Instr.makeSlice binSem convert Instr.index Instr.range Instr.next

theorem same_c {w : World} {va vb : Value} {la lb : List Int} (ha : RdK w .i64 va la) (hb : RdK w .i64 vb lb) : Fn Try.prog 38 #[va, vb] w fun r w' => r = .bool (decide (la = lb)) ∧ Upd [] w w' := by
  obtain ⟨a, ca, rfl, -⟩ := ha.form
  obtain ⟨b, cb, rfl, -⟩ := hb.form
  refine fn_enter Try.func38 rfl rfl ?_
  refine len_sl ?_
  refine len_sl ?_
  refine cd (fun h => ?_) (fun h => ?_)
  · exact ⟨by rw [decide_eq_false (fun e : la = lb => h (by rw [e]))]; rfl, Upd.refl _ _⟩
  have hl : la.length = lb.length := by omega
  refine loop_rule [0, 1] [5] (fun vs w' m => ∃ j : Nat, vs = [.int .i64 j] ∧ j ≤ la.length ∧ m = la.length - j ∧ la.take j = lb.take j ∧ Upd [] w w') rfl [.int .i64 0] la.length rfl ⟨0, rfl, by omega, rfl, by simp, Upd.refl _ _⟩ ?_
  rintro _ w1 m ⟨j, rfl, hj, rfl, ht, hU⟩
  refine len_sl ?_
  refine cd (fun hlt => ?_) (fun hlt => ?_)
  · have hlt : j < la.length := by omega
    obtain ⟨b1, o1, c1, e1, -⟩ := ha.some_ (by omega)
    obtain ⟨b2, o2, c2, e2, -⟩ := hb.some_ (by omega)
    cases e1
    cases e2
    refine draw_all (fun w' => Upd [] w w') (by decide +kernel) hU.drew ?_
    refine q_ix j rfl hlt ?_
    refine q_ld (v := .int .i64 (la.getD j 0)) (fun w' hw' => (ha.upd0 hw').at_ rfl j hlt) ?_
    refine q_ix j rfl (by omega) ?_
    refine q_ld (v := .int .i64 (lb.getD j 0)) (fun w' hw' => (hb.upd0 hw').at_ rfl j (by omega)) ?_
    intro w2 hU2
    refine cd (fun hne => ?_) (fun hne => ?_)
    · exact ⟨by rw [decide_eq_false (fun e : la = lb => hne (by rw [e]))]; rfl, hU2⟩
    · have he : la.getD j 0 = lb.getD j 0 := by simpa using hne
      refine ar64 (by have := ha.form; obtain ⟨_, _, _, h1, h2⟩ := this; simp only [maxLen] at h2; omega) ?_
      refine round_mk [.int .i64 ((j + 1 : Nat) : Int)] (la.length - (j + 1)) rfl rfl ?_ (by omega)
      exact ⟨j + 1, rfl, by omega, rfl, by rw [getD_take la j hlt, getD_take lb j (by omega), ht, he], hU2⟩
  · have hj : j = la.length := by omega
    subst hj
    have : la = lb := by rw [List.take_length, hl, List.take_length] at ht; exact ht
    exact ⟨by rw [decide_eq_true this]; rfl, hU⟩

/-- which counts may be -/
def rightP (l : List Int) : Prop := l.length ≤ 6 ∧ (∀ x ∈ l, 0 ≤ x) ∧ l.sum ≤ 20
instance {l : List Int} : Decidable (rightP l) := by unfold rightP; exact inferInstance
theorem sum_nonneg (l : List Int) (h : ∀ x ∈ l, 0 ≤ x) : 0 ≤ l.sum := by
  induction l with
  | nil => simp
  | cons x l ih =>
    have := h x (by simp)
    have := ih fun y hy => h y (by simp [hy])
    simp only [List.sum_cons]; omega
theorem sum_take_le (l : List Int) (j : Nat) (h : ∀ x ∈ l, 0 ≤ x) : (l.take j).sum ≤ l.sum := by
  have e : l.sum = (l.take j).sum + (l.drop j).sum := by rw [← List.sum_append, List.take_append_drop]
  have := sum_nonneg (l.drop j) fun x hx => h x (List.mem_of_mem_drop hx)
  omega
theorem getD_mem {l : List Int} {j : Nat} (h : j < l.length) : l.getD j 0 ∈ l := by simp [List.getD, h]
theorem right_c {w : World} {v : Value} {l : List Int} (hv : RdK w .i64 v l) : Fn Try.prog 58 #[v] w fun r w' => r = .bool (decide (rightP l)) ∧ w' = w := by
  obtain ⟨a, ca, rfl, -⟩ := hv.form
  refine fn_enter Try.func58 rfl rfl ?_
  refine len_sl ?_
  refine cd (fun h => ?_) (fun h => ?_)
  · exact ⟨by rw [decide_eq_false (fun e : rightP l => by have := e.1; omega)]; rfl, rfl⟩
  refine len_sl ?_
  refine loop_rule [9, 10] [3, 11] (fun vs w' m => ∃ (j : Nat) (s : Int), vs = [.int .i64 s, .int .i64 j] ∧ j ≤ l.length ∧ m = l.length - j ∧ s = 20 - (l.take j).sum ∧ 0 ≤ s ∧ s ≤ 20 ∧ (∀ x ∈ l.take j, 0 ≤ x) ∧ w' = w) rfl [.int .i64 20, .int .i64 0] l.length rfl ⟨0, 20, rfl, by omega, rfl, by simp, by omega, by omega, by simp, rfl⟩ ?_
  rintro _ w1 m ⟨j, s, rfl, hj, rfl, hs, h0, h20, hall, rfl⟩
  refine cd (fun hlt => ?_) (fun hlt => ?_)
  · have hlt : j < l.length := by omega
    obtain ⟨b_, o_, c_, he_, -⟩ := (hv).some_ (by omega)
    cases he_
    refine ix j (by omega) hlt ?_
    refine ld ((hv).at_ rfl j hlt) ?_
    have htk := getD_take l j hlt
    generalize hx : l.getD j 0 = x at *
    have hmem : x ∈ l := by rw [← hx]; exact getD_mem hlt
    refine cd (fun hneg => ?_) (fun hneg => ?_)
    · exact ⟨by rw [decide_eq_false (fun e : rightP l => by have := e.2.1 x hmem; omega)]; rfl, rfl⟩
    refine cd (fun hbig => ?_) (fun hbig => ?_)
    · exact ⟨by rw [decide_eq_false (fun e : rightP l => by
        have h1 := sum_take_le l (j + 1) e.2.1
        rw [htk, List.sum_append] at h1
        have h2 := e.2.2
        simp at h1; omega)]; rfl, rfl⟩
    refine ar64 (by omega) ?_
    refine ar64 (by omega) ?_
    refine round_mk [.int .i64 (s - x), .int .i64 ((j + 1 : Nat) : Int)] (l.length - (j + 1)) rfl rfl ?_ (by omega)
    refine ⟨j + 1, s - x, rfl, by omega, rfl, by rw [htk, List.sum_append]; simp; omega, by omega, by omega, ?_, rfl⟩
    intro y hy
    rw [htk] at hy
    rcases List.mem_append.1 hy with hy | hy
    · exact hall y hy
    · simp at hy; omega
  · have hj : j = l.length := by omega
    subst hj
    rw [List.take_length] at hs hall
    exact ⟨by rw [decide_eq_true (show rightP l from ⟨by omega, hall, by omega⟩)]; rfl, rfl⟩
set_option maxRecDepth 10000 in
theorem lawright_c {w : World} {v : Value} {l : List Int} (hv : RdK w .i64 v l) : Fn Try.prog 35 #[v] w fun r w' => r = .bool (decide (rightP l)) ∧ w' = w := by
  obtain ⟨a, ca, rfl, -⟩ := hv.form
  refine fn_enter Try.func35 rfl rfl ?_
  refine loop_rule [0] [3, 4] (fun vs w' m => ∃ (j : Nat) (s : Int), vs = [.int .i64 s, .int .i64 j] ∧ j ≤ l.length ∧ j ≤ 7 ∧ m = l.length - j ∧ s = (l.take j).sum ∧ 0 ≤ s ∧ s ≤ 20 * j ∧ (∀ x ∈ l.take j, 0 ≤ x) ∧ w' = w) rfl [.int .i64 0, .int .i64 0] l.length rfl ⟨0, 0, rfl, by omega, by omega, rfl, by simp, by omega, by omega, by simp, rfl⟩ ?_
  rintro _ w1 m ⟨j, s, rfl, hj, hj7, rfl, hs, h0, h20, hall, rfl⟩
  refine len_sl ?_
  have done : ¬ (j < l.length ∧ j < 7) → decide (rightP l) = (decide ((l.length : Int) ≤ 6) && decide (s ≤ 20)) := by
    intro hn
    rw [← Bool.decide_and]
    apply decide_eq_decide.2
    constructor
    · intro h
      have h1 := sum_take_le l j h.2.1
      have h2 := h.1; have h3 := h.2.2
      omega
    · rintro ⟨h1, h2⟩
      have hj : j = l.length := by omega
      rw [hj, List.take_length] at hs hall
      exact ⟨by omega, hall, by omega⟩
  refine cd (fun hlt => ?_) (fun hlt => ?_)
  · have hlt : j < l.length := by omega
    refine cd (fun h7 => ?_) (fun h7 => ?_)
    · have h7 : j < 7 := by omega
      clear done
      obtain ⟨b_, o_, c_, he_, -⟩ := (hv).some_ (by omega)
      cases he_
      refine ix j (by omega) hlt ?_
      refine ld ((hv).at_ rfl j hlt) ?_
      have htk := getD_take l j hlt
      have hcell := hv.at_ rfl j hlt
      generalize hx : l.getD j 0 = x at *
      have hmem : x ∈ l := by rw [← hx]; exact getD_mem hlt
      refine cd (fun hneg => ?_) (fun hneg => ?_)
      · exact ⟨by rw [decide_eq_false (fun e : rightP l => by have := e.2.1 x hmem; omega)]; rfl, rfl⟩
      refine ix j rfl hlt ?_
      refine ld hcell ?_
      refine cd (fun hbig => ?_) (fun hbig => ?_)
      · exact ⟨by rw [decide_eq_false (fun e : rightP l => by
          have h1 := sum_take_le l (j + 1) e.2.1
          have h3 := sum_nonneg (l.take j) hall
          rw [htk, List.sum_append] at h1
          have h2 := e.2.2
          simp at h1; omega)]; rfl, rfl⟩
      refine ix j rfl hlt ?_
      refine ld hcell ?_
      refine ar64 (by omega) ?_
      refine ar64 (by omega) ?_
      refine round_mk [.int .i64 (s + x), .int .i64 ((j + 1 : Nat) : Int)] (l.length - (j + 1)) rfl rfl ?_ (by omega)
      refine ⟨j + 1, s + x, rfl, by omega, by omega, rfl, by rw [htk, List.sum_append]; simp; omega, by omega, by omega, ?_, rfl⟩
      intro y hy
      rw [htk] at hy
      rcases List.mem_append.1 hy with hy | hy
      · exact hall y hy
      · simp at hy; omega
    · have d := done (by omega)
      refine len_sl ?_
      refine cd (fun h6 => ?_) (fun h6 => ?_)
      · exact ⟨by rw [d, decide_eq_true h6]; rfl, rfl⟩
      · exact ⟨by rw [d, decide_eq_false h6]; rfl, rfl⟩
  · have d := done (by omega)
    refine len_sl ?_
    refine cd (fun h6 => ?_) (fun h6 => ?_)
    · exact ⟨by rw [d, decide_eq_true h6]; rfl, rfl⟩
    · exact ⟨by rw [d, decide_eq_false h6]; rfl, rfl⟩

def nI (c : List Nat) : List Int := c.map fun (n : Nat) => (n : Int)
@[simp] theorem nI_length (c : List Nat) : (nI c).length = c.length := by simp [nI]
theorem nI_getD (c : List Nat) (i : Nat) : (nI c).getD i 0 = ((c.getD i 0 : Nat) : Int) := by
  by_cases h : i < c.length
  · simp [nI, List.getD, h]
  · simp [nI, List.getD, h]
theorem nI_sum (c : List Nat) : (nI c).sum = ((c.sum : Nat) : Int) := by
  induction c with
  | nil => rfl
  | cons x c ih => simp only [nI, List.map_cons, List.sum_cons] at *; omega
theorem right_nat {l : List Int} (h : rightP l) : ∃ c : List Nat, l = nI c ∧ c.length ≤ 6 ∧ c.sum ≤ 20 := by
  have e : l = nI (l.map Int.toNat) := by
    have h2 := h.2.1
    unfold nI
    rw [List.map_map]
    conv => lhs; rw [← List.map_id l]
    apply List.map_congr_left
    intro x hx
    have := h2 x hx
    simp; omega
  refine ⟨l.map Int.toNat, e, by rw [List.length_map]; exact h.1, ?_⟩
  have := h.2.2
  rw [e, nI_sum] at this
  omega
theorem nat_right {c : List Nat} (h1 : c.length ≤ 6) (h2 : c.sum ≤ 20) : rightP (nI c) := ⟨by simpa using h1, by intro x hx; simp [nI] at hx; obtain ⟨y, -, rfl⟩ := hx; omega, by rw [nI_sum]; omega⟩
theorem choose_c (n k : Nat) (hk : k ≤ n) (hn : n ≤ 20) (w : World) : Fn Try.prog 75 #[.int .i64 n, .int .i64 k] w fun r w' => r = .int .i64 (ch n k) ∧ w' = w := by
  refine fn_enter Try.func75 rfl rfl ?_
  refine loop_rule [0, 7] [5, 8] (fun vs w' m => ∃ (j : Nat), vs = [.int .i64 (ch n j), .int .i64 j] ∧ j ≤ k ∧ m = k - j ∧ w' = w) rfl [.int .i64 1, .int .i64 0] k rfl ⟨0, by rw [ch_zero]; rfl, by omega, rfl, rfl⟩ ?_
  rintro _ w1 m ⟨j, rfl, hj, rfl, rfl⟩
  have hle := ch_le n j
  have h20 : 2 ^ n ≤ 2 ^ 20 := Nat.pow_le_pow_right (by omega) hn
  have h20' : (2 : Nat) ^ 20 = 1048576 := by decide
  refine cd (fun hlt => ?_) (fun hlt => ?_)
  · refine ar64 (by omega) ?_
    have hmul : ((ch n j : Nat) : Int) * ((n : Int) - (j : Int)) = ((ch n j * (n - j) : Nat) : Int) := by rw [Int.natCast_mul, Int.ofNat_sub (by omega)]
    have hb : ch n j * (n - j) ≤ 1048576 * 20 := Nat.mul_le_mul (by omega) (by omega)
    refine val ((ch n j * (n - j) : Nat) : Int) (by rw [hmul]; exact IntWalk.i64_in _ (by omega)) ?_
    refine ar64 (by omega) ?_
    refine qu (by omega) ?_
    have hs := ch_step n j
    have hle2 := ch_le n (j + 1)
    refine val ((ch n (j + 1) : Nat) : Int) (by
      rw [Int.tdiv_eq_ediv_of_nonneg (by omega), show ((j : Int) + 1) = ((j + 1 : Nat) : Int) by omega, ← Int.natCast_ediv, hs]
      exact IntWalk.i64_in _ (by omega)) ?_
    refine ar64 (by omega) ?_
    refine round_mk [.int .i64 ((ch n (j + 1) : Nat) : Int), .int .i64 ((j + 1 : Nat) : Int)] (k - (j + 1)) rfl rfl ?_ (by omega)
    exact ⟨j + 1, rfl, by omega, rfl, rfl⟩
  · have : j = k := by omega
    subst this
    exact ⟨rfl, rfl⟩
theorem sum_take_nat (c : List Nat) (j : Nat) : (c.take j).sum ≤ c.sum := by
  have e : c.sum = (c.take j).sum + (c.drop j).sum := by rw [← List.sum_append, List.take_append_drop]
  omega
theorem natD_take (l : List Nat) (j : Nat) (h : j < l.length) : l.take (j + 1) = l.take j ++ [l.getD j 0] := by
  rw [List.take_add_one]; simp [List.getD, h]
theorem natD_drop (l : List Nat) (j : Nat) (h : j < l.length) : l.drop j = l.getD j 0 :: l.drop (j + 1) := by
  rw [List.drop_eq_getElem_cons h]; simp [List.getD, h]
theorem many_c {w : World} {v : Value} {c : List Nat} (hv : RdK w .i64 v (nI c)) (h6 : c.length ≤ 6) (h20 : c.sum ≤ 20) : Fn Try.prog 59 #[v] w fun r w' => r = .int .i64 (mn 0 c) ∧ w' = w := by
  obtain ⟨a, ca, rfl, -⟩ := hv.form
  refine fn_enter Try.func59 rfl rfl ?_
  refine len_sl ?_
  refine loop_rule [7, 8] [3, 4, 9] (fun vs w' m => ∃ (j p : Nat), vs = [.int .i64 p, .int .i64 ((c.take j).sum : Nat), .int .i64 j] ∧ j ≤ c.length ∧ m = c.length - j ∧ p * mn (c.take j).sum (c.drop j) = mn 0 c ∧ w' = w) rfl [.int .i64 1, .int .i64 0, .int .i64 0] c.length rfl ⟨0, 1, rfl, by omega, rfl, by simp, rfl⟩ ?_
  rintro _ w1 m ⟨j, p, rfl, hj, rfl, hp, rfl⟩
  have hsm := mn_small h6 h20
  refine cd (fun hlt => ?_) (fun hlt => ?_)
  · have hlt : j < c.length := by simpa using hlt
    have hlt' : j < (nI c).length := by simpa using hlt
    obtain ⟨b_, o_, c_, he_, -⟩ := (hv).some_ (by omega)
    cases he_
    refine ix j (by omega) hlt' ?_
    refine ld ((hv).at_ rfl j hlt') ?_
    rw [nI_getD]
    have htk := natD_take c j hlt
    have hs1 := sum_take_nat c (j + 1)
    rw [htk, List.sum_append] at hs1
    rw [natD_drop c j hlt] at hp
    generalize hx : c.getD j 0 = x at *
    generalize hS : (c.take j).sum = S at *
    have hs1 : S + x ≤ c.sum := by simpa using hs1
    refine ar64 (by omega) ?_
    rw [show ((S : Int) + (x : Int)) = ((S + x : Nat) : Int) by omega]
    refine cl (choose_c (S + x) x (by omega) (by omega) w1) ?_
    rintro _ _ ⟨rfl, rfl⟩
    have hp : p * (ch (S + x) x * mn (S + x) (c.drop (j + 1))) = mn 0 c := hp
    have hpos := mn_pos (S + x) (c.drop (j + 1))
    have hb : p * ch (S + x) x ≤ mn 0 c := by rw [← hp, ← Nat.mul_assoc]; exact Nat.le_mul_of_pos_right _ hpos
    refine val ((p * ch (S + x) x : Nat) : Int) (by rw [← Int.natCast_mul]; exact IntWalk.i64_in _ (by omega)) ?_
    refine ar64 (by omega) ?_
    have hS1 : (c.take (j + 1)).sum = S + x := by rw [htk, List.sum_append, hS]; simp
    refine round_mk [.int .i64 ((p * ch (S + x) x : Nat) : Int), .int .i64 (((c.take (j + 1)).sum : Nat) : Int), .int .i64 ((j + 1 : Nat) : Int)] (c.length - (j + 1)) rfl (by rw [hS1]; rfl) ?_ (by omega)
    refine ⟨j + 1, _, rfl, by omega, rfl, ?_, rfl⟩
    rw [hS1, ← hp, Nat.mul_assoc]
  · have hj : j = c.length := by simp at hlt; omega
    subst hj
    rw [List.drop_length] at hp
    have hp : p * 1 = mn 0 c := hp
    rw [Nat.mul_one] at hp
    subst hp
    exact ⟨rfl, rfl⟩
theorem Many_ok {w : World} {v : Value} {c : List Nat} (hv : RdK w .i64 v (nI c)) (h6 : c.length ≤ 6) (h20 : c.sum ≤ 20) : Fn Try.prog 33 #[v] w fun r w' => r = .tuple #[.int .i64 (mn 0 c), .int .i64 0] ∧ w' = w := by
  refine fn_enter Try.func33 rfl rfl ?_
  refine cl (right_c hv) ?_
  rintro _ _ ⟨rfl, rfl⟩
  refine cN (by simpa using nat_right h6 h20) ?_
  refine cl (many_c hv h6 h20) ?_
  rintro _ _ ⟨rfl, rfl⟩
  exact ⟨rfl, rfl⟩
theorem Many_bad {w : World} {v : Value} {l : List Int} (hv : RdK w .i64 v l) (h : ¬ rightP l) : Fn Try.prog 33 #[v] w fun r w' => r = .tuple #[.int .i64 0, .int .i64 1] ∧ w' = w := by
  refine fn_enter Try.func33 rfl rfl ?_
  refine cl (right_c hv) ?_
  rintro _ _ ⟨rfl, rfl⟩
  refine cY h ?_
  exact ⟨rfl, rfl⟩
theorem total_c {w : World} {v : Value} {c : List Nat} (hv : RdK w .i64 v (nI c)) (h20 : c.sum ≤ 4294967296) : Fn Try.prog 61 #[v] w fun r w' => r = .int .i64 (c.sum : Nat) ∧ w' = w := by
  obtain ⟨a, ca, rfl, -, hmax⟩ := hv.form
  refine fn_enter Try.func61 rfl rfl ?_
  refine len_sl ?_
  refine loop_rule [6, 7] [3, 8] (fun vs w' m => ∃ (j : Nat), vs = [.int .i64 ((c.take j).sum : Nat), .int .i64 j] ∧ j ≤ c.length ∧ m = c.length - j ∧ w' = w) rfl [.int .i64 0, .int .i64 0] c.length rfl ⟨0, rfl, by omega, rfl, rfl⟩ ?_
  rintro _ w1 m ⟨j, rfl, hj, rfl, rfl⟩
  refine cd (fun hlt => ?_) (fun hlt => ?_)
  · have hlt : j < c.length := by simpa using hlt
    have hlt' : j < (nI c).length := by simpa using hlt
    have hle : c.length ≤ 9223372036854775807 := by
      obtain ⟨_, _, _, h1, h2⟩ := hv.form
      simp only [maxLen, nI_length] at h1 h2
      omega
    obtain ⟨b_, o_, c_, he_, -⟩ := (hv).some_ (by omega)
    cases he_
    refine ix j (by omega) hlt' ?_
    refine ld ((hv).at_ rfl j hlt') ?_
    rw [nI_getD]
    have htk := natD_take c j hlt
    have hs1 := sum_take_nat c (j + 1)
    rw [htk, List.sum_append] at hs1
    have hs1 : (c.take j).sum + c.getD j 0 ≤ c.sum := by simpa using hs1
    refine ar64 (by omega) ?_
    refine ar64 (by omega) ?_
    refine round_mk [.int .i64 (((c.take (j + 1)).sum : Nat) : Int), .int .i64 ((j + 1 : Nat) : Int)] (c.length - (j + 1)) rfl (by rw [htk, List.sum_append]; simp; rfl) ?_ (by omega)
    exact ⟨j + 1, rfl, by omega, rfl, rfl⟩
  · have hj : j = c.length := by simp at hlt; omega
    subst hj
    rw [List.take_length]
    exact ⟨rfl, rfl⟩
theorem clone_c {w : World} {v : Value} {l : List Int} (hv : RdK w .i64 v l) (hl : l.length < 4294967296) : Fn Try.prog 60 #[v] w fun r w' => Sl w' 3 1 r l.length (l.map (.int .i64)) ∧ Fresh w r ∧ Upd [] w w' := by
  obtain ⟨a, ca, rfl, hca, -⟩ := hv.form
  refine fn_enter Try.func60 rfl rfl ?_
  refine sl_eq ?_
  cases a with
  | none =>
    have hl : l = [] := by
      rcases Nat.eq_zero_or_pos l.length with h | h
      · exact List.eq_nil_of_length_eq_zero h
      · obtain ⟨b, o, c, he, -⟩ := hv.some_ h
        cases he
    subst hl
    exact ⟨Sl.nil_ _ _ _, Fresh.nil_ _, Upd.refl _ _⟩
  | some p =>
    refine bs #[] (fun _ => by kernel_rfl) fun w1 hb1 hu1 hs1 => ?_
    have hs := Sl.lit (n := 0) hb1 rfl (by decide)
    refine apx hs (hv.upd0 hu1).rd one_ints (by simp only [maxLen]; omega) (by omega) fun v2 w2 hs2 hG2 => ?_
    obtain ⟨hU, hf⟩ := hG2.from_ hu1 (fun g hg => by
      have : w.heap.size = g := by simpa [Value.ownBlock] using hg
      omega)
    exact ⟨by simpa using hs2, hf, hU⟩
theorem dec1_nI (c : List Nat) (t : Nat) (h : c.getD t 0 ≠ 0) : ((nI c).map (Value.int .i64)).set t (.int .i64 (((c.getD t 0 : Nat) : Int) - 1)) = (nI (dec1 c t)).map (.int .i64) := by
  unfold dec1 nI
  rw [List.map_map, List.map_map, List.map_set]
  congr 1
  show Value.int .i64 _ = Value.int .i64 ((c.getD t 0 - 1 : Nat) : Int)
  congr 1; omega
theorem less_c {w : World} {v : Value} {c : List Nat} (hv : RdK w .i64 v (nI c)) (hl : c.length < 4294967296) (t : Nat) (ht : c.getD t 0 ≠ 0) (hb : c.getD t 0 < 4294967296) : Fn Try.prog 63 #[v, .int .i64 t] w fun r w' => Sl w' 3 1 r c.length ((nI (dec1 c t)).map (.int .i64)) ∧ Fresh w r ∧ Upd [] w w' := by
  have htl := getD_lt_len ht
  refine fn_enter Try.func63 rfl rfl ?_
  refine cl (clone_c hv (by simpa using hl)) ?_
  rintro r w1 ⟨hs1, hf1, hu1⟩
  obtain ⟨g, o, cap, rfl, hcap⟩ := hs1.some_ (by simp; omega)
  refine ix t rfl (by simpa using htl) ?_
  refine ld (v := .int .i64 ((c.getD t 0 : Nat) : Int)) (by rw [(RdK.of_sl hs1).at_ rfl t (by simpa using htl), nI_getD]) ?_
  refine ar64 (by omega) ?_
  refine ix t rfl (by simpa using htl) ?_
  refine stS hs1 rfl (by simpa using htl) rfl fun w2 hs2 hu2 hz2 => ?_
  rw [dec1_nI c t ht] at hs2
  exact ⟨by simpa using hs2, hf1, hu1.step hu2 (by simpa using hf1 g rfl)⟩
end Go.Proofs.Ytjninopakpfklaa
