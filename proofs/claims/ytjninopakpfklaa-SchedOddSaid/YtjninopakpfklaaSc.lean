/- Contracts of the schedules' functions: the k-th interleaving, rounds, blocks, weaves. -/
import Derived.Test.YtjninopakpfklaaSb
import Derived.Test.YtjninopakpfklaaV13
namespace Go.Proofs.Ytjninopakpfklaa
open Go.RowKit
attribute [local irreducible] Instr.loadAt Instr.storeAt Instr.fieldAt Instr.indexAt Instr.sliceAt Instr.buildSlice Instr.box Instr.alloc Builtin.append_ Builtin.len_ Builtin.min_ Builtin.max_ Calls Instr.build Instr.makeSlice binSem convert Instr.index Instr.range Instr.next

theorem natD_le_sum : ∀ (c : List Nat) (t : Nat), c.getD t 0 ≤ c.sum
  | [], t => by simp [List.getD]
  | k :: r, 0 => by show k ≤ k + r.sum; omega
  | k :: r, t + 1 => by
    have := natD_le_sum r t
    have h1 : (k :: r).getD (t + 1) 0 = r.getD t 0 := by simp [List.getD]
    rw [h1]; show _ ≤ k + r.sum; omega
theorem first_c {w : World} {v : Value} {c : List Nat} (hv : RdK w .i64 v (nI c)) (h6 : c.length ≤ 6) (h20 : c.sum ≤ 20) (k : Nat) (hk : k < mn 0 c) (hpos : 0 < c.sum) :
    Fn Try.prog 62 #[v, .int .i64 k] w fun r w' => ∃ t k' : Nat, r = .tuple #[.int .i64 t, .int .i64 k'] ∧ c.getD t 0 ≠ 0 ∧ pre c t + k' = k ∧ k' < mn 0 (dec1 c t) ∧ Upd [] w w' := by
  obtain ⟨a, ca, rfl, -⟩ := hv.form
  refine fn_enter Try.func62 rfl rfl ?_
  refine len_sl ?_
  have hsm := mn_small h6 h20
  refine loop_rule [0, 9, 10] [1, 11] (fun vs w' m => ∃ (j kk : Nat), vs = [.int .i64 kk, .int .i64 j] ∧ j ≤ c.length ∧ m = c.length - j ∧ pre c j + kk = k ∧ Upd [] w w') rfl [.int .i64 k, .int .i64 0] c.length rfl ⟨0, k, rfl, by omega, rfl, by simp [pre], Upd.refl _ _⟩ ?_
  rintro _ w1 m ⟨j, kk, rfl, hj, rfl, hp, hU⟩
  refine cd (fun hlt => ?_) (fun hlt => ?_)
  · have hlt : j < c.length := by simpa using hlt
    have hlt' : j < (nI c).length := by simpa using hlt
    obtain ⟨b_, o_, c_, he_, -⟩ := (hv.upd0 hU).some_ (by omega)
    cases he_
    refine ix j (by omega) hlt' ?_
    refine ld ((hv.upd0 hU).at_ rfl j hlt') ?_
    rw [nI_getD]
    refine cd (fun hz => ?_) (fun hz => ?_)
    · refine ar64 (by omega) ?_
      refine round_mk [.int .i64 kk, .int .i64 ((j + 1 : Nat) : Int)] (c.length - (j + 1)) rfl rfl ?_ (by omega)
      refine ⟨j + 1, kk, rfl, by omega, rfl, ?_, hU⟩
      rw [pre_succ, wt, if_pos (by omega)]; omega
    · have hz : c.getD j 0 ≠ 0 := by omega
      have hle := natD_le_sum c j
      refine cl (less_c (hv.upd0 hU) (by omega) j hz (by omega)) ?_
      rintro r w2 ⟨hr, hf, hu2⟩
      have hd := dec1_sum c j hz
      refine cl (many_c (RdK.of_sl hr) (by rw [dec1_len]; exact h6) (by omega)) ?_
      rintro _ w2 ⟨rfl, rfl⟩
      have hU2 := hU.trans hu2
      refine cd (fun hin => ?_) (fun hin => ?_)
      · exact ⟨j, kk, rfl, hz, hp, by omega, hU2⟩
      · refine val ((kk - mn 0 (dec1 c j) : Nat) : Int) (by rw [Int.ofNat_sub (by omega)]; exact IntWalk.i64_in _ (by omega)) ?_
        refine ar64 (by omega) ?_
        refine round_mk [.int .i64 ((kk - mn 0 (dec1 c j) : Nat) : Int), .int .i64 ((j + 1 : Nat) : Int)] (c.length - (j + 1)) rfl rfl ?_ (by omega)
        refine ⟨j + 1, _, rfl, by omega, rfl, ?_, hU2⟩
        rw [pre_succ, wt, if_neg hz]; omega
  · have hj : j = c.length := by simp at hlt; omega
    subst hj
    rw [pre_all c hpos] at hp
    omega
structure NthI (w w' : World) (c : List Nat) (k j kk : Nat) (x left : List Nat) (lv rv : Value) : Prop where
  le : j ≤ c.sum
  rd : Sl w' 3 1 rv left.length ((nI left).map (.int .i64))
  len : left.length = c.length
  sum : left.sum + j = c.sum
  small : kk < mn 0 left
  sl : Sl w' 3 1 lv j ((nI x).map (.int .i64))
  fr : Fresh w lv
  dj : ∀ g, rv.ownBlock = some g → lv.ownBlock ≠ some g
  at_ : ∀ y, (inter (c.sum - j) left)[kk]? = some y → (inter c.sum c)[k]? = some (x ++ y)
  up : Upd [] w w'
set_option maxRecDepth 10000 in
theorem nth_c {w : World} {v : Value} {c : List Nat} (hv : RdK w .i64 v (nI c)) (h6 : c.length ≤ 6) (h20 : c.sum ≤ 20) (k : Int) :
    Fn Try.prog 34 #[v, .int .i64 k] w fun r w' => (if 0 ≤ k ∧ k < mn 0 c then ∃ x rv, r = .tuple #[rv, .int .i64 0] ∧ RdK w' .i64 rv (nI x) ∧ Fresh w rv ∧ (inter c.sum c)[k.toNat]? = some x else r = .tuple #[.slice none 0 0, .int .i64 2]) ∧ Upd [] w w' := by
  refine fn_enter Try.func34 rfl rfl ?_
  refine cl (right_c hv) ?_
  rintro _ w ⟨rfl, rfl⟩
  refine cN (by simpa using nat_right h6 h20) ?_
  refine cd (fun hneg => ?_) (fun hneg => ?_)
  · exact ⟨by rw [if_neg (by omega)]; rfl, Upd.refl _ _⟩
  refine cl (many_c hv h6 h20) ?_
  rintro _ w ⟨rfl, rfl⟩
  refine cd (fun hbig => ?_) (fun hbig => ?_)
  · exact ⟨by rw [if_neg (by omega)]; rfl, Upd.refl _ _⟩
  obtain ⟨kn, rfl⟩ := Int.eq_ofNat_of_zero_le (show 0 ≤ k by omega)
  refine cl (clone_c hv (by simp; omega)) ?_
  rintro r1 w1 ⟨hs1, hf1, hu1⟩
  refine cl (total_c (hv.upd0 hu1) (by omega)) ?_
  rintro _ w1 ⟨rfl, rfl⟩
  rw [nI_length] at hs1
  refine loop_rule [26] [1, 6, 7, 27] (fun vs w' m => ∃ (j kk : Nat) (x left : List Nat) (lv rv : Value), vs = [.int .i64 kk, lv, rv, .int .i64 j] ∧ m = c.sum - j ∧ NthI w w' c kn j kk x left lv rv) rfl [.int .i64 kn, .slice none 0 0, r1, .int .i64 0] c.sum rfl
    ⟨0, kn, [], c, _, _, rfl, rfl, ⟨by omega, hs1, rfl, by omega, by omega, Sl.nil_ _ _ _, Fresh.nil_ _, by simp [Value.ownBlock], fun y h => h, hu1⟩⟩ ?_
  rintro _ w2 m ⟨j, kk, x, left, lv, rv, rfl, rfl, I⟩
  have hle := I.le
  have hlen := I.len
  have hsum := I.sum
  refine cd (fun hlt => ?_) (fun hlt => ?_)
  · have hlt : j < c.sum := by omega
    refine cl (first_c (RdK.of_sl I.rd) (by omega) (by omega) kk I.small (by omega)) ?_
    rintro _ w3 ⟨t, k', rfl, ht, hpre, hk', hu3⟩
    have htl := getD_lt_len ht
    have hlv3 := I.sl.upd hu3 (by simp)
    have hrv3 := I.rd.upd hu3 (by simp)
    refine bs #[.int .i64 t] (fun _ => by kernel_rfl) fun w4 hb4 hu4 hs4 => ?_
    refine apg (hlv3.upd hu4 (by simp)) hb4 rfl rfl (by decide) (by simp only [maxLen]; omega) (by omega) fun lv5 w5 hs5 hG5 => ?_
    have hrv4 := hrv3.upd hu4 (by simp)
    have hU4 := (I.up.trans hu3).trans hu4
    obtain ⟨hU5, hf5⟩ := hG5.from_ hU4 I.fr
    have hrv5 := hrv4.upd hG5.up (fun g hg => by simpa using I.dj g hg)
    have hle2 := natD_le_sum left t
    refine cl (less_c (RdK.of_sl hrv5) (by omega) t ht (by omega)) ?_
    rintro rv6 w6 ⟨hrv6, hf6, hu6⟩
    refine ar64 (by omega) ?_
    have hd := dec1_sum left t ht
    refine round_mk [.int .i64 k', lv5, rv6, .int .i64 ((j + 1 : Nat) : Int)] (c.sum - (j + 1)) rfl rfl ⟨j + 1, k', x ++ [t], dec1 left t, lv5, rv6, rfl, rfl, ⟨by omega, by rw [dec1_len]; exact hrv6, by rw [dec1_len]; exact hlen, by omega, hk', ?_, hf5, ?_, ?_, hU5.trans hu6⟩⟩ (by omega)
    · have := hs5.upd hu6 (by simp)
      simpa [nI] using this
    · intro g hg hg2
      have h1 := hf6 g hg
      have h2 := hs5.lt g hg2
      omega
    · intro y hy
      have h1 := inter_at (c := left) (n := c.sum - (j + 1)) (by omega) ht hy
      rw [hpre, show c.sum - (j + 1) + 1 = c.sum - j by omega] at h1
      have := I.at_ _ h1
      simpa using this
  · have hj : j = c.sum := by omega
    subst hj
    have h0 : left.sum = 0 := by omega
    have hs := I.small
    rw [mn_zero left h0] at hs
    have hk0 : kk = 0 := by omega
    subst hk0
    have := I.at_ [] (by rw [Nat.sub_self]; rfl)
    rw [List.append_nil] at this
    exact ⟨by rw [if_pos (by omega)]; exact ⟨x, lv, rfl, RdK.of_sl I.sl, I.fr, this⟩, I.up⟩
theorem nth_bad {w : World} {v : Value} {l : List Int} (hv : RdK w .i64 v l) (h : ¬ rightP l) (k : Int) : Fn Try.prog 34 #[v, .int .i64 k] w fun r w' => r = .tuple #[.slice none 0 0, .int .i64 1] ∧ w' = w := by
  refine fn_enter Try.func34 rfl rfl ?_
  refine cl (right_c hv) ?_
  rintro _ w ⟨rfl, rfl⟩
  refine cY h ?_
  exact ⟨rfl, rfl⟩
set_option maxRecDepth 10000 in
theorem lives35 (w : World) : Fn Try.prog 36 #[] w fun r w' => r = .bool true ∧ Upd [] w w' := by
  refine fn_enter Try.func36 rfl rfl ?_
  refine bs #[.int .i64 2, .int .i64 1] (fun _ => by kernel_rfl) fun w1 hb1 hu1 hs1 => ?_
  have h1 : RdK w1 .i64 _ (nI [2, 1]) := RdK.of_sl (show Sl w1 3 1 _ 2 ((nI [2, 1]).map (.int .i64)) from Sl.lit hb1 rfl (by decide))
  refine cl (Many_ok h1 (by decide) (by decide)) ?_
  rintro _ w1 ⟨rfl, rfl⟩
  refine bs #[.int .i64 2, .int .i64 1] (fun _ => by kernel_rfl) fun w2 hb2 hu2 hs2 => ?_
  have h2 : RdK w2 .i64 _ (nI [2, 1]) := RdK.of_sl (show Sl w2 3 1 _ 2 ((nI [2, 1]).map (.int .i64)) from Sl.lit hb2 rfl (by decide))
  refine cl (nth_c h2 (by decide) (by decide) 1) ?_
  rintro r w3 ⟨hr, hu3⟩
  rw [if_pos (by decide)] at hr
  obtain ⟨x, rv, rfl, hrd, -, hx⟩ := hr
  have hx : some [0, 1, 0] = some x := hx
  cases hx
  rw [show ((mn 0 [2, 1] : Nat) : Int) = 3 from rfl]
  refine bs #[.int .i64 0, .int .i64 1, .int .i64 0] (fun _ => by kernel_rfl) fun w4 hb4 hu4 hs4 => ?_
  have h4 : RdK w4 .i64 _ (nI [0, 1, 0]) := RdK.of_sl (show Sl w4 3 1 _ 3 ((nI [0, 1, 0]).map (.int .i64)) from Sl.lit hb4 rfl (by decide))
  refine cl (same_c (hrd.upd0 hu4) h4) ?_
  rintro _ w5 ⟨rfl, hu5⟩
  exact ⟨rfl, (((hu1.trans hu2).trans hu3).trans hu4).trans hu5⟩

/-- picks round and round -/
def roundL (t n : Int) : List Int := if 1 ≤ t ∧ t ≤ 6 ∧ 0 ≤ n ∧ n ≤ 60000 then (List.range n.toNat).map fun (i : Nat) => (i : Int).tmod t else []
def roundP (t : Int) (n j : Nat) : List Int := (List.range n).map fun (i : Nat) => if i < j then (i : Int).tmod t else 0
theorem roundP_set (t : Int) (n j : Nat) (h : j < n) : ((roundP t n j).map (Value.int .i64)).set j (.int .i64 ((j : Int).tmod t)) = (roundP t n (j + 1)).map (.int .i64) := by
  apply List.ext_getElem
  · simp [roundP]
  · intro i h1 h2
    rw [List.getElem_set]
    simp only [roundP, List.getElem_map, List.getElem_range]
    by_cases hij : j = i
    · subst hij; rw [if_pos rfl, if_pos (by omega)]
    · rw [if_neg hij]
      by_cases hi : i < j
      · rw [if_pos hi, if_pos (by omega)]
      · rw [if_neg hi, if_neg (by omega)]
theorem round_c (t n : Int) (w : World) : Fn Try.prog 46 #[.int .i64 t, .int .i64 n] w fun r w' => RdK w' .i64 r (roundL t n) ∧ Upd [] w w' := by
  refine fn_enter Try.func46 rfl rfl ?_
  have none_ : ¬ (1 ≤ t ∧ t ≤ 6 ∧ 0 ≤ n ∧ n ≤ 60000) → RdK w .i64 (.slice none 0 0) (roundL t n) := fun h => by rw [roundL, if_neg h]; exact RdK.nil_ _ _
  refine cd (fun h => ?_) (fun h1 => ?_)
  · exact ⟨none_ (by omega), Upd.refl _ _⟩
  refine cd (fun h => ?_) (fun h2 => ?_)
  · exact ⟨none_ (by omega), Upd.refl _ _⟩
  refine cd (fun h => ?_) (fun h3 => ?_)
  · exact ⟨none_ (by omega), Upd.refl _ _⟩
  refine cd (fun h => ?_) (fun h4 => ?_)
  · exact ⟨none_ (by omega), Upd.refl _ _⟩
  clear none_
  obtain ⟨k, rfl⟩ := Int.eq_ofNat_of_zero_le (show 0 ≤ n by omega)
  refine mks k rfl rfl (by omega) (by omega) fun w1 hb1 hu1 hs1 => ?_
  have hsl : Sl w1 3 1 (.slice (some ⟨w.heap.size, 0, none⟩) k k) k ((roundP t k 0).map (.int .i64)) := by
    have := Sl.lit (n := k) hb1 (by rw [made_row1]; simp) (by simp only [maxLen]; omega)
    rw [made_row1] at this
    have e : (roundP t k 0).map (Value.int .i64) = List.replicate k (.int .i64 0) := by
      apply List.ext_getElem
      · simp [roundP]
      · intro i h1 h2; simp [roundP]
    rw [e]; exact this
  refine len_sl ?_
  refine loop_rule [0, 5, 24] [25] (fun vs w' m => ∃ (j : Nat), vs = [.int .i64 j] ∧ j ≤ k ∧ m = k - j ∧ Sl w' 3 1 (.slice (some ⟨w.heap.size, 0, none⟩) k k) k ((roundP t k j).map (.int .i64)) ∧ Upd [] w w') rfl [.int .i64 0] k rfl ⟨0, rfl, by omega, rfl, hsl, hu1⟩ ?_
  rintro _ w2 m ⟨j, rfl, hj, rfl, hs, hU⟩
  refine cd (fun hlt => ?_) (fun hlt => ?_)
  · have hlt : j < k := by omega
    refine rm (by omega) ?_
    refine val ((j : Int).tmod t) rfl ?_
    refine ix j rfl hlt ?_
    refine stS hs rfl hlt rfl fun w3 hs3 hu3 hz3 => ?_
    rw [roundP_set t k j hlt] at hs3
    refine ar64 (by omega) ?_
    refine round_mk [.int .i64 ((j + 1 : Nat) : Int)] (k - (j + 1)) rfl rfl ⟨j + 1, rfl, by omega, rfl, hs3, hU.step hu3 (by simp)⟩ (by omega)
  · have hj : j = k := by omega
    subst hj
    refine ⟨?_, hU⟩
    rw [roundL, if_pos (by omega)]
    have e : (List.range ((j : Int)).toNat).map (fun (i : Nat) => (i : Int).tmod t) = roundP t j j := by
      unfold roundP
      rw [Int.toNat_natCast]
      apply List.map_congr_left
      intro i hi
      rw [if_pos (by simpa using hi)]
    rw [e]
    exact RdK.of_sl hs
/-- thread by thread -/
def blkP (l : List Int) (j : Nat) : List Int := (List.range j).flatMap fun (i : Nat) => List.replicate (l.getD i 0).toNat (i : Int)
def blocksL (l : List Int) : List Int := if rightP l then blkP l l.length else []
theorem blkP_succ (l : List Int) (j : Nat) : blkP l (j + 1) = blkP l j ++ List.replicate (l.getD j 0).toNat (j : Int) := by simp [blkP, List.range_succ]
theorem right_elem {l : List Int} (h : rightP l) (i : Nat) : 0 ≤ l.getD i 0 ∧ l.getD i 0 ≤ 20 := by
  by_cases hi : i < l.length
  · have h1 := h.2.1 _ (getD_mem hi)
    have h2 := sum_take_le l (i + 1) h.2.1
    have h3 := sum_nonneg (l.take i) fun x hx => h.2.1 x (List.mem_of_mem_take hx)
    rw [getD_take l i hi, List.sum_append] at h2
    have h4 := h.2.2
    simp only [List.sum_cons, List.sum_nil] at h2
    omega
  · rw [List.getD_eq_getElem?_getD, List.getElem?_eq_none (by omega)]; simp
theorem blkP_len {l : List Int} (h : rightP l) : ∀ j, (blkP l j).length ≤ 20 * j
  | 0 => by simp [blkP]
  | j + 1 => by
    rw [blkP_succ, List.length_append, List.length_replicate]
    have := blkP_len h j
    have := right_elem h j
    omega
theorem rep_succ (k : Nat) (x : Int) : List.replicate (k + 1) x = List.replicate k x ++ [x] := by rw [List.replicate_succ']
theorem blocks_c {w : World} {v : Value} {l : List Int} (hv : RdK w .i64 v l) : Fn Try.prog 47 #[v] w fun r w' => RdK w' .i64 r (blocksL l) ∧ Upd [] w w' := by
  obtain ⟨a, ca, rfl, -⟩ := hv.form
  refine fn_enter Try.func47 rfl rfl ?_
  refine cl (right_c hv) ?_
  rintro _ w ⟨rfl, rfl⟩
  refine cd (fun h => ?_) (fun h => ?_)
  · have h : ¬ rightP l := h
    exact ⟨by rw [blocksL, if_neg h]; exact RdK.nil_ _ _, Upd.refl _ _⟩
  have h : rightP l := by simpa using h
  have h6 := h.1
  rw [blocksL, if_pos h]
  refine len_sl ?_
  refine loop_rule [9, 10] [3, 11] (fun vs w' m => ∃ (j : Nat) (lv : Value), vs = [lv, .int .i64 j] ∧ j ≤ l.length ∧ m = l.length - j ∧ Sl w' 3 1 lv (blkP l j).length ((blkP l j).map (.int .i64)) ∧ Fresh w lv ∧ Upd [] w w') rfl [.slice none 0 0, .int .i64 0] l.length rfl ⟨0, _, rfl, by omega, rfl, Sl.nil_ _ _ _, Fresh.nil_ _, Upd.refl _ _⟩ ?_
  rintro _ w1 m ⟨j, lv, rfl, hj, rfl, hs, hf, hU⟩
  have hbl := blkP_len h j
  refine cd (fun hlt => ?_) (fun hlt => ?_)
  · have hlt : j < l.length := by omega
    obtain ⟨b_, o_, c_, he_, -⟩ := (hv.upd0 hU).some_ (by omega)
    cases he_
    refine ix j (by omega) hlt ?_
    refine ld ((hv.upd0 hU).at_ rfl j hlt) ?_
    have hx := right_elem h j
    have hsucc := blkP_succ l j
    generalize l.getD j 0 = x at *
    obtain ⟨n, rfl⟩ := Int.eq_ofNat_of_zero_le hx.1
    rw [Int.toNat_natCast] at hsucc
    refine loop_rule [4, 9, 10, 11, 16] [3, 17] (fun vs w' m => ∃ (k : Nat) (lv : Value), vs = [lv, .int .i64 k] ∧ k ≤ n ∧ m = n - k ∧ Sl w' 3 1 lv (blkP l j ++ List.replicate k (j : Int)).length ((blkP l j ++ List.replicate k (j : Int)).map (.int .i64)) ∧ Fresh w lv ∧ Upd [] w w') rfl [lv, .int .i64 0] n rfl ⟨0, lv, rfl, by omega, rfl, by simpa using hs, hf, hU⟩ ?_
    rintro _ w2 m ⟨k, lv, rfl, hk, rfl, hs, hf, hU⟩
    have hlen : (blkP l j ++ List.replicate k (j : Int)).length ≤ 20 * j + 20 := by rw [List.length_append, List.length_replicate]; omega
    refine cd (fun hlt2 => ?_) (fun hlt2 => ?_)
    · refine bs #[.int .i64 j] (fun _ => by kernel_rfl) fun w3 hb3 hu3 hs3 => ?_
      refine apg (hs.upd hu3 (by simp)) hb3 rfl rfl (by decide) (by simp only [maxLen]; omega) (by omega) fun v4 w4 hs4 hG4 => ?_
      obtain ⟨hU4, hf4⟩ := hG4.from_ (hU.trans hu3) hf
      refine ar64 (by omega) ?_
      refine round_mk [v4, .int .i64 ((k + 1 : Nat) : Int)] (n - (k + 1)) rfl rfl ⟨k + 1, v4, rfl, by omega, rfl, ?_, hf4, hU4⟩ (by omega)
      rw [rep_succ, ← List.append_assoc]
      simp only [List.length_append, List.map_append] at hs4 ⊢
      exact hs4
    · have hk : k = n := by omega
      subst hk
      refine ar64 (by omega) ?_
      refine round_mk [lv, .int .i64 ((j + 1 : Nat) : Int)] (l.length - (j + 1)) rfl rfl ⟨j + 1, lv, rfl, by omega, rfl, by rw [hsucc]; exact hs, hf, hU⟩ (by omega)
  · have hj : j = l.length := by omega
    subst hj
    exact ⟨RdK.of_sl hs, hU⟩
set_option maxRecDepth 100000 in
theorem rounds_law (t n : Int) (v : Value) (l : List Int) (w : World) (hv : RdK w .i64 v l) : Fn Try.prog 10 #[.int .i64 t, .int .i64 n, v] w fun r w' => r = .bool true ∧ Upd [] w w' := by
  obtain ⟨a, ca, rfl, -⟩ := hv.form
  refine fn_enter Try.func10 rfl rfl ?_
  have tail : ∀ (w2 : World) (x : Value), RdK w2 .i64 x (roundL t n) → Upd [] w w2 → ∀ (w3 : World) (y : Value), RdK w3 .i64 y (blocksL l) → Upd [] w2 w3 → Upd [] w w3 → True := fun _ _ _ _ _ _ _ _ _ => trivial
  clear tail
  refine loop_rule [0, 1, 2, 8] [7, 9] (fun vs w' m => ∃ (j : Nat) (lv : Value), vs = [lv, .int .i64 j] ∧ (j = 0 ∨ (1 ≤ t ∧ t ≤ 6 ∧ n ≤ 60000 ∧ (j : Int) ≤ n)) ∧ m = 60000 - j ∧ Sl w' 3 1 lv j (((List.range j).map fun (i : Nat) => (i : Int).tmod t).map (.int .i64)) ∧ Fresh w lv ∧ Upd [] w w') rfl [.slice none 0 0, .int .i64 0] 60000 rfl ⟨0, _, rfl, .inl rfl, rfl, Sl.nil_ _ _ _, Fresh.nil_ _, Upd.refl _ _⟩ ?_
  rintro _ w1 m ⟨j, lv, rfl, hj, rfl, hs, hf, hU⟩
  have rest : ¬ (1 ≤ t ∧ t ≤ 6 ∧ n ≤ 60000 ∧ (j : Int) < n) → RdK w1 .i64 lv (roundL t n) := by
    intro hn
    have := RdK.of_sl hs
    have e : (List.range j).map (fun (i : Nat) => (i : Int).tmod t) = roundL t n := by
      unfold roundL
      split
      · rename_i hc
        rw [show n.toNat = j by omega]
      · have : j = 0 := by omega
        subst this; rfl
    rw [← e]; exact this
  refine cd (fun h1 => ?_) (fun h1 => ?_)
  · refine cd (fun h2 => ?_) (fun h2 => ?_)
    · refine cd (fun h3 => ?_) (fun h3 => ?_)
      · refine cd (fun h4 => ?_) (fun h4 => ?_)
        · clear rest
          refine rm (by omega) ?_
          refine val ((j : Int).tmod t) rfl ?_
          refine bs #[.int .i64 ((j : Int).tmod t)] (fun _ => by kernel_rfl) fun w3 hb3 hu3 hs3 => ?_
          refine apg (hs.upd hu3 (by simp)) hb3 rfl rfl (by decide) (by simp only [maxLen]; omega) (by omega) fun v4 w4 hs4 hG4 => ?_
          obtain ⟨hU4, hf4⟩ := hG4.from_ (hU.trans hu3) hf
          refine ar64 (by omega) ?_
          refine round_mk [v4, .int .i64 ((j + 1 : Nat) : Int)] (60000 - (j + 1)) rfl rfl ⟨j + 1, v4, rfl, .inr ⟨by omega, by omega, by omega, by omega⟩, rfl, by simpa [List.range_succ] using hs4, hf4, hU4⟩ (by omega)
        · have rest := rest (by omega)
          refine loop_rule [0, 1, 2, 7] [8, 10] (fun vs w' m => ∃ (j : Nat) (bv : Value), vs = [bv, .int .i64 j] ∧ (j = 0 ∨ (rightP l ∧ j ≤ l.length)) ∧ m = 6 - j ∧ Sl w' 3 1 bv (blkP l j).length ((blkP l j).map (.int .i64)) ∧ Fresh w1 bv ∧ Upd [] w1 w') rfl [.slice none 0 0, .int .i64 0] 6 rfl ⟨0, _, rfl, .inl rfl, rfl, Sl.nil_ _ _ _, Fresh.nil_ _, Upd.refl _ _⟩ ?_
          rintro _ w2 m ⟨i, bv, rfl, hi, rfl, hb, hbf, hU2⟩
          refine cl (lawright_c (hv.upd0 (hU.trans hU2))) ?_
          rintro _ w2 ⟨rfl, rfl⟩
          have rest2 : ¬ (rightP l ∧ i < l.length) → RdK w2 .i64 bv (blocksL l) := by
            intro hn
            have := RdK.of_sl hb
            have e : blkP l i = blocksL l := by
              unfold blocksL
              split
              · rename_i hc
                have h6 := hc.1
                have hz : i = l.length := by
                  by_cases hr : i < l.length
                  · exact absurd ⟨hc, hr⟩ hn
                  · omega
                rw [hz]
              · rename_i hc
                have hz : i = 0 := by
                  rcases hi with h | h
                  · exact h
                  · exact absurd h.1 hc
                subst hz; rfl
            rw [← e]; exact this
          refine cd (fun hr => ?_) (fun hr => ?_)
          · have hr : rightP l := by simpa using hr
            have h6 := hr.1
            have hbl := blkP_len hr i
            refine len_sl ?_
            refine cd (fun hlt => ?_) (fun hlt => ?_)
            · have hlt : i < l.length := by omega
              clear rest2
              have hx := right_elem hr i
              have hsucc := blkP_succ l i
              obtain ⟨b_, o_, c_, he_, -⟩ := hv.some_ (by omega)
              cases he_
              have hcell : ∀ w', Upd [] w w' → w'.cell? ⟨b_, o_ + i * 1, none⟩ = some (.int .i64 (l.getD i 0)) := fun w' hw' => (hv.upd0 hw').at_ rfl i hlt
              generalize l.getD i 0 = x at *
              obtain ⟨nn, rfl⟩ := Int.eq_ofNat_of_zero_le hx.1
              rw [Int.toNat_natCast] at hsucc
              refine loop_rule [0, 1, 2, 7, 10] [8, 11] (fun vs w' m => ∃ (k : Nat) (lv : Value), vs = [lv, .int .i64 k] ∧ k ≤ nn ∧ m = nn - k ∧ Sl w' 3 1 lv (blkP l i ++ List.replicate k (i : Int)).length ((blkP l i ++ List.replicate k (i : Int)).map (.int .i64)) ∧ Fresh w1 lv ∧ Upd [] w1 w') rfl [bv, .int .i64 0] nn rfl ⟨0, bv, rfl, by omega, rfl, by simpa using hb, hbf, hU2⟩ ?_
              rintro _ w2 m ⟨k, lv2, rfl, hk, rfl, hs2, hf2, hU2⟩
              have hlen : (blkP l i ++ List.replicate k (i : Int)).length ≤ 20 * i + 20 := by rw [List.length_append, List.length_replicate]; omega
              refine ix i rfl hlt ?_
              refine ld (hcell _ (hU.trans hU2)) ?_
              refine cd (fun hlt2 => ?_) (fun hlt2 => ?_)
              · refine bs #[.int .i64 i] (fun _ => by kernel_rfl) fun w3 hb3 hu3 hs3 => ?_
                refine apg (hs2.upd hu3 (by simp)) hb3 rfl rfl (by decide) (by simp only [maxLen]; omega) (by omega) fun v4 w4 hs4 hG4 => ?_
                obtain ⟨hU4, hf4⟩ := hG4.from_ (hU2.trans hu3) hf2
                refine ar64 (by omega) ?_
                refine round_mk [v4, .int .i64 ((k + 1 : Nat) : Int)] (nn - (k + 1)) rfl rfl ⟨k + 1, v4, rfl, by omega, rfl, ?_, hf4, hU4⟩ (by omega)
                rw [rep_succ, ← List.append_assoc]
                simp only [List.length_append, List.map_append] at hs4 ⊢
                exact hs4
              · have hk : k = nn := by omega
                subst hk
                refine ar64 (by omega) ?_
                refine round_mk [lv2, .int .i64 ((i + 1 : Nat) : Int)] (6 - (i + 1)) rfl rfl ⟨i + 1, lv2, rfl, .inr ⟨hr, by omega⟩, rfl, by rw [hsucc]; exact hs2, hf2, hU2⟩ (by omega)
            · have hb2 := rest2 (by omega)
              refine cl (round_c t n w2) ?_
              rintro rv w3 ⟨hrv, hu3⟩
              have hU3 := hU2.trans hu3
              refine cl (same_c hrv ((rest).upd0 hU3)) ?_
              rintro _ w4 ⟨rfl, hu4⟩
              refine cY rfl ?_
              have hU4 := hU3.trans hu4
              refine cl (blocks_c (hv.upd0 (hU.trans hU4))) ?_
              rintro rb w5 ⟨hrb, hu5⟩
              refine cl (same_c hrb (hb2.upd0 ((hu3.trans hu4).trans hu5))) ?_
              rintro _ w6 ⟨rfl, hu6⟩
              refine cY rfl ?_
              refine cl (lives35 w6) ?_
              rintro _ w7 ⟨rfl, hu7⟩
              exact ⟨rfl, (((hU.trans hU4).trans hu5).trans hu6).trans hu7⟩
          · have hr : ¬ rightP l := by simpa using hr
            have hb2 := rest2 (fun h => hr h.1)
            refine cl (round_c t n w2) ?_
            rintro rv w3 ⟨hrv, hu3⟩
            have hU3 := hU2.trans hu3
            refine cl (same_c hrv ((rest).upd0 hU3)) ?_
            rintro _ w4 ⟨rfl, hu4⟩
            refine cY rfl ?_
            have hU4 := hU3.trans hu4
            refine cl (blocks_c (hv.upd0 (hU.trans hU4))) ?_
            rintro rb w5 ⟨hrb, hu5⟩
            refine cl (same_c hrb (hb2.upd0 ((hu3.trans hu4).trans hu5))) ?_
            rintro _ w6 ⟨rfl, hu6⟩
            refine cY rfl ?_
            refine cl (lives35 w6) ?_
            rintro _ w7 ⟨rfl, hu7⟩
            exact ⟨rfl, (((hU.trans hU4).trans hu5).trans hu6).trans hu7⟩
      · have rest := rest (by omega)
        refine loop_rule [0, 1, 2, 7] [8, 10] (fun vs w' m => ∃ (j : Nat) (bv : Value), vs = [bv, .int .i64 j] ∧ (j = 0 ∨ (rightP l ∧ j ≤ l.length)) ∧ m = 6 - j ∧ Sl w' 3 1 bv (blkP l j).length ((blkP l j).map (.int .i64)) ∧ Fresh w1 bv ∧ Upd [] w1 w') rfl [.slice none 0 0, .int .i64 0] 6 rfl ⟨0, _, rfl, .inl rfl, rfl, Sl.nil_ _ _ _, Fresh.nil_ _, Upd.refl _ _⟩ ?_
        rintro _ w2 m ⟨i, bv, rfl, hi, rfl, hb, hbf, hU2⟩
        refine cl (lawright_c (hv.upd0 (hU.trans hU2))) ?_
        rintro _ w2 ⟨rfl, rfl⟩
        have rest2 : ¬ (rightP l ∧ i < l.length) → RdK w2 .i64 bv (blocksL l) := by
          intro hn
          have := RdK.of_sl hb
          have e : blkP l i = blocksL l := by
            unfold blocksL
            split
            · rename_i hc
              have h6 := hc.1
              have hz : i = l.length := by
                by_cases hr : i < l.length
                · exact absurd ⟨hc, hr⟩ hn
                · omega
              rw [hz]
            · rename_i hc
              have hz : i = 0 := by
                rcases hi with h | h
                · exact h
                · exact absurd h.1 hc
              subst hz; rfl
          rw [← e]; exact this
        refine cd (fun hr => ?_) (fun hr => ?_)
        · have hr : rightP l := by simpa using hr
          have h6 := hr.1
          have hbl := blkP_len hr i
          refine len_sl ?_
          refine cd (fun hlt => ?_) (fun hlt => ?_)
          · have hlt : i < l.length := by omega
            clear rest2
            have hx := right_elem hr i
            have hsucc := blkP_succ l i
            obtain ⟨b_, o_, c_, he_, -⟩ := hv.some_ (by omega)
            cases he_
            have hcell : ∀ w', Upd [] w w' → w'.cell? ⟨b_, o_ + i * 1, none⟩ = some (.int .i64 (l.getD i 0)) := fun w' hw' => (hv.upd0 hw').at_ rfl i hlt
            generalize l.getD i 0 = x at *
            obtain ⟨nn, rfl⟩ := Int.eq_ofNat_of_zero_le hx.1
            rw [Int.toNat_natCast] at hsucc
            refine loop_rule [0, 1, 2, 7, 10] [8, 11] (fun vs w' m => ∃ (k : Nat) (lv : Value), vs = [lv, .int .i64 k] ∧ k ≤ nn ∧ m = nn - k ∧ Sl w' 3 1 lv (blkP l i ++ List.replicate k (i : Int)).length ((blkP l i ++ List.replicate k (i : Int)).map (.int .i64)) ∧ Fresh w1 lv ∧ Upd [] w1 w') rfl [bv, .int .i64 0] nn rfl ⟨0, bv, rfl, by omega, rfl, by simpa using hb, hbf, hU2⟩ ?_
            rintro _ w2 m ⟨k, lv2, rfl, hk, rfl, hs2, hf2, hU2⟩
            have hlen : (blkP l i ++ List.replicate k (i : Int)).length ≤ 20 * i + 20 := by rw [List.length_append, List.length_replicate]; omega
            refine ix i rfl hlt ?_
            refine ld (hcell _ (hU.trans hU2)) ?_
            refine cd (fun hlt2 => ?_) (fun hlt2 => ?_)
            · refine bs #[.int .i64 i] (fun _ => by kernel_rfl) fun w3 hb3 hu3 hs3 => ?_
              refine apg (hs2.upd hu3 (by simp)) hb3 rfl rfl (by decide) (by simp only [maxLen]; omega) (by omega) fun v4 w4 hs4 hG4 => ?_
              obtain ⟨hU4, hf4⟩ := hG4.from_ (hU2.trans hu3) hf2
              refine ar64 (by omega) ?_
              refine round_mk [v4, .int .i64 ((k + 1 : Nat) : Int)] (nn - (k + 1)) rfl rfl ⟨k + 1, v4, rfl, by omega, rfl, ?_, hf4, hU4⟩ (by omega)
              rw [rep_succ, ← List.append_assoc]
              simp only [List.length_append, List.map_append] at hs4 ⊢
              exact hs4
            · have hk : k = nn := by omega
              subst hk
              refine ar64 (by omega) ?_
              refine round_mk [lv2, .int .i64 ((i + 1 : Nat) : Int)] (6 - (i + 1)) rfl rfl ⟨i + 1, lv2, rfl, .inr ⟨hr, by omega⟩, rfl, by rw [hsucc]; exact hs2, hf2, hU2⟩ (by omega)
          · have hb2 := rest2 (by omega)
            refine cl (round_c t n w2) ?_
            rintro rv w3 ⟨hrv, hu3⟩
            have hU3 := hU2.trans hu3
            refine cl (same_c hrv ((rest).upd0 hU3)) ?_
            rintro _ w4 ⟨rfl, hu4⟩
            refine cY rfl ?_
            have hU4 := hU3.trans hu4
            refine cl (blocks_c (hv.upd0 (hU.trans hU4))) ?_
            rintro rb w5 ⟨hrb, hu5⟩
            refine cl (same_c hrb (hb2.upd0 ((hu3.trans hu4).trans hu5))) ?_
            rintro _ w6 ⟨rfl, hu6⟩
            refine cY rfl ?_
            refine cl (lives35 w6) ?_
            rintro _ w7 ⟨rfl, hu7⟩
            exact ⟨rfl, (((hU.trans hU4).trans hu5).trans hu6).trans hu7⟩
        · have hr : ¬ rightP l := by simpa using hr
          have hb2 := rest2 (fun h => hr h.1)
          refine cl (round_c t n w2) ?_
          rintro rv w3 ⟨hrv, hu3⟩
          have hU3 := hU2.trans hu3
          refine cl (same_c hrv ((rest).upd0 hU3)) ?_
          rintro _ w4 ⟨rfl, hu4⟩
          refine cY rfl ?_
          have hU4 := hU3.trans hu4
          refine cl (blocks_c (hv.upd0 (hU.trans hU4))) ?_
          rintro rb w5 ⟨hrb, hu5⟩
          refine cl (same_c hrb (hb2.upd0 ((hu3.trans hu4).trans hu5))) ?_
          rintro _ w6 ⟨rfl, hu6⟩
          refine cY rfl ?_
          refine cl (lives35 w6) ?_
          rintro _ w7 ⟨rfl, hu7⟩
          exact ⟨rfl, (((hU.trans hU4).trans hu5).trans hu6).trans hu7⟩
    · have rest := rest (by omega)
      refine loop_rule [0, 1, 2, 7] [8, 10] (fun vs w' m => ∃ (j : Nat) (bv : Value), vs = [bv, .int .i64 j] ∧ (j = 0 ∨ (rightP l ∧ j ≤ l.length)) ∧ m = 6 - j ∧ Sl w' 3 1 bv (blkP l j).length ((blkP l j).map (.int .i64)) ∧ Fresh w1 bv ∧ Upd [] w1 w') rfl [.slice none 0 0, .int .i64 0] 6 rfl ⟨0, _, rfl, .inl rfl, rfl, Sl.nil_ _ _ _, Fresh.nil_ _, Upd.refl _ _⟩ ?_
      rintro _ w2 m ⟨i, bv, rfl, hi, rfl, hb, hbf, hU2⟩
      refine cl (lawright_c (hv.upd0 (hU.trans hU2))) ?_
      rintro _ w2 ⟨rfl, rfl⟩
      have rest2 : ¬ (rightP l ∧ i < l.length) → RdK w2 .i64 bv (blocksL l) := by
        intro hn
        have := RdK.of_sl hb
        have e : blkP l i = blocksL l := by
          unfold blocksL
          split
          · rename_i hc
            have h6 := hc.1
            have hz : i = l.length := by
              by_cases hr : i < l.length
              · exact absurd ⟨hc, hr⟩ hn
              · omega
            rw [hz]
          · rename_i hc
            have hz : i = 0 := by
              rcases hi with h | h
              · exact h
              · exact absurd h.1 hc
            subst hz; rfl
        rw [← e]; exact this
      refine cd (fun hr => ?_) (fun hr => ?_)
      · have hr : rightP l := by simpa using hr
        have h6 := hr.1
        have hbl := blkP_len hr i
        refine len_sl ?_
        refine cd (fun hlt => ?_) (fun hlt => ?_)
        · have hlt : i < l.length := by omega
          clear rest2
          have hx := right_elem hr i
          have hsucc := blkP_succ l i
          obtain ⟨b_, o_, c_, he_, -⟩ := hv.some_ (by omega)
          cases he_
          have hcell : ∀ w', Upd [] w w' → w'.cell? ⟨b_, o_ + i * 1, none⟩ = some (.int .i64 (l.getD i 0)) := fun w' hw' => (hv.upd0 hw').at_ rfl i hlt
          generalize l.getD i 0 = x at *
          obtain ⟨nn, rfl⟩ := Int.eq_ofNat_of_zero_le hx.1
          rw [Int.toNat_natCast] at hsucc
          refine loop_rule [0, 1, 2, 7, 10] [8, 11] (fun vs w' m => ∃ (k : Nat) (lv : Value), vs = [lv, .int .i64 k] ∧ k ≤ nn ∧ m = nn - k ∧ Sl w' 3 1 lv (blkP l i ++ List.replicate k (i : Int)).length ((blkP l i ++ List.replicate k (i : Int)).map (.int .i64)) ∧ Fresh w1 lv ∧ Upd [] w1 w') rfl [bv, .int .i64 0] nn rfl ⟨0, bv, rfl, by omega, rfl, by simpa using hb, hbf, hU2⟩ ?_
          rintro _ w2 m ⟨k, lv2, rfl, hk, rfl, hs2, hf2, hU2⟩
          have hlen : (blkP l i ++ List.replicate k (i : Int)).length ≤ 20 * i + 20 := by rw [List.length_append, List.length_replicate]; omega
          refine ix i rfl hlt ?_
          refine ld (hcell _ (hU.trans hU2)) ?_
          refine cd (fun hlt2 => ?_) (fun hlt2 => ?_)
          · refine bs #[.int .i64 i] (fun _ => by kernel_rfl) fun w3 hb3 hu3 hs3 => ?_
            refine apg (hs2.upd hu3 (by simp)) hb3 rfl rfl (by decide) (by simp only [maxLen]; omega) (by omega) fun v4 w4 hs4 hG4 => ?_
            obtain ⟨hU4, hf4⟩ := hG4.from_ (hU2.trans hu3) hf2
            refine ar64 (by omega) ?_
            refine round_mk [v4, .int .i64 ((k + 1 : Nat) : Int)] (nn - (k + 1)) rfl rfl ⟨k + 1, v4, rfl, by omega, rfl, ?_, hf4, hU4⟩ (by omega)
            rw [rep_succ, ← List.append_assoc]
            simp only [List.length_append, List.map_append] at hs4 ⊢
            exact hs4
          · have hk : k = nn := by omega
            subst hk
            refine ar64 (by omega) ?_
            refine round_mk [lv2, .int .i64 ((i + 1 : Nat) : Int)] (6 - (i + 1)) rfl rfl ⟨i + 1, lv2, rfl, .inr ⟨hr, by omega⟩, rfl, by rw [hsucc]; exact hs2, hf2, hU2⟩ (by omega)
        · have hb2 := rest2 (by omega)
          refine cl (round_c t n w2) ?_
          rintro rv w3 ⟨hrv, hu3⟩
          have hU3 := hU2.trans hu3
          refine cl (same_c hrv ((rest).upd0 hU3)) ?_
          rintro _ w4 ⟨rfl, hu4⟩
          refine cY rfl ?_
          have hU4 := hU3.trans hu4
          refine cl (blocks_c (hv.upd0 (hU.trans hU4))) ?_
          rintro rb w5 ⟨hrb, hu5⟩
          refine cl (same_c hrb (hb2.upd0 ((hu3.trans hu4).trans hu5))) ?_
          rintro _ w6 ⟨rfl, hu6⟩
          refine cY rfl ?_
          refine cl (lives35 w6) ?_
          rintro _ w7 ⟨rfl, hu7⟩
          exact ⟨rfl, (((hU.trans hU4).trans hu5).trans hu6).trans hu7⟩
      · have hr : ¬ rightP l := by simpa using hr
        have hb2 := rest2 (fun h => hr h.1)
        refine cl (round_c t n w2) ?_
        rintro rv w3 ⟨hrv, hu3⟩
        have hU3 := hU2.trans hu3
        refine cl (same_c hrv ((rest).upd0 hU3)) ?_
        rintro _ w4 ⟨rfl, hu4⟩
        refine cY rfl ?_
        have hU4 := hU3.trans hu4
        refine cl (blocks_c (hv.upd0 (hU.trans hU4))) ?_
        rintro rb w5 ⟨hrb, hu5⟩
        refine cl (same_c hrb (hb2.upd0 ((hu3.trans hu4).trans hu5))) ?_
        rintro _ w6 ⟨rfl, hu6⟩
        refine cY rfl ?_
        refine cl (lives35 w6) ?_
        rintro _ w7 ⟨rfl, hu7⟩
        exact ⟨rfl, (((hU.trans hU4).trans hu5).trans hu6).trans hu7⟩
  · have rest := rest (by omega)
    refine loop_rule [0, 1, 2, 7] [8, 10] (fun vs w' m => ∃ (j : Nat) (bv : Value), vs = [bv, .int .i64 j] ∧ (j = 0 ∨ (rightP l ∧ j ≤ l.length)) ∧ m = 6 - j ∧ Sl w' 3 1 bv (blkP l j).length ((blkP l j).map (.int .i64)) ∧ Fresh w1 bv ∧ Upd [] w1 w') rfl [.slice none 0 0, .int .i64 0] 6 rfl ⟨0, _, rfl, .inl rfl, rfl, Sl.nil_ _ _ _, Fresh.nil_ _, Upd.refl _ _⟩ ?_
    rintro _ w2 m ⟨i, bv, rfl, hi, rfl, hb, hbf, hU2⟩
    refine cl (lawright_c (hv.upd0 (hU.trans hU2))) ?_
    rintro _ w2 ⟨rfl, rfl⟩
    have rest2 : ¬ (rightP l ∧ i < l.length) → RdK w2 .i64 bv (blocksL l) := by
      intro hn
      have := RdK.of_sl hb
      have e : blkP l i = blocksL l := by
        unfold blocksL
        split
        · rename_i hc
          have h6 := hc.1
          have hz : i = l.length := by
            by_cases hr : i < l.length
            · exact absurd ⟨hc, hr⟩ hn
            · omega
          rw [hz]
        · rename_i hc
          have hz : i = 0 := by
            rcases hi with h | h
            · exact h
            · exact absurd h.1 hc
          subst hz; rfl
      rw [← e]; exact this
    refine cd (fun hr => ?_) (fun hr => ?_)
    · have hr : rightP l := by simpa using hr
      have h6 := hr.1
      have hbl := blkP_len hr i
      refine len_sl ?_
      refine cd (fun hlt => ?_) (fun hlt => ?_)
      · have hlt : i < l.length := by omega
        clear rest2
        have hx := right_elem hr i
        have hsucc := blkP_succ l i
        obtain ⟨b_, o_, c_, he_, -⟩ := hv.some_ (by omega)
        cases he_
        have hcell : ∀ w', Upd [] w w' → w'.cell? ⟨b_, o_ + i * 1, none⟩ = some (.int .i64 (l.getD i 0)) := fun w' hw' => (hv.upd0 hw').at_ rfl i hlt
        generalize l.getD i 0 = x at *
        obtain ⟨nn, rfl⟩ := Int.eq_ofNat_of_zero_le hx.1
        rw [Int.toNat_natCast] at hsucc
        refine loop_rule [0, 1, 2, 7, 10] [8, 11] (fun vs w' m => ∃ (k : Nat) (lv : Value), vs = [lv, .int .i64 k] ∧ k ≤ nn ∧ m = nn - k ∧ Sl w' 3 1 lv (blkP l i ++ List.replicate k (i : Int)).length ((blkP l i ++ List.replicate k (i : Int)).map (.int .i64)) ∧ Fresh w1 lv ∧ Upd [] w1 w') rfl [bv, .int .i64 0] nn rfl ⟨0, bv, rfl, by omega, rfl, by simpa using hb, hbf, hU2⟩ ?_
        rintro _ w2 m ⟨k, lv2, rfl, hk, rfl, hs2, hf2, hU2⟩
        have hlen : (blkP l i ++ List.replicate k (i : Int)).length ≤ 20 * i + 20 := by rw [List.length_append, List.length_replicate]; omega
        refine ix i rfl hlt ?_
        refine ld (hcell _ (hU.trans hU2)) ?_
        refine cd (fun hlt2 => ?_) (fun hlt2 => ?_)
        · refine bs #[.int .i64 i] (fun _ => by kernel_rfl) fun w3 hb3 hu3 hs3 => ?_
          refine apg (hs2.upd hu3 (by simp)) hb3 rfl rfl (by decide) (by simp only [maxLen]; omega) (by omega) fun v4 w4 hs4 hG4 => ?_
          obtain ⟨hU4, hf4⟩ := hG4.from_ (hU2.trans hu3) hf2
          refine ar64 (by omega) ?_
          refine round_mk [v4, .int .i64 ((k + 1 : Nat) : Int)] (nn - (k + 1)) rfl rfl ⟨k + 1, v4, rfl, by omega, rfl, ?_, hf4, hU4⟩ (by omega)
          rw [rep_succ, ← List.append_assoc]
          simp only [List.length_append, List.map_append] at hs4 ⊢
          exact hs4
        · have hk : k = nn := by omega
          subst hk
          refine ar64 (by omega) ?_
          refine round_mk [lv2, .int .i64 ((i + 1 : Nat) : Int)] (6 - (i + 1)) rfl rfl ⟨i + 1, lv2, rfl, .inr ⟨hr, by omega⟩, rfl, by rw [hsucc]; exact hs2, hf2, hU2⟩ (by omega)
      · have hb2 := rest2 (by omega)
        refine cl (round_c t n w2) ?_
        rintro rv w3 ⟨hrv, hu3⟩
        have hU3 := hU2.trans hu3
        refine cl (same_c hrv ((rest).upd0 hU3)) ?_
        rintro _ w4 ⟨rfl, hu4⟩
        refine cY rfl ?_
        have hU4 := hU3.trans hu4
        refine cl (blocks_c (hv.upd0 (hU.trans hU4))) ?_
        rintro rb w5 ⟨hrb, hu5⟩
        refine cl (same_c hrb (hb2.upd0 ((hu3.trans hu4).trans hu5))) ?_
        rintro _ w6 ⟨rfl, hu6⟩
        refine cY rfl ?_
        refine cl (lives35 w6) ?_
        rintro _ w7 ⟨rfl, hu7⟩
        exact ⟨rfl, (((hU.trans hU4).trans hu5).trans hu6).trans hu7⟩
    · have hr : ¬ rightP l := by simpa using hr
      have hb2 := rest2 (fun h => hr h.1)
      refine cl (round_c t n w2) ?_
      rintro rv w3 ⟨hrv, hu3⟩
      have hU3 := hU2.trans hu3
      refine cl (same_c hrv ((rest).upd0 hU3)) ?_
      rintro _ w4 ⟨rfl, hu4⟩
      refine cY rfl ?_
      have hU4 := hU3.trans hu4
      refine cl (blocks_c (hv.upd0 (hU.trans hU4))) ?_
      rintro rb w5 ⟨hrb, hu5⟩
      refine cl (same_c hrb (hb2.upd0 ((hu3.trans hu4).trans hu5))) ?_
      rintro _ w6 ⟨rfl, hu6⟩
      refine cY rfl ?_
      refine cl (lives35 w6) ?_
      rintro _ w7 ⟨rfl, hu7⟩
      exact ⟨rfl, (((hU.trans hU4).trans hu5).trans hu6).trans hu7⟩
theorem SchedRounds_walk (w : World) (t : Int) (ht : (Lit.int .i64 t).wf = true) (n : Int) (hn : (Lit.int .i64 n).wf = true) (v : Value) (ls : List (List Int)) (h : SlRows w w.heap.size [.i64] v ls) :
    Calls Try.prog 10 #[.int .i64 t, .int .i64 n, v] w fun e w' => e = .returned (.bool true) ∧ Below w.heap.size w w' :=
  (rounds_law t n v _ w (RdK.of_ints h.ints (Nat.le_refl _))).mono fun _ _ ⟨_, he, hv, hu⟩ => ⟨by rw [he, hv], hu.below⟩
end Go.Proofs.Ytjninopakpfklaa
