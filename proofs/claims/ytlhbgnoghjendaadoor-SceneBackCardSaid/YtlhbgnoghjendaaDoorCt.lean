/- Contracts: what may be; digits; the texts of calls and answers. -/
import Derived.Test.YtlhbgnoghjendaaDoorV10
import Derived.Test.YtlhbgnoghjendaaDoorTy
namespace Go.Proofs.YtlhbgnoghjendaaDoor
open Go.RowKit
attribute [local irreducible] Instr.loadAt Instr.storeAt Instr.fieldAt Instr.indexAt Instr.sliceAt Instr.buildSlice Instr.box Instr.alloc Builtin.append_ Builtin.len_ Builtin.min_ Builtin.max_ Calls Instr.build Instr.makeSlice binSem convert Instr.index Instr.range Instr.next
theorem bl {b : Bool} {p : Prop} [Decidable p] (h : b = true ↔ p) : retV [Value.bool b] = .bool (decide p) := by
  cases b with
  | true => rw [decide_eq_true (h.1 rfl)]; rfl
  | false => rw [decide_eq_false (fun hp => by have := h.2 hp; cases this)]; rfl


/-- a call or an answer: a kind, a key, a value -/
def c3 (o k v : Int) : Array Value := #[.int .i64 o, .int .u32 k, .int .u32 v]
def rightCall (o k v : Int) : Prop := o = 0 ∨ ((o = 1 ∨ o = 2) ∧ k = 0 ∧ v = 0)
def rightAns (o k v : Int) : Prop := o = 2 ∨ ((o = 0 ∨ o = 1 ∨ o = 3) ∧ k = 0 ∧ v = 0)
instance {o k v : Int} : Decidable (rightCall o k v) := by unfold rightCall; exact inferInstance
instance {o k v : Int} : Decidable (rightAns o k v) := by unfold rightAns; exact inferInstance
theorem right_c26 (o k v : Int) (w : World) : Fn Tryd.prog 64 #[.agg (c3 o k v)] w fun r w' => r = .bool (decide (rightCall o k v)) ∧ Upd [] w w' := by
  refine fn_enter Tryd.func64 rfl rfl ?_
  refine bx fun w1 hb1 hu1 hs1 => ?_
  repeat' (first | refine fa ?_ | refine ldb hb1 rfl ?_ | (refine cd (fun _ => ?_) (fun _ => ?_)) | exact ⟨bl (by simp [rightCall]; try omega), hu1⟩)

theorem right_c24 (o k v : Int) (w : World) : Fn Tryd.prog 70 #[.agg (c3 o k v)] w fun r w' => r = .bool (decide (rightCall o k v)) ∧ Upd [] w w' := by
  refine fn_enter Tryd.func70 rfl rfl ?_
  refine bx fun w1 hb1 hu1 hs1 => ?_
  repeat' (first | refine fa ?_ | refine ldb hb1 rfl ?_ | (refine cd (fun _ => ?_) (fun _ => ?_)) | exact ⟨bl (by simp [rightCall]; try omega), hu1⟩)

theorem right_c54 (o k v : Int) (w : World) : Fn Tryd.prog 79 #[.agg (c3 o k v)] w fun r w' => r = .bool (decide (rightAns o k v)) ∧ Upd [] w w' := by
  refine fn_enter Tryd.func79 rfl rfl ?_
  refine bx fun w1 hb1 hu1 hs1 => ?_
  repeat' (first | refine fa ?_ | refine ldb hb1 rfl ?_ | (refine cd (fun _ => ?_) (fun _ => ?_)) | exact ⟨bl (by simp [rightAns]; try omega), hu1⟩)

def fitsP (o k v p q r : Int) : Prop := rightCall o k v ∧ rightAns p q r ∧ (o = 0 ↔ (p = 0 ∨ p = 1))
instance {o k v p q r : Int} : Decidable (fitsP o k v p q r) := by unfold fitsP; exact inferInstance
/-- a number's digits -/
def decB (n : Nat) : List Int := if h : n < 10 then [48 + (n : Int)] else decB (n / 10) ++ [48 + ((n % 10 : Nat) : Int)]
termination_by n
decreasing_by omega
theorem decB_small {n : Nat} (h : n < 10) : decB n = [48 + (n : Int)] := by rw [decB, dif_pos h]
theorem decB_big {n : Nat} (h : ¬ n < 10) : decB n = decB (n / 10) ++ [48 + ((n % 10 : Nat) : Int)] := by rw [decB, dif_neg h]
theorem decB_len : ∀ (k n : Nat), n < 10 ^ (k + 1) → (decB n).length ≤ k + 1
  | 0, n, h => by rw [decB_small (by simpa using h)]; simp
  | k + 1, n, h => by
    by_cases h10 : n < 10
    · rw [decB_small h10]; simp
    · rw [decB_big h10]
      have := decB_len k (n / 10) (by rw [Nat.pow_succ] at h; omega)
      simp; omega
theorem str_add (a b : List Int) : strOfNums a ++ strOfNums b = strOfNums (a ++ b) := by
  unfold strOfNums
  apply ByteArray.ext
  simp


theorem tmod10 (m : Nat) : ((m : Int).tmod 10) = ((m % 10 : Nat) : Int) := by rw [Int.tmod_eq_emod_of_nonneg (by omega)]; omega
theorem tdiv10 (m : Nat) : ((m : Int).tdiv 10) = ((m / 10 : Nat) : Int) := by rw [Int.tdiv_eq_ediv_of_nonneg (by omega)]; omega
theorem wrapU32 {n : Int} (h : 0 ≤ n ∧ n ≤ 4294967295) : IntKind.u32.wrap n = n := by rw [IntKind.wrap_u32]; omega
theorem wrapU64 {n : Int} (h : 0 ≤ n ∧ n ≤ 18446744073709551615) : IntKind.u64.wrap n = n := by rw [IntKind.wrap_u64]; omega
theorem str_one (d : Nat) (l : List Int) : strOfNums [48 + (d : Int)] ++ strOfNums l = strOfNums ((48 + (d : Int)) :: l) := by rw [str_add]; rfl
set_option maxRecDepth 10000 in
theorem digits_c (m0 : Nat) (hm0 : m0 < 4294967296) (w : World) : Fn Tryd.prog 72 #[.int .u32 (m0 : Int)] w fun r w' => r = .string (strOfNums (decB m0)) ∧ Upd [] w w' := by
  refine fn_enter Tryd.func72 rfl rfl ?_
  have hlen : (decB m0).length ≤ 10 := decB_len 9 m0 (by omega)
  refine loop_rule [] [0, 3] (fun vs w' m => ∃ (n : Nat) (l : List Int), vs = [.int .u32 (n : Int), .string (strOfNums l)] ∧ m = n + 1 ∧ n < 4294967296 ∧ decB n ++ l = decB m0 ∧ Upd [] w w') rfl [.int .u32 (m0 : Int), .string (strOfNums [])] (m0 + 1) rfl ⟨m0, [], rfl, rfl, hm0, by simp, Upd.refl _ _⟩ ?_
  rintro _ w1 m ⟨n, l, rfl, rfl, hn, hl, hU⟩
  have hll : l.length ≤ 10 := by rw [← hl] at hlen; simp at hlen; omega
  refine rm (by decide) ?_
  refine val ((n % 10 : Nat) : Int) (tmod10 n) ?_
  refine ar32 (by omega) ?_
  refine cv ?_
  refine ar8 (by omega) ?_
  refine bs #[.int .u8 (48 + ((n % 10 : Nat) : Int))] (fun _ => by kernel_rfl) fun w2 hb2 hu2 hs2 => ?_
  refine cvb [48 + ((n % 10 : Nat) : Int)] rfl (fun i hi => by obtain rfl : i = 0 := by omega
                                                               exact hb2.cell 0) ?_
  refine sadd (by rw [strOfNums_size, strOfNums_size]; simp; omega) ?_
  refine qu (by decide) ?_
  refine val ((n / 10 : Nat) : Int) (by rw [tdiv10]; exact wrapU32 (by omega)) ?_
  rw [str_one]
  have hU2 := hU.trans hu2
  refine cd (fun h0 => ?_) (fun h0 => ?_)
  · have h10 : n < 10 := by omega
    refine ⟨?_, hU2⟩
    rw [← hl, decB_small h10, Nat.mod_eq_of_lt h10]
    rfl
  · have h10 : ¬ n < 10 := by omega
    refine round_mk [.int .u32 ((n / 10 : Nat) : Int), .string (strOfNums ((48 + ((n % 10 : Nat) : Int)) :: l))] (n / 10 + 1) rfl rfl ?_ (by omega)
    exact ⟨n / 10, _, rfl, rfl, by omega, by rw [← hl, decB_big h10]; simp, hU2⟩

theorem digit_at (d : Nat) (h : d < 10) : (ByteArray.mk #[48, 49, 50, 51, 52, 53, 54, 55, 56, 57]).extract d (d + 1) = strOfNums [48 + (d : Int)] := by
  rcases (show d = 0 ∨ d = 1 ∨ d = 2 ∨ d = 3 ∨ d = 4 ∨ d = 5 ∨ d = 6 ∨ d = 7 ∨ d = 8 ∨ d = 9 by omega) with rfl | rfl | rfl | rfl | rfl | rfl | rfl | rfl | rfl | rfl <;> decide +kernel
set_option maxRecDepth 10000 in
theorem rdigits_c (m0 : Nat) (hm0 : m0 < 18446744073709551616) (w : World) : Fn Tryd.prog 57 #[.int .u64 (m0 : Int)] w fun r w' => r = .string (strOfNums (decB m0)) ∧ w' = w := by
  refine fn_enter Tryd.func57 rfl rfl ?_
  have hlen : (decB m0).length ≤ 20 := decB_len 19 m0 (by omega)
  refine rm (by decide) ?_
  refine val ((m0 % 10 : Nat) : Int) (tmod10 m0) ?_
  refine rm (by decide) ?_
  refine val ((m0 % 10 : Nat) : Int) (tmod10 m0) ?_
  refine arU (by omega) ?_
  refine s_lohi (m0 % 10) (m0 % 10 + 1) rfl (by omega) (by omega) (by show m0 % 10 + 1 ≤ 10; omega) ?_
  rw [digit_at _ (by omega)]
  refine loop_rule [3] [0, 4] (fun vs w' m => ∃ (n : Nat) (l : List Int), vs = [.int .u64 (n : Int), .string (strOfNums ((48 + ((n % 10 : Nat) : Int)) :: l))] ∧ m = n + 1 ∧ n < 18446744073709551616 ∧ decB n ++ l = decB m0 ∧ w' = w) rfl [.int .u64 (m0 : Int), _] (m0 + 1) rfl ⟨m0, [], rfl, rfl, hm0, by simp, rfl⟩ ?_
  rintro _ w1 m ⟨n, l, rfl, rfl, hn, hl, rfl⟩
  have hll : l.length ≤ 20 := by rw [← hl] at hlen; simp at hlen; omega
  refine cd (fun h10 => ?_) (fun h10 => ?_)
  · have h10 : ¬ n < 10 := by omega
    refine qu (by decide) ?_
    refine val ((n / 10 : Nat) : Int) (by rw [tdiv10]; exact wrapU64 (by omega)) ?_
    refine rm (by decide) ?_
    refine val ((n / 10 % 10 : Nat) : Int) (tmod10 _) ?_
    refine rm (by decide) ?_
    refine val ((n / 10 % 10 : Nat) : Int) (tmod10 _) ?_
    refine arU (by omega) ?_
    refine s_lohi (n / 10 % 10) (n / 10 % 10 + 1) rfl (by omega) (by omega) (by show n / 10 % 10 + 1 ≤ 10; omega) ?_
    rw [digit_at _ (by omega)]
    refine sadd (by rw [strOfNums_size, strOfNums_size]; simp; omega) ?_
    rw [str_one]
    refine round_mk [.int .u64 ((n / 10 : Nat) : Int), _] (n / 10 + 1) rfl rfl ?_ (by omega)
    exact ⟨n / 10, _, rfl, rfl, by omega, by rw [← hl, decB_big h10]; simp, rfl⟩
  · have h10 : n < 10 := by omega
    refine ⟨?_, rfl⟩
    rw [← hl, decB_small h10, Nat.mod_eq_of_lt h10]
    rfl
def t_ins : List Int := [105, 110, 115, 101, 114, 116, 32]
/-- a call's text -/
def showL (o : Int) (k v : Nat) : List Int :=
  if ¬ rightCall o k v then [63] else if o = 1 then [100, 101, 108, 101, 116, 101, 109, 105, 110] else if o = 2 then [112, 101, 101, 107, 109, 105, 110] else [105, 110, 115, 101, 114, 116, 32] ++ decB k ++ [32] ++ decB v
set_option maxRecDepth 10000 in
theorem show_c (o : Int) (k v : Nat) (hk : k < 4294967296) (hv : v < 4294967296) (w : World) : Fn Tryd.prog 47 #[.agg (c3 o k v)] w fun r w' => r = .string (strOfNums (showL o k v)) ∧ Upd [] w w' := by
  refine fn_enter Tryd.func47 rfl rfl ?_
  refine bx fun w1 hb1 hu1 hs1 => ?_
  have hb1 : Blk w1 w.heap.size 67 (c3 o k v) := hb1
  refine ldw hb1 rfl ?_
  refine cl (right_c26 o k v _) ?_
  rintro _ w2 ⟨rfl, hu2⟩
  have hb2 := hb1.upd hu2 (by simp)
  have hU2 := hu1.trans hu2
  unfold showL
  refine cd (fun h => ?_) (fun h => ?_)
  · have h : ¬ rightCall o k v := h
    exact ⟨by rw [if_pos h]; rfl, hU2⟩
  have h : rightCall o k v := by simpa using h
  rw [if_neg (fun hn => hn h)]
  refine fa ?_
  refine ldb hb2 rfl ?_
  refine cd (fun h1 => ?_) (fun h1 => ?_)
  · exact ⟨by rw [if_pos h1]; rfl, hU2⟩
  rw [if_neg h1]
  refine fa ?_
  refine ldb hb2 rfl ?_
  refine cd (fun h2 => ?_) (fun h2 => ?_)
  · exact ⟨by rw [if_pos h2]; rfl, hU2⟩
  rw [if_neg h2]
  have l1 : (decB k).length ≤ 10 := decB_len 9 k (by omega)
  have l2 : (decB v).length ≤ 10 := decB_len 9 v (by omega)
  refine draw_all (fun w' => Upd [] w2 w') (by decide +kernel) (Upd.refl _ _).drew ?_
  refine q_fa ?_
  refine q_ld (v := .int .u32 k) (fun w' hw' => (hb2.upd hw' (by simp)).cell 1) ?_
  refine q_cl (.string (strOfNums (decB k))) (fun w' hw' => (digits_c k hk w').mono fun _ _ ⟨u, he, h1, h2⟩ => ⟨u, he, h1, hw'.trans h2⟩) ?_
  refine rq (.string (strOfNums ([105, 110, 115, 101, 114, 116, 32] ++ decB k))) (fun w' _ => sadd (a := strOfNums [105, 110, 115, 101, 114, 116, 32]) (by rw [strOfNums_size, strOfNums_size]; simp; omega) ⟨by rw [str_add], rfl⟩) ?_
  refine rq (.string (strOfNums ([105, 110, 115, 101, 114, 116, 32] ++ decB k ++ [32]))) (fun w' _ => sadd (b := strOfNums [32]) (by rw [strOfNums_size, strOfNums_size]; simp; omega) ⟨by rw [str_add], rfl⟩) ?_
  refine q_fa ?_
  refine q_ld (v := .int .u32 v) (fun w' hw' => (hb2.upd hw' (by simp)).cell 2) ?_
  refine q_cl (.string (strOfNums (decB v))) (fun w' hw' => (digits_c v hv w').mono fun _ _ ⟨u, he, h1, h2⟩ => ⟨u, he, h1, hw'.trans h2⟩) ?_
  refine rq (.string (strOfNums ([105, 110, 115, 101, 114, 116, 32] ++ decB k ++ [32] ++ decB v))) (fun w' _ => sadd (by rw [strOfNums_size, strOfNums_size]; simp; omega) ⟨by rw [str_add], rfl⟩) ?_
  intro w3 hw3
  exact ⟨rfl, hU2.trans hw3⟩
set_option maxRecDepth 10000 in
theorem rshow_c (o : Int) (k v : Nat) (hk : k < 4294967296) (hv : v < 4294967296) (w : World) : Fn Tryd.prog 66 #[.agg (c3 o k v)] w fun r w' => r = .string (strOfNums (showL o k v)) ∧ Upd [] w w' := by
  refine fn_enter Tryd.func66 rfl rfl ?_
  refine bx fun w1 hb1 hu1 hs1 => ?_
  have hb1 : Blk w1 w.heap.size 67 (c3 o k v) := hb1
  refine ldw hb1 rfl ?_
  refine cl (right_c24 o k v _) ?_
  rintro _ w2 ⟨rfl, hu2⟩
  have hb2 := hb1.upd hu2 (by simp)
  have hU2 := hu1.trans hu2
  unfold showL
  refine cd (fun h => ?_) (fun h => ?_)
  · have h : ¬ rightCall o k v := h
    exact ⟨by rw [if_pos h]; rfl, hU2⟩
  have h : rightCall o k v := by simpa using h
  rw [if_neg (fun hn => hn h)]
  refine fa ?_
  refine ldb hb2 rfl ?_
  refine cd (fun h1 => ?_) (fun h1 => ?_)
  · exact ⟨by rw [if_pos h1]; rfl, hU2⟩
  rw [if_neg h1]
  refine cd (fun h2 => ?_) (fun h2 => ?_)
  · exact ⟨by rw [if_pos h2]; rfl, hU2⟩
  rw [if_neg h2]
  have l1 : (decB k).length ≤ 10 := decB_len 9 k (by omega)
  have l2 : (decB v).length ≤ 10 := decB_len 9 v (by omega)
  refine draw_all (fun w' => Upd [] w2 w') (by decide +kernel) (Upd.refl _ _).drew ?_
  refine q_fa ?_
  refine q_ld (v := .int .u32 k) (fun w' hw' => (hb2.upd hw' (by simp)).cell 1) ?_
  refine rq (.int .u64 (k : Int)) (fun _ _ => cv (arU (by omega) ⟨rfl, rfl⟩)) ?_
  refine q_cl (.string (strOfNums (decB k))) (fun w' hw' => (rdigits_c k (by omega) w').mono fun _ _ ⟨u, he, h1, h2⟩ => ⟨u, he, h1, by rw [h2]; exact hw'⟩) ?_
  refine rq (.string (strOfNums ([105, 110, 115, 101, 114, 116, 32] ++ decB k))) (fun w' _ => sadd (a := strOfNums [105, 110, 115, 101, 114, 116, 32]) (by rw [strOfNums_size, strOfNums_size]; simp; omega) ⟨by rw [str_add], rfl⟩) ?_
  refine rq (.string (strOfNums ([105, 110, 115, 101, 114, 116, 32] ++ decB k ++ [32]))) (fun w' _ => sadd (b := strOfNums [32]) (by rw [strOfNums_size, strOfNums_size]; simp; omega) ⟨by rw [str_add], rfl⟩) ?_
  refine q_fa ?_
  refine q_ld (v := .int .u32 v) (fun w' hw' => (hb2.upd hw' (by simp)).cell 2) ?_
  refine rq (.int .u64 (v : Int)) (fun _ _ => cv (arU (by omega) ⟨rfl, rfl⟩)) ?_
  refine q_cl (.string (strOfNums (decB v))) (fun w' hw' => (rdigits_c v (by omega) w').mono fun _ _ ⟨u, he, h1, h2⟩ => ⟨u, he, h1, by rw [h2]; exact hw'⟩) ?_
  refine rq (.string (strOfNums ([105, 110, 115, 101, 114, 116, 32] ++ decB k ++ [32] ++ decB v))) (fun w' _ => sadd (by rw [strOfNums_size, strOfNums_size]; simp; omega) ⟨by rw [str_add], rfl⟩) ?_
  intro w3 hw3
  exact ⟨rfl, hU2.trans hw3⟩

/-- an answer's text -/
def tellL (o : Int) (k v : Nat) : List Int :=
  if ¬ rightAns o k v then [63] else if o = 0 then [100, 111, 110, 101] else if o = 1 then [102, 117, 108, 108] else if o = 3 then [101, 109, 112, 116, 121] else decB k ++ [32] ++ decB v
set_option maxRecDepth 10000 in
theorem tell_c (o : Int) (k v : Nat) (hk : k < 4294967296) (hv : v < 4294967296) (w : World) : Fn Tryd.prog 56 #[.agg (c3 o k v)] w fun r w' => r = .string (strOfNums (tellL o k v)) ∧ Upd [] w w' := by
  refine fn_enter Tryd.func56 rfl rfl ?_
  refine bx fun w1 hb1 hu1 hs1 => ?_
  have hb1 : Blk w1 w.heap.size 99 (c3 o k v) := hb1
  refine ldw hb1 rfl ?_
  refine cl (right_c54 o k v _) ?_
  rintro _ w2 ⟨rfl, hu2⟩
  have hb2 := hb1.upd hu2 (by simp)
  have hU2 := hu1.trans hu2
  unfold tellL
  refine cd (fun h => ?_) (fun h => ?_)
  · have h : ¬ rightAns o k v := h
    exact ⟨by rw [if_pos h]; rfl, hU2⟩
  have h : rightAns o k v := by simpa using h
  rw [if_neg (fun hn => hn h)]
  refine fa ?_
  refine ldb hb2 rfl ?_
  refine cd (fun h1 => ?_) (fun h1 => ?_)
  · exact ⟨by rw [if_pos h1]; rfl, hU2⟩
  rw [if_neg h1]
  refine cd (fun h2 => ?_) (fun h2 => ?_)
  · exact ⟨by rw [if_pos h2]; rfl, hU2⟩
  rw [if_neg h2]
  refine cd (fun h3 => ?_) (fun h3 => ?_)
  · exact ⟨by rw [if_pos h3]; rfl, hU2⟩
  rw [if_neg h3]
  have l1 : (decB k).length ≤ 10 := decB_len 9 k (by omega)
  have l2 : (decB v).length ≤ 10 := decB_len 9 v (by omega)
  refine draw_all (fun w' => Upd [] w2 w') (by decide +kernel) (Upd.refl _ _).drew ?_
  refine q_fa ?_
  refine q_ld (v := .int .u32 k) (fun w' hw' => (hb2.upd hw' (by simp)).cell 1) ?_
  refine q_cl (.string (strOfNums (decB k))) (fun w' hw' => (digits_c k hk w').mono fun _ _ ⟨u, he, h1, h2⟩ => ⟨u, he, h1, hw'.trans h2⟩) ?_
  refine rq (.string (strOfNums (decB k ++ [32]))) (fun w' _ => sadd (b := strOfNums [32]) (by rw [strOfNums_size, strOfNums_size]; simp; omega) ⟨by rw [str_add], rfl⟩) ?_
  refine q_fa ?_
  refine q_ld (v := .int .u32 v) (fun w' hw' => (hb2.upd hw' (by simp)).cell 2) ?_
  refine q_cl (.string (strOfNums (decB v))) (fun w' hw' => (digits_c v hv w').mono fun _ _ ⟨u, he, h1, h2⟩ => ⟨u, he, h1, hw'.trans h2⟩) ?_
  refine rq (.string (strOfNums (decB k ++ [32] ++ decB v))) (fun w' _ => sadd (by rw [strOfNums_size, strOfNums_size]; simp; omega) ⟨by rw [str_add], rfl⟩) ?_
  intro w3 hw3
  exact ⟨rfl, hU2.trans hw3⟩
end Go.Proofs.YtlhbgnoghjendaaDoor
