/- Contracts of the calls' functions: digits. -/
import Derived.Test.YtejofmohpjffkaaCa
namespace Go.Proofs.Ytejofmohpjffkaa
open Go.RowKit
attribute [local irreducible] Instr.loadAt Instr.storeAt Instr.fieldAt Instr.indexAt Instr.sliceAt Instr.buildSlice Instr.box Instr.alloc Builtin.append_ Builtin.len_ Builtin.min_ Builtin.max_ Calls Instr.build Instr.makeSlice binSem convert Instr.index Instr.range Instr.next

theorem tmod10 (m : Nat) : ((m : Int).tmod 10) = ((m % 10 : Nat) : Int) := by rw [Int.tmod_eq_emod_of_nonneg (by omega)]; omega
theorem tdiv10 (m : Nat) : ((m : Int).tdiv 10) = ((m / 10 : Nat) : Int) := by rw [Int.tdiv_eq_ediv_of_nonneg (by omega)]; omega
theorem wrapU32 {n : Int} (h : 0 ≤ n ∧ n ≤ 4294967295) : IntKind.u32.wrap n = n := by rw [IntKind.wrap_u32]; omega
theorem wrapU64 {n : Int} (h : 0 ≤ n ∧ n ≤ 18446744073709551615) : IntKind.u64.wrap n = n := by rw [IntKind.wrap_u64]; omega
theorem str_one (d : Nat) (l : List Int) : strOfNums [48 + (d : Int)] ++ strOfNums l = strOfNums ((48 + (d : Int)) :: l) := by rw [str_add]; rfl
set_option maxRecDepth 10000 in
theorem digits_c (m0 : Nat) (hm0 : m0 < 4294967296) (w : World) : Fn Try.prog 56 #[.int .u32 (m0 : Int)] w fun r w' => r = .string (strOfNums (decB m0)) ∧ Upd [] w w' := by
  refine fn_enter Try.func56 rfl rfl ?_
  have hlen : (decB m0).length ≤ 10 := decB_len 9 m0 (by omega)
  refine loop_rule [] [0, 3] (fun vs w' m => ∃ (n : Nat) (l : List Int), vs = [.int .u32 (n : Int), .string (strOfNums l)] ∧ m = n + 1 ∧ n < 4294967296 ∧ decB n ++ l = decB m0 ∧ Upd [] w w') rfl [.int .u32 (m0 : Int), .string (strOfNums [])] (m0 + 1) rfl ⟨m0, [], rfl, rfl, hm0, by simp, Upd.refl _ _⟩ ?_
  rintro _ w1 m ⟨n, l, rfl, rfl, hn, hl, hU⟩
  have hll : l.length ≤ 10 := by rw [← hl] at hlen; simp at hlen; omega
  refine rm (by decide) ?_
  refine val ((n % 10 : Nat) : Int) (tmod10 n) ?_
  refine ar32 (by omega) ?_
  refine cv ?_
  refine ar8 (by omega) ?_
  refine bs #[.int .u8 (48 + ((n % 10 : Nat) : Int))] (fun _ => by kernel_rfl) fun w2 hb2 hu2 hs2 => ?_
  refine cvb [48 + ((n % 10 : Nat) : Int)] rfl (fun i hi => by obtain rfl : i = 0 := by omega
                                                               exact hb2.cell 0) ?_
  refine sadd (by rw [strOfNums_size, strOfNums_size]; simp; omega) ?_
  refine qu (by decide) ?_
  refine val ((n / 10 : Nat) : Int) (by rw [tdiv10]; exact wrapU32 (by omega)) ?_
  rw [str_one]
  have hU2 := hU.trans hu2
  refine cd (fun h0 => ?_) (fun h0 => ?_)
  · have h10 : n < 10 := by omega
    refine ⟨?_, hU2⟩
    rw [← hl, decB_small h10, Nat.mod_eq_of_lt h10]
    rfl
  · have h10 : ¬ n < 10 := by omega
    refine round_mk [.int .u32 ((n / 10 : Nat) : Int), .string (strOfNums ((48 + ((n % 10 : Nat) : Int)) :: l))] (n / 10 + 1) rfl rfl ?_ (by omega)
    exact ⟨n / 10, _, rfl, rfl, by omega, by rw [← hl, decB_big h10]; simp, hU2⟩

theorem digit_at (d : Nat) (h : d < 10) : (ByteArray.mk #[48, 49, 50, 51, 52, 53, 54, 55, 56, 57]).extract d (d + 1) = strOfNums [48 + (d : Int)] := by
  rcases (show d = 0 ∨ d = 1 ∨ d = 2 ∨ d = 3 ∨ d = 4 ∨ d = 5 ∨ d = 6 ∨ d = 7 ∨ d = 8 ∨ d = 9 by omega) with rfl | rfl | rfl | rfl | rfl | rfl | rfl | rfl | rfl | rfl <;> decide +kernel
set_option maxRecDepth 10000 in
theorem rdigits_c (m0 : Nat) (hm0 : m0 < 18446744073709551616) (w : World) : Fn Try.prog 57 #[.int .u64 (m0 : Int)] w fun r w' => r = .string (strOfNums (decB m0)) ∧ w' = w := by
  refine fn_enter Try.func57 rfl rfl ?_
  have hlen : (decB m0).length ≤ 20 := decB_len 19 m0 (by omega)
  refine rm (by decide) ?_
  refine val ((m0 % 10 : Nat) : Int) (tmod10 m0) ?_
  refine rm (by decide) ?_
  refine val ((m0 % 10 : Nat) : Int) (tmod10 m0) ?_
  refine arU (by omega) ?_
  refine s_lohi (m0 % 10) (m0 % 10 + 1) rfl (by omega) (by omega) (by show m0 % 10 + 1 ≤ 10; omega) ?_
  rw [digit_at _ (by omega)]
  refine loop_rule [3] [0, 4] (fun vs w' m => ∃ (n : Nat) (l : List Int), vs = [.int .u64 (n : Int), .string (strOfNums ((48 + ((n % 10 : Nat) : Int)) :: l))] ∧ m = n + 1 ∧ n < 18446744073709551616 ∧ decB n ++ l = decB m0 ∧ w' = w) rfl [.int .u64 (m0 : Int), _] (m0 + 1) rfl ⟨m0, [], rfl, rfl, hm0, by simp, rfl⟩ ?_
  rintro _ w1 m ⟨n, l, rfl, rfl, hn, hl, rfl⟩
  have hll : l.length ≤ 20 := by rw [← hl] at hlen; simp at hlen; omega
  refine cd (fun h10 => ?_) (fun h10 => ?_)
  · have h10 : ¬ n < 10 := by omega
    refine qu (by decide) ?_
    refine val ((n / 10 : Nat) : Int) (by rw [tdiv10]; exact wrapU64 (by omega)) ?_
    refine rm (by decide) ?_
    refine val ((n / 10 % 10 : Nat) : Int) (tmod10 _) ?_
    refine rm (by decide) ?_
    refine val ((n / 10 % 10 : Nat) : Int) (tmod10 _) ?_
    refine arU (by omega) ?_
    refine s_lohi (n / 10 % 10) (n / 10 % 10 + 1) rfl (by omega) (by omega) (by show n / 10 % 10 + 1 ≤ 10; omega) ?_
    rw [digit_at _ (by omega)]
    refine sadd (by rw [strOfNums_size, strOfNums_size]; simp; omega) ?_
    rw [str_one]
    refine round_mk [.int .u64 ((n / 10 : Nat) : Int), _] (n / 10 + 1) rfl rfl ?_ (by omega)
    exact ⟨n / 10, _, rfl, rfl, by omega, by rw [← hl, decB_big h10]; simp, rfl⟩
  · have h10 : n < 10 := by omega
    refine ⟨?_, rfl⟩
    rw [← hl, decB_small h10, Nat.mod_eq_of_lt h10]
    rfl
end Go.Proofs.Ytejofmohpjffkaa
