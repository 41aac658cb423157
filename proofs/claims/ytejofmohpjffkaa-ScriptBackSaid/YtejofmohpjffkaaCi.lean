/- Contracts of the calls' functions: bytes. -/
import Derived.Test.YtejofmohpjffkaaCh
import Derived.Test.YtejofmohpjffkaaBt
namespace Go.Proofs.Ytejofmohpjffkaa
open Go.RowKit
attribute [local irreducible] Instr.loadAt Instr.storeAt Instr.fieldAt Instr.indexAt Instr.sliceAt Instr.buildSlice Instr.box Instr.alloc Builtin.append_ Builtin.len_ Builtin.min_ Builtin.max_ Calls Instr.build Instr.makeSlice binSem convert Instr.index Instr.range Instr.next

section
variable {P : Program} {K : Value → World → Prop} {w : World}
theorem bor32 {t : Nat} {x y : Operand} {a b : Nat} (ha : a < 4294967296) (hb : b < 4294967296) (k : K (.int .u32 ((a ||| b : Nat) : Int)) w) : RunP P (binSem .or t x y (.int .u32 (a : Int)) (.int .u32 (b : Int))) K w :=
  rn _ _ (by
    have e : ((BitVec.ofInt 32 (a : Int) ||| BitVec.ofInt 32 (b : Int)).toNat) = a ||| b := by
      rw [BitVec.toNat_or, BitVec.toNat_ofInt, BitVec.toNat_ofInt]
      congr 1 <;> omega
    have hlt : a ||| b < 2 ^ 32 := Nat.or_lt_two_pow (by omega) (by omega)
    have e2 : IntKind.u32.wrap ((a ||| b : Nat) : Int) = ((a ||| b : Nat) : Int) := wrapU32 (by omega)
    simp only [binSem, eqGuard, binOp, Op.intBits]
    show (Sem.pure (Value.int IntKind.u32 (IntKind.u32.wrap ((BitVec.ofInt 32 (a : Int) ||| BitVec.ofInt 32 (b : Int)).toNat : Int)))).run P w = _
    rw [e, e2]
    rfl) k
end
/-- so many bytes, the least first -/
def leN (l : List Int) (k : Nat) : Nat := ((List.range k).map fun i => (l.getD i 0).toNat * 256 ^ i).sum
theorem leN_succ (l : List Int) (k : Nat) : leN l (k + 1) = leN l k + (l.getD k 0).toNat * 256 ^ k := by simp [leN, List.range_succ]
theorem leN_lt (l : List Int) (h : ∀ i, (l.getD i 0).toNat ≤ 255) : ∀ k, leN l k < 256 ^ k
  | 0 => by simp [leN]
  | k + 1 => by
    rw [leN_succ, Nat.pow_succ]
    have := leN_lt l h k
    have h2 : (l.getD k 0).toNat * 256 ^ k ≤ 255 * 256 ^ k := Nat.mul_le_mul_right _ (h k)
    omega
theorem or_add (a c k : Nat) (h : a < 256 ^ k) : a ||| c * 256 ^ k = a + c * 256 ^ k := by
  have e : (256 : Nat) ^ k = 2 ^ (8 * k) := by rw [Nat.pow_mul]
  rw [e] at h ⊢
  have := Nat.shiftLeft_add_eq_or_of_lt h c
  rw [Nat.shiftLeft_eq] at this
  rw [Nat.or_comm, ← this, Nat.add_comm]

theorem byte_nat {w : World} {v : Value} {l : List Int} (h : Bts w v l) (i : Nat) : 0 ≤ l.getD i 0 ∧ l.getD i 0 ≤ 255 := by
  by_cases hi : i < l.length
  · exact h.byte i hi
  · rw [List.getD_eq_getElem?_getD, List.getElem?_eq_none (by omega)]; simp
theorem pow_le (j : Nat) (h : j < 4) : 256 ^ (j + 1) ≤ 4294967296 := Nat.le_trans (Nat.pow_le_pow_right (by omega) (show j + 1 ≤ 4 by omega)) (by decide)
theorem leN_long (l : List Int) : ∀ d, leN l (l.length + d) = leN l l.length
  | 0 => rfl
  | d + 1 => by rw [← Nat.add_assoc, leN_succ, leN_long l d, List.getD_eq_getElem?_getD, List.getElem?_eq_none (by omega)]; simp
set_option maxRecDepth 10000 in
theorem get_c (v : Value) (l : List Int) (w : World) (hv : Bts w v l) : Fn Try.prog 55 #[v] w fun r w' => r = .int .u32 (leN l 4 : Int) ∧ w' = w := by
  obtain ⟨a, cap, rfl, hcap⟩ := hv.form
  have hb := byte_nat hv
  have hbn : ∀ i, (l.getD i 0).toNat ≤ 255 := fun i => by have := hb i; omega
  refine fn_enter Try.func55 rfl rfl ?_
  refine len_sl ?_
  refine mn2 ?_
  refine val ((min 4 l.length : Nat) : Int) (by split <;> omega) ?_
  refine loop_rule [0, 7] [3, 8] (fun vs w' m => ∃ j : Nat, vs = [.int .u32 (leN l j : Int), .int .i64 j] ∧ j ≤ min 4 l.length ∧ m = 4 - j ∧ w' = w) rfl [.int .u32 0, .int .i64 0] 4 rfl ⟨0, rfl, by omega, rfl, rfl⟩ ?_
  rintro _ w1 m ⟨j, rfl, hj, rfl, rfl⟩
  refine cd (fun hlt => ?_) (fun hlt => ?_)
  · have hlt : j < 4 ∧ j < l.length := by omega
    obtain ⟨b, o, cap', he, -, hc⟩ := hv.some_ (by omega)
    cases he
    refine ix j rfl hlt.2 ?_
    refine ld (hc j hlt.2) ?_
    refine cv ?_
    refine ar32 (by have := hb j; omega) ?_
    refine ar64 (by omega) ?_
    refine sh_l (by omega) ?_
    have h1 : (l.getD j 0).toNat * 256 ^ j < 256 ^ (j + 1) := by
      rw [Nat.pow_succ]
      have := Nat.mul_le_mul_right (256 ^ j) (hbn j)
      have h0 : 0 < 256 ^ j := Nat.pow_pos (by omega)
      omega
    have h2 := pow_le j hlt.1
    refine val (((l.getD j 0).toNat * 256 ^ j : Nat) : Int) (by
      have e1 : min (8 * (j : Int)).toNat IntKind.u32.bits = 8 * j := by show min (8 * (j : Int)).toNat 32 = 8 * j; omega
      have e2 : (2 : Int) ^ (8 * j) = ((256 ^ j : Nat) : Int) := by rw [Int.natCast_pow, Int.pow_mul]; rfl
      have e3 : l.getD j 0 = ((l.getD j 0).toNat : Int) := by have := hb j; omega
      rw [e1, e2, e3, ← Int.natCast_mul]
      rw [wrapU32 (by omega)]
      rfl) ?_
    have h3 := leN_lt l hbn j
    refine bor32 (by have := Nat.pow_le_pow_right (n := 256) (by omega) (show j ≤ j + 1 by omega); omega) (by omega) ?_
    rw [or_add _ _ _ h3, ← leN_succ]
    refine ar64 (by omega) ?_
    refine round_mk [.int .u32 (leN l (j + 1) : Int), .int .i64 ((j + 1 : Nat) : Int)] (4 - (j + 1)) rfl rfl ?_ (by omega)
    exact ⟨j + 1, rfl, by omega, rfl, rfl⟩
  · refine ⟨?_, rfl⟩
    have hj : j = min 4 l.length := by omega
    rcases Nat.lt_or_ge l.length 4 with h4 | h4
    · have : j = l.length := by omega
      subst this
      have := leN_long l (4 - l.length)
      rw [show l.length + (4 - l.length) = 4 by omega] at this
      rw [this]; rfl
    · have : j = 4 := by omega
      subst this; rfl
end Go.Proofs.Ytejofmohpjffkaa
