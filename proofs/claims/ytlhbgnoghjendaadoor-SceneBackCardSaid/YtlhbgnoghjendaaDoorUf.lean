/- The line of draws, the reference's line of picks, its text of a configuration; which scripts are light. -/
import Derived.Test.YtlhbgnoghjendaaDoorUe
namespace Go.Proofs.YtlhbgnoghjendaaDoor
open Go.RowKit
attribute [local irreducible] Instr.loadAt Instr.storeAt Instr.fieldAt Instr.indexAt Instr.sliceAt Instr.buildSlice Instr.box Instr.alloc Builtin.append_ Builtin.len_ Builtin.min_ Builtin.max_ Calls Instr.build Instr.makeSlice binSem convert Instr.index Instr.range Instr.next
def hexB (d : Nat) : Int := if d < 10 then 48 + (d : Int) else 87 + (d : Int)
def byteL (d : Int) : List Int := [32] ++ [hexB (d.toNat / 16)] ++ [hexB (d.toNat % 16)]
def t_draws : List Int := [100,114,97,119,115]
def drawL (l : List Int) : List Int := t_draws ++ l.flatMap byteL
theorem flat_len (l : List Int) : (l.flatMap byteL).length = 3 * l.length := by
  induction l with
  | nil => rfl
  | cons x l ih =>
    rw [List.flatMap_cons, List.length_append, ih, List.length_cons]
    show 3 + _ = _
    omega
theorem drawL_len (l : List Int) : (drawL l).length = 5 + 3 * l.length := by
  unfold drawL
  rw [List.length_append, flat_len]; rfl
theorem drawL_take (l : List Int) (i : Nat) (hi : i < l.length) : drawL (l.take (i + 1)) = drawL (l.take i) ++ byteL (l.getD i 0) := by
  unfold drawL
  rw [getD_take l i hi, List.flatMap_append, List.append_assoc]
  simp
theorem hex_at (d : Nat) (h : d < 16) : (ByteArray.mk #[48,49,50,51,52,53,54,55,56,57,97,98,99,100,101,102]).extract d (d + 1) = strOfNums [hexB d] := by
  rcases (show d = 0 ∨ d = 1 ∨ d = 2 ∨ d = 3 ∨ d = 4 ∨ d = 5 ∨ d = 6 ∨ d = 7 ∨ d = 8 ∨ d = 9 ∨ d = 10 ∨ d = 11 ∨ d = 12 ∨ d = 13 ∨ d = 14 ∨ d = 15 by omega) with rfl | rfl | rfl | rfl | rfl | rfl | rfl | rfl | rfl | rfl | rfl | rfl | rfl | rfl | rfl | rfl <;> decide +kernel
section
variable {P : Program} {K : Value → World → Prop} {w : World}
theorem and8 {t : Nat} {x y : Operand} {a : Nat} (ha : a < 256) (k : K (.int .u8 ((a % 16 : Nat) : Int)) w) : RunP P (binSem .and t x y (.int .u8 (a : Int)) (.int .u8 15)) K w :=
  rn _ _ (by
    have e : ((BitVec.ofInt 8 (a : Int) &&& BitVec.ofInt 8 15).toNat) = a % 16 := by
      rw [BitVec.toNat_and, BitVec.toNat_ofInt, BitVec.toNat_ofInt]
      rw [show ((a : Int) % (2 ^ 8 : Nat)).toNat = a by omega, show ((15 : Int) % (2 ^ 8 : Nat)).toNat = 2 ^ 4 - 1 by decide, Nat.and_two_pow_sub_one_eq_mod]
    have e2 : IntKind.u8.wrap ((a % 16 : Nat) : Int) = ((a % 16 : Nat) : Int) := IntWalk.u8_in _ (by omega)
    simp only [binSem, eqGuard, binOp, Op.intBits]
    show (Sem.pure (Value.int IntKind.u8 (IntKind.u8.wrap ((BitVec.ofInt 8 (a : Int) &&& BitVec.ofInt 8 15).toNat : Int)))).run P w = _
    rw [e, e2]
    rfl) k
end
theorem q_ar8 {K : Value → Prop} {n : Int} (h : 0 ≤ n ∧ n ≤ 255) (k : K (.int .u8 n)) : ValQ .u8 (IntKind.u8.wrap n) K := ⟨by rw [IntWalk.u8_in n h]; exact k⟩
theorem fdiv16 (a : Nat) : (a : Int).fdiv (2 ^ min (4 : Int).toNat IntKind.u8.bits) = ((a / 16 : Nat) : Int) := by
  rw [show min (4 : Int).toNat IntKind.u8.bits = 4 by decide, show (2 : Int) ^ 4 = 16 by decide, Int.fdiv_eq_ediv_of_nonneg _ (by decide)]; omega
theorem tdiv16 (m : Nat) : ((m : Int).tdiv 16) = ((m / 16 : Nat) : Int) := by rw [Int.tdiv_eq_ediv_of_nonneg (by omega)]; omega
theorem tmod16 (m : Nat) : ((m : Int).tmod 16) = ((m % 16 : Nat) : Int) := by rw [Int.tmod_eq_emod_of_nonneg (by omega)]; omega
def okB (l : List Int) : Prop := ∀ i, i < l.length → 0 ≤ l.getD i 0 ∧ l.getD i 0 ≤ 255
set_option maxRecDepth 10000 in
theorem pairs_c {w : World} {v : Value} {ds : List Int} (h : RdK w .u8 v ds) (hok : okB ds) (hl : ds.length ≤ 5000) : Fn Tryd.prog 49 #[v] w fun r w' => r = .string (strOfNums (drawL ds)) ∧ Upd [] w w' := by
  obtain ⟨va, vc, rfl, hc1, hc2⟩ := h.form
  refine fn_enter Tryd.func49 rfl rfl ?_
  refine len_sl ?_
  refine loop_rule [6, 7] [3, 8] (fun vs w' m => ∃ i : Nat, vs = [.string (strOfNums (drawL (ds.take i))), .int .i64 i] ∧ i ≤ ds.length ∧ m = ds.length - i ∧ Upd [] w w') rfl [.string (strOfNums t_draws), .int .i64 0] ds.length rfl
    ⟨0, rfl, by omega, rfl, Upd.refl _ _⟩ ?_
  rintro _ w1 m ⟨i, rfl, hi, rfl, hU⟩
  refine cd (fun hlt => ?_) (fun hlt => ?_)
  · have hlt : i < ds.length := by omega
    obtain ⟨b, of, c', he, -⟩ := h.some_ (by omega)
    cases he
    refine ix i rfl hlt ?_
    refine ld ((h.upd0 hU).at_ rfl i hlt) ?_
    have hb := hok i hlt
    have hdl := drawL_len (ds.take i)
    rw [List.length_take, Nat.min_eq_left (by omega)] at hdl
    have htk := drawL_take ds i hlt
    obtain ⟨d, hd⟩ := Int.eq_ofNat_of_zero_le hb.1
    rw [hd] at htk hb ⊢
    refine draw_all (fun w' => w' = w1.drew) (by decide +kernel) rfl ?_
    refine rq (.int .u8 ((d / 16 : Nat) : Int)) (fun _ _ => sh_r (by decide) (val _ (fdiv16 d) ⟨rfl, rfl⟩)) ?_
    refine rq (.int .u8 ((d / 16 : Nat) : Int)) (fun _ _ => sh_r (by decide) (val _ (fdiv16 d) ⟨rfl, rfl⟩)) ?_
    refine q_ar8 (by omega) ?_
    refine rq (.string (strOfNums [hexB (d / 16)])) (fun _ _ => s_lohi (d / 16) (d / 16 + 1) rfl (by omega) (by omega) (by show d / 16 + 1 ≤ 16; omega) ⟨by rw [hex_at _ (by omega)], rfl⟩) ?_
    refine rq (.string (strOfNums ([32] ++ [hexB (d / 16)]))) (fun _ _ => sadd (a := strOfNums [32]) (by rw [strOfNums_size, strOfNums_size]; simp only [List.length_append, List.length_cons, List.length_nil]; omega) ⟨by rw [str_add], rfl⟩) ?_
    refine rq (.int .u8 ((d % 16 : Nat) : Int)) (fun _ _ => and8 (by omega) ⟨rfl, rfl⟩) ?_
    refine rq (.int .u8 ((d % 16 : Nat) : Int)) (fun _ _ => and8 (by omega) ⟨rfl, rfl⟩) ?_
    refine q_ar8 (by omega) ?_
    refine rq (.string (strOfNums [hexB (d % 16)])) (fun _ _ => s_lohi (d % 16) (d % 16 + 1) rfl (by omega) (by omega) (by show d % 16 + 1 ≤ 16; omega) ⟨by rw [hex_at _ (by omega)], rfl⟩) ?_
    refine rq (.string (strOfNums ([32] ++ [hexB (d / 16)] ++ [hexB (d % 16)]))) (fun _ _ => sadd (by rw [strOfNums_size, strOfNums_size]; simp only [List.length_append, List.length_cons, List.length_nil]; omega) ⟨by rw [str_add], rfl⟩) ?_
    refine rq (.string (strOfNums (drawL (ds.take i) ++ byteL (d : Int)))) (fun _ _ => sadd (by rw [strOfNums_size, strOfNums_size]; simp only [List.length_append, List.length_cons, List.length_nil]; omega) ⟨by rw [str_add]; rfl, rfl⟩) ?_
    rintro _ rfl
    refine ar64 (by omega) ?_
    exact round_mk [.string (strOfNums (drawL (ds.take (i + 1)))), .int .i64 ((i + 1 : Nat) : Int)] (ds.length - (i + 1)) rfl (by rw [htk]; rfl) ⟨i + 1, rfl, by omega, rfl, hU.drew⟩ (by omega)
  · obtain rfl : i = ds.length := by omega
    rw [List.take_length]
    exact ⟨rfl, hU⟩
end Go.Proofs.YtlhbgnoghjendaaDoor
