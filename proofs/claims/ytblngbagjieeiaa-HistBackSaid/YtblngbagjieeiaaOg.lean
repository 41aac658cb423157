/- Histories: the reference's text; May and Right of both. -/
import Derived.Test.YtblngbagjieeiaaOf
namespace Go.Proofs.Ytblngbagjieeiaa
open Go.RowKit
attribute [local irreducible] Instr.loadAt Instr.storeAt Instr.fieldAt Instr.indexAt Instr.sliceAt Instr.buildSlice Instr.box Instr.alloc Builtin.append_ Builtin.len_ Builtin.min_ Builtin.max_ Calls Instr.build Instr.makeSlice binSem convert Instr.index Instr.range Instr.next
attribute [local irreducible] Builtin.unsafeSliceData_ Builtin.unsafeString_ Instr.lookup Instr.mapUpdate Instr.makeMap Builtin.delete_
theorem RdR.lc {w : World} {v : Value} {l : List EvD} (h : RdE w v l) {b o k c : Nat} (hv : v = .slice (some ⟨b, o, none⟩) k c) (i : Nat) (hi : i < l.length) : ∀ (j : Nat) (u : Value), (c3V (l.getD i evZ).c).toList[j]? = some u → w.cell? ⟨b, o + i * 8 + 2 + j, none⟩ = some u := fun j u hu => by
  have hj : j < 3 := by
    rcases Nat.lt_or_ge j 3 with h | h
    · exact h
    · rw [List.getElem?_eq_none (by exact h)] at hu; cases hu
  rw [Nat.add_assoc, h.cell hv i (2 + j) hi (by omega)]
  match j, hu with
  | 0, hu => exact hu
  | 1, hu => exact hu
  | 2, hu => exact hu
theorem RdR.la {w : World} {v : Value} {l : List EvD} (h : RdE w v l) {b o k c : Nat} (hv : v = .slice (some ⟨b, o, none⟩) k c) (i : Nat) (hi : i < l.length) : ∀ (j : Nat) (u : Value), (c3V (l.getD i evZ).a).toList[j]? = some u → w.cell? ⟨b, o + i * 8 + 5 + j, none⟩ = some u := fun j u hu => by
  have hj : j < 3 := by
    rcases Nat.lt_or_ge j 3 with h | h
    · exact h
    · rw [List.getElem?_eq_none (by exact h)] at hu; cases hu
  rw [Nat.add_assoc, h.cell hv i (5 + j) hi (by omega)]
  match j, hu with
  | 0, hu => exact hu
  | 1, hu => exact hu
  | 2, hu => exact hu
set_option maxRecDepth 10000 in
theorem rshow_h {w : World} {v : Value} {l : List EvD} (h : RdE w v l) (hok : ∀ e ∈ l, okE e) (hl : l.length ≤ 1000) : Fn Try.prog 19 #[v] w fun r w' => r = .string (strOfNums (textL l)) ∧ Upd [] w w' := by
  obtain ⟨va, vc, rfl, hl1, hl2⟩ := h.form
  refine fn_enter Try.func19 rfl rfl ?_
  refine loop_rule [0] [3, 4] (fun vs w' mm => ∃ i : Nat, vs = [.string (strOfNums (textL (l.take i))), .int .i64 (i : Int)] ∧ i ≤ l.length ∧ mm = l.length - i ∧ Upd [] w w') rfl [.string (strOfNums []), .int .i64 0] l.length rfl ⟨0, rfl, by omega, rfl, Upd.refl _ _⟩ ?_
  rintro _ w2 mm ⟨i, rfl, hi, rfl, hU⟩
  refine len_sl ?_
  refine cd (fun hlt => ?_) (fun hlt => ?_)
  · have hlt : i < l.length := by omega
    have h2 := h.upd0 hU
    obtain ⟨b, o, c, hv, -⟩ := h2.some_ (by omega)
    cases hv
    have he := hok _ (show l.getD i evZ ∈ l by simp [List.getD, hlt])
    have htk := take_snoc evZ l i hlt
    have htl := textL_len (l := l.take i) (fun x hx => hok x (List.mem_of_mem_take hx))
    rw [List.length_take, Nat.min_eq_left (by omega)] at htl
    obtain ⟨⟨k1, k2⟩, k3, k4⟩ := he
    have k1' := k1; have k2' := k2; have k3' := k3; have k4' := k4
    unfold u32P at k1' k2' k3' k4'
    have hsl := showL_len (l.getD i evZ).c.1 (l.getD i evZ).c.2.1.toNat (l.getD i evZ).c.2.2.toNat (by omega) (by omega)
    have htl2 := tellL_len (l.getD i evZ).a.1 (l.getD i evZ).a.2.1.toNat (l.getD i evZ).a.2.2.toNat (by omega) (by omega)
    have hth1 := thL_len (l.getD i evZ).th
    refine ix i rfl hlt ?_
    refine fa ?_
    refine ld (v := .int .i64 (l.getD i evZ).th) (h2.cell0 rfl i hlt) ?_
    refine cd (fun q1 => ?_) (fun q1 => ?_)
    · refine ix i rfl hlt ?_
      refine fa ?_
      refine ld (v := .int .i64 (l.getD i evZ).th) (h2.cell0 rfl i hlt) ?_
      refine cd (fun q2 => ?_) (fun q2 => ?_)
      · refine ix i rfl hlt ?_
        refine fa ?_
        refine ld (v := .int .i64 (l.getD i evZ).th) (h2.cell0 rfl i hlt) ?_
        obtain ⟨m, hm⟩ := Int.eq_ofNat_of_zero_le (show 0 ≤ (l.getD i evZ).th from q1)
        have hm6 : m < 6 := by have q2 : (l.getD i evZ).th < 6 := q2; omega
        rw [hm]
        refine cv ?_
        refine val (m : Int) (by rw [IntKind.wrap_u64]; omega) ?_
        refine cl (rdigits_c m (by omega) w2) ?_
        rintro _ _ ⟨rfl, rfl⟩
        have e1 : decB m = thL (l.getD i evZ).th := by
          rw [decB_small (by omega), hm]; unfold thL
          rw [if_pos (show thereP (m : Int) from ⟨by omega, by omega⟩)]
        refine ix i rfl hlt ?_
        refine fa ?_
        refine ld (v := .bool (l.getD i evZ).bk) (h2.cell rfl i 1 hlt (by omega)) ?_
        cases hbk : (l.getD i evZ).bk with
        | true =>
          refine sadd (b := strOfNums (decB m)) (by rw [strOfNums_size, strOfNums_size, e1]; omega) ?_
          rw [str_add]
          refine sadd (b := strOfNums [32, 62, 32]) (by rw [strOfNums_size, strOfNums_size]; simp only [List.length_append, List.length_cons, List.length_nil, e1]; omega) ?_
          rw [str_add]
          refine ix i rfl hlt ?_
          refine fa ?_
          refine lda (c3V (l.getD i evZ).a).toList rfl (h2.la rfl i hlt) ?_
          refine cl (rtell_e (l.getD i evZ).a k3 k4 _) ?_
          rintro _ w3 ⟨rfl, hu3⟩
          refine sadd (by rw [strOfNums_size, strOfNums_size]; simp only [List.length_append, List.length_cons, List.length_nil, e1]; omega) ?_
          rw [str_add]
          refine sadd (b := strOfNums [10]) (by rw [strOfNums_size, strOfNums_size]; simp only [List.length_append, List.length_cons, List.length_nil, e1]; omega) ?_
          rw [str_add]
          refine ar64 (by omega) ?_
          exact round_mk [.string (strOfNums (textL (l.take i) ++ (decB m) ++ [32, 62, 32] ++ tellL (l.getD i evZ).a.1 (l.getD i evZ).a.2.1.toNat (l.getD i evZ).a.2.2.toNat ++ [10])), .int .i64 ((i + 1 : Nat) : Int)] (l.length - (i + 1)) rfl rfl ⟨i + 1, by
            rw [htk, textL_app]; unfold lineL; rw [hbk, e1]; simp, by omega, rfl, hU.trans hu3⟩ (by omega)
        | false =>
          refine sadd (b := strOfNums (decB m)) (by rw [strOfNums_size, strOfNums_size, e1]; omega) ?_
          rw [str_add]
          refine sadd (b := strOfNums [32, 60, 32]) (by rw [strOfNums_size, strOfNums_size]; simp only [List.length_append, List.length_cons, List.length_nil, e1]; omega) ?_
          rw [str_add]
          refine ix i rfl hlt ?_
          refine fa ?_
          refine lda (c3V (l.getD i evZ).c).toList rfl (h2.lc rfl i hlt) ?_
          refine cl (rshow_e (l.getD i evZ).c k1 k2 _) ?_
          rintro _ w3 ⟨rfl, hu3⟩
          refine sadd (by rw [strOfNums_size, strOfNums_size]; simp only [List.length_append, List.length_cons, List.length_nil, e1]; omega) ?_
          rw [str_add]
          refine sadd (b := strOfNums [10]) (by rw [strOfNums_size, strOfNums_size]; simp only [List.length_append, List.length_cons, List.length_nil, e1]; omega) ?_
          rw [str_add]
          refine ar64 (by omega) ?_
          exact round_mk [.string (strOfNums (textL (l.take i) ++ (decB m) ++ [32, 60, 32] ++ showL (l.getD i evZ).c.1 (l.getD i evZ).c.2.1.toNat (l.getD i evZ).c.2.2.toNat ++ [10])), .int .i64 ((i + 1 : Nat) : Int)] (l.length - (i + 1)) rfl rfl ⟨i + 1, by
            rw [htk, textL_app]; unfold lineL; rw [hbk, e1]; simp, by omega, rfl, hU.trans hu3⟩ (by omega)
      · have e1 : [63] = thL (l.getD i evZ).th := by
          unfold thL; rw [if_neg (fun h => q2 h.2)]
        refine ix i rfl hlt ?_
        refine fa ?_
        refine ld (v := .bool (l.getD i evZ).bk) (h2.cell rfl i 1 hlt (by omega)) ?_
        cases hbk : (l.getD i evZ).bk with
        | true =>
          refine sadd (b := strOfNums ([63])) (by rw [strOfNums_size, strOfNums_size, e1]; omega) ?_
          rw [str_add]
          refine sadd (b := strOfNums [32, 62, 32]) (by rw [strOfNums_size, strOfNums_size]; simp only [List.length_append, List.length_cons, List.length_nil, e1]; omega) ?_
          rw [str_add]
          refine ix i rfl hlt ?_
          refine fa ?_
          refine lda (c3V (l.getD i evZ).a).toList rfl (h2.la rfl i hlt) ?_
          refine cl (rtell_e (l.getD i evZ).a k3 k4 _) ?_
          rintro _ w3 ⟨rfl, hu3⟩
          refine sadd (by rw [strOfNums_size, strOfNums_size]; simp only [List.length_append, List.length_cons, List.length_nil, e1]; omega) ?_
          rw [str_add]
          refine sadd (b := strOfNums [10]) (by rw [strOfNums_size, strOfNums_size]; simp only [List.length_append, List.length_cons, List.length_nil, e1]; omega) ?_
          rw [str_add]
          refine ar64 (by omega) ?_
          exact round_mk [.string (strOfNums (textL (l.take i) ++ ([63]) ++ [32, 62, 32] ++ tellL (l.getD i evZ).a.1 (l.getD i evZ).a.2.1.toNat (l.getD i evZ).a.2.2.toNat ++ [10])), .int .i64 ((i + 1 : Nat) : Int)] (l.length - (i + 1)) rfl rfl ⟨i + 1, by
            rw [htk, textL_app]; unfold lineL; rw [hbk, e1]; simp, by omega, rfl, hU.trans hu3⟩ (by omega)
        | false =>
          refine sadd (b := strOfNums ([63])) (by rw [strOfNums_size, strOfNums_size, e1]; omega) ?_
          rw [str_add]
          refine sadd (b := strOfNums [32, 60, 32]) (by rw [strOfNums_size, strOfNums_size]; simp only [List.length_append, List.length_cons, List.length_nil, e1]; omega) ?_
          rw [str_add]
          refine ix i rfl hlt ?_
          refine fa ?_
          refine lda (c3V (l.getD i evZ).c).toList rfl (h2.lc rfl i hlt) ?_
          refine cl (rshow_e (l.getD i evZ).c k1 k2 _) ?_
          rintro _ w3 ⟨rfl, hu3⟩
          refine sadd (by rw [strOfNums_size, strOfNums_size]; simp only [List.length_append, List.length_cons, List.length_nil, e1]; omega) ?_
          rw [str_add]
          refine sadd (b := strOfNums [10]) (by rw [strOfNums_size, strOfNums_size]; simp only [List.length_append, List.length_cons, List.length_nil, e1]; omega) ?_
          rw [str_add]
          refine ar64 (by omega) ?_
          exact round_mk [.string (strOfNums (textL (l.take i) ++ ([63]) ++ [32, 60, 32] ++ showL (l.getD i evZ).c.1 (l.getD i evZ).c.2.1.toNat (l.getD i evZ).c.2.2.toNat ++ [10])), .int .i64 ((i + 1 : Nat) : Int)] (l.length - (i + 1)) rfl rfl ⟨i + 1, by
            rw [htk, textL_app]; unfold lineL; rw [hbk, e1]; simp, by omega, rfl, hU.trans hu3⟩ (by omega)
    · have e1 : [63] = thL (l.getD i evZ).th := by
        unfold thL; rw [if_neg (fun h => q1 h.1)]
      refine ix i rfl hlt ?_
      refine fa ?_
      refine ld (v := .bool (l.getD i evZ).bk) (h2.cell rfl i 1 hlt (by omega)) ?_
      cases hbk : (l.getD i evZ).bk with
      | true =>
        refine sadd (b := strOfNums ([63])) (by rw [strOfNums_size, strOfNums_size, e1]; omega) ?_
        rw [str_add]
        refine sadd (b := strOfNums [32, 62, 32]) (by rw [strOfNums_size, strOfNums_size]; simp only [List.length_append, List.length_cons, List.length_nil, e1]; omega) ?_
        rw [str_add]
        refine ix i rfl hlt ?_
        refine fa ?_
        refine lda (c3V (l.getD i evZ).a).toList rfl (h2.la rfl i hlt) ?_
        refine cl (rtell_e (l.getD i evZ).a k3 k4 _) ?_
        rintro _ w3 ⟨rfl, hu3⟩
        refine sadd (by rw [strOfNums_size, strOfNums_size]; simp only [List.length_append, List.length_cons, List.length_nil, e1]; omega) ?_
        rw [str_add]
        refine sadd (b := strOfNums [10]) (by rw [strOfNums_size, strOfNums_size]; simp only [List.length_append, List.length_cons, List.length_nil, e1]; omega) ?_
        rw [str_add]
        refine ar64 (by omega) ?_
        exact round_mk [.string (strOfNums (textL (l.take i) ++ ([63]) ++ [32, 62, 32] ++ tellL (l.getD i evZ).a.1 (l.getD i evZ).a.2.1.toNat (l.getD i evZ).a.2.2.toNat ++ [10])), .int .i64 ((i + 1 : Nat) : Int)] (l.length - (i + 1)) rfl rfl ⟨i + 1, by
          rw [htk, textL_app]; unfold lineL; rw [hbk, e1]; simp, by omega, rfl, hU.trans hu3⟩ (by omega)
      | false =>
        refine sadd (b := strOfNums ([63])) (by rw [strOfNums_size, strOfNums_size, e1]; omega) ?_
        rw [str_add]
        refine sadd (b := strOfNums [32, 60, 32]) (by rw [strOfNums_size, strOfNums_size]; simp only [List.length_append, List.length_cons, List.length_nil, e1]; omega) ?_
        rw [str_add]
        refine ix i rfl hlt ?_
        refine fa ?_
        refine lda (c3V (l.getD i evZ).c).toList rfl (h2.lc rfl i hlt) ?_
        refine cl (rshow_e (l.getD i evZ).c k1 k2 _) ?_
        rintro _ w3 ⟨rfl, hu3⟩
        refine sadd (by rw [strOfNums_size, strOfNums_size]; simp only [List.length_append, List.length_cons, List.length_nil, e1]; omega) ?_
        rw [str_add]
        refine sadd (b := strOfNums [10]) (by rw [strOfNums_size, strOfNums_size]; simp only [List.length_append, List.length_cons, List.length_nil, e1]; omega) ?_
        rw [str_add]
        refine ar64 (by omega) ?_
        exact round_mk [.string (strOfNums (textL (l.take i) ++ ([63]) ++ [32, 60, 32] ++ showL (l.getD i evZ).c.1 (l.getD i evZ).c.2.1.toNat (l.getD i evZ).c.2.2.toNat ++ [10])), .int .i64 ((i + 1 : Nat) : Int)] (l.length - (i + 1)) rfl rfl ⟨i + 1, by
          rw [htk, textL_app]; unfold lineL; rw [hbk, e1]; simp, by omega, rfl, hU.trans hu3⟩ (by omega)
  · have hie : i = l.length := by omega
    subst hie
    rw [List.take_length]
    exact ⟨rfl, hU⟩
end Go.Proofs.Ytblngbagjieeiaa
