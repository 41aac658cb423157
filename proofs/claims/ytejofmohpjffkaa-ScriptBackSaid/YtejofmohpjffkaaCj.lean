/- Contracts of the calls' functions: decoding. -/
import Derived.Test.YtejofmohpjffkaaCi
namespace Go.Proofs.Ytejofmohpjffkaa
open Go.RowKit
attribute [local irreducible] Instr.loadAt Instr.storeAt Instr.fieldAt Instr.indexAt Instr.sliceAt Instr.buildSlice Instr.box Instr.alloc Builtin.append_ Builtin.len_ Builtin.min_ Builtin.max_ Calls Instr.build Instr.makeSlice binSem convert Instr.index Instr.range Instr.next

theorem Bts.cut {w : World} {a : Option Addr} {cap : Nat} {l : List Int} (h : Bts w (.slice a l.length cap) l) (j : Nat) (hj : j ≤ l.length) : Bts w (.slice (if cap = j then a else a.map (·.add (j * 1))) (l.length - j) (cap - j)) (l.drop j) := by
  obtain ⟨a', cap', he, h1, h2, h3, h4, h5⟩ := h.h
  cases he
  refine ⟨⟨(if cap = j then a else a.map (·.add (j * 1))), cap - j, by rw [List.length_drop], by simp; omega, by omega, ?_, fun x hx => h4 x (List.mem_of_mem_drop hx), fun hp => ?_⟩⟩
  · intro hn
    by_cases hc : cap = j
    · omega
    · rw [if_neg hc] at hn
      have : a = none := by cases a <;> simp at hn ⊢
      have := h3 this
      omega
  · have hp2 : j < l.length := by simp at hp; omega
    obtain ⟨b, o, rfl, hb, hc⟩ := h5 (by omega)
    refine ⟨b, o + j, by rw [if_neg (by omega)]; simp [Addr.add_lit], hb, fun i hi => ?_⟩
    have hi' : j + i < l.length := by simp at hi; omega
    rw [Nat.add_assoc, hc (j + i) hi']
    simp [List.getD, List.getElem?_drop]
/-- what bytes decode to -/
def decO (l : List Int) : Int := ((l.getD 0 0).toNat % 3 : Nat)
def decR (l : List Int) : Int × Int × Int := if l = [] then (0, 0, 0) else if decO l = 0 then (0, (leN (l.drop 1) 4 : Int), (leN (l.drop 5) 4 : Int)) else (decO l, 0, 0)

set_option maxRecDepth 10000 in
theorem decode_c (v : Value) (l : List Int) (w : World) (hv : Bts w v l) : Fn Try.prog 29 #[v] w fun r w' => r = .agg (c3 (decR l).1 (decR l).2.1 (decR l).2.2) ∧ Upd [] w w' := by
  obtain ⟨a, cap, rfl, hcap⟩ := hv.form
  have hb := byte_nat hv
  refine fn_enter Try.func29 rfl rfl ?_
  refine al z3 (fun _ => by kernel_rfl) fun w1 hb1 hu1 hs1 => ?_
  refine len_sl ?_
  refine cd (fun h => ?_) (fun h => ?_)
  · have h : l = [] := List.eq_nil_of_length_eq_zero (by omega)
    refine bd (c3 0 0 0) (fun _ => by kernel_rfl) ?_
    refine stw hb1 rfl rfl rfl fun w2 hb2 hu2 hs2 => ?_
    refine rlw hb2 rfl ?_
    refine ⟨?_, hu1.step hu2 (by simp)⟩
    rw [decR, if_pos h]; rfl
  · have hne : l ≠ [] := fun e => h (by rw [e]; rfl)
    have hpos : 0 < l.length := List.length_pos_iff.2 hne
    obtain ⟨b, o, cap', he, -, hc⟩ := (hv.upd hu1).some_ hpos
    cases he
    refine ix 0 rfl hpos ?_
    refine ld (hc 0 hpos) ?_
    refine cv ?_
    refine ar64 (by have := hb 0; omega) ?_
    refine rm (by decide) ?_
    refine val (decO l) (by rw [Int.tmod_eq_emod_of_nonneg (hb 0).1]; unfold decO; have := hb 0; omega) ?_
    refine bd (c3 (decO l) 0 0) (fun _ => by kernel_rfl) ?_
    refine al z3 (fun _ => by kernel_rfl) fun w2 hb2 hu2 hs2 => ?_
    refine stw hb2 rfl rfl rfl fun w3 hb3 hu3 hs3 => ?_
    have hU3 := (hu1.trans hu2).step hu3 (by simp; omega)
    have hr3 := (hb1.upd hu2 (by simp)).upd hu3 (by simp; omega)
    refine fa ?_
    refine ldb hb3 rfl ?_
    refine cd (fun h0 => ?_) (fun h0 => ?_)
    · have hv3 := hv.upd hU3
      refine sl_lo 1 rfl (by omega) ?_
      refine cl (get_c _ _ _ (hv3.cut 1 (by omega))) ?_
      rintro _ w3 ⟨rfl, rfl⟩
      refine fa ?_
      refine st hb3 (by show 1 < 3; omega) rfl fun w4 hb4 hu4 hs4 => ?_
      have hU4 := hU3.step hu4 (by simp; omega)
      have hv4 := hv.upd hU4
      refine len_sl ?_
      refine mn2 ?_
      refine val ((min l.length 5 : Nat) : Int) (by split <;> omega) ?_
      refine sl_lo (min l.length 5) rfl (by omega) ?_
      refine cl (get_c _ _ _ (hv4.cut (min l.length 5) (by omega))) ?_
      rintro _ w4 ⟨rfl, rfl⟩
      refine fa ?_
      refine st hb4 (by rw [Array.size_setIfInBounds]; show 2 < 3; omega) rfl fun w5 hb5 hu5 hs5 => ?_
      have hU5 := hU4.step hu5 (by simp; omega)
      have e5 : l.drop (min l.length 5) = l.drop 5 := by
        rcases Nat.lt_or_ge l.length 5 with h5 | h5
        · rw [Nat.min_eq_left (by omega), List.drop_eq_nil_of_le (by omega), List.drop_eq_nil_of_le (by omega)]
        · rw [Nat.min_eq_right h5]
      rw [e5] at hb5
      have hb5 : Blk w5 w1.heap.size 43 (c3 (decO l) (leN (l.drop 1) 4 : Int) (leN (l.drop 5) 4 : Int)) := hb5
      refine ldw hb5 rfl ?_
      refine stw ((hr3.upd hu4 (by simp; omega)).upd hu5 (by simp; omega)) rfl rfl rfl fun w6 hb6 hu6 hs6 => ?_
      refine rlw hb6 rfl ?_
      refine ⟨?_, hU5.step hu6 (by simp)⟩
      rw [decR, if_neg hne, if_pos h0, h0]; rfl
    · refine ldw hb3 rfl ?_
      refine stw hr3 rfl rfl rfl fun w4 hb4 hu4 hs4 => ?_
      refine rlw hb4 rfl ?_
      refine ⟨?_, hU3.step hu4 (by simp)⟩
      rw [decR, if_neg hne, if_neg h0]; rfl
end Go.Proofs.Ytejofmohpjffkaa
