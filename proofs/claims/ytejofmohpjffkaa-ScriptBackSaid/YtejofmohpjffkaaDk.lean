/- How many calls; which scripts are light. -/
import Derived.Test.YtejofmohpjffkaaDj
namespace Go.Proofs.Ytejofmohpjffkaa
open Go.RowKit
attribute [local irreducible] Instr.loadAt Instr.storeAt Instr.fieldAt Instr.indexAt Instr.sliceAt Instr.buildSlice Instr.box Instr.alloc Builtin.append_ Builtin.len_ Builtin.min_ Builtin.max_ Calls Instr.build Instr.makeSlice binSem convert Instr.index Instr.range Instr.next
def tot (ls : List (List C3)) : Nat := (ls.map List.length).sum
theorem tot_take (ls : List (List C3)) (i : Nat) (h : i < ls.length) : tot (ls.take (i + 1)) = tot (ls.take i) + (ls.getD i []).length := by
  unfold tot
  rw [List.take_succ_eq_append_getElem h, List.map_append, List.sum_append]
  simp [List.getD, h]
theorem tot_le (ls : List (List C3)) : ∀ (i : Nat), tot (ls.take i) ≤ tot ls := by
  intro i
  have : tot ls = tot (ls.take i) + tot (ls.drop i) := by
    unfold tot
    rw [← List.sum_append, ← List.map_append, List.take_append_drop]
  omega
theorem tot_few {ls : List (List C3)} {B : Nat} (h : ∀ l ∈ ls, l.length ≤ B) : ∀ (i : Nat), i ≤ ls.length → tot (ls.take i) ≤ i * B
  | 0, _ => by simp [tot]
  | i + 1, hi => by
    rw [tot_take ls i (by omega)]
    have h1 := tot_few h i (by omega)
    have h2 := h (ls.getD i []) (by simp [List.getD, show i < ls.length by omega])
    rw [Nat.add_mul]; omega
/-- a script that came in, its cells -/
structure ScrB (w : World) (g : Nat) (c : K.Cf) (ls : List (List C3)) (ps ds : List Int) (kv pv dv : Value) (vals : List Value) : Prop where
  blk : Blk w g TS (scV c kv pv dv)
  calls : CallsR w kv ls vals
  picks : RdK w .i64 pv ps
  draws : RdK w .u8 dv ds
theorem ScrB.upd0 {w w' : World} {g : Nat} {c : K.Cf} {ls : List (List C3)} {ps ds : List Int} {kv pv dv : Value} {vals : List Value} (h : ScrB w g c ls ps ds kv pv dv vals) (hu : Upd [] w w') : ScrB w' g c ls ps ds kv pv dv vals :=
  ⟨h.blk.upd hu (by simp), h.calls.upd0 hu, h.picks.upd0 hu, h.draws.upd0 hu⟩
/-- a parameter's box -/
theorem Scr.boxed {w w1 : World} {c : K.Cf} {ls : List (List C3)} {ps ds : List Int} {kv pv dv : Value} {vals : List Value} (h2 : CallsR w kv ls vals) (h3 : RdK w .i64 pv ps) (h4 : RdK w .u8 dv ds) (hb : Blk w1 w.heap.size TS (scV c kv pv dv)) (hu : Upd [] w w1) :
    ScrB w1 w.heap.size c ls ps ds kv pv dv vals := ⟨hb, h2.upd0 hu, h3.upd0 hu, h4.upd0 hu⟩
theorem calls_n {w : World} {c : K.Cf} {ls : List (List C3)} {ps ds : List Int} {v : Value} (h : Scr w c ls ps ds v) (ht : tot ls ≤ 100000) : Fn Try.prog 43 #[v] w fun r w' => r = .int .i64 (tot ls : Int) ∧ Upd [] w w' := by
  obtain ⟨kv, pv, dv, vals, rfl, h2, h3, h4⟩ := h.h
  obtain ⟨ka, kc, rfl, hk1, hk2⟩ := h2.out.form
  simp only [maxLen] at hk2
  refine fn_enter Try.func43 rfl rfl ?_
  refine bx fun w1 hb1 hu1 hs1 => ?_
  have hb1 : Blk w1 w.heap.size TS (scV c (.slice ka ls.length kc) pv dv) := hb1
  refine fa ?_
  refine ldb hb1 rfl ?_
  refine len_sl ?_
  have hc1 := h2.upd0 hu1
  refine loop_rule [7, 8] [3, 9] (fun vs w' m => ∃ i : Nat, vs = [.int .i64 (tot (ls.take i) : Int), .int .i64 i] ∧ i ≤ ls.length ∧ m = ls.length - i ∧ Upd [] w1 w') rfl [.int .i64 0, .int .i64 0] ls.length rfl ⟨0, rfl, by omega, rfl, Upd.refl _ _⟩ ?_
  rintro _ w2 m ⟨i, rfl, hi, rfl, hu2⟩
  refine cd (fun hlt => ?_) (fun hlt => ?_)
  · have hlt : i < ls.length := by omega
    obtain ⟨kb, ko, kc', he, -⟩ := hc1.out.some_ (by omega)
    cases he
    obtain ⟨x, hx, hr⟩ := hc1.at_ i hlt
    obtain ⟨xa, xc, rfl, -⟩ := hr.form
    refine ix i rfl hlt ?_
    refine ld (by rw [(hc1.upd0 hu2).out.one rfl i hlt]; exact hx) ?_
    refine len_sl ?_
    have h5 := tot_take ls i hlt
    have h6 := tot_le ls (i + 1)
    refine ar64 (by omega) ?_
    refine ar64 (by omega) ?_
    exact round_mk [.int .i64 (tot (ls.take (i + 1)) : Int), .int .i64 ((i + 1 : Nat) : Int)] (ls.length - (i + 1)) rfl (by rw [h5]; rfl) ⟨i + 1, rfl, by omega, rfl, hu2⟩ (by omega)
  · have hi : i = ls.length := by omega
    subst hi
    rw [List.take_length]
    exact ⟨rfl, hu1.trans hu2⟩
def lightS (ls : List (List C3)) (ps ds : List Int) : Prop := ls.length ≤ 100 ∧ tot ls ≤ 1000 ∧ ps.length ≤ 70000 ∧ ds.length ≤ 10000
set_option maxRecDepth 10000 in
theorem light_c {w : World} {c : K.Cf} {ls : List (List C3)} {ps ds : List Int} {v : Value} (h : ScrIn w v c ls ps ds) : Fn Try.prog 39 #[v] w fun r w' => (∃ b : Bool, r = .bool b ∧ (b = true ↔ lightS ls ps ds)) ∧ Upd [] w w' := by
  obtain ⟨kv, pv, dv, vals, rfl, h2, h3, h4⟩ := h.scr.h
  obtain ⟨ka, kc, rfl, hk1, hk2⟩ := h2.out.form
  obtain ⟨pa, pc, rfl, -⟩ := h3.form
  obtain ⟨da, dc, rfl, -⟩ := h4.form
  simp only [maxLen] at hk2
  refine fn_enter Try.func39 rfl rfl ?_
  refine bx fun w1 hb1 hu1 hs1 => ?_
  have hb1 : Blk w1 w.heap.size TS (scV c (.slice ka ls.length kc) (.slice pa ps.length pc) (.slice da ds.length dc)) := hb1
  have hc1 := h2.upd0 hu1
  refine loop_rule [1] [3, 4] (fun vs w' m => ∃ i : Nat, vs = [.int .i64 (tot (ls.take i) : Int), .int .i64 i] ∧ i ≤ ls.length ∧ i ≤ 100 ∧ m = 100 - i ∧ Upd [] w1 w') rfl [.int .i64 0, .int .i64 0] 100 rfl ⟨0, rfl, by omega, by omega, rfl, Upd.refl _ _⟩ ?_
  rintro _ w2 m ⟨i, rfl, hi, hi2, rfl, hu2⟩
  have gb := hb1.upd hu2 (by simp)
  have hfew := tot_few h.few i hi
  refine fa ?_
  refine ldb gb rfl ?_
  refine len_sl ?_
  have exit_ : (i = ls.length ∨ i = 100) → ∀ (b : Bool), (b = true ↔ ((ls.length : Int) ≤ 100 ∧ (tot (ls.take i) : Int) ≤ 1000 ∧ (ps.length : Int) ≤ 70000 ∧ (ds.length : Int) ≤ 10000)) → (b = true ↔ lightS ls ps ds) := by
    intro hor b hb
    rw [hb]
    unfold lightS
    rcases hor with rfl | rfl
    · rw [List.take_length]; omega
    · by_cases hq : ls.length = 100
      · have : ls.take 100 = ls := List.take_of_length_le (by omega)
        rw [this]; omega
      · constructor <;> intro h <;> omega
  by_cases hlt : i < ls.length
  · refine cY (show (i : Int) < (ls.length : Int) by omega) ?_
    by_cases h100 : i < 100
    · refine cY (show (i : Int) < 100 by omega) ?_
      obtain ⟨kb, ko, kc', he, -⟩ := hc1.out.some_ (by omega)
      cases he
      obtain ⟨x, hx, hr⟩ := hc1.at_ i hlt
      obtain ⟨xa, xc, rfl, -⟩ := hr.form
      refine fa ?_
      refine ldb gb rfl ?_
      refine ix i rfl hlt ?_
      refine ld (by rw [(hc1.upd0 hu2).out.one rfl i hlt]; exact hx) ?_
      refine len_sl ?_
      have h5 := tot_take ls i hlt
      have hfew1 := tot_few h.few (i + 1) (by omega)
      refine ar64 (by omega) ?_
      refine ar64 (by omega) ?_
      exact round_mk [.int .i64 (tot (ls.take (i + 1)) : Int), .int .i64 ((i + 1 : Nat) : Int)] (100 - (i + 1)) rfl (by rw [h5]; rfl) ⟨i + 1, rfl, by omega, by omega, rfl, hu2⟩ (by omega)
    · refine cN (show ¬ (i : Int) < 100 by omega) ?_
      refine fa ?_
      refine ldb gb rfl ?_
      refine len_sl ?_
      have hU := hu1.trans hu2
      have fin := exit_ (.inr (by omega))
      by_cases q1 : (ls.length : Int) ≤ 100
      rotate_left
      · refine cN q1 ?_
        exact ⟨⟨_, rfl, fin _ (by simp; omega)⟩, hU⟩
      refine cY q1 ?_
      by_cases q2 : (tot (ls.take i) : Int) ≤ 1000
      rotate_left
      · refine cN q2 ?_
        exact ⟨⟨_, rfl, fin _ (by simp; omega)⟩, hU⟩
      refine cY q2 ?_
      refine fa ?_
      refine ldb gb rfl ?_
      refine len_sl ?_
      by_cases q3 : (ps.length : Int) ≤ 70000
      rotate_left
      · refine cN q3 ?_
        exact ⟨⟨_, rfl, fin _ (by simp; omega)⟩, hU⟩
      refine cY q3 ?_
      refine fa ?_
      refine ldb gb rfl ?_
      refine len_sl ?_
      exact ⟨⟨_, rfl, fin _ (by simp; omega)⟩, hU⟩
  · refine cN (show ¬ (i : Int) < (ls.length : Int) by omega) ?_
    refine fa ?_
    refine ldb gb rfl ?_
    refine len_sl ?_
    have hU := hu1.trans hu2
    have fin := exit_ (.inl (by omega))
    by_cases q1 : (ls.length : Int) ≤ 100
    rotate_left
    · refine cN q1 ?_
      exact ⟨⟨_, rfl, fin _ (by simp; omega)⟩, hU⟩
    refine cY q1 ?_
    by_cases q2 : (tot (ls.take i) : Int) ≤ 1000
    rotate_left
    · refine cN q2 ?_
      exact ⟨⟨_, rfl, fin _ (by simp; omega)⟩, hU⟩
    refine cY q2 ?_
    refine fa ?_
    refine ldb gb rfl ?_
    refine len_sl ?_
    by_cases q3 : (ps.length : Int) ≤ 70000
    rotate_left
    · refine cN q3 ?_
      exact ⟨⟨_, rfl, fin _ (by simp; omega)⟩, hU⟩
    refine cY q3 ?_
    refine fa ?_
    refine ldb gb rfl ?_
    refine len_sl ?_
    exact ⟨⟨_, rfl, fin _ (by simp; omega)⟩, hU⟩
end Go.Proofs.Ytejofmohpjffkaa
