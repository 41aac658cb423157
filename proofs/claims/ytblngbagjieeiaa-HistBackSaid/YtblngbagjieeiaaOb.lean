/- Histories: contracts: what may be; the reference's May. -/
import Derived.Test.YtblngbagjieeiaaOa
import Derived.Test.YtblngbagjieeiaaTy
import Derived.Test.YtblngbagjieeiaaCt
namespace Go.Proofs.Ytblngbagjieeiaa
open Go.RowKit
attribute [local irreducible] Instr.loadAt Instr.storeAt Instr.fieldAt Instr.indexAt Instr.sliceAt Instr.buildSlice Instr.box Instr.alloc Builtin.append_ Builtin.len_ Builtin.min_ Builtin.max_ Calls Instr.build Instr.makeSlice binSem convert Instr.index Instr.range Instr.next
abbrev TEv : Nat := 33
abbrev TCl : Nat := 29
abbrev TAn : Nat := 31
def c3V (x : C3) : Array Value := #[.int .i64 x.1, .int .u32 x.2.1, .int .u32 x.2.2]
def evV (e : EvD) : Array Value := #[.int .i64 e.th, .bool e.bk, .int .i64 e.c.1, .int .u32 e.c.2.1, .int .u32 e.c.2.2, .int .i64 e.a.1, .int .u32 e.a.2.1, .int .u32 e.a.2.2]
def evL (e : EvD) : List Value := (evV e).toList
abbrev RdE (w : World) (v : Value) (l : List EvD) : Prop := RdR w 8 evL v l
theorem cright_c (x : C3) (w : World) : Fn Try.prog 33 #[.agg (c3V x)] w fun r w' => r = .bool (decide (rightC3 x)) ∧ Upd [] w w' := by
  obtain ⟨o, k, v⟩ := x
  refine fn_enter Try.func33 rfl rfl ?_
  refine bx fun w1 hb1 hu1 hs1 => ?_
  have hb1 : Blk w1 w.heap.size TCl #[.int .i64 o, .int .u32 k, .int .u32 v] := hb1
  repeat' (first | refine fa ?_ | refine ldb hb1 rfl ?_ | (refine cd (fun _ => ?_) (fun _ => ?_)) | exact ⟨bl (by simp [rightC3]; try omega), hu1⟩)
theorem rright_c (x : C3) (w : World) : Fn Try.prog 30 #[.agg (c3V x)] w fun r w' => r = .bool (decide (rightC3 x)) ∧ Upd [] w w' := by
  obtain ⟨o, k, v⟩ := x
  refine fn_enter Try.func30 rfl rfl ?_
  refine bx fun w1 hb1 hu1 hs1 => ?_
  have hb1 : Blk w1 w.heap.size TCl #[.int .i64 o, .int .u32 k, .int .u32 v] := hb1
  repeat' (first | refine fa ?_ | refine ldb hb1 rfl ?_ | (refine cd (fun _ => ?_) (fun _ => ?_)) | exact ⟨bl (by simp [rightC3]; try omega), hu1⟩)
theorem caright_c (x : C3) (w : World) : Fn Try.prog 55 #[.agg (c3V x)] w fun r w' => r = .bool (decide (rightA3 x)) ∧ Upd [] w w' := by
  obtain ⟨o, k, v⟩ := x
  refine fn_enter Try.func55 rfl rfl ?_
  refine bx fun w1 hb1 hu1 hs1 => ?_
  have hb1 : Blk w1 w.heap.size TAn #[.int .i64 o, .int .u32 k, .int .u32 v] := hb1
  repeat' (first | refine fa ?_ | refine ldb hb1 rfl ?_ | (refine cd (fun _ => ?_) (fun _ => ?_)) | exact ⟨bl (by simp [rightA3]; try omega), hu1⟩)
theorem rmay_c (x : C3) (w : World) : Fn Try.prog 54 #[.agg (c3V x)] w fun r w' => r = .bool (decide (rightA3 x)) ∧ Upd [] w w' := by
  obtain ⟨o, k, v⟩ := x
  refine fn_enter Try.func54 rfl rfl ?_
  refine bx fun w1 hb1 hu1 hs1 => ?_
  have hb1 : Blk w1 w.heap.size TAn #[.int .i64 o, .int .u32 k, .int .u32 v] := hb1
  repeat' (first | refine fa ?_ | refine ldb hb1 rfl ?_ | (refine cd (fun _ => ?_) (fun _ => ?_)) | exact ⟨bl (by simp [rightA3]; try omega), hu1⟩)
theorem there_c (n : Int) (w : World) : Fn Try.prog 31 #[.int .i64 n] w fun r w' => r = .bool (decide (thereP n)) ∧ w' = w := by
  refine fn_enter Try.func31 rfl rfl ?_
  refine cd (fun h => ?_) (fun h => ?_)
  · exact ⟨bl (by simp [thereP]; omega), rfl⟩
  · exact ⟨bl (by simp [thereP]; omega), rfl⟩
theorem cfits_c (c a : C3) (w : World) : Fn Try.prog 32 #[.agg (c3V c), .agg (c3V a)] w fun x w' => x = .bool (decide (fits3 c a)) ∧ Upd [] w w' := by
  refine fn_enter Try.func32 rfl rfl ?_
  refine bx fun w1 hb1 hu1 hs1 => ?_
  refine bx fun w2 hb2 hu2 hs2 => ?_
  have hb1 : Blk w2 w.heap.size TCl (c3V c) := hb1.upd hu2 (by simp)
  have hb2 : Blk w2 w1.heap.size TAn (c3V a) := hb2
  have hU := hu1.trans hu2
  refine ldw hb1 rfl ?_
  refine cl (cright_c c _) ?_
  rintro _ w3 ⟨rfl, hu3⟩
  have hU3 := hU.trans hu3
  refine cd (fun h => ?_) (fun h => ?_)
  · exact ⟨bl (by simp [fits3]; intro h1; exact absurd h1 h), hU3⟩
  · have h : rightC3 c := by simpa using h
    refine ldw (hb2.upd hu3 (by simp)) rfl ?_
    refine cl (caright_c a _) ?_
    rintro _ w4 ⟨rfl, hu4⟩
    have hU4 := hU3.trans hu4
    have hb14 := (hb1.upd hu3 (by simp)).upd hu4 (by simp)
    have hb24 := (hb2.upd hu3 (by simp)).upd hu4 (by simp)
    refine cd (fun h2 => ?_) (fun h2 => ?_)
    · exact ⟨bl (by simp [fits3]; intro _ h1; exact absurd h1 h2), hU4⟩
    · have h2 : rightA3 a := by simpa using h2
      refine fa ?_
      refine ldb hb14 (v := .int .i64 c.1) rfl ?_
      refine fa ?_
      refine ldb hb24 (v := .int .i64 a.1) rfl ?_
      refine cd (fun h3 => ?_) (fun h3 => ?_)
      · refine bq ?_
        exact ⟨bl (by simp [fits3, h, h2, h3]), hU4⟩
      · refine fa ?_
        refine ldb hb24 (v := .int .i64 a.1) rfl ?_
        refine bq ?_
        exact ⟨bl (by simp [fits3, h, h2, h3]; rw [Bool.eq_iff_iff]; simp), hU4⟩
theorem rfits_c (c a : C3) (w : World) : Fn Try.prog 29 #[.agg (c3V c), .agg (c3V a)] w fun x w' => x = .bool (decide (fits3 c a)) ∧ Upd [] w w' := by
  refine fn_enter Try.func29 rfl rfl ?_
  refine bx fun w1 hb1 hu1 hs1 => ?_
  refine bx fun w2 hb2 hu2 hs2 => ?_
  have hb1 : Blk w2 w.heap.size TCl (c3V c) := hb1.upd hu2 (by simp)
  have hb2 : Blk w2 w1.heap.size TAn (c3V a) := hb2
  have hU := hu1.trans hu2
  refine ldw hb1 rfl ?_
  refine cl (rright_c c _) ?_
  rintro _ w3 ⟨rfl, hu3⟩
  have hU3 := hU.trans hu3
  refine cd (fun h => ?_) (fun h => ?_)
  rotate_left
  · exact ⟨bl (by simp [fits3]; intro h1; exact absurd h1 h), hU3⟩
  refine ldw (hb2.upd hu3 (by simp)) rfl ?_
  refine cl (rmay_c a _) ?_
  rintro _ w4 ⟨rfl, hu4⟩
  have hU4 := hU3.trans hu4
  have hb14 := (hb1.upd hu3 (by simp)).upd hu4 (by simp)
  have hb24 := (hb2.upd hu3 (by simp)).upd hu4 (by simp)
  refine cd (fun h2 => ?_) (fun h2 => ?_)
  rotate_left
  · exact ⟨bl (by simp [fits3]; intro _ h1; exact absurd h1 h2), hU4⟩
  refine fa ?_
  refine ldb hb14 (v := .int .i64 c.1) rfl ?_
  refine fa ?_
  refine ldb hb24 (v := .int .i64 a.1) rfl ?_
  refine bq ?_
  have e : a.1 < 2 ↔ (a.1 = 0 ∨ a.1 = 1) := by
    unfold rightA3 at h2
    omega
  exact ⟨bl (by simp [fits3, h, h2, e]; rw [Bool.eq_iff_iff]; simp), hU4⟩
theorem evL_len (e : EvD) : (evL e).length = 8 := rfl
theorem RdR.cell {w : World} {v : Value} {l : List EvD} (h : RdE w v l) {b o k c : Nat} (hv : v = .slice (some ⟨b, o, none⟩) k c) (i j : Nat) (hi : i < l.length) (hj : j < 8) : w.cell? ⟨b, o + i * 8 + j, none⟩ = (evL (l.getD i evZ))[j]? := by
  rw [h.at_ hv i j hi hj]
  simp [List.getD, hi]
theorem RdR.cell0 {w : World} {v : Value} {l : List EvD} (h : RdE w v l) {b o k c : Nat} (hv : v = .slice (some ⟨b, o, none⟩) k c) (i : Nat) (hi : i < l.length) : w.cell? ⟨b, o + i * 8, none⟩ = some (.int .i64 (l.getD i evZ).th) := h.cell hv i 0 hi (by omega)
theorem opn_c {w : World} {v : Value} {l : List EvD} (h : RdE w v l) (n : Nat) (hn : n ≤ l.length) (th : Int) : Fn Try.prog 28 #[v, .int .i64 (n : Int), .int .i64 th] w fun r w' => r = .int .i64 (opn l th n) ∧ w' = w := by
  obtain ⟨va, vc, rfl, hl1, hl2⟩ := h.form
  have hmx : l.length ≤ 9223372036854775807 := by simp only [maxLen] at hl2; omega
  refine fn_enter Try.func28 rfl rfl ?_
  refine ar64 (by omega) ?_
  refine loop_rule [0, 2] [7] (fun vs w' mm => ∃ k : Nat, vs = [.int .i64 ((k : Int) - 1)] ∧ k ≤ n ∧ opn l th k = opn l th n ∧ mm = k ∧ w' = w) rfl [.int .i64 ((n : Int) - 1)] n rfl ⟨n, rfl, Nat.le_refl _, rfl, rfl, rfl⟩ ?_
  rintro _ w1 mm ⟨k, rfl, hk, ho, rfl, rfl⟩
  refine cd (fun h0 => ?_) (fun h0 => ?_)
  · have h0 : 0 ≤ (mm : Int) - 1 := h0
    obtain ⟨k, rfl⟩ : ∃ k, mm = k + 1 := ⟨mm - 1, by omega⟩
    have e : ((k + 1 : Nat) : Int) - 1 = (k : Int) := by omega
    rw [e]
    obtain ⟨b, o, c, hv, -⟩ := h.some_ (by omega)
    cases hv
    have os : opn l th (k + 1) = if (l.getD k evZ).th = th then (if (l.getD k evZ).bk then -1 else (k : Int)) else opn l th k := rfl
    rw [← ho, os]
    refine ix k rfl (by omega) ?_
    refine fa ?_
    refine ld (v := .int .i64 (l.getD k evZ).th) (h.cell0 rfl k (by omega)) ?_
    refine cd (fun ht => ?_) (fun ht => ?_)
    · rw [if_pos ht]
      refine ix k rfl (by omega) ?_
      refine fa ?_
      refine ld (v := .bool (l.getD k evZ).bk) (h.cell rfl k 1 (by omega) (by omega)) ?_
      cases hb : (l.getD k evZ).bk with
      | true => exact ⟨rfl, rfl⟩
      | false => exact ⟨rfl, rfl⟩
    · rw [if_neg ht]
      refine ar64 (by omega) ?_
      exact round_mk [.int .i64 ((k : Int) - 1)] k rfl rfl ⟨k, rfl, by omega, rfl, rfl, rfl⟩ (by omega)
  · have h0 : ¬ 0 ≤ (mm : Int) - 1 := h0
    have : mm = 0 := by omega
    subst this
    exact ⟨by rw [← ho]; rfl, rfl⟩
end Go.Proofs.Ytblngbagjieeiaa
