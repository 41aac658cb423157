/- How many calls; which scripts may be: the program's and the reference's. -/
import Derived.Test.YtlhbgnoghjendaaDoorUb
namespace Go.Proofs.YtlhbgnoghjendaaDoor
open Go.RowKit
attribute [local irreducible] Instr.loadAt Instr.storeAt Instr.fieldAt Instr.indexAt Instr.sliceAt Instr.buildSlice Instr.box Instr.alloc Builtin.append_ Builtin.len_ Builtin.min_ Builtin.max_ Calls Instr.build Instr.makeSlice binSem convert Instr.index Instr.range Instr.next
def tot (ls : List (List C3)) : Nat := (ls.map List.length).sum
theorem tot_take (ls : List (List C3)) (i : Nat) (h : i < ls.length) : tot (ls.take (i + 1)) = tot (ls.take i) + (ls.getD i []).length := by
  unfold tot
  rw [List.take_succ_eq_append_getElem h, List.map_append, List.sum_append]
  simp [List.getD, h]
theorem tot_le (ls : List (List C3)) : ∀ (i : Nat), tot (ls.take i) ≤ tot ls := by
  intro i
  have : tot ls = tot (ls.take i) + tot (ls.drop i) := by
    unfold tot
    rw [← List.sum_append, ← List.map_append, List.take_append_drop]
  omega
theorem tot_few {ls : List (List C3)} {B : Nat} (h : ∀ l ∈ ls, l.length ≤ B) : ∀ (i : Nat), i ≤ ls.length → tot (ls.take i) ≤ i * B
  | 0, _ => by simp [tot]
  | i + 1, hi => by
    rw [tot_take ls i (by omega)]
    have h1 := tot_few h i (by omega)
    have h2 := h (ls.getD i []) (by simp [List.getD, show i < ls.length by omega])
    rw [Nat.add_mul]; omega
/-- a script that came in, its cells -/
structure ScrB (w : World) (g : Nat) (c : Cf) (ls : List (List C3)) (ps ds : List Int) (kv pv dv : Value) (vals : List Value) : Prop where
  blk : Blk w g TS (scV c kv pv dv)
  calls : CallsR w kv ls vals
  picks : RdK w .i64 pv ps
  draws : RdK w .u8 dv ds
theorem ScrB.upd0 {w w' : World} {g : Nat} {c : Cf} {ls : List (List C3)} {ps ds : List Int} {kv pv dv : Value} {vals : List Value} (h : ScrB w g c ls ps ds kv pv dv vals) (hu : Upd [] w w') : ScrB w' g c ls ps ds kv pv dv vals :=
  ⟨h.blk.upd hu (by simp), h.calls.upd0 hu, h.picks.upd0 hu, h.draws.upd0 hu⟩
/-- a parameter's box -/
theorem Scr.boxed {w w1 : World} {c : Cf} {ls : List (List C3)} {ps ds : List Int} {kv pv dv : Value} {vals : List Value} (h2 : CallsR w kv ls vals) (h3 : RdK w .i64 pv ps) (h4 : RdK w .u8 dv ds) (hb : Blk w1 w.heap.size TS (scV c kv pv dv)) (hu : Upd [] w w1) :
    ScrB w1 w.heap.size c ls ps ds kv pv dv vals := ⟨hb, h2.upd0 hu, h3.upd0 hu, h4.upd0 hu⟩
theorem calls_n {w : World} {c : Cf} {ls : List (List C3)} {ps ds : List Int} {v : Value} (h : Scr w c ls ps ds v) (ht : tot ls ≤ 100000) : Fn Tryd.prog 63 #[v] w fun r w' => r = .int .i64 (tot ls : Int) ∧ Upd [] w w' := by
  obtain ⟨kv, pv, dv, vals, rfl, h2, h3, h4⟩ := h.h
  obtain ⟨ka, kc, rfl, hk1, hk2⟩ := h2.out.form
  simp only [maxLen] at hk2
  refine fn_enter Tryd.func63 rfl rfl ?_
  refine bx fun w1 hb1 hu1 hs1 => ?_
  have hb1 : Blk w1 w.heap.size TS (scV c (.slice ka ls.length kc) pv dv) := hb1
  refine fa ?_
  refine ldb hb1 rfl ?_
  refine len_sl ?_
  have hc1 := h2.upd0 hu1
  refine loop_rule [7, 8] [3, 9] (fun vs w' m => ∃ i : Nat, vs = [.int .i64 (tot (ls.take i) : Int), .int .i64 i] ∧ i ≤ ls.length ∧ m = ls.length - i ∧ Upd [] w1 w') rfl [.int .i64 0, .int .i64 0] ls.length rfl ⟨0, rfl, by omega, rfl, Upd.refl _ _⟩ ?_
  rintro _ w2 m ⟨i, rfl, hi, rfl, hu2⟩
  refine cd (fun hlt => ?_) (fun hlt => ?_)
  · have hlt : i < ls.length := by omega
    obtain ⟨kb, ko, kc', he, -⟩ := hc1.out.some_ (by omega)
    cases he
    obtain ⟨x, hx, hr⟩ := hc1.at_ i hlt
    obtain ⟨xa, xc, rfl, -⟩ := hr.form
    refine ix i rfl hlt ?_
    refine ld (by rw [(hc1.upd0 hu2).out.one rfl i hlt]; exact hx) ?_
    refine len_sl ?_
    have h5 := tot_take ls i hlt
    have h6 := tot_le ls (i + 1)
    refine ar64 (by omega) ?_
    refine ar64 (by omega) ?_
    exact round_mk [.int .i64 (tot (ls.take (i + 1)) : Int), .int .i64 ((i + 1 : Nat) : Int)] (ls.length - (i + 1)) rfl (by rw [h5]; rfl) ⟨i + 1, rfl, by omega, rfl, hu2⟩ (by omega)
  · have hi : i = ls.length := by omega
    subst hi
    rw [List.take_length]
    exact ⟨rfl, hu1.trans hu2⟩
def rightS (c : Cf) (ls : List (List C3)) (ps ds : List Int) : Prop :=
  rightC c ∧ (ls.length : Int) = c.T ∧ tot ls ≤ 48 ∧ ps.length ≤ 60000 ∧ ds.length ≤ 4096 ∧ (∀ i, i < ls.length → ∀ j, j < (ls.getD i []).length → rightCall ((ls.getD i []).getD j (0, 0, 0)).1 ((ls.getD i []).getD j (0, 0, 0)).2.1 ((ls.getD i []).getD j (0, 0, 0)).2.2) ∧ (∀ i, i < ps.length → 0 ≤ ps.getD i 0 ∧ ps.getD i 0 < c.T)
set_option maxRecDepth 10000 in
theorem right_sc {w : World} {c : Cf} {ls : List (List C3)} {ps ds : List Int} {v : Value} (h : Scr w c ls ps ds v) (ht : tot ls ≤ 100000) : Fn Tryd.prog 37 #[v] w fun r w' => (∃ b : Bool, r = .bool b ∧ (b = true ↔ rightS c ls ps ds)) ∧ Upd [] w w' := by
  obtain ⟨kv, pv, dv, vals, rfl, h2, h3, h4⟩ := h.h
  obtain ⟨ka, kc, rfl, hk1, hk2⟩ := h2.out.form
  obtain ⟨pa, pc, rfl, hp1, hp2⟩ := h3.form
  obtain ⟨da, dc, rfl, -⟩ := h4.form
  simp only [maxLen] at hk2 hp2
  refine fn_enter Tryd.func37 rfl rfl ?_
  refine bx fun w1 hb1 hu1 hs1 => ?_
  have hb1 : Blk w1 w.heap.size TS (scV c (.slice ka ls.length kc) (.slice pa ps.length pc) (.slice da ds.length dc)) := hb1
  refine fa ?_
  refine ldcf hb1 ?_
  refine cl (check_c c _) ?_
  rintro _ w2 ⟨rfl, hu2⟩
  have hU2 := hu1.trans hu2
  by_cases hc : rightC c
  rotate_left
  · have he : errC c = 6 := if_neg hc
    rw [he]
    exact ⟨⟨_, rfl, iff_of_false (by simp) (fun h => by
      obtain ⟨h1, h2, h3, h4, h5, h6, h7⟩ := h
      exact hc h1)⟩, hU2⟩
  have he : errC c = 0 := if_pos hc
  rw [he]
  have hb2 := hb1.upd hu2 (by simp)
  generalize w.heap.size = g at *
  refine fa ?_
  refine ldb hb2 rfl ?_
  refine len_sl ?_
  refine fa ?_
  refine fa ?_
  refine ldb hb2 (v := .int .i64 c.T) rfl ?_
  by_cases q1 : (ls.length : Int) ≠ c.T
  · refine cY q1 ?_
    exact ⟨⟨_, rfl, iff_of_false (by simp) (fun h => by
      obtain ⟨h1, h2, h3, h4, h5, h6, h7⟩ := h
      exact q1 h2)⟩, hU2⟩
  refine cN q1 ?_
  refine ldw hb2 rfl ?_
  refine cl (calls_n (h.upd0 hU2) ht) ?_
  rintro _ w3 ⟨rfl, hu3⟩
  have hU3 := hU2.trans hu3
  have hb3 := hb2.upd hu3 (by simp)
  by_cases q2 : (tot ls : Int) > 48
  · refine cY q2 ?_
    exact ⟨⟨_, rfl, iff_of_false (by simp) (fun h => by
      obtain ⟨h1, h2, h3, h4, h5, h6, h7⟩ := h
      omega)⟩, hU3⟩
  refine cN q2 ?_
  refine fa ?_
  refine ldb hb3 rfl ?_
  refine len_sl ?_
  by_cases q3 : (ps.length : Int) > 60000
  · refine cY q3 ?_
    exact ⟨⟨_, rfl, iff_of_false (by simp) (fun h => by
      obtain ⟨h1, h2, h3, h4, h5, h6, h7⟩ := h
      omega)⟩, hU3⟩
  refine cN q3 ?_
  refine fa ?_
  refine ldb hb3 rfl ?_
  refine len_sl ?_
  by_cases q4 : (ds.length : Int) > 4096
  · refine cY q4 ?_
    exact ⟨⟨_, rfl, iff_of_false (by simp) (fun h => by
      obtain ⟨h1, h2, h3, h4, h5, h6, h7⟩ := h
      omega)⟩, hU3⟩
  refine cN q4 ?_
  refine fa ?_
  refine ldb hb3 rfl ?_
  refine len_sl ?_
  have hc3 := h2.upd0 hU3
  have hp3 := h3.upd0 hU3
  refine loop_rule [1, 40, 41] [42] (fun vs w' m => ∃ i : Nat, vs = [.int .i64 i] ∧ i ≤ ls.length ∧ m = ls.length - i ∧ Upd [] w3 w' ∧ ∀ t, t < i → ∀ j, j < (ls.getD t []).length → rightCall ((ls.getD t []).getD j (0, 0, 0)).1 ((ls.getD t []).getD j (0, 0, 0)).2.1 ((ls.getD t []).getD j (0, 0, 0)).2.2) rfl [.int .i64 0] ls.length rfl
    ⟨0, rfl, by omega, rfl, Upd.refl _ _, fun t ht => absurd ht (by omega)⟩ ?_
  rintro _ w4 m ⟨i, rfl, hi, rfl, hu4, hr4⟩
  refine cd (fun hlt => ?_) (fun hlt => ?_)
  · have hlt : i < ls.length := by omega
    obtain ⟨kb, ko, kc', he', -⟩ := hc3.out.some_ (by omega)
    cases he'
    obtain ⟨x, hx, hrx⟩ := hc3.at_ i hlt
    obtain ⟨xa, xc, rfl, hx1, hx2⟩ := hrx.form
    simp only [maxLen] at hx2
    refine ix i rfl hlt ?_
    refine ld (by rw [(hc3.upd0 hu4).out.one rfl i hlt]; exact hx) ?_
    refine len_sl ?_
    refine loop_rule [1, 40, 41, 42, 46, 47] [48] (fun vs w' m => ∃ j : Nat, vs = [.int .i64 j] ∧ j ≤ (ls.getD i []).length ∧ m = (ls.getD i []).length - j ∧ Upd [] w3 w' ∧ ∀ t, t < j → rightCall ((ls.getD i []).getD t (0, 0, 0)).1 ((ls.getD i []).getD t (0, 0, 0)).2.1 ((ls.getD i []).getD t (0, 0, 0)).2.2) rfl [.int .i64 0] _ rfl
      ⟨0, rfl, by omega, rfl, hu4, fun t ht => absurd ht (by omega)⟩ ?_
    rintro _ w5 m ⟨j, rfl, hj, rfl, hu5, hr5⟩
    refine cd (fun hlj => ?_) (fun hlj => ?_)
    · have hlj : j < (ls.getD i []).length := by omega
      obtain ⟨xb, xo, xc', he', -⟩ := hrx.some_ (by omega)
      cases he'
      refine ix j rfl hlj ?_
      refine ld3 (hrx.upd0 hu5) rfl j hlj ?_
      generalize hgx : (ls.getD i []).getD j (0, 0, 0) = y at *
      refine al (c3 0 0 0) (fun _ => by kernel_rfl) fun w6 hb6 hu6 hs6 => ?_
      refine stw hb6 rfl rfl rfl fun w7 hb7 hu7 hs7 => ?_
      refine ldw hb7 rfl ?_
      refine cl (right_c26 y.1 y.2.1 y.2.2 w7) ?_
      rintro _ w8 ⟨rfl, hu8⟩
      have hU8 : Upd [] w3 w8 := ((hu5.trans hu6).step hu7 (by have := hu5.size; simp; omega)).trans hu8
      refine cd (fun hr => ?_) (fun hr => ?_)
      · exact ⟨⟨_, rfl, iff_of_false (by simp) (fun h => by
          obtain ⟨h1, h2, h3, h4, h5, h6, h7⟩ := h
          have := h6 i hlt j hlj; rw [hgx] at this; exact hr this)⟩, hU3.trans hU8⟩
      · refine ar64 (by omega) ?_
        refine round_mk [.int .i64 ((j + 1 : Nat) : Int)] ((ls.getD i []).length - (j + 1)) rfl rfl ⟨j + 1, rfl, by omega, rfl, hU8, fun t ht => ?_⟩ (by omega)
        by_cases htj : t = j
        · subst htj; rw [hgx]; exact Classical.not_not.1 hr
        · exact hr5 t (by omega)
    · have hj : j = (ls.getD i []).length := by omega
      refine ar64 (by omega) ?_
      refine round_mk [.int .i64 ((i + 1 : Nat) : Int)] (ls.length - (i + 1)) rfl rfl ⟨i + 1, rfl, by omega, rfl, hu5, fun t ht k hk => ?_⟩ (by omega)
      by_cases hti : t = i
      · subst hti; exact hr5 k (by omega)
      · exact hr4 t (by omega) k hk
  have hb4 := hb3.upd hu4 (by simp)
  refine fa ?_
  refine ldb hb4 rfl ?_
  refine len_sl ?_
  refine loop_rule [1, 58, 59] [60] (fun vs w' m => ∃ i : Nat, vs = [.int .i64 i] ∧ i ≤ ps.length ∧ m = ps.length - i ∧ Upd [] w3 w' ∧ ∀ t, t < i → 0 ≤ ps.getD t 0 ∧ ps.getD t 0 < c.T) rfl [.int .i64 0] ps.length rfl
    ⟨0, rfl, by omega, rfl, hu4, fun t ht => absurd ht (by omega)⟩ ?_
  rintro _ w5 m ⟨k, rfl, hk, rfl, hu5, hr5⟩
  refine cd (fun hlt2 => ?_) (fun hlt2 => ?_)
  · have hlk : k < ps.length := by omega
    obtain ⟨pb, po, pc', he', -⟩ := hp3.some_ (by omega)
    cases he'
    refine ix k rfl hlk ?_
    refine ld ((hp3.upd0 hu5).at_ rfl k hlk) ?_
    by_cases hneg : ps.getD k 0 < 0
    · refine cY hneg ?_
      exact ⟨⟨_, rfl, iff_of_false (by simp) (fun h => by
        obtain ⟨h1, h2, h3, h4, h5, h6, h7⟩ := h
        have := h7 k hlk; omega)⟩, hU3.trans hu5⟩
    refine cN hneg ?_
    refine fa ?_
    refine fa ?_
    refine ldb (hb3.upd hu5 (by simp)) (v := .int .i64 c.T) rfl ?_
    refine cd (fun hge => ?_) (fun hge => ?_)
    · exact ⟨⟨_, rfl, iff_of_false (by simp) (fun h => by
        obtain ⟨h1, h2, h3, h4, h5, h6, h7⟩ := h
        have := h7 k hlk; omega)⟩, hU3.trans hu5⟩
    · refine ar64 (by omega) ?_
      refine round_mk [.int .i64 ((k + 1 : Nat) : Int)] (ps.length - (k + 1)) rfl rfl ⟨k + 1, rfl, by omega, rfl, hu5, fun t ht => ?_⟩ (by omega)
      by_cases htk : t = k
      · subst htk; omega
      · exact hr5 t (by omega)
  · refine ⟨⟨_, rfl, iff_of_true rfl ⟨hc, by omega, by omega, by omega, by omega, fun t ht => hr4 t (by omega), fun t ht => hr5 t (by omega)⟩⟩, hU3.trans hu5⟩
set_option maxRecDepth 10000 in
theorem rright_sc {w : World} {c : Cf} {ls : List (List C3)} {ps ds : List Int} {v : Value} (h : Scr w c ls ps ds v) : Fn Tryd.prog 44 #[v] w fun r w' => (∃ b : Bool, r = .bool b ∧ (b = true ↔ rightS c ls ps ds)) ∧ Upd [] w w' := by
  obtain ⟨kv, pv, dv, vals, rfl, h2, h3, h4⟩ := h.h
  obtain ⟨ka, kc, rfl, hk1, hk2⟩ := h2.out.form
  obtain ⟨pa, pc, rfl, hp1, hp2⟩ := h3.form
  obtain ⟨da, dc, rfl, -⟩ := h4.form
  simp only [maxLen] at hk2 hp2
  refine fn_enter Tryd.func44 rfl rfl ?_
  refine bx fun w1 hb1 hu1 hs1 => ?_
  have hb1 : Blk w1 w.heap.size TS (scV c (.slice ka ls.length kc) (.slice pa ps.length pc) (.slice da ds.length dc)) := hb1
  refine fa ?_
  refine ldcf hb1 ?_
  refine cl (rright_c c _) ?_
  rintro _ w2 ⟨rfl, hu2⟩
  have hU2 := hu1.trans hu2
  by_cases hc : rightC c
  rotate_left
  · refine cY hc ?_
    exact ⟨⟨_, rfl, iff_of_false (by simp) (fun h => by
      obtain ⟨h1, h2, h3, h4, h5, h6, h7⟩ := h
      exact hc h1)⟩, hU2⟩
  refine cN (fun h => h hc) ?_
  have hb2 := hb1.upd hu2 (by simp)
  generalize w.heap.size = g at *
  refine fa ?_
  refine ldb hb2 rfl ?_
  refine len_sl ?_
  refine fa ?_
  refine fa ?_
  refine ldb hb2 (v := .int .i64 c.T) rfl ?_
  by_cases q1 : (ls.length : Int) ≠ c.T
  · refine cY q1 ?_
    exact ⟨⟨_, rfl, iff_of_false (by simp) (fun h => by
      obtain ⟨h1, h2, h3, h4, h5, h6, h7⟩ := h
      exact q1 h2)⟩, hU2⟩
  refine cN q1 ?_
  refine fa ?_
  refine ldb hb2 rfl ?_
  refine len_sl ?_
  by_cases q3 : (ps.length : Int) > 60000
  · refine cY q3 ?_
    exact ⟨⟨_, rfl, iff_of_false (by simp) (fun h => by
      obtain ⟨h1, h2, h3, h4, h5, h6, h7⟩ := h
      omega)⟩, hU2⟩
  refine cN q3 ?_
  refine fa ?_
  refine ldb hb2 rfl ?_
  refine len_sl ?_
  by_cases q4 : (ds.length : Int) > 4096
  · refine cY q4 ?_
    exact ⟨⟨_, rfl, iff_of_false (by simp) (fun h => by
      obtain ⟨h1, h2, h3, h4, h5, h6, h7⟩ := h
      omega)⟩, hU2⟩
  refine cN q4 ?_
  have hc3 := h2.upd0 hU2
  have hp3 := h3.upd0 hU2
  refine loop_rule [1] [3, 4] (fun vs w' m => ∃ i : Nat, vs = [.int .i64 (tot (ls.take i) : Int), .int .i64 i] ∧ i ≤ ls.length ∧ m = ls.length - i ∧ tot (ls.take i) ≤ 48 ∧ Upd [] w2 w' ∧ ∀ t, t < i → ∀ j, j < (ls.getD t []).length → rightCall ((ls.getD t []).getD j (0, 0, 0)).1 ((ls.getD t []).getD j (0, 0, 0)).2.1 ((ls.getD t []).getD j (0, 0, 0)).2.2) rfl [.int .i64 0, .int .i64 0] ls.length rfl
    ⟨0, rfl, by omega, rfl, by simp [tot], Upd.refl _ _, fun t ht => absurd ht (by omega)⟩ ?_
  rintro _ w4 m ⟨i, rfl, hi, rfl, htot, hu4, hr4⟩
  have hb4 := hb2.upd hu4 (by simp)
  refine fa ?_
  refine ldb hb4 rfl ?_
  refine len_sl ?_
  refine cd (fun hlt => ?_) (fun hlt => ?_)
  · have hlt : i < ls.length := by omega
    obtain ⟨kb, ko, kc', he', -⟩ := hc3.out.some_ (by omega)
    cases he'
    obtain ⟨x, hx, hrx⟩ := hc3.at_ i hlt
    obtain ⟨xa, xc, rfl, hx1, hx2⟩ := hrx.form
    simp only [maxLen] at hx2
    have htk := tot_take ls i hlt
    have htl := tot_le ls (i + 1)
    refine loop_rule [1, 4] [3, 5] (fun vs w' m => ∃ j : Nat, vs = [.int .i64 ((tot (ls.take i) + j : Nat) : Int), .int .i64 j] ∧ j ≤ (ls.getD i []).length ∧ m = (ls.getD i []).length - j ∧ tot (ls.take i) + j ≤ 48 ∧ Upd [] w2 w' ∧ ∀ t, t < j → rightCall ((ls.getD i []).getD t (0, 0, 0)).1 ((ls.getD i []).getD t (0, 0, 0)).2.1 ((ls.getD i []).getD t (0, 0, 0)).2.2) rfl [.int .i64 (tot (ls.take i) : Int), .int .i64 0] _ rfl
      ⟨0, rfl, by omega, rfl, by omega, hu4, fun t ht => absurd ht (by omega)⟩ ?_
    rintro _ w5 m ⟨j, rfl, hj, rfl, htj, hu5, hr5⟩
    have hb5 := hb2.upd hu5 (by simp)
    refine fa ?_
    refine ldb hb5 rfl ?_
    refine ix i rfl hlt ?_
    refine ld (by rw [(hc3.upd0 hu5).out.one rfl i hlt]; exact hx) ?_
    refine len_sl ?_
    refine cd (fun hlj => ?_) (fun hlj => ?_)
    · have hlj : j < (ls.getD i []).length := by omega
      refine ar64 (by omega) ?_
      by_cases hbig : ((tot (ls.take i) + j : Nat) : Int) + 1 > 48
      · refine cY hbig ?_
        exact ⟨⟨_, rfl, iff_of_false (by simp) (fun h => by
          obtain ⟨h1, h2, h3, h4, h5, h6, h7⟩ := h
          omega)⟩, hU2.trans hu5⟩
      refine cN hbig ?_
      obtain ⟨xb, xo, xc', he', -⟩ := hrx.some_ (by omega)
      cases he'
      refine fa ?_
      refine ldb hb5 rfl ?_
      refine ix i rfl hlt ?_
      refine ld (by rw [(hc3.upd0 hu5).out.one rfl i hlt]; exact hx) ?_
      refine ix j rfl hlj ?_
      refine ld3 (hrx.upd0 hu5) rfl j hlj ?_
      generalize hgx : (ls.getD i []).getD j (0, 0, 0) = y at *
      refine cl (right_c24 y.1 y.2.1 y.2.2 w5) ?_
      rintro _ w8 ⟨rfl, hu8⟩
      refine cd (fun hr => ?_) (fun hr => ?_)
      · exact ⟨⟨_, rfl, iff_of_false (by simp) (fun h => by
          obtain ⟨h1, h2, h3, h4, h5, h6, h7⟩ := h
          have := h6 i hlt j hlj; rw [hgx] at this; exact hr this)⟩, (hU2.trans hu5).trans hu8⟩
      · refine ar64 (by omega) ?_
        refine round_mk [.int .i64 ((tot (ls.take i) + (j + 1) : Nat) : Int), .int .i64 ((j + 1 : Nat) : Int)] ((ls.getD i []).length - (j + 1)) rfl rfl ⟨j + 1, rfl, by omega, rfl, by omega, hu5.trans hu8, fun t ht => ?_⟩ (by omega)
        by_cases htj : t = j
        · subst htj; rw [hgx]; exact Classical.not_not.1 hr
        · exact hr5 t (by omega)
    · have hj : j = (ls.getD i []).length := by omega
      refine ar64 (by omega) ?_
      refine round_mk [.int .i64 (tot (ls.take (i + 1)) : Int), .int .i64 ((i + 1 : Nat) : Int)] (ls.length - (i + 1)) rfl (by rw [htk, hj]; rfl) ⟨i + 1, rfl, by omega, rfl, by omega, hu5, fun t ht k hk => ?_⟩ (by omega)
      by_cases hti : t = i
      · subst hti; exact hr5 k (by omega)
      · exact hr4 t (by omega) k hk
  have hi : i = ls.length := by omega
  subst hi
  rw [List.take_length] at htot
  refine loop_rule [1] [6] (fun vs w' m => ∃ i : Nat, vs = [.int .i64 i] ∧ i ≤ ps.length ∧ m = ps.length - i ∧ Upd [] w2 w' ∧ ∀ t, t < i → 0 ≤ ps.getD t 0 ∧ ps.getD t 0 < c.T) rfl [.int .i64 0] ps.length rfl
    ⟨0, rfl, by omega, rfl, hu4, fun t ht => absurd ht (by omega)⟩ ?_
  rintro _ w5 m ⟨k, rfl, hk, rfl, hu5, hr5⟩
  have hb5 := hb2.upd hu5 (by simp)
  refine fa ?_
  refine ldb hb5 rfl ?_
  refine len_sl ?_
  refine cd (fun hlt2 => ?_) (fun hlt2 => ?_)
  · have hlk : k < ps.length := by omega
    obtain ⟨pb, po, pc', he', -⟩ := hp3.some_ (by omega)
    cases he'
    refine draw_all (fun w' => w' = w5.drew) (by decide +kernel) rfl ?_
    refine q_fa ?_
    refine q_ld (v := .slice (some ⟨pb, po, none⟩) ps.length pc) (by rintro _ rfl; exact hb5.drew.cell 8) ?_
    refine q_ix k rfl hlk ?_
    refine q_ld (v := .int .i64 (ps.getD k 0)) (by rintro _ rfl; exact (hp3.upd0 hu5.drew).at_ rfl k hlk) ?_
    by_cases hneg : ps.getD k 0 < 0
    · refine cY hneg ?_
      rintro _ rfl
      exact ⟨⟨_, rfl, iff_of_false (by simp) (fun h => by
        obtain ⟨h1, h2, h3, h4, h5, h6, h7⟩ := h
        have := h7 k hlk; omega)⟩, hU2.trans hu5.drew⟩
    refine cN hneg ?_
    refine q_fa ?_
    refine q_ld (v := .slice (some ⟨pb, po, none⟩) ps.length pc) (by rintro _ rfl; exact hb5.drew.cell 8) ?_
    refine q_ix k rfl hlk ?_
    refine q_ld (v := .int .i64 (ps.getD k 0)) (by rintro _ rfl; exact (hp3.upd0 hu5.drew).at_ rfl k hlk) ?_
    refine q_fa ?_
    refine q_fa ?_
    refine q_ld (v := .int .i64 c.T) (by rintro _ rfl; exact hb5.drew.cell 1) ?_
    rintro _ rfl
    refine cd (fun hge => ?_) (fun hge => ?_)
    · exact ⟨⟨_, rfl, iff_of_false (by simp) (fun h => by
        obtain ⟨h1, h2, h3, h4, h5, h6, h7⟩ := h
        have := h7 k hlk; omega)⟩, hU2.trans hu5.drew⟩
    · refine ar64 (by omega) ?_
      refine round_mk [.int .i64 ((k + 1 : Nat) : Int)] (ps.length - (k + 1)) rfl rfl ⟨k + 1, rfl, by omega, rfl, hu5.drew, fun t ht => ?_⟩ (by omega)
      by_cases htk : t = k
      · subst htk; omega
      · exact hr5 t (by omega)
  · refine ⟨⟨_, rfl, iff_of_true rfl ⟨hc, by omega, by omega, by omega, by omega, fun t ht => hr4 t (by omega), fun t ht => hr5 t (by omega)⟩⟩, hU2.trans hu5⟩
end Go.Proofs.YtlhbgnoghjendaaDoor
