/- The law HistBack: its walk. -/
import Derived.Test.YtblngbagjieeiaaOs
namespace Go.Proofs.Ytblngbagjieeiaa
open Go.RowKit
attribute [local irreducible] Instr.loadAt Instr.storeAt Instr.fieldAt Instr.indexAt Instr.sliceAt Instr.buildSlice Instr.box Instr.alloc Builtin.append_ Builtin.len_ Builtin.min_ Builtin.max_ Calls Instr.build Instr.makeSlice binSem convert Instr.index Instr.range Instr.next
attribute [local irreducible] Builtin.unsafeSliceData_ Builtin.unsafeString_ Instr.lookup Instr.mapUpdate Instr.makeMap Builtin.delete_
theorem evsAt_take {ops : List OpD} {i n : Nat} (hi : i < ops.length) : evsAt (ops.take (i + 1)) n = evsAt (ops.take i) n ++ evAt n (ops.getD i opZ) := by
  rw [take_snoc opZ ops i hi, evsAt_app]
theorem toN_take {ops : List OpD} {i : Nat} (hi : i < ops.length) : toN (ops.take (i + 1)) = toN (ops.take i) + if 0 ≤ (ops.getD i opZ).to then 1 else 0 := by
  rw [take_snoc opZ ops i hi, toN_app]
theorem evAt_len (n : Nat) (o : OpD) : (evAt n o).length ≤ 1 := by
  unfold evAt
  split
  · simp
  · split <;> simp
theorem evsAt_len : ∀ (l : List OpD) (n : Nat), (evsAt l n).length ≤ l.length
  | [], _ => Nat.le_refl _
  | o :: l, n => by
    have h1 := evAt_len n o
    have h2 := evsAt_len l n
    show (evAt n o ++ evsAt l n).length ≤ _
    rw [List.length_append, List.length_cons]; omega
theorem RdO_lc {w : World} {v : Value} {l : List OpD} (h : RdO w v l) {b o k c : Nat} (hv : v = .slice (some ⟨b, o, none⟩) k c) (i : Nat) (hi : i < l.length) : ∀ (j : Nat) (u : Value), (c3V (l.getD i opZ).c).toList[j]? = some u → w.cell? ⟨b, o + i * 9 + 1 + j, none⟩ = some u := fun j u hu => by
  have hj : j < 3 := by
    rcases Nat.lt_or_ge j 3 with h | h
    · exact h
    · rw [List.getElem?_eq_none (by exact h)] at hu; cases hu
  rw [Nat.add_assoc, RdO_cell h hv i (1 + j) hi (by omega)]
  match j, hu with
  | 0, hu => exact hu
  | 1, hu => exact hu
  | 2, hu => exact hu
theorem RdO_la {w : World} {v : Value} {l : List OpD} (h : RdO w v l) {b o k c : Nat} (hv : v = .slice (some ⟨b, o, none⟩) k c) (i : Nat) (hi : i < l.length) : ∀ (j : Nat) (u : Value), (c3V (l.getD i opZ).a).toList[j]? = some u → w.cell? ⟨b, o + i * 9 + 4 + j, none⟩ = some u := fun j u hu => by
  have hj : j < 3 := by
    rcases Nat.lt_or_ge j 3 with h | h
    · exact h
    · rw [List.getElem?_eq_none (by exact h)] at hu; cases hu
  rw [Nat.add_assoc, RdO_cell h hv i (4 + j) hi (by omega)]
  match j, hu with
  | 0, hu => exact hu
  | 1, hu => exact hu
  | 2, hu => exact hu
set_option maxRecDepth 100000 in
theorem revents_c {w : World} {v : Value} {l : List EvD} {ops : List OpD} (h : RdO w v ops) (hop : ops = opF l) (B : Back l) (hl : l.length ≤ 1000) : Fn Try.prog 21 #[v] w fun r w' => ∃ ev, r = .tuple #[ev, .bool true] ∧ Sl w' TEv 8 ev l.length (evsC l) ∧ Upd [] w w' := by
  have hh := h
  obtain ⟨va, vc, rfl, hl1, hl2⟩ := h.form
  have hol := opF_len l
  rw [← hop] at hol
  have hbn := B.n
  rw [← hop] at hbn
  refine fn_enter Try.func21 rfl rfl ?_
  refine len_sl ?_
  refine loop_rule [0, 4] [5, 6] (fun vs w' mm => ∃ i : Nat, vs = [.int .i64 ((ops.length + toN (ops.take i) : Nat) : Int), .int .i64 (i : Int)] ∧ i ≤ ops.length ∧ toN (ops.take i) ≤ i ∧ mm = ops.length - i ∧ w = w') rfl [.int .i64 (ops.length : Int), .int .i64 0] ops.length rfl ⟨0, rfl, by omega, Nat.le_refl _, rfl, rfl⟩ ?_
  rintro _ w1 mm ⟨i, rfl, hi, hti, rfl, rfl⟩
  refine len_sl ?_
  refine cd (fun hlt => ?_) (fun hlt => ?_)
  · have hlt : i < ops.length := by omega
    obtain ⟨b, o, c, hv, -⟩ := hh.some_ (by omega)
    cases hv
    have htk := toN_take hlt
    refine ix i rfl hlt ?_
    refine fa ?_
    refine ld (v := .int .i64 (ops.getD i opZ).to) (RdO_cell hh rfl i 8 hlt (by omega)) ?_
    refine cd (fun q => ?_) (fun q => ?_)
    · rw [if_pos q] at htk
      refine ar64 (by omega) ?_
      refine ar64 (by omega) ?_
      exact round_mk [.int .i64 ((ops.length + toN (ops.take (i + 1)) : Nat) : Int), .int .i64 ((i + 1 : Nat) : Int)] (ops.length - (i + 1)) rfl (by rw [htk]; rfl) ⟨i + 1, rfl, by omega, by omega, rfl, rfl⟩ (by omega)
    · rw [if_neg q] at htk
      refine ar64 (by omega) ?_
      exact round_mk [.int .i64 ((ops.length + toN (ops.take (i + 1)) : Nat) : Int), .int .i64 ((i + 1 : Nat) : Int)] (ops.length - (i + 1)) rfl (by rw [htk]; rfl) ⟨i + 1, rfl, by omega, by omega, rfl, rfl⟩ (by omega)
  · have hie : i = ops.length := by omega
    subst hie
    rw [List.take_length, hbn]
    refine loop_rule [0, 5] [4, 7] (fun vs w' mm => ∃ (n : Nat) (ov : Value), vs = [ov, .int .i64 (n : Int)] ∧ n ≤ l.length ∧ mm = l.length - n ∧ Sl w' TEv 8 ov (l.take n).length (evsC (l.take n)) ∧ Upd [] w w' ∧ ∀ q, ov.ownBlock = some q → w.heap.size ≤ q) rfl [.slice none 0 0, .int .i64 0] l.length rfl
      ⟨0, _, rfl, by omega, rfl, Sl.nil_ _ _ _, Upd.refl _ _, by simp [Value.ownBlock]⟩ ?_
    rintro _ w2 mm ⟨n, ov, rfl, hn, rfl, hS, hU, hF⟩
    refine cd (fun hlt => ?_) (fun hlt => ?_)
    · have hnl : n < l.length := by omega
      refine loop_rule [0, 5, 7] [4, 8, 9] (fun vs w' mm => ∃ (i : Nat) (ov : Value), vs = [ov, .int .i64 ((evsAt (ops.take i) n).length : Int), .int .i64 (i : Int)] ∧ i ≤ ops.length ∧ mm = ops.length - i ∧ Sl w' TEv 8 ov (l.take n ++ evsAt (ops.take i) n).length (evsC (l.take n ++ evsAt (ops.take i) n)) ∧ Upd [] w w' ∧ ∀ q, ov.ownBlock = some q → w.heap.size ≤ q) rfl [ov, .int .i64 0, .int .i64 0] ops.length rfl
        ⟨0, ov, rfl, by omega, rfl, by rw [show evsAt (ops.take 0) n = [] from rfl, List.append_nil]; exact hS, hU, hF⟩ ?_
      clear hS hU hF ov
      rintro _ w3 mm ⟨i, ov, rfl, hi, rfl, hS3, hU3, hF3⟩
      refine len_sl ?_
      refine cd (fun hlt => ?_) (fun hlt => ?_)
      · have hlt : i < ops.length := by omega
        have h3 := hh.upd0 hU3
        obtain ⟨b, o, c, hv, -⟩ := h3.some_ (by omega)
        cases hv
        have hel := evsAt_len (ops.take i) n
        rw [List.length_take, Nat.min_eq_left (by omega)] at hel
        have hll : (l.take n ++ evsAt (ops.take i) n).length ≤ 2000 := by
          rw [List.length_append, List.length_take]; omega
        refine ix i rfl hlt ?_
        refine fa ?_
        refine ld (v := .int .i64 (ops.getD i opZ).frm) (RdO_cell h3 rfl i 7 hlt (by omega)) ?_
        by_cases q1 : (ops.getD i opZ).frm = (n : Int)
        · refine cY q1 ?_
          refine draw_mix 14 [(0, true), (1, true), (2, true), (3, true), (4, true), (5, true), (6, true), (7, true), (8, true), (9, true), (10, true), (11, true), (12, false), (13, false)] (fun wx => Upd [] w wx) (by decide +kernel) hU3.drew ?_
          refine q_ix i rfl hlt ?_
          refine q_fa ?_
          refine q_ld (v := .int .i64 (ops.getD i opZ).th) (fun wx hwx => RdO_cell (hh.upd0 hwx) rfl i 0 hlt (by omega)) ?_
          refine q_ix i rfl hlt ?_
          refine q_fa ?_
          refine rq (.agg (c3V (ops.getD i opZ).c)) (fun wx hwx => lda _ rfl (RdO_lc (hh.upd0 hwx) rfl i hlt) ⟨rfl, rfl⟩) ?_
          refine rq (.agg (evV (⟨(ops.getD i opZ).th, false, (ops.getD i opZ).c, z3⟩ : EvD))) (fun wx hwx => bd _ (fun _ => by kernel_rfl) ⟨rfl, rfl⟩) ?_
          refine bs (evV (⟨(ops.getD i opZ).th, false, (ops.getD i opZ).c, z3⟩ : EvD)) (fun _ => by kernel_rfl) fun w4 hb4 hu4 hs4 => ?_
          have hu4 := (Upd.refl [] w3).drew.trans hu4
          refine ⟨hU3.trans hu4, ?_⟩
          refine apg (hS3.upd hu4 (by simp)) hb4 rfl rfl (by decide) (by simp only [maxLen]; omega) (by omega) fun ov' w5 hs5 hG5 => ?_
          obtain ⟨n1, n2⟩ := hG5.from_ (hU3.trans hu4) hF3
          refine ⟨n1, ?_⟩
          refine ar64 (by omega) ?_
          refine ar64 (by omega) ?_
          have hea : evsAt (ops.take (i + 1)) n = evsAt (ops.take i) n ++ [(⟨(ops.getD i opZ).th, false, (ops.getD i opZ).c, z3⟩ : EvD)] := by rw [evsAt_take hlt, (evAt_frm q1)]
          exact round_mk [ov', .int .i64 ((evsAt (ops.take (i + 1)) n).length : Int), .int .i64 ((i + 1 : Nat) : Int)] (ops.length - (i + 1)) rfl (by rw [hea, List.length_append]; rfl) ⟨i + 1, ov', rfl, by omega, rfl, by
            rw [hea, ← List.append_assoc, List.length_append, evsC_app]; exact hs5, n1, n2⟩ (by omega)
        · refine cN q1 ?_
          refine ix i rfl hlt ?_
          refine fa ?_
          refine ld (v := .int .i64 (ops.getD i opZ).to) (RdO_cell h3 rfl i 8 hlt (by omega)) ?_
          by_cases q2 : (ops.getD i opZ).to = (n : Int)
          · refine cY q2 ?_
            refine draw_mix 14 [(0, true), (1, true), (2, true), (3, true), (4, true), (5, true), (6, true), (7, true), (8, true), (9, true), (10, true), (11, true), (12, false), (13, false)] (fun wx => Upd [] w wx) (by decide +kernel) hU3.drew ?_
            refine q_ix i rfl hlt ?_
            refine q_fa ?_
            refine q_ld (v := .int .i64 (ops.getD i opZ).th) (fun wx hwx => RdO_cell (hh.upd0 hwx) rfl i 0 hlt (by omega)) ?_
            refine q_ix i rfl hlt ?_
            refine q_fa ?_
            refine rq (.agg (c3V (ops.getD i opZ).a)) (fun wx hwx => lda _ rfl (RdO_la (hh.upd0 hwx) rfl i hlt) ⟨rfl, rfl⟩) ?_
            refine rq (.agg (evV (⟨(ops.getD i opZ).th, true, z3, (ops.getD i opZ).a⟩ : EvD))) (fun wx hwx => bd _ (fun _ => by kernel_rfl) ⟨rfl, rfl⟩) ?_
            refine bs (evV (⟨(ops.getD i opZ).th, true, z3, (ops.getD i opZ).a⟩ : EvD)) (fun _ => by kernel_rfl) fun w4 hb4 hu4 hs4 => ?_
            have hu4 := (Upd.refl [] w3).drew.trans hu4
            refine ⟨hU3.trans hu4, ?_⟩
            refine apg (hS3.upd hu4 (by simp)) hb4 rfl rfl (by decide) (by simp only [maxLen]; omega) (by omega) fun ov' w5 hs5 hG5 => ?_
            obtain ⟨n1, n2⟩ := hG5.from_ (hU3.trans hu4) hF3
            refine ⟨n1, ?_⟩
            refine ar64 (by omega) ?_
            refine ar64 (by omega) ?_
            have hea : evsAt (ops.take (i + 1)) n = evsAt (ops.take i) n ++ [(⟨(ops.getD i opZ).th, true, z3, (ops.getD i opZ).a⟩ : EvD)] := by rw [evsAt_take hlt, (evAt_to q1 q2)]
            exact round_mk [ov', .int .i64 ((evsAt (ops.take (i + 1)) n).length : Int), .int .i64 ((i + 1 : Nat) : Int)] (ops.length - (i + 1)) rfl (by rw [hea, List.length_append]; rfl) ⟨i + 1, ov', rfl, by omega, rfl, by
              rw [hea, ← List.append_assoc, List.length_append, evsC_app]; exact hs5, n1, n2⟩ (by omega)
          · refine cN q2 ?_
            refine ar64 (by omega) ?_
            have hea : evsAt (ops.take (i + 1)) n = evsAt (ops.take i) n := by rw [evsAt_take hlt, evAt_no q1 q2, List.append_nil]
            exact round_mk [ov, .int .i64 ((evsAt (ops.take (i + 1)) n).length : Int), .int .i64 ((i + 1 : Nat) : Int)] (ops.length - (i + 1)) rfl (by rw [hea]; rfl) ⟨i + 1, ov, rfl, by omega, rfl, by rw [hea]; exact hS3, hU3, hF3⟩ (by omega)
      · have hie : i = ops.length := by omega
        subst hie
        have hat := B.at_ n hnl
        rw [← hop] at hat
        rw [List.take_length, hat] at hS3
        rw [List.take_length, hat]
        refine ar64 (by omega) ?_
        exact round_mk [ov, .int .i64 ((n + 1 : Nat) : Int)] (l.length - (n + 1)) rfl rfl ⟨n + 1, ov, rfl, by omega, rfl, by rw [take_snoc evZ l n hnl]; exact hS3, hU3, hF3⟩ (by omega)
    · have hne : n = l.length := by omega
      subst hne
      rw [List.take_length] at hS
      obtain ⟨oa, oc, rfl, -⟩ := hS.form
      exact ⟨_, rfl, hS, hU⟩
theorem invoke_nil (th : Int) (c : C3) (w : World) : Fn Try.prog 10 #[.pointer none, .int .i64 th, .agg (c3V c)] w fun r w' => r = .int .i64 1 ∧ Upd [] w w' := by
  refine fn_enter Try.func10 rfl rfl ?_
  refine bx fun w1 hb1 hu1 hs1 => ?_
  refine ptr_eq0 ?_
  exact ⟨rfl, hu1⟩
theorem respond_nil (th : Int) (c : C3) (w : World) : Fn Try.prog 9 #[.pointer none, .int .i64 th, .agg (c3V c)] w fun r w' => r = .int .i64 1 ∧ Upd [] w w' := by
  refine fn_enter Try.func9 rfl rfl ?_
  refine bx fun w1 hb1 hu1 hs1 => ?_
  refine ptr_eq0 ?_
  exact ⟨rfl, hu1⟩
theorem busy_nil (th : Int) (w : World) : Fn Try.prog 11 #[.pointer none, .int .i64 th] w fun r w' => r = .bool false ∧ w' = w := by
  refine fn_enter Try.func11 rfl rfl ?_
  refine ptr_eq0 ?_
  exact ⟨rfl, rfl⟩
theorem events_nil (w : World) : Fn Try.prog 14 #[.pointer none] w fun r w' => r = .slice none 0 0 ∧ w' = w := by
  refine fn_enter Try.func14 rfl rfl ?_
  refine ptr_eq0 ?_
  exact ⟨rfl, rfl⟩
set_option maxRecDepth 100000 in
theorem back_law {w : World} {v : Value} {l : List EvD} (h : RdE w v l) (th : Int) : Fn Try.prog 5 #[v, .int .i64 th] w fun r w' => r = .bool true ∧ Upd [] w w' := by
  obtain ⟨va, vc, rfl, hl1, hl2⟩ := h.form
  refine fn_enter Try.func5 rfl rfl ?_
  refine len_sl ?_
  by_cases q0 : (l.length : Int) > 200
  · refine cY q0 ?_
    refine len_sl ?_
    refine cY q0 ?_
    refine cl (lives12 w) ?_
    rintro _ wx ⟨rfl, hux⟩
    exact ⟨rfl, hux⟩
  refine cN q0 ?_
  refine bd (c3V z3) (fun _ => by kernel_rfl) ?_
  refine cl (invoke_nil th z3 w) ?_
  rintro _ w1 ⟨rfl, hu1⟩
  refine bd (c3V z3) (fun _ => by kernel_rfl) ?_
  refine cl (respond_nil th z3 w1) ?_
  rintro _ w2 ⟨rfl, hu2⟩
  refine cl (busy_nil th w2) ?_
  rintro _ _ ⟨rfl, rfl⟩
  refine cl (events_nil _) ?_
  rintro _ _ ⟨rfl, rfl⟩
  refine len_sl ?_
  have hU2 := hu1.trans hu2
  have h2 := h.upd0 hU2
  refine cl (opers_c h2 (by omega)) ?_
  rintro r w3 ⟨c1, c2⟩
  by_cases hR : rightH l
  rotate_left
  · obtain ⟨rfl, hu3⟩ := c1 hR
    refine cl (lives12 w3) ?_
    rintro _ w4 ⟨rfl, hu4⟩
    exact ⟨rfl, (hU2.trans hu3).trans hu4⟩
  obtain ⟨ov, rfl, hS, hu3⟩ := c2 hR
  refine cl (revents_c (RdO_of hS) rfl (back_ok l hR) (by omega)) ?_
  rintro _ w4 ⟨ev, rfl, hE, hu4⟩
  have h4 := (h2.upd0 hu3).upd0 hu4
  refine cl (same_c (RdR.of_sl hE) h4) ?_
  rintro _ w5 ⟨rfl, hu5⟩
  refine cY rfl ?_
  refine cl (lives12 w5) ?_
  rintro _ w6 ⟨rfl, hu6⟩
  exact ⟨rfl, (((hU2.trans hu3).trans hu4).trans hu5).trans hu6⟩
theorem HistBack_walk (w : World) (v : Value) (l : List EvD) (h : RdE w v l) (_hok : ∀ e ∈ l, okE e) (a : Int) (_wa : (Lit.int .i64 a).wf = true) : Calls Try.prog 5 #[v, .int .i64 a] w fun e w' => e = .returned (.bool true) ∧ Below w.heap.size w w' :=
  (back_law h a).mono fun _ _ ⟨_, he, hv, hu⟩ => ⟨by rw [he, hv], hu.below⟩
end Go.Proofs.Ytblngbagjieeiaa
