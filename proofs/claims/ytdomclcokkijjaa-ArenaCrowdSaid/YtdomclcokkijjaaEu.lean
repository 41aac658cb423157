/- The law CoreBegins. -/
import Derived.Test.YtdomclcokkijjaaEt
import Derived.Test.YtdomclcokkijjaaEp
namespace Go.Proofs.Ytdomclcokkijjaa
open Go.RowKit
attribute [local irreducible] Instr.loadAt Instr.storeAt Instr.fieldAt Instr.indexAt Instr.sliceAt Instr.buildSlice Instr.box Instr.alloc Builtin.append_ Builtin.len_ Builtin.min_ Builtin.max_ Calls Instr.build Instr.makeSlice binSem convert Instr.index Instr.range Instr.next
theorem len_p {w : World} {g i : Nat} {a : Option Addr} {n c : Nat} (h : w.cell? ⟨g, i, none⟩ = some (.slice a n c)) : Fn Try.prog 40 #[.pointer (some ⟨g, i, none⟩)] w fun r w' => r = .int .i64 n ∧ w' = w := by
  refine fn_enter Try.func40 rfl rfl ?_
  refine ptr_eq ?_
  refine fa ?_
  refine ld (v := .slice a n c) h ?_
  refine len_sl ?_
  exact ⟨rfl, rfl⟩
theorem liveL_many (n s : Nat) (h : s ≤ n) : manyL (liveL n s) 1 = s ∧ manyL (liveL n s) 0 = n - s := by
  have e : liveL n s = List.replicate s 1 ++ List.replicate (n - s) 0 := by
    apply List.ext_getElem
    · simp; omega
    · intro k h1 h2
      simp only [liveL, List.getElem_map, List.getElem_range]
      split
      · rw [List.getElem_append_left (by simp; omega), List.getElem_replicate]
      · rw [List.getElem_append_right (by simp; omega), List.getElem_replicate]
  rw [e]
  unfold manyL
  constructor
  · simp [List.filter_append, List.filter_replicate]
  · simp [List.filter_append, List.filter_replicate]
theorem fault_zero {w0 w : World} {m mp fp l : Nat} {c : Cf} {v lv fv gv tv : Value} {s : MS} {draws : List Int} {ptrs : List Nat} {gp : Nat} {gv' : Value} {tags : List Int} (h : MkI w0 w m c mp v lv s fp fv draws gv (some (gp, gv', tags, 0, 0)) tv ptrs l) : Fn Try.prog 31 #[ptrV m] w fun r w' => r = .bool false ∧ Upd [] w w' :=
  (fault_yes h).mono fun _ _ ⟨u, he, h1, h2⟩ => ⟨u, he, by rw [h1]; rfl, h2⟩
theorem cf_len7 (c : Cf) : (cf7 c).toList.length = 7 := by cases c; rfl
set_option maxRecDepth 100000 in
theorem begins_law {w : World} {c : Cf} {v2 : Value} {draws : List Int} (h2 : RdK w .u8 v2 draws) : Fn Try.prog 5 #[.agg (cf7 c), v2] w fun r w' => r = .bool true ∧ Upd [] w w' := by
  obtain ⟨a2, c2, hv2, -⟩ := h2.form
  subst hv2
  obtain ⟨A, T, N, L, B, P, S⟩ := c
  refine fn_enter Try.func5 rfl rfl ?_
  refine bx fun w1 hb1 hu1 hs1 => ?_
  have hb1 : Blk w1 w.heap.size 42 (cf7 ⟨A, T, N, L, B, P, S⟩) := hb1
  refine len_sl ?_
  by_cases q1 : (draws.length : Int) > 5000
  · refine cY q1 ?_
    refine cl (lives16 _) ?_
    rintro _ wx ⟨rfl, hux⟩
    exact ⟨rfl, (hu1).trans hux⟩
  refine cN q1 ?_
  refine ldw hb1 rfl ?_
  refine cl (core_new (draws := draws) true (h2.upd0 hu1) (by omega)) ?_
  rintro _ w2 ⟨hno, hyes⟩
  by_cases hr : rightC ⟨A, T, N, L, B, P, S⟩
  rotate_left
  · obtain ⟨rfl, hu2⟩ := hno hr
    have hU2 := hu1.trans hu2
    refine ldw (hb1.upd hu2 (by simp)) rfl ?_
    refine cl (rright_c ⟨A, T, N, L, B, P, S⟩ w2) ?_
    rintro _ w3 ⟨rfl, hu3⟩
    refine cY (p := ¬ rightC ⟨A, T, N, L, B, P, S⟩) hr ?_
    refine ptr_eq0 ?_
    refine cl (lives16 _) ?_
    rintro _ wx ⟨rfl, hux⟩
    exact ⟨rfl, (hU2.trans hu3).trans hux⟩
  obtain ⟨m, mp, mv, lv, fp, fv, gv, gs, tv, ptrs, rfl, M0, hpl, -, hg1⟩ := hyes hr
  obtain ⟨gp, gv', rfl⟩ := hg1 rfl
  have hgv := M0.parts.gh.1
  subst hgv
  clear hno hyes hg1
  have M : MkI w w2 m ⟨A, T, N, L, B, P, S⟩ mp mv lv _ fp fv draws (ptrV gp) _ tv ptrs L.toNat := M0.rebase hu1
  have hb2 := hb1.upd (M0.up) (by simp)
  have hU2 := M.up
  have hb2 := hb2
  generalize hms : layS A T N L (newMS (sizeP A T N L).toNat) = ms at M
  have hmsW : ms.W = (allP A T N L).map (firstW A N L) := by rw [← hms]; exact first_words hr
  have hal : (allP A T N L).length ≤ 924 := by
    rw [allP_len hr]
    obtain ⟨t, n, l, sl, wd, nt, se, U⟩ := nums hr
    have := U.sz_; have := U.b7
    omega
  refine ldw hb2 rfl ?_
  refine cl (rright_c ⟨A, T, N, L, B, P, S⟩ w2) ?_
  rintro _ w3 ⟨rfl, hu3⟩
  refine cN (p := ¬ rightC ⟨A, T, N, L, B, P, S⟩) (fun h => h hr) ?_
  obtain ⟨b1, b2, b3, b4, b5, b6, -⟩ := plan_bd hr
  have M3 := M.upd0 hu3
  have hb3 := hb2.upd hu3 (by simp)
  clear hb2 hb1 M M0
  refine draw_mix 25 [(0, true), (1, true), (2, true), (3, true), (4, true), (5, true), (6, true), (7, true), (8, true), (10, true), (9, false), (11, false), (12, false), (13, true), (14, true), (15, true), (16, true), (17, false), (18, true), (19, true), (20, true), (23, true), (21, false), (22, false), (24, true)] (fun w' => Upd [] w3 w') (by decide +kernel) (Upd.refl [] w3).drew ?_
  refine rq (.bool false) (fun _ _ => ptr_eq ⟨rfl, rfl⟩) ?_
  refine t_cl (ptrV mp) (fun w' hw' => mem_c (M3.upd0 hw')) ?_
  refine rq (.agg (cf7 ⟨A, T, N, L, B, P, S⟩)) (fun w' hw' => ldw (hb3.upd hw' (by simp)) rfl ⟨rfl, rfl⟩) ?_
  have M3' := M3.upd0 (Upd.refl [] w3).drew
  refine cl (words_c M3'.parts.mem (by rw [hmsW, List.length_map]; omega)) ?_
  rintro r4 w4 ⟨hs4, hu4, -⟩
  have hu34 : Upd [] w3 w4 := (Upd.refl [] w3).drew.trans hu4
  refine ⟨hu34, ?_⟩
  refine cl (first_w hr w4) ?_
  rintro r5 w5 ⟨hs5, hu5, -⟩
  have hu35 := hu34.trans hu5
  refine ⟨hu35, ?_⟩
  rw [hmsW] at hs4
  refine cl (words_eq (RdK.of_sl (hs4.upd hu5 (by simp))) (RdK.of_sl hs5)) ?_
  rintro _ w6 ⟨rfl, hu6⟩
  have hu36 := hu35.trans hu6
  refine ⟨hu36, ?_⟩
  refine cl (fault_zero (M3.upd0 hu36)) ?_
  rintro _ w7 ⟨rfl, hu7⟩
  have hu37 := hu36.trans hu7
  refine ⟨hu37, ?_⟩
  refine rq (.agg (cf7 ⟨A, T, N, L, B, P, S⟩)) (fun w' hw' => ldw (hb3.upd hw' (by simp)) rfl ⟨rfl, rfl⟩) ?_
  refine cl (plan_m (M3.upd0 hu37)) ?_
  rintro _ w8 ⟨rfl, hu8⟩
  have hu38 := hu37.trans hu8
  refine ⟨hu38, ?_⟩
  refine cl (conf_c A T N L B P S w8) ?_
  rintro _ w9 ⟨rfl, hu9⟩
  have hu39 := hu38.trans hu9
  refine ⟨hu39, ?_⟩
  refine rq (.bool false) (fun _ _ => anq (fits_cf _) (fits_cf _) ⟨by rw [eq_cf]; rfl, rfl⟩) ?_
  have M9 := M3.upd0 hu39
  have hb9 := hb3.upd hu39 (by simp)
  clear M3 M3' hb3
  refine loop_rule [2, 5] [7] (fun vs w' m => ∃ i : Nat, vs = [.int .i64 (i : Int)] ∧ (i : Int) ≤ T ∧ m = (T - i).toNat ∧ Upd [] w9 w') rfl [.int .i64 0] T.toNat rfl ⟨0, rfl, by omega, by simp, Upd.refl _ _⟩ ?_
  rintro _ wa k ⟨i, rfl, hi, rfl, hua⟩
  have Ma := M9.upd0 hua
  have hba := hb9.upd hua (by simp)
  refine fa ?_
  refine ldb hba (v := .int .i64 T) rfl ?_
  refine cd (fun hlt => ?_) (fun hlt => ?_)
  · refine cl (thread_c Ma i (by omega) (by omega)) ?_
    rintro _ _ ⟨rfl, rfl⟩
    rename_i wb
    obtain ⟨pv, sv, wv, hT, hp, hs, hv, -⟩ := (Ma.parts.ths i (by omega)).h
    obtain ⟨pa, pc, rfl, -⟩ := hp.form
    obtain ⟨sa, sc, rfl, -⟩ := hs.form
    obtain ⟨va, vc, rfl, -⟩ := hv.form
    generalize ptrs.getD i 0 = g at *
    have hLL : ((L.toNat : Nat) : Int) = L := by omega
    refine draw_all (fun w' => w' = wb.drew) (by decide +kernel) rfl ?_
    refine rq (.bool false) (fun _ _ => ptr_eq ⟨rfl, rfl⟩) ?_
    refine q_fa ?_
    refine q_ld (v := .int .i64 (i : Int)) (by rintro _ rfl; exact hT.drew.cell 0) ?_
    refine cN (fun h => h rfl) ?_
    refine q_fa ?_
    refine q_ld (v := .slice none 0 0) (by rintro _ rfl; exact hT.drew.cell 1) ?_
    refine q_len ?_
    refine q_fa ?_
    refine q_ld (v := .slice pa L.toNat pc) (by rintro _ rfl; exact hT.drew.cell 5) ?_
    refine q_len ?_
    refine q_fa ?_
    refine q_ld (v := .int .i64 L) (by rintro _ rfl; exact hba.drew.cell 3) ?_
    refine cN (fun h => h hLL) ?_
    refine q_fa ?_
    refine q_ld (v := .slice sa L.toNat sc) (by rintro _ rfl; exact hT.drew.cell 6) ?_
    refine q_len ?_
    refine q_fa ?_
    refine q_ld (v := .int .i64 L) (by rintro _ rfl; exact hba.drew.cell 3) ?_
    refine cN (fun h => h hLL) ?_
    refine q_fa ?_
    refine q_ld (v := .slice va L.toNat vc) (by rintro _ rfl; exact hT.drew.cell 7) ?_
    refine q_len ?_
    refine q_fa ?_
    refine q_ld (v := .int .i64 L) (by rintro _ rfl; exact hba.drew.cell 3) ?_
    refine cN (fun h => h hLL) ?_
    refine q_fa ?_
    refine q_cl (.int .i64 0) (by rintro _ rfl; exact len_p (n := 0) (hT.drew.cell 8)) ?_
    rintro _ rfl
    refine ar64 (by omega) ?_
    exact round_mk [.int .i64 ((i + 1 : Nat) : Int)] (T - ((i + 1 : Nat) : Int)).toNat rfl rfl ⟨i + 1, rfl, by omega, rfl, hua.drew⟩ (by omega)
  refine ldw hba rfl ?_
  refine cl (rsent_c ⟨A, T, N, L, B, P, S⟩ wa) ?_
  rintro _ wb ⟨rfl, hub⟩
  have Mb := Ma.upd0 hub
  have hbb := hba.upd hub (by simp)
  have hlm := liveL_many N.toNat (sentP A).toNat (by omega)
  have e1 : ((manyL (liveL N.toNat (sentP A).toNat) 1 : Nat) : Int) = sentP A := by rw [hlm.1]; omega
  have e0 : ((manyL (liveL N.toNat (sentP A).toNat) 0 : Nat) : Int) = N - sentP A := by rw [hlm.2]; omega
  refine draw_all (fun w' => Upd [] wb w') (by decide +kernel) (Upd.refl [] wb).drew ?_
  refine q_cl (.pointer none) (fun w' hw' => (thread_none (Mb.upd0 hw') (-1) (.inl (by omega))).mono fun _ _ ⟨u, he, h1, h2⟩ => ⟨u, he, h1, by rw [h2]; exact hw'⟩) ?_
  refine rq (.bool true) (fun _ _ => ptr_eq0 ⟨rfl, rfl⟩) ?_
  refine q_fa ?_
  refine q_ld (v := .int .i64 T) (fun w' hw' => (hbb.upd hw' (by simp)).cell 1) ?_
  refine q_cl (.pointer none) (fun w' hw' => (thread_none (Mb.upd0 hw') T (.inr (by omega))).mono fun _ _ ⟨u, he, h1, h2⟩ => ⟨u, he, h1, by rw [h2]; exact hw'⟩) ?_
  refine rq (.bool true) (fun _ _ => ptr_eq0 ⟨rfl, rfl⟩) ?_
  refine q_cl (ptrV gp) (fun w' hw' => (ghost_c (Mb.upd0 hw')).mono fun _ _ ⟨u, he, h1, h2⟩ => ⟨u, he, h1, by rw [h2]; exact hw'⟩) ?_
  refine q_cl (.int .i64 (manyL (liveL N.toNat (sentP A).toNat) 1 : Int)) (fun w' hw' => (count_g (Mb.upd0 hw').parts.gh.2 (by rw [liveL_len]; omega) 1).mono fun _ _ ⟨u, he, h1, h2⟩ => ⟨u, he, h1, by rw [h2]; exact hw'⟩) ?_
  refine cY e1 ?_
  refine q_cl (ptrV gp) (fun w' hw' => (ghost_c (Mb.upd0 hw')).mono fun _ _ ⟨u, he, h1, h2⟩ => ⟨u, he, h1, by rw [h2]; exact hw'⟩) ?_
  refine q_cl (.int .i64 (manyL (liveL N.toNat (sentP A).toNat) 0 : Int)) (fun w' hw' => (count_g (Mb.upd0 hw').parts.gh.2 (by rw [liveL_len]; omega) 0).mono fun _ _ ⟨u, he, h1, h2⟩ => ⟨u, he, h1, by rw [h2]; exact hw'⟩) ?_
  refine q_fa ?_
  refine q_ld (v := .int .i64 N) (fun w' hw' => (hbb.upd hw' (by simp)).cell 2) ?_
  refine q_val (N - sentP A) (by show IntKind.i64.wrap (N - sentP A) = _; rw [IntWalk.i64_in _ (show _ ≤ N - sentP A ∧ N - sentP A ≤ _ by omega)]) ?_
  refine cY e0 ?_
  refine q_cl (ptrV fp) (fun w' hw' => (feed_m (Mb.upd0 hw')).mono fun _ _ ⟨u, he, h1, h2⟩ => ⟨u, he, h1, by rw [h2]; exact hw'⟩) ?_
  refine q_cl (.int .i64 0) (fun w' hw' => (used_c (Mb.upd0 hw').parts.fd).mono fun _ _ ⟨u, he, h1, h2⟩ => ⟨u, he, h1, by rw [h2]; exact hw'⟩) ?_
  refine q_cl (.bool true) (fun w' hw' => (lives16 w').mono fun _ _ ⟨u, he, h1, h2⟩ => ⟨u, he, h1, hw'.trans h2⟩) ?_
  intro wc hwc
  exact ⟨rfl, Mb.up.trans hwc⟩
theorem CoreBegins_walk (w : World) (l : List Int) (wl : Fits [.i64, .i64, .i64, .i64, .i64, .i64, .i64] l) (v1 : Value) (l1 : List (List Int)) (h1 : SlRows w w.heap.size [.u8] v1 l1) :
    Calls Try.prog 5 #[.agg (mkInts [.i64, .i64, .i64, .i64, .i64, .i64, .i64] l).toArray, v1] w fun e w' => e = .returned (.bool true) ∧ Below w.heap.size w w' := by
  obtain ⟨⟨A, T, N, L, B, P, S⟩, rfl⟩ := cf_of wl
  exact (begins_law (c := ⟨A, T, N, L, B, P, S⟩) (RdK.of_ints h1.ints (Nat.le_refl _))).mono fun _ _ ⟨_, he, hv, hu⟩ => ⟨by rw [he, hv], hu.below⟩
end Go.Proofs.Ytdomclcokkijjaa
