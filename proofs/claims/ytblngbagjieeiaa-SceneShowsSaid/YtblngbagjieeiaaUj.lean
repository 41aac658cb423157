/- The reference's lines, and their text. -/
import Derived.Test.YtblngbagjieeiaaUi
namespace Go.Proofs.Ytblngbagjieeiaa
open Go.RowKit
attribute [local irreducible] Instr.loadAt Instr.storeAt Instr.fieldAt Instr.indexAt Instr.sliceAt Instr.buildSlice Instr.box Instr.alloc Builtin.append_ Builtin.len_ Builtin.min_ Builtin.max_ Calls Instr.build Instr.makeSlice binSem convert Instr.index Instr.range Instr.next
abbrev TStr : Nat := 9
def strV (L : List (List Int)) : List Value := L.map fun l => Value.string (strOfNums l)
theorem strV_app (a b : List (List Int)) : strV (a ++ b) = strV a ++ strV b := by simp [strV]
/-- lines in memory of the call's own -/
structure LinS (w0 w : World) (v : Value) (L : List (List Int)) : Prop where
  s : Sl w TStr 1 v L.length (strV L)
  own : ∀ g, v.ownBlock = some g → w0.heap.size ≤ g
  up : Upd [] w0 w
theorem LinS.upd0 {w0 w w' : World} {v : Value} {L : List (List Int)} (h : LinS w0 w v L) (hu : Upd [] w w') : LinS w0 w' v L := ⟨h.s.upd hu (by simp), h.own, h.up.trans hu⟩
theorem LinS.grow {w0 w w' : World} {v v' : Value} {L M : List (List Int)} (h : LinS w0 w v L) (hs : Sl w' TStr 1 v' (L.length + M.length) (strV L ++ strV M)) (hG : Grow w w' v v') : LinS w0 w' v' (L ++ M) := by
  have := hG.from_ h.up h.own
  refine ⟨?_, this.2, this.1⟩
  rw [List.length_append, strV_app]; exact hs
theorem upL_len (c : Cf) (ls : List (List C3)) (i j : Nat) (hi : i < ls.length) (hj : j ≤ (ls.getD i []).length) (h20 : ls.length ≤ 20) (ht : tot ls ≤ 200) : (upL c ls i j).length ≤ 300 := by
  have h1 := bodyN_len ls i (by omega)
  have h2 := tot_le ls i
  have h3 := tot_take ls i hi
  have h4 := tot_le ls (i + 1)
  unfold upL
  simp only [List.cons_append, List.length_cons, List.length_append, List.length_map, List.length_take]
  omega
theorem pre_len (c : Cf) (ls : List (List C3)) (i : Nat) (hi : i ≤ ls.length) (h20 : ls.length ≤ 20) (ht : tot ls ≤ 200) : (confL c :: bodyN ls i).length ≤ 300 := by
  have h1 := bodyN_len ls i (by omega)
  have h2 := tot_le ls i
  rw [List.length_cons]; omega
set_option maxRecDepth 10000 in
theorem lines_c {w : World} {c : Cf} {ls : List (List C3)} {ps ds : List Int} {v : Value} (h : Scr w c ls ps ds v) (hL : Lit c ls ps ds) : Fn Try.prog 27 #[v] w fun r w' => Sl w' TStr 1 r (linesL c ls ps ds).length (strV (linesL c ls ps ds)) ∧ Upd [] w w' := by
  obtain ⟨hl1, hl2, hl3, hl4⟩ := hL.l
  obtain ⟨kv, pv, dv, vals, rfl, h2, h3, h4⟩ := h.h
  obtain ⟨ka, kc, rfl, hk1, hk2⟩ := h2.out.form
  simp only [maxLen] at hk2
  refine fn_enter Try.func27 rfl rfl ?_
  refine bx fun w1 hb1 hu1 hs1 => ?_
  have hb1 : Blk w1 w.heap.size TS (scV c (.slice ka ls.length kc) pv dv) := hb1
  refine fa ?_
  refine ldcf hb1 ?_
  refine cl (rcshow_c hL.r.1 w1) ?_
  rintro _ w2 ⟨rfl, hu2⟩
  have hU2 := hu1.trans hu2
  have hb2 := hb1.upd hu2 (by simp)
  have hc2 := h2.upd0 hU2
  have hp2 := h3.upd0 hU2
  have hd2 := h4.upd0 hU2
  generalize w.heap.size = g at *
  refine bs #[.string (strOfNums (confL c))] (fun _ => by kernel_rfl) fun w3 hb3 hu3 hs3 => ?_
  have hS3 : LinS w2 w3 (.slice (some ⟨w2.heap.size, 0, none⟩) 1 1) (confL c :: bodyN ls 0) :=
    ⟨Sl.lit (n := 1) hb3 rfl (by decide), fun g hg => by simp [Value.ownBlock] at hg; omega, hu3⟩
  refine loop_rule [1] [3, 4] (fun vs w' m => ∃ (i : Nat) (lv : Value), vs = [lv, .int .i64 i] ∧ i ≤ ls.length ∧ m = ls.length - i ∧ LinS w2 w' lv (confL c :: bodyN ls i)) rfl [_, .int .i64 0] ls.length rfl
    ⟨0, _, rfl, by omega, rfl, hS3⟩ ?_
  rintro _ w4 m ⟨i, lv, rfl, hi, rfl, hS4⟩
  have hb4 := hb2.upd hS4.up (by simp)
  refine fa ?_
  refine ldb hb4 rfl ?_
  refine len_sl ?_
  refine cd (fun hlt => ?_) (fun hlt => ?_)
  · have hlt : i < ls.length := by omega
    obtain ⟨kb, ko, kc', he', -⟩ := hc2.out.some_ (by omega)
    cases he'
    obtain ⟨x, hx, hrx⟩ := hc2.at_ i hlt
    obtain ⟨xa, xc, rfl, hx1, hx2⟩ := hrx.form
    simp only [maxLen] at hx2
    have hpl := pre_len c ls i (by omega) hl1 hl2
    have hdl : (decB i).length ≤ 10 := decB_len 9 _ (by omega)
    refine cl (r36d_c i (by omega) w4) ?_
    rintro _ w5 ⟨rfl, hu5⟩
    refine sadd (a := strOfNums t_thread) (by rw [strOfNums_size, strOfNums_size]; show 7 + _ ≤ _; omega) ?_
    rw [str_add]
    refine bs #[.string (strOfNums (t_thread ++ decB i))] (fun _ => by kernel_rfl) fun w6 hb6 hu6 hs6 => ?_
    have hS6 := (hS4.upd0 hu5).upd0 hu6
    refine apg hS6.s hb6 rfl rfl (by decide) (by simp only [maxLen]; omega) (by omega) fun v7 w7 hs7 hG7 => ?_
    have hS7 : LinS w2 w7 v7 (upL c ls i 0) := by
      rw [upL_zero]
      exact hS6.grow (M := [thrL i]) hs7 hG7
    refine loop_rule [1, 4] [3, 5] (fun vs w' m => ∃ (j : Nat) (lv : Value), vs = [lv, .int .i64 j] ∧ j ≤ (ls.getD i []).length ∧ m = (ls.getD i []).length - j ∧ LinS w2 w' lv (upL c ls i j)) rfl [v7, .int .i64 0] _ rfl
      ⟨0, _, rfl, by omega, rfl, hS7⟩ ?_
    rintro _ w8 m ⟨j, lv, rfl, hj, rfl, hS8⟩
    have hb8 := hb2.upd hS8.up (by simp)
    refine fa ?_
    refine ldb hb8 rfl ?_
    refine ix i rfl hlt ?_
    refine ld (by rw [(hc2.upd0 hS8.up).out.one rfl i hlt]; exact hx) ?_
    refine len_sl ?_
    refine cd (fun hlj => ?_) (fun hlj => ?_)
    · have hlj : j < (ls.getD i []).length := by omega
      obtain ⟨xb, xo, xc', he', -⟩ := hrx.some_ (by omega)
      cases he'
      have hul := upL_len c ls i j hlt (by omega) hl1 hl2
      have hsucc := upL_succ c ls i j hlj
      have hm : ls.getD i [] ∈ ls := by simp [List.getD, hlt]
      have hm2 : (ls.getD i []).getD j (0, 0, 0) ∈ ls.getD i [] := by
        generalize ls.getD i [] = l at hlj ⊢
        simp [List.getD, hlj]
      have hoc := hL.k _ hm _ hm2
      refine fa ?_
      refine ldb hb8 rfl ?_
      refine ix i rfl hlt ?_
      refine ld (by rw [(hc2.upd0 hS8.up).out.one rfl i hlt]; exact hx) ?_
      refine ix j rfl hlj ?_
      refine ld3 (hrx.upd0 hS8.up) rfl j hlj ?_
      generalize (ls.getD i []).getD j (0, 0, 0) = y at *
      refine cl (rcallshow_c hoc w8) ?_
      rintro _ w9 ⟨rfl, hu9⟩
      refine bs #[.string (strOfNums (callL y))] (fun _ => by kernel_rfl) fun w10 hb10 hu10 hs10 => ?_
      have hS10 := (hS8.upd0 hu9).upd0 hu10
      refine apg hS10.s hb10 rfl rfl (by decide) (by simp only [maxLen]; omega) (by omega) fun v11 w11 hs11 hG11 => ?_
      have hS11 : LinS w2 w11 v11 (upL c ls i (j + 1)) := by
        rw [hsucc]
        exact hS10.grow (M := [callL y]) hs11 hG11
      refine ar64 (by omega) ?_
      exact round_mk [v11, .int .i64 ((j + 1 : Nat) : Int)] ((ls.getD i []).length - (j + 1)) rfl rfl ⟨j + 1, _, rfl, by omega, rfl, hS11⟩ (by omega)
    · obtain rfl : j = (ls.getD i []).length := by omega
      rw [upL_full] at hS8
      refine ar64 (by omega) ?_
      exact round_mk [lv, .int .i64 ((i + 1 : Nat) : Int)] (ls.length - (i + 1)) rfl rfl ⟨i + 1, _, rfl, by omega, rfl, hS8⟩ (by omega)
  · obtain rfl : i = ls.length := by omega
    have hpl := pre_len c ls ls.length (by omega) hl1 hl2
    have hg : ∀ w', Upd [] w2 w' → Blk w' g TS (scV c (.slice ka ls.length kc) pv dv) := fun w' hw' => hb2.upd hw' (by simp)
    refine draw_mix 8 [(0, true), (1, true), (2, true), (4, true), (5, true), (3, false), (6, false), (7, false)] (fun w' => Upd [] w2 w') (by decide +kernel) hS4.up.drew ?_
    refine q_fa ?_
    refine q_ld (v := pv) (fun w' hw' => (hg w' hw').cell 8) ?_
    refine q_fa ?_
    refine q_ld (v := dv) (fun w' hw' => (hg w' hw').cell 9) ?_
    refine cl (rpicks_c (hp2.upd0 hS4.up.drew) hL.okp hl3) ?_
    rintro _ w7 ⟨rfl, hu7⟩
    have hS7 : LinS w2 w7 lv (confL c :: bodyN ls ls.length) := (hS4.upd0 (Upd.refl [] w4).drew).upd0 hu7
    refine ⟨hS7.up, ?_⟩
    refine cl (rdraws_c (hd2.upd0 hS7.up) hL.b hl4) ?_
    rintro _ w8 ⟨rfl, hu8⟩
    have hS8 := hS7.upd0 hu8
    refine ⟨hS8.up, ?_⟩
    refine bs #[.string (strOfNums (pickL ps)), .string (strOfNums (drawL ds))] (fun _ => by kernel_rfl) fun w9 hb9 hu9 hs9 => ?_
    have hS9 := hS8.upd0 hu9
    refine ⟨hS9.up, ?_⟩
    refine apg hS9.s hb9 rfl rfl (by decide) (by simp only [maxLen]; omega) (by omega) fun v10 w10 hs10 hG10 => ?_
    have hS10 : LinS w2 w10 v10 (linesL c ls ps ds) := hS9.grow (M := [pickL ps, drawL ds]) hs10 hG10
    exact ⟨hS10.s, hU2.trans hS10.up⟩
set_option maxRecDepth 10000 in
theorem text_c {w : World} {v : Value} {L : List (List Int)} (h : RdN w 1 v L.length (strV L)) (hl : L.length ≤ 300) (hm : ∀ l ∈ L, l.length ≤ 50000) : Fn Try.prog 26 #[v] w fun r w' => r = .string (strOfNums (textU L)) ∧ Upd [] w w' := by
  obtain ⟨va, vc, rfl, hc1, hc2⟩ := h.form
  refine fn_enter Try.func26 rfl rfl ?_
  refine loop_rule [0] [3, 4] (fun vs w' m => ∃ i : Nat, vs = [.string (strOfNums (textU (L.take i))), .int .i64 i] ∧ i ≤ L.length ∧ m = L.length - i ∧ Upd [] w w') rfl [.string (strOfNums []), .int .i64 0] L.length rfl
    ⟨0, rfl, by omega, rfl, Upd.refl _ _⟩ ?_
  rintro _ w1 m ⟨i, rfl, hi, rfl, hU⟩
  refine len_sl ?_
  refine cd (fun hlt => ?_) (fun hlt => ?_)
  · have hlt : i < L.length := by omega
    obtain ⟨b, o, c', he, -⟩ := h.some_ (by omega)
    cases he
    have htl := textU_len (L.take i) (fun l hl => hm l (List.mem_of_mem_take hl))
    rw [List.length_take, Nat.min_eq_left (by omega)] at htl
    have htk : L.take (i + 1) = L.take i ++ [L.getD i []] := by rw [List.take_add_one]; simp [List.getD, hlt]
    have hml := hm (L.getD i []) (by simp [List.getD, hlt])
    have hat : (strV L)[i]? = some (.string (strOfNums (L.getD i []))) := by simp [strV, List.getD, hlt]
    refine ix i rfl hlt ?_
    refine ld (by rw [(h.upd0 hU).one rfl i hlt]; exact hat) ?_
    generalize L.getD i [] = x at *
    refine sadd (by rw [strOfNums_size, strOfNums_size]; omega) ?_
    rw [str_add]
    refine sadd (b := strOfNums [10]) (by rw [strOfNums_size, strOfNums_size, List.length_append]; show _ + 1 ≤ _; omega) ?_
    rw [str_add]
    refine ar64 (by omega) ?_
    exact round_mk [.string (strOfNums (textU (L.take (i + 1)))), .int .i64 ((i + 1 : Nat) : Int)] (L.length - (i + 1)) rfl (by rw [htk, textU_snoc, List.append_assoc]; rfl) ⟨i + 1, rfl, by omega, rfl, hU⟩ (by omega)
  · obtain rfl : i = L.length := by omega
    rw [List.take_length]
    exact ⟨rfl, hU⟩
end Go.Proofs.Ytblngbagjieeiaa
