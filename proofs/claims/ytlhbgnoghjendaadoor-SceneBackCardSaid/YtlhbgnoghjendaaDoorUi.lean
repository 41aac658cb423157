/- The scene of a script: the walk of Show. -/
import Derived.Test.YtlhbgnoghjendaaDoorUh
import Derived.Test.YtlhbgnoghjendaaDoorV16
namespace Go.Proofs.YtlhbgnoghjendaaDoor
open Go.RowKit
attribute [local irreducible] Instr.loadAt Instr.storeAt Instr.fieldAt Instr.indexAt Instr.sliceAt Instr.buildSlice Instr.box Instr.alloc Builtin.append_ Builtin.len_ Builtin.min_ Builtin.max_ Calls Instr.build Instr.makeSlice binSem convert Instr.index Instr.range Instr.next
attribute [local irreducible] Builtin.unsafeSliceData_ Builtin.unsafeString_
open Lib (IsBuilder BuilderAt strCells byteCells)
theorem take_snocC (l : List C3) (j : Nat) (hj : j < l.length) : l.take (j + 1) = l.take j ++ [l.getD j (0, 0, 0)] := by
  rw [List.take_add_one]; simp [List.getD, hj]
theorem call_e {x : C3} (h : okC x) : c3 x.1 x.2.1 x.2.2 = c3 x.1 ((x.2.1.toNat : Nat) : Int) ((x.2.2.toNat : Nat) : Int) := by
  rw [Int.toNat_of_nonneg h.1.1, Int.toNat_of_nonneg h.2.1]
theorem callshow_c {x : C3} (h : okC x) (w : World) : Fn Tryd.prog 47 #[.agg (c3 x.1 x.2.1 x.2.2)] w fun r w' => r = .string (strOfNums (callL x)) ∧ Upd [] w w' := by
  rw [call_e h]
  exact show_c _ _ _ (by have := h.1; omega) (by have := h.2; omega) w
theorem rcallshow_c {x : C3} (h : okC x) (w : World) : Fn Tryd.prog 66 #[.agg (c3 x.1 x.2.1 x.2.2)] w fun r w' => r = .string (strOfNums (callL x)) ∧ Upd [] w w' := by
  rw [call_e h]
  exact rshow_c _ _ _ (by have := h.1; omega) (by have := h.2; omega) w
/-- the lines of the first i threads, and of j calls of the next one -/
def upL (c : Cf) (ls : List (List C3)) (i j : Nat) : List (List Int) := confL c :: bodyN ls i ++ (thrL i :: ((ls.getD i []).take j).map callL)
theorem upL_zero (c : Cf) (ls : List (List C3)) (i : Nat) : upL c ls i 0 = (confL c :: bodyN ls i) ++ [thrL i] := rfl
theorem upL_succ (c : Cf) (ls : List (List C3)) (i j : Nat) (hj : j < (ls.getD i []).length) : upL c ls i (j + 1) = upL c ls i j ++ [callL ((ls.getD i []).getD j (0, 0, 0))] := by
  unfold upL
  rw [take_snocC _ _ hj, List.map_append, List.append_assoc, List.cons_append]
  rfl
theorem upL_full (c : Cf) (ls : List (List C3)) (i : Nat) : upL c ls i (ls.getD i []).length = confL c :: bodyN ls (i + 1) := by
  unfold upL
  rw [List.take_length]; rfl
theorem textU_snoc (L : List (List Int)) (x : List Int) : textU (L ++ [x]) = textU L ++ (x ++ [10]) := by rw [textU_app, textU_one]
theorem upL_bd {c : Cf} {ls : List (List C3)} (hc : rightC c) (hok : okCs ls) (h20 : ls.length ≤ 20) (ht : tot ls ≤ 200) (i j : Nat) (hi : i < ls.length) (hj : j ≤ (ls.getD i []).length) : (textU (upL c ls i j)).length ≤ 30000000 :=
  text_bd hc hok h20 ht i j (by omega) (.inl ⟨hi, hj⟩) (thrL i) (thrL_len i (by omega))
theorem pre_bd {c : Cf} {ls : List (List C3)} (hc : rightC c) (hok : okCs ls) (h20 : ls.length ≤ 20) (ht : tot ls ≤ 200) (i : Nat) (hi : i ≤ ls.length) : (textU (confL c :: bodyN ls i)).length ≤ 30000000 := by
  have h := text_bd hc hok h20 ht i 0 hi (.inr rfl) [] (by simp)
  rw [List.take_zero, List.map_nil, textU_app, List.length_append] at h
  omega
/-- what a light script that may be is -/
structure Lit (c : Cf) (ls : List (List C3)) (ps ds : List Int) : Prop where
  r : rightS c ls ps ds
  l : lightS ls ps ds
  k : okCs ls
  b : okB ds
theorem Lit.okp {c : Cf} {ls : List (List C3)} {ps ds : List Int} (h : Lit c ls ps ds) : okP ps := fun i hi => by
  have h1 := h.r.2.2.2.2.2.2 i hi
  have h2 := right_bd h.r.1 1 (by omega)
  have h3 : 1 ≤ c.T ∧ c.T ≤ 6 := by
    obtain ⟨A, T, N, L, B, P, S⟩ := c
    exact h.r.1.1.2.1
  omega
structure Lit2 (c : Cf) (ls : List (List C3)) (ps ds : List Int) : Prop where
  r : rightS c ls ps ds
  l : ls.length ≤ 20 ∧ tot ls ≤ 200 ∧ ps.length ≤ 60000 ∧ ds.length ≤ 5000
  k : okCs ls
  b : okB ds
theorem Lit2.okp {c : Cf} {ls : List (List C3)} {ps ds : List Int} (h : Lit2 c ls ps ds) : okP ps := fun i hi => by
  have h1 := h.r.2.2.2.2.2.2 i hi
  have h2 := right_bd h.r.1 1 (by omega)
  have h3 : 1 ≤ c.T ∧ c.T ≤ 6 := by
    obtain ⟨A, T, N, L, B, P, S⟩ := c
    exact h.r.1.1.2.1
  omega
theorem Lit.two {c : Cf} {ls : List (List C3)} {ps ds : List Int} (h : Lit c ls ps ds) : Lit2 c ls ps ds := ⟨h.r, ⟨h.l.1, h.l.2.1, by have := h.l.2.2.1; omega, h.l.2.2.2⟩, h.k, h.b⟩
set_option maxRecDepth 10000 in
theorem show36_no {w : World} {c : Cf} {ls : List (List C3)} {ps ds : List Int} {v : Value} (h : Scr w c ls ps ds v) (ht : tot ls ≤ 100000) (hr : ¬ rightS c ls ps ds) : Fn Tryd.prog 20 #[v] w fun r w' => r = .tuple #[.string .empty, .int .i64 1] ∧ Upd [] w w' := by
  obtain ⟨kv, pv, dv, vals, rfl, h2, h3, h4⟩ := h.h
  refine fn_enter Tryd.func20 rfl rfl ?_
  refine bx fun w1 hb1 hu1 hs1 => ?_
  have hb1 : Blk w1 w.heap.size TS (scV c kv pv dv) := hb1
  refine ldw hb1 rfl ?_
  refine cl (right_sc (h.upd0 hu1) ht) ?_
  rintro _ w2 ⟨⟨b, rfl, hbr⟩, hu2⟩
  obtain rfl : b = false := by
    cases b
    · rfl
    · exact absurd (hbr.1 rfl) hr
  exact ⟨rfl, hu1.trans hu2⟩
set_option maxRecDepth 10000 in
theorem show36_y2 {w : World} {c : Cf} {ls : List (List C3)} {ps ds : List Int} {v : Value} (h : Scr w c ls ps ds v) (hL : Lit2 c ls ps ds) : Fn Tryd.prog 20 #[v] w fun r w' => r = .tuple #[.string (strOfNums (textU (linesL c ls ps ds))), .int .i64 0] ∧ Upd [] w w' := by
  obtain ⟨hl1, hl2, hl3, hl4⟩ := hL.l
  have hcl := confL_len hL.r.1
  obtain ⟨kv, pv, dv, vals, rfl, h2, h3, h4⟩ := h.h
  obtain ⟨ka, kc, rfl, hk1, hk2⟩ := h2.out.form
  simp only [maxLen] at hk2
  refine fn_enter Tryd.func20 rfl rfl ?_
  refine bx fun w1 hb1 hu1 hs1 => ?_
  have hb1 : Blk w1 w.heap.size TS (scV c (.slice ka ls.length kc) pv dv) := hb1
  refine ldw hb1 rfl ?_
  refine cl (right_sc (h.upd0 hu1) (by omega)) ?_
  rintro _ w2 ⟨⟨b, rfl, hbr⟩, hu2⟩
  obtain rfl : b = true := hbr.2 hL.r
  have hU2 := hu1.trans hu2
  have hb2 := hb1.upd hu2 (by simp)
  have hc2 := h2.upd0 hU2
  have hp2 := h3.upd0 hU2
  have hd2 := h4.upd0 hU2
  generalize w.heap.size = g at *
  refine al #[.pointer none, .slice none 0 0] (fun _ => by kernel_rfl) fun w3 hb3 hu3 hs3 => ?_
  have hB3 : Bl w2 [] w3 := .new hb3 hu3 hs3
  refine fa ?_
  refine ldcf (hb2.upd hB3.up (by simp)) ?_
  refine cl (cshow_c hL.r.1 w3) ?_
  rintro _ w4 ⟨rfl, hu4⟩
  refine sadd (b := strOfNums [10]) (by rw [strOfNums_size, strOfNums_size]; simp only [List.length_append, List.length_cons, List.length_nil]; omega) ?_
  rw [str_add]
  refine cl ((hB3.upd0 hu4).write (s := confL c ++ [10]) (by simp; omega)) ?_
  rintro _ w5 hB5
  have hB5 : Bl w2 (textU (confL c :: bodyN ls 0)) w5 := by
    rw [show textU (confL c :: bodyN ls 0) = [] ++ (confL c ++ [10]) from (textU_one (confL c))]
    exact hB5
  refine fa ?_
  refine ldb (hb2.upd hB5.up (by simp)) rfl ?_
  refine len_sl ?_
  refine loop_rule [1, 4, 18, 19] [20] (fun vs w' m => ∃ i : Nat, vs = [.int .i64 i] ∧ i ≤ ls.length ∧ m = ls.length - i ∧ Bl w2 (textU (confL c :: bodyN ls i)) w') rfl [.int .i64 0] ls.length rfl
    ⟨0, rfl, by omega, rfl, hB5⟩ ?_
  rintro _ w6 m ⟨i, rfl, hi, rfl, hB6⟩
  refine cd (fun hlt => ?_) (fun hlt => ?_)
  · have hlt : i < ls.length := by omega
    obtain ⟨kb, ko, kc', he', -⟩ := hc2.out.some_ (by omega)
    cases he'
    obtain ⟨x, hx, hrx⟩ := hc2.at_ i hlt
    obtain ⟨xa, xc, rfl, hx1, hx2⟩ := hrx.form
    simp only [maxLen] at hx2
    have hbd := pre_bd hL.r.1 hL.k hl1 hl2 i (by omega)
    have htl := thrL_len i (by omega)
    have hdl : (decB i).length ≤ 10 := decB_len 9 _ (by omega)
    refine ix i rfl hlt ?_
    refine ld (by rw [(hc2.upd0 hB6.up).out.one rfl i hlt]; exact hx) ?_
    refine cl (sdig_c i (by omega) w6) ?_
    rintro _ w7 ⟨rfl, hu7⟩
    refine sadd (a := strOfNums t_thread) (by rw [strOfNums_size, strOfNums_size]; show 7 + _ ≤ _; omega) ?_
    rw [str_add]
    refine sadd (b := strOfNums [10]) (by rw [strOfNums_size, strOfNums_size]; show (thrL i).length + 1 ≤ _; omega) ?_
    rw [str_add]
    refine cl ((hB6.upd0 hu7).write (s := thrL i ++ [10]) (by rw [List.length_append]; show _ + (_ + 1) ≤ _; omega)) ?_
    rintro _ w8 hB8
    rw [← textU_snoc, ← upL_zero] at hB8
    refine len_sl ?_
    refine loop_rule [1, 4, 18, 19, 20, 30, 31] [32] (fun vs w' m => ∃ j : Nat, vs = [.int .i64 j] ∧ j ≤ (ls.getD i []).length ∧ m = (ls.getD i []).length - j ∧ Bl w2 (textU (upL c ls i j)) w') rfl [.int .i64 0] _ rfl
      ⟨0, rfl, by omega, rfl, hB8⟩ ?_
    rintro _ w9 m ⟨j, rfl, hj, rfl, hB9⟩
    refine cd (fun hlj => ?_) (fun hlj => ?_)
    · have hlj : j < (ls.getD i []).length := by omega
      obtain ⟨xb, xo, xc', he', -⟩ := hrx.some_ (by omega)
      cases he'
      have hbd2 := upL_bd hL.r.1 hL.k hl1 hl2 i j hlt (by omega)
      have hsucc := upL_succ c ls i j hlj
      have hm : ls.getD i [] ∈ ls := by simp [List.getD, hlt]
      have hm2 : (ls.getD i []).getD j (0, 0, 0) ∈ ls.getD i [] := by
        generalize ls.getD i [] = l at hlj ⊢
        simp [List.getD, hlj]
      have hoc := hL.k _ hm _ hm2
      refine ix j rfl hlj ?_
      refine ld3 (hrx.upd0 hB9.up) rfl j hlj ?_
      generalize (ls.getD i []).getD j (0, 0, 0) = y at *
      have hyl := callL_len hoc
      refine al (c3 0 0 0) (fun _ => by kernel_rfl) fun w10 hb10 hu10 hs10 => ?_
      refine stw hb10 rfl rfl rfl fun w11 hb11 hu11 hs11 => ?_
      refine ldw hb11 rfl ?_
      refine cl (callshow_c hoc w11) ?_
      rintro _ w12 ⟨rfl, hu12⟩
      have hU12 : Upd [] w9 w12 := (hu10.step hu11 (by simp)).trans hu12
      refine sadd (b := strOfNums [10]) (by rw [strOfNums_size, strOfNums_size]; show _ + 1 ≤ _; omega) ?_
      rw [str_add]
      refine cl ((hB9.upd0 hU12).write (s := callL y ++ [10]) (by rw [List.length_append]; show _ + (_ + 1) ≤ _; omega)) ?_
      rintro _ w13 hB13
      rw [← textU_snoc, ← hsucc] at hB13
      refine ar64 (by omega) ?_
      exact round_mk [.int .i64 ((j + 1 : Nat) : Int)] ((ls.getD i []).length - (j + 1)) rfl rfl ⟨j + 1, rfl, by omega, rfl, hB13⟩ (by omega)
    · obtain rfl : j = (ls.getD i []).length := by omega
      rw [upL_full] at hB9
      refine ar64 (by omega) ?_
      exact round_mk [.int .i64 ((i + 1 : Nat) : Int)] (ls.length - (i + 1)) rfl rfl ⟨i + 1, rfl, by omega, rfl, hB9⟩ (by omega)
  · obtain rfl : i = ls.length := by omega
    have hbd := pre_bd hL.r.1 hL.k hl1 hl2 ls.length (by omega)
    have hpl := pickL_len2 ps hL.okp hl3
    have hdl := drawL_len ds
    refine draw_mix 9 [(0, true), (1, true), (4, true), (5, true), (2, false), (3, true), (6, false), (7, true), (8, true)] (fun w' => Upd [] w2 w') (by decide +kernel) hB6.up.drew ?_
    have hg : ∀ w', Upd [] w2 w' → Blk w' g TS (scV c (.slice ka ls.length kc) pv dv) := fun w' hw' => hb2.upd hw' (by simp)
    refine q_fa ?_
    refine q_ld (v := pv) (fun w' hw' => (hg w' hw').cell 8) ?_
    refine q_fa ?_
    refine q_ld (v := dv) (fun w' hw' => (hg w' hw').cell 9) ?_
    refine cl (rows_c (hp2.upd0 hB6.up.drew) hL.okp hl3) ?_
    rintro _ w7 ⟨rfl, hu7⟩
    have hB7 : Bl w2 (textU (confL c :: bodyN ls ls.length)) w7 := (hB6.upd0 (Upd.refl [] w6).drew).upd0 hu7
    refine ⟨hB7.up, ?_⟩
    refine rq (.string (strOfNums (pickL ps ++ [10]))) (fun _ _ => sadd (b := strOfNums [10]) (by rw [strOfNums_size, strOfNums_size]; show _ + 1 ≤ _; omega) ⟨by rw [str_add], rfl⟩) ?_
    refine cl (pairs_c (hd2.upd0 hB7.up) hL.b hl4) ?_
    rintro _ w8 ⟨rfl, hu8⟩
    have hB8 := hB7.upd0 hu8
    refine ⟨hB8.up, ?_⟩
    refine rq (.string (strOfNums (pickL ps ++ [10] ++ drawL ds))) (fun _ _ => sadd (by rw [strOfNums_size, strOfNums_size, List.length_append]; show _ + 1 + _ ≤ _; omega) ⟨by rw [str_add], rfl⟩) ?_
    refine rq (.string (strOfNums (pickL ps ++ [10] ++ drawL ds ++ [10]))) (fun _ _ => sadd (b := strOfNums [10]) (by rw [strOfNums_size, strOfNums_size, List.length_append, List.length_append]; show _ + 1 + _ + 1 ≤ _; omega) ⟨by rw [str_add], rfl⟩) ?_
    have hlen : (pickL ps ++ [10] ++ drawL ds ++ [10]).length ≤ 2000000 := by
      rw [List.length_append, List.length_append, List.length_append]; show _ + 1 + _ + 1 ≤ _; omega
    refine cl (hB8.write (s := pickL ps ++ [10] ++ drawL ds ++ [10]) (by omega)) ?_
    rintro _ w9 hB9
    have hfin : textU (confL c :: bodyN ls ls.length) ++ (pickL ps ++ [10] ++ drawL ds ++ [10]) = textU (linesL c ls ps ds) := by
      unfold linesL
      rw [textU_app]
      simp [textU]
    have hne : textU (confL c :: bodyN ls ls.length) ++ (pickL ps ++ [10] ++ drawL ds ++ [10]) ≠ [] := by simp
    refine cl (hB9.string hne (by rw [List.length_append]; omega)) ?_
    rintro _ w10 ⟨rfl, hu10⟩
    rw [hfin]
    exact ⟨rfl, hU2.trans hu10⟩
theorem show36_yes {w : World} {c : Cf} {ls : List (List C3)} {ps ds : List Int} {v : Value} (h : Scr w c ls ps ds v) (hL : Lit c ls ps ds) : Fn Tryd.prog 20 #[v] w fun r w' => r = .tuple #[.string (strOfNums (textU (linesL c ls ps ds))), .int .i64 0] ∧ Upd [] w w' := show36_y2 h hL.two
end Go.Proofs.YtlhbgnoghjendaaDoor
