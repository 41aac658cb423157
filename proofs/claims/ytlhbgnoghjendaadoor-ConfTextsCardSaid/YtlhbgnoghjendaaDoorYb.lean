/- The law ConfTexts. -/
import Derived.Test.YtlhbgnoghjendaaDoorYa
import Derived.Test.YtlhbgnoghjendaaDoorV8
import Derived.Test.YtlhbgnoghjendaaDoorV9
namespace Go.Proofs.YtlhbgnoghjendaaDoor
open Go.RowKit
attribute [local irreducible] Instr.loadAt Instr.storeAt Instr.fieldAt Instr.indexAt Instr.sliceAt Instr.buildSlice Instr.box Instr.alloc Builtin.append_ Builtin.len_ Builtin.min_ Builtin.max_ Calls Instr.build Instr.makeSlice binSem convert Instr.index Instr.range Instr.next
def cfOf (l : List Int) : Cf := ⟨l.getD 0 0, l.getD 1 0, l.getD 2 0, l.getD 3 0, l.getD 4 0, l.getD 5 0, l.getD 6 0⟩
def dec (l : List Int) (k : Nat) : List Int := (List.range 7).map fun j => if j < k then l.getD j 0 else 0
theorem dec_step (l : List Int) (k : Nat) (hk : k < 7) : (ints7 (dec l k)).setIfInBounds k (.int .i64 (l.getD k 0)) = ints7 (dec l (k + 1)) := by
  rcases (show k = 0 ∨ k = 1 ∨ k = 2 ∨ k = 3 ∨ k = 4 ∨ k = 5 ∨ k = 6 by omega) with rfl | rfl | rfl | rfl | rfl | rfl | rfl <;> rfl
theorem dec_size (l : List Int) (k : Nat) : (ints7 (dec l k)).size = 7 := by simp [ints7, dec]
set_option maxRecDepth 10000 in
theorem decode_c (v : Value) (l : List Int) (w : World) (hv : RdK w .u8 v l) (hr : ∀ i, i < l.length → 0 ≤ l.getD i 0 ∧ l.getD i 0 ≤ 255) : Fn Tryd.prog 14 #[v] w fun r w' => r = .tuple #[.agg (cf7 (if l.length < 7 then zC else if rightC (cfOf l) then cfOf l else zC)), .int .i64 (if l.length < 7 then 9 else errC (cfOf l))] ∧ Upd [] w w' := by
  obtain ⟨a, cap, rfl, hcap, -⟩ := hv.form
  refine fn_enter Tryd.func14 rfl rfl ?_
  refine al #[.int .i64 0, .int .i64 0, .int .i64 0, .int .i64 0, .int .i64 0, .int .i64 0, .int .i64 0] (fun _ => by kernel_rfl) fun w1 hb1 hu1 hs1 => ?_
  refine al #[.int .i64 0, .int .i64 0, .int .i64 0, .int .i64 0, .int .i64 0, .int .i64 0, .int .i64 0] (fun _ => by kernel_rfl) fun w2 hb2 hu2 hs2 => ?_
  refine len_sl ?_
  have hr2 := hb1.upd hu2 (by simp)
  refine cd (fun h7 => ?_) (fun h7 => ?_)
  · have h7 : l.length < 7 := by omega
    refine bd #[.int .i64 0, .int .i64 0, .int .i64 0, .int .i64 0, .int .i64 0, .int .i64 0, .int .i64 0] (fun _ => by kernel_rfl) ?_
    refine stw hr2 rfl rfl rfl fun w3 hb3 hu3 hs3 => ?_
    refine rlw hb3 rfl ?_
    refine ⟨?_, (hu1.trans hu2).step hu3 (by simp)⟩
    rw [if_pos h7, if_pos h7]
    rfl
  · have h7 : ¬ l.length < 7 := by omega
    have hU := hu1.trans hu2
    obtain ⟨b, o, cap', he, -⟩ := hv.some_ (by omega)
    cases he
    rw [if_neg h7, if_neg h7]
    have hd1 : w.heap.size ≠ w1.heap.size := by omega
    have hd2 : w.heap.size ≤ w1.heap.size := by omega
    have hb2 : Blk w2 w1.heap.size 52 (ints7 (dec l 0)) := hb2
    generalize w1.heap.size = q at *
    refine loop_rule [0, 2, 4] [11] (fun vs w' m => ∃ j : Nat, vs = [.int .i64 j] ∧ j ≤ 7 ∧ m = 7 - j ∧ Blk w' q 52 (ints7 (dec l j)) ∧ Blk w' w.heap.size 24 #[.int .i64 0, .int .i64 0, .int .i64 0, .int .i64 0, .int .i64 0, .int .i64 0, .int .i64 0] ∧ Upd [] w w') rfl [.int .i64 0] 7 rfl ⟨0, rfl, by omega, rfl, hb2, hr2, hU⟩ ?_
    rintro _ w3 m ⟨j, rfl, hj, rfl, gp, gr, gU⟩
    refine cd (fun hlt => ?_) (fun hlt => ?_)
    · have hlt : j < 7 := by omega
      refine ix j rfl (by omega) ?_
      refine ld ((hv.upd0 gU).at_ rfl j (by omega)) ?_
      refine cv ?_
      refine ar64 (by have := hr j (by omega); omega) ?_
      refine ixA j rfl hlt ?_
      refine st gp (by rw [dec_size]; omega) rfl fun w4 hb4 hu4 hs4 => ?_
      refine ar64 (by omega) ?_
      refine round_mk [.int .i64 ((j + 1 : Nat) : Int)] (7 - (j + 1)) rfl rfl ?_ (by omega)
      refine ⟨j + 1, rfl, by omega, rfl, ?_, gr.upd hu4 (by simpa using hd1), gU.step hu4 (by simpa using hd2)⟩
      rw [← dec_step l j hlt]
      simpa using hb4
    · have hj : j = 7 := by omega
      subst hj
      have gp : Blk w3 q 52 (cf7 (cfOf l)) := gp
      refine ldw gp (cf7_len _) ?_
      refine cl (conf_c (cfOf l) _) ?_
      rintro _ w4 ⟨rfl, hu4⟩
      refine cl (check_c (cfOf l) _) ?_
      rintro _ w5 ⟨rfl, hu5⟩
      have gr5 := (gr.upd hu4 (by simp)).upd hu5 (by simp)
      have gp5 := (gp.upd hu4 (by simp)).upd hu5 (by simp)
      have gU5 := (gU.trans hu4).trans hu5
      by_cases hr : rightC (cfOf l)
      · have he : errC (cfOf l) = 0 := if_pos hr
        rw [if_pos hr, he]
        refine ldw gp5 (cf7_len _) ?_
        refine cl (conf_c (cfOf l) _) ?_
        rintro _ w6 ⟨rfl, hu6⟩
        refine stw (gr5.upd hu6 (by simp)) rfl (cf7_len _) (cf7_one _) fun w7 hb7 hu7 hs7 => ?_
        refine rlw hb7 (cf7_len _) ?_
        exact ⟨rfl, (gU5.trans hu6).step hu7 (by simp)⟩
      · have he : errC (cfOf l) = 6 := if_neg hr
        rw [if_neg hr, he]
        refine bd (cf7 zC) (fun _ => by kernel_rfl) ?_
        refine stw gr5 rfl rfl rfl fun w7 hb7 hu7 hs7 => ?_
        refine rlw hb7 rfl ?_
        exact ⟨rfl, gU5.step hu7 (by simp)⟩

theorem cfL_at (c : Cf) (hc : rightC c) (j : Nat) (hj : j < 7) : 0 ≤ (cfL c).getD j 0 ∧ (cfL c).getD j 0 ≤ 255 := by
  obtain ⟨A, T, N, L, B, P, S⟩ := c
  obtain ⟨⟨h0, h1, h2, h3, h4, h5, h6⟩, -⟩ := hc
  unfold within at *
  rcases (show j = 0 ∨ j = 1 ∨ j = 2 ∨ j = 3 ∨ j = 4 ∨ j = 5 ∨ j = 6 by omega) with rfl | rfl | rfl | rfl | rfl | rfl | rfl <;> simp only [cfL, List.getD_cons_zero, List.getD_cons_succ] <;> omega
theorem cf7_get (c : Cf) (j : Nat) (hj : j < 7) : (cf7 c).toList[j]? = some (.int .i64 ((cfL c).getD j 0)) := by
  obtain ⟨A, T, N, L, B, P, S⟩ := c
  rcases (show j = 0 ∨ j = 1 ∨ j = 2 ∨ j = 3 ∨ j = 4 ∨ j = 5 ∨ j = 6 by omega) with rfl | rfl | rfl | rfl | rfl | rfl | rfl <;> rfl
theorem cfL_take (c : Cf) (j : Nat) (hj : j < 7) : (cfL c).take (j + 1) = (cfL c).take j ++ [(cfL c).getD j 0] := by
  obtain ⟨A, T, N, L, B, P, S⟩ := c
  rcases (show j = 0 ∨ j = 1 ∨ j = 2 ∨ j = 3 ∨ j = 4 ∨ j = 5 ∨ j = 6 by omega) with rfl | rfl | rfl | rfl | rfl | rfl | rfl <;> rfl
set_option maxRecDepth 10000 in
theorem code_c (c : Cf) (hr : rightC c) (w : World) : Fn Tryd.prog 11 #[.agg (cf7 c)] w fun v w' => Sl w' 5 1 v 7 ((cfL c).map (.int .u8)) ∧ (∀ g, v.ownBlock = some g → w.heap.size ≤ g) ∧ Upd [] w w' := by
  refine fn_enter Tryd.func11 rfl rfl ?_
  refine bx fun w1 hb1 hu1 hs1 => ?_
  have hb1 : Blk w1 w.heap.size 24 (cf7 c) := hb1
  refine ldw hb1 (cf7_len _) ?_
  refine cl (check_c c _) ?_
  rintro _ w2 ⟨rfl, hu2⟩
  rw [show errC c = 0 from if_pos hr]
  refine ldw (hb1.upd hu2 (by simp)) (cf7_len _) ?_
  refine cl (of_c c _) ?_
  rintro _ w3 ⟨rfl, hu3⟩
  refine loop_rule [10] [11, 3] (fun vs w' m => ∃ (j : Nat) (v : Value), vs = [.int .i64 j, v] ∧ j ≤ 7 ∧ m = 7 - j ∧ Sl w' 5 1 v j (((cfL c).take j).map (.int .u8)) ∧ (∀ g, v.ownBlock = some g → w.heap.size ≤ g) ∧ Upd [] w w') rfl [.int .i64 0, .slice none 0 0] 7 rfl ⟨0, _, rfl, by omega, rfl, Sl.nil_ _ _ _, (fun g hg => by cases hg), (hu1.trans hu2).trans hu3⟩ ?_
  rintro _ w4 m ⟨j, v, rfl, hj, rfl, hs, ho, hU⟩
  refine cd (fun hlt => ?_) (fun hlt => ?_)
  · have hlt : j < 7 := by omega
    refine ixv j rfl hlt (cf7_get c j hlt) ?_
    refine cv ?_
    refine ar8 (cfL_at c hr j hlt) ?_
    refine bs #[.int .u8 ((cfL c).getD j 0)] (fun _ => by kernel_rfl) fun w5 hb5 hu5 hs5 => ?_
    refine app (hs.upd hu5 (by simp)) hb5 rfl rfl (by decide) (by simp [maxLen]; omega) (by omega) fun g off cap w6 hs6 hu6 hg => ?_
    refine ar64 (by omega) ?_
    refine round_mk [.int .i64 ((j + 1 : Nat) : Int), _] (7 - (j + 1)) rfl rfl ?_ (by omega)
    have z5 := hu5.size
    have zU := hU.size
    refine ⟨j + 1, _, rfl, by omega, rfl, ?_, ?_, (hU.trans hu5).step hu6 ?_⟩
    · rw [cfL_take c j hlt, List.map_append]; exact hs6
    · intro g' hg'
      have : g = g' := by simpa [Value.ownBlock] using hg'
      subst this
      rcases hg with h | h
      · exact ho _ h
      · omega
    · intro x hx
      exact .inr (ho x (by simpa using hx))
  · have hj : j = 7 := by omega
    subst hj
    have e : (cfL c).take 7 = cfL c := by obtain ⟨A, T, N, L, B, P, S⟩ := c; rfl
    rw [e] at hs
    exact ⟨hs, ho, hU⟩

theorem code_no {c : Cf} (hr : ¬ rightC c) (w : World) : Fn Tryd.prog 11 #[.agg (cf7 c)] w fun v w' => v = .slice none 0 0 ∧ Upd [] w w' := by
  refine fn_enter Tryd.func11 rfl rfl ?_
  refine bx fun w1 hb1 hu1 hs1 => ?_
  have hb1 : Blk w1 w.heap.size 24 (cf7 c) := hb1
  refine ldw hb1 (cf7_len _) ?_
  refine cl (check_c c _) ?_
  rintro _ w2 ⟨rfl, hu2⟩
  rw [show errC c = 6 from if_neg hr]
  exact ⟨rfl, hu1.trans hu2⟩
theorem cshow_no {c : Cf} (hc : ¬ rightC c) (w : World) : Fn Tryd.prog 10 #[.agg (cf7 c)] w fun r w' => r = .string ⟨#[63]⟩ ∧ Upd [] w w' := by
  refine fn_enter Tryd.func10 rfl rfl ?_
  refine bx fun w1 hb1 hu1 hs1 => ?_
  refine ldw hb1 (cf7_len c) ?_
  refine cl (check_c c w1) ?_
  rintro _ w2 ⟨rfl, hu2⟩
  rw [show errC c = 6 from if_neg hc]
  exact ⟨rfl, hu1.trans hu2⟩
theorem rcshow_no {c : Cf} (hc : ¬ rightC c) (w : World) : Fn Tryd.prog 12 #[.agg (cf7 c)] w fun r w' => r = .string ⟨#[63]⟩ ∧ Upd [] w w' := by
  refine fn_enter Tryd.func12 rfl rfl ?_
  refine bx fun w1 hb1 hu1 hs1 => ?_
  refine ldw hb1 (cf7_len c) ?_
  refine cl (rright_c c w1) ?_
  rintro _ w2 ⟨rfl, hu2⟩
  rw [decide_eq_false hc]
  exact ⟨rfl, hu1.trans hu2⟩
set_option maxRecDepth 10000 in
theorem texts_law {w : World} {c : Cf} {mv : Value} {ms : List Int} (hm : RdK w .u8 mv ms) (hby : ∀ x ∈ ms, 0 ≤ x ∧ x ≤ 255) : Fn Tryd.prog 4 #[.agg (cf7 c), mv] w fun r w' => r = .bool true ∧ Upd [] w w' := by
  obtain ⟨ma, mc, rfl, hm1, hm2⟩ := hm.form
  simp only [maxLen] at hm2
  refine fn_enter Tryd.func4 rfl rfl ?_
  refine bx fun w1 hb1 hu1 hs1 => ?_
  have hb1 : Blk w1 w.heap.size 24 (cf7 c) := hb1
  refine len_sl ?_
  refine cd (fun h2 => ?_) (fun h2 => ?_)
  · refine cl (lives10 w1) ?_
    rintro _ w2 ⟨rfl, hu2⟩
    exact ⟨rfl, hu1.trans hu2⟩
  refine draw_mix 5 [(0, true), (2, true), (1, false), (3, false), (4, false)] (fun w' => Upd [] w1 w') (by decide +kernel) (Upd.refl _ _).drew ?_
  refine rq (.agg (cf7 c)) (fun w' hw' => ldw (hb1.upd hw' (by simp)) (cf7_len c) ⟨rfl, rfl⟩) ?_
  refine rq (.agg (cf7 c)) (fun w' hw' => ldw (hb1.upd hw' (by simp)) (cf7_len c) ⟨rfl, rfl⟩) ?_
  by_cases hr : rightC c
  · refine cl (cshow_c hr w1.drew) ?_
    rintro _ w2 ⟨rfl, hu2⟩
    have hU2 : Upd [] w1 w2 := (Upd.refl [] w1).drew.trans hu2
    refine ⟨hU2, ?_⟩
    refine cl (code_c c hr w2) ?_
    rintro cv w3 ⟨hs3, ho3, hu3⟩
    have hU3 := hU2.trans hu3
    refine ⟨hU3, ?_⟩
    refine ⟨hU3, ?_⟩
    have hb3 := hb1.upd hU3 (by simp)
    refine ldw hb3 (cf7_len c) ?_
    refine cl (rcshow_c hr w3) ?_
    rintro _ w4 ⟨rfl, hu4⟩
    refine cN (by simp) ?_
    have hb4 := hb3.upd hu4 (by simp)
    refine ldw hb4 (cf7_len c) ?_
    refine cl (rright_c c w4) ?_
    rintro _ w5 ⟨rfl, hu5⟩
    rw [decide_eq_true hr]
    have hb5 := hb4.upd hu5 (by simp)
    have hs5 := (hs3.upd hu4 (by simp)).upd hu5 (by simp)
    have hU5 := (hU3.trans hu4).trans hu5
    rw [str_by8]
    refine cl (cparse_c (toB (confL c)) (by have h7 := tailL_len hr 7 (by omega); have h0 := kindL_len c.A; rw [toB, List.length_map]; unfold confL; rw [List.length_append]; omega) w5) ?_
    rintro _ w6 ⟨⟨d, e, rfl, hd⟩, hu6⟩
    obtain ⟨rfl, rfl⟩ : e = 0 ∧ d = c := hd.uniq (.inl ⟨hr, rfl, rfl⟩)
    refine al (cf7 zC) (fun _ => by kernel_rfl) fun w7 hb7 hu7 hs7 => ?_
    refine stw hb7 rfl (cf7_len d) (cf7_one d) fun w8 hb8 hu8 hs8 => ?_
    have hU6 := hU5.trans hu6
    have z6 := hU6.size
    have z1 := hu1.size
    have hb6 := hb5.upd hu6 (by simp)
    have q6 := hb6.lt
    have hs6 := hs5.upd hu6 (by simp)
    have hlt6 := hs6.lt
    have hU8 : Upd [] w1 w8 := (hU6.trans hu7).step hu8 (by simp; omega)
    have hb18 := (hb6.upd hu7 (by simp)).upd hu8 (by simp; omega)
    have hs8 := (hs6.upd hu7 (by simp)).upd hu8 (fun g hg => by have := hlt6 g hg; simp only [List.mem_singleton]; omega)
    have hm8 := (hm.upd0 hu1).upd0 hU8
    have z2 := hU2.size
    refine apx hs8 hm8.rd one_ints (by simp only [maxLen]; omega) (by omega) fun v9 w9 hs9 hG9 => ?_
    rw [← List.map_append] at hs9
    have hlen : (cfL d ++ ms).length = 7 + ms.length := by rw [List.length_append]; congr 1
    have hne1 : cv.ownBlock ≠ some w.heap.size := fun h => by have := ho3 _ h; omega
    have hne2 : cv.ownBlock ≠ some w6.heap.size := fun h => by have := hlt6 _ h; omega
    have hb19 := hG9.blk hb18 hne1
    have hb89 := hG9.blk hb8 hne2
    have hU9 : Upd [] w1 w9 := hU8.step hG9.up (fun x hx => .inr (by have := ho3 x (by simpa using hx); omega))
    have hk9 := RdK.of_sl hs9
    refine cl (decode_c v9 (cfL d ++ ms) w9 hk9 (fun i hi => ?_)) ?_
    · have hl7 : (cfL d).length = 7 := by cases d; rfl
      rw [hlen] at hi
      rcases Nat.lt_or_ge i 7 with h7 | h7
      · have : (cfL d ++ ms).getD i 0 = (cfL d).getD i 0 := by rw [List.getD, List.getElem?_append_left (by rw [hl7]; exact h7)]; rfl
        rw [this]; exact cfL_at d hr i h7
      · refine hby _ ?_
        simp only [List.getD]
        rw [List.getElem?_append_right (by omega), hl7, List.getElem?_eq_getElem (by omega)]
        simp
    rintro _ w10 ⟨rfl, hu10⟩
    have hcf : cfOf (cfL d ++ ms) = d := by cases d; rfl
    have hn7 : ¬ (cfL d ++ ms).length < 7 := by rw [hlen]; omega
    rw [if_neg hn7, if_neg hn7, hcf, if_pos hr, show errC d = 0 from if_pos hr]
    have hU10 := hU9.trans hu10
    have g1 := hb19.upd hu10 (by simp)
    have g2 := hb89.upd hu10 (by simp)
    have q1 := g1.lt
    have q2 := g2.lt
    refine al (cf7 zC) (fun _ => by kernel_rfl) fun w11 hb11 hu11 hs11 => ?_
    refine stw hb11 rfl (cf7_len d) (cf7_one d) fun w12 hb12 hu12 hs12 => ?_
    have z10 := hU10.size
    have hU12 : Upd [] w w12 := hu1.trans ((hU10.trans hu11).step hu12 (by simp; omega))
    have k1 := (g1.upd hu11 (by simp)).upd hu12 (by simp; omega)
    have k2 := (g2.upd hu11 (by simp)).upd hu12 (by simp; omega)
    obtain ⟨ca, cc, rfl, -⟩ := hs8.form
    refine len_sl ?_
    refine ldw k2 (cf7_len d) ?_
    refine ldw k1 (cf7_len d) ?_
    refine eqq d ?_
    refine ldw hb12 (cf7_len d) ?_
    refine ldw k1 (cf7_len d) ?_
    refine eqq d ?_
    refine cl (lives10 w12) ?_
    rintro _ w13 ⟨rfl, hu13⟩
    exact ⟨rfl, hU12.trans hu13⟩
  · refine cl (cshow_no hr w1.drew) ?_
    rintro _ w2 ⟨rfl, hu2⟩
    have hU2 : Upd [] w1 w2 := (Upd.refl [] w1).drew.trans hu2
    refine ⟨hU2, ?_⟩
    refine cl (code_no hr w2) ?_
    rintro _ w3 ⟨rfl, hu3⟩
    have hU3 := hU2.trans hu3
    refine ⟨hU3, ?_⟩
    refine ⟨hU3, ?_⟩
    have hb3 := hb1.upd hU3 (by simp)
    refine ldw hb3 (cf7_len c) ?_
    refine cl (rcshow_no hr w3) ?_
    rintro _ w4 ⟨rfl, hu4⟩
    refine cN (by simp) ?_
    have hb4 := hb3.upd hu4 (by simp)
    refine ldw hb4 (cf7_len c) ?_
    refine cl (rright_c c w4) ?_
    rintro _ w5 ⟨rfl, hu5⟩
    rw [decide_eq_false hr]
    refine len_sl ?_
    refine cl (lives10 w5) ?_
    rintro _ w6 ⟨rfl, hu6⟩
    exact ⟨rfl, (((hu1.trans hU3).trans hu4).trans hu5).trans hu6⟩
theorem ConfTexts_walk (w : World) (l : List Int) (wl : Fits [.i64, .i64, .i64, .i64, .i64, .i64, .i64] l) (v : Value) (ls : List (List Int)) (h : SlRows w w.heap.size [.u8] v ls) :
    Calls Tryd.prog 4 #[.agg (mkInts [.i64, .i64, .i64, .i64, .i64, .i64, .i64] l).toArray, v] w fun e w' => e = .returned (.bool true) ∧ Below w.heap.size w w' := by
  obtain ⟨c, rfl⟩ := cf_of wl
  have h2 := h.ints
  obtain ⟨_, _, _, _, _, _, h4, _⟩ := h2
  have hb : ∀ x ∈ _, _ := fun x hx => h4 x hx
  have e : (mkInts [.i64, .i64, .i64, .i64, .i64, .i64, .i64] (cfL c)).toArray = cf7 c := by cases c; rfl
  rw [e]
  exact (texts_law (RdK.of_ints h.ints (Nat.le_refl _)) (fun x hx => by
    have h6 := h4 x hx
    simp only [Lit.wf] at h6
    have h7 : IntKind.u8.min ≤ x ∧ x ≤ IntKind.u8.max := by simpa using h6
    exact h7)).mono fun _ _ ⟨_, he, hv, hu⟩ => ⟨by rw [he, hv], hu.below⟩
end Go.Proofs.YtlhbgnoghjendaaDoor
