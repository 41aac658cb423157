/- The example; the law SceneShows. -/
import Derived.Test.YtblngbagjieeiaaUj
namespace Go.Proofs.Ytblngbagjieeiaa
open Go.RowKit
attribute [local irreducible] Instr.loadAt Instr.storeAt Instr.fieldAt Instr.indexAt Instr.sliceAt Instr.buildSlice Instr.box Instr.alloc Builtin.append_ Builtin.len_ Builtin.min_ Builtin.max_ Calls Instr.build Instr.makeSlice binSem convert Instr.index Instr.range Instr.next
attribute [local irreducible] Builtin.unsafeSliceData_ Builtin.unsafeString_
def exC : Cf := ⟨0, 1, 2, 1, 1, 1, 1⟩
def exCs : List (List C3) := [[(1, 0, 0)]]
def exT : List Int := [109,111,117,110,100,32,116,104,114,101,97,100,115,32,49,32,110,111,100,101,115,32,50,32,108,101,118,101,108,32,49,32,98,97,116,99,104,32,49,32,112,114,111,98,101,115,32,49,32,115,99,97,110,32,49,10,116,104,114,101,97,100,32,48,10,100,101,108,101,116,101,109,105,110,10,112,105,99,107,115,32,48,120,50,10,100,114,97,119,115,32,48,97,10]
theorem ex_text : textU (linesL exC exCs [0, 0] [10]) = exT := by
  have d0 : decB 0 = [48] := decB_small (n := 0) (by decide)
  have d1 : decB 1 = [49] := decB_small (n := 1) (by decide)
  have d2 : decB 2 = [50] := decB_small (n := 2) (by decide)
  simp [textU, linesL, confL, kindL, tailL, partL, nameL, cfL, exC, exCs, bodyN, thrL, t_thread, callL, showL, rightCall, pickL, pickF, runL, t_picks, drawL, byteL, hexB, t_draws, d0, d1, d2, exT]
theorem ex_lit : Lit exC exCs [0, 0] [10] := by
  refine ⟨⟨by decide, by decide, by decide, by decide, by decide, ?_, ?_⟩, ⟨by decide, by decide, by decide, by decide⟩, ?_, ?_⟩
  · intro i hi j hj
    obtain rfl : i = 0 := by simp [exCs] at hi; omega
    obtain rfl : j = 0 := by simp [exCs] at hj; omega
    exact .inr ⟨.inl rfl, rfl, rfl⟩
  · intro i hi
    have : i = 0 ∨ i = 1 := by simp at hi; omega
    rcases this with rfl | rfl <;> decide
  · intro l hl x hx
    obtain rfl : l = [(1, 0, 0)] := by simpa [exCs] using hl
    obtain rfl : x = (1, 0, 0) := by simpa using hx
    exact ⟨by decide, by decide⟩
  · intro i hi
    obtain rfl : i = 0 := by simp at hi; omega
    decide
set_option maxRecDepth 10000 in
theorem lives36 (w : World) : Fn Try.prog 23 #[] w fun r w' => r = .bool true ∧ Upd [] w w' := by
  refine fn_enter Try.func23 rfl rfl ?_
  refine bd (cf7 exC) (fun _ => by kernel_rfl) ?_
  refine bd (c3 1 0 0) (fun _ => by kernel_rfl) ?_
  refine bs (c3 1 0 0) (fun _ => by kernel_rfl) fun w1 hb1 hu1 hs1 => ?_
  refine bs #[.slice (some ⟨w.heap.size, 0, none⟩) 1 1] (fun _ => by kernel_rfl) fun w2 hb2 hu2 hs2 => ?_
  refine bs #[.int .i64 0, .int .i64 0] (fun _ => by kernel_rfl) fun w3 hb3 hu3 hs3 => ?_
  refine bs #[.int .u8 10] (fun _ => by kernel_rfl) fun w4 hb4 hu4 hs4 => ?_
  refine bd (scV exC (.slice (some ⟨w1.heap.size, 0, none⟩) 1 1) (.slice (some ⟨w2.heap.size, 0, none⟩) 2 2) (.slice (some ⟨w3.heap.size, 0, none⟩) 1 1)) (fun _ => by kernel_rfl) ?_
  have hU4 := ((hu1.trans hu2).trans hu3).trans hu4
  have hb1' := ((hb1.upd hu2 (by simp)).upd hu3 (by simp)).upd hu4 (by simp)
  have hb2' := (hb2.upd hu3 (by simp)).upd hu4 (by simp)
  have hb3' := hb3.upd hu4 (by simp)
  have hS : Scr w4 exC exCs [0, 0] [10] (.agg (scV exC (.slice (some ⟨w1.heap.size, 0, none⟩) 1 1) (.slice (some ⟨w2.heap.size, 0, none⟩) 2 2) (.slice (some ⟨w3.heap.size, 0, none⟩) 1 1))) := by
    refine ⟨_, _, _, [.slice (some ⟨w.heap.size, 0, none⟩) 1 1], rfl, ⟨RdN.of_sl (Sl.lit (n := 1) hb2' rfl (by decide)), fun i hi => ?_⟩, RdK.of_sl (Sl.lit (n := 2) hb3' rfl (by decide)), RdK.of_sl (Sl.lit (n := 1) hb4 rfl (by decide))⟩
    obtain rfl : i = 0 := by simp [exCs] at hi; omega
    refine ⟨_, rfl, ⟨_, 1, rfl, by decide, by decide, by decide, fun _ => ⟨w.heap.size, 0, rfl, hb1'.lt, fun j hj => ?_⟩⟩⟩
    rw [hb1'.cell, Nat.zero_add, ← Array.getElem?_toList]
    rfl
  refine cl (show36_yes hS ex_lit) ?_
  rintro _ w5 ⟨rfl, hu5⟩
  rw [ex_text]
  exact ⟨congrArg Value.bool (by kernel_rfl), hU4.trans hu5⟩
def okIn (v : Value) : Prop := ∃ cs, v = .agg cs
set_option maxRecDepth 10000 in
theorem scene_law {w : World} {v : Value} {c : Cf} {ls : List (List C3)} {ps ds : List Int} (h : ScrIn w v c ls ps ds) : Fn Try.prog 6 #[v] w fun r w' => r = .bool true ∧ Upd [] w w' := by
  obtain ⟨kv, pv, dv, vals, rfl, -⟩ := h.scr.h
  refine fn_enter Try.func6 rfl rfl ?_
  refine bx fun w1 hb1 hu1 hs1 => ?_
  have hb1 : Blk w1 w.heap.size TS (scV c kv pv dv) := hb1
  have h1 : ScrIn w1 (.agg (scV c kv pv dv)) c ls ps ds := ⟨h.scr.upd0 hu1, h.keys, h.bytes, h.few⟩
  refine ldw hb1 rfl ?_
  refine cl (light_c h1) ?_
  rintro _ w2 ⟨⟨b, rfl, hbl⟩, hu2⟩
  have hU2 := hu1.trans hu2
  have hb2 := hb1.upd hu2 (by simp)
  cases b with
  | false =>
    refine cl (lives36 w2) ?_
    rintro _ w3 ⟨rfl, hu3⟩
    exact ⟨rfl, hU2.trans hu3⟩
  | true =>
    have hl := hbl.1 rfl
    have htot := hl.2.1
    refine ldw hb2 rfl ?_
    by_cases hr : rightS c ls ps ds
    · have hL : Lit c ls ps ds := ⟨hr, hl, fun l hl x hx => h.keys l hl x hx, fun i hi => h.bytes _ (by simp [List.getD, hi])⟩
      refine cl (show36_yes (h1.scr.upd0 hu2) hL) ?_
      rintro _ w3 ⟨rfl, hu3⟩
      have hU3 := hU2.trans hu3
      have hb3 := hb2.upd hu3 (by simp)
      refine ldw hb3 rfl ?_
      refine cl (rright_sc (h1.scr.upd0 (hu2.trans hu3))) ?_
      rintro _ w4 ⟨⟨b, rfl, hbr⟩, hu4⟩
      obtain rfl : b = true := hbr.2 hr
      have hU4 := hU3.trans hu4
      refine ldw (hb3.upd hu4 (by simp)) rfl ?_
      refine cl (lines_c (h1.scr.upd0 ((hu2.trans hu3).trans hu4)) hL) ?_
      rintro lv w5 ⟨hs5, hu5⟩
      have hU5 := hU4.trans hu5
      have hln : (linesL c ls ps ds).length ≤ 300 := by
        have h1 := bodyN_len ls ls.length (by omega)
        have h2 := tot_le ls ls.length
        have h3 := hl.1
        unfold linesL
        simp only [List.cons_append, List.length_cons, List.length_append, List.length_nil]
        omega
      refine cl (text_c (RdN.of_sl hs5) hln (fun l hm => ?_)) ?_
      · unfold linesL at hm
        simp only [List.cons_append, List.mem_cons, List.mem_append, List.not_mem_nil, or_false] at hm
        rcases hm with rfl | hm | rfl | rfl
        · have := confL_len hr.1; omega
        · exact bodyN_mem hL.k ls.length (by omega) hl.1 l hm
        · have := pickL_len ps hL.okp hl.2.2.1; omega
        · rw [drawL_len]; have := hl.2.2.2; omega
      rintro _ w6 ⟨rfl, hu6⟩
      refine cY rfl ?_
      refine cl (lives36 w6) ?_
      rintro _ w7 ⟨rfl, hu7⟩
      exact ⟨rfl, (hU5.trans hu6).trans hu7⟩
    · refine cl (show36_no (h1.scr.upd0 hu2) (by omega) hr) ?_
      rintro _ w3 ⟨rfl, hu3⟩
      have hU3 := hU2.trans hu3
      have hb3 := hb2.upd hu3 (by simp)
      refine ldw hb3 rfl ?_
      refine cl (rright_sc (h1.scr.upd0 (hu2.trans hu3))) ?_
      rintro _ w4 ⟨⟨b, rfl, hbr⟩, hu4⟩
      obtain rfl : b = false := by
        cases b
        · rfl
        · exact absurd (hbr.1 rfl) hr
      refine cY rfl ?_
      refine cl (lives36 w4) ?_
      rintro _ w7 ⟨rfl, hu7⟩
      exact ⟨rfl, (hU3.trans hu4).trans hu7⟩
theorem SceneShows_walk (w : World) (v : Value) (c : Cf) (ls : List (List C3)) (ps ds : List Int) (h : ScrIn w v c ls ps ds) : Calls Try.prog 6 #[v] w fun e w' => e = .returned (.bool true) ∧ Below w.heap.size w w' :=
  (scene_law h).mono fun _ _ ⟨_, he, hv, hu⟩ => ⟨by rw [he, hv], hu.below⟩
end Go.Proofs.Ytblngbagjieeiaa
