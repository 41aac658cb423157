/- A script that lives; the law ScriptParses. -/
import Derived.Test.YtejofmohpjffkaaDh
namespace Go.Proofs.Ytejofmohpjffkaa
open Go.RowKit
attribute [local irreducible] Instr.loadAt Instr.storeAt Instr.fieldAt Instr.indexAt Instr.sliceAt Instr.buildSlice Instr.box Instr.alloc Builtin.append_ Builtin.len_ Builtin.min_ Builtin.max_ Calls Instr.build Instr.makeSlice binSem convert Instr.index Instr.range Instr.next
def pc (b : List Int) : K.Cf := if errS b = 0 then K.cfOf b else K.zC
def pl (b : List Int) : List (List C3) := if errS b = 0 then lsB b else []
def pp (b : List Int) : List Int := if errS b = 0 then psB b else []
def pd (b : List Int) : List Int := if errS b = 0 then restB b else []
theorem parseV.form {w : World} {b : List Int} {r : Value} (h : parseV w b r) : ∃ s, r = .tuple #[s, .int .i64 (errS b)] ∧ Scr w (pc b) (pl b) (pp b) (pd b) s := by
  unfold parseV at h
  by_cases he : errS b = 0
  · rw [if_pos he] at h
    obtain ⟨s, rfl, hs⟩ := h
    unfold pc pl pp pd
    rw [if_pos he, if_pos he, if_pos he, if_pos he]
    exact ⟨s, by rw [he], hs⟩
  · rw [if_neg he] at h
    subst h
    unfold pc pl pp pd
    rw [if_neg he, if_neg he, if_neg he, if_neg he]
    exact ⟨_, rfl, ⟨_, _, _, [], rfl, ⟨⟨none, 0, rfl, by simp, by decide, rfl, fun h => by simp at h⟩, fun i hi => by simp at hi⟩, RdK.nil_ _ _, RdK.nil_ _ _⟩⟩
theorem Scr.form {w : World} {c : K.Cf} {ls : List (List C3)} {ps ds : List Int} {s : Value} (h : Scr w c ls ps ds s) : ∃ cs : Array Value, s = .agg cs ∧ cs.toList.length = 10 ∧ cs.toList.all (·.oneCell') = true := by
  obtain ⟨cv, pv, dv, vals, rfl, h2, h3, h4⟩ := h.h
  obtain ⟨a1, c1, rfl, -⟩ := h2.out.form
  obtain ⟨a2, c2, rfl, -⟩ := h3.form
  obtain ⟨a3, c3, rfl, -⟩ := h4.form
  exact ⟨_, rfl, rfl, rfl⟩
def tenB : List Int := [0, 1, 2, 1, 1, 1, 1, 0, 0, 0]
theorem tenB_err : errS tenB = 0 := by decide
theorem tenB_ls : lsB tenB = [[]] := by decide
theorem tenB_ps : psB tenB = [] := by decide
set_option maxRecDepth 10000 in
theorem lives11 (w : World) : Fn Try.prog 20 #[] w fun r w' => r = .bool true ∧ Upd [] w w' := by
  refine fn_enter Try.func20 rfl rfl ?_
  refine bs #[.int .u8 0, .int .u8 1, .int .u8 2, .int .u8 1, .int .u8 1, .int .u8 1, .int .u8 1, .int .u8 0, .int .u8 0, .int .u8 0] (fun _ => by kernel_rfl) fun w1 hb1 hu1 hs1 => ?_
  have hrd : RdK w1 .u8 (.slice (some ⟨w.heap.size, 0, none⟩) 10 10) tenB := RdK.of_sl (Sl.lit (n := 10) hb1 rfl (by decide))
  have hbt : Bts w1 _ tenB := hrd.bts (by decide) (by decide)
  refine cl (sparse_c hbt) ?_
  rintro r w2 ⟨hp, hu2⟩
  unfold parseV at hp
  rw [if_pos tenB_err, tenB_ls, tenB_ps] at hp
  obtain ⟨s, rfl, hs⟩ := hp
  obtain ⟨kv, pv, dv, vals, rfl, hc, hpk, hd⟩ := hs.h
  obtain ⟨ka, kc, rfl, -⟩ := hc.out.form
  obtain ⟨pa, pc, rfl, -⟩ := hpk.form
  obtain ⟨da, dc, rfl, -⟩ := hd.form
  refine al zS (fun _ => by kernel_rfl) fun w3 hb3 hu3 hs3 => ?_
  refine stw hb3 rfl rfl rfl fun w4 hb4 hu4 hs4 => ?_
  have hz1 := hu1.size
  have hz2 := hu2.size
  have hU4 : Upd [] w w4 := ((hu1.trans hu2).trans hu3).step hu4 (by simp; omega)
  have hc4 := (hc.upd0 hu3)
  obtain ⟨x, hx, hxr⟩ := hc.at_ 0 (by decide)
  obtain ⟨xa, xc, rfl, -⟩ := hxr.form
  obtain ⟨kb, ko, kc', he, -⟩ := hc.out.some_ (by decide)
  cases he
  have hcell := hc.out.one rfl 0 (by decide)
  have hlt : kb < w2.heap.size := by
    obtain ⟨a', c', h0, -, -, -, h5⟩ := hc.out.h
    obtain ⟨b', o', h6, h7, -⟩ := h5 (by decide)
    cases h6; cases h0; exact h7
  rw [hx] at hcell
  refine fa ?_
  refine ldb hb4 rfl ?_
  refine len_sl ?_
  refine fa ?_
  refine ldb hb4 rfl ?_
  refine ix 0 rfl (by decide) ?_
  refine ld (by rw [hu4.cell (Nat.lt_of_lt_of_le hlt hu3.size) (by simp; omega), hu3.cell hlt (by simp)]; exact hcell) ?_
  refine len_sl ?_
  refine fa ?_
  refine ldb hb4 rfl ?_
  refine len_sl ?_
  refine fa ?_
  refine fa ?_
  refine ldb hb4 rfl ?_
  exact ⟨rfl, hU4⟩
set_option maxRecDepth 10000 in
theorem sparses_law {w : World} {v : Value} {b : List Int} (hv : Bts w v b) : Fn Try.prog 5 #[v] w fun r w' => r = .bool true ∧ Upd [] w w' := by
  obtain ⟨a, cap, rfl, -⟩ := hv.form
  refine fn_enter Try.func5 rfl rfl ?_
  refine len_sl ?_
  refine cd (fun h => ?_) (fun h => ?_)
  · refine cl (lives11 w) ?_
    rintro _ w1 ⟨rfl, hu1⟩
    exact ⟨rfl, hu1⟩
  have hl : b.length ≤ 200000 := by omega
  refine cl (sparse_c hv) ?_
  rintro r w1 ⟨hp, hu1⟩
  obtain ⟨s, rfl, hs⟩ := hp.form
  obtain ⟨cs, rfl, hl1, ho1⟩ := hs.form
  refine al zS (fun _ => by kernel_rfl) fun w2 hb2 hu2 hs2 => ?_
  refine stw hb2 rfl hl1 ho1 fun w3 hb3 hu3 hs3 => ?_
  have hz1 := hu1.size
  have hU13 : Upd [] w1 w3 := hu2.step hu3 (by simp)
  have hU3 : Upd [] w w3 := hu1.trans hU13
  refine cl (ref_parse_c (hv.upd hU3) hl) ?_
  rintro r w4 ⟨hp4, hu4⟩
  obtain ⟨s4, rfl, hs4⟩ := hp4.form
  obtain ⟨cs4, rfl, hl4, ho4⟩ := hs4.form
  refine al zS (fun _ => by kernel_rfl) fun w5 hb5 hu5 hs5 => ?_
  refine stw hb5 rfl hl4 ho4 fun w6 hb6 hu6 hs6 => ?_
  have hU46 : Upd [] w4 w6 := hu5.step hu6 (by simp)
  have hz4 := hu4.size
  have hlt3 := hb3.lt
  have gb3 := (hb3.upd hu4 (by simp)).upd hU46 (by simp)
  refine ldw gb3 hl1 ?_
  refine ldw hb6 hl4 ?_
  refine cl (same_c (((hs.upd0 hU13).upd0 hu4).upd0 hU46) (hs4.upd0 hU46)) ?_
  rintro _ w7 ⟨rfl, hu7⟩
  refine cY rfl ?_
  refine cl (lives11 w7) ?_
  rintro _ w8 ⟨rfl, hu8⟩
  exact ⟨rfl, (((hU3.trans hu4).trans hU46).trans hu7).trans hu8⟩
theorem ScriptParses_walk (w : World) (v : Value) (ls : List (List Int)) (h : SlRows w w.heap.size [.u8] v ls) : Calls Try.prog 5 #[v] w fun e w' => e = .returned (.bool true) ∧ Below w.heap.size w w' :=
  (sparses_law ⟨h.ints⟩).mono fun _ _ ⟨_, he, hv, hu⟩ => ⟨by rw [he, hv], hu.below⟩
end Go.Proofs.Ytejofmohpjffkaa
