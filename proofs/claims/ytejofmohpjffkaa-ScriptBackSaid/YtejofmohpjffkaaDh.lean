/- Scripts that are the same; a script that lives; the law ScriptParses. -/
import Derived.Test.YtejofmohpjffkaaDg
namespace Go.Proofs.Ytejofmohpjffkaa
open Go.RowKit
attribute [local irreducible] Instr.loadAt Instr.storeAt Instr.fieldAt Instr.indexAt Instr.sliceAt Instr.buildSlice Instr.box Instr.alloc Builtin.append_ Builtin.len_ Builtin.min_ Builtin.max_ Calls Instr.build Instr.makeSlice binSem convert Instr.index Instr.range Instr.next
theorem conv0 {P : Program} {w : World} {s e d : Nat} (hs : P.underlying s = some (.slice e)) (he : P.underlying e = some (.int .u8)) (hd : P.underlying d = some .string) (a : Option Addr) (c : Nat) :
    (convert s d (.slice a 0 c)).run P w = .ok (.string (strOfNums [])) w := by
  cases a with
  | none => exact run_convert_bytes_nil w s e hs he 0 c d hd
  | some a =>
    rw [run_convert_bytes_string w s d e _ 0 c hs he hd, run_bytesToString w a 0 c [] (by
      have := run_loadCells_list (P := P) w a [] (fun j v hj => by simp at hj)
      simpa using this), foldl_push_bytes]
    simp [strOfNums, ByteArray.empty, ByteArray.emptyWithCapacity]
    rfl
theorem cvr {P : Program} {K : Value → World → Prop} {w : World} {s e d : Nat} [SlT P s e 1] [IntT P e .u8] [StrT P d] {v : Value} {ds : List Int} (h : RdK w .u8 v ds) (k : K (.string (strOfNums ds)) w) : RunP P (convert s d v) K w := by
  obtain ⟨a, cap, rfl, h1, h2, h5⟩ := h.h
  by_cases hl : ds.length = 0
  · have hl := List.eq_nil_of_length_eq_zero hl
    subst hl
    exact rn _ _ (conv0 (SlT.u (P := P) (t := s) (e := e) (n := 1)) (IntT.u (P := P) (t := e) (k := .u8)) StrT.u a cap) k
  · obtain ⟨b, o, rfl, hb, hc⟩ := h5 (by omega)
    exact cvb ds rfl hc k
theorem sc_list (c : K.Cf) (kv pv dv : Value) : (scV c kv pv dv).toList = (K.cf7 c).toList ++ [kv, pv, dv] := by cases c; rfl
theorem ldcf {K' : Value → World → Prop} {w : World} {g T : Nat} {c : K.Cf} {kv pv dv : Value} (hb : Blk w g T (scV c kv pv dv)) (k : K' (.agg (K.cf7 c)) w) : RunP Try.prog (Instr.loadAt 23 (.pointer (some ⟨g, 0 + 0, none⟩))) K' w := by
  refine lda (K.cf7 c).toList (K.cf7_len c) (fun j v hj => ?_) (by simpa using k)
  have hlt : j < (K.cf7 c).toList.length := by
    rcases Nat.lt_or_ge j (K.cf7 c).toList.length with h | h
    · exact h
    · rw [List.getElem?_eq_none h] at hj; cases hj
  rw [hb.cell, ← Array.getElem?_toList, sc_list, show 0 + 0 + j = j by omega, List.getElem?_append_left hlt]
  exact hj
theorem nqq {K' : Value → World → Prop} {w : World} {c : K.Cf} {x y : Operand} (k : K' (.bool false) w) : RunP Try.prog (binSem .neq 23 x y (.agg (K.cf7 c)) (.agg (K.cf7 c))) K' w :=
  anq (K.fits_cf _) (K.fits_cf _) (by rw [K.eq_cf]; exact k)
theorem ld3 {K' : Value → World → Prop} {w : World} {x : Value} {l : List C3} (h : RdN w 3 x l.length (cellsC l)) {b o k c : Nat} (hx : x = .slice (some ⟨b, o, none⟩) k c) (j : Nat) (hj : j < l.length) (h' : K' (.agg (cell3 (l.getD j (0, 0, 0))).toArray) w) : RunP Try.prog (Instr.loadAt 43 (.pointer (some ⟨b, o + j * 3, none⟩))) K' w := by
  refine lda (cell3 (l.getD j (0, 0, 0))) rfl (fun t v ht => ?_) h'
  have hlt : t < 3 := by
    rcases Nat.lt_or_ge t 3 with h1 | h1
    · exact h1
    · rw [List.getElem?_eq_none (by show 3 ≤ t; exact h1)] at ht; cases ht
  rw [h.at_ hx j t hj hlt, cellsC_at l j t hj hlt]
  exact ht
set_option maxRecDepth 10000 in
theorem same_c {w : World} {r1 r2 : Value} {c : K.Cf} {ls : List (List C3)} {ps ds : List Int} (h1 : Scr w c ls ps ds r1) (h2 : Scr w c ls ps ds r2) : Fn Try.prog 23 #[r1, r2] w fun r w' => r = .bool true ∧ Upd [] w w' := by
  obtain ⟨kv1, pv1, dv1, vals1, rfl, hc1, hp1, hd1⟩ := h1.h
  obtain ⟨kv2, pv2, dv2, vals2, rfl, hc2, hp2, hd2⟩ := h2.h
  refine fn_enter Try.func23 rfl rfl ?_
  refine bx fun w1 hb1 hu1 hs1 => ?_
  refine bx fun w2 hb2 hu2 hs2 => ?_
  have hb1 : Blk w2 w.heap.size TS (scV c kv1 pv1 dv1) := hb1.upd hu2 (by simp)
  have hb2 : Blk w2 w1.heap.size TS (scV c kv2 pv2 dv2) := hb2
  have hU := hu1.trans hu2
  have hc1 := hc1.upd0 hU
  have hc2 := hc2.upd0 hU
  have hp1 := hp1.upd0 hU
  have hp2 := hp2.upd0 hU
  have hd1 := hd1.upd0 hU
  have hd2 := hd2.upd0 hU
  generalize w.heap.size = q1 at *
  generalize w1.heap.size = q2 at *
  obtain ⟨ka1, kc1, hk1, hm1, hm1'⟩ := hc1.out.form
  obtain ⟨ka2, kc2, hk2, -⟩ := hc2.out.form
  obtain ⟨pa1, pc1, hpf1, hm2, hm2'⟩ := hp1.form
  simp only [maxLen] at hm1' hm2'
  obtain ⟨pa2, pc2, hpf2, -⟩ := hp2.form
  subst hk1; subst hk2; subst hpf1; subst hpf2
  refine fa ?_
  refine ldcf hb1 ?_
  refine fa ?_
  refine ldcf hb2 ?_
  refine nqq ?_
  refine fa ?_
  refine ldb hb1 rfl ?_
  refine len_sl ?_
  refine fa ?_
  refine ldb hb2 rfl ?_
  refine len_sl ?_
  refine cN (by simp) ?_
  refine fa ?_
  refine ldb hb1 rfl ?_
  refine len_sl ?_
  refine fa ?_
  refine ldb hb2 rfl ?_
  refine len_sl ?_
  refine cN (by simp) ?_
  refine fa ?_
  refine ldb hb1 rfl ?_
  refine cvr hd1 ?_
  refine fa ?_
  refine ldb hb2 rfl ?_
  refine cvr hd2 ?_
  refine cN (by simp) ?_
  refine loop_rule [2, 3] [5] (fun vs w' m => ∃ i : Nat, vs = [.int .i64 i] ∧ i ≤ ls.length ∧ m = ls.length - i ∧ Upd [] w2 w') rfl [.int .i64 0] ls.length rfl ⟨0, rfl, by omega, rfl, Upd.refl _ _⟩ ?_
  rintro _ w3 m ⟨i, rfl, hi, rfl, hU3⟩
  have gb1 := hb1.upd hU3 (by simp)
  have gb2 := hb2.upd hU3 (by simp)
  refine fa ?_
  refine ldb gb1 rfl ?_
  refine len_sl ?_
  refine cd (fun hlt => ?_) (fun hlt => ?_)
  · have hlt : i < ls.length := by omega
    obtain ⟨kb1, ko1, kc1', he, -⟩ := hc1.out.some_ (by omega)
    cases he
    obtain ⟨kb2, ko2, kc2', he, -⟩ := hc2.out.some_ (by omega)
    cases he
    obtain ⟨x1, hx1, hr1⟩ := hc1.at_ i hlt
    obtain ⟨x2, hx2, hr2⟩ := hc2.at_ i hlt
    obtain ⟨xa1, xc1, rfl, hm3, hm3'⟩ := hr1.form
    simp only [maxLen] at hm3'
    obtain ⟨xa2, xc2, rfl, -⟩ := hr2.form
    have cc1 : ∀ w', Upd [] w2 w' → CallsR w' _ ls vals1 := fun w' hu => hc1.upd0 hu
    have cc2 : ∀ w', Upd [] w2 w' → CallsR w' _ ls vals2 := fun w' hu => hc2.upd0 hu
    refine draw_all (fun w' => w' = w3.drew) (by decide +kernel) rfl ?_
    refine q_fa ?_
    refine q_ld (v := .slice (some ⟨kb1, ko1, none⟩) ls.length kc1) (by rintro _ rfl; exact (gb1).drew.cell 7) ?_
    refine q_ix i rfl hlt ?_
    refine q_ld (v := .slice xa1 (ls.getD i []).length xc1) (by rintro _ rfl; rw [(cc1 _ hU3.drew).out.one rfl i hlt]; exact hx1) ?_
    refine q_len ?_
    refine q_fa ?_
    refine q_ld (v := .slice (some ⟨kb2, ko2, none⟩) ls.length kc2) (by rintro _ rfl; exact (gb2).drew.cell 7) ?_
    refine q_ix i rfl hlt ?_
    refine q_ld (v := .slice xa2 (ls.getD i []).length xc2) (by rintro _ rfl; rw [(cc2 _ hU3.drew).out.one rfl i hlt]; exact hx2) ?_
    refine q_len ?_
    rintro _ rfl
    refine cN (by simp) ?_
    refine loop_rule [2, 3, 5] [6] (fun vs w' m => ∃ j : Nat, vs = [.int .i64 j] ∧ j ≤ (ls.getD i []).length ∧ m = (ls.getD i []).length - j ∧ Upd [] w2 w') rfl [.int .i64 0] _ rfl ⟨0, rfl, by omega, rfl, hU3.drew⟩ ?_
    rintro _ w4 m ⟨j, rfl, hj, rfl, hU4⟩
    have gb1 := hb1.upd hU4 (by simp)
    have gb2 := hb2.upd hU4 (by simp)
    refine fa ?_
    refine ldb gb1 rfl ?_
    refine ix i rfl hlt ?_
    refine ld (by rw [(cc1 _ hU4).out.one rfl i hlt]; exact hx1) ?_
    refine len_sl ?_
    refine cd (fun hlj => ?_) (fun hlj => ?_)
    · have hlj : j < (ls.getD i []).length := by omega
      obtain ⟨xb1, xo1, xc1', he, -⟩ := hr1.some_ (by omega)
      cases he
      obtain ⟨xb2, xo2, xc2', he, -⟩ := hr2.some_ (by omega)
      cases he
      refine draw_all (fun w' => w' = w4.drew) (by decide +kernel) rfl ?_
      refine q_fa ?_
      refine q_ld (v := .slice (some ⟨kb1, ko1, none⟩) ls.length kc1) (by rintro _ rfl; exact (gb1).drew.cell 7) ?_
      refine q_ix i rfl hlt ?_
      refine q_ld (v := .slice (some ⟨xb1, xo1, none⟩) (ls.getD i []).length xc1) (by rintro _ rfl; rw [(cc1 _ hU4.drew).out.one rfl i hlt]; exact hx1) ?_
      refine q_ix j rfl hlj ?_
      refine rq (.agg (cell3 ((ls.getD i []).getD j (0, 0, 0))).toArray) (by rintro _ rfl; exact ld3 (hr1.upd0 hU4.drew) rfl j hlj ⟨rfl, rfl⟩) ?_
      refine q_fa ?_
      refine q_ld (v := .slice (some ⟨kb2, ko2, none⟩) ls.length kc2) (by rintro _ rfl; exact (gb2).drew.cell 7) ?_
      refine q_ix i rfl hlt ?_
      refine q_ld (v := .slice (some ⟨xb2, xo2, none⟩) (ls.getD i []).length xc2) (by rintro _ rfl; rw [(cc2 _ hU4.drew).out.one rfl i hlt]; exact hx2) ?_
      refine q_ix j rfl hlj ?_
      refine rq (.agg (cell3 ((ls.getD i []).getD j (0, 0, 0))).toArray) (by rintro _ rfl; exact ld3 (hr2.upd0 hU4.drew) rfl j hlj ⟨rfl, rfl⟩) ?_
      refine rq (.bool false) (fun _ _ => anq rfl rfl ⟨by rw [eqCells_refl [.i .i64, .i .u32, .i .u32] _ rfl]; rfl, rfl⟩) ?_
      rintro _ rfl
      refine ar64 (by omega) ?_
      exact round_mk [.int .i64 ((j + 1 : Nat) : Int)] ((ls.getD i []).length - (j + 1)) rfl rfl ⟨j + 1, rfl, by omega, rfl, hU4.drew⟩ (by omega)
    · refine ar64 (by omega) ?_
      exact round_mk [.int .i64 ((i + 1 : Nat) : Int)] (ls.length - (i + 1)) rfl rfl ⟨i + 1, rfl, by omega, rfl, hU4⟩ (by omega)
  · refine loop_rule [2, 3] [7] (fun vs w' m => ∃ i : Nat, vs = [.int .i64 i] ∧ i ≤ ps.length ∧ m = ps.length - i ∧ Upd [] w2 w') rfl [.int .i64 0] ps.length rfl ⟨0, rfl, by omega, rfl, hU3⟩ ?_
    rintro _ w4 m ⟨i, rfl, hi, rfl, hU4⟩
    have gb1 := hb1.upd hU4 (by simp)
    have gb2 := hb2.upd hU4 (by simp)
    refine fa ?_
    refine ldb gb1 rfl ?_
    refine len_sl ?_
    refine cd (fun hlt => ?_) (fun hlt => ?_)
    · have hlt : i < ps.length := by omega
      obtain ⟨kb1, ko1, kc1', he, -⟩ := hp1.some_ (by omega)
      cases he
      obtain ⟨kb2, ko2, kc2', he, -⟩ := hp2.some_ (by omega)
      cases he
      refine draw_all (fun w' => w' = w4.drew) (by decide +kernel) rfl ?_
      refine q_fa ?_
      refine q_ld (v := .slice (some ⟨kb1, ko1, none⟩) ps.length pc1) (by rintro _ rfl; exact (gb1).drew.cell 8) ?_
      refine q_ix i rfl hlt ?_
      refine q_ld (v := .int .i64 (ps.getD i 0)) (by rintro _ rfl; exact (hp1.upd0 hU4.drew).at_ rfl i hlt) ?_
      refine q_fa ?_
      refine q_ld (v := .slice (some ⟨kb2, ko2, none⟩) ps.length pc2) (by rintro _ rfl; exact (gb2).drew.cell 8) ?_
      refine q_ix i rfl hlt ?_
      refine q_ld (v := .int .i64 (ps.getD i 0)) (by rintro _ rfl; exact (hp2.upd0 hU4.drew).at_ rfl i hlt) ?_
      rintro _ rfl
      refine cN (by simp) ?_
      refine ar64 (by omega) ?_
      exact round_mk [.int .i64 ((i + 1 : Nat) : Int)] (ps.length - (i + 1)) rfl rfl ⟨i + 1, rfl, by omega, rfl, hU4.drew⟩ (by omega)
    · exact ⟨rfl, hU.trans hU4⟩
end Go.Proofs.Ytejofmohpjffkaa
