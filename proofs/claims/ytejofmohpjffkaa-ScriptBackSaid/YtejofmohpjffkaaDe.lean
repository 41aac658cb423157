/- What bytes are parsed as: the walk. -/
import Derived.Test.YtejofmohpjffkaaDd
namespace Go.Proofs.Ytejofmohpjffkaa
open Go.RowKit
attribute [local irreducible] Instr.loadAt Instr.storeAt Instr.fieldAt Instr.indexAt Instr.sliceAt Instr.buildSlice Instr.box Instr.alloc Builtin.append_ Builtin.len_ Builtin.min_ Builtin.max_ Calls Instr.build Instr.makeSlice binSem convert Instr.index Instr.range Instr.next

theorem rdr_sc (bv : Value) (e : Int) (c : K.Cf) (kv pv dv : Value) (j : Nat) : (rdrC bv e c kv pv dv).toList[0 + 2 + j]? = (scV c kv pv dv).toList[j]? := by
  rw [show 0 + 2 + j = j + 1 + 1 by omega]; rfl
theorem Bts.rdk {w : World} {v : Value} {l : List Int} (h : Bts w v l) : RdK w .u8 v l := RdK.of_ints h.h (Nat.le_refl _)
theorem Bts.bytes_ {w : World} {v : Value} {l : List Int} (h : Bts w v l) : ∀ x ∈ l, 0 ≤ x ∧ x ≤ 255 := by
  intro x hx
  obtain ⟨i, hi, rfl⟩ := List.mem_iff_getElem.1 hx
  have := h.byte i hi
  simpa [List.getD, hi] using this
theorem build_sc (c : K.Cf) (w : World) : (Instr.build 37 #[(0, .agg (K.cf7 c))]).run Try.prog w = .ok (.agg (scV c (.slice none 0 0) (.slice none 0 0) (.slice none 0 0))) w := by
  obtain ⟨A, T, N, L, B, P, S⟩ := c
  kernel_rfl
theorem build_r (bv : Value) (c : K.Cf) (w : World) : (Instr.build 85 #[(0, .agg #[bv, .int .i64 0]), (1, .agg (scV c (.slice none 0 0) (.slice none 0 0) (.slice none 0 0)))]).run Try.prog w = .ok (.agg (rdrC bv 0 c (.slice none 0 0) (.slice none 0 0) (.slice none 0 0))) w := by
  obtain ⟨A, T, N, L, B, P, S⟩ := c
  kernel_rfl
theorem Sl.farT {w w' : World} {e T : TypeId} {n : Nat} {v : Value} {m g : Nat} {xs : List Value} {cs : Array Value} (h : Sl w e n v m xs) (hb : Blk w g T cs) (hne : e ≠ T) (hu : Upd [g] w w') : Sl w' e n v m xs :=
  h.upd hu fun k hk hm => by
    simp only [List.mem_singleton] at hm
    subst hm
    exact h.blk_ne hb hne hk
set_option maxRecDepth 10000 in
theorem sparse_c {w : World} {v : Value} {b : List Int} (hv : Bts w v b) : Fn Try.prog 21 #[v] w fun r w' => parseV w' b r ∧ Upd [] w w' := by
  refine fn_enter Try.func21 rfl rfl ?_
  refine al (scV K.zC (.slice none 0 0) (.slice none 0 0) (.slice none 0 0)) (fun _ => by kernel_rfl) fun w1 hb1 hu1 hs1 => ?_
  refine cl (K.decode_c v b w1 ⟨(hv.upd hu1).h⟩) ?_
  rintro _ w2 ⟨rfl, hu2⟩
  refine al (K.cf7 K.zC) (fun _ => by kernel_rfl) fun w3 hb3 hu3 hs3 => ?_
  refine stw hb3 rfl (K.cf7_len _) (K.cf7_one _) fun w4 hb4 hu4 hs4 => ?_
  have hz2 := hu2.size
  have hb1' : Blk w4 w.heap.size 37 (scV K.zC (.slice none 0 0) (.slice none 0 0) (.slice none 0 0)) := ((hb1.upd hu2 (by simp)).upd hu3 (by simp)).upd hu4 (by simp; omega)
  have hU4 : Upd [] w w4 := ((hu1.trans hu2).trans hu3).step hu4 (by simp; omega)
  have hq : w.heap.size ≠ w2.heap.size := by omega
  have hq2 : w.heap.size ≤ w2.heap.size := by omega
  generalize hqq : w2.heap.size = q at *
  by_cases hg : 7 ≤ b.length ∧ K.rightC (K.cfOf b)
  rotate_left
  · have hx : (if b.length < 7 then (9 : Int) else K.errC (K.cfOf b)) = errS b ∧ errS b ≠ 0 := by
      unfold errS K.errC
      by_cases h7 : b.length < 7
      · rw [if_pos h7, if_pos h7]; exact ⟨rfl, by decide⟩
      · rw [if_neg h7, if_neg h7]
        have : ¬ K.rightC (K.cfOf b) := fun h => hg ⟨by omega, h⟩
        rw [if_neg this, if_pos this]; exact ⟨rfl, by decide⟩
    rw [hx.1]
    refine cY hx.2 ?_
    refine bd (scV K.zC (.slice none 0 0) (.slice none 0 0) (.slice none 0 0)) (fun _ => by kernel_rfl) ?_
    refine stw hb1' rfl rfl rfl fun w5 hb5 hu5 hs5 => ?_
    refine rlw hb5 rfl ?_
    refine ⟨?_, hU4.step hu5 (by simp)⟩
    unfold parseV
    rw [if_neg hx.2]
    rfl
  obtain ⟨h7, hc⟩ := hg
  rw [if_neg (by omega : ¬ b.length < 7), if_neg (by omega : ¬ b.length < 7), if_pos hc] at *
  have he0 : K.errC (K.cfOf b) = 0 := if_pos hc
  rw [he0]
  obtain ⟨a, cap, rfl, hcap⟩ := hv.form
  refine draw_tail 6 (by decide +kernel) ?_
  refine rq (.slice (if cap = 7 then a else a.map (·.add (7 * 1))) (b.length - 7) (cap - 7)) (fun _ _ => sl_lo 7 rfl h7 ⟨rfl, rfl⟩) ?_
  refine rq (.agg #[.slice (if cap = 7 then a else a.map (·.add (7 * 1))) (b.length - 7) (cap - 7), .int .i64 0]) (fun _ _ => bd _ (fun _ => by kernel_rfl) ⟨rfl, rfl⟩) ?_
  refine rq (.agg (K.cf7 (K.cfOf b))) (fun _ h => by subst h; exact ldw hb4.drew (K.cf7_len _) ⟨rfl, rfl⟩) ?_
  refine rq (.agg (scV (K.cfOf b) (.slice none 0 0) (.slice none 0 0) (.slice none 0 0))) (fun _ _ => bd _ (build_sc _) ⟨rfl, rfl⟩) ?_
  refine rq (.agg (rdrC (.slice (if cap = 7 then a else a.map (·.add (7 * 1))) (b.length - 7) (cap - 7)) 0 (K.cfOf b) (.slice none 0 0) (.slice none 0 0) (.slice none 0 0))) (fun _ _ => bd _ (build_r _ _) ⟨rfl, rfl⟩) ?_
  refine bx fun w5 hb5 hu5 hs5 => ?_
  have hcut : RdK w .u8 (.slice (if cap = 7 then a else a.map (·.add (7 * 1))) (b.length - 7) (cap - 7)) (b.drop 7) := hv.rdk.cut 7 h7
  have hr := hv.bytes_
  have hr7 : ∀ x ∈ b.drop 7, 0 ≤ x ∧ x ≤ 255 := fun x hx => hr x (List.mem_of_mem_drop hx)
  generalize Value.slice (if cap = 7 then a else a.map (·.add (7 * 1))) (b.length - 7) (cap - 7) = bv at *
  have hT : 1 ≤ (K.cfOf b).T ∧ (K.cfOf b).T ≤ 6 := by
    obtain ⟨⟨h0, h1, -⟩, -⟩ := hc
    exact h1
  have hz4 : w4.drew.heap.size = w4.heap.size := rfl
  have hU5 : Upd [] w w5 := hU4.drew.trans hu5
  have hpn : w.heap.size ≤ w4.drew.heap.size := by omega
  have hpq : w.heap.size ≠ w4.drew.heap.size := by omega
  have hb1' := hb1'.drew.upd hu5 (by simp)
  generalize w4.drew.heap.size = p at *
  have R5 : Rdr w w5 p (b.drop 7) 0 (K.cfOf b) (.slice none 0 0) (.slice none 0 0) (.slice none 0 0) := ⟨⟨bv, hb5, hcut⟩, hU5, hpn⟩
  refine cl (calls_c R5 hr7 hT) ?_
  rintro _ w6 ⟨b6, e6, kv, ls, vals, R6, hC6, hr6, hO6, hu6⟩
  have hb6 := hb1'.upd hu6 (by simp; exact hpq)
  refine cl (picks_c R6 hr6 hT) ?_
  rintro _ w7 ⟨pv, R7, hs7, hf7, hu7⟩
  have hb7 := hb6.upd hu7 (by simp; exact hpq)
  obtain ⟨bv6, hb6r⟩ := R6.blk
  have hC7 := hC6.far hb6r (by decide) (by decide) hu7
  have hF := parse_fin h7 hc hr hO6
  generalize tB (tB b6 e6 2) (e1S b6 e6) (mS b6 e6) = b7 at *
  generalize tE (tB b6 e6 2) (e1S b6 e6) (mS b6 e6) = e7 at *
  obtain ⟨bv3, hb7r, hbv3⟩ := R7.h
  obtain ⟨a3, cap3, rfl, hcap3, -⟩ := hbv3.form
  have hU7 := R7.up
  refine fa ?_
  refine fa ?_
  refine ldb hb7r rfl ?_
  refine len_sl ?_
  generalize hbv : Value.slice a3 b7.length cap3 = bv3 at *
  generalize he3 : e3S b7 e7 = e3 at *
  refine cd (fun hlong => ?_) (fun hlong => ?_)
  · refine fa ?_
    refine cl (fail_c hb7r 10) ?_
    rintro _ w8 ⟨hb8, hu8⟩
    have he8 : (if e7 = 0 then 10 else e7) = e3 := by rw [← he3]; unfold e3S; rw [if_pos (show 4096 < b7.length by omega)]
    rw [he8] at hb8
    have hb8' := hb7.upd hu8 (by simp; exact hpq)
    have hC8 := hC7.far hb7r (by decide) (by decide) hu8
    have hs8 := hs7.upd hu8 (fun g hg => by have := hs7.blk_ne hb7r (by decide); simp; rintro rfl; exact this hg)
    have hU8 := hU7.step hu8 (by simpa using hpn)
    refine fa ?_
    refine fa ?_
    refine ldb (hb8) rfl ?_
    refine cd (fun hE => ?_) (fun hE => ?_)
    · refine draw_mix 7 [(0, true), (1, true), (2, true), (3, true), (4, true), (5, true), (6, false)] (fun w' => w'.cell? ⟨p, 0 + 0 + 1, none⟩ = some (.int .i64 e3)) (by decide +kernel) ((hb8).drew.cell 1) ?_
      refine rq (.agg (scV K.zC (.slice none 0 0) (.slice none 0 0) (.slice none 0 0))) (fun _ _ => bd _ (fun _ => by kernel_rfl) ⟨rfl, rfl⟩) ?_
      refine q_fa ?_
      refine q_fa ?_
      refine q_ld (fun _ h => h) ?_
      refine stw ((hb8').drew) rfl rfl rfl fun wz hbz huz hsz => ?_
      refine ⟨by show wz.cell? _ = _; rw [huz.cell ((hb8).drew.lt) (by simp; omega)]; exact (hb8).drew.cell 1, ?_⟩
      refine rlw hbz rfl ?_
      refine ⟨?_, ((hU8).drew).step huz (by simp)⟩
      unfold parseV
      rw [if_neg (by rw [← hF.1]; exact hE), ← hF.1]
      rfl
    have hE : e3 = 0 := by omega
    refine bs #[] (fun _ => by kernel_rfl) fun wa hba hua hsa => ?_
    refine fa ?_
    refine fa ?_
    refine ldb ((hb8).upd hua (by simp)) rfl ?_
    have hR3 : RdK wa .u8 bv3 (restB b) := by
      rw [← (hF.2 (by rw [← hF.1, hE])).2.2.2]
      exact hbv3.upd0 ((hU8).trans hua)
    have hl7 := congrArg List.length (hF.2 (by rw [← hF.1, hE])).2.2.2
    refine apx (Sl.lit (n := 0) hba rfl (by decide)) hR3.rd one_ints (by simp only [maxLen]; omega) (by omega) fun dv wb hdb hGb => ?_
    have hpa : p < wa.heap.size := ((hb8).upd hua (by simp)).lt
    have hp8 := (hb8).lt
    obtain ⟨da, dc, rfl, -⟩ := hdb.form
    have hbb := hGb.blk ((hb8).upd hua (by simp)) (by simp [Value.ownBlock]; omega)
    have hb2b := hGb.blk ((hb8').upd hua (by simp)) (by simp [Value.ownBlock]; have := (hb8').lt; omega)
    refine fa ?_
    refine fa ?_
    refine st hbb (by show 0 + 2 + 9 < 12; omega) rfl fun wc hbc huc hsc => ?_
    have hbc : Blk wc p TR (rdrC bv3 e3 (K.cfOf b) kv pv (.slice da (0 + (restB b).length) dc)) := hbc
    refine fa ?_
    refine lda (scV (K.cfOf b) kv pv (.slice da (0 + (restB b).length) dc)).toList rfl (fun j x hj => ?_) ?_
    · rw [hbc.cell, ← Array.getElem?_toList]
      rw [← rdr_sc bv3 e3 (K.cfOf b) kv pv _ j] at hj
      exact hj
    obtain ⟨ka, kc, rfl, -⟩ := (hC8).out.form
    obtain ⟨qa, qc, rfl, -⟩ := (hs8).form
    refine stw (hb2b.upd huc (by simp; exact hpq)) rfl rfl rfl fun wd hbd hud hsd => ?_
    refine rlw hbd rfl ?_
    have hC9 := ((((hC8).upd hua (by simp) (by simp)).far hba (by decide) (by decide) hGb.up).far hbb (by decide) (by decide) huc).far (hb2b.upd huc (by simp; exact hpq)) (by decide) (by decide) hud
    have hs9 := ((((hs8).upd hua (by simp)).farT hba (by decide) hGb.up).farT hbb (by decide) huc).farT (hb2b.upd huc (by simp; exact hpq)) (by decide) hud
    have hd9 := (hdb.farT hbb (by decide) huc).farT (hb2b.upd huc (by simp; exact hpq)) (by decide) hud
    obtain ⟨hF1, hF2⟩ := hF
    obtain ⟨-, hFl, hFp, hFr⟩ := hF2 (by rw [← hF1, hE])
    refine ⟨?_, (((hU8).trans hua).step hGb.up (fun g hg => ?_)).step huc (by simp; omega) |>.step hud (by simp)⟩
    · unfold parseV
      rw [if_pos (by rw [← hF1, hE]), ← hFl, ← hFp]
      exact ⟨_, rfl, ⟨_, _, _, _, rfl, hC9.rd, RdK.of_sl hs9, by simpa using RdK.of_sl hd9⟩⟩
    · have : g = w8.heap.size := by simpa [Value.ownBlock] using hg
      have := (hU8).size
      omega
  · have he8 : e3 = e7 := by rw [← he3]; unfold e3S; rw [if_neg (show ¬ 4096 < b7.length by omega)]
    subst he8
    obtain ⟨w8, hw8⟩ : ∃ w8, w8 = w7 := ⟨_, rfl⟩
    subst hw8
    refine fa ?_
    refine fa ?_
    refine ldb (hb7r) rfl ?_
    refine cd (fun hE => ?_) (fun hE => ?_)
    · refine draw_mix 7 [(0, true), (1, true), (2, true), (3, true), (4, true), (5, true), (6, false)] (fun w' => w'.cell? ⟨p, 0 + 0 + 1, none⟩ = some (.int .i64 e3)) (by decide +kernel) ((hb7r).drew.cell 1) ?_
      refine rq (.agg (scV K.zC (.slice none 0 0) (.slice none 0 0) (.slice none 0 0))) (fun _ _ => bd _ (fun _ => by kernel_rfl) ⟨rfl, rfl⟩) ?_
      refine q_fa ?_
      refine q_fa ?_
      refine q_ld (fun _ h => h) ?_
      refine stw ((hb7).drew) rfl rfl rfl fun wz hbz huz hsz => ?_
      refine ⟨by show wz.cell? _ = _; rw [huz.cell ((hb7r).drew.lt) (by simp; omega)]; exact (hb7r).drew.cell 1, ?_⟩
      refine rlw hbz rfl ?_
      refine ⟨?_, ((hU7).drew).step huz (by simp)⟩
      unfold parseV
      rw [if_neg (by rw [← hF.1]; exact hE), ← hF.1]
      rfl
    have hE : e3 = 0 := by omega
    refine bs #[] (fun _ => by kernel_rfl) fun wa hba hua hsa => ?_
    refine fa ?_
    refine fa ?_
    refine ldb ((hb7r).upd hua (by simp)) rfl ?_
    have hR3 : RdK wa .u8 bv3 (restB b) := by
      rw [← (hF.2 (by rw [← hF.1, hE])).2.2.2]
      exact hbv3.upd0 ((hU7).trans hua)
    have hl7 := congrArg List.length (hF.2 (by rw [← hF.1, hE])).2.2.2
    refine apx (Sl.lit (n := 0) hba rfl (by decide)) hR3.rd one_ints (by simp only [maxLen]; omega) (by omega) fun dv wb hdb hGb => ?_
    have hpa : p < wa.heap.size := ((hb7r).upd hua (by simp)).lt
    have hp8 := (hb7r).lt
    obtain ⟨da, dc, rfl, -⟩ := hdb.form
    have hbb := hGb.blk ((hb7r).upd hua (by simp)) (by simp [Value.ownBlock]; omega)
    have hb2b := hGb.blk ((hb7).upd hua (by simp)) (by simp [Value.ownBlock]; have := (hb7).lt; omega)
    refine fa ?_
    refine fa ?_
    refine st hbb (by show 0 + 2 + 9 < 12; omega) rfl fun wc hbc huc hsc => ?_
    have hbc : Blk wc p TR (rdrC bv3 e3 (K.cfOf b) kv pv (.slice da (0 + (restB b).length) dc)) := hbc
    refine fa ?_
    refine lda (scV (K.cfOf b) kv pv (.slice da (0 + (restB b).length) dc)).toList rfl (fun j x hj => ?_) ?_
    · rw [hbc.cell, ← Array.getElem?_toList]
      rw [← rdr_sc bv3 e3 (K.cfOf b) kv pv _ j] at hj
      exact hj
    obtain ⟨ka, kc, rfl, -⟩ := (hC7).out.form
    obtain ⟨qa, qc, rfl, -⟩ := (hs7).form
    refine stw (hb2b.upd huc (by simp; exact hpq)) rfl rfl rfl fun wd hbd hud hsd => ?_
    refine rlw hbd rfl ?_
    have hC9 := ((((hC7).upd hua (by simp) (by simp)).far hba (by decide) (by decide) hGb.up).far hbb (by decide) (by decide) huc).far (hb2b.upd huc (by simp; exact hpq)) (by decide) (by decide) hud
    have hs9 := ((((hs7).upd hua (by simp)).farT hba (by decide) hGb.up).farT hbb (by decide) huc).farT (hb2b.upd huc (by simp; exact hpq)) (by decide) hud
    have hd9 := (hdb.farT hbb (by decide) huc).farT (hb2b.upd huc (by simp; exact hpq)) (by decide) hud
    obtain ⟨hF1, hF2⟩ := hF
    obtain ⟨-, hFl, hFp, hFr⟩ := hF2 (by rw [← hF1, hE])
    refine ⟨?_, (((hU7).trans hua).step hGb.up (fun g hg => ?_)).step huc (by simp; omega) |>.step hud (by simp)⟩
    · unfold parseV
      rw [if_pos (by rw [← hF1, hE]), ← hFl, ← hFp]
      exact ⟨_, rfl, ⟨_, _, _, _, rfl, hC9.rd, RdK.of_sl hs9, by simpa using RdK.of_sl hd9⟩⟩
    · have : g = w8.heap.size := by simpa [Value.ownBlock] using hg
      have := (hU7).size
      omega
end Go.Proofs.Ytejofmohpjffkaa
