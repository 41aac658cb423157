/- The law ScriptRight. -/
import Derived.Test.YtejofmohpjffkaaDn
namespace Go.Proofs.Ytejofmohpjffkaa
open Go.RowKit
attribute [local irreducible] Instr.loadAt Instr.storeAt Instr.fieldAt Instr.indexAt Instr.sliceAt Instr.buildSlice Instr.box Instr.alloc Builtin.append_ Builtin.len_ Builtin.min_ Builtin.max_ Calls Instr.build Instr.makeSlice binSem convert Instr.index Instr.range Instr.next
theorem writeL_len (c : K.Cf) (ls : List (List C3)) (ps ds : List Int) : (writeL c ls ps ds).length = 10 + 10 * tot ls + ps.length + ds.length := by
  unfold writeL
  rw [List.length_append, List.length_append, List.length_append, List.length_append, List.length_append, cfL_len, callsL_len ls _ (Nat.le_refl _), List.take_length]
  simp only [List.length_cons, List.length_nil]; omega
theorem light_v {w : World} {c : K.Cf} {ls : List (List C3)} {ps ds : List Int} {v : Value} (h : ScrIn w v c ls ps ds) (b : Bool) (hb : b = true ↔ lightS ls ps ds) : Fn Try.prog 39 #[v] w fun r w' => r = .bool b ∧ Upd [] w w' :=
  (light_c h).mono fun _ _ ⟨u, he, ⟨b', h1, h2⟩, hu⟩ => ⟨u, he, by rw [h1]; congr 1; rw [Bool.eq_iff_iff, h2, hb], hu⟩
theorem right_v {w : World} {c : K.Cf} {ls : List (List C3)} {ps ds : List Int} {v : Value} (h : Scr w c ls ps ds v) (ht : tot ls ≤ 100000) (b : Bool) (hb : b = true ↔ rightS c ls ps ds) : Fn Try.prog 41 #[v] w fun r w' => r = .bool b ∧ Upd [] w w' :=
  (right_sc h ht).mono fun _ _ ⟨u, he, ⟨b', h1, h2⟩, hu⟩ => ⟨u, he, by rw [h1]; congr 1; rw [Bool.eq_iff_iff, h2, hb], hu⟩
theorem rright_v {w : World} {c : K.Cf} {ls : List (List C3)} {ps ds : List Int} {v : Value} (h : Scr w c ls ps ds v) (b : Bool) (hb : b = true ↔ rightS c ls ps ds) : Fn Try.prog 42 #[v] w fun r w' => r = .bool b ∧ Upd [] w w' :=
  (rright_sc h).mono fun _ _ ⟨u, he, ⟨b', h1, h2⟩, hu⟩ => ⟨u, he, by rw [h1]; congr 1; rw [Bool.eq_iff_iff, h2, hb], hu⟩
theorem ScrIn.upd0 {w w' : World} {c : K.Cf} {ls : List (List C3)} {ps ds : List Int} {v : Value} (h : ScrIn w v c ls ps ds) (hu : Upd [] w w') : ScrIn w' v c ls ps ds := ⟨h.scr.upd0 hu, h.keys, h.bytes, h.few⟩
set_option maxRecDepth 100000 in
theorem sright_law {w : World} {c : K.Cf} {ls : List (List C3)} {ps ds : List Int} {v : Value} (h : ScrIn w v c ls ps ds) : Fn Try.prog 10 #[v] w fun r w' => r = .bool true ∧ Upd [] w w' := by
  have hscr := h.scr
  obtain ⟨kv, pv, dv, vals, rfl, h2, h3, h4⟩ := h.scr.h
  obtain ⟨ka, kc, rfl, hk1, hk2⟩ := h2.out.form
  obtain ⟨pa, pc, rfl, hp1, hp2⟩ := h3.form
  obtain ⟨da, dc, rfl, -⟩ := h4.form
  simp only [maxLen] at hk2 hp2
  refine fn_enter Try.func10 rfl rfl ?_
  refine bx fun w1 hb1 hu1 hs1 => ?_
  have hb1 : Blk w1 w.heap.size TS (scV c (.slice ka ls.length kc) (.slice pa ps.length pc) (.slice da ds.length dc)) := hb1
  refine ldw hb1 rfl ?_
  by_cases hL : lightS ls ps ds
  rotate_left
  · refine cl (light_v (h.upd0 hu1) false (iff_of_false (by simp) hL)) ?_
    rintro _ w2 ⟨rfl, hu2⟩
    refine cl (lives11 w2) ?_
    rintro _ w3 ⟨rfl, hu3⟩
    exact ⟨rfl, (hu1.trans hu2).trans hu3⟩
  refine cl (light_v (h.upd0 hu1) true (iff_of_true rfl hL)) ?_
  rintro _ w2 ⟨rfl, hu2⟩
  obtain ⟨l1, l2, l3, l4⟩ := hL
  have gb2 := hb1.upd hu2 (by simp)
  have hU2 := hu1.trans hu2
  refine ldw gb2 rfl ?_
  refine cl (write_c (h.upd0 hU2) (by omega)) ?_
  rintro r w3 ⟨hn, hy, hu3⟩
  have gb3 := gb2.upd hu3 (by simp)
  have hU3 := hU2.trans hu3
  by_cases hR : rightS c ls ps ds
  · obtain ⟨bv, rfl, hW⟩ := hy hR
    obtain ⟨ba, bc, rfl, -⟩ := hW.s.form
    have hwl := writeL_len c ls ps ds
    generalize writeL c ls ps ds = W at *
    refine loop_rule [1, 3, 4] [5, 6] (fun vs w' m => ∃ i : Nat, vs = [.int .i64 (tot (ls.take i) : Int), .int .i64 i] ∧ i ≤ ls.length ∧ m = ls.length - i ∧ Upd [] w3 w') rfl [.int .i64 0, .int .i64 0] ls.length rfl ⟨0, rfl, by omega, rfl, Upd.refl _ _⟩ ?_
    rintro _ w4 m ⟨i, rfl, hi, rfl, hu4⟩
    refine fa ?_
    refine ldb (gb3.upd hu4 (by simp)) rfl ?_
    refine len_sl ?_
    refine cd (fun hlt => ?_) (fun hlt => ?_)
    · have hlt : i < ls.length := by omega
      obtain ⟨kb, ko, kc', he, -⟩ := h2.out.some_ (by omega)
      cases he
      obtain ⟨x, hx, hr⟩ := h2.at_ i hlt
      obtain ⟨xa, xc, rfl, -⟩ := hr.form
      have h5 := tot_take ls i hlt
      have h6 := tot_le ls (i + 1)
      refine fa ?_
      refine ldb (gb3.upd hu4 (by simp)) rfl ?_
      refine ix i rfl hlt ?_
      refine ld (by rw [(h2.upd0 (hU3.trans hu4)).out.one rfl i hlt]; exact hx) ?_
      refine len_sl ?_
      refine ar64 (by omega) ?_
      refine ar64 (by omega) ?_
      exact round_mk [.int .i64 (tot (ls.take (i + 1)) : Int), .int .i64 ((i + 1 : Nat) : Int)] (ls.length - (i + 1)) rfl (by rw [h5]; rfl) ⟨i + 1, rfl, by omega, rfl, hu4⟩ (by omega)
    have hi : i = ls.length := by omega
    subst hi
    rw [List.take_length]
    have hU4 := hU3.trans hu4
    have gb4 := gb3.upd hu4 (by simp)
    refine draw_all (fun w' => Upd [] w4 w') (by decide +kernel) (Upd.refl _ _).drew ?_
    refine rq (.agg (scV c (.slice ka ls.length kc) (.slice pa ps.length pc) (.slice da ds.length dc))) (fun w' hw' => ldw (gb4.upd hw' (by simp)) rfl ⟨rfl, rfl⟩) ?_
    refine q_cl (.bool true) (fun w' hw' => (right_v (hscr.upd0 (hU4.trans hw')) (by omega) true (iff_of_true rfl hR)).mono fun _ _ ⟨u, he, h1, h2⟩ => ⟨u, he, h1, hw'.trans h2⟩) ?_
    refine rq (.agg (scV c (.slice ka ls.length kc) (.slice pa ps.length pc) (.slice da ds.length dc))) (fun w' hw' => ldw (gb4.upd hw' (by simp)) rfl ⟨rfl, rfl⟩) ?_
    refine q_cl (.bool true) (fun w' hw' => (rright_v (hscr.upd0 (hU4.trans hw')) true (iff_of_true rfl hR)).mono fun _ _ ⟨u, he, h1, h2⟩ => ⟨u, he, h1, hw'.trans h2⟩) ?_
    refine rq (.bool false) (fun _ _ => bnq ⟨rfl, rfl⟩) ?_
    refine rq (.agg (scV c (.slice ka ls.length kc) (.slice pa ps.length pc) (.slice da ds.length dc))) (fun w' hw' => ldw (gb4.upd hw' (by simp)) rfl ⟨rfl, rfl⟩) ?_
    refine q_cl (.int .i64 (tot ls : Int)) (fun w' hw' => (calls_n (hscr.upd0 (hU4.trans hw')) (by omega)).mono fun _ _ ⟨u, he, h1, h2⟩ => ⟨u, he, h1, hw'.trans h2⟩) ?_
    rintro w5 hu5
    refine cN (by simp) ?_
    have gb5 := gb4.upd hu5 (by simp)
    have hU5 := hU4.trans hu5
    refine ldw gb5 rfl ?_
    refine cl (rright_v (hscr.upd0 hU5) true (iff_of_true rfl hR)) ?_
    rintro _ w6 ⟨rfl, hu6⟩
    have gb6 := gb5.upd hu6 (by simp)
    have hU6 := hU5.trans hu6
    refine len_sl ?_
    refine ar64 (by omega) ?_
    refine ar64 (by omega) ?_
    refine fa ?_
    refine ldb gb6 rfl ?_
    refine len_sl ?_
    refine ar64 (by omega) ?_
    refine fa ?_
    refine ldb gb6 rfl ?_
    refine len_sl ?_
    refine ar64 (by omega) ?_
    refine cY (p := (W.length : Int) = 10 + 10 * (tot ls : Int) + ps.length + ds.length) (by omega) ?_
    refine cl (lives11 w6) ?_
    rintro _ w7 ⟨rfl, hu7⟩
    exact ⟨rfl, hU6.trans hu7⟩
  · obtain rfl := hn hR
    refine loop_rule [1, 3, 4] [5, 6] (fun vs w' m => ∃ i : Nat, vs = [.int .i64 (tot (ls.take i) : Int), .int .i64 i] ∧ i ≤ ls.length ∧ m = ls.length - i ∧ Upd [] w3 w') rfl [.int .i64 0, .int .i64 0] ls.length rfl ⟨0, rfl, by omega, rfl, Upd.refl _ _⟩ ?_
    rintro _ w4 m ⟨i, rfl, hi, rfl, hu4⟩
    refine fa ?_
    refine ldb (gb3.upd hu4 (by simp)) rfl ?_
    refine len_sl ?_
    refine cd (fun hlt => ?_) (fun hlt => ?_)
    · have hlt : i < ls.length := by omega
      obtain ⟨kb, ko, kc', he, -⟩ := h2.out.some_ (by omega)
      cases he
      obtain ⟨x, hx, hr⟩ := h2.at_ i hlt
      obtain ⟨xa, xc, rfl, -⟩ := hr.form
      have h5 := tot_take ls i hlt
      have h6 := tot_le ls (i + 1)
      refine fa ?_
      refine ldb (gb3.upd hu4 (by simp)) rfl ?_
      refine ix i rfl hlt ?_
      refine ld (by rw [(h2.upd0 (hU3.trans hu4)).out.one rfl i hlt]; exact hx) ?_
      refine len_sl ?_
      refine ar64 (by omega) ?_
      refine ar64 (by omega) ?_
      exact round_mk [.int .i64 (tot (ls.take (i + 1)) : Int), .int .i64 ((i + 1 : Nat) : Int)] (ls.length - (i + 1)) rfl (by rw [h5]; rfl) ⟨i + 1, rfl, by omega, rfl, hu4⟩ (by omega)
    have hi : i = ls.length := by omega
    subst hi
    rw [List.take_length]
    have hU4 := hU3.trans hu4
    have gb4 := gb3.upd hu4 (by simp)
    refine draw_all (fun w' => Upd [] w4 w') (by decide +kernel) (Upd.refl _ _).drew ?_
    refine rq (.agg (scV c (.slice ka ls.length kc) (.slice pa ps.length pc) (.slice da ds.length dc))) (fun w' hw' => ldw (gb4.upd hw' (by simp)) rfl ⟨rfl, rfl⟩) ?_
    refine q_cl (.bool false) (fun w' hw' => (right_v (hscr.upd0 (hU4.trans hw')) (by omega) false (iff_of_false (by simp) hR)).mono fun _ _ ⟨u, he, h1, h2⟩ => ⟨u, he, h1, hw'.trans h2⟩) ?_
    refine rq (.agg (scV c (.slice ka ls.length kc) (.slice pa ps.length pc) (.slice da ds.length dc))) (fun w' hw' => ldw (gb4.upd hw' (by simp)) rfl ⟨rfl, rfl⟩) ?_
    refine q_cl (.bool false) (fun w' hw' => (rright_v (hscr.upd0 (hU4.trans hw')) false (iff_of_false (by simp) hR)).mono fun _ _ ⟨u, he, h1, h2⟩ => ⟨u, he, h1, hw'.trans h2⟩) ?_
    refine rq (.bool false) (fun _ _ => bnq ⟨rfl, rfl⟩) ?_
    refine rq (.agg (scV c (.slice ka ls.length kc) (.slice pa ps.length pc) (.slice da ds.length dc))) (fun w' hw' => ldw (gb4.upd hw' (by simp)) rfl ⟨rfl, rfl⟩) ?_
    refine q_cl (.int .i64 (tot ls : Int)) (fun w' hw' => (calls_n (hscr.upd0 (hU4.trans hw')) (by omega)).mono fun _ _ ⟨u, he, h1, h2⟩ => ⟨u, he, h1, hw'.trans h2⟩) ?_
    rintro w5 hu5
    refine cN (by simp) ?_
    have gb5 := gb4.upd hu5 (by simp)
    have hU5 := hU4.trans hu5
    refine ldw gb5 rfl ?_
    refine cl (rright_v (hscr.upd0 hU5) false (iff_of_false (by simp) hR)) ?_
    rintro _ w6 ⟨rfl, hu6⟩
    have gb6 := gb5.upd hu6 (by simp)
    have hU6 := hU5.trans hu6
    refine len_sl ?_
    refine cl (lives11 w6) ?_
    rintro _ w7 ⟨rfl, hu7⟩
    exact ⟨rfl, hU6.trans hu7⟩
theorem ScriptRight_walk (w : World) (v : Value) (c : K.Cf) (ls : List (List C3)) (ps ds : List Int) (h : ScrIn w v c ls ps ds) : Calls Try.prog 10 #[v] w fun e w' => e = .returned (.bool true) ∧ Below w.heap.size w w' :=
  (sright_law h).mono fun _ _ ⟨_, he, hv, hu⟩ => ⟨by rw [he, hv], hu.below⟩
end Go.Proofs.Ytejofmohpjffkaa
