/- Histories: contracts: Invoke, Respond, Events. -/
import Derived.Test.YtblngbagjieeiaaOc
namespace Go.Proofs.Ytblngbagjieeiaa
open Go.RowKit
attribute [local irreducible] Instr.loadAt Instr.storeAt Instr.fieldAt Instr.indexAt Instr.sliceAt Instr.buildSlice Instr.box Instr.alloc Builtin.append_ Builtin.len_ Builtin.min_ Builtin.max_ Calls Instr.build Instr.makeSlice binSem convert Instr.index Instr.range Instr.next
attribute [local irreducible] Instr.lookup Instr.mapUpdate Instr.makeMap Builtin.delete_
section
variable {w w' : World} {g : Nat} {lv mv : Value} {l : List EvD} {f : BF}
theorem map_eq0 {P : Program} {K : Value → World → Prop} {w : World} {t kt e : Nat} [T : MapT P t kt e] {x y : Operand} {r : Option Nat} (k : K (.bool r.isNone) w) : RunP P (binSem .eql t x y (.map r) (.map none)) K w := rn _ _ (bin_of rfl (run_eql_map_nil w t kt e r T.t)) k
theorem bf_upd (f : BF) (e : EvD) : (fun k => (stepF f e k).map fun c => (Value.agg (c3V c))) = updF (fun k => (f k).map fun c => .agg (c3V c)) e.th (if e.bk then none else some (.agg (c3V e.c))) := by
  funext k
  unfold stepF updF
  by_cases h : k = e.th
  · rw [if_pos h, if_pos h]
    cases e.bk <;> rfl
  · rw [if_neg h, if_neg h]
/-- the end of a note: the event is appended -/
theorem note_end {w0 w1 w2 w3 : World} {lv' : Value} {b : Nat} {F : Int → Option Value} {e : EvD} {f' : BF} (h : IsH w0 g lv mv l f) (hu1 : To w0 (footH g lv mv) w1 (footH g lv (.map (some b)))) (hb1 : Blk w1 g TH #[lv, .map (some b)]) (hs1 : Sl w1 TEv 8 lv l.length (evsC l)) (hM1 : MapF w1 b F) (hF : F = fun k => (f' k).map fun c => .agg (c3V c))
    (hs2 : Sl w2 TEv 8 lv' (l.length + 1) (evsC l ++ evL e)) (hG : Grow w1 w2 lv lv') (hb3 : Blk w3 g TH #[lv', .map (some b)]) (hu3 : Upd [g] w2 w3) : IsH w3 g lv' (.map (some b)) (l ++ [e]) f' ∧ To w0 (footH g lv mv) w3 (footH g lv' (.map (some b))) := by
  have n1 : lv.ownBlock ≠ some g := hs1.blk_ne hb1 (by decide)
  have n2 := map_sl hM1 hs1
  have n3 := map_ne hM1 hb1
  have hM2 := hM1.upd hG.up (by simpa using n2)
  have hM3 := hM2.upd hu3 (by simpa using n3)
  have hb2 := hG.blk hb1 n1
  have n4 : lv'.ownBlock ≠ some g := hs2.blk_ne hb2 (by decide)
  have hs3 := hs2.upd hu3 (fun q hq => by simp; intro e; subst e; exact n4 hq)
  refine ⟨⟨hb3, ?_, .inr ⟨b, rfl, by rw [← hF]; exact hM3⟩⟩, ?_⟩
  · rw [List.length_append, evsC_app]; exact hs3
  · refine hu1.trans ⟨?_, fun k hk => ?_⟩
    · have := hG.up.size
      refine Upd.step (hG.up.mono (fun k hk => ?_)) hu3 (fun k hk => .inl ?_)
      · simp only [footH, List.mem_cons, List.mem_append]; exact .inr (.inl hk)
      · rw [List.mem_singleton.1 hk]; simp [footH]
    · simp only [footH, List.mem_cons, List.mem_append] at hk ⊢
      rcases hk with hk | hk | hk
      · exact .inl (.inl hk)
      · rcases hG.own k (by simpa using hk) with e1 | e1
        · exact .inl (.inr (.inl (by simpa using e1)))
        · exact .inr e1
      · exact .inl (.inr (.inr hk))
theorem invoke_c (h : IsH w g lv mv l f) (hl : l.length ≤ 100000) (th : Int) (c : C3) : Fn Try.prog 10 #[ptrV g, .int .i64 th, .agg (c3V c)] w fun r w' => r = .int .i64 (invE f th c) ∧ (invE f th c ≠ 0 → Upd [] w w') ∧
    (invE f th c = 0 → ∃ lv' mv', IsH w' g lv' mv' (l ++ [⟨th, false, c, z3⟩]) (stepF f ⟨th, false, c, z3⟩) ∧ To w (footH g lv mv) w' (footH g lv' mv')) := by
  refine fn_enter Try.func10 rfl rfl ?_
  refine bx fun w1 hx1 hu1 hs1 => ?_
  have hx1 : Blk w1 w.heap.size TCl (c3V c) := hx1
  refine ptr_eq ?_
  refine cl (there_c th w1) ?_
  rintro _ w2 ⟨rfl, rfl⟩
  unfold invE
  by_cases q1 : thereP th
  rotate_left
  · refine cY q1 ?_
    rw [if_pos q1]
    exact ⟨rfl, fun _ => hu1, fun h => absurd h (by decide)⟩
  refine cN (fun h => h q1) ?_
  rw [if_neg (fun h => h q1)]
  refine ldw hx1 rfl ?_
  refine cl (cright_c c _) ?_
  rintro _ w3 ⟨rfl, hu3⟩
  have hU3 := hu1.trans hu3
  by_cases q2 : rightC3 c
  rotate_left
  · refine cY q2 ?_
    rw [if_pos q2]
    exact ⟨rfl, fun _ => hU3, fun h => absurd h (by decide)⟩
  refine cN (fun h => h q2) ?_
  rw [if_neg (fun h => h q2)]
  have h3 := h.upd0 hU3
  refine cl (busy_c h3 th) ?_
  rintro _ w4 ⟨rfl, hu4⟩
  have hU4 := hU3.trans hu4
  have h4 := h3.upd0 hu4
  have hx4 := (hx1.upd hu3 (by simp)).upd hu4 (by simp)
  cases q3 : f th with
  | some c0 => exact ⟨rfl, fun _ => hU4, fun h => absurd (show (5 : Int) = 0 from h) (by decide)⟩
  | none =>
    have ng : w.heap.size ≠ g := by
      have := h.blk.lt; omega
    refine fa ?_
    refine ldb h4.blk (v := mv) rfl ?_
    rcases h4.mp with ⟨rfl, h0⟩ | ⟨b, rfl, hM⟩
    · refine map_eq0 ?_
      refine mkm fun w5 hM5 hu5 hs5 => ?_
      have hb5 := h4.blk.upd hu5 (by simp)
      refine fa ?_
      refine st hb5 (by show 1 < 2; omega) rfl fun w6 hb6 hu6 hs6 => ?_
      have hb6 : Blk w6 g TH #[lv, .map (some w4.heap.size)] := hb6
      have n0 := map_ne hM5 hb5
      have hM6 := hM5.upd hu6 (by simpa using n0)
      have hs4 := h4.sl.upd hu5 (by simp)
      have hn := lv_ne h4
      have hS6 := hs4.upd hu6 (fun q hq => by simp; intro e; subst e; exact hn hq)
      have hx5 := hx4.upd hu5 (by simp)
      have hx6 := hx5.upd hu6 (by simpa using ng)
      have hT6 : To w (footH g lv (.map none)) w6 (footH g lv (.map (some w4.heap.size))) := by
        refine (To.of0 _ hU4).trans ⟨(hu5.mono (by simp)).step hu6 (fun k hk => .inl (by rw [List.mem_singleton.1 hk]; simp [footH])), fun k hk => ?_⟩
        simp only [footH, mvOwn, List.mem_cons, List.mem_append, List.not_mem_nil, or_false] at hk ⊢
        rcases hk with hk | hk | hk
        · exact .inl (.inl hk)
        · exact .inl (.inr hk)
        · exact .inr (by omega)
      have e0 : (fun k => (f k).map fun c => (Value.agg (c3V c))) = fun _ => none := by funext k; rw [h0 k]; rfl
      rw [← e0] at hM6
      generalize w4.heap.size = b at *
      refine draw_tail 6 (by decide +kernel) ?_
      refine q_fa ?_
      refine rq (.map (some b)) (by rintro _ rfl; exact ldb hb6.drew rfl ⟨rfl, rfl⟩) ?_
      refine rq (.agg (c3V c)) (by rintro _ rfl; exact ldw hx6.drew rfl ⟨rfl, rfl⟩) ?_
      refine mup hM6.drew fun wm hMm hum hsm => ?_
      have nb1 := map_ne hM6 hb6
      have nb2 := map_ne hM6 hx6
      have nb3 := map_sl hM6 hS6
      have hbm := hb6.drew.upd hum (by simpa using nb1.symm)
      have hxm := hx6.drew.upd hum (by simpa using nb2.symm)
      have hSm := hS6.drew.upd hum (fun q hq => by simp; intro e; subst e; exact nb3 hq)
      have hTm : To w (footH g lv _) wm (footH g lv (.map (some b))) := hT6.trans ⟨((Upd.refl _ _).drew.trans (hum.mono (fun k hk => by rw [List.mem_singleton.1 hk]; simp [footH, mvOwn]))), fun _ h => .inl h⟩
      refine draw_mix 10 [(0, true), (1, true), (2, true), (3, true), (4, true), (5, true), (6, true), (7, true), (8, false), (9, false)] (fun wx => Blk wx g TH #[lv, .map (some b)] ∧ Blk wx w.heap.size TCl (c3V c)) (by decide +kernel) ⟨hbm, hxm⟩ ?_
      refine q_fa ?_
      refine rq lv (fun wx hwx => ldb hwx.1 rfl ⟨rfl, rfl⟩) ?_
      refine rq (.agg (c3V c)) (fun wx hwx => ldw hwx.2 rfl ⟨rfl, rfl⟩) ?_
      refine rq (.agg (evV (⟨th, false, c, z3⟩ : EvD))) (fun wx hwx => bd _ (fun _ => by kernel_rfl) ⟨rfl, rfl⟩) ?_
      refine bs (evV (⟨th, false, c, z3⟩ : EvD)) (fun _ => by kernel_rfl) fun w7 hb7 hu7 hs7 => ?_
      have hu7 := (Upd.refl [] _).drew.trans hu7
      have hH7 := (hbm).upd hu7 (by simp)
      have hX7 := (hxm).upd hu7 (by simp)
      refine ⟨⟨hH7, hX7⟩, ?_⟩
      have hS7 := (hSm).upd hu7 (by simp)
      have hM7 := (hMm).upd hu7 (by simp)
      refine apg hS7 hb7 rfl rfl (by decide) (by simp only [maxLen]; omega) (by omega) fun lv' w8 hs8 hG8 => ?_
      have n1 : lv.ownBlock ≠ some g := hS7.blk_ne hH7 (by decide)
      have n2 : lv.ownBlock ≠ some w.heap.size := hS7.blk_ne hX7 (by decide)
      have hH8 := hG8.blk hH7 n1
      have hX8 := hG8.blk hX7 n2
      refine ⟨⟨hH8, hX8⟩, ?_⟩
      refine fa ?_
      refine st hH8 (by show 0 < 2; omega) (by obtain ⟨_, _, rfl, -⟩ := hs8.form; rfl) fun w9 hb9 hu9 hs9 => ?_
      have hb9 : Blk w9 g TH #[lv', .map (some b)] := hb9
      refine ⟨rfl, fun h => absurd rfl h, fun _ => ⟨lv', .map (some b), note_end h (e := (⟨th, false, c, z3⟩ : EvD)) (f' := stepF f (⟨th, false, c, z3⟩ : EvD)) ((hTm).trans (.of0 _ hu7)) hH7 hS7 hM7 ?_ hs8 hG8 hb9 hu9⟩⟩
      rw [bf_upd]; rfl
    · refine map_eq0 ?_
      have hb6 := h4.blk
      have hS6 := h4.sl
      have hM6 := hM
      have hx6 := hx4
      have hT6 : To w (footH g lv (.map (some b))) w4 (footH g lv (.map (some b))) := .of0 _ hU4
      refine draw_tail 6 (by decide +kernel) ?_
      refine q_fa ?_
      refine rq (.map (some b)) (by rintro _ rfl; exact ldb hb6.drew rfl ⟨rfl, rfl⟩) ?_
      refine rq (.agg (c3V c)) (by rintro _ rfl; exact ldw hx6.drew rfl ⟨rfl, rfl⟩) ?_
      refine mup hM6.drew fun wm hMm hum hsm => ?_
      have nb1 := map_ne hM6 hb6
      have nb2 := map_ne hM6 hx6
      have nb3 := map_sl hM6 hS6
      have hbm := hb6.drew.upd hum (by simpa using nb1.symm)
      have hxm := hx6.drew.upd hum (by simpa using nb2.symm)
      have hSm := hS6.drew.upd hum (fun q hq => by simp; intro e; subst e; exact nb3 hq)
      have hTm : To w (footH g lv _) wm (footH g lv (.map (some b))) := hT6.trans ⟨((Upd.refl _ _).drew.trans (hum.mono (fun k hk => by rw [List.mem_singleton.1 hk]; simp [footH, mvOwn]))), fun _ h => .inl h⟩
      refine draw_mix 10 [(0, true), (1, true), (2, true), (3, true), (4, true), (5, true), (6, true), (7, true), (8, false), (9, false)] (fun wx => Blk wx g TH #[lv, .map (some b)] ∧ Blk wx w.heap.size TCl (c3V c)) (by decide +kernel) ⟨hbm, hxm⟩ ?_
      refine q_fa ?_
      refine rq lv (fun wx hwx => ldb hwx.1 rfl ⟨rfl, rfl⟩) ?_
      refine rq (.agg (c3V c)) (fun wx hwx => ldw hwx.2 rfl ⟨rfl, rfl⟩) ?_
      refine rq (.agg (evV (⟨th, false, c, z3⟩ : EvD))) (fun wx hwx => bd _ (fun _ => by kernel_rfl) ⟨rfl, rfl⟩) ?_
      refine bs (evV (⟨th, false, c, z3⟩ : EvD)) (fun _ => by kernel_rfl) fun w7 hb7 hu7 hs7 => ?_
      have hu7 := (Upd.refl [] _).drew.trans hu7
      have hH7 := (hbm).upd hu7 (by simp)
      have hX7 := (hxm).upd hu7 (by simp)
      refine ⟨⟨hH7, hX7⟩, ?_⟩
      have hS7 := (hSm).upd hu7 (by simp)
      have hM7 := (hMm).upd hu7 (by simp)
      refine apg hS7 hb7 rfl rfl (by decide) (by simp only [maxLen]; omega) (by omega) fun lv' w8 hs8 hG8 => ?_
      have n1 : lv.ownBlock ≠ some g := hS7.blk_ne hH7 (by decide)
      have n2 : lv.ownBlock ≠ some w.heap.size := hS7.blk_ne hX7 (by decide)
      have hH8 := hG8.blk hH7 n1
      have hX8 := hG8.blk hX7 n2
      refine ⟨⟨hH8, hX8⟩, ?_⟩
      refine fa ?_
      refine st hH8 (by show 0 < 2; omega) (by obtain ⟨_, _, rfl, -⟩ := hs8.form; rfl) fun w9 hb9 hu9 hs9 => ?_
      have hb9 : Blk w9 g TH #[lv', .map (some b)] := hb9
      refine ⟨rfl, fun h => absurd rfl h, fun _ => ⟨lv', .map (some b), note_end h (e := (⟨th, false, c, z3⟩ : EvD)) (f' := stepF f (⟨th, false, c, z3⟩ : EvD)) ((hTm).trans (.of0 _ hu7)) hH7 hS7 hM7 ?_ hs8 hG8 hb9 hu9⟩⟩
      rw [bf_upd]; rfl
theorem mlk1s {P : Program} {K : Value → World → Prop} {w : World} {b : Nat} {F : Int → Option Value} {t kt e : Nat} {z v : Value} [MapT P t kt e] [ZeroT P e z] (h : MapF w b F) {key : Int} (hv : F key = some v) (k : K v w) : RunP P (Instr.lookup t (.map (some b)) (.int .i64 key) false) K w := mlk1 h (by rw [hv]; exact k)
theorem respond_c (h : IsH w g lv mv l f) (hl : l.length ≤ 100000) (th : Int) (a : C3) : Fn Try.prog 9 #[ptrV g, .int .i64 th, .agg (c3V a)] w fun r w' => r = .int .i64 (resE f th a) ∧ (resE f th a ≠ 0 → Upd [] w w') ∧
    (resE f th a = 0 → ∃ lv' mv', IsH w' g lv' mv' (l ++ [⟨th, true, z3, a⟩]) (stepF f ⟨th, true, z3, a⟩) ∧ To w (footH g lv mv) w' (footH g lv' mv')) := by
  refine fn_enter Try.func9 rfl rfl ?_
  refine bx fun w1 hx1 hu1 hs1 => ?_
  have hx1 : Blk w1 w.heap.size TAn (c3V a) := hx1
  refine ptr_eq ?_
  refine cl (there_c th w1) ?_
  rintro _ w2 ⟨rfl, rfl⟩
  by_cases q1 : thereP th
  rotate_left
  · refine cY q1 ?_
    have e : resE f th a = 2 := by unfold resE; rw [if_pos q1]
    rw [e]
    exact ⟨rfl, fun _ => hu1, fun h => absurd h (by decide)⟩
  refine cN (fun h => h q1) ?_
  have h3 := h.upd0 hu1
  refine cl (busy_c h3 th) ?_
  rintro _ w4 ⟨rfl, hu4⟩
  have hU4 := hu1.trans hu4
  have h4 := h3.upd0 hu4
  have hx4 := hx1.upd hu4 (by simp)
  have ng : w.heap.size ≠ g := by
    have := h.blk.lt; omega
  cases q3 : f th with
  | none =>
    have e : resE f th a = 4 := by unfold resE; rw [if_neg (fun h => h q1), q3]
    rw [e]
    exact ⟨rfl, fun _ => hU4, fun h => absurd h (by decide)⟩
  | some c0 =>
    rcases h4.mp with ⟨rfl, h0⟩ | ⟨b, rfl, hM⟩
    · rw [h0 th] at q3; cases q3
    refine draw_mixA [(0, true), (1, true), (2, true), (3, true), (4, true), (6, true), (5, false), (7, false), (8, true), (9, true)] (fun wx => Blk wx g TH #[lv, .map (some b)] ∧ Blk wx w.heap.size TAn (c3V a)) (by decide +kernel) ⟨h4.blk.drew, hx4.drew⟩ ?_
    refine q_fa ?_
    refine rq (.map (some b)) (fun wx hwx => ldb hwx.1 rfl ⟨rfl, rfl⟩) ?_
    refine rq (.agg (c3V a)) (fun wx hwx => ldw hwx.2 rfl ⟨rfl, rfl⟩) ?_
    refine mlk1s hM.drew (v := .agg (c3V c0)) (by rw [q3]; rfl) ?_
    refine ⟨⟨h4.blk.drew, hx4.drew⟩, ?_⟩
    refine cl (cfits_c c0 a _) ?_
    rintro _ w5 ⟨rfl, hu5⟩
    have hu5 := (Upd.refl [] _).drew.trans hu5
    have h5 := h4.upd0 hu5
    have hx5 := hx4.upd hu5 (by simp)
    have hM5 := hM.upd hu5 (by simp)
    refine ⟨⟨h5.blk, hx5⟩, ?_⟩
    by_cases q4 : fits3 c0 a
    rotate_left
    · refine cY q4 ?_
      have e : resE f th a = 1 := by unfold resE; rw [if_neg (fun h => h q1), q3]; exact if_neg q4
      rw [e]
      exact ⟨rfl, fun _ => hU4.trans hu5, fun h => absurd h (by decide)⟩
    refine cN (fun h => h q4) ?_
    have e : resE f th a = 0 := by unfold resE; rw [if_neg (fun h => h q1), q3]; exact if_pos q4
    rw [e]
    refine fa ?_
    refine ldb h5.blk (v := .map (some b)) rfl ?_
    refine mdl hM5 fun wm hMm hum hsm => ?_
    have nb1 := map_ne hM5 h5.blk
    have nb2 := map_ne hM5 hx5
    have nb3 := map_sl hM5 h5.sl
    have hbm := h5.blk.upd hum (by simpa using nb1.symm)
    have hxm := hx5.upd hum (by simpa using nb2.symm)
    have hSm := h5.sl.upd hum (fun q hq => by simp; intro e; subst e; exact nb3 hq)
    have hTm : To w (footH g lv (.map (some b))) wm (footH g lv (.map (some b))) := (To.of0 _ (hU4.trans hu5)).trans ⟨hum.mono (fun k hk => by rw [List.mem_singleton.1 hk]; simp [footH, mvOwn]), fun _ h => .inl h⟩
    refine draw_mix 10 [(0, true), (1, true), (2, true), (3, true), (4, true), (5, true), (6, true), (7, true), (8, false), (9, false)] (fun wx => Blk wx g TH #[lv, .map (some b)] ∧ Blk wx w.heap.size TAn (c3V a)) (by decide +kernel) ⟨hbm, hxm⟩ ?_
    refine q_fa ?_
    refine rq lv (fun wx hwx => ldb hwx.1 rfl ⟨rfl, rfl⟩) ?_
    refine rq (.agg (c3V a)) (fun wx hwx => ldw hwx.2 rfl ⟨rfl, rfl⟩) ?_
    refine rq (.agg (evV (⟨th, true, z3, a⟩ : EvD))) (fun wx hwx => bd _ (fun _ => by kernel_rfl) ⟨rfl, rfl⟩) ?_
    refine bs (evV (⟨th, true, z3, a⟩ : EvD)) (fun _ => by kernel_rfl) fun w7 hb7 hu7 hs7 => ?_
    have hu7 := (Upd.refl [] _).drew.trans hu7
    have hH7 := (hbm).upd hu7 (by simp)
    have hX7 := (hxm).upd hu7 (by simp)
    refine ⟨⟨hH7, hX7⟩, ?_⟩
    have hS7 := (hSm).upd hu7 (by simp)
    have hM7 := (hMm).upd hu7 (by simp)
    refine apg hS7 hb7 rfl rfl (by decide) (by simp only [maxLen]; omega) (by omega) fun lv' w8 hs8 hG8 => ?_
    have n1 : lv.ownBlock ≠ some g := hS7.blk_ne hH7 (by decide)
    have n2 : lv.ownBlock ≠ some w.heap.size := hS7.blk_ne hX7 (by decide)
    have hH8 := hG8.blk hH7 n1
    have hX8 := hG8.blk hX7 n2
    refine ⟨⟨hH8, hX8⟩, ?_⟩
    refine fa ?_
    refine st hH8 (by show 0 < 2; omega) (by obtain ⟨_, _, rfl, -⟩ := hs8.form; rfl) fun w9 hb9 hu9 hs9 => ?_
    have hb9 : Blk w9 g TH #[lv', .map (some b)] := hb9
    refine ⟨rfl, fun h => absurd rfl h, fun _ => ⟨lv', .map (some b), note_end h (e := (⟨th, true, z3, a⟩ : EvD)) (f' := stepF f (⟨th, true, z3, a⟩ : EvD)) ((hTm).trans (.of0 _ hu7)) hH7 hS7 hM7 ?_ hs8 hG8 hb9 hu9⟩⟩
    rw [bf_upd]; rfl
theorem events_c (h : IsH w g lv mv l f) (hl : l.length ≤ 100000) : Fn Try.prog 14 #[ptrV g] w fun r w' => Sl w' TEv 8 r l.length (evsC l) ∧ Upd [] w w' := by
  refine fn_enter Try.func14 rfl rfl ?_
  refine ptr_eq ?_
  refine fa ?_
  refine ldb h.blk (v := lv) rfl ?_
  refine cl (clone_c h.sl hl) ?_
  rintro r w1 ⟨h1, h2, -⟩
  obtain ⟨a, c, rfl, -⟩ := h1.form
  exact ⟨h1, h2⟩
end
end Go.Proofs.Ytblngbagjieeiaa
