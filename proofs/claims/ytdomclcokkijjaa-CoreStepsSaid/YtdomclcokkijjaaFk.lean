/- The law CoreSteps. -/
import Derived.Test.YtdomclcokkijjaaFj
namespace Go.Proofs.Ytdomclcokkijjaa
open Go.RowKit
attribute [local irreducible] Instr.loadAt Instr.storeAt Instr.fieldAt Instr.indexAt Instr.sliceAt Instr.buildSlice Instr.box Instr.alloc Builtin.append_ Builtin.len_ Builtin.min_ Builtin.max_ Calls Instr.build Instr.makeSlice binSem convert Instr.index Instr.range Instr.next
def stL (g : Nat) (c : Cf) (X Y : Mc) (wv pv : Value) (W : List Int) (Pl : List Sp) : List Ob :=
  [obBlk g 42 (cf7 c), obAll X.obs, obAll Y.obs, obU wv W, obSl TPl 3 pv Pl.length (Pl.flatMap cellS)]
structure StI (w w' : World) (g : Nat) (c : Cf) (X Y : Mc) (wv pv : Value) (W : List Int) (Pl : List Sp) : Prop where
  s : Sep w' (stL g c X Y wv pv W Pl)
  up : Upd [] w w'
  fr : ∀ k ∈ feet (stL g c X Y wv pv W Pl), w.heap.size ≤ k
section
variable {w w' w'' : World} {g : Nat} {c : Cf} {X Y : Mc} {wv pv : Value} {W : List Int} {Pl : List Sp}
theorem StI.upd0 (h : StI w w' g c X Y wv pv W Pl) (hu : Upd [] w' w'') : StI w w'' g c X Y wv pv W Pl := ⟨h.s.upd0 hu, h.up.trans hu, h.fr⟩
theorem StI.box (h : StI w w' g c X Y wv pv W Pl) : Blk w' g 42 (cf7 c) := Sep.at_ (i := 0) (x := obBlk g 42 (cf7 c)) h.s rfl
theorem StI.x (h : StI w w' g c X Y wv pv W Pl) : Mach w' X := Sep.at_ (i := 1) (x := obAll X.obs) h.s rfl
theorem StI.y (h : StI w w' g c X Y wv pv W Pl) : Mach w' Y := Sep.at_ (i := 2) (x := obAll Y.obs) h.s rfl
theorem StI.ws (h : StI w w' g c X Y wv pv W Pl) : Sl w' 27 1 wv W.length (W.map (.int .u64)) := Sep.at_ (i := 3) (x := obU wv W) h.s rfl
theorem StI.ps (h : StI w w' g c X Y wv pv W Pl) : Sl w' TPl 3 pv Pl.length (Pl.flatMap cellS) := Sep.at_ (i := 4) (x := obSl TPl 3 pv Pl.length (Pl.flatMap cellS)) h.s rfl
theorem StI.postX {X' : Mc} (h : StI w w' g c X Y wv pv W Pl) (p : Post w' X w'' X') : StI w w'' g c X' Y wv pv W Pl := by
  have t := To.set (l := stL g c X Y wv pv W Pl) (i := 1) (x := obAll X.obs) (y := obAll X'.obs) rfl p.to
  obtain ⟨h1, h2⟩ := t.new h.up h.fr
  exact ⟨Sep.set (i := 1) (x := obAll X.obs) (y := obAll X'.obs) h.s rfl p.ok p.to, h1, h2⟩
theorem StI.postY {Y' : Mc} (h : StI w w' g c X Y wv pv W Pl) (p : Post w' Y w'' Y') : StI w w'' g c X Y' wv pv W Pl := by
  have t := To.set (l := stL g c X Y wv pv W Pl) (i := 2) (x := obAll Y.obs) (y := obAll Y'.obs) rfl p.to
  obtain ⟨h1, h2⟩ := t.new h.up h.fr
  exact ⟨Sep.set (i := 2) (x := obAll Y.obs) (y := obAll Y'.obs) h.s rfl p.ok p.to, h1, h2⟩
theorem StI.words {wv' : Value} {W' : List Int} (h : StI w w' g c X Y wv pv W Pl) (hs : Sl w'' 27 1 wv' W'.length (W'.map (.int .u64))) (hu : Upd [] w' w'') (hf : ∀ g, wv'.ownBlock = some g → w'.heap.size ≤ g) : StI w w'' g c X Y wv' pv W' Pl := by
  have t0 : To w' (obU wv W).foot w'' (obU wv' W').foot := ⟨hu.mono (by simp), fun k hk => .inr (hf k (by simpa [obSl] using hk))⟩
  have t := To.set (l := stL g c X Y wv pv W Pl) (i := 3) (x := obU wv W) (y := obU wv' W') rfl t0
  obtain ⟨h1, h2⟩ := t.new h.up h.fr
  exact ⟨Sep.set (i := 3) (x := obU wv W) (y := obU wv' W') h.s rfl hs t0, h1, h2⟩
end
theorem pl_at {w : World} {b o n c : Nat} {Pl : List Sp} (h : Sl w TPl 3 (.slice (some ⟨b, o, none⟩) n c) n (Pl.flatMap cellS)) (hn : n = Pl.length) (i j : Nat) (hi : i < Pl.length) (hj : j < 3) : w.cell? ⟨b, o + i * 3 + j, none⟩ = (cellS (Pl.getD i (0, 0, 0)))[j]? := by
  rw [Nat.add_assoc, (h.cells rfl (i * 3 + j) (by omega)).1, spanC_at Pl i j hi hj]
structure StJ (w w' : World) (g : Nat) (A T N L B P S : Int) (m n : Nat) (X Y : Mc) (wv pv : Value) (W : List Int) (b tc : Bool) (k : Int) : Prop where
  i : StI w w' g ⟨A, T, N, L, B, P, S⟩ X Y wv pv W (allP A T N L)
  xm : X.m = m
  ym : Y.m = n
  xc : X.c = ⟨A, T, N, L, B, P, S⟩
  yc : Y.c = ⟨A, T, N, L, B, P, S⟩
  xW : X.s.W = W
  yW : Y.s.W = W
  xq : Quiet X.s k
  yq : Quiet Y.s k
  xg : LiveG A N X.gs
  xf : faultG X.gs = tc
  yg : Y.gs = none
  xb : X.bad = b
  yb : Y.bad = b
  wl : W.length = (allP A T N L).length
theorem StJ.upd0 {w w' w'' : World} {g : Nat} {A T N L B P S : Int} {m n : Nat} {X Y : Mc} {wv pv : Value} {W : List Int} {b tc : Bool} {k : Int} (h : StJ w w' g A T N L B P S m n X Y wv pv W b tc k) (hu : Upd [] w' w'') : StJ w w'' g A T N L B P S m n X Y wv pv W b tc k :=
  ⟨h.i.upd0 hu, h.xm, h.ym, h.xc, h.yc, h.xW, h.yW, h.xq, h.yq, h.xg, h.xf, h.yg, h.xb, h.yb, h.wl⟩
theorem LiveG.tags {A N : Int} {gs : Option Gs} (h : LiveG A N gs) (hN : N ≤ 64) : (gtags gs).length ≤ 64 := by
  obtain ⟨g, rfl, h⟩ := h
  show g.tags.length ≤ 64
  rw [h, liveL_len]; omega
theorem Quiet.room {s : MS} {b : Int} (h : Quiet s b) (hb : b ≤ 100000) : Roomy s := h.roomy (by omega)
theorem tchs_fault {A T N L B P S : Int} (hr : rightC ⟨A, T, N, L, B, P, S⟩) {gs : Option Gs} (h : LiveG A N gs) (o : Op7) : LiveG A N (tchs ⟨A, T, N, L, B, P, S⟩ gs (if o.K < 4 then [o.A] else [o.A, o.B])) ∧
    faultG (tchs ⟨A, T, N, L, B, P, S⟩ gs (if o.K < 4 then [o.A] else [o.A, o.B])) = ((faultG gs || hit A T N L o.A) || (decide (o.K > 3) && hit A T N L o.B)) := by
  obtain ⟨h1, h2⟩ := tch_fault hr h o.A
  by_cases hk : o.K < 4
  · rw [if_pos hk, decide_eq_false (by omega), Bool.false_and, Bool.or_false]
    exact ⟨h1, h2⟩
  · rw [if_neg hk, decide_eq_true (by omega), Bool.true_and]
    obtain ⟨h3, h4⟩ := tch_fault hr h1 o.B
    exact ⟨h3, by rw [← h2]; exact h4⟩
theorem tchs_none (c : Cf) (l : List Int) : tchs c none l = none := by
  induction l with
  | nil => rfl
  | cons a l ih => exact ih
def tcs (A T N L : Int) (o : Op7) (tc : Bool) : Nat → Bool
  | 0 => tc
  | 1 => tc || hit A T N L o.A
  | _ => (tc || hit A T N L o.A) || (decide (o.K > 3) && hit A T N L o.B)
set_option maxRecDepth 100000 in
set_option maxHeartbeats 4000000 in
theorem steps_law {w : World} {c : Cf} {v2 : Value} {ls : List (List Int)} (hv : SlRows w w.heap.size opKs v2 ls) : Fn Try.prog 7 #[.agg (cf7 c), v2] w fun r w' => r = .bool true ∧ Upd [] w w' := by
  obtain ⟨a2, cap2, rfl, g1, g2, g3, -, h5⟩ := hv.norm (by decide)
  obtain ⟨A, T, N, L, B, P, S⟩ := c
  refine fn_enter Try.func7 rfl rfl ?_
  refine bx fun w1 hb1 hu1 hs1 => ?_
  have hb1 : Blk w1 w.heap.size 42 (cf7 ⟨A, T, N, L, B, P, S⟩) := hb1
  refine ldw hb1 rfl ?_
  refine cl (rright_c ⟨A, T, N, L, B, P, S⟩ w1) ?_
  rintro _ w2 ⟨rfl, hu2⟩
  have hU2 := hu1.trans hu2
  by_cases hr : rightC ⟨A, T, N, L, B, P, S⟩
  rotate_left
  · refine cY hr ?_
    refine cl (lives16 _) ?_
    rintro _ wx ⟨rfl, hux⟩
    exact ⟨rfl, (hU2).trans hux⟩
  refine cN (fun h => h hr) ?_
  refine len_sl ?_
  by_cases q1 : (ls.length : Int) > 60
  · refine cY q1 ?_
    refine cl (lives16 _) ?_
    rintro _ wx ⟨rfl, hux⟩
    exact ⟨rfl, (hU2).trans hux⟩
  refine cN q1 ?_
  have hb2 := hb1.upd hu2 (by simp)
  refine ldw hb2 rfl ?_
  refine cl (core_new2 (draws := []) true (RdK.nil_ w2 .u8) (by decide)) ?_
  rintro _ w3 ⟨-, hy⟩
  obtain ⟨m, mp, mv, lv, fp, fv, gs, tv, ths, rfl, N3, -, -, -, hgs⟩ := hy hr
  obtain ⟨gp, gv, rfl⟩ := hgs rfl
  clear hy hgs
  obtain ⟨b1, b2, b3, b4, b5, b6, b7, b8, b9, b10, b11, b12⟩ := plan_bd hr
  refine ptr_eq ?_
  have hb3 := hb2.upd N3.up (by simp)
  refine ldw hb3 rfl ?_
  refine cl (core_new2 (draws := []) false (RdK.nil_ w3 .u8) (by decide)) ?_
  rintro _ w4 ⟨-, hy⟩
  obtain ⟨m', mp', mv', lv', fp', fv', gs', tv', ths', rfl, N4, -, -, hgs, -⟩ := hy hr
  obtain rfl := hgs rfl
  clear hy hgs
  refine ptr_eq ?_
  refine ptr_eq ?_
  refine cl (ghost_mm N4.ok) ?_
  rintro _ w4 ⟨rfl, rfl⟩
  refine ptr_ne0 ?_
  rename_i w4
  have hb4 := hb3.upd N4.up (by simp)
  refine ldw hb4 rfl ?_
  refine cl (first_w hr w4) ?_
  rintro wv w5 ⟨hs5, hu5, hf5⟩
  have hb5 := hb4.upd hu5 (by simp)
  refine ldw hb5 rfl ?_
  refine cl (all_c hr w5) ?_
  rintro pv w6 ⟨g6, I6⟩
  have hsz2 := hU2.size
  have hms := first_words hr
  have hmq := layS_q hr
  have hal := allP_len hr
  have S2 : Sep w2 [obBlk w.heap.size 42 (cf7 ⟨A, T, N, L, B, P, S⟩)] := Sep.cons (Sep.nil w2) hb2 (by simp [feet])
  have S3 := Sep.add (y := obAll (mc0 m ⟨A, T, N, L, B, P, S⟩ mp mv lv (layS A T N L (newMS (sizeP A T N L).toNat)) (some ⟨gp, gv, liveL N.toNat (sentP A).toNat, 0, 0⟩) fp fv [] tv ths).obs) S2 N3.up N3.ok N3.fr
  have S4 := Sep.add (y := obAll (mc0 m' ⟨A, T, N, L, B, P, S⟩ mp' mv' lv' (layS A T N L (newMS (sizeP A T N L).toNat)) none fp' fv' [] tv' ths').obs) S3 N4.up N4.ok N4.fr
  have S5 := Sep.add (y := obU wv ((allP A T N L).map (firstW A N L))) S4 hu5 (by show Sl w5 _ 1 wv ((allP A T N L).map _).length _; rw [List.length_map]; exact hs5) (fun k hk => hf5 k (by simpa [obSl] using hk))
  have S6 := Sep.add (y := obSl TPl 3 pv (allP A T N L).length ((allP A T N L).flatMap cellS)) S5 I6.up I6.s (fun k hk => I6.f k (by simpa [obSl] using hk))
  have hz3 := N3.up.size; have hz4 := N4.up.size; have hz5 := hu5.size
  have J6 : StJ w w6 w.heap.size A T N L B P S m m' (mc0 m ⟨A, T, N, L, B, P, S⟩ mp mv lv (layS A T N L (newMS (sizeP A T N L).toNat)) (some ⟨gp, gv, liveL N.toNat (sentP A).toNat, 0, 0⟩) fp fv [] tv ths) (mc0 m' ⟨A, T, N, L, B, P, S⟩ mp' mv' lv' (layS A T N L (newMS (sizeP A T N L).toNat)) none fp' fv' [] tv' ths') wv pv ((allP A T N L).map (firstW A N L)) false false 200 :=
    ⟨⟨S6, (((hU2.trans N3.up).trans N4.up).trans hu5).trans I6.up, fun k hk => by
      obtain ⟨x, hx, hk⟩ := mem_feet.1 hk
      simp only [stL, List.mem_cons, List.not_mem_nil, or_false] at hx
      rcases hx with rfl | rfl | rfl | rfl | rfl
      · rw [List.mem_singleton.1 hk]; exact Nat.le_refl _
      · have := N3.fr k hk; omega
      · have := N4.fr k hk; omega
      · have := hf5 k (by simpa [obSl] using hk); omega
      · have := I6.f k (by simpa [obSl] using hk); omega⟩, rfl, rfl, rfl, rfl, hms, hms, hmq, hmq, ⟨_, rfl, rfl⟩, rfl, rfl, rfl, rfl, by rw [List.length_map]⟩
  generalize mc0 m ⟨A, T, N, L, B, P, S⟩ mp mv lv (layS A T N L (newMS (sizeP A T N L).toNat)) (some ⟨gp, gv, liveL N.toNat (sentP A).toNat, 0, 0⟩) fp fv [] tv ths = X at J6
  generalize mc0 m' ⟨A, T, N, L, B, P, S⟩ mp' mv' lv' (layS A T N L (newMS (sizeP A T N L).toNat)) none fp' fv' [] tv' ths' = Y at J6
  generalize (allP A T N L).map (firstW A N L) = W at J6
  clear S2 S3 S4 S5 S6 I6 hs5 N3 N4 hb2 hb3 hb4 hb5 hms hmq
  refine loop_rule [1, 2, 5, 7, 10] [9, 11, 12, 13] (fun vs w' mm => ∃ (j : Nat) (X Y : Mc) (W : List Int) (b tc : Bool) (wv : Value), vs = [wv, .bool b, .bool tc, .int .i64 (j : Int)] ∧ j ≤ ls.length ∧ mm = ls.length - j ∧ StJ w w' w.heap.size A T N L B P S m m' X Y wv pv W b tc (200 + j)) rfl
    [wv, .bool false, .bool false, .int .i64 0] ls.length rfl ⟨0, X, Y, W, false, false, wv, rfl, by omega, rfl, { J6 with xq := J6.xq.up (by omega), yq := J6.yq.up (by omega) }⟩ ?_
  clear J6
  rintro _ w7 mm ⟨j, X, Y, W, bd, tc, wv, rfl, hj, rfl, J⟩
  refine len_sl ?_
  refine cd (fun hlt => ?_) (fun hlt => ?_)
  · have hlt : j < ls.length := by omega
    obtain ⟨ob, oo, rfl, hbw, hcell⟩ := h5 (by omega)
    refine ix j rfl hlt ?_
    have hop := op_at (w := w7) (b := ob) (o := oo + j * 7) (l := ls.getD j []) (fun i hi => by rw [J.i.up.cell hbw (by simp)]; exact hcell j i hlt hi)
    generalize opOf (ls.getD j []) = op at hop
    obtain ⟨K, a, b', O, N', P', Q⟩ := op
    refine lda (o7l ⟨K, a, b', O, N', P', Q⟩) rfl hop ?_
    refine al #[.int .i64 0, .int .i64 0, .int .i64 0, .int .u64 0, .int .u64 0, .int .u64 0, .int .u64 0] (fun _ => by kernel_rfl) fun w8 hb8 hu8 hs8 => ?_
    refine stw hb8 rfl rfl rfl fun w9 hb9 hu9 hs9 => ?_
    have hb9 : Blk w9 w7.heap.size 82 (o7 ⟨K, a, b', O, N', P', Q⟩) := hb9
    have hu79 : Upd [] w7 w9 := hu8.step hu9 (by simp)
    have nX : w7.heap.size ∉ X.feet := fun hm => by have := J.i.x.m_lt _ hm; omega
    have nY : w7.heap.size ∉ Y.feet := fun hm => by have := J.i.y.m_lt _ hm; omega
    replace J := J.upd0 hu79
    have hz79 := hu79.size
    generalize w7.heap.size = go at *
    clear hb8 hu8 hs8 hu9 hs9 hop
    refine fa ?_
    refine ldb hb9 (v := .int .i64 K) rfl ?_
    refine cd (fun k0 => ?_) (fun k0 => ?_)
    · refine ar64 (by omega) ?_
      exact round_mk [wv, .bool bd, .bool tc, .int .i64 ((j + 1 : Nat) : Int)] (ls.length - (j + 1)) rfl rfl ⟨j + 1, X, Y, W, bd, tc, wv, rfl, by omega, rfl, { J with xq := J.xq.up (by omega), yq := J.yq.up (by omega) }⟩ (by omega)
    refine fa ?_
    refine ldb hb9 (v := .int .i64 K) rfl ?_
    refine cd (fun k5 => ?_) (fun k5 => ?_)
    · refine ar64 (by omega) ?_
      exact round_mk [wv, .bool bd, .bool tc, .int .i64 ((j + 1 : Nat) : Int)] (ls.length - (j + 1)) rfl rfl ⟨j + 1, X, Y, W, bd, tc, wv, rfl, by omega, rfl, { J with xq := J.xq.up (by omega), yq := J.yq.up (by omega) }⟩ (by omega)
    -- which nodes are touched
    refine loop_rule [1, 2, 5, 7, 9, 10, 11, 13, 14] [12, 15] (fun vs w' mm => ∃ k : Nat, k ≤ 2 ∧ mm = 2 - k ∧ vs = [.bool (tcs A T N L ⟨K, a, b', O, N', P', Q⟩ tc k), .int .i64 (k : Int)] ∧ Upd [] w9 w') rfl [.bool tc, .int .i64 0] 2 rfl ⟨0, by omega, rfl, rfl, Upd.refl _ _⟩ ?_
    rintro _ wx mm ⟨k, hk2, rfl, rfl, hux⟩
    obtain ⟨pa, pc, hpv, -⟩ := J.i.ps.form
    have hlenP : (allP A T N L).length ≤ 924 := by omega
    rcases (show k = 0 ∨ k = 1 ∨ k = 2 by omega) with rfl | rfl | rfl
    · have t1 : hit A T N L a = true → tcs A T N L ⟨K, a, b', O, N', P', Q⟩ tc (0 + 1) = true := fun h => by show (tc || hit A T N L a) = true; rw [h]; simp
      have f1 : hit A T N L a = false → tcs A T N L ⟨K, a, b', O, N', P', Q⟩ tc (0 + 1) = tcs A T N L ⟨K, a, b', O, N', P', Q⟩ tc 0 := fun h => by show (tc || hit A T N L a) = tc; rw [h]; simp
      refine fa ?_
      refine ldb (hb9.upd hux (by simp)) (v := .int .i64 a) rfl ?_
      refine draw_all (fun w' => Upd [] wx w') (by decide +kernel) (Upd.refl [] wx).drew ?_
      by_cases h0 : a ≥ 0
      · refine cY h0 ?_
        subst hpv
        refine q_len ?_
        by_cases h1 : a < ((allP A T N L).length : Int)
        · refine cY h1 ?_
          obtain ⟨pb, po, pc', he, -⟩ := J.i.ps.some_ (by omega)
          cases he
          refine q_ix (a).toNat (by omega) (by omega) ?_
          refine q_fa ?_
          refine q_ld (v := .int .i64 ((allP A T N L).getD (a).toNat (0, 0, 0)).1) (fun w' hw' => pl_at (J.i.ps.upd (hux.trans hw') (by simp)) rfl (a).toNat 0 (by omega) (by omega)) ?_
          by_cases k3 : ((allP A T N L).getD (a).toNat (0, 0, 0)).1 = 3
          · refine cY k3 ?_
            refine q_ix (a).toNat (by omega) (by omega) ?_
            refine q_fa ?_
            refine q_ld (v := .int .i64 ((allP A T N L).getD (a).toNat (0, 0, 0)).2.1) (fun w' hw' => pl_at (J.i.ps.upd (hux.trans hw') (by simp)) rfl (a).toNat 1 (by omega) (by omega)) ?_
            refine rq (.agg (cf7 ⟨A, T, N, L, B, P, S⟩)) (fun w' hw' => ldw (J.i.box.upd (hux.trans hw') (by simp)) rfl ⟨rfl, rfl⟩) ?_
            refine q_cl (.int .i64 (sentP A)) (fun w' hw' => (rsent_c ⟨A, T, N, L, B, P, S⟩ w').mono fun _ _ ⟨u, he, h1, h2⟩ => ⟨u, he, h1, hw'.trans h2⟩) ?_
            intro w' hw'
            replace hux := hux.trans hw'
            refine cd (fun hgt => ?_) (fun hgt => ?_)
            · refine ar64 (by omega) ?_
              refine round_mk [.bool (true), .int .i64 ((0 + 1 : Nat) : Int)] (2 - (0 + 1)) rfl rfl ⟨0 + 1, by omega, rfl, ?_, hux⟩ (by omega)
              show [Value.bool (true), .int .i64 ((0 + 1 : Nat) : Int)] = [.bool (tcs A T N L ⟨K, a, b', O, N', P', Q⟩ tc (0 + 1)), .int .i64 ((0 + 1 : Nat) : Int)]
              rw [t1 (decide_eq_true ⟨⟨by omega, h1⟩, k3, hgt⟩)]
            · refine ar64 (by omega) ?_
              refine round_mk [.bool (tcs A T N L ⟨K, a, b', O, N', P', Q⟩ tc 0), .int .i64 ((0 + 1 : Nat) : Int)] (2 - (0 + 1)) rfl rfl ⟨0 + 1, by omega, rfl, ?_, hux⟩ (by omega)
              show [Value.bool (tcs A T N L ⟨K, a, b', O, N', P', Q⟩ tc 0), .int .i64 ((0 + 1 : Nat) : Int)] = [.bool (tcs A T N L ⟨K, a, b', O, N', P', Q⟩ tc (0 + 1)), .int .i64 ((0 + 1 : Nat) : Int)]
              rw [f1 (decide_eq_false (fun hh => hgt hh.2.2))]
          · refine cN k3 ?_
            intro w' hw'
            replace hux := hux.trans hw'
            refine ar64 (by omega) ?_
            refine round_mk [.bool (tcs A T N L ⟨K, a, b', O, N', P', Q⟩ tc 0), .int .i64 ((0 + 1 : Nat) : Int)] (2 - (0 + 1)) rfl rfl ⟨0 + 1, by omega, rfl, ?_, hux⟩ (by omega)
            show [Value.bool (tcs A T N L ⟨K, a, b', O, N', P', Q⟩ tc 0), .int .i64 ((0 + 1 : Nat) : Int)] = [.bool (tcs A T N L ⟨K, a, b', O, N', P', Q⟩ tc (0 + 1)), .int .i64 ((0 + 1 : Nat) : Int)]
            rw [f1 (decide_eq_false (fun hh => k3 hh.2.1))]
        · refine cN h1 ?_
          intro w' hw'
          replace hux := hux.trans hw'
          refine ar64 (by omega) ?_
          refine round_mk [.bool (tcs A T N L ⟨K, a, b', O, N', P', Q⟩ tc 0), .int .i64 ((0 + 1 : Nat) : Int)] (2 - (0 + 1)) rfl rfl ⟨0 + 1, by omega, rfl, ?_, hux⟩ (by omega)
          show [Value.bool (tcs A T N L ⟨K, a, b', O, N', P', Q⟩ tc 0), .int .i64 ((0 + 1 : Nat) : Int)] = [.bool (tcs A T N L ⟨K, a, b', O, N', P', Q⟩ tc (0 + 1)), .int .i64 ((0 + 1 : Nat) : Int)]
          rw [f1 (decide_eq_false (fun hh => h1 hh.1.2))]
      · refine cN h0 ?_
        intro w' hw'
        replace hux := hux.trans hw'
        refine ar64 (by omega) ?_
        refine round_mk [.bool (tcs A T N L ⟨K, a, b', O, N', P', Q⟩ tc 0), .int .i64 ((0 + 1 : Nat) : Int)] (2 - (0 + 1)) rfl rfl ⟨0 + 1, by omega, rfl, ?_, hux⟩ (by omega)
        show [Value.bool (tcs A T N L ⟨K, a, b', O, N', P', Q⟩ tc 0), .int .i64 ((0 + 1 : Nat) : Int)] = [.bool (tcs A T N L ⟨K, a, b', O, N', P', Q⟩ tc (0 + 1)), .int .i64 ((0 + 1 : Nat) : Int)]
        rw [f1 (decide_eq_false (fun hh => h0 hh.1.1))]
    · have t1 : K > 3 → hit A T N L b' = true → tcs A T N L ⟨K, a, b', O, N', P', Q⟩ tc (1 + 1) = true := fun hk h => by show ((tc || hit A T N L a) || (decide (K > 3) && hit A T N L b')) = true; rw [h, decide_eq_true hk]; simp
      have f1 : (K > 3 → hit A T N L b' = false) → tcs A T N L ⟨K, a, b', O, N', P', Q⟩ tc (1 + 1) = tcs A T N L ⟨K, a, b', O, N', P', Q⟩ tc 1 := fun h => by
        show ((tc || hit A T N L a) || (decide (K > 3) && hit A T N L b')) = (tc || hit A T N L a)
        by_cases hk : K > 3
        · rw [h hk]; simp
        · rw [decide_eq_false hk]; simp
      refine fa ?_
      refine ldb (hb9.upd hux (by simp)) (v := .int .i64 a) rfl ?_
      refine fa ?_
      refine ldb (hb9.upd hux (by simp)) (v := .int .i64 b') rfl ?_
      refine draw_all (fun w' => Upd [] wx w') (by decide +kernel) (Upd.refl [] wx).drew ?_
      by_cases h0 : b' ≥ 0
      · refine cY h0 ?_
        subst hpv
        refine q_len ?_
        by_cases h1 : b' < ((allP A T N L).length : Int)
        · refine cY h1 ?_
          refine q_fa ?_
          refine q_ld (v := .int .i64 K) (fun w' hw' => (hb9.upd (hux.trans hw') (by simp)).cell 0) ?_
          by_cases hk : K > 3
          · refine cY hk ?_
            obtain ⟨pb, po, pc', he, -⟩ := J.i.ps.some_ (by omega)
            cases he
            replace t1 := t1 hk
            replace f1 : hit A T N L b' = false → _ := fun h => f1 (fun _ => h)
            refine q_ix (b').toNat (by omega) (by omega) ?_
            refine q_fa ?_
            refine q_ld (v := .int .i64 ((allP A T N L).getD (b').toNat (0, 0, 0)).1) (fun w' hw' => pl_at (J.i.ps.upd (hux.trans hw') (by simp)) rfl (b').toNat 0 (by omega) (by omega)) ?_
            by_cases k3 : ((allP A T N L).getD (b').toNat (0, 0, 0)).1 = 3
            · refine cY k3 ?_
              refine q_ix (b').toNat (by omega) (by omega) ?_
              refine q_fa ?_
              refine q_ld (v := .int .i64 ((allP A T N L).getD (b').toNat (0, 0, 0)).2.1) (fun w' hw' => pl_at (J.i.ps.upd (hux.trans hw') (by simp)) rfl (b').toNat 1 (by omega) (by omega)) ?_
              refine rq (.agg (cf7 ⟨A, T, N, L, B, P, S⟩)) (fun w' hw' => ldw (J.i.box.upd (hux.trans hw') (by simp)) rfl ⟨rfl, rfl⟩) ?_
              refine q_cl (.int .i64 (sentP A)) (fun w' hw' => (rsent_c ⟨A, T, N, L, B, P, S⟩ w').mono fun _ _ ⟨u, he, h1, h2⟩ => ⟨u, he, h1, hw'.trans h2⟩) ?_
              intro w' hw'
              replace hux := hux.trans hw'
              refine cd (fun hgt => ?_) (fun hgt => ?_)
              · refine ar64 (by omega) ?_
                refine round_mk [.bool (true), .int .i64 ((1 + 1 : Nat) : Int)] (2 - (1 + 1)) rfl rfl ⟨1 + 1, by omega, rfl, ?_, hux⟩ (by omega)
                show [Value.bool (true), .int .i64 ((1 + 1 : Nat) : Int)] = [.bool (tcs A T N L ⟨K, a, b', O, N', P', Q⟩ tc (1 + 1)), .int .i64 ((1 + 1 : Nat) : Int)]
                rw [t1 (decide_eq_true ⟨⟨by omega, h1⟩, k3, hgt⟩)]
              · refine ar64 (by omega) ?_
                refine round_mk [.bool (tcs A T N L ⟨K, a, b', O, N', P', Q⟩ tc 1), .int .i64 ((1 + 1 : Nat) : Int)] (2 - (1 + 1)) rfl rfl ⟨1 + 1, by omega, rfl, ?_, hux⟩ (by omega)
                show [Value.bool (tcs A T N L ⟨K, a, b', O, N', P', Q⟩ tc 1), .int .i64 ((1 + 1 : Nat) : Int)] = [.bool (tcs A T N L ⟨K, a, b', O, N', P', Q⟩ tc (1 + 1)), .int .i64 ((1 + 1 : Nat) : Int)]
                rw [f1 (decide_eq_false (fun hh => hgt hh.2.2))]
            · refine cN k3 ?_
              intro w' hw'
              replace hux := hux.trans hw'
              refine ar64 (by omega) ?_
              refine round_mk [.bool (tcs A T N L ⟨K, a, b', O, N', P', Q⟩ tc 1), .int .i64 ((1 + 1 : Nat) : Int)] (2 - (1 + 1)) rfl rfl ⟨1 + 1, by omega, rfl, ?_, hux⟩ (by omega)
              show [Value.bool (tcs A T N L ⟨K, a, b', O, N', P', Q⟩ tc 1), .int .i64 ((1 + 1 : Nat) : Int)] = [.bool (tcs A T N L ⟨K, a, b', O, N', P', Q⟩ tc (1 + 1)), .int .i64 ((1 + 1 : Nat) : Int)]
              rw [f1 (decide_eq_false (fun hh => k3 hh.2.1))]
          · refine cN hk ?_
            intro w' hw'
            replace hux := hux.trans hw'
            refine ar64 (by omega) ?_
            refine round_mk [.bool (tcs A T N L ⟨K, a, b', O, N', P', Q⟩ tc 1), .int .i64 ((1 + 1 : Nat) : Int)] (2 - (1 + 1)) rfl rfl ⟨1 + 1, by omega, rfl, ?_, hux⟩ (by omega)
            show [Value.bool (tcs A T N L ⟨K, a, b', O, N', P', Q⟩ tc 1), .int .i64 ((1 + 1 : Nat) : Int)] = [.bool (tcs A T N L ⟨K, a, b', O, N', P', Q⟩ tc (1 + 1)), .int .i64 ((1 + 1 : Nat) : Int)]
            rw [f1 (fun h => absurd h hk)]
        · refine cN h1 ?_
          intro w' hw'
          replace hux := hux.trans hw'
          refine ar64 (by omega) ?_
          refine round_mk [.bool (tcs A T N L ⟨K, a, b', O, N', P', Q⟩ tc 1), .int .i64 ((1 + 1 : Nat) : Int)] (2 - (1 + 1)) rfl rfl ⟨1 + 1, by omega, rfl, ?_, hux⟩ (by omega)
          show [Value.bool (tcs A T N L ⟨K, a, b', O, N', P', Q⟩ tc 1), .int .i64 ((1 + 1 : Nat) : Int)] = [.bool (tcs A T N L ⟨K, a, b', O, N', P', Q⟩ tc (1 + 1)), .int .i64 ((1 + 1 : Nat) : Int)]
          rw [f1 (fun _ => decide_eq_false (fun hh => h1 hh.1.2))]
      · refine cN h0 ?_
        intro w' hw'
        replace hux := hux.trans hw'
        refine ar64 (by omega) ?_
        refine round_mk [.bool (tcs A T N L ⟨K, a, b', O, N', P', Q⟩ tc 1), .int .i64 ((1 + 1 : Nat) : Int)] (2 - (1 + 1)) rfl rfl ⟨1 + 1, by omega, rfl, ?_, hux⟩ (by omega)
        show [Value.bool (tcs A T N L ⟨K, a, b', O, N', P', Q⟩ tc 1), .int .i64 ((1 + 1 : Nat) : Int)] = [.bool (tcs A T N L ⟨K, a, b', O, N', P', Q⟩ tc (1 + 1)), .int .i64 ((1 + 1 : Nat) : Int)]
        rw [f1 (fun _ => decide_eq_false (fun hh => h0 hh.1.1))]
    · clear hpv
      have Jx := J.upd0 hux
      refine ldw (hb9.upd hux (by simp)) rfl ?_
      have hdX := do_m Jx.i.x (by rw [Jx.xc]; exact hr) (Jx.xg.tags (by omega)) (Jx.xq.room (by omega)) ⟨K, a, b', O, N', P', Q⟩ (by show 0 ≤ K ∧ K ≤ 5; omega)
      rw [Jx.xm] at hdX
      refine cl hdX ?_
      clear hdX
      rintro _ wy ⟨u, d, X', rfl, pX, DX⟩
      have iy := Jx.i.postX pX
      have hby : Blk wy go 82 (o7 ⟨K, a, b', O, N', P', Q⟩) := (hb9.upd hux (by simp)).upd pX.to.up nX
      refine ldw hby rfl ?_
      have hdY := do_m iy.y (by rw [Jx.yc]; exact hr) (by rw [Jx.yg]; show ([] : List Int).length ≤ 64; simp) (Jx.yq.room (by omega)) ⟨K, a, b', O, N', P', Q⟩ (by show 0 ≤ K ∧ K ≤ 5; omega)
      rw [Jx.ym] at hdY
      refine cl hdY ?_
      clear hdY
      rintro _ wz ⟨u2, d2, Y', rfl, pY, DY⟩
      have iz := iy.postY pY
      have hbz := hby.upd pY.to.up nY
      obtain ⟨fX1, fX2⟩ := tchs_fault hr Jx.xg ⟨K, a, b', O, N', P', Q⟩
      have eX : X'.gs = tchs ⟨A, T, N, L, B, P, S⟩ X.gs (if (⟨K, a, b', O, N', P', Q⟩ : Op7).K < 4 then [a] else [a, b']) := by rw [DX.gs, Jx.xc]
      have xg' : LiveG A N X'.gs := by rw [eX]; exact fX1
      have xf' : faultG X'.gs = tcs A T N L ⟨K, a, b', O, N', P', Q⟩ tc 2 := by rw [eX, fX2, Jx.xf]; rfl
      have yg' : Y'.gs = none := by rw [DY.gs, Jx.yg, tchs_none]
      have xq' : Quiet X'.s (200 + ((j + 1 : Nat) : Int)) := (DX.q _ Jx.xq).up (by omega)
      have yq' : Quiet Y'.s (200 + ((j + 1 : Nat) : Int)) := (DY.q _ Jx.yq).up (by omega)
      have xm' : X'.m = m := by rw [DX.m]; exact Jx.xm
      have ym' : Y'.m = m' := by rw [DY.m]; exact Jx.ym
      have xc' : X'.c = ⟨A, T, N, L, B, P, S⟩ := by rw [DX.c]; exact Jx.xc
      have yc' : Y'.c = ⟨A, T, N, L, B, P, S⟩ := by rw [DY.c]; exact Jx.yc
      have hwl := Jx.wl
      obtain ⟨wa, wc, rfl, -⟩ := iz.ws.form
      refine ldw hbz rfl ?_
      refine len_sl ?_
      refine cl (right_law ⟨K, a, b', O, N', P', Q⟩ W.length wz) ?_
      rintro _ w10 ⟨rfl, hu10⟩
      have i10 := iz.upd0 hu10
      by_cases ho : rightO ⟨K, a, b', O, N', P', Q⟩ W.length
      · refine cN (p := ¬ rightO ⟨K, a, b', O, N', P', Q⟩ W.length) (fun h => h ho) ?_
        refine ldw (hbz.upd hu10 (by simp)) rfl ?_
        refine cl (doref_c i10.ws ⟨K, a, b', O, N', P', Q⟩ ho (by omega)) ?_
        rintro _ w11 ⟨rv, rfl, hs11, hu11, hf11⟩
        obtain ⟨dX1, dX2, dX3, dX4⟩ := DX.yes (by rw [Jx.xW]; exact ho)
        obtain ⟨dY1, dY2, dY3, dY4⟩ := DY.yes (by rw [Jx.yW]; exact ho)
        rw [Jx.xW] at dX1 dX2 dX3
        rw [Jx.yW] at dY1 dY2 dY3
        have hel := eff_length ⟨K, a, b', O, N', P', Q⟩ W
        have JN : StJ w w11 w.heap.size A T N L B P S m m' X' Y' rv pv (eff ⟨K, a, b', O, N', P', Q⟩ W).1 bd (tcs A T N L ⟨K, a, b', O, N', P', Q⟩ tc 2) (200 + ((j + 1 : Nat) : Int)) :=
          ⟨i10.words (by rw [hel]; exact hs11) hu11 hf11, xm', ym', xc', yc', dX1, dY1, xq', yq', xg', xf', yg', by rw [dX4]; exact Jx.xb, by rw [dY4]; exact Jx.yb, by rw [hel]; exact hwl⟩
        have hb11 : Blk w11 go 82 (o7 ⟨K, a, b', O, N', P', Q⟩) := (hbz.upd hu10 (by simp)).upd hu11 (by simp)
        clear DX DY fX1 fX2 eX xg' xf' yg' xq' yq' iy iz i10 Jx J pX pY hs11
        generalize eff ⟨K, a, b', O, N', P', Q⟩ W = E at *
        generalize tcs A T N L ⟨K, a, b', O, N', P', Q⟩ tc 2 = tc2 at *
        refine cN (fun h => h dX2) ?_
        refine cN (fun h => h dY2) ?_
        refine fa ?_
        refine ldb hb11 (v := .int .i64 K) rfl ?_
        by_cases k1 : K > 1
        · refine cY k1 ?_
          refine fa ?_
          refine ldb hb11 (v := .int .i64 K) rfl ?_
          by_cases k3 : K = 3
          · refine cN (fun h => h k3) ?_
            cases bd with
            | true =>
              have hfx := fault_mm (JN).i.x
              rw [(JN).xm, (JN).xb, (JN).xf] at hfx
              refine cl hfx ?_
              clear hfx
              rintro _ wf1 ⟨rfl, huf1⟩
              refine bnq ?_
              first | refine cN (fun h => h rfl) ?_ | skip
              have hfy := fault_mm ((JN).upd0 huf1).i.y
              rw [(JN).ym, (JN).yb, (JN).yg] at hfy
              refine cl hfy ?_
              clear hfy
              rintro _ wf2 ⟨rfl, huf2⟩
              refine bnq ?_
              first | refine cN (fun h => h rfl) ?_ | skip
              refine ar64 (by omega) ?_
              exact round_mk [_, _, _, .int .i64 ((j + 1 : Nat) : Int)] (ls.length - (j + 1)) rfl rfl ⟨j + 1, _, _, _, _, _, _, rfl, by omega, rfl, ((JN).upd0 huf1).upd0 huf2⟩ (by omega)
            | false =>
              have hfx := fault_mm (JN).i.x
              rw [(JN).xm, (JN).xb, (JN).xf] at hfx
              refine cl hfx ?_
              clear hfx
              rintro _ wf1 ⟨rfl, huf1⟩
              refine bnq ?_
              first | refine cN (fun h => h rfl) ?_ | skip
              have hfy := fault_mm ((JN).upd0 huf1).i.y
              rw [(JN).ym, (JN).yb, (JN).yg] at hfy
              refine cl hfy ?_
              clear hfy
              rintro _ wf2 ⟨rfl, huf2⟩
              refine bnq ?_
              first | refine cN (fun h => h rfl) ?_ | skip
              refine ar64 (by omega) ?_
              exact round_mk [_, _, _, .int .i64 ((j + 1 : Nat) : Int)] (ls.length - (j + 1)) rfl rfl ⟨j + 1, _, _, _, _, _, _, rfl, by omega, rfl, ((JN).upd0 huf1).upd0 huf2⟩ (by omega)
          · refine cY k3 ?_
            refine bnq ?_
            refine cN (fun h => h (dX3 k1 k3)) ?_
            refine bnq ?_
            refine cN (fun h => h (dY3 k1 k3)) ?_
            cases bd with
            | true =>
              have hfx := fault_mm (JN).i.x
              rw [(JN).xm, (JN).xb, (JN).xf] at hfx
              refine cl hfx ?_
              clear hfx
              rintro _ wf1 ⟨rfl, huf1⟩
              refine bnq ?_
              first | refine cN (fun h => h rfl) ?_ | skip
              have hfy := fault_mm ((JN).upd0 huf1).i.y
              rw [(JN).ym, (JN).yb, (JN).yg] at hfy
              refine cl hfy ?_
              clear hfy
              rintro _ wf2 ⟨rfl, huf2⟩
              refine bnq ?_
              first | refine cN (fun h => h rfl) ?_ | skip
              refine ar64 (by omega) ?_
              exact round_mk [_, _, _, .int .i64 ((j + 1 : Nat) : Int)] (ls.length - (j + 1)) rfl rfl ⟨j + 1, _, _, _, _, _, _, rfl, by omega, rfl, ((JN).upd0 huf1).upd0 huf2⟩ (by omega)
            | false =>
              have hfx := fault_mm (JN).i.x
              rw [(JN).xm, (JN).xb, (JN).xf] at hfx
              refine cl hfx ?_
              clear hfx
              rintro _ wf1 ⟨rfl, huf1⟩
              refine bnq ?_
              first | refine cN (fun h => h rfl) ?_ | skip
              have hfy := fault_mm ((JN).upd0 huf1).i.y
              rw [(JN).ym, (JN).yb, (JN).yg] at hfy
              refine cl hfy ?_
              clear hfy
              rintro _ wf2 ⟨rfl, huf2⟩
              refine bnq ?_
              first | refine cN (fun h => h rfl) ?_ | skip
              refine ar64 (by omega) ?_
              exact round_mk [_, _, _, .int .i64 ((j + 1 : Nat) : Int)] (ls.length - (j + 1)) rfl rfl ⟨j + 1, _, _, _, _, _, _, rfl, by omega, rfl, ((JN).upd0 huf1).upd0 huf2⟩ (by omega)
        · refine cN k1 ?_
          cases bd with
          | true =>
            have hfx := fault_mm (JN).i.x
            rw [(JN).xm, (JN).xb, (JN).xf] at hfx
            refine cl hfx ?_
            clear hfx
            rintro _ wf1 ⟨rfl, huf1⟩
            refine bnq ?_
            first | refine cN (fun h => h rfl) ?_ | skip
            have hfy := fault_mm ((JN).upd0 huf1).i.y
            rw [(JN).ym, (JN).yb, (JN).yg] at hfy
            refine cl hfy ?_
            clear hfy
            rintro _ wf2 ⟨rfl, huf2⟩
            refine bnq ?_
            first | refine cN (fun h => h rfl) ?_ | skip
            refine ar64 (by omega) ?_
            exact round_mk [_, _, _, .int .i64 ((j + 1 : Nat) : Int)] (ls.length - (j + 1)) rfl rfl ⟨j + 1, _, _, _, _, _, _, rfl, by omega, rfl, ((JN).upd0 huf1).upd0 huf2⟩ (by omega)
          | false =>
            have hfx := fault_mm (JN).i.x
            rw [(JN).xm, (JN).xb, (JN).xf] at hfx
            refine cl hfx ?_
            clear hfx
            rintro _ wf1 ⟨rfl, huf1⟩
            refine bnq ?_
            first | refine cN (fun h => h rfl) ?_ | skip
            have hfy := fault_mm ((JN).upd0 huf1).i.y
            rw [(JN).ym, (JN).yb, (JN).yg] at hfy
            refine cl hfy ?_
            clear hfy
            rintro _ wf2 ⟨rfl, huf2⟩
            refine bnq ?_
            first | refine cN (fun h => h rfl) ?_ | skip
            refine ar64 (by omega) ?_
            exact round_mk [_, _, _, .int .i64 ((j + 1 : Nat) : Int)] (ls.length - (j + 1)) rfl rfl ⟨j + 1, _, _, _, _, _, _, rfl, by omega, rfl, ((JN).upd0 huf1).upd0 huf2⟩ (by omega)
      · refine cY (p := ¬ rightO ⟨K, a, b', O, N', P', Q⟩ W.length) ho ?_
        obtain ⟨dX1, dX4⟩ := DX.no (by rw [Jx.xW]; exact ho)
        obtain ⟨dY1, dY4⟩ := DY.no (by rw [Jx.yW]; exact ho)
        rw [Jx.xW] at dX1
        rw [Jx.yW] at dY1
        have JN : StJ w w10 w.heap.size A T N L B P S m m' X' Y' _ pv W true (tcs A T N L ⟨K, a, b', O, N', P', Q⟩ tc 2) (200 + ((j + 1 : Nat) : Int)) :=
          ⟨i10, xm', ym', xc', yc', dX1, dY1, xq', yq', xg', xf', yg', dX4, dY4, hwl⟩
        clear DX DY fX1 fX2 eX xg' xf' yg' xq' yq' iy iz i10 Jx J pX pY
        generalize tcs A T N L ⟨K, a, b', O, N', P', Q⟩ tc 2 = tc2 at *
        have hfx := fault_mm (JN).i.x
        rw [(JN).xm, (JN).xb, (JN).xf] at hfx
        refine cl hfx ?_
        clear hfx
        rintro _ wf1 ⟨rfl, huf1⟩
        refine bnq ?_
        first | refine cN (fun h => h rfl) ?_ | skip
        have hfy := fault_mm ((JN).upd0 huf1).i.y
        rw [(JN).ym, (JN).yb, (JN).yg] at hfy
        refine cl hfy ?_
        clear hfy
        rintro _ wf2 ⟨rfl, huf2⟩
        refine bnq ?_
        first | refine cN (fun h => h rfl) ?_ | skip
        refine ar64 (by omega) ?_
        exact round_mk [_, _, _, .int .i64 ((j + 1 : Nat) : Int)] (ls.length - (j + 1)) rfl rfl ⟨j + 1, _, _, _, _, _, _, rfl, by omega, rfl, ((JN).upd0 huf1).upd0 huf2⟩ (by omega)
  · have hmx := mem_mm J.i.x
    rw [J.xm] at hmx
    refine cl hmx ?_
    clear hmx
    rintro _ _ ⟨rfl, rfl⟩
    rename_i w8
    refine cl (words_c J.i.x.mem (by rw [J.xW, J.wl]; omega)) ?_
    rintro r1 w9 ⟨hs9, hu9, -⟩
    rw [J.xW] at hs9
    have J9 := J.upd0 hu9
    refine cl (words_eq (RdK.of_sl hs9) (RdK.of_sl J9.i.ws)) ?_
    rintro _ w10 ⟨rfl, hu10⟩
    have J10 := J9.upd0 hu10
    have hmy := mem_mm J10.i.y
    rw [J10.ym] at hmy
    refine cl hmy ?_
    clear hmy
    rintro _ _ ⟨rfl, rfl⟩
    rename_i w11
    refine cl (words_c J10.i.y.mem (by rw [J10.yW, J10.wl]; omega)) ?_
    rintro r2 w12 ⟨hs12, hu12, -⟩
    rw [J10.yW] at hs12
    have J12 := J10.upd0 hu12
    refine cl (words_eq (RdK.of_sl hs12) (RdK.of_sl J12.i.ws)) ?_
    rintro _ w13 ⟨rfl, hu13⟩
    refine cl (lives16 _) ?_
    rintro _ wx ⟨rfl, hux⟩
    exact ⟨rfl, (J12.i.up.trans hu13).trans hux⟩
theorem CoreSteps_walk (w : World) (l : List Int) (wl : Fits [.i64, .i64, .i64, .i64, .i64, .i64, .i64] l) (v1 : Value) (l1 : List (List Int)) (h1 : SlRows w w.heap.size opKs v1 l1) :
    Calls Try.prog 7 #[.agg (mkInts [.i64, .i64, .i64, .i64, .i64, .i64, .i64] l).toArray, v1] w fun e w' => e = .returned (.bool true) ∧ Below w.heap.size w w' := by
  obtain ⟨⟨A, T, N, L, B, P, S⟩, rfl⟩ := cf_of wl
  exact (steps_law (c := ⟨A, T, N, L, B, P, S⟩) h1).mono fun _ _ ⟨_, he, hv, hu⟩ => ⟨by rw [he, hv], hu.below⟩
end Go.Proofs.Ytdomclcokkijjaa
