/- Joined: Lq Lr. -/
import Derived.Test.YtbnbbafffihapaaJ6
/- The law LocateKeeps: its walk. -/
namespace Go.Proofs.Ytbnbbafffihapaa
open Go.RowKit
attribute [local irreducible] Instr.loadAt Instr.storeAt Instr.fieldAt Instr.indexAt Instr.sliceAt Instr.buildSlice Instr.box Instr.alloc Builtin.append_ Builtin.len_ Builtin.min_ Builtin.max_ Calls Instr.build Instr.makeSlice binSem convert Instr.index Instr.range Instr.next
abbrev TPl : Nat := 58
/-- a list of words of the call's own, apart from the machine -/
structure Far (w : World) (X : Mc) (v : Value) (l : List Int) : Prop where
  sl : Sl w 47 1 v l.length (l.map (.int .u64))
  n : ∀ g, v.ownBlock = some g → g ∉ X.feet
theorem Far.upd0 {w w' : World} {X : Mc} {v : Value} {l : List Int} (h : Far w X v l) (hu : Upd [] w w') : Far w' X v l := ⟨h.sl.upd hu (by simp), h.n⟩
theorem Far.post {w w' : World} {X Y : Mc} {v : Value} {l : List Int} (h : Far w X v l) (p : Post w X w' Y) : Far w' Y v l := ⟨h.sl.upd p.to.up h.n, fun g hg hm => by
  have hlt := h.sl.lt g hg
  rcases p.to.sub g hm with h1 | h1
  · exact h.n g hg h1
  · omega⟩
section
variable {w w' w'' w0 : World} {X : Mc} {N : Nat} {W : List Int} {k : Int} {a : Bool} {t : PT}
theorem LM.words (h : LM w w' X N W k a t) (hl : W.length < 4294967296) : Fn Try.prog 29 #[ptrV X.mp] w' fun r w'' => Upd [] w' w'' ∧ Far w'' X r W := by
  have hWX : X.s.W = W := congrArg PS.W h.abs
  refine (words_c h.new.ok.mem (by rw [hWX]; exact hl)).mono ?_
  rintro e w2 ⟨u, he, h1, h2, h3⟩
  rw [hWX] at h1
  exact ⟨u, he, h2, h1, fun g hg hm => by
    have := h.new.ok.lt g hm
    have := h3 g hg
    omega⟩
end
theorem where20 : ∀ a : Nat, a < 218 → ((whereP 2 1 20 4 (a : Int)).1 = 1 ↔ 8 ≤ a ∧ a < 18) := by decide +kernel
section
variable {w : World} {v : Value} {l : List Nd} {n : Int}
set_option maxRecDepth 100000 in
set_option maxHeartbeats 4000000 in
theorem keeps_law (hl : RdNd w v l) (hu : NdU l) (hn : u64R n) : Fn Try.prog 7 #[v, .int .u64 n] w fun r w' => r = .bool true ∧ Upd [] w w' := by
  refine fn_enter Try.func7 rfl rfl ?_
  refine cl (laid_c hl hu) ?_
  rintro _ w1 (⟨rfl, hu1, -⟩ | ⟨hP, X, W, k, a, t, rfl, H, hL, hW, hfs, hlens, hk0, hk1⟩)
  · refine ptr_eq0 ?_
    refine cl (lives27 _) ?_
    rintro _ w2 ⟨rfl, hu2⟩
    exact ⟨rfl, hu1.trans hu2⟩
  refine ptr_eq ?_
  have hB : Bas l n 20 W (W.getD 1 0) W t := ⟨hL, .refl _, hW, rfl, hlens⟩
  have h18 := hP.1
  have hWl := hB.wl
  refine cl (mem_mm H.new.ok) ?_
  rintro _ w1 ⟨rfl, rfl⟩
  refine cl (H.words (by omega)) ?_
  rintro was w2 ⟨hu2, hwas⟩
  have H2 := H.upd0 hu2
  refine cl (seek_c H2.new.ok H2.calm H2.abs hfs hB hn ⟨by omega, by omega⟩) ?_
  rintro _ w3 ⟨rfl, W', k', t', hev, hF, hk2, hk3⟩
  obtain ⟨Y, H3, hm, hp3⟩ := H2.ev' hev
  have hwas3 := hwas.post hp3
  have hWl' := hF.b.wl
  have mm := mem_mm H3.new.ok
  rw [hm] at mm
  refine cl mm ?_
  rintro _ w3 ⟨rfl, rfl⟩
  refine cl (H3.words (by omega)) ?_
  rintro now w4 ⟨hu4, hnow⟩
  have H4 := H3.upd0 hu4
  have hwas4 := hwas3.upd0 hu4
  have pm := plan_mm H4.new.ok
  rw [hm] at pm
  refine cl pm ?_
  rintro _ w5 ⟨rfl, hu5⟩
  rw [H4.c_]
  have H5 := H4.upd0 hu5
  have hwas5 := hwas4.upd0 hu5
  have hnow5 := hnow.upd0 hu5
  refine al z15 (fun _ => by kernel_rfl) fun w6 hb6 hu6 hs6 => ?_
  refine stw hb6 rfl (planC_len (cL (20 : Nat))) (planC_one (cL (20 : Nat))) fun w7 hb7 hu7 hs7 => ?_
  have hb7 : Blk w7 w5.heap.size TPl (planC (cL (20 : Nat))) := hb7
  have hu57 : Upd [] w5 w7 := hu6.step hu7 (by simp)
  have H7 := H5.upd0 hu57
  have hwas7 := hwas5.upd0 hu57
  have hnow7 := hnow5.upd0 hu57
  have hpn : w5.heap.size ∉ Y.feet := fun hq => Nat.lt_irrefl _ (H5.new.ok.lt _ hq)
  generalize w5.heap.size = pb at *
  have hcr : rightC (cL ((20 : Nat) : Int)) := cL_right (by omega) (by omega)
  obtain ⟨bw, ow, cw, ew, -⟩ := hwas7.sl.some_ (by omega)
  obtain ⟨bn, on_, cn, en, -⟩ := hnow7.sl.some_ (by omega)
  subst ew en
  refine loop_rule [6, 7, 8, 0, 5] [9] (fun vs w' m => ∃ j : Nat, vs = [.int .i64 (j : Int)] ∧ j ≤ W.length ∧ m = W.length - j ∧ Upd [] w7 w') rfl [.int .i64 0] W.length rfl ⟨0, rfl, by omega, rfl, .refl _ _⟩ ?_
  rintro _ w8 m ⟨j, rfl, hj, rfl, hu8⟩
  refine len_sl ?_
  refine cd (fun hlt => ?_) (fun hlt => ?_)
  · have hlt : j < W.length := by omega
    have hp8 := hb7.upd hu8 (by simp)
    refine ldw hp8 (planC_len _) ?_
    refine cl (where_c hcr (j : Int) w8) ?_
    rintro _ w9 ⟨rfl, hu9⟩
    have hu79 := hu8.trans hu9
    have hq := where20 j (by omega)
    rw [show (((20 : Nat) : Int)) = (20 : Int) from rfl]
    generalize whereP 2 1 20 4 (j : Int) = q at *
    obtain ⟨q1, q2, q3⟩ := q
    have hwj := hwas7.upd0 hu79
    have hnj := hnow7.upd0 hu79
    refine draw_all (fun w' => Upd [] w9 w') (by decide +kernel) (Upd.refl [] w9).drew ?_
    by_cases hq1 : q1 = 1
    · subst hq1
      intro wa hwa
      refine ar64 (by omega) ?_
      exact round_mk [.int .i64 ((j + 1 : Nat) : Int)] (W.length - (j + 1)) rfl rfl ⟨j + 1, rfl, by omega, rfl, hu79.trans hwa⟩ (by omega)
    · have hsame : W'.getD j 0 = W.getD j 0 := by
        have hne : ¬ (8 ≤ j ∧ j < 18) := fun h => hq1 (hq.2 h)
        by_cases h1 : j = 1
        · rw [h1, hF.b.ep]
        · exact hF.b.same.2 j h1 hne
      refine cY hq1 ?_
      refine q_ix j rfl (by omega) ?_
      refine q_ld (v := .int .u64 (W.getD j 0)) (fun w' hw' => by rw [← hsame]; exact (hnj.upd0 hw').sl.getD_ rfl j (by omega)) ?_
      refine q_ix j rfl (by omega) ?_
      refine q_ld (v := .int .u64 (W.getD j 0)) (fun w' hw' => (hwj.upd0 hw').sl.getD_ rfl j (by omega)) ?_
      intro wa hwa
      refine cN (fun h => h rfl) ?_
      refine ar64 (by omega) ?_
      exact round_mk [.int .i64 ((j + 1 : Nat) : Int)] (W.length - (j + 1)) rfl rfl ⟨j + 1, rfl, by omega, rfl, hu79.trans hwa⟩ (by omega)
  have H8 := H7.upd0 hu8
  have hp8 := hb7.upd hu8 (by simp)
  obtain ⟨th, e1, e2, eth⟩ := H8.thr
  have htm := thread_mm (i := 0) H8.new.ok e1 e2
  rw [hm] at htm
  refine cl htm ?_
  rintro _ w8 ⟨rfl, rfl⟩
  obtain ⟨l1, l2, l3⟩ := hF.b.lens
  rw [← eth, absT_P] at l1
  rw [← eth, absT_S] at l2
  refine loop_rule [5, 8, 13] [14] (fun vs w' m => ∃ (kk : Nat), vs = [.int .i64 (kk : Int)] ∧ kk ≤ 4 ∧ m = 4 - kk ∧
      ∃ Z kz a', LM w w' Z 20 W' kz a' t' ∧ Z.m = X.m ∧ Z.ths = Y.ths ∧ Aside w' Z pb TPl (planC (cL (20 : Nat))) ∧ 0 ≤ kz ∧ kz ≤ 5000 + 2 * kk) rfl [.int .i64 0] 4 rfl ⟨0, rfl, by omega, rfl, Y, k', true, H8, hm, rfl, ⟨hp8, hpn⟩, by omega, by omega⟩ ?_
  rintro _ w9 m ⟨kk, rfl, hkk, rfl, Z, kz, a', HZ, hmZ, htZ, hA, hkz, hkz2⟩
  have hth : Z.ths[0]? = some th := by rw [htZ]; exact e1
  refine cd (fun hk4 => ?_) (fun hk4 => ?_)
  · have hk4 : kk < 4 := by omega
    refine draw_mixA [(0, true), (2, true), (3, true), (4, true), (1, false), (5, false), (6, false), (7, true), (8, true), (9, true), (10, true), (11, true)] (fun w' => Blk w' pb TPl (planC (cL (20 : Nat)))) (by decide +kernel) hA.b.drew ?_
    refine rq (.agg (planC (cL (20 : Nat)))) (fun w' hw' => ldw hw' (planC_len _) ⟨rfl, rfl⟩) ?_
    refine q_ar64 (by omega) ?_
    skip
    have HZa := HZ.upd0 (Upd.refl [] w9).drew
    have mma := mem_mm HZa.new.ok
    rw [hmZ] at mma
    refine cl mma ?_
    rintro _ wa ⟨rfl, hwa⟩
    subst hwa
    refine ⟨hA.b.drew, ?_⟩
    refine cl (haz_c hcr 0 (2 * (kk : Int)) _) ?_
    rintro _ wb ⟨rfl, hub⟩
    have HZb := HZa.upd0 hub
    have hpbb := (hA.b.drew).upd hub (by simp)
    refine ⟨hpbb, ?_⟩
    rw [haz_cL (by omega) (by omega)]
    rw [show (8 : Int) + 2 * (kk : Int) = ((8 + 2 * kk : Nat) : Int) by omega]
    refine cl (HZb.load (by omega) (by omega)) ?_
    rintro _ w10 ⟨rfl, Z2, H10, hm10, ht10, hp10⟩
    have hA10 := (Aside.upd0 (Aside.upd0 hA (Upd.refl [] w9).drew) hub).post hp10
    refine ⟨hA10.b, ?_⟩
    have hmZ10 := hm10.trans hmZ
    refine draw_mixA [(0, true), (2, true), (3, true), (4, true), (5, true), (1, false), (6, false), (7, false), (8, true), (9, true), (10, true), (11, true), (12, true)] (fun w' => Blk w' pb TPl (planC (cL (20 : Nat)))) (by decide +kernel) hA10.b.drew ?_
    refine rq (.agg (planC (cL (20 : Nat)))) (fun w' hw' => ldw hw' (planC_len _) ⟨rfl, rfl⟩) ?_
    refine q_ar64 (by omega) ?_
    refine q_ar64 (by omega) ?_
    have H10a := H10.upd0 (Upd.refl [] w10).drew
    have mma := mem_mm H10a.new.ok
    rw [hmZ10] at mma
    refine cl mma ?_
    rintro _ wa ⟨rfl, hwa⟩
    subst hwa
    refine ⟨hA10.b.drew, ?_⟩
    refine cl (haz_c hcr 0 (2 * (kk : Int) + 1) _) ?_
    rintro _ wb ⟨rfl, hub⟩
    have H10b := H10a.upd0 hub
    have hpbb := (hA10.b.drew).upd hub (by simp)
    refine ⟨hpbb, ?_⟩
    rw [haz_cL (by omega) (by omega)]
    rw [show (8 : Int) + (2 * (kk : Int) + 1) = ((8 + 2 * kk + 1 : Nat) : Int) by omega]
    refine cl (H10b.load (by omega) (by omega)) ?_
    rintro _ w11 ⟨rfl, Z3, H11, hm11, ht11, hp11⟩
    have hA11 := (Aside.upd0 (Aside.upd0 hA10 (Upd.refl [] w10).drew) hub).post hp11
    refine ⟨hA11.b, ?_⟩
    have e9 : Z3.ths[0]? = some th := by rw [ht11, ht10]; exact hth
    have hb9 := (H11.new.ok.core e9).blk
    obtain ⟨b1, o1, c1, hv1, hc1⟩ := slot_at (H11.new.ok.pv_ e9) l1
    obtain ⟨b2, o2, c2, hv2, hc2⟩ := slot_at (H11.new.ok.sv_ e9) l2
    rw [hv1, hv2] at hb9
    obtain ⟨S0, S1, -, S3, S4⟩ := hF.all kk hk4
    rw [S3]
    generalize predN (endK l n kk).1 = pn at *
    generalize nodeN l (nx l kk (endK l n kk).1) = sn at *
    refine fa ?_
    refine ldb hb9 rfl ?_
    refine ix kk rfl hk4 ?_
    refine ld (v := .int .u64 pn) (by rw [hc1 kk hk4, ← absT_P, eth, S0]) ?_
    refine cN (fun h => h rfl) ?_
    refine fa ?_
    refine ldb hb9 rfl ?_
    refine ix kk rfl hk4 ?_
    refine ld (v := .int .u64 sn) (by rw [hc2 kk hk4, ← absT_S, eth, S1]) ?_
    have hend : ∃ Z kz a', LM w w11 Z 20 W' kz a' t' ∧ Z.m = X.m ∧ Z.ths = Y.ths ∧ Aside w11 Z pb TPl (planC (cL (20 : Nat))) ∧ 0 ≤ kz ∧ kz ≤ 5000 + 2 * ((kk + 1 : Nat) : Int) :=
      ⟨Z3, kz + 1 + 1, a', H11, hm11.trans hmZ10, ht11.trans (ht10.trans htZ), hA11, by omega, by omega⟩
    by_cases hs : sn = 2
    · refine cN (fun h => h hs) ?_
      refine ar64 (by omega) ?_
      exact round_mk [.int .i64 ((kk + 1 : Nat) : Int)] (4 - (kk + 1)) rfl rfl ⟨kk + 1, rfl, by omega, rfl, hend⟩ (by omega)
    · refine cY hs ?_
      rw [S4 hs]
      refine fa ?_
      refine ldb hb9 rfl ?_
      refine ix kk rfl hk4 ?_
      refine ld (v := .int .u64 sn) (by rw [hc2 kk hk4, ← absT_S, eth, S1]) ?_
      refine cN (fun h => h rfl) ?_
      refine ar64 (by omega) ?_
      exact round_mk [.int .i64 ((kk + 1 : Nat) : Int)] (4 - (kk + 1)) rfl rfl ⟨kk + 1, rfl, by omega, rfl, hend⟩ (by omega)
  · refine cl (lives27 _) ?_
    rintro _ w10 ⟨rfl, hu10⟩
    exact ⟨rfl, HZ.new.up.trans hu10⟩
end
theorem LocateKeeps_walk (w : World) (v : Value) (l : List Nd) (h : RdNd w v l) (hu : NdU l) (n : Int) (hn : (Lit.int .u64 n).wf) :
    Calls Try.prog 7 #[v, .int .u64 n] w fun e w' => e = .returned (.bool true) ∧ Below w.heap.size w w' := by
  have h0 : IntKind.u64.min ≤ n ∧ n ≤ IntKind.u64.max := by simpa [Lit.wf] using hn
  exact (keeps_law h hu h0).mono fun _ _ ⟨_, he, hr, hup⟩ => ⟨by rw [he, hr], hup.below⟩
end Go.Proofs.Ytbnbbafffihapaa

/- The law LocateEpochs: its walk. -/
namespace Go.Proofs.Ytbnbbafffihapaa
open Go.RowKit
attribute [local irreducible] Instr.loadAt Instr.storeAt Instr.fieldAt Instr.indexAt Instr.sliceAt Instr.buildSlice Instr.box Instr.alloc Builtin.append_ Builtin.len_ Builtin.min_ Builtin.max_ Calls Instr.build Instr.makeSlice binSem convert Instr.index Instr.range Instr.next
section
variable {w w' w'' w0 : World} {X : Mc} {N : Nat} {W : List Int} {k : Int} {a : Bool} {t : PT} {l : List Nd} {n : Int} {W0 : List Int} {e : Int}
theorem LM.add (h : LM w w' X N W k a t) (hN : 3 ≤ N ∧ N ≤ 20) (hk : 0 ≤ k ∧ k ≤ 900000) {x : Nat} (hx : x < W.length) (d : Int) : Fn Try.prog 38 #[ptrV X.m, .int .i64 (x : Int), .int .u64 d] w' fun _ w'' => ∃ Y, LM w w'' Y N (W.set x (IntKind.u64.wrap (W.getD x 0 + d))) (k + 1) true t ∧ Y.m = X.m := by
  have hkX : X.s.k = k := congrArg PS.k h.abs
  have hWX : X.s.W = W := congrArg PS.W h.abs
  have hg : X.gs.map absG = none := congrArg PS.gh h.abs
  have hg : X.gs = none := by simpa using hg
  have hroom : Roomy X.s := ⟨by omega, by omega, by rw [h.calm.2]; decide⟩
  have ho : okA X.s (x : Int) := (okA_abs X _).2 (by rw [h.abs]; exact MM_ok hx)
  refine (add_m h.new.ok (by rw [h.c_]; exact cL_right hN.1 hN.2) (by rw [hg]; decide) hroom (x : Int) d).mono ?_
  rintro _ w2 ⟨u, he, -, lv, p⟩
  have hs : addS X.s (x : Int) d = { X.s with W := W.set x (IntKind.u64.wrap (W.getD x 0 + d)), k := k + 1 } := by
    unfold addS
    rw [if_pos ho]
    show tick { X.s with W := X.s.W.set (x : Int).toNat (IntKind.u64.wrap (X.s.W.getD (x : Int).toNat 0 + d)) } _ = _
    rw [hWX, Int.toNat_natCast]
    unfold tick
    show ({ X.s with W := _, k := X.s.k + 1, L := if X.s.on then _ else X.s.L } : MS) = _
    rw [h.calm.1, hkX]; rfl
  refine ⟨u, he, _, ⟨h.new.post p, ?_, by rw [hs]; exact h.calm⟩, rfl⟩
  have e2 := h.abs
  show (⟨X.c, (addS X.s (x : Int) d).W, (addS X.s (x : Int) d).k, (tch X.c X.gs (x : Int)).map absG, true, X.bad || !decide (okA X.s (x : Int)), X.ths.map absT⟩ : PS) = _
  rw [hs, hg, decide_eq_true ho, show X.bad = false from congrArg PS.bad e2, show X.ths.map absT = [t] from congrArg PS.ths e2, h.c_]
  rfl
theorem SameW.ep {W W0 : List Int} (h : SameW W W0) (x : Int) : SameW (W.set 1 x) W0 := ⟨by rw [List.length_set]; exact h.1, fun b h1 h2 => by rw [← h.2 b h1 h2, getD_set_ne' (by omega)]⟩
theorem Bas.bump (h : Bas l n N W0 e W t) (hl : 1 < W.length) {x : Int} (hx : u64R x) : Bas l n N W0 x (W.set 1 x) t :=
  ⟨h.lays, h.same.ep x, fun y hy => by
    rcases List.mem_or_eq_of_mem_set hy with h1 | h1
    · exact h.u y h1
    · rw [h1]; exact hx, getD_set_eq hl x, h.lens⟩
theorem Sett.bump {kk : Nat} (h : Sett l n W t kk) (x : Int) : Sett l n (W.set 1 x) t kk := h.of rfl rfl rfl (getD_set_ne' (by omega) _) (getD_set_ne' (by omega) _)
theorem SI.bump {R : List Int} {pc : Int} {r f1 : Nat} {d : Int} {st : Bool} (h : SI l n N W0 e W t R pc r f1 d st) (hl : 1 < W.length) {x : Int} (hx : u64R x) : SI l n N W0 x (W.set 1 x) t R pc r f1 d true :=
  ⟨h.b.bump hl hx, h.tfs, h.hR, h.r0, h.pcb, h.r4, fun hp => by
    have u := h.run hp
    exact ⟨u.r2, u.r3, u.le, u.tall, u.hgo, u.r5, u.d0, fun hs => (by cases hs), fun k h1 h2 => (u.done k h1 h2).bump x, fun h => by rw [getD_set_ne' (by omega)]; exact u.p2 h, u.p3, fun h => by rw [getD_set_ne' (by omega)]; exact u.p4 h, u.p5, u.p6⟩⟩
theorem Fin'.bump (h : Fin' l n N W0 e W t) (hl : 1 < W.length) {x : Int} (hx : u64R x) : Fin' l n N W0 x (W.set 1 x) t := ⟨h.b.bump hl hx, h.fs, fun k hk => (h.all k hk).bump x, h.ret⟩
/-- while it runs: on (b), at most kb steps of the memory, at most mm steps to come -/
def EpS (w w' : World) (m : Nat) (l : List Nd) (n : Int) (W0 : List Int) (b : Bool) (kb : Int) (mm : Nat) : Prop :=
  ∃ Y W k a t e, LM w w' Y 20 W k a t ∧ Y.m = m ∧ 0 ≤ k ∧ k ≤ kb ∧ ((b = true ∧ ∃ R pc r f1 d st, SI l n 20 W0 e W t R pc r f1 d st ∧ mu l pc r f1 st ≤ mm) ∨ (b = false ∧ Fin' l n 20 W0 e W t))
theorem mu_pos (l : List Nd) {pc : Int} (r f1 : Nat) (st : Bool) (h : 0 ≤ pc ∧ pc ≤ 6) : 0 < mu l pc r f1 st := by
  unfold mu
  have : 0 < (7 - pc).toNat := by omega
  split <;> split <;> omega
theorem EpS.step {m : Nat} {kb : Int} {mm : Nat} (h : EpS w w' m l n W0 true kb mm) (hkb : kb ≤ 100000) :
    Fn Try.prog 36 #[ptrV m, .int .i64 0, .func (.func 37) #[] #[]] w' fun r w'' => ∃ b, r = .bool b ∧ EpS w w'' m l n W0 b (kb + 1) (mm - 1) := by
  obtain ⟨Y, W, k, a, t, e, H, hm, hk0, hk1, (⟨-, R, pc, r, f1, d, st, hS, hmu⟩ | ⟨h, -⟩)⟩ := h
  · have hst := step_si H.new.ok H.calm H.abs hS ⟨hk0, by omega⟩
    rw [hm] at hst
    refine hst.mono ?_
    rintro _ w2 ⟨u, he, W', t', hev, hor⟩
    obtain ⟨Z, H2, hm2⟩ := H.ev hev
    rcases hor with ⟨rfl, hf⟩ | ⟨rfl, R', pc', r', f', d', st', hS', hmu'⟩
    · exact ⟨_, he, false, rfl, Z, W', k + 1, true, t', e, H2, hm2.trans hm, by omega, by omega, .inr ⟨rfl, hf⟩⟩
    · exact ⟨_, he, true, rfl, Z, W', k + 1, true, t', e, H2, hm2.trans hm, by omega, by omega, .inl ⟨rfl, R', pc', r', f', d', st', hS', by omega⟩⟩
  · cases h
theorem EpS.add {m : Nat} {b : Bool} {kb : Int} {mm : Nat} (h : EpS w w' m l n W0 b kb mm) (hkb : kb ≤ 100000) (hl : l.length ≤ 18) :
    Fn Try.prog 38 #[ptrV m, .int .i64 1, .int .u64 1] w' fun _ w'' => EpS w w'' m l n W0 b (kb + 1) 1900 := by
  obtain ⟨Y, W, k, a, t, e, H, hm, hk0, hk1, hor⟩ := h
  have hWl : W.length = 218 := by
    rcases hor with ⟨-, R, pc, r, f1, d, st, hS, -⟩ | ⟨-, hF⟩
    · exact hS.b.wl
    · exact hF.b.wl
  have ha := H.add ⟨by omega, by omega⟩ ⟨hk0, by omega⟩ (x := 1) (by omega) 1
  rw [hm] at ha
  refine ha.mono ?_
  rintro _ w2 ⟨u, he, Z, H2, hm2⟩
  have hx : u64R (IntKind.u64.wrap (W.getD 1 0 + 1)) := by rw [IntKind.wrap_u64]; exact ⟨by omega, by omega⟩
  refine ⟨u, he, Z, _, k + 1, true, t, IntKind.u64.wrap (W.getD 1 0 + 1), H2, hm2, by omega, by omega, ?_⟩
  rcases hor with ⟨hb, R, pc, r, f1, d, st, hS, -⟩ | ⟨hb, hF⟩
  · exact .inl ⟨hb, R, pc, r, f1, d, true, hS.bump (by omega) hx, mu_bd hl hS.r4 hS.pcb⟩
  · exact .inr ⟨hb, hF.bump (by omega) hx⟩
theorem EpS.more {m : Nat} {b : Bool} {kb kb' : Int} {mm mm' : Nat} (h : EpS w w' m l n W0 b kb mm) (h1 : kb ≤ kb') (h2 : mm ≤ mm') : EpS w w' m l n W0 b kb' mm' := by
  obtain ⟨Y, W, k, a, t, e, H, hm, hk0, hk1, hor⟩ := h
  refine ⟨Y, W, k, a, t, e, H, hm, hk0, by omega, ?_⟩
  rcases hor with ⟨hb, R, pc, r, f1, d, st, hS, hmu⟩ | hf
  · exact .inl ⟨hb, R, pc, r, f1, d, st, hS, by omega⟩
  · exact .inr hf
theorem EpS.up {m : Nat} {b : Bool} {kb : Int} {mm : Nat} (h : EpS w w' m l n W0 b kb mm) : Upd [] w w' := by
  obtain ⟨Y, W, k, a, t, e, H, -⟩ := h
  exact H.new.up
end
section
variable {w : World} {v tv : Value} {l : List Nd} {n : Int} {ts : List Int}
set_option maxRecDepth 100000 in
set_option maxHeartbeats 4000000 in
theorem epochs_law (hl : RdNd w v l) (hu : NdU l) (hn : u64R n) (hts : RdK w .i64 tv ts) : Fn Try.prog 9 #[v, .int .u64 n, tv] w fun r w' => r = .bool true ∧ Upd [] w w' := by
  refine fn_enter Try.func9 rfl rfl ?_
  refine cl (laid_c hl hu) ?_
  rintro _ w1 (⟨rfl, hu1, -⟩ | ⟨hP, X, W, k, a, t, rfl, H, hL, hW, hfs, hlens, hk0, hk1⟩)
  · refine ptr_eq0 ?_
    refine cl (lives27 _) ?_
    rintro _ w2 ⟨rfl, hu2⟩
    exact ⟨rfl, hu1.trans hu2⟩
  refine ptr_eq ?_
  have hB : Bas l n 20 W (W.getD 1 0) W t := ⟨hL, .refl _, hW, rfl, hlens⟩
  have h18 := hP.1
  have hWl := hB.wl
  obtain ⟨ta, tc, rfl, htl, htm⟩ := hts.form
  refine len_sl ?_
  refine cd (fun h20 => ?_) (fun h20 => ?_)
  · refine cl (lives27 _) ?_
    rintro _ w2 ⟨rfl, hu2⟩
    exact ⟨rfl, H.new.up.trans hu2⟩
  obtain ⟨th, e1, e2, eth⟩ := H.thr
  refine cl (thread_mm (i := 0) H.new.ok e1 e2) ?_
  rintro _ w1 ⟨rfl, rfl⟩
  refine bs #[.int .u64 n] (fun _ => by kernel_rfl) fun w2 hb2 hu2 hs2 => ?_
  obtain ⟨g, ⟨t1, q1, q2⟩, hpush⟩ := push_si H.new.ok H.abs hfs hB hn
  have q3 : t1 = th := by rw [q1] at e1; exact Option.some.inj e1
  subst q3
  rw [q2]
  refine cl (hpush hu2 (one_rd hb2)) ?_
  rintro _ w3 ⟨t3, hev, hS⟩
  obtain ⟨Y, H3, hm3⟩ := H.ev hev
  have E0 : EpS w w3 X.m l n W true 2000 1900 := ⟨Y, W, k, a, t3, _, H3, hm3, hk0, hk1, .inl ⟨rfl, _, _, _, _, _, _, hS, mu_bd (by omega) hS.r4 hS.pcb⟩⟩
  refine loop_rule [2, 7, 0, 1] [8, 9] (fun vs w' m => ∃ (b : Bool) (i : Nat), vs = [.bool b, .int .i64 (i : Int)] ∧ i ≤ ts.length ∧ m = ts.length - i ∧ EpS w w' X.m l n W b (2000 + 301 * i) 1900) rfl [.bool true, .int .i64 0] ts.length rfl ⟨true, 0, rfl, by omega, rfl, E0.more (by omega) (by omega)⟩ ?_
  rintro _ w4 m ⟨b, i, rfl, hi, rfl, E⟩
  refine len_sl ?_
  refine cd (fun hlt => ?_) (fun hlt => ?_)
  · have hlt : i < ts.length := by omega
    cases b with
    | false =>
      refine loop_rule [7, 0, 1] [8, 11] (fun vs w' m => ∃ (b : Bool) (j : Int), vs = [.bool b, .int .i64 j] ∧ 0 ≤ j ∧ j + m ≤ 1901 ∧ EpS w w' X.m l n W b (10000 + j) m) rfl [.bool false, .int .i64 0] 1901 rfl ⟨false, 0, rfl, by omega, by omega, (E).more (by omega) (by omega)⟩ ?_
      rintro _ w6 m ⟨b, j, rfl, hj0, hjm, E⟩
      refine cY (show j < 20000 by omega) ?_
      cases b with
      | true =>
        refine cl (E.step (by omega)) ?_
        rintro _ w7 ⟨b', rfl, E'⟩
        refine ar64 (by omega) ?_
        by_cases hm0 : m = 0
        · exfalso
          obtain ⟨_, _, _, _, _, _, _, _, _, _, (⟨-, R, pc, r, f1, d, st, hS, hmu⟩ | ⟨h, -⟩)⟩ := E
          · have := mu_pos l r f1 st hS.pcb
            omega
          · cases h
        · exact round_mk [.bool b', .int .i64 (j + 1)] (m - 1) rfl rfl ⟨b', j + 1, rfl, by omega, by omega, E'.more (by omega) (by omega)⟩ (by omega)
      | false =>
        have hl6 := hl.upd0 E.up
        obtain ⟨Y, W', k', a', t', e', HY, hmY, -, -, (⟨h, -⟩ | ⟨-, hF⟩)⟩ := E
        · cases h
        refine cl (laid_c hl6 hu) ?_
        rintro _ w7 (⟨rfl, hu7, hnP⟩ | ⟨-, Xo, Wo, ko, ao, to, rfl, Ho, hLo, hWo, hfso, hlenso, hko0, hko1⟩)
        · exact absurd hP hnP
        refine ptr_eq ?_
        have hBo : Bas l n 20 Wo (Wo.getD 1 0) Wo to := ⟨hLo, .refl _, hWo, rfl, hlenso⟩
        refine cl (seek_c Ho.new.ok Ho.calm Ho.abs hfso hBo hn ⟨by omega, by omega⟩) ?_
        rintro _ w8 ⟨rfl, Wp, kp, tp, hevp, hFp, hkp2, hkp3⟩
        obtain ⟨Yo, Hp, hmp⟩ := Ho.ev hevp
        have H8 := HY.upd0 Hp.new.up
        obtain ⟨th, e1, e2, eth⟩ := H8.thr
        obtain ⟨sh, f1, f2, esh⟩ := Hp.thr
        have htm := thread_mm (i := 0) H8.new.ok e1 e2
        rw [hmY] at htm
        refine cl htm ?_
        rintro _ w8 ⟨rfl, rfl⟩
        have hsm := thread_mm (i := 0) Hp.new.ok f1 f2
        rw [hmp] at hsm
        refine cl hsm ?_
        rintro _ w8 ⟨rfl, rfl⟩
        have hbt := (H8.new.ok.core e1).blk
        have hbs := (Hp.new.ok.core f1).blk
        obtain ⟨l1, l2, l3⟩ := hF.b.lens
        rw [← eth, absT_P] at l1
        rw [← eth, absT_S] at l2
        rw [← eth, absT_W] at l3
        obtain ⟨m1, m2, m3⟩ := hFp.b.lens
        rw [← esh, absT_P] at m1
        rw [← esh, absT_S] at m2
        rw [← esh, absT_W] at m3
        have ep1 := H8.new.ok.pv_ e1
        have ep2 := H8.new.ok.sv_ e1
        have ep3 := H8.new.ok.wv_ e1
        have fp1 := Hp.new.ok.pv_ f1
        have fp2 := Hp.new.ok.sv_ f1
        have fp3 := Hp.new.ok.wv_ f1
        obtain ⟨b1, o1, c1, hv1, -⟩ := slot_at ep1 l1
        obtain ⟨b2, o2, c2, hv2, -⟩ := slot_at ep2 l2
        obtain ⟨b3, o3, c3, hv3, -⟩ := slot_at ep3 l3
        obtain ⟨b4, o4, c4, hv4, -⟩ := slot_at fp1 m1
        obtain ⟨b5, o5, c5, hv5, -⟩ := slot_at fp2 m2
        obtain ⟨b6, o6, c6, hv6, -⟩ := slot_at fp3 m3
        have hr1 : th.r = ((endK l n 0).2, (0 : Int), (0 : Int)) := by
          have : (absT th).r = ((endK l n 0).2, (0 : Int), (0 : Int)) := by rw [eth]; exact hF.ret
          exact this
        have hr2 : sh.r = ((endK l n 0).2, (0 : Int), (0 : Int)) := by
          have : (absT sh).r = ((endK l n 0).2, (0 : Int), (0 : Int)) := by rw [esh]; exact hFp.ret
          exact this
        rw [hv1, hv2, hv3, hr1] at hbt
        rw [hv4, hv5, hv6, hr2] at hbs
        rw [hv1, l1] at ep1
        rw [hv2, l2] at ep2
        rw [hv3, l3] at ep3
        rw [hv4, m1] at fp1
        rw [hv5, m2] at fp2
        rw [hv6, m3] at fp3
        refine loop_rule [13, 14, 7] [15] (fun vs w' m => ∃ kk : Nat, vs = [.int .i64 (kk : Int)] ∧ kk ≤ 4 ∧ m = 4 - kk ∧ Upd [] w8 w') rfl [.int .i64 0] 4 rfl ⟨0, rfl, by omega, rfl, .refl _ _⟩ ?_
        rintro _ w9 m ⟨kk, rfl, hkk, rfl, hu9⟩
        have hbt9 := hbt.upd hu9 (by simp)
        have hbs9 := hbs.upd hu9 (by simp)
        refine cd (fun hk4 => ?_) (fun hk4 => ?_)
        · have hk4 : kk < 4 := by omega
          obtain ⟨S0, S1, S2, -, -⟩ := hF.all kk hk4
          obtain ⟨T0, T1, T2, -, -⟩ := hFp.all kk hk4
          rw [← eth, absT_P] at S0
          rw [← eth, absT_S] at S1
          rw [← eth, absT_W] at S2
          rw [← esh, absT_P] at T0
          rw [← esh, absT_S] at T1
          rw [← esh, absT_W] at T2
          generalize predN (endK l n kk).1 = pn at *
          generalize nodeN l (nx l kk (endK l n kk).1) = sn at *
          generalize wd l kk (endK l n kk).1 = wn at *
          have gd : ∀ {b o c : Nat} {L : List Int} {x : Int}, Sl w8 47 1 (.slice (some ⟨b, o, none⟩) 4 c) 4 (L.map (.int .u64)) → L.length = 4 → L.getD kk 0 = x → ∀ w', Upd [] w9 w' → w'.cell? ⟨b, o + kk * 1, none⟩ = some (.int .u64 x) := fun {b o c L x} hs hL hx w' hw' => by
            have h1 := hs.upd (hu9.trans hw') (by simp)
            have h2 : Sl w' 47 1 (.slice (some ⟨b, o, none⟩) 4 c) L.length (L.map (.int .u64)) := by rw [hL]; exact h1
            have := h2.getD_ (by rw [hL]) kk (by omega)
            rw [hx] at this
            exact this
          refine draw_all (fun w' => Upd [] w9 w') (by decide +kernel) (Upd.refl [] w9).drew ?_
          refine q_fa ?_
          refine q_ld (v := .slice (some ⟨b1, o1, none⟩) 4 c1) (fun w' hw' => by rw [(hbt9.upd hw' (by simp)).cell]; rfl) ?_
          refine q_ix kk rfl hk4 ?_
          refine q_ld (v := .int .u64 pn) (fun w' hw' => gd ep1 l1 S0 w' hw') ?_
          refine q_fa ?_
          refine q_ld (v := .slice (some ⟨b4, o4, none⟩) 4 c4) (fun w' hw' => by rw [(hbs9.upd hw' (by simp)).cell]; rfl) ?_
          refine q_ix kk rfl hk4 ?_
          refine q_ld (v := .int .u64 pn) (fun w' hw' => gd fp1 m1 T0 w' hw') ?_
          refine cN (fun h => h rfl) ?_
          refine q_fa ?_
          refine q_ld (v := .slice (some ⟨b2, o2, none⟩) 4 c2) (fun w' hw' => by rw [(hbt9.upd hw' (by simp)).cell]; rfl) ?_
          refine q_ix kk rfl hk4 ?_
          refine q_ld (v := .int .u64 sn) (fun w' hw' => gd ep2 l2 S1 w' hw') ?_
          refine q_fa ?_
          refine q_ld (v := .slice (some ⟨b5, o5, none⟩) 4 c5) (fun w' hw' => by rw [(hbs9.upd hw' (by simp)).cell]; rfl) ?_
          refine q_ix kk rfl hk4 ?_
          refine q_ld (v := .int .u64 sn) (fun w' hw' => gd fp2 m2 T1 w' hw') ?_
          refine cN (fun h => h rfl) ?_
          refine q_fa ?_
          refine q_ld (v := .slice (some ⟨b3, o3, none⟩) 4 c3) (fun w' hw' => by rw [(hbt9.upd hw' (by simp)).cell]; rfl) ?_
          refine q_ix kk rfl hk4 ?_
          refine q_ld (v := .int .u64 wn) (fun w' hw' => gd ep3 l3 S2 w' hw') ?_
          refine q_fa ?_
          refine q_ld (v := .slice (some ⟨b6, o6, none⟩) 4 c6) (fun w' hw' => by rw [(hbs9.upd hw' (by simp)).cell]; rfl) ?_
          refine q_ix kk rfl hk4 ?_
          refine q_ld (v := .int .u64 wn) (fun w' hw' => gd fp3 m3 T2 w' hw') ?_
          intro wa hwa
          refine cN (fun h => h rfl) ?_
          refine ar64 (by omega) ?_
          exact round_mk [.int .i64 ((kk + 1 : Nat) : Int)] (4 - (kk + 1)) rfl rfl ⟨kk + 1, rfl, by omega, rfl, hu9.trans hwa⟩ (by omega)
        · have H9 := H8.upd0 hu9
          generalize (endK l n 0).2 = dn at *
          refine draw_all (fun w' => Upd [] w9 w') (by decide +kernel) (Upd.refl [] w9).drew ?_
          refine q_fa ?_
          refine q_ixA 0 rfl (by omega) ?_
          refine q_ld (v := .int .u64 dn) (fun w' hw' => by rw [(hbt9.upd hw' (by simp)).cell]; rfl) ?_
          refine q_fa ?_
          refine q_ixA 0 rfl (by omega) ?_
          refine q_ld (v := .int .u64 dn) (fun w' hw' => by rw [(hbs9.upd hw' (by simp)).cell]; rfl) ?_
          refine cY rfl ?_
          refine q_cl (.bool false) (fun w' hw' => by
            have hf := fault_mm (H9.upd0 hw').new.ok
            obtain ⟨tz, -, -, hg, hbad⟩ := abs_one H9.abs
            rw [hg, hbad, hmY] at hf
            exact hf.mono fun _ _ ⟨u, he, h1, h2⟩ => ⟨u, he, h1, hw'.trans h2⟩) ?_
          refine q_cl (.bool true) (fun w' hw' => (lives27 w').mono fun _ _ ⟨u, he, h1, h2⟩ => ⟨u, he, h1, hw'.trans h2⟩) ?_
          intro wa hwa
          refine ⟨?_, H9.new.up.trans hwa⟩
          show Value.bool _ = _
          simp
    | true =>
      obtain ⟨M, hM, hM2⟩ : ∃ M : Int, (if (300 : Int) < ts.getD i 0 then 300 else ts.getD i 0) = M ∧ M ≤ 300 := ⟨_, rfl, by split <;> omega⟩
      obtain ⟨L, hLm, hL0, hL3⟩ : ∃ L : Int, (if M > 0 then M else 0) = L ∧ 0 ≤ L ∧ L ≤ 300 := ⟨_, rfl, by split <;> omega, by split <;> omega⟩
      refine loop_rule [2, 7, 0, 1, 9] [8, 10] (fun vs w' m => ∃ (b : Bool) (j : Nat), vs = [.bool b, .int .i64 (j : Int)] ∧ (j : Int) ≤ L ∧ m = L.toNat - j ∧ EpS w w' X.m l n W b (2000 + 301 * i + j) 1900) rfl [.bool true, .int .i64 0] L.toNat rfl ⟨true, 0, rfl, by omega, rfl, E.more (by omega) (by omega)⟩ ?_
      rintro _ w5 m ⟨b, j, rfl, hj, rfl, E5⟩
      have hts5 := hts.upd0 E5.up
      obtain ⟨tb, to_, tc2, he, -⟩ := hts5.some_ (by omega)
      cases he
      refine ix i rfl hlt ?_
      refine ld (v := .int .i64 (ts.getD i 0)) (hts5.at_ rfl i hlt) ?_
      refine mn2 ?_
      refine val M hM ?_
      refine mx2 ?_
      refine val L hLm ?_
      cases b with
      | true =>
        refine cd (fun hjL => ?_) (fun hjL => ?_)
        · refine cl (E5.step (by omega)) ?_
          rintro _ w6 ⟨b', rfl, E6⟩
          refine ar64 (by omega) ?_
          exact round_mk [.bool b', .int .i64 ((j + 1 : Nat) : Int)] (L.toNat - (j + 1)) rfl rfl ⟨b', j + 1, rfl, by omega, rfl, E6.more (by omega) (by omega)⟩ (by omega)
        · refine cl (E5.add (by omega) (by omega)) ?_
          rintro _ w6 E6
          refine ar64 (by omega) ?_
          exact round_mk [.bool _, .int .i64 ((i + 1 : Nat) : Int)] (ts.length - (i + 1)) rfl rfl ⟨_, i + 1, rfl, by omega, rfl, E6.more (by omega) (by omega)⟩ (by omega)
      | false =>
        refine cd (fun hjL => ?_) (fun hjL => ?_)
        · refine cl (E5.add (by omega) (by omega)) ?_
          rintro _ w6 E6
          refine ar64 (by omega) ?_
          exact round_mk [.bool _, .int .i64 ((i + 1 : Nat) : Int)] (ts.length - (i + 1)) rfl rfl ⟨_, i + 1, rfl, by omega, rfl, E6.more (by omega) (by omega)⟩ (by omega)
        · refine cl (E5.add (by omega) (by omega)) ?_
          rintro _ w6 E6
          refine ar64 (by omega) ?_
          exact round_mk [.bool _, .int .i64 ((i + 1 : Nat) : Int)] (ts.length - (i + 1)) rfl rfl ⟨_, i + 1, rfl, by omega, rfl, E6.more (by omega) (by omega)⟩ (by omega)
  · cases b with
    | false =>
      refine loop_rule [7, 0, 1] [8, 11] (fun vs w' m => ∃ (b : Bool) (j : Int), vs = [.bool b, .int .i64 j] ∧ 0 ≤ j ∧ j + m ≤ 1901 ∧ EpS w w' X.m l n W b (10000 + j) m) rfl [.bool false, .int .i64 0] 1901 rfl ⟨false, 0, rfl, by omega, by omega, (E).more (by omega) (by omega)⟩ ?_
      rintro _ w6 m ⟨b, j, rfl, hj0, hjm, E⟩
      refine cY (show j < 20000 by omega) ?_
      cases b with
      | true =>
        refine cl (E.step (by omega)) ?_
        rintro _ w7 ⟨b', rfl, E'⟩
        refine ar64 (by omega) ?_
        by_cases hm0 : m = 0
        · exfalso
          obtain ⟨_, _, _, _, _, _, _, _, _, _, (⟨-, R, pc, r, f1, d, st, hS, hmu⟩ | ⟨h, -⟩)⟩ := E
          · have := mu_pos l r f1 st hS.pcb
            omega
          · cases h
        · exact round_mk [.bool b', .int .i64 (j + 1)] (m - 1) rfl rfl ⟨b', j + 1, rfl, by omega, by omega, E'.more (by omega) (by omega)⟩ (by omega)
      | false =>
        have hl6 := hl.upd0 E.up
        obtain ⟨Y, W', k', a', t', e', HY, hmY, -, -, (⟨h, -⟩ | ⟨-, hF⟩)⟩ := E
        · cases h
        refine cl (laid_c hl6 hu) ?_
        rintro _ w7 (⟨rfl, hu7, hnP⟩ | ⟨-, Xo, Wo, ko, ao, to, rfl, Ho, hLo, hWo, hfso, hlenso, hko0, hko1⟩)
        · exact absurd hP hnP
        refine ptr_eq ?_
        have hBo : Bas l n 20 Wo (Wo.getD 1 0) Wo to := ⟨hLo, .refl _, hWo, rfl, hlenso⟩
        refine cl (seek_c Ho.new.ok Ho.calm Ho.abs hfso hBo hn ⟨by omega, by omega⟩) ?_
        rintro _ w8 ⟨rfl, Wp, kp, tp, hevp, hFp, hkp2, hkp3⟩
        obtain ⟨Yo, Hp, hmp⟩ := Ho.ev hevp
        have H8 := HY.upd0 Hp.new.up
        obtain ⟨th, e1, e2, eth⟩ := H8.thr
        obtain ⟨sh, f1, f2, esh⟩ := Hp.thr
        have htm := thread_mm (i := 0) H8.new.ok e1 e2
        rw [hmY] at htm
        refine cl htm ?_
        rintro _ w8 ⟨rfl, rfl⟩
        have hsm := thread_mm (i := 0) Hp.new.ok f1 f2
        rw [hmp] at hsm
        refine cl hsm ?_
        rintro _ w8 ⟨rfl, rfl⟩
        have hbt := (H8.new.ok.core e1).blk
        have hbs := (Hp.new.ok.core f1).blk
        obtain ⟨l1, l2, l3⟩ := hF.b.lens
        rw [← eth, absT_P] at l1
        rw [← eth, absT_S] at l2
        rw [← eth, absT_W] at l3
        obtain ⟨m1, m2, m3⟩ := hFp.b.lens
        rw [← esh, absT_P] at m1
        rw [← esh, absT_S] at m2
        rw [← esh, absT_W] at m3
        have ep1 := H8.new.ok.pv_ e1
        have ep2 := H8.new.ok.sv_ e1
        have ep3 := H8.new.ok.wv_ e1
        have fp1 := Hp.new.ok.pv_ f1
        have fp2 := Hp.new.ok.sv_ f1
        have fp3 := Hp.new.ok.wv_ f1
        obtain ⟨b1, o1, c1, hv1, -⟩ := slot_at ep1 l1
        obtain ⟨b2, o2, c2, hv2, -⟩ := slot_at ep2 l2
        obtain ⟨b3, o3, c3, hv3, -⟩ := slot_at ep3 l3
        obtain ⟨b4, o4, c4, hv4, -⟩ := slot_at fp1 m1
        obtain ⟨b5, o5, c5, hv5, -⟩ := slot_at fp2 m2
        obtain ⟨b6, o6, c6, hv6, -⟩ := slot_at fp3 m3
        have hr1 : th.r = ((endK l n 0).2, (0 : Int), (0 : Int)) := by
          have : (absT th).r = ((endK l n 0).2, (0 : Int), (0 : Int)) := by rw [eth]; exact hF.ret
          exact this
        have hr2 : sh.r = ((endK l n 0).2, (0 : Int), (0 : Int)) := by
          have : (absT sh).r = ((endK l n 0).2, (0 : Int), (0 : Int)) := by rw [esh]; exact hFp.ret
          exact this
        rw [hv1, hv2, hv3, hr1] at hbt
        rw [hv4, hv5, hv6, hr2] at hbs
        rw [hv1, l1] at ep1
        rw [hv2, l2] at ep2
        rw [hv3, l3] at ep3
        rw [hv4, m1] at fp1
        rw [hv5, m2] at fp2
        rw [hv6, m3] at fp3
        refine loop_rule [13, 14, 7] [15] (fun vs w' m => ∃ kk : Nat, vs = [.int .i64 (kk : Int)] ∧ kk ≤ 4 ∧ m = 4 - kk ∧ Upd [] w8 w') rfl [.int .i64 0] 4 rfl ⟨0, rfl, by omega, rfl, .refl _ _⟩ ?_
        rintro _ w9 m ⟨kk, rfl, hkk, rfl, hu9⟩
        have hbt9 := hbt.upd hu9 (by simp)
        have hbs9 := hbs.upd hu9 (by simp)
        refine cd (fun hk4 => ?_) (fun hk4 => ?_)
        · have hk4 : kk < 4 := by omega
          obtain ⟨S0, S1, S2, -, -⟩ := hF.all kk hk4
          obtain ⟨T0, T1, T2, -, -⟩ := hFp.all kk hk4
          rw [← eth, absT_P] at S0
          rw [← eth, absT_S] at S1
          rw [← eth, absT_W] at S2
          rw [← esh, absT_P] at T0
          rw [← esh, absT_S] at T1
          rw [← esh, absT_W] at T2
          generalize predN (endK l n kk).1 = pn at *
          generalize nodeN l (nx l kk (endK l n kk).1) = sn at *
          generalize wd l kk (endK l n kk).1 = wn at *
          have gd : ∀ {b o c : Nat} {L : List Int} {x : Int}, Sl w8 47 1 (.slice (some ⟨b, o, none⟩) 4 c) 4 (L.map (.int .u64)) → L.length = 4 → L.getD kk 0 = x → ∀ w', Upd [] w9 w' → w'.cell? ⟨b, o + kk * 1, none⟩ = some (.int .u64 x) := fun {b o c L x} hs hL hx w' hw' => by
            have h1 := hs.upd (hu9.trans hw') (by simp)
            have h2 : Sl w' 47 1 (.slice (some ⟨b, o, none⟩) 4 c) L.length (L.map (.int .u64)) := by rw [hL]; exact h1
            have := h2.getD_ (by rw [hL]) kk (by omega)
            rw [hx] at this
            exact this
          refine draw_all (fun w' => Upd [] w9 w') (by decide +kernel) (Upd.refl [] w9).drew ?_
          refine q_fa ?_
          refine q_ld (v := .slice (some ⟨b1, o1, none⟩) 4 c1) (fun w' hw' => by rw [(hbt9.upd hw' (by simp)).cell]; rfl) ?_
          refine q_ix kk rfl hk4 ?_
          refine q_ld (v := .int .u64 pn) (fun w' hw' => gd ep1 l1 S0 w' hw') ?_
          refine q_fa ?_
          refine q_ld (v := .slice (some ⟨b4, o4, none⟩) 4 c4) (fun w' hw' => by rw [(hbs9.upd hw' (by simp)).cell]; rfl) ?_
          refine q_ix kk rfl hk4 ?_
          refine q_ld (v := .int .u64 pn) (fun w' hw' => gd fp1 m1 T0 w' hw') ?_
          refine cN (fun h => h rfl) ?_
          refine q_fa ?_
          refine q_ld (v := .slice (some ⟨b2, o2, none⟩) 4 c2) (fun w' hw' => by rw [(hbt9.upd hw' (by simp)).cell]; rfl) ?_
          refine q_ix kk rfl hk4 ?_
          refine q_ld (v := .int .u64 sn) (fun w' hw' => gd ep2 l2 S1 w' hw') ?_
          refine q_fa ?_
          refine q_ld (v := .slice (some ⟨b5, o5, none⟩) 4 c5) (fun w' hw' => by rw [(hbs9.upd hw' (by simp)).cell]; rfl) ?_
          refine q_ix kk rfl hk4 ?_
          refine q_ld (v := .int .u64 sn) (fun w' hw' => gd fp2 m2 T1 w' hw') ?_
          refine cN (fun h => h rfl) ?_
          refine q_fa ?_
          refine q_ld (v := .slice (some ⟨b3, o3, none⟩) 4 c3) (fun w' hw' => by rw [(hbt9.upd hw' (by simp)).cell]; rfl) ?_
          refine q_ix kk rfl hk4 ?_
          refine q_ld (v := .int .u64 wn) (fun w' hw' => gd ep3 l3 S2 w' hw') ?_
          refine q_fa ?_
          refine q_ld (v := .slice (some ⟨b6, o6, none⟩) 4 c6) (fun w' hw' => by rw [(hbs9.upd hw' (by simp)).cell]; rfl) ?_
          refine q_ix kk rfl hk4 ?_
          refine q_ld (v := .int .u64 wn) (fun w' hw' => gd fp3 m3 T2 w' hw') ?_
          intro wa hwa
          refine cN (fun h => h rfl) ?_
          refine ar64 (by omega) ?_
          exact round_mk [.int .i64 ((kk + 1 : Nat) : Int)] (4 - (kk + 1)) rfl rfl ⟨kk + 1, rfl, by omega, rfl, hu9.trans hwa⟩ (by omega)
        · have H9 := H8.upd0 hu9
          generalize (endK l n 0).2 = dn at *
          refine draw_all (fun w' => Upd [] w9 w') (by decide +kernel) (Upd.refl [] w9).drew ?_
          refine q_fa ?_
          refine q_ixA 0 rfl (by omega) ?_
          refine q_ld (v := .int .u64 dn) (fun w' hw' => by rw [(hbt9.upd hw' (by simp)).cell]; rfl) ?_
          refine q_fa ?_
          refine q_ixA 0 rfl (by omega) ?_
          refine q_ld (v := .int .u64 dn) (fun w' hw' => by rw [(hbs9.upd hw' (by simp)).cell]; rfl) ?_
          refine cY rfl ?_
          refine q_cl (.bool false) (fun w' hw' => by
            have hf := fault_mm (H9.upd0 hw').new.ok
            obtain ⟨tz, -, -, hg, hbad⟩ := abs_one H9.abs
            rw [hg, hbad, hmY] at hf
            exact hf.mono fun _ _ ⟨u, he, h1, h2⟩ => ⟨u, he, h1, hw'.trans h2⟩) ?_
          refine q_cl (.bool true) (fun w' hw' => (lives27 w').mono fun _ _ ⟨u, he, h1, h2⟩ => ⟨u, he, h1, hw'.trans h2⟩) ?_
          intro wa hwa
          refine ⟨?_, H9.new.up.trans hwa⟩
          show Value.bool _ = _
          simp
    | true =>
      refine loop_rule [7, 0, 1] [8, 11] (fun vs w' m => ∃ (b : Bool) (j : Int), vs = [.bool b, .int .i64 j] ∧ 0 ≤ j ∧ j + m ≤ 1901 ∧ EpS w w' X.m l n W b (10000 + j) m) rfl [.bool true, .int .i64 0] 1901 rfl ⟨true, 0, rfl, by omega, by omega, (E).more (by omega) (by omega)⟩ ?_
      rintro _ w6 m ⟨b, j, rfl, hj0, hjm, E⟩
      refine cY (show j < 20000 by omega) ?_
      cases b with
      | true =>
        refine cl (E.step (by omega)) ?_
        rintro _ w7 ⟨b', rfl, E'⟩
        refine ar64 (by omega) ?_
        by_cases hm0 : m = 0
        · exfalso
          obtain ⟨_, _, _, _, _, _, _, _, _, _, (⟨-, R, pc, r, f1, d, st, hS, hmu⟩ | ⟨h, -⟩)⟩ := E
          · have := mu_pos l r f1 st hS.pcb
            omega
          · cases h
        · exact round_mk [.bool b', .int .i64 (j + 1)] (m - 1) rfl rfl ⟨b', j + 1, rfl, by omega, by omega, E'.more (by omega) (by omega)⟩ (by omega)
      | false =>
        have hl6 := hl.upd0 E.up
        obtain ⟨Y, W', k', a', t', e', HY, hmY, -, -, (⟨h, -⟩ | ⟨-, hF⟩)⟩ := E
        · cases h
        refine cl (laid_c hl6 hu) ?_
        rintro _ w7 (⟨rfl, hu7, hnP⟩ | ⟨-, Xo, Wo, ko, ao, to, rfl, Ho, hLo, hWo, hfso, hlenso, hko0, hko1⟩)
        · exact absurd hP hnP
        refine ptr_eq ?_
        have hBo : Bas l n 20 Wo (Wo.getD 1 0) Wo to := ⟨hLo, .refl _, hWo, rfl, hlenso⟩
        refine cl (seek_c Ho.new.ok Ho.calm Ho.abs hfso hBo hn ⟨by omega, by omega⟩) ?_
        rintro _ w8 ⟨rfl, Wp, kp, tp, hevp, hFp, hkp2, hkp3⟩
        obtain ⟨Yo, Hp, hmp⟩ := Ho.ev hevp
        have H8 := HY.upd0 Hp.new.up
        obtain ⟨th, e1, e2, eth⟩ := H8.thr
        obtain ⟨sh, f1, f2, esh⟩ := Hp.thr
        have htm := thread_mm (i := 0) H8.new.ok e1 e2
        rw [hmY] at htm
        refine cl htm ?_
        rintro _ w8 ⟨rfl, rfl⟩
        have hsm := thread_mm (i := 0) Hp.new.ok f1 f2
        rw [hmp] at hsm
        refine cl hsm ?_
        rintro _ w8 ⟨rfl, rfl⟩
        have hbt := (H8.new.ok.core e1).blk
        have hbs := (Hp.new.ok.core f1).blk
        obtain ⟨l1, l2, l3⟩ := hF.b.lens
        rw [← eth, absT_P] at l1
        rw [← eth, absT_S] at l2
        rw [← eth, absT_W] at l3
        obtain ⟨m1, m2, m3⟩ := hFp.b.lens
        rw [← esh, absT_P] at m1
        rw [← esh, absT_S] at m2
        rw [← esh, absT_W] at m3
        have ep1 := H8.new.ok.pv_ e1
        have ep2 := H8.new.ok.sv_ e1
        have ep3 := H8.new.ok.wv_ e1
        have fp1 := Hp.new.ok.pv_ f1
        have fp2 := Hp.new.ok.sv_ f1
        have fp3 := Hp.new.ok.wv_ f1
        obtain ⟨b1, o1, c1, hv1, -⟩ := slot_at ep1 l1
        obtain ⟨b2, o2, c2, hv2, -⟩ := slot_at ep2 l2
        obtain ⟨b3, o3, c3, hv3, -⟩ := slot_at ep3 l3
        obtain ⟨b4, o4, c4, hv4, -⟩ := slot_at fp1 m1
        obtain ⟨b5, o5, c5, hv5, -⟩ := slot_at fp2 m2
        obtain ⟨b6, o6, c6, hv6, -⟩ := slot_at fp3 m3
        have hr1 : th.r = ((endK l n 0).2, (0 : Int), (0 : Int)) := by
          have : (absT th).r = ((endK l n 0).2, (0 : Int), (0 : Int)) := by rw [eth]; exact hF.ret
          exact this
        have hr2 : sh.r = ((endK l n 0).2, (0 : Int), (0 : Int)) := by
          have : (absT sh).r = ((endK l n 0).2, (0 : Int), (0 : Int)) := by rw [esh]; exact hFp.ret
          exact this
        rw [hv1, hv2, hv3, hr1] at hbt
        rw [hv4, hv5, hv6, hr2] at hbs
        rw [hv1, l1] at ep1
        rw [hv2, l2] at ep2
        rw [hv3, l3] at ep3
        rw [hv4, m1] at fp1
        rw [hv5, m2] at fp2
        rw [hv6, m3] at fp3
        refine loop_rule [13, 14, 7] [15] (fun vs w' m => ∃ kk : Nat, vs = [.int .i64 (kk : Int)] ∧ kk ≤ 4 ∧ m = 4 - kk ∧ Upd [] w8 w') rfl [.int .i64 0] 4 rfl ⟨0, rfl, by omega, rfl, .refl _ _⟩ ?_
        rintro _ w9 m ⟨kk, rfl, hkk, rfl, hu9⟩
        have hbt9 := hbt.upd hu9 (by simp)
        have hbs9 := hbs.upd hu9 (by simp)
        refine cd (fun hk4 => ?_) (fun hk4 => ?_)
        · have hk4 : kk < 4 := by omega
          obtain ⟨S0, S1, S2, -, -⟩ := hF.all kk hk4
          obtain ⟨T0, T1, T2, -, -⟩ := hFp.all kk hk4
          rw [← eth, absT_P] at S0
          rw [← eth, absT_S] at S1
          rw [← eth, absT_W] at S2
          rw [← esh, absT_P] at T0
          rw [← esh, absT_S] at T1
          rw [← esh, absT_W] at T2
          generalize predN (endK l n kk).1 = pn at *
          generalize nodeN l (nx l kk (endK l n kk).1) = sn at *
          generalize wd l kk (endK l n kk).1 = wn at *
          have gd : ∀ {b o c : Nat} {L : List Int} {x : Int}, Sl w8 47 1 (.slice (some ⟨b, o, none⟩) 4 c) 4 (L.map (.int .u64)) → L.length = 4 → L.getD kk 0 = x → ∀ w', Upd [] w9 w' → w'.cell? ⟨b, o + kk * 1, none⟩ = some (.int .u64 x) := fun {b o c L x} hs hL hx w' hw' => by
            have h1 := hs.upd (hu9.trans hw') (by simp)
            have h2 : Sl w' 47 1 (.slice (some ⟨b, o, none⟩) 4 c) L.length (L.map (.int .u64)) := by rw [hL]; exact h1
            have := h2.getD_ (by rw [hL]) kk (by omega)
            rw [hx] at this
            exact this
          refine draw_all (fun w' => Upd [] w9 w') (by decide +kernel) (Upd.refl [] w9).drew ?_
          refine q_fa ?_
          refine q_ld (v := .slice (some ⟨b1, o1, none⟩) 4 c1) (fun w' hw' => by rw [(hbt9.upd hw' (by simp)).cell]; rfl) ?_
          refine q_ix kk rfl hk4 ?_
          refine q_ld (v := .int .u64 pn) (fun w' hw' => gd ep1 l1 S0 w' hw') ?_
          refine q_fa ?_
          refine q_ld (v := .slice (some ⟨b4, o4, none⟩) 4 c4) (fun w' hw' => by rw [(hbs9.upd hw' (by simp)).cell]; rfl) ?_
          refine q_ix kk rfl hk4 ?_
          refine q_ld (v := .int .u64 pn) (fun w' hw' => gd fp1 m1 T0 w' hw') ?_
          refine cN (fun h => h rfl) ?_
          refine q_fa ?_
          refine q_ld (v := .slice (some ⟨b2, o2, none⟩) 4 c2) (fun w' hw' => by rw [(hbt9.upd hw' (by simp)).cell]; rfl) ?_
          refine q_ix kk rfl hk4 ?_
          refine q_ld (v := .int .u64 sn) (fun w' hw' => gd ep2 l2 S1 w' hw') ?_
          refine q_fa ?_
          refine q_ld (v := .slice (some ⟨b5, o5, none⟩) 4 c5) (fun w' hw' => by rw [(hbs9.upd hw' (by simp)).cell]; rfl) ?_
          refine q_ix kk rfl hk4 ?_
          refine q_ld (v := .int .u64 sn) (fun w' hw' => gd fp2 m2 T1 w' hw') ?_
          refine cN (fun h => h rfl) ?_
          refine q_fa ?_
          refine q_ld (v := .slice (some ⟨b3, o3, none⟩) 4 c3) (fun w' hw' => by rw [(hbt9.upd hw' (by simp)).cell]; rfl) ?_
          refine q_ix kk rfl hk4 ?_
          refine q_ld (v := .int .u64 wn) (fun w' hw' => gd ep3 l3 S2 w' hw') ?_
          refine q_fa ?_
          refine q_ld (v := .slice (some ⟨b6, o6, none⟩) 4 c6) (fun w' hw' => by rw [(hbs9.upd hw' (by simp)).cell]; rfl) ?_
          refine q_ix kk rfl hk4 ?_
          refine q_ld (v := .int .u64 wn) (fun w' hw' => gd fp3 m3 T2 w' hw') ?_
          intro wa hwa
          refine cN (fun h => h rfl) ?_
          refine ar64 (by omega) ?_
          exact round_mk [.int .i64 ((kk + 1 : Nat) : Int)] (4 - (kk + 1)) rfl rfl ⟨kk + 1, rfl, by omega, rfl, hu9.trans hwa⟩ (by omega)
        · have H9 := H8.upd0 hu9
          generalize (endK l n 0).2 = dn at *
          refine draw_all (fun w' => Upd [] w9 w') (by decide +kernel) (Upd.refl [] w9).drew ?_
          refine q_fa ?_
          refine q_ixA 0 rfl (by omega) ?_
          refine q_ld (v := .int .u64 dn) (fun w' hw' => by rw [(hbt9.upd hw' (by simp)).cell]; rfl) ?_
          refine q_fa ?_
          refine q_ixA 0 rfl (by omega) ?_
          refine q_ld (v := .int .u64 dn) (fun w' hw' => by rw [(hbs9.upd hw' (by simp)).cell]; rfl) ?_
          refine cY rfl ?_
          refine q_cl (.bool false) (fun w' hw' => by
            have hf := fault_mm (H9.upd0 hw').new.ok
            obtain ⟨tz, -, -, hg, hbad⟩ := abs_one H9.abs
            rw [hg, hbad, hmY] at hf
            exact hf.mono fun _ _ ⟨u, he, h1, h2⟩ => ⟨u, he, h1, hw'.trans h2⟩) ?_
          refine q_cl (.bool true) (fun w' hw' => (lives27 w').mono fun _ _ ⟨u, he, h1, h2⟩ => ⟨u, he, h1, hw'.trans h2⟩) ?_
          intro wa hwa
          refine ⟨?_, H9.new.up.trans hwa⟩
          show Value.bool _ = _
          simp
end
theorem LocateEpochs_walk (w : World) (v : Value) (l : List Nd) (h : RdNd w v l) (hu : NdU l) (n : Int) (hn : (Lit.int .u64 n).wf) (v2 : Value) (l2 : List (List Int)) (h2 : SlRows w w.heap.size [.i64] v2 l2) :
    Calls Try.prog 9 #[v, .int .u64 n, v2] w fun e w' => e = .returned (.bool true) ∧ Below w.heap.size w w' := by
  have h0 : IntKind.u64.min ≤ n ∧ n ≤ IntKind.u64.max := by simpa [Lit.wf] using hn
  exact (epochs_law h hu h0 (RdK.of_ints h2.ints (Nat.le_refl _))).mono fun _ _ ⟨_, he, hr, hup⟩ => ⟨by rw [he, hr], hup.below⟩
end Go.Proofs.Ytbnbbafffihapaa

