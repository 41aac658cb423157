/- Joined: Tk. -/
import Derived.Test.YtbnbbafffihapaaJ13
/- The law FindCuts: its walk. -/
namespace Go.Proofs.Ytbnbbafffihapaa
open Go.RowKit
attribute [local irreducible] Instr.loadAt Instr.storeAt Instr.fieldAt Instr.indexAt Instr.sliceAt Instr.buildSlice Instr.box Instr.alloc Builtin.append_ Builtin.len_ Builtin.min_ Builtin.max_ Calls Instr.build Instr.makeSlice binSem convert Instr.index Instr.range Instr.next
section
variable {A : Int} {w w' w'' w0 : World} {X : Mc} {N : Nat} {W : List Int} {k : Int} {a : Bool} {t : PT}
theorem LX.words (h : LX A w w' X N W k a t) (hl : W.length < 4294967296) : Fn Try.prog 29 #[ptrV X.mp] w' fun r w'' => Upd [] w' w'' ∧ FarL w w'' X 47 1 r W.length (W.map (.int .u64)) := by
  have hWX : X.s.W = W := congrArg PS.W h.abs
  refine (words_c h.new.ok.mem (by rw [hWX]; exact hl)).mono ?_
  rintro e w2 ⟨u, he, h1, h2, h3⟩
  rw [hWX] at h1
  exact ⟨u, he, h2, h1, fun g hg hm => by
    have := h.new.ok.lt g hm
    have := h3 g hg
    omega, fun g hg => by have := h3 g hg; have := h.new.up.size; omega⟩
end
theorem where20a : ∀ a : Nat, a < 218 → ((whereP 1 1 20 4 (a : Int)).1 = 1 ↔ 8 ≤ a ∧ a < 18) := by decide +kernel
theorem OkF.keys {l : List Nd} {ms : List Int} (h : OkF l ms) {i j : Nat} (hij : i ≤ j) (hj : j < l.length) : (ndAt l i).key ≤ (ndAt l j).key := by
  induction hm : j - i generalizing j with
  | zero => obtain rfl : i = j := by omega
            exact Int.le_refl _
  | succ m ih =>
    have h1 := ih (j := j - 1) (by omega) (by omega) (by omega)
    have h2 := (h.of hj).2.2 (by omega)
    omega
theorem OkF.lt {l : List Nd} {ms : List Int} (h : OkF l ms) {q : Nat} (hq : q < l.length) {Q : Prop} {Wz : List Int} {C0 : Nat → List Nat} {N : Nat} {mk : Nat → Nat → Bool} {j : Nat} (hj : j < l.length) : (FP.lt ⟨ordN l, l.length, N, mk, C0, ordN l q, Q, Wz⟩ j = true ↔ j < q) := by
  unfold FP.lt ordN
  rw [decide_eq_true_iff]
  show (ndAt l j).key * 4294967296 + (j : Int) < (ndAt l q).key * 4294967296 + (q : Int) ↔ j < q
  have h18 := h.l18
  rcases Nat.lt_trichotomy j q with h1 | h1 | h1
  · have := h.keys (Nat.le_of_lt h1) hq
    exact ⟨fun _ => h1, fun _ => by omega⟩
  · subst h1; exact ⟨fun h => by omega, fun h => by omega⟩
  · have := h.keys (Nat.le_of_lt h1) hj
    exact ⟨fun h => by omega, fun h => by omega⟩
theorem take_mem {c : List Nat} {i q : Nat} (hi : i < c.length) : (q ∈ c.take (i + 1) ↔ q ∈ c.take i ∨ c.getD i 0 = q) := by
  have e : c.getD i 0 = c[i] := by simp [List.getD, hi]
  rw [List.take_add_one, List.mem_append, List.getElem?_eq_getElem hi, e]
  simp
  constructor
  · rintro (h | h)
    · exact .inl h
    · exact .inr h.symm
  · rintro (h | h)
    · exact .inl h
    · exact .inr h.symm
abbrev TPk : Nat := 58
section
variable {w : World} {v mv : Value} {l : List Nd} {ms : List Int} {z : Int}
set_option maxRecDepth 100000 in
set_option maxHeartbeats 4000000 in
theorem cuts_law (hl : RdNd w v l) (hu : NdU l) (hms : RdK w .i64 mv ms) : Fn Try.prog 10 #[v, mv, .int .i64 z] w fun r w' => r = .bool true ∧ Upd [] w w' := by
  obtain ⟨va, vc, rfl, hv1, hv2⟩ := hl.form
  refine fn_enter Try.func10 rfl rfl ?_
  refine cl (made_c hl hu hms) ?_
  rintro _ w1 (⟨⟨xv, rfl⟩, hu1, -⟩ | ⟨hP, X, W, k, a, t, xv, rfl, H, hM, hX, hfs, hlens, hk0, hk1⟩)
  · refine ptr_eq0 ?_
    refine cl (lives25 _) ?_
    rintro _ w2 ⟨rfl, hu2⟩
    exact ⟨rfl, hu1.trans hu2⟩
  refine ptr_eq ?_
  refine len_sl ?_
  refine cd (fun h0 => ?_) (fun h0 => ?_)
  · refine cl (lives25 _) ?_
    rintro _ w2 ⟨rfl, hu2⟩
    exact ⟨rfl, H.new.up.trans hu2⟩
  have h18 := hP.l18
  have hD : 0 < l.length := by omega
  have hz1 := Int.lt_tmod_of_pos z (show (0 : Int) < (l.length : Int) by omega)
  have hz2 := Int.tmod_lt_of_pos z (show (0 : Int) < (l.length : Int) by omega)
  obtain ⟨q, hq, hql⟩ : ∃ q : Nat, (z.tmod (l.length : Int) + (l.length : Int)).tmod (l.length : Int) = (q : Int) ∧ q < l.length := by
    have a1 := Int.tmod_nonneg (l.length : Int) (show 0 ≤ z.tmod (l.length : Int) + (l.length : Int) by omega)
    have a2 := Int.tmod_lt_of_pos (z.tmod (l.length : Int) + (l.length : Int)) (show (0 : Int) < (l.length : Int) by omega)
    exact ⟨((z.tmod (l.length : Int) + (l.length : Int)).tmod (l.length : Int)).toNat, by omega, by omega⟩
  refine len_sl ?_
  refine rm (by omega) ?_
  refine val (z.tmod (l.length : Int)) rfl ?_
  refine len_sl ?_
  refine ar64 (by omega) ?_
  refine len_sl ?_
  refine rm (by omega) ?_
  refine val (q : Int) hq ?_
  obtain ⟨xb, xo, xc, he, -⟩ := hX.sl.some_ (by omega)
  cases he
  refine ix q rfl hql ?_
  refine fa ?_
  refine ld (v := .int .u64 (ordN l q)) (hX.xcell hql (by omega) rfl) ?_
  have hcr : rightC (cA 1 ((20 : Nat) : Int)) := cA_right (.inl rfl) (by omega) (by omega)
  have hki := (hu.at_ hql).1
  have hn : u64R (ordN l q) := by unfold ordN; exact ⟨by omega, by omega⟩
  obtain ⟨g, hg⟩ : ∃ g, g = fpL l ms (ordN l q) := ⟨_, rfl⟩
  have hgp : g.Pre := by rw [hg]; exact fpL_pre h18
  have hgn : g.n = ordN l q := by rw [hg]; rfl
  have hgc : g.cnt = l.length := by rw [hg]; rfl
  have hgN : g.N = 20 := by rw [hg]; rfl
  have hwh : ∀ kk : Nat, kk < 4 → (q ∈ (g.E kk).1 ++ (g.E kk).2 ↔ (kk : Int) < (ndAt l q).tall ∧ (kk : Int) < mkA ms q) := fun kk hkk => by
    refine (hgp.which (q := q) (by rw [hg]; rfl) (fun j hj => by rw [hg] at hj ⊢; exact hP.lt hql hj) (by rw [hgc]; exact hql) hkk).trans ?_
    have e1 : g.C0 kk = tallIx l kk := by rw [hg]; rfl
    have e2 : g.mr kk q = mkM ms kk q := by rw [hg]; rfl
    rw [e1, e2, tallIx_mem]
    unfold mkM
    rw [decide_eq_false_iff_not]
    exact ⟨fun h => ⟨h.1.2, by omega⟩, fun h => ⟨⟨hql, h.1⟩, by omega⟩⟩
  have hB0 : Bs g (tallIx l) W t := by rw [hg]; exact fpL_bs h18 hM hlens
  have hs1 := seek25 (g := g) (W := W) (t := t) (C := tallIx l) (X := X) (w := w1) (k := k) (ac := a) H.new.ok H.calm (by rw [hgN]; exact H.abs) (hgp.ok (by rw [hg]; exact id)) hfs hB0 (fun kk _ => by rw [hg]; rfl) (by rw [hgn]; exact hn) ⟨by omega, by omega⟩
  rw [hgn, hgN] at hs1
  refine cl hs1 ?_
  rintro _ w2 ⟨rfl, C', W', k', t', hev, hF, hk2, hk3⟩
  obtain ⟨Y, H2, hm, hp2⟩ := H.ev hev
  have hX2 := hX.post hp2
  have hWl : W'.length = 218 := by rw [hF.b.len, hgN]
  have Q2 : Qm w2 Y := H2.q (.inl rfl) (by omega) (by omega) (by rw [hWl]) hF.b.u
  have hrow : ∀ kk : Nat, kk < 4 → rowI (cA 1 ((20 : Nat) : Int)) W' (kk : Int) = (C' kk).map fun (j : Nat) => (j : Int) + 3 := fun kk hkk => by
    have hch := hF.b.ch kk hkk
    rw [hgN] at hch
    exact rowI_chn hch (hF.b.asc kk hkk) (fun j hj => by have := hF.b.mem kk hkk j hj; omega) hkk
  refine loop_rule [2, 7, 8] [9] (fun vs w' m => ∃ (kk : Nat), vs = [.int .i64 (kk : Int)] ∧ kk ≤ 4 ∧ m = 4 - kk ∧ Upd [] w2 w') rfl [.int .i64 0] 4 rfl ⟨0, rfl, by omega, rfl, .refl _ _⟩ ?_
  rintro _ w3 m ⟨kk, rfl, hkk, rfl, hu3⟩
  refine cd (fun hk4 => ?_) (fun hk4 => ?_)
  · have hk4 : kk < 4 := by omega
    have hrq := row_q (Q2.upd0 hu3) (kk : Int) ⟨by omega, by omega⟩
    rw [hm] at hrq
    refine cl hrq ?_
    rintro rv w4 ⟨hG, hu4⟩
    rw [H2.c_, H2.w_, hrow kk hk4, List.length_map] at hG
    have hcl := asc_len (hF.b.asc kk hk4) (hF.b.mem kk hk4) (Nat.zero_le _)
    have hce : C' kk = (g.E kk).1 ++ (g.E kk).2 := (hF.all kk hk4).c
    have hwk := hwh kk hk4
    rw [← hce] at hwk
    obtain ⟨ra, rc, rfl, -⟩ := hG.s.form
    generalize hCC : C' kk = c at *
    refine loop_rule [2, 7, 8, 9, 11] [10, 12] (fun vs w' m => ∃ (i : Nat) (b : Bool), vs = [.bool b, .int .i64 (i : Int)] ∧ i ≤ c.length ∧ m = c.length - i ∧ (b = true ↔ q ∈ c.take i) ∧ w' = w4) rfl [.bool false, .int .i64 0] c.length rfl ⟨0, false, rfl, by omega, rfl, by simp, rfl⟩ ?_
    rintro _ w4 m ⟨i, b, rfl, hi, rfl, hb, rfl⟩
    refine len_sl ?_
    refine cd (fun hlt => ?_) (fun hlt => ?_)
    · have hlt : i < c.length := by omega
      cases b with
      | true =>
        refine ar64 (by omega) ?_
        exact round_mk [.bool true, .int .i64 ((i + 1 : Nat) : Int)] (c.length - (i + 1)) rfl rfl ⟨i + 1, true, rfl, by omega, rfl, ⟨fun _ => (take_mem hlt).2 (.inl (hb.1 rfl)), fun _ => rfl⟩, rfl⟩ (by omega)
      | false =>
        obtain ⟨rb, ro, rc2, he, -⟩ := hG.s.some_ (by omega)
        cases he
        have hmem : c.getD i 0 < g.cnt := by
          have : c.getD i 0 ∈ c := by simp [List.getD, hlt]
          rw [← hCC] at this ⊢
          exact hF.b.mem kk hk4 _ this
        refine ix i rfl hlt ?_
        refine ld (v := .int .i64 ((c.getD i 0 : Nat) + 3)) (by
          have := (hG.s.cells rfl i (by omega)).1
          rw [show ro + i * 1 = ro + i by omega, this]
          simp [List.getD, hlt]) ?_
        refine ar64 (by omega) ?_
        refine ar64 (by omega) ?_
        exact round_mk [.bool (decide (((c.getD i 0 : Nat) : Int) + 3 = (q : Int) + 3)), .int .i64 ((i + 1 : Nat) : Int)] (c.length - (i + 1)) rfl rfl ⟨i + 1, _, rfl, by omega, rfl, by
          rw [decide_eq_true_iff, take_mem hlt]
          exact ⟨fun h => .inr (by omega), fun h => by
            rcases h with h | h
            · exact absurd (hb.2 h) (by decide)
            · omega⟩, rfl⟩ (by omega)
    · obtain rfl : i = c.length := by omega
      rw [List.take_length] at hb
      have hX4 := (hX2.upd0 hu3).upd0 hu4
      refine ix q rfl hql ?_
      refine fa ?_
      refine ld (v := .int .i64 (ndAt l q).tall) (hX4.xcell hql (by omega) rfl) ?_
      refine cd (fun h1 => ?_) (fun h1 => ?_)
      · refine ix q rfl hql ?_
        refine fa ?_
        refine ld (v := .int .i64 (mkA ms q)) (hX4.xcell hql (by omega) rfl) ?_
        refine bnq ?_
        refine cN (fun h => h (by
          cases b with
          | true => exact (decide_eq_true (hwk.1 (hb.1 rfl)).2).symm
          | false => exact (decide_eq_false (fun h2 => absurd (hb.2 (hwk.2 ⟨h1, h2⟩)) (by decide))).symm)) ?_
        refine ar64 (by omega) ?_
        exact round_mk [.int .i64 ((kk + 1 : Nat) : Int)] (4 - (kk + 1)) rfl rfl ⟨kk + 1, rfl, by omega, rfl, hu3.trans hu4⟩ (by omega)
      · have hbf : b = false := by
          cases b with
          | true => exact absurd (hwk.1 (hb.1 rfl)).1 h1
          | false => rfl
        subst hbf
        refine bnq ?_
        refine ar64 (by omega) ?_
        exact round_mk [.int .i64 ((kk + 1 : Nat) : Int)] (4 - (kk + 1)) rfl rfl ⟨kk + 1, rfl, by omega, rfl, hu3.trans hu4⟩ (by omega)
  have H3 := H2.upd0 hu3
  have hX3 := hX2.upd0 hu3
  have mm3 := mem_mm H3.new.ok
  rw [hm] at mm3
  refine cl mm3 ?_
  rintro _ w3 ⟨rfl, rfl⟩
  refine cl (H3.words (by omega)) ?_
  rintro was w4 ⟨hu4, hwas⟩
  have H4 := H3.upd0 hu4
  have hX4 := hX3.upd0 hu4
  refine ix q rfl hql ?_
  refine fa ?_
  refine ld (v := .int .u64 (ordN l q)) (hX4.xcell hql (by omega) rfl) ?_
  have hB2 : Bs (g.two W') C' W' t' := ⟨hF.b.len, hF.b.u, hF.b.ch, hF.b.asc, hF.b.mem, hF.b.ord, hF.b.lens, fun _ => .refl _⟩
  have hs2 := seek25 (g := g.two W') (W := W') (t := t') (C := C') (X := Y) (w := w4) (k := k') (ac := true) H4.new.ok H4.calm (by show _ = MX 1 g.N _ _ _ _; rw [hgN]; exact H4.abs) (hgp.two W') hF.fs hB2 (fun kk hkk => (hF.all kk hkk).c) (by show u64R g.n; rw [hgn]; exact hn) ⟨by omega, by omega⟩
  rw [show (g.two W').n = ordN l q from hgn, show (g.two W').N = 20 from hgN, hm] at hs2
  refine cl hs2 ?_
  rintro _ w5 ⟨rfl, C5, W5, k5, t5, hev5, hF5, hk52, hk53⟩
  obtain ⟨Z, H5, hmZ, hp5⟩ := H4.ev hev5
  rw [hm] at hmZ
  have hwas5 := hwas.post hp5
  have hsame : SameH W5 W' := hF5.b.same trivial
  have mm5 := mem_mm H5.new.ok
  rw [hmZ] at mm5
  refine cl mm5 ?_
  rintro _ w5 ⟨rfl, rfl⟩
  have hWl5 : W5.length = 218 := by rw [hsame.1, hWl]
  refine cl (H5.words (by omega)) ?_
  rintro now w6 ⟨hu6, hnow⟩
  have H6 := H5.upd0 hu6
  have hwas6 := hwas5.upd0 hu6
  have pm := plan_mm H6.new.ok
  rw [hmZ] at pm
  refine cl pm ?_
  rintro _ w7 ⟨rfl, hu7⟩
  rw [H6.c_]
  have H7 := H6.upd0 hu7
  have hwas7 := hwas6.upd0 hu7
  have hnow7 := hnow.upd0 hu7
  refine al z15 (fun _ => by kernel_rfl) fun w8 hb8 hu8 hs8 => ?_
  refine stw hb8 rfl (planC_len (cA 1 (20 : Nat))) (planC_one (cA 1 (20 : Nat))) fun w9 hb9 hu9 hs9 => ?_
  have hb9 : Blk w9 w7.heap.size TPk (planC (cA 1 (20 : Nat))) := hb9
  have hu79 : Upd [] w7 w9 := hu8.step hu9 (by simp)
  have H9 := H7.upd0 hu79
  have hwas9 := hwas7.upd0 hu79
  have hnow9 := hnow7.upd0 hu79
  generalize w7.heap.size = pb at *
  obtain ⟨bw, ow, cw, ew, -⟩ := hwas9.sl.some_ (by omega)
  obtain ⟨bn, on_, cn, en, -⟩ := hnow9.sl.some_ (by omega)
  subst ew en
  refine loop_rule [13, 14, 15] [16] (fun vs w' m => ∃ j : Nat, vs = [.int .i64 (j : Int)] ∧ j ≤ W'.length ∧ m = W'.length - j ∧ Upd [] w9 w') rfl [.int .i64 0] W'.length rfl ⟨0, rfl, by omega, rfl, .refl _ _⟩ ?_
  rintro _ wa m ⟨j, rfl, hj, rfl, hua⟩
  refine len_sl ?_
  refine cd (fun hlt => ?_) (fun hlt => ?_)
  · have hlt : j < W'.length := by omega
    have hpa := hb9.upd hua (by simp)
    refine ldw hpa (planC_len _) ?_
    refine cl (where_c hcr (j : Int) wa) ?_
    rintro _ wb ⟨rfl, hub⟩
    have huab := hua.trans hub
    have hq2 := where20a j (by omega)
    rw [show (((20 : Nat) : Int)) = (20 : Int) from rfl]
    generalize whereP 1 1 20 4 (j : Int) = qq at *
    obtain ⟨q1, q2, q3⟩ := qq
    have hwj := hwas9.upd0 huab
    have hnj := hnow9.upd0 huab
    refine draw_all (fun w' => Upd [] wb w') (by decide +kernel) (Upd.refl [] wb).drew ?_
    by_cases hq1 : q1 = 1
    · subst hq1
      intro wc hwc
      refine ar64 (by omega) ?_
      exact round_mk [.int .i64 ((j + 1 : Nat) : Int)] (W'.length - (j + 1)) rfl rfl ⟨j + 1, rfl, by omega, rfl, huab.trans hwc⟩ (by omega)
    · have hs : W5.getD j 0 = W'.getD j 0 := hsame.2 j (fun h => hq1 (hq2.2 h))
      refine cY hq1 ?_
      refine q_ix j rfl (by omega) ?_
      refine q_ld (v := .int .u64 (W'.getD j 0)) (fun w' hw' => by rw [← hs]; exact (hnj.upd0 hw').sl.getD_ rfl j (by omega)) ?_
      refine q_ix j rfl (by omega) ?_
      refine q_ld (v := .int .u64 (W'.getD j 0)) (fun w' hw' => (hwj.upd0 hw').sl.getD_ rfl j (by omega)) ?_
      intro wc hwc
      refine cN (fun h => h rfl) ?_
      refine ar64 (by omega) ?_
      exact round_mk [.int .i64 ((j + 1 : Nat) : Int)] (W'.length - (j + 1)) rfl rfl ⟨j + 1, rfl, by omega, rfl, huab.trans hwc⟩ (by omega)
  refine cl (lives25 _) ?_
  rintro _ wb ⟨rfl, hub⟩
  exact ⟨rfl, (H9.upd0 hua).new.up.trans hub⟩
end
theorem FindCuts_walk (w : World) (v : Value) (l : List Nd) (h : RdNd w v l) (hu : NdU l) (v2 : Value) (l2 : List (List Int)) (h2 : SlRows w w.heap.size [.i64] v2 l2) (n : Int) (_ : (Lit.int .i64 n).wf) :
    Calls Try.prog 10 #[v, v2, .int .i64 n] w fun e w' => e = .returned (.bool true) ∧ Below w.heap.size w w' :=
  (cuts_law h hu (RdK.of_ints h2.ints (Nat.le_refl _))).mono fun _ _ ⟨_, he, hr, hup⟩ => ⟨by rw [he, hr], hup.below⟩
end Go.Proofs.Ytbnbbafffihapaa

