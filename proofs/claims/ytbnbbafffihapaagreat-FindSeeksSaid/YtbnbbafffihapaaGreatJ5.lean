/- Joined: Ll Lm Ln Lo. -/
import Derived.Test.YtbnbbafffihapaaGreatJ4
import Derived.SizedLaws
/- Nodes are laid: the walk of the law's Lay (for a list of kind 1). -/
namespace Go.Proofs.YtbnbbafffihapaaGreat
open Go.RowKit
attribute [local irreducible] Instr.loadAt Instr.storeAt Instr.fieldAt Instr.indexAt Instr.sliceAt Instr.buildSlice Instr.box Instr.alloc Builtin.append_ Builtin.len_ Builtin.min_ Builtin.max_ Calls Instr.build Instr.makeSlice binSem convert Instr.index Instr.range Instr.next
def ndL (x : Nd) : List Value := [.int .u32 x.key, .int .u32 x.val, .int .i64 x.tall, .bool x.dead]
abbrev RdNd (w : World) (v : Value) (l : List Nd) : Prop := RdR w 4 ndL v l
theorem RdR.nd {w : World} {v : Value} {l : List Nd} (h : RdNd w v l) {b o k c : Nat} (hv : v = .slice (some ⟨b, o, none⟩) k c) (i : Nat) (hi : i < l.length) (j : Nat) (hj : j < 4) : w.cell? ⟨b, o + i * 4 + j, none⟩ = (ndL (ndAt l i))[j]? := by
  rw [h.at_ hv i j hi hj]
  simp [List.getD, hi]
def valOk (l : List Nd) : Prop := ∀ x ∈ l, 0 ≤ x.val ∧ x.val ≤ 4294967295
def lastA (L : List Int) : Array Value := (L.map (.int .i64)).toArray
theorem lastA_at (L : List Int) (k : Nat) (hk : k < L.length) : (lastA L)[k]? = some (.int .i64 (L.getD k 0)) := by simp [lastA, List.getD, hk]
theorem lastA_set (L : List Int) (k : Nat) (x : Int) : (lastA L).setIfInBounds k (.int .i64 x) = lastA (L.set k x) := by
  unfold lastA
  apply Array.ext'
  simp
/-- while nodes are laid: the machine, the plan's copy, the last ones -/
structure LyI (w0 w w' : World) (X : Mc) (N : Nat) (t : PT) (pb lb : Nat) (L : List Int) (W : List Int) (k : Int) : Prop where
  ev : ∃ Y a, Post w X w' Y ∧ Kin X Y ∧ Y.abs = MM N W k a t ∧ Aside w' Y pb 45 (planC (cL N)) ∧ Aside w' Y lb 3 (lastA L)
section
variable {w0 w w' : World} {X : Mc} {N : Nat} {t : PT} {k : Int} {l : List Nd}
theorem LyI.upd0 {w1 w2 : World} {pb lb : Nat} {L W : List Int} (h : LyI w0 w w1 X N t pb lb L W k) (hu : Upd [] w1 w2) : LyI w0 w w2 X N t pb lb L W k := by
  obtain ⟨Y, a, p, kk, ha, A1, A2⟩ := h.ev
  exact ⟨Y, a, p.upd0 hu, kk, ha, A1.upd0 hu, A2.upd0 hu⟩
theorem LyI.up {w1 : World} {pb lb : Nat} {L W : List Int} (h : LyI w0 w w1 X N t pb lb L W k) (hN : New w0 w X) : Upd [] w0 w1 := by
  obtain ⟨Y, a, p, -⟩ := h.ev
  exact (hN.post p).up
theorem LyI.pb {w1 : World} {pb lb : Nat} {L W : List Int} (h : LyI w0 w w1 X N t pb lb L W k) : Blk w1 pb 45 (planC (cL N)) := let ⟨_, _, _, _, _, A, _⟩ := h.ev; A.b
theorem LyI.lb {w1 : World} {pb lb : Nat} {L W : List Int} (h : LyI w0 w w1 X N t pb lb L W k) : Blk w1 lb 3 (lastA L) := let ⟨_, _, _, _, _, _, A⟩ := h.ev; A.b
/-- a store of the law's -/
theorem LyI.store {w1 : World} {pb lb : Nat} {L W : List Int} (h : LyI w0 w w1 X N t pb lb L W k) (hc : X.s.on = false ∧ X.s.L = []) (h3 : 3 ≤ N) (h20 : N ≤ 20) (hu : ∀ x ∈ W, u64R x) (hl : W.length = 18 + 10 * N) (hk : 0 ≤ k ∧ k ≤ 890000) (a : Nat) (ha : a < W.length) (x : Int) :
    Fn Tryz.prog 18 #[ptrV X.m, .int .i64 (a : Int), .int .u64 x] w1 fun _ w2 => LyI w0 w w2 X N t pb lb L (W.set a x) (k + 1) := by
  obtain ⟨Y, b, p, kk, hab, A1, A2⟩ := h.ev
  have hg : Good Y 900000 := ⟨by rw [hab]; exact MM_Ok h3 h20 hu hl (by omega), kk.calm hc⟩
  have hs := store_p p.ok hg (by omega) (a : Int) x
  rw [show Y.m = X.m from kk.m, hab, MM_store ha] at hs
  exact hs.mono fun _ w2 ⟨u, he, Z, p2, k2, a2, _⟩ => ⟨u, he, Z, true, p.trans p2, kk.trans k2, a2, A1.post p2, A2.post p2⟩
/-- the row of the last ones is written -/
theorem LyI.put {w1 w2 : World} {pb lb : Nat} {L W : List Int} (h : LyI w0 w w1 X N t pb lb L W k) {L' : List Int} (hb : Blk w2 lb 3 (lastA L')) (hu : Upd [lb] w1 w2) (hne : pb ≠ lb) (hlb : w.heap.size ≤ lb) : LyI w0 w w2 X N t pb lb L' W k := by
  obtain ⟨Y, a, p, kk, ha, A1, A2⟩ := h.ev
  have hm : Mach w2 Y := p.ok.aside A2.n hu
  exact ⟨Y, a, ⟨hm, ⟨p.to.up.step hu (fun x hx => by rw [List.mem_singleton.1 hx]; exact .inr hlb), p.to.sub⟩⟩, kk, ha, ⟨A1.b.upd hu (by simpa using hne), A1.n⟩, ⟨hb, A2.n⟩⟩
theorem predN_s (i : Nat) : predN (i + 1) = (i : Int) + 3 := by unfold predN; rw [if_neg (by omega)]; omega
set_option maxHeartbeats 1000000 in
set_option maxRecDepth 10000 in
theorem layn_c {Wz : List Int} {a : Bool} {v : Value} (hN : New w0 w X) (hc : X.s.on = false ∧ X.s.L = []) (ha : X.abs = MM N Wz k a t) (hP0 : Part Wz N l 0 0 0 [1, 1, 1, 1]) (hk : NdsOk l N) (hv : valOk l) (hl : RdNd w0 v l) (hkb : 0 ≤ k ∧ k ≤ 100000) :
    Fn Tryz.prog 17 #[ptrV X.m, .int .i64 1, v] w fun _ w' => ∃ W' k' a', Ev w X w' (MM N W' k' a' t) ∧ Lays W' N l ∧ (∀ x ∈ W', u64R x) ∧ 0 ≤ k' ∧ k' ≤ k + 400 := by
  obtain ⟨va, vc, rfl, hv1, hv2⟩ := hl.form
  have hfew := hk.few
  have hn20 := hk.n20
  have hcr : rightC (cL (N : Int)) := cL_right hk.n3 hk.n20
  have hcX : X.c = cL (N : Int) := congrArg PS.c ha
  refine fn_enter Tryz.func17 rfl rfl ?_
  refine cl (plan_mm hN.ok) ?_
  rintro _ w1 ⟨rfl, hu1⟩
  rw [hcX]
  refine al z15 (fun _ => by kernel_rfl) fun w2 hb2 hu2 hs2 => ?_
  refine stw hb2 rfl (planC_len (cL N)) (planC_one (cL N)) fun w3 hb3 hu3 hs3 => ?_
  have hb3 : Blk w3 w1.heap.size 45 (planC (cL N)) := hb3
  have z1 := hu1.size
  have hU3 : Upd [] w w3 := (hu1.trans hu2).step hu3 (by simp; omega)
  refine bs (lastA [1, 1, 1, 1]) (fun _ => by kernel_rfl) fun w4 hb4 hu4 hs4 => ?_
  have hb4 : Blk w4 w3.heap.size 3 (lastA [1, 1, 1, 1]) := hb4
  have hU4 := hU3.trans hu4
  have hM1 := hN.ok.upd0 hu1
  have hlt : ∀ q ∈ X.feet, q < w.heap.size := fun q hq => hN.ok.lt q hq
  have I4 : LyI w0 w w4 X N t w1.heap.size w3.heap.size [1, 1, 1, 1] Wz k :=
    ⟨X, a, .of0 hN.ok hU4, .refl X, ha, ⟨hb3.upd hu4 (by simp), fun hq => by have := hlt _ hq; omega⟩, ⟨hb4, fun hq => by have := hlt _ hq; have := hU3.size; omega⟩⟩
  have hne : w1.heap.size ≠ w3.heap.size := by omega
  have hlb : w.heap.size ≤ w3.heap.size := hU3.size
  clear hb2 hb3 hb4 hu2 hu3 hu4 hM1 hU3 hU4 hlt
  generalize w1.heap.size = pb at *
  generalize w3.heap.size = lb at *
  refine loop_rule [0, 1, 2, 6, 7] [8] (fun vs w' m => ∃ (i : Nat) (W : List Int) (k' : Int) (L : List Int), vs = [.int .i64 (i : Int)] ∧ i ≤ l.length ∧ m = l.length - i ∧ LyI w0 w w' X N t pb lb L W k' ∧ Part W N l i 0 i L ∧ k' ≤ k + 8 * i ∧ 0 ≤ k') rfl [.int .i64 0] l.length rfl
    ⟨0, Wz, k, _, rfl, by omega, rfl, I4, hP0, by omega, by omega⟩ ?_
  rintro _ w5 m ⟨i, W, k5, L, rfl, hi, rfl, I, hP, hk5, hk50⟩
  refine len_sl ?_
  refine cd (fun hlt => ?_) (fun hlt => ?_)
  · have hlt : i < l.length := by omega
    obtain ⟨b, o, cap, he, -⟩ := hl.some_ (by omega)
    cases he
    have hu := hk.u64 i hlt
    have hvi := hv (ndAt l i) (by simp [List.getD, hlt])
    refine ar64 (by omega) ?_
    refine draw_mix 14 [(0, true), (1, true), (2, true), (4, true), (5, true), (6, true), (7, true), (8, true), (9, true), (10, true), (11, true), (12, true), (13, true), (3, false)] (fun w' => Upd [] w5 w') (by decide +kernel) (Upd.refl [] w5).drew ?_
    refine rq (.agg (planC (cL N))) (fun w' hw' => ldw (I.upd0 hw').pb (planC_len _) ⟨rfl, rfl⟩) ?_
    refine q_ix i rfl hlt ?_
    refine q_fa ?_
    refine q_ld (v := .int .u32 (ndAt l i).key) (fun w' hw' => by rw [(hl.upd0 ((I.upd0 hw').up hN)).nd rfl i hlt 0 (by omega)]; rfl) ?_
    refine rq (.int .u64 (ndAt l i).key) (fun _ _ => cv (arU (by omega) ⟨rfl, rfl⟩)) ?_
    refine q_arU (by omega) ?_
    refine rq (.int .u64 (i : Int)) (fun _ _ => cv (arU (by omega) ⟨rfl, rfl⟩)) ?_
    refine q_arU (by omega) ?_
    refine cl (node_a2 hcr ((i : Int) + 3) 0 w5.drew) ?_
    rintro _ w6 ⟨rfl, hu6⟩
    have hu6 : Upd [] w5 w6 := (Upd.refl [] w5).drew.trans hu6
    refine ⟨hu6, ?_⟩
    have e0 : ∀ f : Nat, f < 9 → (cL (N : Int)).node ((i : Int) + 3) (f : Int) = (adr N (i + 1) f : Int) := fun f hf => by rw [← predN_s, adr_node (by omega) hf]
    rw [show (cL (N : Int)).node ((i : Int) + 3) 0 = (adr N (i + 1) 0 : Int) from e0 0 (by omega)]
    have haL : ∀ f : Nat, f < 9 → adr N (i + 1) f < 18 + 10 * N := fun f hf => adr_lt (by omega) hf
    refine cl ((I.upd0 hu6).store hc hk.n3 hk.n20 hP.u hP.len ⟨by omega, by omega⟩ (adr N (i + 1) 0) (by rw [hP.len]; exact haL 0 (by omega)) _) ?_
    rintro _ w7 I7
    have hP7 := hP.ord (o := i) (x := (ndAt l i).key * 4294967296 + i) (by omega) ⟨by omega, by omega⟩ rfl
    refine ix i rfl hlt ?_
    refine fa ?_
    refine ld (v := .int .u32 (ndAt l i).val) (by rw [(hl.upd0 (I7.up hN)).nd rfl i hlt 1 (by omega)]; rfl) ?_
    refine cv ?_
    refine arU (by omega) ?_
    refine and64 1 (by decide) ?_
    refine ldw I7.pb (planC_len _) ?_
    refine cl (node_a2 hcr ((i : Int) + 3) 1 w7) ?_
    rintro _ w8 ⟨rfl, hu8⟩
    rw [show (cL (N : Int)).node ((i : Int) + 3) 1 = (adr N (i + 1) 1 : Int) from e0 1 (by omega)]
    refine cl ((I7.upd0 hu8).store hc hk.n3 hk.n20 hP7.u hP7.len ⟨by omega, by omega⟩ (adr N (i + 1) 1) (by rw [hP7.len]; exact haL 1 (by omega)) _) ?_
    rintro _ w9 I9
    have hP9 := hP7.other (f := 1) (i + 1) (.inl rfl) (x := (ndAt l i).val) ⟨by omega, by omega⟩
    refine draw_mix 10 [(0, true), (1, true), (2, true), (4, true), (5, true), (6, true), (7, true), (8, true), (9, true), (3, false)] (fun w' => Upd [] w9 w') (by decide +kernel) (Upd.refl [] w9).drew ?_
    refine rq (.agg (planC (cL N))) (fun w' hw' => ldw (I9.upd0 hw').pb (planC_len _) ⟨rfl, rfl⟩) ?_
    refine q_ix i rfl hlt ?_
    refine q_fa ?_
    refine q_ld (v := .int .i64 (ndAt l i).tall) (fun w' hw' => by rw [(hl.upd0 ((I9.upd0 hw').up hN)).nd rfl i hlt 2 (by omega)]; rfl) ?_
    refine rq (.int .u64 (ndAt l i).tall) (fun _ _ => cv (arU (by omega) ⟨rfl, rfl⟩)) ?_
    refine cl (node_a2 hcr ((i : Int) + 3) 3 w9.drew) ?_
    rintro _ w10 ⟨rfl, hu10⟩
    have hu10 : Upd [] w9 w10 := (Upd.refl [] w9).drew.trans hu10
    refine ⟨hu10, ?_⟩
    rw [show (cL (N : Int)).node ((i : Int) + 3) 3 = (adr N (i + 1) 3 : Int) from e0 3 (by omega)]
    refine cl ((I9.upd0 hu10).store hc hk.n3 hk.n20 hP9.u hP9.len ⟨by omega, by omega⟩ (adr N (i + 1) 3) (by rw [hP9.len]; exact haL 3 (by omega)) _) ?_
    rintro _ w11 I11
    have hP11 := hP9.other (f := 3) (i + 1) (.inr rfl) (x := (ndAt l i).tall) ⟨by omega, by omega⟩
    obtain ⟨T, hT⟩ : ∃ T : Nat, (ndAt l i).tall = (T : Int) := ⟨_, (Int.toNat_of_nonneg (by omega)).symm⟩
    refine loop_rule [0, 1, 2, 6, 7, 8, 9] [11] (fun vs w' m => ∃ (rr : Nat) (W : List Int) (k' : Int) (L : List Int), vs = [.int .i64 (rr : Int)] ∧ rr ≤ T ∧ m = T - rr ∧ LyI w0 w w' X N t pb lb L W k' ∧ Part W N l i rr (i + 1) L ∧ k' ≤ k + 8 * i + 3 + rr ∧ 0 ≤ k') rfl [.int .i64 0] T rfl
      ⟨0, _, k5 + 1 + 1 + 1, L, rfl, by omega, rfl, I11, hP11, by omega, by omega⟩ ?_
    clear hP hP7 hP9 hP11 I I7 I9 I11 hk5 hk50
    rintro _ w12 m ⟨rr, W, k12, L, rfl, hrr, rfl, I, hP, hk12, hk120⟩
    refine ix i rfl hlt ?_
    refine fa ?_
    refine ld (v := .int .i64 (T : Int)) (by rw [(hl.upd0 (I.up hN)).nd rfl i hlt 2 (by omega), ← hT]; rfl) ?_
    refine cd (fun hrT => ?_) (fun hrT => ?_)
    · have hr4 : rr < 4 := by omega
      obtain ⟨g, hg, hg2, -⟩ := hP.last rr hr4
      have hgl : g ≤ l.length := by unfold cnt at hg2; split at hg2 <;> omega
      have hgb : 1 ≤ predN g ∧ predN g ≤ N := by unfold predN; split <;> omega
      have eg : (cL (N : Int)).node (predN g) (5 + (rr : Int)) = (adr N g (5 + rr) : Int) := by rw [show (5 : Int) + (rr : Int) = ((5 + rr : Nat) : Int) by omega, adr_node (by omega) (by omega)]
      have hag : adr N g (5 + rr) < 18 + 10 * N := adr_lt (by omega) (by omega)
      have hLl := hP.L4
      refine cv ?_
      refine arU (by omega) ?_
      refine arU (by omega) ?_
      refine and64 1 (by decide) ?_
      by_cases r0 : rr = 0
      · subst r0
        refine ix i rfl hlt ?_
        refine fa ?_
        refine ld (v := .bool (ndAt l i).dead) (by rw [(hl.upd0 (I.up hN)).nd rfl i hlt 3 (by omega)]; rfl) ?_
        cases hdd : (ndAt l i).dead with
        | true =>
          refine arU (by omega) ?_
          refine draw_mix 10 [(0, true), (1, true), (2, true), (3, true), (4, true), (5, true), (6, true), (7, true), (9, true), (8, false)] (fun w' => Upd [] w12 w') (by decide +kernel) (Upd.refl [] w12).drew ?_
          refine rq (.agg (planC (cL N))) (fun w' hw' => ldw (I.upd0 hw').pb (planC_len _) ⟨rfl, rfl⟩) ?_
          refine q_ix 0 rfl hr4 ?_
          refine q_ld (v := .int .i64 (L.getD 0 0)) (fun w' hw' => by rw [(I.upd0 hw').lb.cell, show 0 + 0 * 1 = 0 by omega]; exact lastA_at L 0 (by omega)) ?_
          refine q_ar64 (by omega) ?_
          rw [hg]
          refine cl (node_a2 hcr (predN g) (5 + ((0 : Nat) : Int)) w12.drew) ?_
          rintro _ w13 ⟨rfl, hu13⟩
          have hu13 : Upd [] w12 w13 := (Upd.refl [] w12).drew.trans hu13
          refine ⟨hu13, ?_⟩
          rw [eg]
          refine cl ((I.upd0 hu13).store hc hk.n3 hk.n20 hP.u hP.len ⟨by omega, by omega⟩ (adr N g (5 + 0)) (by rw [hP.len]; exact hag) (2 * ((i : Int) + 3) + 1)) ?_
          rintro _ w14 I14
          have hP14 := hP.row hk hlt hr4 (by omega) hg (x := 2 * ((i : Int) + 3) + 1) ⟨by omega, by omega⟩ (by rw [if_pos ⟨rfl, hdd⟩])
          refine ix 0 rfl hr4 ?_
          refine st I14.lb (by unfold lastA; simp; omega) rfl fun w15 hb15 hu15 hs15 => ?_
          rw [show 0 + 0 * 1 = 0 by omega, lastA_set] at hb15
          have I15 := I14.put hb15 hu15 hne hlb
          refine ar64 (by omega) ?_
          exact round_mk [.int .i64 ((0 + 1 : Nat) : Int)] (T - (0 + 1)) rfl rfl ⟨0 + 1, _, k12 + 1, _, rfl, by omega, rfl, I15, hP14, by omega, by omega⟩ (by omega)
        | false =>
          refine draw_mix 10 [(0, true), (1, true), (2, true), (3, true), (4, true), (5, true), (6, true), (7, true), (9, true), (8, false)] (fun w' => Upd [] w12 w') (by decide +kernel) (Upd.refl [] w12).drew ?_
          refine rq (.agg (planC (cL N))) (fun w' hw' => ldw (I.upd0 hw').pb (planC_len _) ⟨rfl, rfl⟩) ?_
          refine q_ix 0 rfl hr4 ?_
          refine q_ld (v := .int .i64 (L.getD 0 0)) (fun w' hw' => by rw [(I.upd0 hw').lb.cell, show 0 + 0 * 1 = 0 by omega]; exact lastA_at L 0 (by omega)) ?_
          refine q_ar64 (by omega) ?_
          rw [hg]
          refine cl (node_a2 hcr (predN g) (5 + ((0 : Nat) : Int)) w12.drew) ?_
          rintro _ w13 ⟨rfl, hu13⟩
          have hu13 : Upd [] w12 w13 := (Upd.refl [] w12).drew.trans hu13
          refine ⟨hu13, ?_⟩
          rw [eg]
          refine cl ((I.upd0 hu13).store hc hk.n3 hk.n20 hP.u hP.len ⟨by omega, by omega⟩ (adr N g (5 + 0)) (by rw [hP.len]; exact hag) (2 * ((i : Int) + 3))) ?_
          rintro _ w14 I14
          have hP14 := hP.row hk hlt hr4 (by omega) hg (x := 2 * ((i : Int) + 3)) ⟨by omega, by omega⟩ (by rw [if_neg (fun hh => by rw [hdd] at hh; cases hh.2)]; omega)
          refine ix 0 rfl hr4 ?_
          refine st I14.lb (by unfold lastA; simp; omega) rfl fun w15 hb15 hu15 hs15 => ?_
          rw [show 0 + 0 * 1 = 0 by omega, lastA_set] at hb15
          have I15 := I14.put hb15 hu15 hne hlb
          refine ar64 (by omega) ?_
          exact round_mk [.int .i64 ((0 + 1 : Nat) : Int)] (T - (0 + 1)) rfl rfl ⟨0 + 1, _, k12 + 1, _, rfl, by omega, rfl, I15, hP14, by omega, by omega⟩ (by omega)
      · refine cN (by omega) ?_
        refine draw_mix 10 [(0, true), (1, true), (2, true), (3, true), (4, true), (5, true), (6, true), (7, true), (9, true), (8, false)] (fun w' => Upd [] w12 w') (by decide +kernel) (Upd.refl [] w12).drew ?_
        refine rq (.agg (planC (cL N))) (fun w' hw' => ldw (I.upd0 hw').pb (planC_len _) ⟨rfl, rfl⟩) ?_
        refine q_ix rr rfl hr4 ?_
        refine q_ld (v := .int .i64 (L.getD rr 0)) (fun w' hw' => by rw [(I.upd0 hw').lb.cell, show 0 + rr * 1 = rr by omega]; exact lastA_at L rr (by omega)) ?_
        refine q_ar64 (by omega) ?_
        rw [hg]
        refine cl (node_a2 hcr (predN g) (5 + ((rr : Nat) : Int)) w12.drew) ?_
        rintro _ w13 ⟨rfl, hu13⟩
        have hu13 : Upd [] w12 w13 := (Upd.refl [] w12).drew.trans hu13
        refine ⟨hu13, ?_⟩
        rw [eg]
        refine cl ((I.upd0 hu13).store hc hk.n3 hk.n20 hP.u hP.len ⟨by omega, by omega⟩ (adr N g (5 + rr)) (by rw [hP.len]; exact hag) (2 * ((i : Int) + 3))) ?_
        rintro _ w14 I14
        have hP14 := hP.row hk hlt hr4 (by omega) hg (x := 2 * ((i : Int) + 3)) ⟨by omega, by omega⟩ (by rw [if_neg (fun hh => r0 hh.1)]; omega)
        refine ix rr rfl hr4 ?_
        refine st I14.lb (by unfold lastA; simp; omega) rfl fun w15 hb15 hu15 hs15 => ?_
        rw [show 0 + rr * 1 = rr by omega, lastA_set] at hb15
        have I15 := I14.put hb15 hu15 hne hlb
        refine ar64 (by omega) ?_
        exact round_mk [.int .i64 ((rr + 1 : Nat) : Int)] (T - (rr + 1)) rfl rfl ⟨rr + 1, _, k12 + 1, _, rfl, by omega, rfl, I15, hP14, by omega, by omega⟩ (by omega)
    · obtain rfl : rr = T := by omega
      refine ar64 (by omega) ?_
      exact round_mk [.int .i64 ((i + 1 : Nat) : Int)] (l.length - (i + 1)) rfl rfl ⟨i + 1, W, k12, L, rfl, by omega, rfl, I, hP.next hlt hT.symm, by omega, hk120⟩ (by omega)
  obtain rfl : i = l.length := by omega
  refine loop_rule [0, 6, 7] [13] (fun vs w' m => ∃ (kk : Nat) (W : List Int) (k' : Int), vs = [.int .i64 (kk : Int)] ∧ kk ≤ 4 ∧ m = 4 - kk ∧ LyI w0 w w' X N t pb lb L W k' ∧ Part W N l l.length 0 l.length L ∧ (∀ k f : Nat, k < kk → f ≤ l.length → (f = 0 ∨ (k : Int) < (ndAt l (f - 1)).tall) → W.getD (adr N f (5 + k)) 0 = wd l k f) ∧ k' ≤ k + 8 * l.length + kk ∧ 0 ≤ k') rfl [.int .i64 0] 4 rfl
    ⟨0, W, k5, rfl, by omega, rfl, I, hP, fun k f h => by omega, by omega, hk50⟩ ?_
  clear hP I hk5 hk50
  rintro _ w12 m ⟨kk, W, k12, rfl, hkk, rfl, I, hP, hdone, hk12, hk120⟩
  refine cd (fun hk4 => ?_) (fun hk4 => ?_)
  · have hr4 : kk < 4 := by omega
    obtain ⟨g, hg, hg2, -⟩ := hP.last kk hr4
    have hgl : g ≤ l.length := by unfold cnt at hg2; split at hg2 <;> omega
    have eg : (cL (N : Int)).node (predN g) (5 + (kk : Int)) = (adr N g (5 + kk) : Int) := by rw [show (5 : Int) + (kk : Int) = ((5 + kk : Nat) : Int) by omega, adr_node (by omega) (by omega)]
    have hag : adr N g (5 + kk) < 18 + 10 * N := adr_lt (by omega) (by omega)
    have hLl := hP.L4
    refine draw_mix 9 [(0, true), (1, true), (2, true), (3, true), (4, true), (5, true), (6, true), (7, true), (8, false)] (fun w' => Upd [] w12 w') (by decide +kernel) (Upd.refl [] w12).drew ?_
    refine rq (.agg (planC (cL N))) (fun w' hw' => ldw (I.upd0 hw').pb (planC_len _) ⟨rfl, rfl⟩) ?_
    refine q_ix kk rfl hr4 ?_
    refine q_ld (v := .int .i64 (L.getD kk 0)) (fun w' hw' => by rw [(I.upd0 hw').lb.cell, show 0 + kk * 1 = kk by omega]; exact lastA_at L kk (by omega)) ?_
    refine q_ar64 (by omega) ?_
    rw [hg]
    refine cl (node_a2 hcr (predN g) (5 + (kk : Int)) w12.drew) ?_
    rintro _ w13 ⟨rfl, hu13⟩
    have hu13 : Upd [] w12 w13 := (Upd.refl [] w12).drew.trans hu13
    refine ⟨hu13, ?_⟩
    rw [eg]
    refine cl ((I.upd0 hu13).store hc hk.n3 hk.n20 hP.u hP.len ⟨by omega, by omega⟩ (adr N g (5 + kk)) (by rw [hP.len]; exact hag) 4) ?_
    rintro _ w14 I14
    obtain ⟨t1, t2⟩ := hP.tail hk kk hr4 hdone hg
    refine ar64 (by omega) ?_
    exact round_mk [.int .i64 ((kk + 1 : Nat) : Int)] (4 - (kk + 1)) rfl rfl ⟨kk + 1, _, k12 + 1, rfl, by omega, rfl, I14, t1, t2, by omega, by omega⟩ (by omega)
  · obtain rfl : kk = 4 := by omega
    obtain ⟨Y, a', p, kn, hab, -⟩ := I.ev
    exact ⟨W, k12, a', ⟨Y, p, kn, hab⟩, hP.lays hk hdone, hP.u, hk120, by omega⟩
end
end Go.Proofs.YtbnbbafffihapaaGreat

/- Locate: the law's lives, and its machine on which nodes are laid. -/
namespace Go.Proofs.YtbnbbafffihapaaGreat
open Go.RowKit
attribute [local irreducible] Instr.loadAt Instr.storeAt Instr.fieldAt Instr.indexAt Instr.sliceAt Instr.buildSlice Instr.box Instr.alloc Builtin.append_ Builtin.len_ Builtin.min_ Builtin.max_ Calls Instr.build Instr.makeSlice binSem convert Instr.index Instr.range Instr.next
/-- a machine of the call's own, of one thread -/
structure LM (w w' : World) (X : Mc) (N : Nat) (W : List Int) (k : Int) (a : Bool) (t : PT) : Prop where
  new : New w w' X
  abs : X.abs = MM N W k a t
  calm : X.s.on = false ∧ X.s.L = []
section
variable {w w' w'' w0 : World} {X : Mc} {N : Nat} {W : List Int} {k : Int} {a : Bool} {t : PT}
theorem LM.upd0 (h : LM w w' X N W k a t) (hu : Upd [] w' w'') : LM w w'' X N W k a t := ⟨⟨h.new.ok.upd0 hu, h.new.up.trans hu, h.new.fr⟩, h.abs, h.calm⟩
theorem LM.ev (h : LM w w' X N W k a t) {W' : List Int} {k' : Int} {a' : Bool} {t' : PT} (e : Ev w' X w'' (MM N W' k' a' t')) : ∃ Y, LM w w'' Y N W' k' a' t' ∧ Y.m = X.m := by
  obtain ⟨Y, p, kn, ha⟩ := e
  exact ⟨Y, ⟨h.new.post p, ha, kn.calm h.calm⟩, kn.m⟩
theorem LM.rebase (h : LM w w' X N W k a t) (hu : Upd [] w0 w) : LM w0 w' X N W k a t := ⟨h.new.rebase hu, h.abs, h.calm⟩
/-- the thread, in memory -/
theorem LM.thr (h : LM w w' X N W k a t) : ∃ t', X.ths[0]? = some t' ∧ X.ths.length ≤ 100 ∧ absT t' = t := by
  obtain ⟨t', h1, h2, -⟩ := abs_one h.abs
  exact ⟨t', by rw [h1]; rfl, by rw [h1]; simp, h2⟩
end
theorem absT_P (t : Th) : (absT t).P = t.P := rfl
theorem absT_S (t : Th) : (absT t).S = t.S := rfl
theorem absT_W (t : Th) : (absT t).W = t.W := rfl
theorem Fst.lm {w w' : World} {X : Mc} {N : Nat} {k : Int} {t : PT} (h : Fst w w' X N k t) : LM w w' X N (W0 N) k false t := ⟨h.new, h.abs, h.calm⟩
/-- a word of the thread's, read -/
theorem slot_at {w : World} {v : Value} {l : List Int} (h : Sl w 24 1 v l.length (l.map (.int .u64))) (hl : l.length = 4) : ∃ b o c, v = .slice (some ⟨b, o, none⟩) 4 c ∧ ∀ k : Nat, k < 4 → w.cell? ⟨b, o + k * 1, none⟩ = some (.int .u64 (l.getD k 0)) := by
  obtain ⟨b, o, c, he, hc⟩ := h.some_ (by omega)
  rw [hl] at he
  exact ⟨b, o, c, he, fun k hk => by
    have := h.getD_ (he.trans (by rw [hl])) k (by omega)
    exact this⟩
theorem endK_nil (n : Int) (k : Nat) : endK [] n k = (0, 0) := by
  unfold endK
  have : ∀ m, rowEnd [] n m = (0, 0) := by
    intro m
    induction m with
    | zero => rfl
    | succ m ih => rw [rowEnd, ih]; exact go_stop (fun h => absurd h (by simp))
  exact this _
/-- may the node not follow? -/
def badN (l : List Nd) (i : Nat) : Bool :=
  (decide ((ndAt l i).tall < 1) || decide (4 < (ndAt l i).tall)) || ((decide (0 < i) && (ndAt l i).dead && !(ndAt l (i - 1)).dead) || (decide (0 < i) && !(ndAt l (i - 1)).dead && decide ((ndAt l i).key < (ndAt l (i - 1)).key)))
def laidP (l : List Nd) : Prop := l.length ≤ 18 ∧ ∀ i, i < l.length → badN l i = false
/-- numbers that fit -/
def NdU (l : List Nd) : Prop := ∀ x ∈ l, (0 ≤ x.key ∧ x.key ≤ 4294967295) ∧ (0 ≤ x.val ∧ x.val ≤ 4294967295)
theorem NdU.at_ {l : List Nd} (h : NdU l) {i : Nat} (hi : i < l.length) : (0 ≤ (ndAt l i).key ∧ (ndAt l i).key ≤ 4294967295) ∧ (0 ≤ (ndAt l i).val ∧ (ndAt l i).val ≤ 4294967295) := h _ (by simp [List.getD, hi])
theorem laidP.ok {l : List Nd} (h : laidP l) (hu : NdU l) : NdsOk l 20 :=
  ⟨by have := h.1; omega, by omega, by omega, fun i hi => ⟨(hu.at_ hi).1, by
    have hb := h.2 i hi
    unfold badN at hb
    simp only [Bool.or_eq_false_iff, decide_eq_false_iff_not] at hb
    omega⟩⟩
theorem part0 {l : List Nd} : Part (W0 20) 20 l 0 0 0 [1, 1, 1, 1] :=
  ⟨W0_20.1, W0_20.2.1, rfl, fun k hk => ⟨0, by rcases (show k = 0 ∨ k = 1 ∨ k = 2 ∨ k = 3 by omega) with rfl | rfl | rfl | rfl <;> rfl, Nat.zero_le _, .inl rfl, fun j h1 h2 => by unfold cnt at h2; rw [if_neg (by omega)] at h2; omega⟩,
    fun k f h1 h2 h3 h4 => by unfold cnt at h4; rw [if_neg (by omega)] at h4; omega, fun j hj => by omega⟩
end Go.Proofs.YtbnbbafffihapaaGreat

/- Nodes that come in: what they hold. -/
namespace Go.Proofs.YtbnbbafffihapaaGreat
open Go.ChangeShapes Go.WideShapes Go.ChangeAt Go.RowKit Go.Deep
set_option linter.constructorNameAsVariable false
def fldN (f : Field) (t o : Nat) : Bool := decide (f.type = t) && decide (f.offset = o)
abbrev TNd : Nat := 61
def ndTB (l : List Field) : Bool := match l with
  | [a, b, c, d] => fldN a 59 0 && fldN b 59 1 && fldN c 3 2 && fldN d 4 3
  | _ => false
theorem fldN_of {f : Field} {t o : Nat} (h : fldN f t o = true) : f.type = t ∧ f.offset = o := by
  unfold fldN at h; simpa using h
theorem ndU : Tryz.prog.underlying TNd = some (.struct (Tryz.prog.fieldsOf TNd)) := by kernel_rfl
def okNd (x : Nd) : Prop := (0 ≤ x.key ∧ x.key ≤ 4294967295) ∧ (0 ≤ x.val ∧ x.val ≤ 4294967295)
set_option maxRecDepth 100000 in
theorem open_nd {H : Type} {enc : TypeId × Value → H} {w : World} {spare : Nat → Bool} {held : Bool} {fuel : Nat} {cs : List Value} {x : DataW H × List MemPlace} (h : DataW.trod enc Tryz.prog w 0 spare held fuel TNd cs = some x) : ∃ e : Nd, cs = ndL e ∧ okNd e := by
  obtain ⟨f0, f1, f2, f3, hl, h0, h1, h2, h3⟩ : ∃ f0 f1 f2 f3, (Tryz.prog.fieldsOf TNd).toList = [f0, f1, f2, f3] ∧ fldN f0 59 0 = true ∧ fldN f1 59 1 = true ∧ fldN f2 3 2 = true ∧ fldN f3 4 3 = true := by
    have hB : ndTB (Tryz.prog.fieldsOf TNd).toList = true := by kernel_rfl
    unfold ndTB at hB
    split at hB
    · rename_i a b c d he
      simp only [Bool.and_eq_true] at hB
      exact ⟨a, b, c, d, he, hB.1.1.1, hB.1.1.2, hB.1.2, hB.2⟩
    · cases hB
  obtain ⟨t0, o0⟩ := fldN_of h0
  obtain ⟨t1, o1⟩ := fldN_of h1
  obtain ⟨t2, o2⟩ := fldN_of h2
  obtain ⟨t3, o3⟩ := fldN_of h3
  have hu := ndU
  generalize Tryz.prog.fieldsOf TNd = F at hu hl
  have hget : ∀ i f, [f0, f1, f2, f3][i]? = some f → F[i]? = some f := fun i f hf => by
    rw [← hl, Array.getElem?_toList] at hf; exact hf
  obtain ⟨xs, n, -, -, hcl, hxs, hx⟩ := DataW.trod_struct hu h
  have hcl : cs.length = 4 := by
    have h8 : Tryz.prog.cellsOf TNd = 4 := by kernel_rfl
    rw [h8] at hcl
    simpa using hcl
  have hxs : xs.length = 4 := by
    rw [hxs]
    have := congrArg List.length hl
    simpa using this
  match xs, hxs with
  | [x0, x1, x2, x3], _ =>
    have hx0 := hx 0 f0 (hget 0 f0 rfl)
    have hx1 := hx 1 f1 (hget 1 f1 rfl)
    have hx2 := hx 2 f2 (hget 2 f2 rfl)
    have hx3 := hx 3 f3 (hget 3 f3 rfl)
    have g0 : Tryz.prog.cellsOf 59 = 1 := by kernel_rfl
    have g2 : Tryz.prog.cellsOf 3 = 1 := by kernel_rfl
    have g3 : Tryz.prog.cellsOf 4 = 1 := by kernel_rfl
    rw [t0, o0, g0] at hx0
    rw [t1, o1, g0] at hx1
    rw [t2, o2, g2] at hx2
    rw [t3, o3, g3] at hx3
    obtain ⟨ky, hc0, r0⟩ := int_of_trod Tryz.underlying59 hx0
    obtain ⟨vl, hc1, r1⟩ := int_of_trod Tryz.underlying59 hx1
    obtain ⟨tl, hc2, r2⟩ := int_of_trod Tryz.underlying3 hx2
    obtain ⟨dd, hc3⟩ := bool_of_trod Tryz.underlying4 hx3
    refine ⟨⟨ky, vl, tl, dd⟩, ?_, ?_⟩
    · match cs, hcl with
      | [y0, y1, y2, y3], _ =>
        simp at hc0 hc1 hc2 hc3
        subst hc0; subst hc1; subst hc2; subst hc3
        rfl
    · simp only [Lit.wf] at r0 r1
      have r0 : IntKind.u32.min ≤ ky ∧ ky ≤ IntKind.u32.max := by simpa using r0
      have r1 : IntKind.u32.min ≤ vl ∧ vl ≤ IntKind.u32.max := by simpa using r1
      exact ⟨r0, r1⟩
theorem ndL_len (x : Nd) : (ndL x).length = 4 := rfl
set_option maxRecDepth 100000 in
theorem open_nds {H : Type} {enc : TypeId × Value → H} {w : World} {r : Reach} {b0 : Nat} {spare : Nat → Bool} {held : Bool} {v : Value} {d : DataW H} {p : List MemPlace} (hv : Value.okWide Tryz.prog w r b0 22 v) (h : DataW.Trod enc Tryz.prog w 0 spare held 22 v d p) : ∃ l : List Nd, RdNd w v l ∧ NdU l :=
  open_recs (P := Tryz.prog) (e := TNd) 4 ndL okNd (by decide) ndL_len Tryz.underlying22 (by kernel_rfl) (fun fuel cs x h => open_nd (enc := enc) (w := w) (spare := spare) (held := held) (fuel := fuel) (cs := cs) (x := x) h) hv h
end Go.Proofs.YtbnbbafffihapaaGreat

/- Locate: loads of the law's own; past; the law LocateSeeks. -/
namespace Go.Proofs.YtbnbbafffihapaaGreat
open Go.RowKit
attribute [local irreducible] Instr.loadAt Instr.storeAt Instr.fieldAt Instr.indexAt Instr.sliceAt Instr.buildSlice Instr.box Instr.alloc Builtin.append_ Builtin.len_ Builtin.min_ Builtin.max_ Calls Instr.build Instr.makeSlice binSem convert Instr.index Instr.range Instr.next
section
variable {w w' w'' w0 : World} {X : Mc} {N : Nat} {W : List Int} {k : Int} {a : Bool} {t : PT}
theorem LM.ev' (h : LM w w' X N W k a t) {W' : List Int} {k' : Int} {a' : Bool} {t' : PT} (e : Ev w' X w'' (MM N W' k' a' t')) : ∃ Y, LM w w'' Y N W' k' a' t' ∧ Y.m = X.m ∧ Post w' X w'' Y := by
  obtain ⟨Y, p, kn, ha⟩ := e
  exact ⟨Y, ⟨h.new.post p, ha, kn.calm h.calm⟩, kn.m, p⟩
theorem LM.c_ (h : LM w w' X N W k a t) : X.c = cL (N : Int) := congrArg PS.c h.abs
theorem LM.load (h : LM w w' X N W k a t) (hk : 0 ≤ k ∧ k ≤ 900000) {x : Nat} (hx : x < W.length) : Fn Tryz.prog 11 #[ptrV X.mp, .int .i64 (x : Int)] w' fun r w'' => r = .tuple #[.int .u64 (W.getD x 0), .int .i64 0] ∧ ∃ Y, LM w w'' Y N W (k + 1) a t ∧ Y.m = X.m ∧ Y.ths = X.ths ∧ Post w' X w'' Y := by
  have hkX : X.s.k = k := congrArg PS.k h.abs
  have hWX : X.s.W = W := congrArg PS.W h.abs
  have hroom : Roomy X.s := ⟨by omega, by omega, by rw [h.calm.2]; decide⟩
  have ho : okA X.s (x : Int) := (okA_abs X _).2 (by rw [h.abs]; exact MM_ok hx)
  refine (load_c h.new.ok.mem hroom (x : Int)).mono ?_
  rintro e w2 ⟨u, he, h1, -⟩
  obtain ⟨hr, hp⟩ := h1 ho
  obtain ⟨lv, p⟩ := h.new.ok.memPost hp
  refine ⟨u, he, ?_, _, ⟨h.new.post p, ?_, ⟨h.calm.1, by show (if X.s.on then _ else X.s.L) = []; rw [h.calm.1]; exact h.calm.2⟩⟩, rfl, rfl, p⟩
  · rw [hr]
    have : rd X.s (x : Int) = W.getD x 0 := by
      have e1 : rd X.s (x : Int) = X.abs.rd (x : Int) := rfl
      rw [e1, h.abs]; rfl
    rw [this]
  · have e2 := h.abs
    show (⟨X.c, X.s.W, X.s.k + 1, X.gs.map absG, X.acted, X.bad, X.ths.map absT⟩ : PS) = _
    rw [show X.c = cL (N : Int) from h.c_, hWX, hkX, show X.gs.map absG = none from congrArg PS.gh e2, show X.acted = a from congrArg PS.acted e2, show X.bad = false from congrArg PS.bad e2, show X.ths.map absT = [t] from congrArg PS.ths e2]
    rfl
end
/-- the law's own search, in a row -/
structure InS (l : List Nd) (n : Int) (k f : Nat) (d : Int) (i : Nat) (s : Int) : Prop where
  fi : f ≤ i
  il : i ≤ l.length
  ft : f = 0 ∨ (k : Int) < (ndAt l (f - 1)).tall
  a : s = 2 → nx l k f = nx l k i ∧ go l n k f d = endK l n k
  b : s ≠ 2 → nx l k f < l.length ∧ s = (nx l k f : Int) + 3 ∧ endK l n k = (f, d)
section
variable {l : List Nd} {n : Int} {k f : Nat} {d : Int} {i : Nat} {s : Int}
theorem InS.low (h : InS l n k f d i 2) (hi : i < l.length) (ht : ¬ (k : Int) < (ndAt l i).tall) : InS l n k f d (i + 1) 2 :=
  ⟨by have := h.fi; omega, hi, h.ft, fun _ => by rw [← nx_skip hi ht]; exact h.a rfl, fun hn => absurd rfl hn⟩
theorem InS.stop (h : InS l n k f d i 2) (hi : i < l.length) (ht : (k : Int) < (ndAt l i).tall) (hp : past l n k i = false) : InS l n k f d (i + 1) ((i : Int) + 3) := by
  obtain ⟨h1, h2⟩ := h.a rfl
  rw [nx_hit hi ht] at h1
  refine ⟨by have := h.fi; omega, hi, h.ft, fun he => by omega, fun _ => ⟨by omega, by rw [h1], ?_⟩⟩
  rw [← h2]
  exact go_stop fun _ => by rw [h1]; exact hp
theorem InS.pass (h : InS l n k f d i 2) (hi : i < l.length) (ht : (k : Int) < (ndAt l i).tall) (hp : past l n k i = true) : InS l n k (i + 1) (if k = 0 ∧ (ndAt l i).dead = true then (i : Int) + 3 else d) (i + 1) 2 := by
  obtain ⟨h1, h2⟩ := h.a rfl
  rw [nx_hit hi ht] at h1
  refine ⟨Nat.le_refl _, hi, .inr (by rw [Nat.add_sub_cancel]; exact ht), fun _ => ⟨rfl, ?_⟩, fun hn => absurd rfl hn⟩
  have hg := go_pass (l := l) (n := n) (k := k) (i := f) (d := d) (by omega) (by have := h.fi; omega) (by rw [h1]; exact hp)
  rw [← h2, hg, h1]
/-- at the row's end -/
theorem InS.fin (h : InS l n k f d i s) (he : i = l.length ∨ s ≠ 2) : endK l n k = (f, d) ∧ s = nodeN l (nx l k f) := by
  by_cases hs : s = 2
  · obtain rfl := he.resolve_right (fun hn => hn hs)
    obtain ⟨h1, h2⟩ := h.a hs
    rw [nx_end (Nat.lt_irrefl _)] at h1
    refine ⟨?_, ?_⟩
    · rw [← h2]; exact go_stop fun hh => by omega
    · unfold nodeN; rw [h1, if_neg (Nat.lt_irrefl _)]; exact hs
  · obtain ⟨h1, h2, h3⟩ := h.b hs
    exact ⟨h3, by unfold nodeN; rw [if_pos h1]; exact h2⟩
end
end Go.Proofs.YtbnbbafffihapaaGreat

