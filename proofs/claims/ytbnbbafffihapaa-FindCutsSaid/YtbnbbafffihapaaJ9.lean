/- Joined: Rk. -/
import Derived.Test.YtbnbbafffihapaaJ8
/- The law SkipShows: its walk. -/
namespace Go.Proofs.Ytbnbbafffihapaa
open Go.RowKit
attribute [local irreducible] Instr.loadAt Instr.storeAt Instr.fieldAt Instr.indexAt Instr.sliceAt Instr.buildSlice Instr.box Instr.alloc Builtin.append_ Builtin.len_ Builtin.min_ Builtin.max_ Calls Instr.build Instr.makeSlice binSem convert Instr.index Instr.range Instr.next
theorem and255 {P : Program} {K : Value → World → Prop} {w : World} {t : Nat} {y z : Operand} {x : Int} (m : Int) (hm : m = x % 256) (k : K (.int .i64 m) w) : RunP P (binSem .and t y z (.int .i64 x) (.int .i64 255)) K w :=
  rn _ _ (by
    have e : ((BitVec.ofInt 64 x &&& BitVec.ofInt 64 255).toNat : Int) = x % 256 := by
      rw [BitVec.toNat_and, BitVec.toNat_ofInt, BitVec.toNat_ofInt]
      rw [show ((255 : Int) % (2 ^ 64 : Nat)).toNat = 2 ^ 8 - 1 by decide, Nat.and_two_pow_sub_one_eq_mod]
      omega
    have e2 : IntKind.i64.wrap (x % 256) = x % 256 := IntWalk.i64_in _ (by omega)
    simp only [binSem, eqGuard, binOp, Op.intBits]
    show (Sem.pure (Value.int IntKind.i64 (IntKind.i64.wrap ((BitVec.ofInt 64 x &&& BitVec.ofInt 64 255).toNat : Int)))).run P w = _
    rw [e, e2, hm]
    rfl) k
theorem part0x {A : Int} (ho : okS A 20) (l : List Nd) : Part (WX A 20) 20 l 0 0 0 [1, 1, 1, 1] :=
  ⟨ho.1, ho.2.1, rfl, fun k hk => ⟨0, by rcases (show k = 0 ∨ k = 1 ∨ k = 2 ∨ k = 3 by omega) with rfl | rfl | rfl | rfl <;> rfl, Nat.zero_le _, .inl rfl, fun j h1 h2 => by unfold cnt at h2; rw [if_neg (by omega)] at h2; omega⟩,
    fun k f h1 h2 h3 h4 => by unfold cnt at h4; rw [if_neg (by omega)] at h4; omega, fun j hj => by omega⟩
theorem okS_20 {A : Int} (hA : inA A) : okS A 20 := by
  rcases hA with rfl | rfl
  · exact okS_1_20
  · exact okS_2_20
/-- nodes of fitting heights -/
def tallsOk (l : List Nd) : Prop := ∀ i, i < l.length → 1 ≤ (ndAt l i).tall ∧ (ndAt l i).tall ≤ 4
theorem tallsOk.nds {l : List Nd} (h : tallsOk l) (hl : l.length ≤ 18) (hu : NdU l) : NdsOk l 20 := ⟨by omega, by omega, by omega, fun i hi => ⟨(hu.at_ hi).1, h i hi⟩⟩
theorem layx_c {A : Int} (hA : inA A) {q : Int} (hq : 1 + q % 2 = A) {w w1 : World} {X : Mc} {k : Int} {t : PT} {v : Value} {l : List Nd} (F : FstX A w w1 X 20 k t) (hl : RdNd w v l) (hu : NdU l) (ht : tallsOk l) (h18 : l.length ≤ 18) :
    Fn Try.prog 19 #[ptrV X.m, .int .i64 q, v] w1 fun _ w' => ∃ Y W k' a, LX A w w' Y 20 W k' a t ∧ Y.m = X.m ∧ Laid W A l ∧ 0 ≤ k' ∧ k' ≤ 2000 := by
  have ho := okS_20 hA
  have hk0 := F.k0
  have key : Fn Try.prog 19 #[ptrV X.m, .int .i64 q, v] w1 fun _ w' => ∃ W' k' a', Ev w1 X w' (MX A 20 W' k' a' t) ∧ Lays W' 20 (lnk A l) ∧ VT W' 20 A l l.length ∧ (∀ x ∈ W', u64R x) ∧ 0 ≤ k' ∧ k' ≤ k + 400 := by
    rcases hA with rfl | rfl
    · exact layX_1 (by omega) F.new F.calm F.abs (part0x ho _) (ht.nds h18 hu) (fun x hx => (hu x hx).2) hl ⟨by omega, by omega⟩
    · exact layX_2 (by omega) F.new F.calm F.abs (part0x ho _) (ht.nds h18 hu) (fun x hx => (hu x hx).2) hl ⟨by omega, by omega⟩
  refine key.mono ?_
  rintro _ w2 ⟨u, he, W', k', a', hev, h1, h2, h3, h4, h5⟩
  obtain ⟨Y, H, hm, -⟩ := F.lx.ev hev
  exact ⟨u, he, Y, W', k', a', H, hm, ⟨hA, h1, h2, hu, h3⟩, h4, by omega⟩
theorem Laid.q {A : Int} {w w' : World} {X : Mc} {W : List Int} {k : Int} {a : Bool} {t : PT} {l : List Nd} (h : Laid W A l) (H : LX A w w' X 20 W k a t) : Qm w' X := H.q h.a (by omega) (by omega) h.ly.len h.u64
theorem rowget {l : List Nd} {k i : Nat} (hi : i < l.length) (hp : tallP l k i = true) : ((tallIx l k).map fun (i : Nat) => (i : Int) + 3).getD (rk (tallP l k) i) 0 = (i : Int) + 3 := by
  have := filter_at (tallP l k) hi hp
  unfold tallIx
  simp only [List.getD, List.getElem?_map, this]
  rfl
section
variable {w : World} {v : Value} {l : List Nd} {q more : Int}
set_option maxRecDepth 100000 in
set_option maxHeartbeats 4000000 in
theorem shows_law (hl : RdNd w v l) (hu : NdU l) : Fn Try.prog 5 #[.int .i64 q, v, .int .i64 more] w fun r w' => r = .bool true ∧ Upd [] w w' := by
  obtain ⟨va, vc, rfl, hv1, hv2⟩ := hl.form
  refine fn_enter Try.func5 rfl rfl ?_
  refine len_sl ?_
  refine cd (fun h18 => ?_) (fun h18 => ?_)
  · refine cl (lives24 _) ?_
    rintro _ w2 ⟨rfl, hu2⟩
    exact ⟨rfl, hu2⟩
  obtain ⟨A, hA⟩ : ∃ A : Int, 1 + q % 2 = A := ⟨_, rfl⟩
  have hA12 : inA A := by unfold inA; omega
  refine cl (fstx_c (N := 20) hA12 hA (.inl rfl) (okS_20 hA12) _) ?_
  rintro _ w1 ⟨X, k, t, rfl, F⟩
  refine ptr_eq ?_
  refine loop_rule [0, 1, 2, 7] [8] (fun vs w' m => ∃ i : Nat, vs = [.int .i64 (i : Int)] ∧ i ≤ l.length ∧ m = l.length - i ∧ (∀ j, j < i → 1 ≤ (ndAt l j).tall ∧ (ndAt l j).tall ≤ 4) ∧ w' = w1) rfl [.int .i64 0] l.length rfl ⟨0, rfl, by omega, rfl, fun j hj => by omega, rfl⟩ ?_
  rintro _ w1' m ⟨i, rfl, hi, rfl, hall, rfl⟩
  have hl1 := hl.upd0 F.new.up
  refine len_sl ?_
  refine cd (fun hlt => ?_) (fun hlt => ?_)
  · have hlt : i < l.length := by omega
    obtain ⟨b, o, cap, he, -⟩ := hl.some_ (by omega)
    cases he
    refine ix i rfl hlt ?_
    refine fa ?_
    refine ld (v := .int .i64 (ndAt l i).tall) (by rw [(hl1).nd rfl i hlt 2 (by omega)]; rfl) ?_
    refine cd (fun h1 => ?_) (fun h1 => ?_)
    · refine cl (lives24 _) ?_
      rintro _ w2 ⟨rfl, hu2⟩
      exact ⟨rfl, F.new.up.trans hu2⟩
    refine ix i rfl hlt ?_
    refine fa ?_
    refine ld (v := .int .i64 (ndAt l i).tall) (by rw [(hl1).nd rfl i hlt 2 (by omega)]; rfl) ?_
    refine cd (fun h2 => ?_) (fun h2 => ?_)
    · refine cl (lives24 _) ?_
      rintro _ w2 ⟨rfl, hu2⟩
      exact ⟨rfl, F.new.up.trans hu2⟩
    refine ar64 (by omega) ?_
    refine round_mk [.int .i64 ((i + 1 : Nat) : Int)] (l.length - (i + 1)) rfl rfl ⟨i + 1, rfl, by omega, rfl, fun j hj => ?_, rfl⟩ (by omega)
    rcases Nat.lt_or_ge j i with h | h
    · exact hall j h
    · obtain rfl : j = i := by omega
      omega
  have ht : tallsOk l := fun j hj => hall j (by omega)
  refine cl (layx_c hA12 hA F hl hu ht (by omega)) ?_
  rintro _ w2 ⟨Y, W, k', a, H, hm, hLd, -, -⟩
  rw [← hm]
  have Q := hLd.q H
  have hl2 := hl.upd0 H.new.up
  have hfew := hLd.few
  refine loop_rule [0, 1, 2, 7] [9] (fun vs w' m => ∃ kk : Nat, vs = [.int .i64 (kk : Int)] ∧ kk ≤ 4 ∧ m = 4 - kk ∧ Upd [] w2 w') rfl [.int .i64 0] 4 rfl ⟨0, rfl, by omega, rfl, .refl _ _⟩ ?_
  rintro _ w3 m ⟨kk, rfl, hkk, rfl, hu3⟩
  refine cd (fun hk4 => ?_) (fun hk4 => ?_)
  · have hk4 : kk < 4 := by omega
    refine cl (row_q (Q.upd0 hu3) (kk : Int) ⟨by omega, by omega⟩) ?_
    rintro rv w4 ⟨hG, hu4⟩
    rw [H.c_, H.w_, hLd.rowi hk4] at hG
    have hll : ((tallIx l kk).map fun (i : Nat) => (i : Int) + 3).length = rk (tallP l kk) l.length := by rw [List.length_map]; rfl
    have hrkl := rk_le (tallP l kk) l.length
    obtain ⟨ra, rc, rfl, -⟩ := hG.s.form
    refine loop_rule [0, 1, 2, 7, 9, 10] [11, 12] (fun vs w' m => ∃ i : Nat, vs = [.int .i64 (rk (tallP l kk) i : Int), .int .i64 (i : Int)] ∧ i ≤ l.length ∧ m = l.length - i ∧ w' = w4) rfl [.int .i64 0, .int .i64 0] l.length rfl ⟨0, rfl, by omega, rfl, rfl⟩ ?_
    rintro _ w5 m ⟨i, rfl, hi, rfl, rfl⟩
    have hl5 := (hl2.upd0 hu3).upd0 hu4
    have hrk := rk_le (tallP l kk) i
    refine len_sl ?_
    refine cd (fun hlt => ?_) (fun hlt => ?_)
    · have hlt : i < l.length := by omega
      obtain ⟨b, o, cap, he, -⟩ := hl.some_ (by omega)
      cases he
      have hrs := rk_s (tallP l kk) i
      refine ix i rfl hlt ?_
      refine fa ?_
      refine ld (v := .int .i64 (ndAt l i).tall) (by rw [(hl5).nd rfl i hlt 2 (by omega)]; rfl) ?_
      refine cd (fun h1 => ?_) (fun h1 => ?_)
      · have hp : tallP l kk i = true := by unfold tallP; exact decide_eq_true (by omega)
        have hrl := rk_lt (tallP l kk) hlt hp
        rw [hp, if_pos rfl] at hrs
        obtain ⟨rb, ro, rc', he, -⟩ := hG.s.some_ (by omega)
        cases he
        refine len_sl ?_
        refine cN (by omega) ?_
        refine ix (rk (tallP l kk) i) rfl (by omega) ?_
        refine ld (v := .int .i64 ((i : Int) + 3)) (by have := hG.s.getD_ rfl (rk (tallP l kk) i) (by omega); rw [rowget hlt hp] at this; exact this) ?_
        refine ar64 (by omega) ?_
        refine cN (fun h => h rfl) ?_
        refine ar64 (by omega) ?_
        refine ar64 (by omega) ?_
        exact round_mk [.int .i64 ((rk (tallP l kk) i : Int) + 1), .int .i64 ((i + 1 : Nat) : Int)] (l.length - (i + 1)) rfl rfl ⟨i + 1, by rw [hrs]; rfl, by omega, rfl, rfl⟩ (by omega)
      · have hp : tallP l kk i = false := by unfold tallP; exact decide_eq_false (by omega)
        rw [hp, if_neg (by decide)] at hrs
        refine ar64 (by omega) ?_
        exact round_mk [.int .i64 (rk (tallP l kk) i : Int), .int .i64 ((i + 1 : Nat) : Int)] (l.length - (i + 1)) rfl rfl ⟨i + 1, by rw [hrs]; rfl, by omega, rfl, rfl⟩ (by omega)
    · obtain rfl : i = l.length := by omega
      refine len_sl ?_
      refine cN (fun h => h (by rw [hll])) ?_
      refine ar64 (by omega) ?_
      exact round_mk [.int .i64 ((kk + 1 : Nat) : Int)] (4 - (kk + 1)) rfl rfl ⟨kk + 1, rfl, by omega, rfl, hu3.trans hu4⟩ (by omega)
  have Q3 := Q.upd0 hu3
  refine cl (live_q Q3) ?_
  rintro xv w4 ⟨hG, hu4⟩
  rw [H.c_, H.w_] at hG
  have hlv := hLd.lv
  have hll : (lvL (cA A ((20 : Nat) : Int)) W).length = rk (liveP l) l.length := by rw [hlv, List.length_map]; rfl
  rw [hll] at hG
  obtain ⟨xa, xc, rfl, -⟩ := hG.s.form
  have hlat : ∀ i, i < l.length → liveP l i = true → (lvL (cA A ((20 : Nat) : Int)) W)[rk (liveP l) i]? = some (stN (lnk A l) 0 i) := fun i hi hp => by
    rw [hlv, List.getElem?_map, filter_at (liveP l) hi hp]; rfl
  generalize lvL (cA A ((20 : Nat) : Int)) W = LV at *
  have hrkL := rk_le (liveP l) l.length
  have hrkD := rk_le (deadP l) l.length
  refine loop_rule [0, 1, 2, 7, 13] [14, 15, 16] (fun vs w' m => ∃ i : Nat, vs = [.int .i64 (rk (liveP l) i : Int), .int .i64 (rk (deadP l) i : Int), .int .i64 (i : Int)] ∧ i ≤ l.length ∧ m = l.length - i ∧ Upd [] w4 w') rfl [.int .i64 0, .int .i64 0, .int .i64 0] l.length rfl ⟨0, rfl, by omega, rfl, .refl _ _⟩ ?_
  rintro _ w9 m ⟨i, rfl, hi, rfl, hu9⟩
  have hl9 := ((hl2.upd0 hu3).upd0 hu4).upd0 hu9
  have hrk := rk_le (liveP l) i
  have hrkd := rk_le (deadP l) i
  refine len_sl ?_
  refine cd (fun hlt => ?_) (fun hlt => ?_)
  · have hlt : i < l.length := by omega
    obtain ⟨b, o, cap, he, -⟩ := hl.some_ (by omega)
    cases he
    have hrs := rk_s (liveP l) i
    have hrd := rk_s (deadP l) i
    refine ix i rfl hlt ?_
    refine fa ?_
    cases hd : (ndAt l i).dead with
    | true =>
      rw [show liveP l i = false by unfold liveP; rw [hd]; rfl, if_neg (by decide)] at hrs
      rw [show deadP l i = true from hd, if_pos rfl] at hrd
      refine ld (v := .bool true) (by rw [hl9.nd rfl i hlt 3 (by omega), ndL, hd]; rfl) ?_
      refine ar64 (by omega) ?_
      refine ar64 (by omega) ?_
      exact round_mk [.int .i64 (rk (liveP l) i : Int), .int .i64 ((rk (deadP l) i : Int) + 1), .int .i64 ((i + 1 : Nat) : Int)] (l.length - (i + 1)) rfl rfl ⟨i + 1, by rw [hrs, hrd]; rfl, by omega, rfl, hu9⟩ (by omega)
    | false =>
      have hp : liveP l i = true := by unfold liveP; rw [hd]; rfl
      rw [hp, if_pos rfl] at hrs
      rw [show deadP l i = false from hd, if_neg (by decide)] at hrd
      refine ld (v := .bool false) (by rw [hl9.nd rfl i hlt 3 (by omega), ndL, hd]; rfl) ?_
      have hrl := rk_lt (liveP l) hlt hp
      have hLat := hlat i hlt hp
      obtain ⟨pb, po, pc, he, -⟩ := hG.s.some_ (by omega)
      cases he
      refine draw_all (fun w' => Upd [] w9 w') (by decide +kernel) (Upd.refl [] w9).drew ?_
      refine q_len ?_
      refine cN (by omega) ?_
      refine q_ix (rk (liveP l) i) rfl (by omega) ?_
      refine q_fa ?_
      refine q_ld (v := .int .u32 (ndAt l i).key) (fun w' hw' => by
          have hs := ((hG.upd0 (hu9.trans hw')).s).cells rfl
          have hc := flat2_at (fun s : Int × Bool => pairV (cA A ((20 : Nat) : Int)) W s.1) (fun s => ⟨_, _, rfl⟩) _ _ _ hLat
          rw [show po + rk (liveP l) i * 2 + 0 = po + (rk (liveP l) i * 2 + 0) by omega, (hs (rk (liveP l) i * 2 + 0) (by omega)).1]
          exact hc.1.trans (by show (pairV _ W ((i : Int) + 3))[0]? = _; rw [hLd.pair hlt]; rfl)) ?_
      refine q_ix i rfl hlt ?_
      refine q_fa ?_
      refine q_ld (v := .int .u32 (ndAt l i).key) (fun w' hw' => by rw [(hl9.upd0 hw').nd rfl i hlt 0 (by omega)]; rfl) ?_
      refine cN (fun h => h rfl) ?_
      refine q_ix (rk (liveP l) i) rfl (by omega) ?_
      refine q_fa ?_
      refine q_ld (v := .int .u32 (ndAt l i).val) (fun w' hw' => by
          have hs := ((hG.upd0 (hu9.trans hw')).s).cells rfl
          have hc := flat2_at (fun s : Int × Bool => pairV (cA A ((20 : Nat) : Int)) W s.1) (fun s => ⟨_, _, rfl⟩) _ _ _ hLat
          rw [show po + rk (liveP l) i * 2 + 1 = po + (rk (liveP l) i * 2 + 1) by omega, (hs (rk (liveP l) i * 2 + 1) (by omega)).1]
          exact hc.2.trans (by show (pairV _ W ((i : Int) + 3))[1]? = _; rw [hLd.pair hlt]; rfl)) ?_
      refine q_ix i rfl hlt ?_
      refine q_fa ?_
      refine q_ld (v := .int .u32 (ndAt l i).val) (fun w' hw' => by rw [(hl9.upd0 hw').nd rfl i hlt 1 (by omega)]; rfl) ?_
      intro wa hwa
      refine cN (fun h => h rfl) ?_
      refine ar64 (by omega) ?_
      refine ar64 (by omega) ?_
      exact round_mk [.int .i64 ((rk (liveP l) i : Int) + 1), .int .i64 (rk (deadP l) i : Int), .int .i64 ((i + 1 : Nat) : Int)] (l.length - (i + 1)) rfl rfl ⟨i + 1, by rw [hrs, hrd]; rfl, by omega, rfl, hu9.trans hwa⟩ (by omega)
  · obtain rfl : i = l.length := by omega
    have Q9 := (Q3.upd0 hu4).upd0 hu9
    refine len_sl ?_
    refine cY rfl ?_
    refine cl (dead_q Q9) ?_
    rintro _ wa ⟨rfl, hua⟩
    rw [H.c_, H.w_, hLd.dn]
    refine cY rfl ?_
    refine and255 (more % 256) rfl ?_
    refine ar64 (by omega) ?_
    refine cl (row_q (Q9.upd0 hua) (4 + more % 256) ⟨by omega, by omega⟩) ?_
    rintro rv wb ⟨hGb, hub⟩
    rw [H.c_, rowI, if_pos (.inr (.inr (by show 4 + more % 256 ≥ 4; omega)))] at hGb
    obtain ⟨ra, rc, rfl, -⟩ := hGb.s.form
    refine len_sl ?_
    refine cl (row_q ((Q9.upd0 hua).upd0 hub) (-1) ⟨by omega, by omega⟩) ?_
    rintro rv wc ⟨hGc, huc⟩
    rw [H.c_, rowI, if_pos (.inr (.inl (by decide)))] at hGc
    obtain ⟨ra3, rc3, rfl, -⟩ := hGc.s.form
    refine len_sl ?_
    refine cl (lives24 _) ?_
    rintro _ wd ⟨rfl, hud⟩
    refine ⟨?_, ((((((H.new.up.trans hu3).trans hu4).trans hu9).trans hua).trans hub).trans huc).trans hud⟩
    show Value.bool _ = _
    simp
end
theorem SkipShows_walk (w : World) (q : Int) (_ : (Lit.int .i64 q).wf) (v : Value) (l : List Nd) (h : RdNd w v l) (hu : NdU l) (more : Int) (_ : (Lit.int .i64 more).wf) :
    Calls Try.prog 5 #[.int .i64 q, v, .int .i64 more] w fun e w' => e = .returned (.bool true) ∧ Below w.heap.size w w' :=
  (shows_law h hu).mono fun _ _ ⟨_, he, hr, hup⟩ => ⟨by rw [he, hr], hup.below⟩
end Go.Proofs.Ytbnbbafffihapaa

