/- Joined: Lp. -/
import Derived.Test.YtbnbbafffihapaaJ5
/- The law LocateSeeks: its walk. -/
namespace Go.Proofs.Ytbnbbafffihapaa
open Go.RowKit
attribute [local irreducible] Instr.loadAt Instr.storeAt Instr.fieldAt Instr.indexAt Instr.sliceAt Instr.buildSlice Instr.box Instr.alloc Builtin.append_ Builtin.len_ Builtin.min_ Builtin.max_ Calls Instr.build Instr.makeSlice binSem convert Instr.index Instr.range Instr.next
/-- where row k begins -/
def rowB (l : List Nd) (n : Int) (k : Nat) : Nat := if k = 3 then 0 else (endK l n (k + 1)).1
theorem rowB_go {l : List Nd} {n : Int} {k : Nat} (hk : k < 4) : go l n k (rowB l n k) 0 = endK l n k := by
  unfold rowB
  by_cases h : k = 3
  · subst h; rw [if_pos rfl, endK_top]
  · rw [if_neg h]; exact (endK_step (by omega)).symm
theorem go_ok {l : List Nd} {n : Int} {k : Nat} : ∀ (i : Nat) (d : Int), i ≤ l.length → (i = 0 ∨ (k : Int) < (ndAt l (i - 1)).tall) → (go l n k i d).1 ≤ l.length ∧ ((go l n k i d).1 = 0 ∨ (k : Int) < (ndAt l ((go l n k i d).1 - 1)).tall) ∧ i ≤ (go l n k i d).1 := by
  intro i
  induction hm : l.length - i using Nat.strongRecOn generalizing i with
  | ind m ih =>
    intro d hi ht
    by_cases h : nx l k i < l.length ∧ past l n k (nx l k i) = true
    · have hg := nx_ge (l := l) (k := k) i hi
      rw [go_pass h.1 hi h.2]
      have := ih (l.length - (nx l k i + 1)) (by omega) (nx l k i + 1) rfl (if k = 0 ∧ (ndAt l (nx l k i)).dead = true then (nx l k i : Int) + 3 else d) (by omega) (.inr (by rw [Nat.add_sub_cancel]; exact hg.2.2 h.1))
      exact ⟨this.1, this.2.1, by omega⟩
    · rw [go_stop (fun h1 => by
        cases hp : past l n k (nx l k i) with
        | true => exact absurd ⟨h1, hp⟩ h
        | false => rfl)]
      exact ⟨hi, ht, Nat.le_refl _⟩
theorem endK_ok {l : List Nd} {n : Int} : ∀ (j k : Nat), j + k = 3 → (endK l n k).1 ≤ l.length ∧ ((endK l n k).1 = 0 ∨ (k : Int) < (ndAt l ((endK l n k).1 - 1)).tall) := by
  intro j
  induction j with
  | zero =>
    intro k hk
    obtain rfl : k = 3 := by omega
    rw [endK_top]
    have := go_ok (l := l) (n := n) (k := 3) 0 0 (by omega) (.inl rfl)
    exact ⟨this.1, this.2.1⟩
  | succ j ih =>
    intro k hk
    rw [endK_step (by omega)]
    obtain ⟨h1, h2⟩ := ih (k + 1) (by omega)
    have := go_ok (l := l) (n := n) (k := k) (endK l n (k + 1)).1 0 h1 (h2.imp id (fun h => by omega))
    exact ⟨this.1, this.2.1⟩
theorem rowB_ok {l : List Nd} {n : Int} {k : Nat} (hk : k < 4) : rowB l n k ≤ l.length ∧ (rowB l n k = 0 ∨ (k : Int) < (ndAt l (rowB l n k - 1)).tall) := by
  unfold rowB
  by_cases h : k = 3
  · rw [if_pos h]; exact ⟨by omega, .inl rfl⟩
  · rw [if_neg h]
    obtain ⟨h1, h2⟩ := endK_ok (l := l) (n := n) (3 - (k + 1)) (k + 1) (by omega)
    exact ⟨h1, h2.imp id (fun h => by omega)⟩
theorem endK_d {l : List Nd} {n : Int} {k : Nat} (hk : 0 < k) (hk4 : k < 4) : (endK l n k).2 = 0 := by
  rw [← rowB_go hk4]
  have : ∀ (i : Nat) (d : Int), i ≤ l.length → d = 0 → (go l n k i d).2 = 0 := by
    intro i
    induction hm : l.length - i using Nat.strongRecOn generalizing i with
    | ind m ih =>
      intro d hi hd
      by_cases h : nx l k i < l.length ∧ past l n k (nx l k i) = true
      · have hg := nx_ge (l := l) (k := k) i hi
        rw [go_pass h.1 hi h.2]
        exact ih (l.length - (nx l k i + 1)) (by omega) (nx l k i + 1) rfl _ (by omega) (by rw [if_neg (by omega)]; exact hd)
      · rw [go_stop (fun h1 => by
          cases hp : past l n k (nx l k i) with
          | true => exact absurd ⟨h1, hp⟩ h
          | false => rfl)]
        exact hd
  exact this _ _ (rowB_ok hk4).1 rfl
theorem endK_db {l : List Nd} {n : Int} (hl : l.length ≤ 100) : 0 ≤ (endK l n 0).2 ∧ (endK l n 0).2 ≤ 103 := by
  rw [← rowB_go (by omega)]
  have : ∀ (i : Nat) (d : Int), i ≤ l.length → 0 ≤ d ∧ d ≤ 103 → 0 ≤ (go l n 0 i d).2 ∧ (go l n 0 i d).2 ≤ 103 := by
    intro i
    induction hm : l.length - i using Nat.strongRecOn generalizing i with
    | ind m ih =>
      intro d hi hd
      by_cases h : nx l 0 i < l.length ∧ past l n 0 (nx l 0 i) = true
      · have hg := nx_ge (l := l) (k := 0) i hi
        rw [go_pass h.1 hi h.2]
        exact ih (l.length - (nx l 0 i + 1)) (by omega) (nx l 0 i + 1) rfl _ (by omega) (by split <;> omega)
      · rw [go_stop (fun h1 => by
          cases hp : past l n 0 (nx l 0 i) with
          | true => exact absurd ⟨h1, hp⟩ h
          | false => rfl)]
        exact hd
  exact this _ _ (rowB_ok (by omega)).1 ⟨by omega, by omega⟩
section
variable {w : World} {v : Value} {l : List Nd} {n : Int}
set_option maxRecDepth 100000 in
set_option maxHeartbeats 4000000 in
theorem seeks_law (hl : RdNd w v l) (hu : NdU l) (hn : u64R n) : Fn Try.prog 6 #[v, .int .u64 n] w fun r w' => r = .bool true ∧ Upd [] w w' := by
  obtain ⟨va, vc, rfl, hv1, hv2⟩ := hl.form
  refine fn_enter Try.func6 rfl rfl ?_
  refine cl (laid_c hl hu) ?_
  rintro _ w1 (⟨rfl, hu1, -⟩ | ⟨hP, X, W, k, a, t, rfl, H, hL, hW, hfs, hlens, hk0, hk1⟩)
  · refine ptr_eq0 ?_
    refine cl (lives27 _) ?_
    rintro _ w2 ⟨rfl, hu2⟩
    exact ⟨rfl, hu1.trans hu2⟩
  refine ptr_eq ?_
  have hB : Bas l n 20 W (W.getD 1 0) W t := ⟨hL, .refl _, hW, rfl, hlens⟩
  have h18 := hP.1
  refine cl (seek_c H.new.ok H.calm H.abs hfs hB hn ⟨by omega, by omega⟩) ?_
  rintro _ w2 ⟨rfl, W', k', t', hev, hF, hk2, hk3⟩
  obtain ⟨Y, H2, hm, hp2⟩ := H.ev' hev
  obtain ⟨th, e1, e2, eth⟩ := H2.thr
  have htm := thread_mm (i := 0) H2.new.ok e1 e2
  rw [hm] at htm
  refine cl htm ?_
  rintro _ w2 ⟨rfl, rfl⟩
  obtain ⟨l1, l2, l3⟩ := hF.b.lens
  rw [← eth, absT_P] at l1
  rw [← eth, absT_S] at l2
  rw [← eth, absT_W] at l3
  have hcr : rightC (cL ((20 : Nat) : Int)) := cL_right (by omega) (by omega)
  refine loop_rule [0, 1, 5, 6] [7, 8, 9] (fun vs w' m => ∃ (kn : Nat), vs = [.int .i64 ((if kn = 0 then ((endK l n 0).1 : Int) else (rowB l n (kn - 1) : Int)) - 1), .int .i64 (if kn = 0 then (endK l n 0).2 else 0), .int .i64 ((kn : Int) - 1)] ∧ kn ≤ 4 ∧ kn = m ∧
      ∃ Z kz a', LM w w' Z 20 W' kz a' t' ∧ Z.m = X.m ∧ Z.ths = Y.ths ∧ 0 ≤ kz ∧ kz ≤ 5000 - kn) rfl [.int .i64 (-1), .int .i64 0, .int .i64 3] 4 rfl ?_ ?_
  · exact ⟨4, by simp [rowB], by omega, rfl, Y, k', true, H2, hm, rfl, by omega, by omega⟩
  rintro _ w3 m ⟨kn, rfl, hkn, rfl, Z, kz, a', HZ, hmZ, htZ, hkz, hkz2⟩
  have hth : Z.ths[0]? = some th := by rw [htZ]; exact e1
  refine cd (fun hkk => ?_) (fun hkk => ?_)
  · obtain ⟨kk, rfl⟩ : ∃ kk, kn = kk + 1 := ⟨kn - 1, by omega⟩
    have hk4 : kk < 4 := by omega
    obtain ⟨hr1, hr2⟩ := rowB_ok (l := l) (n := n) hk4
    have hI0 : InS l n kk (rowB l n kk) 0 (rowB l n kk) 2 := ⟨Nat.le_refl _, hr1, hr2, fun _ => ⟨rfl, rowB_go hk4⟩, fun h => absurd rfl h⟩
    rw [if_neg (Nat.succ_ne_zero kk), if_neg (Nat.succ_ne_zero kk), Nat.add_sub_cancel, show ((kk + 1 : Nat) : Int) - 1 = (kk : Int) by omega]
    refine ar64 (by omega) ?_
    rw [show (rowB l n kk : Int) - 1 + 1 = (rowB l n kk : Int) by omega]
    refine loop_rule [0, 1, 5, 6, 9] [7, 8, 10, 11] (fun vs w' m => ∃ (f i : Nat) (d s : Int), vs = [.int .i64 ((f : Int) - 1), .int .i64 d, .int .i64 s, .int .i64 (i : Int)] ∧ InS l n kk f d i s ∧ m = l.length - i ∧ w' = w3) rfl [.int .i64 ((rowB l n kk : Int) - 1), .int .i64 0, .int .i64 2, .int .i64 (rowB l n kk : Int)] (l.length - rowB l n kk) rfl
      ⟨_, _, _, _, rfl, hI0, rfl, rfl⟩ ?_
    rintro _ w4 m ⟨f, i, d, s, rfl, hI, rfl, rfl⟩
    have hl4 := hl.upd0 HZ.new.up
    have hil := hI.il
    refine len_sl ?_
    refine cd (fun hlt => ?_) (fun hlt => ?_)
    · have hlt : i < l.length := by omega
      refine cd (fun hs2 => ?_) (fun hs2 => ?_)
      · subst hs2
        obtain ⟨b, o, cap, he, -⟩ := hl4.some_ (by omega)
        cases he
        refine ix i rfl hlt ?_
        refine fa ?_
        refine ld (v := .int .i64 (ndAt l i).tall) (by rw [hl4.nd rfl i hlt 2 (by omega)]; rfl) ?_
        refine cd (fun hta => ?_) (fun hta => ?_)
        · refine ar64 (by omega) ?_
          exact round_mk [.int .i64 ((f : Int) - 1), .int .i64 d, .int .i64 2, .int .i64 ((i + 1 : Nat) : Int)] (l.length - (i + 1)) rfl rfl ⟨f, i + 1, d, 2, rfl, hI.low hlt (by omega), rfl, rfl⟩ (by omega)
        · refine cl (past_c hl4 hu n kk i hlt (by omega) hk4) ?_
          rintro _ w4 ⟨rfl, rfl⟩
          cases hp : past l n kk i with
          | false =>
            refine ar64 (by omega) ?_
            refine ar64 (by omega) ?_
            exact round_mk [.int .i64 ((f : Int) - 1), .int .i64 d, .int .i64 ((i : Int) + 3), .int .i64 ((i + 1 : Nat) : Int)] (l.length - (i + 1)) rfl rfl ⟨f, i + 1, d, _, rfl, hI.stop hlt (by omega) hp, rfl, rfl⟩ (by omega)
          | true =>
            have hI' := hI.pass hlt (by omega) hp
            by_cases hk0 : kk = 0
            · subst hk0
              cases hd : (ndAt l i).dead with
              | true =>
                rw [if_pos ⟨rfl, hd⟩] at hI'
                refine ix i rfl hlt ?_
                refine fa ?_
                refine ld (v := .bool true) (by rw [hl4.nd rfl i hlt 3 (by omega), ndL, hd]; rfl) ?_
                refine ar64 (by omega) ?_
                refine ar64 (by omega) ?_
                exact round_mk [.int .i64 (i : Int), .int .i64 ((i : Int) + 3), .int .i64 2, .int .i64 ((i + 1 : Nat) : Int)] (l.length - (i + 1)) rfl rfl ⟨i + 1, i + 1, _, 2, by rw [show ((i + 1 : Nat) : Int) - 1 = (i : Int) by omega], hI', rfl, rfl⟩ (by omega)
              | false =>
                rw [if_neg (fun h => by rw [hd] at h; exact absurd h.2 (by decide))] at hI'
                refine ix i rfl hlt ?_
                refine fa ?_
                refine ld (v := .bool false) (by rw [hl4.nd rfl i hlt 3 (by omega), ndL, hd]; rfl) ?_
                refine ar64 (by omega) ?_
                exact round_mk [.int .i64 (i : Int), .int .i64 d, .int .i64 2, .int .i64 ((i + 1 : Nat) : Int)] (l.length - (i + 1)) rfl rfl ⟨i + 1, i + 1, _, 2, by rw [show ((i + 1 : Nat) : Int) - 1 = (i : Int) by omega], hI', rfl, rfl⟩ (by omega)
            · rw [if_neg (fun h => hk0 h.1)] at hI'
              refine cN (by omega) ?_
              refine ar64 (by omega) ?_
              exact round_mk [.int .i64 (i : Int), .int .i64 d, .int .i64 2, .int .i64 ((i + 1 : Nat) : Int)] (l.length - (i + 1)) rfl rfl ⟨i + 1, i + 1, _, 2, by rw [show ((i + 1 : Nat) : Int) - 1 = (i : Int) by omega], hI', rfl, rfl⟩ (by omega)
      · obtain ⟨hE, hsn⟩ := hI.fin (.inr hs2)
        obtain ⟨S0, S1, S2, -, -⟩ := hF.all kk hk4
        rw [hE] at S0 S1 S2
        have hfl : f ≤ l.length := by have := hI.fi; have := hI.il; omega
        have hwd := wd_ptr l (by omega) kk f
        refine cd (fun hf0 => ?_) (fun hf0 => ?_)
        · refine ar64 (by omega) ?_
          have hpe : (f : Int) - 1 + 3 = predN f := by unfold predN; rw [if_neg (by omega)]; omega
          rw [hpe]
          have hpe : predN f = predN f := rfl
          have hsb : 2 ≤ s ∧ s ≤ 103 := by rw [hsn]; unfold nodeN; split <;> omega
          have hpb : 1 ≤ predN f ∧ predN f ≤ 20 := by unfold predN; split <;> omega
          have mm := mem_mm HZ.new.ok
          rw [hmZ] at mm
          refine cl mm ?_
          rintro _ w6 ⟨rfl, rfl⟩
          have pm := plan_mm HZ.new.ok
          rw [hmZ] at pm
          refine cl pm ?_
          rintro _ w7 ⟨rfl, hu7⟩
          have HZ7 := HZ.upd0 hu7
          rw [HZ.c_]
          refine ar64 (by omega) ?_
          refine cl (node_a2 hcr (predN f) (5 + (kk : Int)) w7) ?_
          rintro _ w8 ⟨rfl, hu8⟩
          have HZ8 := HZ7.upd0 hu8
          have hnode : ∀ x : Int, x = predN f → (cL ((20 : Nat) : Int)).node x (5 + (kk : Int)) = (adr 20 f (5 + kk) : Int) := fun x hx => by rw [hx, show (5 : Int) + (kk : Int) = ((5 + kk : Nat) : Int) by omega, adr_node (N := 20) (by omega) (by omega)]
          rw [hnode (predN f) hpe]
          have had : adr 20 f (5 + kk) < W'.length := by rw [hF.b.wl]; exact adr_lt (by omega) (by omega)
          have hwv : W'.getD (adr 20 f (5 + kk)) 0 = wd l kk f := (hF.b.lays.same hF.b.same).link kk f hk4 hfl hI.ft
          refine cl (HZ8.load (by omega) had) ?_
          rintro _ w9 ⟨rfl, Z9, HZ9, hm9, ht9, hp9⟩
          rw [hwv]
          have e9 : Z9.ths[0]? = some th := by rw [ht9]; exact hth
          have hb9 := (HZ9.new.ok.core e9).blk
          obtain ⟨b1, o1, c1, hv1, hc1⟩ := slot_at (HZ9.new.ok.pv_ e9) l1
          obtain ⟨b2, o2, c2, hv2, hc2⟩ := slot_at (HZ9.new.ok.sv_ e9) l2
          obtain ⟨b3, o3, c3, hv3, hc3⟩ := slot_at (HZ9.new.ok.wv_ e9) l3
          rw [hv1, hv2, hv3] at hb9
          refine fa ?_
          refine ldb hb9 rfl ?_
          refine ix kk rfl hk4 ?_
          refine ld (v := .int .u64 (predN f)) (by rw [hc1 kk hk4, ← absT_P, eth, S0]; skip) ?_
          refine cv ?_
          refine arU (by omega) ?_
          refine cN (fun h => h rfl) ?_
          refine fa ?_
          refine ldb hb9 rfl ?_
          refine ix kk rfl hk4 ?_
          refine ld (v := .int .u64 s) (by rw [hc2 kk hk4, ← absT_S, eth, S1, ← hsn]) ?_
          refine cv ?_
          refine arU (by omega) ?_
          refine cN (fun h => h rfl) ?_
          refine fa ?_
          refine ldb hb9 rfl ?_
          refine ix kk rfl hk4 ?_
          refine ld (v := .int .u64 (wd l kk f)) (by rw [hc3 kk hk4, ← absT_W, eth, S2]) ?_
          refine cN (fun h => h rfl) ?_
          have hwr := hwd.2.2
          refine qu (by decide) ?_
          refine val (wd l kk f / 2) (by rw [Int.tdiv_eq_ediv_of_nonneg hwr.1, IntKind.wrap_u64]; have h1 := hwr.1; have h2 := hwr.2; omega) ?_
          refine rm (by decide) ?_
          refine val s (by rw [Int.tmod_eq_emod_of_nonneg (by have := hwr.1; omega), hsn]; exact hwd.1) ?_
          refine cv ?_
          refine arU (by omega) ?_
          refine cN (fun h => h rfl) ?_
          refine ar64 (by omega) ?_
          refine round_mk [.int .i64 ((f : Int) - 1), .int .i64 d, .int .i64 ((kk : Int) - 1)] kk rfl rfl ⟨kk, ?_, by omega, rfl, Z9, kz + 1, a', HZ9, hm9.trans hmZ, ht9.trans htZ, by omega, by omega⟩ (by omega)
          by_cases hk0 : kk = 0
          · subst hk0
            rw [if_pos rfl, if_pos rfl, hE]
          · rw [if_neg hk0, if_neg hk0]
            have hd0 := endK_d (l := l) (n := n) (k := kk) (by omega) hk4
            rw [hE] at hd0
            have hrb : rowB l n (kk - 1) = f := by
              unfold rowB
              rw [if_neg (by omega), show kk - 1 + 1 = kk by omega, hE]
            rw [hrb, ← hd0]
        · have hpe : (1 : Int) = predN f := by unfold predN; rw [if_pos (by omega)]
          have hsb : 2 ≤ s ∧ s ≤ 103 := by rw [hsn]; unfold nodeN; split <;> omega
          have hpb : 1 ≤ predN f ∧ predN f ≤ 20 := by unfold predN; split <;> omega
          have mm := mem_mm HZ.new.ok
          rw [hmZ] at mm
          refine cl mm ?_
          rintro _ w6 ⟨rfl, rfl⟩
          have pm := plan_mm HZ.new.ok
          rw [hmZ] at pm
          refine cl pm ?_
          rintro _ w7 ⟨rfl, hu7⟩
          have HZ7 := HZ.upd0 hu7
          rw [HZ.c_]
          refine ar64 (by omega) ?_
          refine cl (node_a2 hcr 1 (5 + (kk : Int)) w7) ?_
          rintro _ w8 ⟨rfl, hu8⟩
          have HZ8 := HZ7.upd0 hu8
          have hnode : ∀ x : Int, x = predN f → (cL ((20 : Nat) : Int)).node x (5 + (kk : Int)) = (adr 20 f (5 + kk) : Int) := fun x hx => by rw [hx, show (5 : Int) + (kk : Int) = ((5 + kk : Nat) : Int) by omega, adr_node (N := 20) (by omega) (by omega)]
          rw [hnode 1 hpe]
          have had : adr 20 f (5 + kk) < W'.length := by rw [hF.b.wl]; exact adr_lt (by omega) (by omega)
          have hwv : W'.getD (adr 20 f (5 + kk)) 0 = wd l kk f := (hF.b.lays.same hF.b.same).link kk f hk4 hfl hI.ft
          refine cl (HZ8.load (by omega) had) ?_
          rintro _ w9 ⟨rfl, Z9, HZ9, hm9, ht9, hp9⟩
          rw [hwv]
          have e9 : Z9.ths[0]? = some th := by rw [ht9]; exact hth
          have hb9 := (HZ9.new.ok.core e9).blk
          obtain ⟨b1, o1, c1, hv1, hc1⟩ := slot_at (HZ9.new.ok.pv_ e9) l1
          obtain ⟨b2, o2, c2, hv2, hc2⟩ := slot_at (HZ9.new.ok.sv_ e9) l2
          obtain ⟨b3, o3, c3, hv3, hc3⟩ := slot_at (HZ9.new.ok.wv_ e9) l3
          rw [hv1, hv2, hv3] at hb9
          refine fa ?_
          refine ldb hb9 rfl ?_
          refine ix kk rfl hk4 ?_
          refine ld (v := .int .u64 1) (by rw [hc1 kk hk4, ← absT_P, eth, S0]; exact congrArg (fun x => some (Value.int .u64 x)) hpe.symm) ?_
          refine cv ?_
          refine arU (by omega) ?_
          skip
          refine fa ?_
          refine ldb hb9 rfl ?_
          refine ix kk rfl hk4 ?_
          refine ld (v := .int .u64 s) (by rw [hc2 kk hk4, ← absT_S, eth, S1, ← hsn]) ?_
          refine cv ?_
          refine arU (by omega) ?_
          refine cN (fun h => h rfl) ?_
          refine fa ?_
          refine ldb hb9 rfl ?_
          refine ix kk rfl hk4 ?_
          refine ld (v := .int .u64 (wd l kk f)) (by rw [hc3 kk hk4, ← absT_W, eth, S2]) ?_
          refine cN (fun h => h rfl) ?_
          have hwr := hwd.2.2
          refine qu (by decide) ?_
          refine val (wd l kk f / 2) (by rw [Int.tdiv_eq_ediv_of_nonneg hwr.1, IntKind.wrap_u64]; have h1 := hwr.1; have h2 := hwr.2; omega) ?_
          refine rm (by decide) ?_
          refine val s (by rw [Int.tmod_eq_emod_of_nonneg (by have := hwr.1; omega), hsn]; exact hwd.1) ?_
          refine cv ?_
          refine arU (by omega) ?_
          refine cN (fun h => h rfl) ?_
          refine ar64 (by omega) ?_
          refine round_mk [.int .i64 ((f : Int) - 1), .int .i64 d, .int .i64 ((kk : Int) - 1)] kk rfl rfl ⟨kk, ?_, by omega, rfl, Z9, kz + 1, a', HZ9, hm9.trans hmZ, ht9.trans htZ, by omega, by omega⟩ (by omega)
          by_cases hk0 : kk = 0
          · subst hk0
            rw [if_pos rfl, if_pos rfl, hE]
          · rw [if_neg hk0, if_neg hk0]
            have hd0 := endK_d (l := l) (n := n) (k := kk) (by omega) hk4
            rw [hE] at hd0
            have hrb : rowB l n (kk - 1) = f := by
              unfold rowB
              rw [if_neg (by omega), show kk - 1 + 1 = kk by omega, hE]
            rw [hrb, ← hd0]
    · obtain ⟨hE, hsn⟩ := hI.fin (.inl (by omega))
      obtain ⟨S0, S1, S2, -, -⟩ := hF.all kk hk4
      rw [hE] at S0 S1 S2
      have hfl : f ≤ l.length := by have := hI.fi; have := hI.il; omega
      have hwd := wd_ptr l (by omega) kk f
      refine cd (fun hf0 => ?_) (fun hf0 => ?_)
      · refine ar64 (by omega) ?_
        have hpe : (f : Int) - 1 + 3 = predN f := by unfold predN; rw [if_neg (by omega)]; omega
        rw [hpe]
        have hpe : predN f = predN f := rfl
        have hsb : 2 ≤ s ∧ s ≤ 103 := by rw [hsn]; unfold nodeN; split <;> omega
        have hpb : 1 ≤ predN f ∧ predN f ≤ 20 := by unfold predN; split <;> omega
        have mm := mem_mm HZ.new.ok
        rw [hmZ] at mm
        refine cl mm ?_
        rintro _ w6 ⟨rfl, rfl⟩
        have pm := plan_mm HZ.new.ok
        rw [hmZ] at pm
        refine cl pm ?_
        rintro _ w7 ⟨rfl, hu7⟩
        have HZ7 := HZ.upd0 hu7
        rw [HZ.c_]
        refine ar64 (by omega) ?_
        refine cl (node_a2 hcr (predN f) (5 + (kk : Int)) w7) ?_
        rintro _ w8 ⟨rfl, hu8⟩
        have HZ8 := HZ7.upd0 hu8
        have hnode : ∀ x : Int, x = predN f → (cL ((20 : Nat) : Int)).node x (5 + (kk : Int)) = (adr 20 f (5 + kk) : Int) := fun x hx => by rw [hx, show (5 : Int) + (kk : Int) = ((5 + kk : Nat) : Int) by omega, adr_node (N := 20) (by omega) (by omega)]
        rw [hnode (predN f) hpe]
        have had : adr 20 f (5 + kk) < W'.length := by rw [hF.b.wl]; exact adr_lt (by omega) (by omega)
        have hwv : W'.getD (adr 20 f (5 + kk)) 0 = wd l kk f := (hF.b.lays.same hF.b.same).link kk f hk4 hfl hI.ft
        refine cl (HZ8.load (by omega) had) ?_
        rintro _ w9 ⟨rfl, Z9, HZ9, hm9, ht9, hp9⟩
        rw [hwv]
        have e9 : Z9.ths[0]? = some th := by rw [ht9]; exact hth
        have hb9 := (HZ9.new.ok.core e9).blk
        obtain ⟨b1, o1, c1, hv1, hc1⟩ := slot_at (HZ9.new.ok.pv_ e9) l1
        obtain ⟨b2, o2, c2, hv2, hc2⟩ := slot_at (HZ9.new.ok.sv_ e9) l2
        obtain ⟨b3, o3, c3, hv3, hc3⟩ := slot_at (HZ9.new.ok.wv_ e9) l3
        rw [hv1, hv2, hv3] at hb9
        refine fa ?_
        refine ldb hb9 rfl ?_
        refine ix kk rfl hk4 ?_
        refine ld (v := .int .u64 (predN f)) (by rw [hc1 kk hk4, ← absT_P, eth, S0]; skip) ?_
        refine cv ?_
        refine arU (by omega) ?_
        refine cN (fun h => h rfl) ?_
        refine fa ?_
        refine ldb hb9 rfl ?_
        refine ix kk rfl hk4 ?_
        refine ld (v := .int .u64 s) (by rw [hc2 kk hk4, ← absT_S, eth, S1, ← hsn]) ?_
        refine cv ?_
        refine arU (by omega) ?_
        refine cN (fun h => h rfl) ?_
        refine fa ?_
        refine ldb hb9 rfl ?_
        refine ix kk rfl hk4 ?_
        refine ld (v := .int .u64 (wd l kk f)) (by rw [hc3 kk hk4, ← absT_W, eth, S2]) ?_
        refine cN (fun h => h rfl) ?_
        have hwr := hwd.2.2
        refine qu (by decide) ?_
        refine val (wd l kk f / 2) (by rw [Int.tdiv_eq_ediv_of_nonneg hwr.1, IntKind.wrap_u64]; have h1 := hwr.1; have h2 := hwr.2; omega) ?_
        refine rm (by decide) ?_
        refine val s (by rw [Int.tmod_eq_emod_of_nonneg (by have := hwr.1; omega), hsn]; exact hwd.1) ?_
        refine cv ?_
        refine arU (by omega) ?_
        refine cN (fun h => h rfl) ?_
        refine ar64 (by omega) ?_
        refine round_mk [.int .i64 ((f : Int) - 1), .int .i64 d, .int .i64 ((kk : Int) - 1)] kk rfl rfl ⟨kk, ?_, by omega, rfl, Z9, kz + 1, a', HZ9, hm9.trans hmZ, ht9.trans htZ, by omega, by omega⟩ (by omega)
        by_cases hk0 : kk = 0
        · subst hk0
          rw [if_pos rfl, if_pos rfl, hE]
        · rw [if_neg hk0, if_neg hk0]
          have hd0 := endK_d (l := l) (n := n) (k := kk) (by omega) hk4
          rw [hE] at hd0
          have hrb : rowB l n (kk - 1) = f := by
            unfold rowB
            rw [if_neg (by omega), show kk - 1 + 1 = kk by omega, hE]
          rw [hrb, ← hd0]
      · have hpe : (1 : Int) = predN f := by unfold predN; rw [if_pos (by omega)]
        have hsb : 2 ≤ s ∧ s ≤ 103 := by rw [hsn]; unfold nodeN; split <;> omega
        have hpb : 1 ≤ predN f ∧ predN f ≤ 20 := by unfold predN; split <;> omega
        have mm := mem_mm HZ.new.ok
        rw [hmZ] at mm
        refine cl mm ?_
        rintro _ w6 ⟨rfl, rfl⟩
        have pm := plan_mm HZ.new.ok
        rw [hmZ] at pm
        refine cl pm ?_
        rintro _ w7 ⟨rfl, hu7⟩
        have HZ7 := HZ.upd0 hu7
        rw [HZ.c_]
        refine ar64 (by omega) ?_
        refine cl (node_a2 hcr 1 (5 + (kk : Int)) w7) ?_
        rintro _ w8 ⟨rfl, hu8⟩
        have HZ8 := HZ7.upd0 hu8
        have hnode : ∀ x : Int, x = predN f → (cL ((20 : Nat) : Int)).node x (5 + (kk : Int)) = (adr 20 f (5 + kk) : Int) := fun x hx => by rw [hx, show (5 : Int) + (kk : Int) = ((5 + kk : Nat) : Int) by omega, adr_node (N := 20) (by omega) (by omega)]
        rw [hnode 1 hpe]
        have had : adr 20 f (5 + kk) < W'.length := by rw [hF.b.wl]; exact adr_lt (by omega) (by omega)
        have hwv : W'.getD (adr 20 f (5 + kk)) 0 = wd l kk f := (hF.b.lays.same hF.b.same).link kk f hk4 hfl hI.ft
        refine cl (HZ8.load (by omega) had) ?_
        rintro _ w9 ⟨rfl, Z9, HZ9, hm9, ht9, hp9⟩
        rw [hwv]
        have e9 : Z9.ths[0]? = some th := by rw [ht9]; exact hth
        have hb9 := (HZ9.new.ok.core e9).blk
        obtain ⟨b1, o1, c1, hv1, hc1⟩ := slot_at (HZ9.new.ok.pv_ e9) l1
        obtain ⟨b2, o2, c2, hv2, hc2⟩ := slot_at (HZ9.new.ok.sv_ e9) l2
        obtain ⟨b3, o3, c3, hv3, hc3⟩ := slot_at (HZ9.new.ok.wv_ e9) l3
        rw [hv1, hv2, hv3] at hb9
        refine fa ?_
        refine ldb hb9 rfl ?_
        refine ix kk rfl hk4 ?_
        refine ld (v := .int .u64 1) (by rw [hc1 kk hk4, ← absT_P, eth, S0]; exact congrArg (fun x => some (Value.int .u64 x)) hpe.symm) ?_
        refine cv ?_
        refine arU (by omega) ?_
        skip
        refine fa ?_
        refine ldb hb9 rfl ?_
        refine ix kk rfl hk4 ?_
        refine ld (v := .int .u64 s) (by rw [hc2 kk hk4, ← absT_S, eth, S1, ← hsn]) ?_
        refine cv ?_
        refine arU (by omega) ?_
        refine cN (fun h => h rfl) ?_
        refine fa ?_
        refine ldb hb9 rfl ?_
        refine ix kk rfl hk4 ?_
        refine ld (v := .int .u64 (wd l kk f)) (by rw [hc3 kk hk4, ← absT_W, eth, S2]) ?_
        refine cN (fun h => h rfl) ?_
        have hwr := hwd.2.2
        refine qu (by decide) ?_
        refine val (wd l kk f / 2) (by rw [Int.tdiv_eq_ediv_of_nonneg hwr.1, IntKind.wrap_u64]; have h1 := hwr.1; have h2 := hwr.2; omega) ?_
        refine rm (by decide) ?_
        refine val s (by rw [Int.tmod_eq_emod_of_nonneg (by have := hwr.1; omega), hsn]; exact hwd.1) ?_
        refine cv ?_
        refine arU (by omega) ?_
        refine cN (fun h => h rfl) ?_
        refine ar64 (by omega) ?_
        refine round_mk [.int .i64 ((f : Int) - 1), .int .i64 d, .int .i64 ((kk : Int) - 1)] kk rfl rfl ⟨kk, ?_, by omega, rfl, Z9, kz + 1, a', HZ9, hm9.trans hmZ, ht9.trans htZ, by omega, by omega⟩ (by omega)
        by_cases hk0 : kk = 0
        · subst hk0
          rw [if_pos rfl, if_pos rfl, hE]
        · rw [if_neg hk0, if_neg hk0]
          have hd0 := endK_d (l := l) (n := n) (k := kk) (by omega) hk4
          rw [hE] at hd0
          have hrb : rowB l n (kk - 1) = f := by
            unfold rowB
            rw [if_neg (by omega), show kk - 1 + 1 = kk by omega, hE]
          rw [hrb, ← hd0]
  · obtain rfl : kn = 0 := by omega
    rw [if_pos rfl, if_pos rfl]
    have hb := (HZ.new.ok.core hth).blk
    have hr : th.r = ((endK l n 0).2, (0 : Int), (0 : Int)) := by
      have : (absT th).r = ((endK l n 0).2, (0 : Int), (0 : Int)) := by rw [eth]; exact hF.ret
      exact this
    rw [hr] at hb
    have hd : 0 ≤ (endK l n 0).2 ∧ (endK l n 0).2 ≤ 103 := endK_db (by omega)
    refine fa ?_
    refine ixA 0 rfl (by omega) ?_
    refine ldb hb rfl ?_
    refine cv ?_
    refine arU (by omega) ?_
    refine cY rfl ?_
    refine cl (lives27 _) ?_
    rintro _ w4 ⟨rfl, hu4⟩
    refine ⟨?_, HZ.new.up.trans hu4⟩
    show Value.bool _ = _
    simp
end
theorem LocateSeeks_walk (w : World) (v : Value) (l : List Nd) (h : RdNd w v l) (hu : NdU l) (n : Int) (hn : (Lit.int .u64 n).wf) :
    Calls Try.prog 6 #[v, .int .u64 n] w fun e w' => e = .returned (.bool true) ∧ Below w.heap.size w w' := by
  have h0 : IntKind.u64.min ≤ n ∧ n ≤ IntKind.u64.max := by simpa [Lit.wf] using hn
  exact (seeks_law h hu h0).mono fun _ _ ⟨_, he, hr, hup⟩ => ⟨by rw [he, hr], hup.below⟩
end Go.Proofs.Ytbnbbafffihapaa

