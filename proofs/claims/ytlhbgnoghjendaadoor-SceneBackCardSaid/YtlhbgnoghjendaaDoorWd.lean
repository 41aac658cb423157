/- Which configuration a text is: the walk of conf.Parse. -/
import Derived.Test.YtlhbgnoghjendaaDoorWc
namespace Go.Proofs.YtlhbgnoghjendaaDoor
open Go.RowKit
attribute [local irreducible] Instr.loadAt Instr.storeAt Instr.fieldAt Instr.indexAt Instr.sliceAt Instr.buildSlice Instr.box Instr.alloc Builtin.append_ Builtin.len_ Builtin.min_ Builtin.max_ Calls Instr.build Instr.makeSlice binSem convert Instr.index Instr.range Instr.next
def zC : Cf := ⟨0, 0, 0, 0, 0, 0, 0⟩
/-- what Parse answers -/
def CfR (l : List UInt8) (e : Int) (c : Cf) : Prop := (rightC c ∧ l = confU c ∧ e = 0) ∨ ((∀ d, rightC d → l ≠ confU d) ∧ c = zC ∧ e = 8)
theorem strB_at (ps : List (List UInt8)) (i : Nat) (hi : i < ps.length) : (strB ps)[i]? = some (.string (by8 (ps.getD i []))) := by simp [strB, List.getD, hi]
theorem kind_at (j : Nat) (hj : j < 3) : kindsA.toList[j]? = some (.string (by8 (kindB (j : Int)))) := by
  rcases (show j = 0 ∨ j = 1 ∨ j = 2 by omega) with rfl | rfl | rfl <;> rfl
theorem name_at (j : Nat) (hj : j < 7) : namesA.toList[j]? = some (.string (by8 (nameB j))) := by
  rcases (show j = 0 ∨ j = 1 ∨ j = 2 ∨ j = 3 ∨ j = 4 ∨ j = 5 ∨ j = 6 by omega) with rfl | rfl | rfl | rfl | rfl | rfl | rfl <;> rfl
theorem cf_seven {M : List Int} (h : M.length = 7) : ∃ c : Cf, cfL c = M ∧ cf7 c = ints7 M ∧ c.A = M.getD 0 0 := by
  match M, h with
  | [A, T, N, L, B, P, S], _ => exact ⟨⟨A, T, N, L, B, P, S⟩, rfl, rfl, rfl⟩
theorem ints7_set (M : List Int) (i : Nat) (hi : i < M.length) (n : Int) : (ints7 M).setIfInBounds i (.int .i64 n) = ints7 (M.set i n) := by
  unfold ints7
  apply Array.ext'
  simp
theorem cfL_inj {c d : Cf} (h : cfL c = cfL d) : c = d := by
  obtain ⟨A, T, N, L, B, P, S⟩ := c
  obtain ⟨A', T', N', L', B', P', S'⟩ := d
  simp [cfL] at h
  obtain ⟨rfl, rfl, rfl, rfl, rfl, rfl, rfl⟩ := h
  rfl
theorem set_getD (M : List Int) (j i : Nat) (n : Int) (hj : j < M.length) : (M.set j n).getD i 0 = if i = j then n else M.getD i 0 := by
  by_cases h : i = j
  · subst h; simp [List.getD, hj]
  · rw [if_neg h]; simp [List.getD, List.getElem?_set_ne (Ne.symm h)]
/-- what the loop over the names has found -/
structure NmI (ps : List (List UInt8)) (j : Nat) (ok : Bool) (M : List Int) : Prop where
  len : M.length = 7
  kind : M.getD 0 0 = kix (ps.getD 0 []) 3
  iff_ : ok = true ↔ ∀ i, 1 ≤ i → i < j → goodAt ps i (M.getD i 0)
  uniq : ∀ i, 1 ≤ i → i < j → ∀ n, goodAt ps i n → M.getD i 0 = n
theorem NmI.step {ps : List (List UInt8)} {j : Nat} {ok bn b' : Bool} {M : List Int} {n : Int} (h : NmI ps j ok M) (hj : 1 ≤ j) (hj7 : j < 7) (hn : NumR (ps.getD (2 * j) []) n bn) (hb : b' = true ↔ ok = true ∧ bn = true ∧ ps.getD (2 * j - 1) [] = nameB j) : NmI ps (j + 1) b' (M.set j n) := by
  have hg : goodAt ps j n ↔ bn = true ∧ ps.getD (2 * j - 1) [] = nameB j := by
    constructor
    · rintro ⟨⟨k, h1, h2, h3⟩, h4⟩; exact ⟨(hn.forth k h1 h3).1, h4⟩
    · rintro ⟨h1, h2⟩; exact ⟨hn.back h1, h2⟩
  have hget := fun i => set_getD M j i n (by rw [h.len]; exact hj7)
  refine ⟨by rw [List.length_set]; exact h.len, by rw [hget, if_neg (by omega)]; exact h.kind, ?_, ?_⟩
  · rw [hb, ← hg, h.iff_]
    constructor
    · rintro ⟨h1, h2⟩ i h3 h4
      rw [hget]
      by_cases hij : i = j
      · subst hij; rw [if_pos rfl]; exact h2
      · rw [if_neg hij]; exact h1 i h3 (by omega)
    · intro h1
      refine ⟨fun i h3 h4 => ?_, ?_⟩
      · have := h1 i h3 (by omega)
        rw [hget, if_neg (by omega)] at this; exact this
      · have := h1 j hj (by omega)
        rw [hget, if_pos rfl] at this; exact this
  · intro i h1 h2 m hm
    rw [hget]
    by_cases hij : i = j
    · subst hij
      rw [if_pos rfl]
      obtain ⟨⟨k, h3, h4, h5⟩, -⟩ := hm
      rw [h4, (hn.forth k h3 h5).2]
    · rw [if_neg hij]; exact h.uniq i h1 (by omega) m hm
theorem cfL_len (c : Cf) : (cfL c).length = 7 := by cases c; rfl
theorem cf_eq {c d : Cf} (hA : c.A = d.A) (hn : ∀ i, 1 ≤ i → i < 7 → (cfL c).getD i 0 = (cfL d).getD i 0) : c = d := by
  obtain ⟨A, T, N, L, B, P, S⟩ := c
  obtain ⟨A', T', N', L', B', P', S'⟩ := d
  have h1 := hn 1 (by omega) (by omega); have h2 := hn 2 (by omega) (by omega); have h3 := hn 3 (by omega) (by omega)
  have h4 := hn 4 (by omega) (by omega); have h5 := hn 5 (by omega) (by omega); have h6 := hn 6 (by omega) (by omega)
  simp [cfL] at h1 h2 h3 h4 h5 h6
  have hA : A = A' := hA
  subst hA; subst h1; subst h2; subst h3; subst h4; subst h5; subst h6
  rfl
set_option maxRecDepth 10000 in
theorem cparse_c (l : List UInt8) (hl : l.length ≤ 1000000) (w : World) : Fn Tryd.prog 8 #[.string (by8 l)] w fun r w' => (∃ c e, r = .tuple #[.agg (cf7 c), .int .i64 e] ∧ CfR l e c) ∧ Upd [] w w' := by
  refine fn_enter Tryd.func8 rfl rfl ?_
  refine al (cf7 zC) (fun _ => by kernel_rfl) fun w1 hb1 hu1 hs1 => ?_
  refine cl (split_g l 32 hl w1) ?_
  rintro lv w4 ⟨hS, hu4⟩
  have hmem := partsC_mem 32 l
  obtain ⟨ps, hps⟩ : ∃ ps, ps = partsC 32 l := ⟨_, rfl⟩
  have hplen : ∀ p ∈ ps, p.length ≤ l.length := fun p hp => parts_le 32 l p (by rw [← hps]; exact hp)
  rw [← hps] at hS hmem
  have hR := RdN.of_sl hS
  obtain ⟨va, vc, rfl, hc1, hc2⟩ := hR.form
  simp only [maxLen] at hc2
  have hb4 := hb1.upd hu4 (by simp)
  have hU4 := hu1.trans hu4
  have hz4 := hu4.size
  refine len_sl ?_
  by_cases h13 : ps.length = 13
  rotate_left
  · refine cY (show (ps.length : Int) ≠ 13 by omega) ?_
    refine bd (cf7 zC) (fun _ => by kernel_rfl) ?_
    refine stw hb4 rfl rfl rfl fun w5 hb5 hu5 hs5 => ?_
    refine rlw hb5 rfl ?_
    exact ⟨⟨zC, 8, rfl, .inr ⟨fun c hc he => h13 (by rw [hps, he, conf_parts]; rfl), rfl, rfl⟩⟩, hU4.step hu5 (by simp)⟩
  refine cN (show ¬ (ps.length : Int) ≠ 13 by omega) ?_
  obtain ⟨b, o, c', he, -⟩ := hR.some_ (by omega)
  cases he
  have hrd : ∀ w', Upd [] w4 w' → ∀ i, i < 13 → w'.cell? ⟨b, o + i * 1, none⟩ = some (.string (by8 (ps.getD i []))) := fun w' hu i hi => by
    rw [(hR.upd0 hu).one rfl i (by omega)]; exact strB_at ps i (by omega)
  refine bd (ints7 [-1, 0, 0, 0, 0, 0, 0]) (fun _ => by kernel_rfl) ?_
  refine al (ints7 [0, 0, 0, 0, 0, 0, 0]) (fun _ => by kernel_rfl) fun w5 hb5 hu5 hs5 => ?_
  refine stw hb5 rfl rfl rfl fun w6 hb6 hu6 hs6 => ?_
  refine cl (kinds_c w6) ?_
  rintro _ w7 ⟨rfl, hu7⟩
  have hU7 : Upd [] w4 w7 := (hu5.step hu6 (by simp)).trans hu7
  have hb7 := hb6.upd hu7 (by simp)
  obtain ⟨p, hp⟩ : ∃ p, p = w4.heap.size := ⟨_, rfl⟩
  rw [← hp] at hb7
  have hg : w.heap.size < p := by omega
  rw [← hp]
  obtain ⟨g, hgg⟩ : ∃ g, g = w.heap.size := ⟨_, rfl⟩
  rw [← hgg] at hb4 hg ⊢
  have hb7 : Blk w7 p 52 (ints7 [kix (ps.getD 0 []) 0, 0, 0, 0, 0, 0, 0]) := hb7
  refine loop_rule [2, 4, 5, 6, 21] [22] (fun vs w' m => ∃ j : Nat, vs = [.int .i64 j] ∧ j ≤ 3 ∧ m = 3 - j ∧ Blk w' p 52 (ints7 [kix (ps.getD 0 []) j, 0, 0, 0, 0, 0, 0]) ∧ Upd [] w4 w') rfl [.int .i64 0] 3 rfl ⟨0, rfl, by omega, rfl, hb7, hU7⟩ ?_
  rintro _ w8 m ⟨j, rfl, hj, rfl, hb8, hU8⟩
  refine cd (fun hlt => ?_) (fun hlt => ?_)
  · have hlt : j < 3 := by omega
    refine ixv j rfl hlt (kind_at j hlt) ?_
    refine ix 0 rfl (by omega) ?_
    refine ld (hrd w8 hU8 0 (by omega)) ?_
    refine cd (fun heq => ?_) (fun heq => ?_)
    · rw [by8_list, by8_list] at heq
      refine ixA 0 rfl (by decide) ?_
      refine st hb8 (by simp [ints7]) rfl fun w9 hb9 hu9 hs9 => ?_
      refine ar64 (by omega) ?_
      refine round_mk [.int .i64 ((j + 1 : Nat) : Int)] (3 - (j + 1)) rfl rfl ⟨j + 1, rfl, by omega, rfl, ?_, hU8.step hu9 (by simp; omega)⟩ (by omega)
      rw [show kix (ps.getD 0 []) (j + 1) = (j : Int) from if_pos heq]
      exact hb9
    · rw [by8_list, by8_list] at heq
      refine ar64 (by omega) ?_
      refine round_mk [.int .i64 ((j + 1 : Nat) : Int)] (3 - (j + 1)) rfl rfl ⟨j + 1, rfl, by omega, rfl, ?_, hU8⟩ (by omega)
      rw [show kix (ps.getD 0 []) (j + 1) = kix (ps.getD 0 []) j from if_neg heq]
      exact hb8
  obtain rfl : j = 3 := by omega
  refine cl (names_c w8) ?_
  rintro _ w9 ⟨rfl, hu9⟩
  have hU9 := hU8.trans hu9
  have hb9 := hb8.upd hu9 (by simp)
  refine loop_rule [2, 4, 5, 34] [6, 35] (fun vs w' m => ∃ (j : Nat) (ok : Bool) (M : List Int), vs = [.bool ok, .int .i64 j] ∧ j ≤ 7 ∧ m = 7 - j ∧ NmI ps j ok M ∧ Blk w' p 52 (ints7 M) ∧ Upd [] w4 w') rfl [.bool true, .int .i64 0] 7 rfl
    ⟨0, true, _, rfl, by omega, rfl, ⟨rfl, rfl, iff_of_true rfl (fun i h1 h2 => absurd h2 (by omega)), fun i h1 h2 => absurd h2 (by omega)⟩, hb9, hU9⟩ ?_
  rintro _ w10 m ⟨j, ok, M, rfl, hj, rfl, hI, hb10, hU10⟩
  refine cd (fun hlt => ?_) (fun hlt => ?_)
  · have hlt : j < 7 := by omega
    refine ixv j rfl hlt (name_at j hlt) ?_
    refine cd (fun h0 => ?_) (fun h0 => ?_)
    · obtain rfl : j = 0 := by omega
      refine ar64 (by omega) ?_
      exact round_mk [.bool ok, .int .i64 ((0 + 1 : Nat) : Int)] (7 - (0 + 1)) rfl rfl ⟨0 + 1, ok, M, rfl, by omega, rfl, ⟨hI.len, hI.kind, hI.iff_.trans ⟨fun _ i h1 h2 => absurd h2 (by omega), fun _ i h1 h2 => absurd h2 (by omega)⟩, fun i h1 h2 => absurd h2 (by omega)⟩, hb10, hU10⟩ (by omega)
    · have hj1 : 1 ≤ j := by omega
      refine ar64 (by omega) ?_
      refine ix (2 * j) (by omega) (by omega) ?_
      refine ld (hrd w10 hU10 (2 * j) (by omega)) ?_
      have hpm : ps.getD (2 * j) [] ∈ ps := by simp [List.getD, show 2 * j < ps.length by omega]
      refine cl (cnum_c _ (by have := hplen _ hpm; omega) (hmem _ hpm) w10) ?_
      rintro _ w11 ⟨⟨n, bn, rfl, hn⟩, hu11⟩
      have hU11 := hU10.trans hu11
      have hb11 := hb10.upd hu11 (by simp)
      have hlen7 := hI.len
      cases ok with
      | false =>
        refine ixA j rfl hlt ?_
        refine st hb11 (by simp [ints7]; omega) rfl fun w12 hb12 hu12 hs12 => ?_
        refine ar64 (by omega) ?_
        refine round_mk [.bool false, .int .i64 ((j + 1 : Nat) : Int)] (7 - (j + 1)) rfl rfl ⟨j + 1, _, M.set j n, rfl, by omega, rfl, hI.step hj1 hlt hn (by simp), ?_, hU11.step hu12 (by simp; omega)⟩ (by omega)
        rw [← ints7_set M j (by omega)]
        simpa using hb12
      | true =>
        cases bn with
        | false =>
          refine ixA j rfl hlt ?_
          refine st hb11 (by simp [ints7]; omega) rfl fun w12 hb12 hu12 hs12 => ?_
          refine ar64 (by omega) ?_
          refine round_mk [.bool false, .int .i64 ((j + 1 : Nat) : Int)] (7 - (j + 1)) rfl rfl ⟨j + 1, _, M.set j n, rfl, by omega, rfl, hI.step hj1 hlt hn (by simp), ?_, hU11.step hu12 (by simp; omega)⟩ (by omega)
          rw [← ints7_set M j (by omega)]
          simpa using hb12
        | true =>
          refine ar64 (by omega) ?_
          refine ar64 (by omega) ?_
          refine ix (2 * j - 1) (by omega) (by omega) ?_
          refine ld (hrd w11 hU11 (2 * j - 1) (by omega)) ?_
          refine ixA j rfl hlt ?_
          refine st hb11 (by simp [ints7]; omega) rfl fun w12 hb12 hu12 hs12 => ?_
          refine ar64 (by omega) ?_
          refine round_mk [.bool _, .int .i64 ((j + 1 : Nat) : Int)] (7 - (j + 1)) rfl rfl ⟨j + 1, _, M.set j n, rfl, by omega, rfl, hI.step hj1 hlt hn ((by rw [by8_list, by8_list]; simp)), ?_, hU11.step hu12 (by simp; omega)⟩ (by omega)
          rw [← ints7_set M j (by omega)]
          simpa using hb12
  · obtain rfl : j = 7 := by omega
    obtain ⟨c, hcM, hc7, hcA⟩ := cf_seven hI.len
    have hgood : ok = true ↔ ∀ i, 1 ≤ i → i < 7 → goodAt ps i ((cfL c).getD i 0) := by rw [hcM]; exact hI.iff_
    have hk : c.A = kix (ps.getD 0 []) 3 := by rw [hcA]; exact hI.kind
    have hno : ¬ (ok = true ∧ rightC c) → ∀ d, rightC d → l ≠ confU d := by
      intro hn d hd he
      have hpd : ps = partsU d := by rw [hps, he, conf_parts]
      have hmd : ∀ i, 1 ≤ i → i < 7 → (cfL c).getD i 0 = (cfL d).getD i 0 := fun i h1 h7 => by
        rw [hcM]; exact hI.uniq i h1 h7 _ (by rw [hpd]; exact conf_bwd hd i h1 h7)
      have hA : c.A = d.A := by rw [hk, hpd]; exact kix_kind d.A (right_A hd)
      have hcd : c = d := cf_eq hA hmd
      subst hcd
      exact hn ⟨hgood.2 (fun i h1 h7 => by rw [hpd]; exact conf_bwd hd i h1 h7), hd⟩
    have hcf : ∀ x : Cf, cf7 x = ints7 (cfL x) := fun x => by cases x; rfl
    rw [← hc7] at hb10
    refine ldw hb10 (cf7_len c) ?_
    refine cl (conf_c c w10) ?_
    rintro _ w11 ⟨rfl, hu11⟩
    refine cl (near_c c w11) ?_
    rintro _ w12 ⟨rfl, hu12⟩
    refine cl (of_c (nearC c) w12) ?_
    rintro _ w13 ⟨rfl, hu13⟩
    have hU13 := ((hU10.trans hu11).trans hu12).trans hu13
    have hz13 := hU13.size
    refine al (ints7 [0, 0, 0, 0, 0, 0, 0]) (fun _ => by kernel_rfl) fun w14 hb14 hu14 hs14 => ?_
    refine stw hb14 rfl (cf7_len _) (cf7_one _) fun w15 hb15 hu15 hs15 => ?_
    have hU15 : Upd [] w4 w15 := (hU13.trans hu14).step hu15 (by simp; omega)
    have hp10 := hb10.lt
    have hp15 : Blk w15 p 52 (cf7 c) := ((((hb10.upd hu11 (by simp)).upd hu12 (by simp)).upd hu13 (by simp)).upd hu14 (by simp)).upd hu15 (by have := hu11.size; have := hu12.size; have := hu13.size; simp; omega)
    have hg15 := hb4.upd hU15 (by simp)
    have hW15 := hU4.trans hU15
    cases ok with
    | false =>
      refine bd (cf7 zC) (fun _ => by kernel_rfl) ?_
      refine stw hg15 rfl rfl rfl fun w20 hb20 hu20 hs20 => ?_
      refine rlw hb20 rfl ?_
      exact ⟨⟨zC, 8, rfl, .inr ⟨(hno (fun h => by cases h.1)), rfl, rfl⟩⟩, (hW15).step hu20 (by simp; omega)⟩
    | true =>
      have hp15' := hp15
      have hb15' : Blk w15 w13.heap.size 52 (ints7 (cfL (nearC c))) := by rw [← hcf]; exact hb15
      rw [hcf] at hp15'
      refine ldw hp15' (by rw [← hcf]; exact cf7_len c) ?_
      refine ldw hb15' (by rw [← hcf]; exact cf7_len _) ?_
      refine arr_ne (n := 7) (cfL_len c) (cfL_len _) (by kernel_rfl) (show Tryd.prog.info? 3 = some Tryd.t3 by kernel_rfl) (by kernel_rfl) ?_
      by_cases hq : cfL c = cfL (nearC c)
      · rw [decide_eq_true hq]
        have hr : rightC c := (near_iff c).1 (cfL_inj hq.symm)
        refine ldw hp15 (cf7_len c) ?_
        refine cl (conf_c c w15) ?_
        rintro _ w16 ⟨rfl, hu16⟩
        refine stw (hg15.upd hu16 (by simp)) rfl (cf7_len _) (cf7_one _) fun w17 hb17 hu17 hs17 => ?_
        refine rlw hb17 (by simpa [Value.cells] using cf7_len c) ?_
        refine ⟨⟨c, 0, rfl, .inl ⟨hr, ?_, rfl⟩⟩, (hW15.trans hu16).step hu17 (by simp; omega)⟩
        have hg := hgood.1 rfl
        rw [hps] at hg hk h13
        exact conf_fwd h13 (kix_back hk.symm (right_A hr).1) hg
      · rw [decide_eq_false hq]
        refine bd (cf7 zC) (fun _ => by kernel_rfl) ?_
        refine stw hg15 rfl rfl rfl fun w20 hb20 hu20 hs20 => ?_
        refine rlw hb20 rfl ?_
        exact ⟨⟨zC, 8, rfl, .inr ⟨(hno (fun h => hq (by rw [(near_iff c).2 h.2]))), rfl, rfl⟩⟩, (hW15).step hu20 (by simp; omega)⟩
end Go.Proofs.YtlhbgnoghjendaaDoor
