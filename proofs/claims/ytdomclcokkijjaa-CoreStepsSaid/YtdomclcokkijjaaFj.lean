/- A step of memory, as the law asks for it. -/
import Derived.Test.YtdomclcokkijjaaFi
namespace Go.Proofs.Ytdomclcokkijjaa
open Go.RowKit
attribute [local irreducible] Instr.loadAt Instr.storeAt Instr.fieldAt Instr.indexAt Instr.sliceAt Instr.buildSlice Instr.box Instr.alloc Builtin.append_ Builtin.len_ Builtin.min_ Builtin.max_ Calls Instr.build Instr.makeSlice binSem convert Instr.index Instr.range Instr.next
structure DoR (X X' : Mc) (o : Op7) (u : Int) (d : Bool) : Prop where
  m : X'.m = X.m
  c : X'.c = X.c
  mp : X'.mp = X.mp
  ths : X'.ths = X.ths
  gs : X'.gs = tchs X.c X.gs (if o.K < 4 then [o.A] else [o.A, o.B])
  q : ∀ b, Quiet X.s b → Quiet X'.s (b + 1)
  yes : rightO o X.s.W.length → X'.s.W = (eff o X.s.W).1 ∧ u = (eff o X.s.W).2.1 ∧ (o.K > 1 → o.K ≠ 3 → d = (eff o X.s.W).2.2) ∧ X'.bad = X.bad
  no : ¬ rightO o X.s.W.length → X'.s.W = X.s.W ∧ X'.bad = true
theorem Quiet.tick {s : MS} {b : Int} (h : Quiet s b) (W : List Int) (x : Acc) : Quiet (tick { s with W := W } x) (b + 1) := by
  have h0 := h.k0; have h1 := h.k1
  refine ⟨?_, ?_, h.on, ?_⟩
  · show 0 ≤ s.k + 1; omega
  · show s.k + 1 ≤ b + 1; omega
  · show (if s.on then s.L ++ _ else s.L) = []
    rw [h.on]; exact h.L
theorem at_rd (s : MS) (a : Int) : at_ s.W a = rd s a := rfl
section
variable {s : MS} {o : Op7}
theorem not_bad (b : Bool) {p : Prop} [Decidable p] (h : p) : (b || !decide p) = b := by rw [decide_eq_true h]; simp
theorem is_bad (b : Bool) {p : Prop} [Decidable p] (h : ¬ p) : (b || !decide p) = true := by rw [decide_eq_false h]; simp
end
set_option maxRecDepth 10000 in
theorem do_m {w : World} {X : Mc} (h : Mach w X) (hr : rightC X.c) (ht : (gtags X.gs).length ≤ 64) (hq : Roomy X.s) (o : Op7) (hK : 0 ≤ o.K ∧ o.K ≤ 5) : Fn Try.prog 49 #[ptrV X.m, .agg (o7 o)] w fun r w' =>
    ∃ u d X', r = .tuple #[.int .u64 u, .bool d] ∧ Post w X w' X' ∧ DoR X X' o u d := by
  obtain ⟨K, A, B, O, N, P, Q⟩ := o
  dsimp only at hK
  refine fn_enter Try.func49 rfl rfl ?_
  refine bx fun w1 hb1 hu1 hs1 => ?_
  have hb1 : Blk w1 w.heap.size 82 (o7 ⟨K, A, B, O, N, P, Q⟩) := hb1
  have h1 := h.upd0 hu1
  have p1 : Post w X w1 X := .of0 h hu1
  refine fa ?_
  refine ldb hb1 rfl ?_
  rcases (show K = 0 ∨ K = 1 ∨ K = 2 ∨ K = 3 ∨ K = 4 ∨ K = 5 by omega) with rfl | rfl | rfl | rfl | rfl | rfl
  · repeat (first | refine fa ?_ | refine ldb hb1 rfl ?_)
    refine cl (load_m h1 hr ht hq A) ?_
    rintro _ w2 ⟨rfl, lv, p2⟩
    have hR : rightO ⟨0, A, B, O, N, P, Q⟩ X.s.W.length ↔ okA X.s A := by unfold rightO inW okA; simp
    refine ⟨_, _, _, rfl, p1.trans p2, rfl, rfl, rfl, rfl, (by rw [if_pos (by show (0 : Int) < 4; decide)]; rfl), fun b hb => ?_, fun hy => ?_, fun hn => ?_⟩
    · show Quiet (ldS X.s A) (b + 1)
      unfold ldS
      split
      · exact hb.tick X.s.W _
      · exact hb.up (by omega)
    · have ha := hR.1 hy
      refine ⟨?_, ?_, fun h => absurd h (by show ¬ (0 : Int) > 1; decide), not_bad _ ha⟩
      · show (ldS X.s A).W = _
        unfold ldS
        rw [if_pos ha]; rfl
      · unfold ldV
        rw [if_pos ha]; rfl
    · have ha := fun h => hn (hR.2 h)
      refine ⟨?_, is_bad _ ha⟩
      show (ldS X.s A).W = _
      unfold ldS
      rw [if_neg ha]
  · repeat (first | refine fa ?_ | refine ldb hb1 rfl ?_)
    refine cl (store_mm h1 hr ht hq A N) ?_
    rintro _ w2 ⟨lv, p2⟩
    have hR : rightO ⟨1, A, B, O, N, P, Q⟩ X.s.W.length ↔ okA X.s A := by unfold rightO inW okA; simp
    refine ⟨_, _, _, rfl, p1.trans p2, rfl, rfl, rfl, rfl, (by rw [if_pos (by show (1 : Int) < 4; decide)]; rfl), fun b hb => hb.st A N, fun hy => ?_, fun hn => ?_⟩
    · have ha := hR.1 hy
      refine ⟨?_, rfl, fun h => absurd h (by show ¬ (1 : Int) > 1; decide), not_bad _ ha⟩
      show (stM X.s A N).W = _
      rw [stM_def, if_pos ha]; rfl
    · have ha := fun h => hn (hR.2 h)
      refine ⟨?_, is_bad _ ha⟩
      show (stM X.s A N).W = _
      rw [stM_def, if_neg ha]
  · repeat (first | refine fa ?_ | refine ldb hb1 rfl ?_)
    refine cl (cas_m h1 hr ht hq A O N) ?_
    rintro _ w2 ⟨rfl, lv, p2⟩
    have hR : rightO ⟨2, A, B, O, N, P, Q⟩ X.s.W.length ↔ okA X.s A := by unfold rightO inW okA; simp
    refine ⟨_, _, _, rfl, p1.trans p2, rfl, rfl, rfl, rfl, (by rw [if_pos (by show (2 : Int) < 4; decide)]; rfl), fun b hb => ?_, fun hy => ?_, fun hn => ?_⟩
    · show Quiet (casS X.s A O N) (b + 1)
      unfold casS
      split
      · split
        · exact hb.tick _ _
        · exact hb.tick X.s.W _
      · exact hb.up (by omega)
    · have ha := hR.1 hy
      refine ⟨?_, rfl, fun _ _ => ?_, not_bad _ ha⟩
      · show (casS X.s A O N).W = (if at_ X.s.W A = O then set_ X.s.W A N else X.s.W)
        unfold casS
        rw [if_pos ha, at_rd]
        split <;> rfl
      · show casV X.s A O = (at_ X.s.W A == O)
        unfold casV
        rw [at_rd]
        by_cases h1 : rd X.s A = O
        · rw [decide_eq_true ⟨ha, h1⟩]; simp [h1]
        · rw [decide_eq_false (fun hh => h1 hh.2)]; simp [h1]
    · have ha := fun h => hn (hR.2 h)
      refine ⟨?_, is_bad _ ha⟩
      show (casS X.s A O N).W = _
      unfold casS
      rw [if_neg ha]
  · repeat (first | refine fa ?_ | refine ldb hb1 rfl ?_)
    refine cl (add_m h1 hr ht hq A N) ?_
    rintro _ w2 ⟨rfl, lv, p2⟩
    have hR : rightO ⟨3, A, B, O, N, P, Q⟩ X.s.W.length ↔ okA X.s A := by unfold rightO inW okA; simp
    refine ⟨_, _, _, rfl, p1.trans p2, rfl, rfl, rfl, rfl, (by rw [if_pos (by show (3 : Int) < 4; decide)]; rfl), fun b hb => ?_, fun hy => ?_, fun hn => ?_⟩
    · show Quiet (addS X.s A N) (b + 1)
      unfold addS
      split
      · exact hb.tick _ _
      · exact hb.up (by omega)
    · have ha := hR.1 hy
      refine ⟨?_, ?_, fun _ h => absurd rfl h, not_bad _ ha⟩
      · show (addS X.s A N).W = _
        unfold addS
        rw [if_pos ha]; rfl
      · unfold ldV
        rw [if_pos ha]; rfl
    · have ha := fun h => hn (hR.2 h)
      refine ⟨?_, is_bad _ ha⟩
      show (addS X.s A N).W = _
      unfold addS
      rw [if_neg ha]
  · repeat (first | refine fa ?_ | refine ldb hb1 rfl ?_)
    refine cl (dcas_m h1 hr ht hq A O N B P Q) ?_
    rintro _ w2 ⟨rfl, lv, p2⟩
    have hR : rightO ⟨4, A, B, O, N, P, Q⟩ X.s.W.length ↔ ok2 X.s A B := by unfold rightO ok2 inW okA; simp [and_assoc]
    refine ⟨_, _, _, rfl, p1.trans p2, rfl, rfl, rfl, rfl, (by rw [if_neg (by show ¬ (4 : Int) < 4; decide)]), fun b hb => ?_, fun hy => ?_, fun hn => ?_⟩
    · show Quiet (dcasS X.s A O N B P Q) (b + 1)
      unfold dcasS
      split
      · split
        · exact hb.tick _ _
        · exact hb.tick X.s.W _
      · exact hb.up (by omega)
    · have ha := hR.1 hy
      have he : eff ⟨4, A, B, O, N, P, Q⟩ X.s.W = if both X.s A O B P then (set_ (set_ X.s.W A N) B Q, 0, true) else (X.s.W, 0, false) := by
        by_cases hb : both X.s A O B P
        · rw [if_pos hb]
          have hb' : at_ X.s.W A = O ∧ at_ X.s.W B = P := hb
          simp [eff, hb']
        · rw [if_neg hb]
          have hb' : ¬ (at_ X.s.W A = O ∧ at_ X.s.W B = P) := hb
          simp [eff, hb']
      rw [he]
      refine ⟨?_, ?_, fun _ _ => ?_, not_bad _ ha⟩
      · show (dcasS X.s A O N B P Q).W = _
        unfold dcasS
        rw [if_pos ha]
        split <;> rfl
      · split <;> rfl
      · by_cases hb : both X.s A O B P
        · rw [if_pos hb, decide_eq_true ⟨ha, hb⟩]
        · rw [if_neg hb, decide_eq_false (fun hh => hb hh.2)]
    · have ha := fun h => hn (hR.2 h)
      refine ⟨?_, is_bad _ ha⟩
      show (dcasS X.s A O N B P Q).W = _
      unfold dcasS
      rw [if_neg ha]
  · repeat (first | refine fa ?_ | refine ldb hb1 rfl ?_)
    refine cl (dcss_m h1 hr ht hq A O N B P) ?_
    rintro _ w2 ⟨rfl, lv, p2⟩
    have hR : rightO ⟨5, A, B, O, N, P, Q⟩ X.s.W.length ↔ (okA X.s A ∧ okA X.s B) := by unfold rightO inW okA; simp
    refine ⟨_, _, _, rfl, p1.trans p2, rfl, rfl, rfl, rfl, (by rw [if_neg (by show ¬ (5 : Int) < 4; decide)]), fun b hb => ?_, fun hy => ?_, fun hn => ?_⟩
    · show Quiet (dcssS X.s A O N B P) (b + 1)
      unfold dcssS
      split
      · split
        · exact hb.tick _ _
        · exact hb.tick X.s.W _
      · exact hb.up (by omega)
    · have ha := hR.1 hy
      have he : eff ⟨5, A, B, O, N, P, Q⟩ X.s.W = if both X.s A O B P then (set_ X.s.W A N, 0, true) else (X.s.W, 0, false) := by
        by_cases hb : both X.s A O B P
        · rw [if_pos hb]
          have hb' : at_ X.s.W A = O ∧ at_ X.s.W B = P := hb
          simp [eff, hb']
        · rw [if_neg hb]
          have hb' : ¬ (at_ X.s.W A = O ∧ at_ X.s.W B = P) := hb
          simp [eff, hb']
      rw [he]
      refine ⟨?_, ?_, fun _ _ => ?_, not_bad _ ha⟩
      · show (dcssS X.s A O N B P).W = _
        unfold dcssS
        rw [if_pos ha]
        split <;> rfl
      · split <;> rfl
      · by_cases hb : both X.s A O B P
        · rw [if_pos hb, decide_eq_true ⟨ha, hb⟩]
        · rw [if_neg hb, decide_eq_false (fun hh => hb hh.2)]
    · have ha := fun h => hn (hR.2 h)
      refine ⟨?_, is_bad _ ha⟩
      show (dcssS X.s A O N B P).W = _
      unfold dcssS
      rw [if_neg ha]
/-! places and faults -/
theorem ne3 {k x y : Int} (hk : k ≠ 3) : ¬ ((k, x, y) : Int × Int × Int).1 = 3 := hk
theorem where_hit {A T N L B P S : Int} (hr : rightC ⟨A, T, N, L, B, P, S⟩) (a : Int) : ((whereP A T N L a).1 = 3 ↔ (0 ≤ a ∧ a < (allP A T N L).length ∧ ((allP A T N L).getD a.toNat (0, 0, 0)).1 = 3)) ∧
    ((whereP A T N L a).1 = 3 → (whereP A T N L a).2.1 = ((allP A T N L).getD a.toNat (0, 0, 0)).2.1 ∧ 1 ≤ (whereP A T N L a).2.1 ∧ (whereP A T N L a).2.1 ≤ N) := by
  obtain ⟨t, n, l, sl, wd, nt, se, U⟩ := nums hr
  have e1 := U.sz_; have e2 := U.lk_; have e3 := U.nd_; have e4 := U.tr_; have e5 := U.wd_; have eN := U.eN
  have q2 := U.b2
  have hlen : (allP A T N L).length = 8 + t * sl + n + n * wd + nt := by rw [allP_len hr, e1]; omega
  unfold whereP
  by_cases h0 : a < 0 ∨ a ≥ sizeP A T N L
  · rw [if_pos h0]
    exact ⟨iff_of_false (ne3 (by decide)) (fun h => by omega), fun h => absurd h (ne3 (by decide))⟩
  rw [if_neg h0]
  obtain ⟨j, rfl⟩ := Int.eq_ofNat_of_zero_le (show 0 ≤ a by omega)
  have hj : j < 8 + t * sl + n + n * wd + nt := by omega
  have hp := cat_at t n sl wd nt j hj
  rw [← U.all_] at hp
  have hg : (allP A T N L).getD ((j : Nat) : Int).toNat (0, 0, 0) = spAt sl wd (8 + t * sl) (8 + t * sl + n) (8 + t * sl + n + n * wd) j := by
    rw [Int.toNat_natCast]
    simp [List.getD, hp]
  rw [hg]
  unfold spAt
  by_cases h1 : j < 8
  · rw [if_pos (by omega), if_pos h1]
    exact ⟨iff_of_false (ne3 (by decide)) (fun h => absurd h.2.2 (ne3 (by decide))), fun h => absurd h (ne3 (by decide))⟩
  rw [if_neg (by omega), if_neg h1]
  by_cases h2 : j < 8 + t * sl
  · rw [if_pos (by omega), if_pos h2]
    exact ⟨iff_of_false (ne3 (by decide)) (fun h => absurd h.2.2 (ne3 (by decide))), fun h => absurd h (ne3 (by decide))⟩
  rw [if_neg (by omega), if_neg h2]
  by_cases h3 : j < 8 + t * sl + n
  · rw [if_pos (by omega), if_pos h3]
    exact ⟨iff_of_false (ne3 (by decide)) (fun h => absurd h.2.2 (ne3 (by decide))), fun h => absurd h (ne3 (by decide))⟩
  rw [if_neg (by omega), if_neg h3]
  by_cases h4 : j < 8 + t * sl + n + n * wd
  · rw [if_pos (by omega), if_pos h4]
    have ed : ((j : Int) - nodesP A T N L).tdiv (widthP A L) = (((j - (8 + t * sl + n)) / wd : Nat) : Int) := by
      rw [e3, e5]
      have : (j : Int) - ((8 + t * sl + n : Nat) : Int) = ((j - (8 + t * sl + n) : Nat) : Int) := by omega
      rw [this, Int.tdiv_eq_ediv_of_nonneg (by omega)]
      rfl
    have hd : (j - (8 + t * sl + n)) / wd < n := by
      rw [Nat.div_lt_iff_lt_mul (by omega)]; omega
    rw [ed]
    generalize (j - (8 + t * sl + n)) / wd = qd at *
    refine ⟨iff_of_true rfl ⟨by omega, by omega, rfl⟩, fun _ => ⟨?_, ?_, ?_⟩⟩
    · show (_ : Int) + 1 = ((_ + 1 : Nat) : Int)
      omega
    · show 1 ≤ (_ : Int) + 1
      omega
    · show (_ : Int) + 1 ≤ N
      omega
  · rw [if_neg (by omega), if_neg h4]
    exact ⟨iff_of_false (ne3 (by decide)) (fun h => absurd h.2.2 (ne3 (by decide))), fun h => absurd h (ne3 (by decide))⟩
def hit (A T N L a : Int) : Bool := decide ((0 ≤ a ∧ a < (allP A T N L).length) ∧ ((allP A T N L).getD a.toNat (0, 0, 0)).1 = 3 ∧ ((allP A T N L).getD a.toNat (0, 0, 0)).2.1 > sentP A)
/-- a ghost with the tags of a machine as at first -/
def LiveG (A N : Int) (gs : Option Gs) : Prop := ∃ g, gs = some g ∧ g.tags = liveL N.toNat (sentP A).toNat
theorem liveL_at (n s i : Nat) (h : i < n) : (liveL n s).getD i 0 = if i < s then 1 else 0 := by
  have hl : i < (liveL n s).length := by rw [liveL_len]; exact h
  rw [List.getD_eq_getElem?_getD, List.getElem?_eq_getElem hl]
  simp [liveL]
theorem tch_fault {A T N L B P S : Int} (hr : rightC ⟨A, T, N, L, B, P, S⟩) {gs : Option Gs} (h : LiveG A N gs) (a : Int) : LiveG A N (tch ⟨A, T, N, L, B, P, S⟩ gs a) ∧ faultG (tch ⟨A, T, N, L, B, P, S⟩ gs a) = (faultG gs || hit A T N L a) := by
  obtain ⟨⟨p, v, tags, k, n⟩, rfl, ht⟩ := h
  have ht : tags = liveL N.toNat (sentP A).toNat := ht
  obtain ⟨b1, b2, b3, b4, b5, b6, -⟩ := plan_bd hr
  obtain ⟨h1, h2⟩ := where_hit hr a
  refine ⟨⟨_, rfl, by rw [tchG_tags]; exact ht⟩, ?_⟩
  show faultG (some (tchG _ _ a)) = _
  unfold tchG
  have hw : Cf.where_ ⟨A, T, N, L, B, P, S⟩ a = whereP A T N L a := rfl
  rw [hw]
  unfold hit
  by_cases h3 : (whereP A T N L a).1 = 3
  · obtain ⟨q1, q2, q3⟩ := h2 h3
    obtain ⟨p1, p2, p3⟩ := h1.1 h3
    rw [if_pos h3]
    rw [q1] at q2 q3
    rw [q1]
    generalize (allP A T N L).getD a.toNat (0, 0, 0) = x at *
    obtain ⟨x1, i, x3⟩ := x
    dsimp only at *
    show decide (¬ ((gto tags k n i).1 = 0 ∧ (gto tags k n i).2 = 0)) = (decide (¬ (k = 0 ∧ n = 0)) || _)
    have hg : gto tags k n i = if i > sentP A then gf k n 4 i else (k, n) := by
      unfold gto
      rw [if_neg (by rw [ht, liveL_len]; omega), ht, liveL_at _ _ _ (by omega)]
      by_cases hi : i > sentP A
      · rw [if_pos hi, if_neg (by omega : ¬ (i - 1).toNat < (sentP A).toNat), if_pos rfl]
      · rw [if_neg hi, if_pos (by omega : (i - 1).toNat < (sentP A).toNat), if_neg (by decide)]
    rw [hg]
    by_cases hi : i > sentP A
    · rw [if_pos hi, decide_eq_true (p := (0 ≤ a ∧ a < (allP A T N L).length) ∧ x1 = 3 ∧ i > sentP A) ⟨⟨p1, p2⟩, p3, hi⟩, Bool.or_true]
      unfold gf
      split
      · simp
      · rename_i hz
        exact decide_eq_true hz
    · rw [if_neg hi, decide_eq_false (p := (0 ≤ a ∧ a < (allP A T N L).length) ∧ x1 = 3 ∧ i > sentP A) (fun hh => hi hh.2.2), Bool.or_false]
  · rw [if_neg h3, decide_eq_false (fun hh => h3 (h1.2 ⟨hh.1.1, hh.1.2, hh.2.1⟩)), Bool.or_false]
end Go.Proofs.Ytdomclcokkijjaa
