/- Joined: Rl Rm. -/
import Derived.Test.YtbnbbafffihapaaJ9
/- skip: which nodes that are laid are sound (plain). -/
namespace Go.Proofs.Ytbnbbafffihapaa
open Go.RowKit
attribute [local irreducible] Instr.loadAt Instr.storeAt Instr.fieldAt Instr.indexAt Instr.sliceAt Instr.buildSlice Instr.box Instr.alloc Builtin.append_ Builtin.len_ Builtin.min_ Builtin.max_ Calls Instr.build Instr.makeSlice binSem convert Instr.index Instr.range Instr.next
def ordN (l : List Nd) (i : Nat) : Int := (ndAt l i).key * 4294967296 + i
def okJ (l : List Nd) : List Nat → Bool → Bool
  | [], _ => true
  | j :: r, s => if (ndAt l j).dead then (!s && okJ l r s) else okJ l r true
def lstK (l : List Nd) (js : List Nat) : List Int := (js.filter (liveP l)).map (ordN l)
def okW (l : List Nd) : List Nat → Bool → Int → Bool
  | [], _, _ => true
  | j :: r, s, key => if (ndAt l j).dead then (!s && okW l r s key) else ((!s || decide (key ≤ (ndAt l j).key)) && okW l r true (ndAt l j).key)
section
variable {A : Int} {W : List Int} {l : List Nd} {k : Nat}
theorem Laid.lives (h : Laid W A l) {i : Nat} (hi : i < l.length) : livesN (cA A ((20 : Nat) : Int)) W (rowV (cA A ((20 : Nat) : Int)) W 0) ((i : Int) + 3) = liveP l i := by
  rw [show (0 : Int) = ((0 : Nat) : Int) from rfl, h.row (by omega), tallIx_0 h]
  unfold livesN
  rw [Bool.eq_iff_iff, List.any_eq_true]
  constructor
  · rintro ⟨s, hs, hp⟩
    obtain ⟨j, hj, rfl⟩ := List.mem_map.1 hs
    have hj := List.mem_range.1 hj
    rw [h.dead hj] at hp
    simp only [Bool.and_eq_true, decide_eq_true_eq] at hp
    have e : (stN (lnk A l) 0 j).1 = (j : Int) + 3 := rfl
    rw [e] at hp
    obtain rfl : j = i := by omega
    exact hp.1
  · intro hp
    refine ⟨stN (lnk A l) 0 i, List.mem_map.2 ⟨i, List.mem_range.2 hi, rfl⟩, ?_⟩
    rw [h.dead hi]
    have e : (stN (lnk A l) 0 i).1 = (i : Int) + 3 := rfl
    rw [e, decide_eq_true rfl, Bool.and_true]; exact hp
theorem Laid.right (h : Laid W A l) (hk : k < 4) : ∀ (js : List Nat) (acc : List Int), (∀ j ∈ js, j < l.length ∧ tallP l k j = true) → rightF (cA A ((20 : Nat) : Int)) W (rowV (cA A ((20 : Nat) : Int)) W 0) (k : Int) (js.map (stN (lnk A l) k)) acc = if okJ l js (decide (0 < acc.length)) then some (acc ++ lstK l js) else none := by
  intro js
  induction js with
  | nil => intro acc _; simp [rightF, okJ, lstK]
  | cons j r ih =>
    intro acc hjs
    obtain ⟨hj, hp⟩ := hjs j (by simp)
    have hr := fun x hx => hjs x (List.mem_cons_of_mem _ hx)
    have ht := h.tall hj
    have e : (stN (lnk A l) k j).1 = (j : Int) + 3 := rfl
    rw [List.map_cons, rightF, e, h.lives hj, h.tl hj, h.key hj, okJ]
    cases hd : (ndAt l j).dead with
    | true =>
      have hl : liveP l j = false := by unfold liveP; rw [hd]; rfl
      rw [hl, if_neg (by decide), if_pos rfl]
      have e2 : lstK l (j :: r) = lstK l r := by unfold lstK; rw [List.filter_cons_of_neg (by rw [hl]; decide)]
      rw [e2]
      by_cases h0 : 0 < acc.length
      · rw [if_pos h0, decide_eq_true h0]; simp
      · rw [if_neg h0, ih acc hr, decide_eq_false h0]; simp
    | false =>
      have hl : liveP l j = true := by unfold liveP; rw [hd]; rfl
      have hti : toI (ndAt l j).tall = (ndAt l j).tall := IntWalk.i64_in _ (by omega)
      have hk2 : ¬ (ndAt l j).tall ≤ (k : Int) := by
        unfold tallP at hp
        have := of_decide_eq_true hp
        omega
      rw [hl, if_pos rfl, hti, if_neg hk2, ih _ hr, if_neg (show ¬ (false = true) by decide)]
      have e2 : lstK l (j :: r) = ordN l j :: lstK l r := by unfold lstK; rw [List.filter_cons_of_pos hl]; rfl
      rw [e2, decide_eq_true (show 0 < (acc ++ [(ndAt l j).key * 4294967296 + (j : Int)]).length by simp)]
      simp [ordN]
theorem mem_tallIx {j : Nat} : j ∈ tallIx l k ↔ j < l.length ∧ tallP l k j = true := by unfold tallIx; rw [List.mem_filter, List.mem_range]
theorem Laid.rows (h : Laid W A l) : ∀ n, n ≤ 4 → rowsR (cA A ((20 : Nat) : Int)) W n = if ∀ k, k < n → okJ l (tallIx l k) false = true then some ((List.range n).map fun k => lstK l (tallIx l k)) else none := by
  intro n
  induction n with
  | zero => intro _; rw [rowsR, if_pos (fun k hk => by omega)]; rfl
  | succ n ih =>
    intro hn
    rw [rowsR, ih (by omega)]
    have hr := h.right (k := n) (by omega) (tallIx l n) [] (fun j hj => mem_tallIx.1 hj)
    rw [← h.row (by omega)] at hr
    rw [hr]
    by_cases h1 : ∀ k, k < n → okJ l (tallIx l k) false = true
    · rw [if_pos h1]
      by_cases h2 : okJ l (tallIx l n) false = true
      · rw [if_pos (fun k hk => by
          rcases Nat.lt_or_ge k n with h3 | h3
          · exact h1 k h3
          · obtain rfl : k = n := by omega
            exact h2), if_pos (by simpa using h2), List.range_succ]
        simp
      · have h3 : ¬ ∀ k, k < n + 1 → okJ l (tallIx l k) false = true := fun hh => h2 (hh n (by omega))
        rw [if_neg h3, if_neg (show ¬ okJ l (tallIx l n) (decide (0 < ([] : List Int).length)) = true from h2)]
    · have h3 : ¬ ∀ k, k < n + 1 → okJ l (tallIx l k) false = true := fun hh => h1 fun k hk => hh k (by omega)
      rw [if_neg h1, if_neg h3]
end
section
variable (l : List Nd)
def Rr (a b : Nat) : Prop := (ndAt l a).dead = true ∨ ((ndAt l b).dead = false ∧ (ndAt l a).key ≤ (ndAt l b).key)
def Dd (a b : Nat) : Prop := (ndAt l a).dead = true ∨ (ndAt l b).dead = false
def Kk (a b : Nat) : Prop := (ndAt l a).dead = true ∨ (ndAt l b).dead = true ∨ (ndAt l a).key ≤ (ndAt l b).key
end
theorem Rr_iff (l : List Nd) (a b : Nat) : Rr l a b ↔ Dd l a b ∧ Kk l a b := by
  unfold Rr Dd Kk
  cases (ndAt l a).dead <;> cases (ndAt l b).dead <;> simp
theorem okW_iff (l : List Nd) : ∀ (js : List Nat) (s : Bool) (key : Int), okW l js s key = true ↔ js.Pairwise (Rr l) ∧ (s = true → ∀ b ∈ js, (ndAt l b).dead = false ∧ key ≤ (ndAt l b).key) := by
  intro js
  induction js with
  | nil => intro s key; simp [okW]
  | cons j r ih =>
    intro s key
    rw [okW, List.pairwise_cons]
    cases hd : (ndAt l j).dead with
    | true =>
      rw [if_pos rfl, Bool.and_eq_true, ih]
      constructor
      · rintro ⟨h1, h2, h3⟩
        have hs : s = false := by cases s <;> first | rfl | cases h1
        exact ⟨⟨fun b _ => .inl hd, h2⟩, fun h => by rw [hs] at h; cases h⟩
      · rintro ⟨⟨_, h2⟩, h3⟩
        have hs : s = false := by
          cases s with
          | false => rfl
          | true =>
            have := (h3 rfl j (by simp)).1
            rw [hd] at this; cases this
        rw [hs]
        exact ⟨rfl, h2, fun h => by cases h⟩
    | false =>
      rw [if_neg (by decide), Bool.and_eq_true, ih]
      constructor
      · rintro ⟨h1, h2, h3⟩
        have h3 := h3 rfl
        refine ⟨⟨fun b hb => .inr (h3 b hb), h2⟩, fun hs b hb => ?_⟩
        rw [hs] at h1
        have h1 : key ≤ (ndAt l j).key := by simpa using h1
        rcases List.mem_cons.1 hb with rfl | hb
        · exact ⟨hd, h1⟩
        · have := h3 b hb
          exact ⟨this.1, by omega⟩
      · rintro ⟨⟨h1, h2⟩, h3⟩
        refine ⟨?_, h2, fun _ b hb => ?_⟩
        · cases s with
          | false => rfl
          | true =>
            have := (h3 rfl j (by simp)).2
            simpa using this
        · rcases h1 b hb with h4 | h4
          · rw [hd] at h4; cases h4
          · exact h4
theorem okJ_iff (l : List Nd) : ∀ (js : List Nat) (s : Bool), okJ l js s = true ↔ js.Pairwise (Dd l) ∧ (s = true → ∀ b ∈ js, (ndAt l b).dead = false) := by
  intro js
  induction js with
  | nil => intro s; simp [okJ]
  | cons j r ih =>
    intro s
    rw [okJ, List.pairwise_cons]
    cases hd : (ndAt l j).dead with
    | true =>
      rw [if_pos rfl, Bool.and_eq_true, ih]
      constructor
      · rintro ⟨h1, h2, h3⟩
        have hs : s = false := by cases s <;> first | rfl | cases h1
        exact ⟨⟨fun b _ => .inl hd, h2⟩, fun h => by rw [hs] at h; cases h⟩
      · rintro ⟨⟨_, h2⟩, h3⟩
        have hs : s = false := by
          cases s with
          | false => rfl
          | true =>
            have := h3 rfl j (by simp)
            rw [hd] at this; cases this
        rw [hs]
        exact ⟨rfl, h2, fun h => by cases h⟩
    | false =>
      rw [if_neg (by decide), ih]
      constructor
      · rintro ⟨h2, h3⟩
        have h3 := h3 rfl
        refine ⟨⟨fun b hb => .inr (h3 b hb), h2⟩, fun _ b hb => ?_⟩
        rcases List.mem_cons.1 hb with rfl | hb
        · exact hd
        · exact h3 b hb
      · rintro ⟨⟨h1, h2⟩, h3⟩
        refine ⟨h2, fun _ b hb => ?_⟩
        rcases h1 b hb with h4 | h4
        · rw [hd] at h4; cases h4
        · exact h4
theorem risB_iff (L : List Int) : risB L = true ↔ L.Pairwise (· < ·) := by
  unfold risB
  rw [all_range, List.pairwise_iff_getElem]
  constructor
  · intro h
    have step : ∀ i, i + 1 < L.length → L.getD i 0 < L.getD (i + 1) 0 := fun i hi => by
      have := h (i + 1) hi
      rw [decide_eq_false (by omega), Bool.false_or, Nat.add_sub_cancel] at this
      exact of_decide_eq_true this
    have chain : ∀ (d i : Nat), i + d + 1 < L.length → L.getD i 0 < L.getD (i + d + 1) 0 := by
      intro d
      induction d with
      | zero => intro i hi; exact step i hi
      | succ d ih =>
        intro i hi
        have h1 := ih i (by omega)
        have h2 := step (i + d + 1) (by omega)
        rw [show i + (d + 1) + 1 = i + d + 1 + 1 by omega]
        omega
    intro i j hi hj hij
    have := chain (j - i - 1) i (by omega)
    rw [show i + (j - i - 1) + 1 = j by omega] at this
    simpa [List.getD, hi, hj] using this
  · intro h i hi
    by_cases h0 : i = 0
    · rw [decide_eq_true h0]; rfl
    · rw [decide_eq_false h0, Bool.false_or]
      have := h (i - 1) i (by omega) hi (by omega)
      refine decide_eq_true ?_
      simpa [List.getD, hi, show i - 1 < L.length by omega] using this
theorem lstK_iff {l : List Nd} (h18 : l.length ≤ 18) {js : List Nat} (hs : js.Pairwise (· < ·)) (hj : ∀ j ∈ js, j < l.length) : risB (lstK l js) = true ↔ js.Pairwise (Kk l) := by
  rw [risB_iff]
  unfold lstK
  rw [List.pairwise_map, List.pairwise_filter]
  constructor
  · intro h
    have h2 : ∀ a b, [a, b].Sublist js → a < b := fun a b hab => List.pairwise_iff_forall_sublist.1 hs hab
    refine List.pairwise_iff_forall_sublist.2 fun {a b} hab => ?_
    have h3 := List.pairwise_iff_forall_sublist.1 h hab
    have hlt := h2 _ _ hab
    have hb := hj b (hab.subset (by simp))
    unfold Kk
    cases hda : (ndAt l a).dead with
    | true => exact .inl rfl
    | false =>
      cases hdb : (ndAt l b).dead with
      | true => exact .inr (.inl rfl)
      | false =>
        have h4 := h3 (by unfold liveP; rw [hda]; rfl) (by unfold liveP; rw [hdb]; rfl)
        unfold ordN at h4
        right; right; omega
  · intro h
    have h2 : ∀ a b, [a, b].Sublist js → a < b := fun a b hab => List.pairwise_iff_forall_sublist.1 hs hab
    refine List.pairwise_iff_forall_sublist.2 fun {a b} hab => ?_
    have h3 := List.pairwise_iff_forall_sublist.1 h hab
    have hlt := h2 _ _ hab
    intro ha hb
    unfold Kk at h3
    have ha : (ndAt l a).dead = false := by unfold liveP at ha; simpa using ha
    have hb : (ndAt l b).dead = false := by unfold liveP at hb; simpa using hb
    rw [ha, hb] at h3
    unfold ordN
    rcases h3 with h3 | h3 | h3
    · cases h3
    · cases h3
    · omega
theorem pairwise_and {α : Type} {R S : α → α → Prop} {l : List α} : l.Pairwise (fun a b => R a b ∧ S a b) ↔ l.Pairwise R ∧ l.Pairwise S := by
  constructor
  · intro h; exact ⟨h.imp fun h => h.1, h.imp fun h => h.2⟩
  · rintro ⟨h1, h2⟩
    exact h1.and h2
section
variable {A : Int} {W : List Int} {l : List Nd}
theorem tallIx_sub (k : Nat) : (tallIx l k).Sublist (List.range l.length) := List.filter_sublist
theorem range_lt (n : Nat) : (List.range n).Pairwise (· < ·) := List.pairwise_lt_range
theorem Laid.sound (h : Laid W A l) : soundB (cA A ((20 : Nat) : Int)) W = okW l (List.range l.length) false 0 := by
  have hA : A ≠ 0 := by have := h.a; unfold inA at this; omega
  have h18 := h.few
  unfold soundB
  rw [if_neg (show ¬ (cA A ((20 : Nat) : Int)).A = 0 from hA), show (cA A ((20 : Nat) : Int)).L.toNat = 4 from rfl, h.rows 4 (Nat.le_refl _)]
  have hs : ∀ k, (tallIx l k).Pairwise (· < ·) := fun k => (range_lt l.length).sublist (tallIx_sub k)
  have hj : ∀ k, ∀ j ∈ tallIx l k, j < l.length := fun k j hj => (mem_tallIx.1 hj).1
  have hris : ∀ k, risB (lstK l (tallIx l k)) = true ↔ (tallIx l k).Pairwise (Kk l) := fun k => lstK_iff h18 (hs k) (hj k)
  have key : (∀ k, k < 4 → okJ l (tallIx l k) false = true ∧ risB (lstK l (tallIx l k)) = true) ↔ okW l (List.range l.length) false 0 = true := by
    rw [okW_iff]
    constructor
    · intro hh
      obtain ⟨h1, h2⟩ := hh 0 (by omega)
      rw [hris] at h2
      rw [okJ_iff] at h1
      rw [tallIx_0 h] at h1 h2
      refine ⟨?_, fun h => by cases h⟩
      exact (pairwise_and.2 ⟨h1.1, h2⟩).imp fun hh => (Rr_iff _ _ _).2 hh
    · rintro ⟨hh, -⟩ k hk
      have h1 : (tallIx l k).Pairwise (Rr l) := hh.sublist (tallIx_sub k)
      have h2 := pairwise_and.1 (h1.imp fun hh => (Rr_iff _ _ _).1 hh)
      exact ⟨(okJ_iff _ _ _).2 ⟨h2.1, fun h => by cases h⟩, (hris k).2 h2.2⟩
  rw [Bool.eq_iff_iff, ← key]
  by_cases h1 : ∀ k, k < 4 → okJ l (tallIx l k) false = true
  · rw [if_pos h1]
    show (if A = 1 then nestB ((List.range 4).map fun k => lstK l (tallIx l k)) else ((List.range 4).map fun k => lstK l (tallIx l k)).all risB) = true ↔ _
    have hall : ((List.range 4).map fun k => lstK l (tallIx l k)).all risB = true ↔ ∀ k, k < 4 → risB (lstK l (tallIx l k)) = true := by
      rw [List.all_map, all_range]; rfl
    by_cases hA1 : A = 1
    · rw [if_pos hA1]
      unfold nestB
      rw [all_range]
      have hlen : ((List.range 4).map fun k => lstK l (tallIx l k)).length = 4 := rfl
      rw [hlen]
      have hget : ∀ k, k < 4 → ((List.range 4).map fun k => lstK l (tallIx l k)).getD k [] = lstK l (tallIx l k) := fun k hk => by
        simp [List.getD, hk]
      constructor
      · intro hh k hk
        have := hh k hk
        unfold nestAt at this
        rw [hget k hk, Bool.and_eq_true] at this
        exact ⟨h1 k hk, this.1⟩
      · intro hh k hk
        unfold nestAt
        rw [hget k hk, Bool.and_eq_true]
        refine ⟨(hh k hk).2, ?_⟩
        by_cases h0 : k = 0
        · rw [decide_eq_true h0]; rfl
        · rw [hget (k - 1) (by omega), decide_eq_false h0, Bool.false_or, List.all_eq_true]
          intro n hn
          unfold hasI
          rw [List.any_eq_true]
          refine ⟨n, ?_, decide_eq_true rfl⟩
          unfold lstK at hn ⊢
          obtain ⟨j, hj1, rfl⟩ := List.mem_map.1 hn
          obtain ⟨hj2, hj3⟩ := List.mem_filter.1 hj1
          refine List.mem_map.2 ⟨j, List.mem_filter.2 ⟨?_, hj3⟩, rfl⟩
          obtain ⟨g1, g2⟩ := mem_tallIx.1 hj2
          refine mem_tallIx.2 ⟨g1, ?_⟩
          unfold tallP at g2 ⊢
          have := of_decide_eq_true g2
          exact decide_eq_true (by omega)
    · rw [if_neg hA1, hall]
      exact ⟨fun hh k hk => ⟨h1 k hk, hh k hk⟩, fun hh k hk => (hh k hk).2⟩
  · rw [if_neg h1]
    show false = true ↔ _
    constructor
    · intro h; cases h
    · intro hh; exact absurd (fun k hk => (hh k hk).1) h1
end
end Go.Proofs.Ytbnbbafffihapaa

/- The law SkipSound: its walk. -/
namespace Go.Proofs.Ytbnbbafffihapaa
open Go.RowKit
attribute [local irreducible] Instr.loadAt Instr.storeAt Instr.fieldAt Instr.indexAt Instr.sliceAt Instr.buildSlice Instr.box Instr.alloc Builtin.append_ Builtin.len_ Builtin.min_ Builtin.max_ Calls Instr.build Instr.makeSlice binSem convert Instr.index Instr.range Instr.next
section
variable {w : World} {v : Value} {l : List Nd} {q : Int}
set_option maxRecDepth 100000 in
set_option maxHeartbeats 2000000 in
theorem sound_law (hl : RdNd w v l) (hu : NdU l) : Fn Try.prog 4 #[.int .i64 q, v] w fun r w' => r = .bool true ∧ Upd [] w w' := by
  obtain ⟨va, vc, rfl, hv1, hv2⟩ := hl.form
  refine fn_enter Try.func4 rfl rfl ?_
  refine len_sl ?_
  refine cd (fun h18 => ?_) (fun h18 => ?_)
  · refine cl (lives24 _) ?_
    rintro _ w2 ⟨rfl, hu2⟩
    exact ⟨rfl, hu2⟩
  obtain ⟨A, hA⟩ : ∃ A : Int, 1 + q % 2 = A := ⟨_, rfl⟩
  have hA12 : inA A := by unfold inA; omega
  refine cl (fstx_c (N := 20) hA12 hA (.inl rfl) (okS_20 hA12) _) ?_
  rintro _ w1 ⟨X, k, t, rfl, F⟩
  refine ptr_eq ?_
  generalize hres : okW l (List.range l.length) false 0 = res
  refine loop_rule [0, 1, 5] [6, 7, 8, 9] (fun vs w' m => ∃ (i : Nat) (b s : Bool) (ky : Int), vs = [.bool b, .bool s, .int .u32 ky, .int .i64 (i : Int)] ∧ i ≤ l.length ∧ m = l.length - i ∧ (0 ≤ ky ∧ ky ≤ 4294967295) ∧ (∀ j, j < i → 1 ≤ (ndAt l j).tall ∧ (ndAt l j).tall ≤ 4) ∧ (b && okW l (List.range' i (l.length - i)) s ky) = res ∧ w' = w1) rfl [.bool true, .bool false, .int .u32 0, .int .i64 0] l.length rfl ⟨0, true, false, 0, rfl, by omega, rfl, ⟨by omega, by omega⟩, fun j hj => by omega, by rw [Bool.true_and, Nat.sub_zero, ← List.range_eq_range']; exact hres, rfl⟩ ?_
  rintro _ w1' m ⟨i, b, s, ky, rfl, hi, rfl, hky, hall, hok, rfl⟩
  have hl1 := hl.upd0 F.new.up
  refine len_sl ?_
  refine cd (fun hlt => ?_) (fun hlt => ?_)
  · have hlt : i < l.length := by omega
    obtain ⟨bb, o, cap, he, -⟩ := hl.some_ (by omega)
    cases he
    have hki := (hu.at_ hlt).1
    refine ix i rfl hlt ?_
    refine fa ?_
    refine ld (v := .int .i64 (ndAt l i).tall) (by rw [(hl1).nd rfl i hlt 2 (by omega)]; rfl) ?_
    refine cd (fun h1 => ?_) (fun h1 => ?_)
    · refine cl (lives24 _) ?_
      rintro _ w2 ⟨rfl, hu2⟩
      exact ⟨rfl, F.new.up.trans hu2⟩
    refine ix i rfl hlt ?_
    refine fa ?_
    refine ld (v := .int .i64 (ndAt l i).tall) (by rw [(hl1).nd rfl i hlt 2 (by omega)]; rfl) ?_
    refine cd (fun h2 => ?_) (fun h2 => ?_)
    · refine cl (lives24 _) ?_
      rintro _ w2 ⟨rfl, hu2⟩
      exact ⟨rfl, F.new.up.trans hu2⟩
    have hall' : ∀ j, j < i + 1 → 1 ≤ (ndAt l j).tall ∧ (ndAt l j).tall ≤ 4 := fun j hj => by
      rcases Nat.lt_or_ge j i with h | h
      · exact hall j h
      · obtain rfl : j = i := by omega
        omega
    have hrg : List.range' i (l.length - i) = i :: List.range' (i + 1) (l.length - (i + 1)) := by rw [show l.length - i = (l.length - (i + 1)) + 1 by omega, List.range'_succ]
    rw [hrg, okW] at hok
    refine ix i rfl hlt ?_
    refine fa ?_
    cases hd : (ndAt l i).dead with
    | true =>
      rw [hd, if_pos rfl] at hok
      refine ld (v := .bool true) (by rw [hl1.nd rfl i hlt 3 (by omega), ndL, hd]; rfl) ?_
      cases b with
      | true =>
        cases s with
        | true =>
          refine ar64 (by omega) ?_
          exact round_mk [.bool false, .bool true, .int .u32 ky, .int .i64 ((i + 1 : Nat) : Int)] (l.length - (i + 1)) rfl rfl ⟨i + 1, false, true, ky, rfl, by omega, rfl, hky, hall', (by rw [← hok]; rfl), rfl⟩ (by omega)
        | false =>
          refine ar64 (by omega) ?_
          exact round_mk [.bool true, .bool false, .int .u32 ky, .int .i64 ((i + 1 : Nat) : Int)] (l.length - (i + 1)) rfl rfl ⟨i + 1, true, false, ky, rfl, by omega, rfl, hky, hall', (by rw [← hok]; rfl), rfl⟩ (by omega)
      | false =>
          refine ar64 (by omega) ?_
          exact round_mk [.bool false, .bool s, .int .u32 ky, .int .i64 ((i + 1 : Nat) : Int)] (l.length - (i + 1)) rfl rfl ⟨i + 1, false, s, ky, rfl, by omega, rfl, hky, hall', (by rw [← hok]; rfl), rfl⟩ (by omega)
    | false =>
      rw [hd, if_neg (show ¬ (false = true) by decide)] at hok
      refine ld (v := .bool false) (by rw [hl1.nd rfl i hlt 3 (by omega), ndL, hd]; rfl) ?_
      cases b with
      | true =>
        cases s with
        | true =>
          refine ix i rfl hlt ?_
          refine fa ?_
          refine ld (v := .int .u32 (ndAt l i).key) (by rw [hl1.nd rfl i hlt 0 (by omega)]; rfl) ?_
          refine ix i rfl hlt ?_
          refine fa ?_
          refine ld (v := .int .u32 (ndAt l i).key) (by rw [hl1.nd rfl i hlt 0 (by omega)]; rfl) ?_
          refine ar64 (by omega) ?_
          exact round_mk [.bool (decide ((ndAt l i).key ≥ ky)), .bool true, .int .u32 (ndAt l i).key, .int .i64 ((i + 1 : Nat) : Int)] (l.length - (i + 1)) rfl rfl ⟨i + 1, (decide ((ndAt l i).key ≥ ky)), true, (ndAt l i).key, rfl, by omega, rfl, hki, hall', (by rw [← hok]; rfl), rfl⟩ (by omega)
        | false =>
          refine ix i rfl hlt ?_
          refine fa ?_
          refine ld (v := .int .u32 (ndAt l i).key) (by rw [hl1.nd rfl i hlt 0 (by omega)]; rfl) ?_
          refine ar64 (by omega) ?_
          exact round_mk [.bool true, .bool true, .int .u32 (ndAt l i).key, .int .i64 ((i + 1 : Nat) : Int)] (l.length - (i + 1)) rfl rfl ⟨i + 1, true, true, (ndAt l i).key, rfl, by omega, rfl, hki, hall', (by rw [← hok]; rfl), rfl⟩ (by omega)
      | false =>
        refine ix i rfl hlt ?_
        refine fa ?_
        refine ld (v := .int .u32 (ndAt l i).key) (by rw [hl1.nd rfl i hlt 0 (by omega)]; rfl) ?_
        refine ar64 (by omega) ?_
        exact round_mk [.bool false, .bool true, .int .u32 (ndAt l i).key, .int .i64 ((i + 1 : Nat) : Int)] (l.length - (i + 1)) rfl rfl ⟨i + 1, false, true, (ndAt l i).key, rfl, by omega, rfl, hki, hall', (by rw [← hok]; rfl), rfl⟩ (by omega)
  obtain rfl : i = l.length := by omega
  rw [Nat.sub_self] at hok
  have hb : b = res := by rw [← hok]; simp [okW]
  subst hb
  have ht : tallsOk l := fun j hj => hall j (by omega)
  refine cl (layx_c hA12 hA F hl hu ht (by omega)) ?_
  rintro _ w2 ⟨Y, W, k', a, H, hm, hLd, -, -⟩
  rw [← hm]
  have Q := hLd.q H
  refine cl (sound_q Q (.inl H.g_)) ?_
  rintro _ w3 ⟨rfl, hu3⟩
  rw [H.c_, H.w_, hLd.sound, hres]
  refine bq ?_
  refine cY rfl ?_
  refine cl (lives24 _) ?_
  rintro _ w4 ⟨rfl, hu4⟩
  refine ⟨?_, (H.new.up.trans hu3).trans hu4⟩
  show Value.bool _ = _
  simp
end
theorem SkipSound_walk (w : World) (q : Int) (_ : (Lit.int .i64 q).wf) (v : Value) (l : List Nd) (h : RdNd w v l) (hu : NdU l) :
    Calls Try.prog 4 #[.int .i64 q, v] w fun e w' => e = .returned (.bool true) ∧ Below w.heap.size w w' :=
  (sound_law h hu).mono fun _ _ ⟨_, he, hr, hup⟩ => ⟨by rw [he, hr], hup.below⟩
end Go.Proofs.Ytbnbbafffihapaa

