/- The law PilePlays: its walk. -/
import Derived.Test.YtaogmfmphamplaaPile
import Derived.Test.YtaogmfmphamplaaPa
import Derived.Test.YtaogmfmphamplaaV13
import Derived.Test.YtaogmfmphamplaaV21
namespace Go.Proofs.Ytaogmfmphamplaa
open Go.RowKit
attribute [local irreducible] Instr.loadAt Instr.storeAt Instr.fieldAt Instr.indexAt Instr.sliceAt Instr.buildSlice Instr.box Instr.alloc Builtin.append_ Builtin.len_ Builtin.min_ Builtin.max_ Calls Instr.build Instr.makeSlice binSem convert Instr.index Instr.range Instr.next
abbrev TI : Nat := 3
abbrev TP : Nat := 44
abbrev ints (l : List Int) : List Value := l.map (.int .i64)
/-- what is taken from a list -/
def tk (l : List Int) (last : Bool) : List Int × Int × Bool := if l.length = 0 then (l, 0, false) else if last then (l.take (l.length - 1), l.getD (l.length - 1) 0, true) else (l.drop 1, l.getD 0 0, true)
theorem tk_len (l : List Int) (b : Bool) : (tk l b).1.length ≤ l.length := by
  unfold tk
  split
  · exact Nat.le_refl _
  · split
    · simp
    · simp
def obPile (p : Nat) (v : Value) (l : List Int) : Ob := ⟨foot p v, fun w => IsPile w p v l, fun h hu hS => h.upd hu hS, fun h => h.lt⟩
theorem taken_c {w : World} {v : Value} {l : List Int} (h : Sl w TI 1 v l.length (ints l)) (last : Bool) : Fn Try.prog 47 #[v, .bool last] w fun r w' =>
    ∃ v', r = .tuple #[v', .int .i64 (tk l last).2.1, .bool (tk l last).2.2] ∧ Sl w' TI 1 v' (tk l last).1.length (ints (tk l last).1) ∧ v'.ownBlock = v.ownBlock ∧ Upd [] w w' := by
  have hle := h.le
  simp only [maxLen] at hle
  have h' := h
  obtain ⟨a, cap, rfl, hc, -⟩ := h.form
  refine fn_enter Try.func47 rfl rfl ?_
  refine len_sl ?_
  refine cd (fun h0 => ?_) (fun h0 => ?_)
  · have h0 : l.length = 0 := by omega
    refine ⟨_, ?_, ?_, rfl, Upd.refl _ _⟩
    · unfold tk; rw [if_pos h0]; rfl
    · unfold tk; rw [if_pos h0]; exact h'
  · have h0 : l.length ≠ 0 := by omega
    obtain ⟨b, o, c2, he, -⟩ := h'.some_ (by omega)
    cases he
    cases last with
    | true =>
      refine draw_all (fun w' => w' = w.drew) (by decide +kernel) rfl ?_
      refine q_len ?_
      refine q_ar64 (by omega) ?_
      refine q_hi (l.length - 1) (by omega) (by omega) ?_
      refine q_len ?_
      refine q_ar64 (by omega) ?_
      refine q_ix (l.length - 1) (by omega) (by omega) ?_
      refine q_ld (v := .int .i64 (l.getD (l.length - 1) 0)) (by rintro _ rfl; exact h'.drew.getD_ rfl _ (by omega)) ?_
      rintro _ rfl
      refine ⟨.slice (some ⟨b, o, none⟩) (l.length - 1) cap, ?_, ?_, rfl, (Upd.refl [] w).drew⟩
      · unfold tk; rw [if_neg h0]; rfl
      · unfold tk; rw [if_neg h0]
        have := h'.drew.take_ rfl (l.length - 1) (by omega)
        simpa [ints] using this
    | false =>
      refine draw_all (fun w' => w' = w.drew) (by decide +kernel) rfl ?_
      refine rq (.slice (if cap = 1 then some ⟨b, o, none⟩ else (some ⟨b, o, none⟩ : Option Addr).map (·.add (1 * 1))) (l.length - 1) (cap - 1)) (fun _ _ => sl_lo 1 rfl (by omega) ⟨rfl, rfl⟩) ?_
      refine q_ix 0 (by omega) (by omega) ?_
      refine q_ld (v := .int .i64 (l.getD 0 0)) (by rintro _ rfl; exact h'.drew.getD_ rfl _ (by omega)) ?_
      rintro _ rfl
      refine ⟨.slice (if cap = 1 then some ⟨b, o, none⟩ else (some ⟨b, o, none⟩ : Option Addr).map (·.add (1 * 1))) (l.length - 1) (cap - 1), ?_, ?_, ?_, (Upd.refl [] w).drew⟩
      · unfold tk; rw [if_neg h0]; rfl
      · unfold tk; rw [if_neg h0]
        by_cases hc1 : cap = 1
        · rw [if_pos hc1]
          have hl1 : l.length = 1 := by omega
          obtain ⟨x, rfl⟩ : ∃ x, l = [x] := by
            match l, hl1 with
            | [x], _ => exact ⟨x, rfl⟩
          subst hc1
          exact h'.drew.empty_at rfl
        · rw [if_neg hc1]
          have := h'.drew.drop_ rfl 1 (by omega)
          simpa [ints, Addr.add_lit, List.map_drop] using this
      · by_cases hc1 : cap = 1
        · rw [if_pos hc1]; rfl
        · rw [if_neg hc1]; simp [Value.ownBlock, Addr.add_lit]
theorem popP {w : World} {p : Nat} {v : Value} {l : List Int} (h : IsPile w p v l) : Fn Try.prog 29 #[.pointer (some ⟨p, 0, none⟩)] w fun r w' => r = .tuple #[.int .i64 (tk l true).2.1, .bool (tk l true).2.2] ∧ ∃ v', IsPile w' p v' (tk l true).1 ∧ Upd [p] w w' ∧ v'.ownBlock = v.ownBlock := by
  by_cases h0 : l.length = 0
  · obtain rfl := List.length_eq_zero_iff.1 h0
    refine (pop_none h).mono ?_
    rintro e w' ⟨r, he, rfl, rfl⟩
    exact ⟨_, he, rfl, _, h, Upd.refl _ _, rfl⟩
  · obtain ⟨m, x, rfl⟩ : ∃ m x, l = m ++ [x] := by
      rcases List.eq_nil_or_concat l with rfl | ⟨m, x, rfl⟩
      · exact absurd rfl h0
      · exact ⟨m, x, by simp⟩
    have e : tk (m ++ [x]) true = (m, x, true) := by unfold tk; rw [if_neg h0]; simp [List.getD]
    rw [e]
    exact pop_c h
theorem shiftP {w : World} {p : Nat} {v : Value} {l : List Int} (h : IsPile w p v l) : Fn Try.prog 28 #[.pointer (some ⟨p, 0, none⟩)] w fun r w' => r = .tuple #[.int .i64 (tk l false).2.1, .bool (tk l false).2.2] ∧ ∃ v', IsPile w' p v' (tk l false).1 ∧ Upd [p] w w' ∧ v'.ownBlock = v.ownBlock := by
  cases l with
  | nil =>
    refine (shift_none h).mono ?_
    rintro e w' ⟨r, he, rfl, rfl⟩
    exact ⟨_, he, rfl, _, h, Upd.refl _ _, rfl⟩
  | cons x l =>
    have e : tk (x :: l) false = (l, x, true) := by unfold tk; rw [if_neg (by simp)]; rfl
    rw [e]
    exact shift_c h
/-- the function that tells what is no multiple of d -/
theorem noMul {g : Nat} {d : Int} (hd : d ≠ 0) (l : List Int) : KeepV Try.prog (.func (.func 49) #[] #[.pointer (some ⟨g, 0, none⟩)]) l (fun y => y.tmod d != 0) (obBlk g TI #[.int .i64 d]) := by
  refine ⟨_, _, rfl, HasBody.h, fun x hx w hb => ?_⟩
  have hb : Blk w g TI #[.int .i64 d] := hb
  refine fn_enter Try.func49 rfl rfl ?_
  refine ldb hb rfl ?_
  refine rm hd ?_
  refine val _ rfl ?_
  exact ⟨rfl, Upd.refl _ _⟩
theorem clone_c {w : World} {v : Value} {l : List Int} (h : Sl w TI 1 v l.length (ints l)) (hl : l.length ≤ 4294967296) : Fn Try.prog 70 #[v] w fun r w' => Sl w' TI 1 r l.length (ints l) ∧ Upd [] w w' := by
  have h' := h
  obtain ⟨a, cap, rfl, hc, h0⟩ := h.form
  refine fn_enter Try.func70 rfl rfl ?_
  refine sl_eq ?_
  cases a with
  | none =>
    obtain ⟨h1, h2⟩ := h0 rfl
    obtain rfl := List.length_eq_zero_iff.1 h1
    exact ⟨Sl.nil_ _ _ _, Upd.refl _ _⟩
  | some a =>
    refine bs #[] (fun _ => by kernel_rfl) fun w1 hb1 hu1 hs1 => ?_
    have hz : Sl w1 TI 1 (.slice (some ⟨w.heap.size, 0, none⟩) 0 0) 0 [] := Sl.lit hb1 rfl (by simp [maxLen])
    refine apx hz (h'.upd hu1 (by simp)).rd (by intro x hx; obtain ⟨y, -, rfl⟩ := List.mem_map.1 hx; rfl) (by simp only [maxLen]; omega) (by omega) fun v2 w2 hs2 hG2 => ?_
    refine ⟨by simpa using hs2, hu1.step hG2.up (by simp [Value.ownBlock])⟩
theorem list_c {w : World} {p : Nat} {v : Value} {l : List Int} (h : IsPile w p v l) (hl : l.length ≤ 4294967296) : Fn Try.prog 52 #[.pointer (some ⟨p, 0, none⟩)] w fun r w' => Sl w' TI 1 r l.length (ints l) ∧ Upd [] w w' := by
  obtain ⟨a, cap, rfl, -⟩ := h.sl.form
  refine fn_enter Try.func52 rfl rfl ?_
  refine ptr_eq ?_
  refine fa ?_
  refine ldb h.blk rfl ?_
  refine cl (clone_c h.sl hl) ?_
  rintro r w' ⟨h1, h2⟩
  obtain ⟨a2, c2, rfl, -⟩ := h1.form
  exact ⟨h1, h2⟩
def hasI (l : List Int) (s : Int) : Bool := l.any fun x => decide (x = s)
theorem hasI_s (l : List Int) (s : Int) (j : Nat) (h : j < l.length) : hasI (l.take (j + 1)) s = (hasI (l.take j) s || decide (l.getD j 0 = s)) := by
  unfold hasI
  rw [getD_take l j h, List.any_append]; simp
theorem indexI {w : World} {v : Value} {l : List Int} (h : Sl w TI 1 v l.length (ints l)) (s : Int) : Fn Try.prog 79 #[v, .int .i64 s] w fun r w' => (∃ i : Int, r = .int .i64 i ∧ decide (i ≥ 0) = hasI l s) ∧ w' = w := by
  have hle := h.le
  simp only [maxLen] at hle
  obtain ⟨a, cap, rfl, -⟩ := h.form
  refine fn_enter Try.func79 rfl rfl ?_
  refine len_sl ?_
  refine loop_rule [0, 1, 7] [8] (fun vs w' m => ∃ j : Nat, vs = [.int .i64 j] ∧ j ≤ l.length ∧ m = l.length - j ∧ hasI (l.take j) s = false ∧ w' = w) rfl [.int .i64 0] l.length rfl ⟨0, rfl, by omega, rfl, rfl, rfl⟩ ?_
  rintro _ w1 m ⟨j, rfl, hj, rfl, ht, rfl⟩
  refine cd (fun hlt => ?_) (fun hlt => ?_)
  · have hlt : j < l.length := by omega
    obtain ⟨b, o, c2, he, -⟩ := h.some_ (by omega)
    cases he
    refine ix j rfl hlt ?_
    refine ld (v := .int .i64 (l.getD j 0)) (h.getD_ rfl j hlt) ?_
    have hst := hasI_s l s j hlt
    refine cd (fun heq => ?_) (fun heq => ?_)
    · refine ⟨⟨(j : Int), rfl, ?_⟩, rfl⟩
      have : hasI l s = true := by
        unfold hasI
        rw [List.any_eq_true]
        exact ⟨l.getD j 0, by simp [List.getD, hlt], by simp [heq]⟩
      rw [this]
      exact decide_eq_true (by omega)
    · refine ar64 (by omega) ?_
      refine round_mk [.int .i64 ((j + 1 : Nat) : Int)] (l.length - (j + 1)) rfl rfl ⟨j + 1, rfl, by omega, rfl, ?_, rfl⟩ (by omega)
      rw [hst, ht, Bool.false_or]
      exact decide_eq_false (fun e => heq e.symm)
  · have hj : j = l.length := by omega
    subst hj
    rw [List.take_length] at ht
    exact ⟨⟨-1, rfl, by rw [ht]; rfl⟩, rfl⟩
theorem has_c {w : World} {p : Nat} {v : Value} {l : List Int} (h : IsPile w p v l) (s : Int) : Fn Try.prog 53 #[.pointer (some ⟨p, 0, none⟩), .int .i64 s] w fun r w' => r = .bool (hasI l s) ∧ w' = w := by
  have hcont : Fn Try.prog 71 #[v, .int .i64 s] w fun r w' => r = .bool (hasI l s) ∧ w' = w := by
    refine fn_enter Try.func71 rfl rfl ?_
    refine cl (indexI h.sl s) ?_
    rintro _ w ⟨⟨i, rfl, hi⟩, rfl⟩
    exact ⟨by rw [← hi]; rfl, rfl⟩
  refine fn_enter Try.func53 rfl rfl ?_
  refine ptr_ne ?_
  refine fa ?_
  refine ldb h.blk rfl ?_
  refine cl hcont ?_
  rintro _ w ⟨rfl, rfl⟩
  exact ⟨rfl, rfl⟩
theorem same_c {w : World} {va vb : Value} {l : List Int} (ha : Sl w TI 1 va l.length (ints l)) (hb : Sl w TI 1 vb l.length (ints l)) : Fn Try.prog 51 #[va, vb] w fun r w' => r = .bool true ∧ Upd [] w w' := by
  have hle := ha.le
  simp only [maxLen] at hle
  obtain ⟨a, ca, rfl, -⟩ := ha.form
  obtain ⟨b, cb, rfl, -⟩ := hb.form
  refine fn_enter Try.func51 rfl rfl ?_
  refine len_sl ?_
  refine len_sl ?_
  refine cN (fun h => h rfl) ?_
  refine loop_rule [0, 1] [5] (fun vs w' m => ∃ j : Nat, vs = [.int .i64 j] ∧ j ≤ l.length ∧ m = l.length - j ∧ Upd [] w w') rfl [.int .i64 0] l.length rfl ⟨0, rfl, by omega, rfl, Upd.refl _ _⟩ ?_
  rintro _ w1 m ⟨j, rfl, hj, rfl, hu⟩
  refine len_sl ?_
  refine cd (fun hlt => ?_) (fun hlt => ?_)
  · have hlt : j < l.length := by omega
    obtain ⟨b1, o1, c1, he, -⟩ := ha.some_ (by omega)
    cases he
    obtain ⟨b2, o2, c2, he, -⟩ := hb.some_ (by omega)
    cases he
    refine draw_all (fun w' => w' = w1.drew) (by decide +kernel) rfl ?_
    refine q_ix j rfl hlt ?_
    refine q_ld (v := .int .i64 (l.getD j 0)) (by rintro _ rfl; exact (ha.upd hu.drew (by simp)).getD_ rfl j hlt) ?_
    refine q_ix j rfl hlt ?_
    refine q_ld (v := .int .i64 (l.getD j 0)) (by rintro _ rfl; exact (hb.upd hu.drew (by simp)).getD_ rfl j hlt) ?_
    rintro _ rfl
    refine cN (fun h => h rfl) ?_
    refine ar64 (by omega) ?_
    exact round_mk [.int .i64 ((j + 1 : Nat) : Int)] (l.length - (j + 1)) rfl rfl ⟨j + 1, rfl, by omega, rfl, hu.drew⟩ (by omega)
  · exact ⟨rfl, hu⟩
end Go.Proofs.Ytaogmfmphamplaa
