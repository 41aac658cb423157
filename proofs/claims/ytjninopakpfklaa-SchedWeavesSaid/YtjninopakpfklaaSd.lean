/- The law SchedWeaves: its walk, and the contract of weaving. -/
import Derived.Test.YtjninopakpfklaaSc
namespace Go.Proofs.Ytjninopakpfklaa
open Go.RowKit
attribute [local irreducible] Instr.loadAt Instr.storeAt Instr.fieldAt Instr.indexAt Instr.sliceAt Instr.buildSlice Instr.box Instr.alloc Builtin.append_ Builtin.len_ Builtin.min_ Builtin.max_ Calls Instr.build Instr.makeSlice binSem convert Instr.index Instr.range Instr.next

def weaveR : List Bool → List Int → List Int → List Int
  | [], a, b => a ++ b
  | t :: tb, a, b => if a = [] ∨ b = [] then a ++ b else if t then b.getD 0 0 :: weaveR tb a (b.drop 1) else a.getD 0 0 :: weaveR tb (a.drop 1) b
theorem weave_end (tb : List Bool) (a b : List Int) (h : tb = [] ∨ a = [] ∨ b = []) : weaveR tb a b = a ++ b := by
  cases tb with
  | nil => rfl
  | cons t tb =>
    show (if a = [] ∨ b = [] then a ++ b else _) = _
    rw [if_pos (by rcases h with h | h; (cases h); exact h)]
theorem boolD_drop (l : List Bool) (j : Nat) (h : j < l.length) : l.drop j = l.getD j false :: l.drop (j + 1) := by
  rw [List.drop_eq_getElem_cons h]; simp [List.getD, h]
theorem weave_t {tb : List Bool} {a b : List Int} {j : Nat} (hj : j < tb.length) (ha : 0 < a.length) (hb : 0 < b.length) (h : tb.getD j false = true) : weaveR (tb.drop j) a b = b.getD 0 0 :: weaveR (tb.drop (j + 1)) a (b.drop 1) := by
  rw [boolD_drop tb j hj, h]
  show (if a = [] ∨ b = [] then a ++ b else _) = _
  rw [if_neg (by rintro (h | h) <;> simp [h] at ha hb)]
  rfl
theorem weave_f {tb : List Bool} {a b : List Int} {j : Nat} (hj : j < tb.length) (ha : 0 < a.length) (hb : 0 < b.length) (h : tb.getD j false = false) : weaveR (tb.drop j) a b = a.getD 0 0 :: weaveR (tb.drop (j + 1)) (a.drop 1) b := by
  rw [boolD_drop tb j hj, h]
  show (if a = [] ∨ b = [] then a ++ b else _) = _
  rw [if_neg (by rintro (h | h) <;> simp [h] at ha hb)]
  rfl
structure WeaveI (w w' : World) (tb : List Bool) (res : List Int) (j : Nat) (va vb lv : Value) (out a b : List Int) : Prop where
  le : j ≤ tb.length
  ra : RdK w .i64 va a
  rb : RdK w .i64 vb b
  sl : Sl w' 3 1 lv out.length (out.map (.int .i64))
  fr : Fresh w lv
  eq : out ++ weaveR (tb.drop j) a b = res
  lo : out.length ≤ j
  la : a.length ≤ 200
  lb : b.length ≤ 200
  up : Upd [] w w'
set_option maxRecDepth 10000 in
theorem weave_c {w : World} {va vb vt : Value} {a b : List Int} {tb : List Bool} (ha : RdK w .i64 va a) (hb : RdK w .i64 vb b) (ht : RdV w vt (tb.map .bool)) (h1 : a.length ≤ 200) (h2 : b.length ≤ 200) (h3 : tb.length ≤ 500) :
    Fn Try.prog 45 #[va, vb, vt] w fun r w' => RdK w' .i64 r (weaveR tb a b) ∧ Upd [] w w' := by
  obtain ⟨ta, tc, rfl, -⟩ := ht.form
  refine fn_enter Try.func45 rfl rfl ?_
  refine len_sl ?_
  refine loop_rule [10, 11] [0, 1, 7, 12] (fun vs w' m => ∃ (j : Nat) (va vb lv : Value) (out a' b' : List Int), vs = [va, vb, lv, .int .i64 j] ∧ m = tb.length - j ∧ WeaveI w w' tb (weaveR tb a b) j va vb lv out a' b') rfl [va, vb, .slice none 0 0, .int .i64 0] tb.length rfl
    ⟨0, va, vb, _, [], a, b, rfl, rfl, ⟨by omega, ha, hb, Sl.nil_ _ _ _, Fresh.nil_ _, rfl, by simp, h1, h2, Upd.refl _ _⟩⟩ ?_
  clear ha hb
  rintro _ w1 m ⟨j, va, vb, lv, out, a', b', rfl, rfl, I⟩
  have hlo := I.lo
  have hla := I.la
  have hlb := I.lb
  have hle := I.le
  refine cd (fun hlt => ?_) (fun hlt => ?_)
  · have hlt : j < tb.length := by simpa using hlt
    obtain ⟨b_, o_, c_, he_, -⟩ := ht.some_ (by simp; omega)
    cases he_
    refine ix j rfl (by simpa using hlt) ?_
    refine ld (v := .bool (tb.getD j false)) (by rw [(ht.upd0 I.up).at_ rfl j (by simpa using hlt)]; simp [List.getD, hlt]) ?_
    obtain ⟨aa, ac, rfl, hac, -⟩ := I.ra.form
    obtain ⟨ba, bc, rfl, hbc, -⟩ := I.rb.form
    refine len_sl ?_
    refine cd (fun hz => ?_) (fun hz => ?_)
    · have hz : a' = [] := List.eq_nil_of_length_eq_zero (by omega)
      have hend := weave_end (tb.drop j) a' b' (.inr (.inl hz))
      refine apx I.sl (I.ra.upd0 I.up).rd one_ints (by simp only [maxLen]; omega) (by omega) fun v5 w5 hs5 hG5 => ?_
      obtain ⟨hU5, hf5⟩ := hG5.from_ I.up I.fr
      refine apx hs5 (I.rb.upd0 hU5).rd one_ints (by simp only [maxLen]; omega) (by omega) fun v6 w6 hs6 hG6 => ?_
      obtain ⟨hU6, hf6⟩ := hG6.from_ hU5 hf5
      rw [← List.map_append, ← List.map_append, List.append_assoc, ← hend, I.eq] at hs6
      exact ⟨RdK.of_sl hs6, hU6⟩
    refine len_sl ?_
    refine cd (fun hz2 => ?_) (fun hz2 => ?_)
    · have hz : b' = [] := List.eq_nil_of_length_eq_zero (by omega)
      have hend := weave_end (tb.drop j) a' b' (.inr (.inr hz))
      refine apx I.sl (I.ra.upd0 I.up).rd one_ints (by simp only [maxLen]; omega) (by omega) fun v5 w5 hs5 hG5 => ?_
      obtain ⟨hU5, hf5⟩ := hG5.from_ I.up I.fr
      refine apx hs5 (I.rb.upd0 hU5).rd one_ints (by simp only [maxLen]; omega) (by omega) fun v6 w6 hs6 hG6 => ?_
      obtain ⟨hU6, hf6⟩ := hG6.from_ hU5 hf5
      rw [← List.map_append, ← List.map_append, List.append_assoc, ← hend, I.eq] at hs6
      exact ⟨RdK.of_sl hs6, hU6⟩
    have pa : 0 < a'.length := by omega
    have pb : 0 < b'.length := by omega
    have heq := I.eq
    cases hbit : tb.getD j false with
    | true =>
      rw [weave_t hlt pa pb hbit] at heq
      obtain ⟨b_, o_, c_, he_, hc_⟩ := (I.rb).some_ pb
      cases he_
      refine draw_mix 9 [(0, true), (1, true), (2, true), (3, true), (6, true), (7, true), (4, false), (5, false), (8, false)] (fun w' => Upd [] w w') (by decide +kernel) I.up.drew ?_
      refine q_ix 0 rfl pb ?_
      refine q_ld (v := .int .i64 (b'.getD 0 0)) (fun w' hw' => by have := ((I.rb).upd0 hw').at_ rfl 0 pb; exact this) ?_
      refine rq (.slice (if bc = 1 then some ⟨b_, o_, none⟩ else (some ⟨b_, o_, none⟩ : Option Addr).map (·.add (1 * 1))) (b'.length - 1) (bc - 1)) (fun _ _ => sl_lo 1 rfl pb ⟨rfl, rfl⟩) ?_
      have hcut := (I.rb).cut 1 pb
      refine bs #[.int .i64 (b'.getD 0 0)] (fun _ => by kernel_rfl) fun w3 hb3 hu3 hs3 => ?_
      have hU3 : Upd [] w w3 := I.up.drew.trans hu3
      refine ⟨hU3, ?_⟩
      refine apg (I.sl.drew.upd hu3 (by simp)) hb3 rfl rfl (by decide) (by simp only [maxLen]; omega) (by omega) fun v4 w4 hs4 hG4 => ?_
      obtain ⟨hU4, hf4⟩ := hG4.from_ hU3 I.fr
      refine ⟨hU4, ?_⟩
      refine ⟨hU4, ?_⟩
      refine ar64 (by omega) ?_
      refine round_mk [_, _, v4, .int .i64 ((j + 1 : Nat) : Int)] (tb.length - (j + 1)) rfl rfl ⟨j + 1, _, _, v4, out ++ [b'.getD 0 0], a', b'.drop 1, rfl, rfl, ⟨hlt, I.ra, hcut, by simpa using hs4, hf4, by rw [← heq]; simp, by simp; omega, hla, by simp; omega, hU4⟩⟩ (by omega)
    | false =>
      rw [weave_f hlt pa pb hbit] at heq
      obtain ⟨b_, o_, c_, he_, hc_⟩ := (I.ra).some_ pa
      cases he_
      refine draw_mix 9 [(0, true), (1, true), (2, true), (3, true), (6, true), (7, true), (4, false), (5, false), (8, false)] (fun w' => Upd [] w w') (by decide +kernel) I.up.drew ?_
      refine q_ix 0 rfl pa ?_
      refine q_ld (v := .int .i64 (a'.getD 0 0)) (fun w' hw' => by have := ((I.ra).upd0 hw').at_ rfl 0 pa; exact this) ?_
      refine rq (.slice (if ac = 1 then some ⟨b_, o_, none⟩ else (some ⟨b_, o_, none⟩ : Option Addr).map (·.add (1 * 1))) (a'.length - 1) (ac - 1)) (fun _ _ => sl_lo 1 rfl pa ⟨rfl, rfl⟩) ?_
      have hcut := (I.ra).cut 1 pa
      refine bs #[.int .i64 (a'.getD 0 0)] (fun _ => by kernel_rfl) fun w3 hb3 hu3 hs3 => ?_
      have hU3 : Upd [] w w3 := I.up.drew.trans hu3
      refine ⟨hU3, ?_⟩
      refine apg (I.sl.drew.upd hu3 (by simp)) hb3 rfl rfl (by decide) (by simp only [maxLen]; omega) (by omega) fun v4 w4 hs4 hG4 => ?_
      obtain ⟨hU4, hf4⟩ := hG4.from_ hU3 I.fr
      refine ⟨hU4, ?_⟩
      refine ⟨hU4, ?_⟩
      refine ar64 (by omega) ?_
      refine round_mk [_, _, v4, .int .i64 ((j + 1 : Nat) : Int)] (tb.length - (j + 1)) rfl rfl ⟨j + 1, _, _, v4, out ++ [a'.getD 0 0], a'.drop 1, b', rfl, rfl, ⟨hlt, hcut, I.rb, by simpa using hs4, hf4, by rw [← heq]; simp, by simp; omega, by simp; omega, hlb, hU4⟩⟩ (by omega)
  · have hj : j = tb.length := by simp at hlt; omega
    have hend := weave_end (tb.drop j) a' b' (.inl (by rw [hj, List.drop_length]))
    refine apx I.sl (I.ra.upd0 I.up).rd one_ints (by simp only [maxLen]; omega) (by omega) fun v5 w5 hs5 hG5 => ?_
    obtain ⟨hU5, hf5⟩ := hG5.from_ I.up I.fr
    refine apx hs5 (I.rb.upd0 hU5).rd one_ints (by simp only [maxLen]; omega) (by omega) fun v6 w6 hs6 hG6 => ?_
    obtain ⟨hU6, hf6⟩ := hG6.from_ hU5 hf5
    rw [← List.map_append, ← List.map_append, List.append_assoc, ← hend, I.eq] at hs6
    exact ⟨RdK.of_sl hs6, hU6⟩
structure LawI (w w' : World) (tb : List Bool) (a b : List Int) (j i k : Nat) (lv : Value) (out : List Int) : Prop where
  le : j ≤ tb.length
  ia : i ≤ a.length
  kb : k ≤ b.length
  sl : Sl w' 3 1 lv out.length (out.map (.int .i64))
  fr : Fresh w lv
  eq : out ++ weaveR (tb.drop j) (a.drop i) (b.drop k) = weaveR tb a b
  lo : out.length ≤ j
  up : Upd [] w w'
set_option maxRecDepth 100000 in
theorem weaves_law {w : World} {va vb vt : Value} {a b : List Int} {tb : List Bool} (ha : RdK w .i64 va a) (hb : RdK w .i64 vb b) (ht : RdV w vt (tb.map .bool)) :
    Fn Try.prog 9 #[va, vb, vt] w fun r w' => r = .bool true ∧ Upd [] w w' := by
  obtain ⟨ta, tc, rfl, -⟩ := ht.form
  obtain ⟨aa, ac, rfl, hac, -⟩ := ha.form
  obtain ⟨ba, bc, rfl, hbc, -⟩ := hb.form
  refine fn_enter Try.func9 rfl rfl ?_
  refine len_sl ?_
  refine cd (fun h1 => ?_) (fun h1 => ?_)
  · refine cl (lives35 w) ?_
    rintro _ w1 ⟨rfl, hlive⟩
    exact ⟨rfl, (Upd.refl [] w).trans hlive⟩
  refine len_sl ?_
  refine cd (fun h2 => ?_) (fun h2 => ?_)
  · refine cl (lives35 w) ?_
    rintro _ w1 ⟨rfl, hlive⟩
    exact ⟨rfl, (Upd.refl [] w).trans hlive⟩
  refine len_sl ?_
  refine cd (fun h3 => ?_) (fun h3 => ?_)
  · refine cl (lives35 w) ?_
    rintro _ w1 ⟨rfl, hlive⟩
    exact ⟨rfl, (Upd.refl [] w).trans hlive⟩
  have h3 : tb.length ≤ 500 := by simp at h3; omega
  refine loop_rule [0, 1, 2] [7, 8, 9, 10] (fun vs w' m => ∃ (j i k : Nat) (lv : Value) (out : List Int), vs = [lv, .int .i64 i, .int .i64 k, .int .i64 j] ∧ m = tb.length - j ∧ LawI w w' tb a b j i k lv out) rfl [.slice none 0 0, .int .i64 0, .int .i64 0, .int .i64 0] tb.length rfl
    ⟨0, 0, 0, _, [], rfl, rfl, ⟨by omega, by omega, by omega, Sl.nil_ _ _ _, Fresh.nil_ _, rfl, by simp, Upd.refl _ _⟩⟩ ?_
  rintro _ w1 m ⟨j, i, k, lv, out, rfl, rfl, I⟩
  have hlo := I.lo
  have hle := I.le
  have hia := I.ia
  have hkb := I.kb
  refine len_sl ?_
  refine cd (fun hlt => ?_) (fun hlt => ?_)
  · have hlt : j < tb.length := by simpa using hlt
    refine len_sl ?_
    refine cd (fun hi => ?_) (fun hi => ?_)
    · have hi : i < a.length := by omega
      refine len_sl ?_
      refine cd (fun hk => ?_) (fun hk => ?_)
      · have hk : k < b.length := by omega
        obtain ⟨b_, o_, c_, he_, -⟩ := ht.some_ (by simp; omega)
        cases he_
        refine ix j rfl (by simpa using hlt) ?_
        refine ld (v := .bool (tb.getD j false)) (by rw [(ht.upd0 I.up).at_ rfl j (by simpa using hlt)]; simp [List.getD, hlt]) ?_
        have heq := I.eq
        have d1 : (a.drop i).getD 0 0 = a.getD i 0 := by simp [List.getD]
        have d2 : (b.drop k).getD 0 0 = b.getD k 0 := by simp [List.getD]
        cases hbit : tb.getD j false with
        | true =>
          rw [weave_t hlt (by simp; omega) (by simp; omega) hbit, d2, List.drop_drop] at heq
          obtain ⟨b_, o_, c_, he_, -⟩ := (hb.upd0 I.up).some_ (by omega)
          cases he_
          refine ix k (by omega) hk ?_
          refine ld ((hb.upd0 I.up).at_ rfl k hk) ?_
          refine bs #[.int .i64 (b.getD k 0)] (fun _ => by kernel_rfl) fun w3 hb3 hu3 hs3 => ?_
          refine apg (I.sl.upd hu3 (by simp)) hb3 rfl rfl (by decide) (by simp only [maxLen]; omega) (by omega) fun v4 w4 hs4 hG4 => ?_
          obtain ⟨hU4, hf4⟩ := hG4.from_ (I.up.trans hu3) I.fr
          refine ar64 (by omega) ?_
          refine ar64 (by omega) ?_
          refine round_mk [v4, .int .i64 i, .int .i64 ((k + 1 : Nat) : Int), .int .i64 ((j + 1 : Nat) : Int)] (tb.length - (j + 1)) rfl rfl ⟨j + 1, i, k + 1, v4, out ++ [b.getD k 0], rfl, rfl, ⟨hlt, hia, hk, by simpa using hs4, hf4, by rw [← heq]; simp, by simp; omega, hU4⟩⟩ (by omega)
        | false =>
          rw [weave_f hlt (by simp; omega) (by simp; omega) hbit, d1, List.drop_drop] at heq
          obtain ⟨b_, o_, c_, he_, -⟩ := (ha.upd0 I.up).some_ (by omega)
          cases he_
          refine ix i (by omega) hi ?_
          refine ld ((ha.upd0 I.up).at_ rfl i hi) ?_
          refine bs #[.int .i64 (a.getD i 0)] (fun _ => by kernel_rfl) fun w3 hb3 hu3 hs3 => ?_
          refine apg (I.sl.upd hu3 (by simp)) hb3 rfl rfl (by decide) (by simp only [maxLen]; omega) (by omega) fun v4 w4 hs4 hG4 => ?_
          obtain ⟨hU4, hf4⟩ := hG4.from_ (I.up.trans hu3) I.fr
          refine ar64 (by omega) ?_
          refine ar64 (by omega) ?_
          refine round_mk [v4, .int .i64 ((i + 1 : Nat) : Int), .int .i64 k, .int .i64 ((j + 1 : Nat) : Int)] (tb.length - (j + 1)) rfl rfl ⟨j + 1, i + 1, k, v4, out ++ [a.getD i 0], rfl, rfl, ⟨hlt, hi, hkb, by simpa using hs4, hf4, by rw [← heq]; simp, by simp; omega, hU4⟩⟩ (by omega)
      · have hz : b.drop k = [] := List.drop_eq_nil_of_le (by omega)
        have heq := I.eq
        rw [weave_end _ _ _ (.inr (.inr hz))] at heq
        refine sl_lo i rfl I.ia ?_
        refine apx I.sl ((ha.cut i I.ia).upd0 I.up).rd one_ints (by simp only [maxLen, List.length_drop]; omega) (by simp only [List.length_drop]; omega) fun v5 w5 hs5 hG5 => ?_
        obtain ⟨hU5, hf5⟩ := hG5.from_ I.up I.fr
        refine sl_lo k rfl I.kb ?_
        refine apx hs5 ((hb.cut k I.kb).upd0 hU5).rd one_ints (by simp only [maxLen, List.length_drop]; omega) (by simp only [List.length_drop]; omega) fun v6 w6 hs6 hG6 => ?_
        obtain ⟨hU6, hf6⟩ := hG6.from_ hU5 hf5
        rw [← List.map_append, ← List.map_append, List.append_assoc, heq] at hs6
        refine cl (weave_c (ha.upd0 hU6) (hb.upd0 hU6) (ht.upd0 hU6) (by omega) (by omega) (by omega)) ?_
        rintro rv w7 ⟨hrv, hu7⟩
        refine cl (same_c hrv (RdK.of_sl (hs6.upd hu7 (by simp)))) ?_
        rintro _ w8 ⟨rfl, hu8⟩
        refine cY rfl ?_
        refine cl (lives35 w8) ?_
        rintro _ w9 ⟨rfl, hu9⟩
        exact ⟨rfl, ((hU6.trans hu7).trans hu8).trans hu9⟩
    · have hz : a.drop i = [] := List.drop_eq_nil_of_le (by omega)
      have heq := I.eq
      rw [weave_end _ _ _ (.inr (.inl hz))] at heq
      refine sl_lo i rfl I.ia ?_
      refine apx I.sl ((ha.cut i I.ia).upd0 I.up).rd one_ints (by simp only [maxLen, List.length_drop]; omega) (by simp only [List.length_drop]; omega) fun v5 w5 hs5 hG5 => ?_
      obtain ⟨hU5, hf5⟩ := hG5.from_ I.up I.fr
      refine sl_lo k rfl I.kb ?_
      refine apx hs5 ((hb.cut k I.kb).upd0 hU5).rd one_ints (by simp only [maxLen, List.length_drop]; omega) (by simp only [List.length_drop]; omega) fun v6 w6 hs6 hG6 => ?_
      obtain ⟨hU6, hf6⟩ := hG6.from_ hU5 hf5
      rw [← List.map_append, ← List.map_append, List.append_assoc, heq] at hs6
      refine cl (weave_c (ha.upd0 hU6) (hb.upd0 hU6) (ht.upd0 hU6) (by omega) (by omega) (by omega)) ?_
      rintro rv w7 ⟨hrv, hu7⟩
      refine cl (same_c hrv (RdK.of_sl (hs6.upd hu7 (by simp)))) ?_
      rintro _ w8 ⟨rfl, hu8⟩
      refine cY rfl ?_
      refine cl (lives35 w8) ?_
      rintro _ w9 ⟨rfl, hu9⟩
      exact ⟨rfl, ((hU6.trans hu7).trans hu8).trans hu9⟩
  · have hz : tb.drop j = [] := List.drop_eq_nil_of_le (by simp at hlt; omega)
    have heq := I.eq
    rw [weave_end _ _ _ (.inl hz)] at heq
    refine sl_lo i rfl I.ia ?_
    refine apx I.sl ((ha.cut i I.ia).upd0 I.up).rd one_ints (by simp only [maxLen, List.length_drop]; omega) (by simp only [List.length_drop]; omega) fun v5 w5 hs5 hG5 => ?_
    obtain ⟨hU5, hf5⟩ := hG5.from_ I.up I.fr
    refine sl_lo k rfl I.kb ?_
    refine apx hs5 ((hb.cut k I.kb).upd0 hU5).rd one_ints (by simp only [maxLen, List.length_drop]; omega) (by simp only [List.length_drop]; omega) fun v6 w6 hs6 hG6 => ?_
    obtain ⟨hU6, hf6⟩ := hG6.from_ hU5 hf5
    rw [← List.map_append, ← List.map_append, List.append_assoc, heq] at hs6
    refine cl (weave_c (ha.upd0 hU6) (hb.upd0 hU6) (ht.upd0 hU6) (by omega) (by omega) (by omega)) ?_
    rintro rv w7 ⟨hrv, hu7⟩
    refine cl (same_c hrv (RdK.of_sl (hs6.upd hu7 (by simp)))) ?_
    rintro _ w8 ⟨rfl, hu8⟩
    refine cY rfl ?_
    refine cl (lives35 w8) ?_
    rintro _ w9 ⟨rfl, hu9⟩
    exact ⟨rfl, ((hU6.trans hu7).trans hu8).trans hu9⟩
theorem SchedWeaves_walk (w : World) (va : Value) (la : List (List Int)) (ha : SlRows w w.heap.size [.i64] va la) (vb : Value) (lb : List (List Int)) (hb : SlRows w w.heap.size [.i64] vb lb) (vt : Value) (tb : List Bool) (ht : RdV w vt (tb.map .bool)) :
    Calls Try.prog 9 #[va, vb, vt] w fun e w' => e = .returned (.bool true) ∧ Below w.heap.size w w' :=
  (weaves_law (RdK.of_ints ha.ints (Nat.le_refl _)) (RdK.of_ints hb.ints (Nat.le_refl _)) ht).mono fun _ _ ⟨_, he, hv, hu⟩ => ⟨by rw [he, hv], hu.below⟩
end Go.Proofs.Ytjninopakpfklaa
