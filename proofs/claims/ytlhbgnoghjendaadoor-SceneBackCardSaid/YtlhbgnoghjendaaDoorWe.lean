/- Which configuration a text is: the reference's Parse. -/
import Derived.Test.YtlhbgnoghjendaaDoorWd
import Derived.Test.YtlhbgnoghjendaaDoorUg
namespace Go.Proofs.YtlhbgnoghjendaaDoor
open Go.RowKit
attribute [local irreducible] Instr.loadAt Instr.storeAt Instr.fieldAt Instr.indexAt Instr.sliceAt Instr.buildSlice Instr.box Instr.alloc Builtin.append_ Builtin.len_ Builtin.min_ Builtin.max_ Calls Instr.build Instr.makeSlice binSem convert Instr.index Instr.range Instr.next
/-- the scan for numbers: how many there were, whether within one, the first six -/
def stepS (st : Nat × Bool × List Nat) (ch : UInt8) : Nat × Bool × List Nat :=
  if isD ch = false then (st.1, false, st.2.2)
  else
    let a := if st.2.1 then st.1 else st.1 + 1
    if a ≤ 6 ∧ st.2.2.getD (a - 1) 0 < 1000 then (a, true, st.2.2.set (a - 1) (10 * st.2.2.getD (a - 1) 0 + (ch.toNat - 48))) else (a, true, st.2.2)
def scanS (l : List UInt8) : Nat × Bool × List Nat := l.foldl stepS (0, false, [0, 0, 0, 0, 0, 0])
theorem scanS_take (l : List UInt8) (i : Nat) (hi : i < l.length) : scanS (l.take (i + 1)) = stepS (scanS (l.take i)) (l.getD i 0) := by
  unfold scanS
  rw [take_nextU l i hi, List.foldl_append]; rfl
def nums6 (N : List Nat) : Array Value := ints7 (N.map fun n : Nat => (n : Int))
/-- what the scan keeps -/
structure ScI (st : Nat × Bool × List Nat) (i : Nat) : Prop where
  len : st.2.2.length = 6
  le : ∀ k, st.2.2.getD k 0 ≤ 10000
  a : st.1 ≤ i
  b : st.2.1 = true → 1 ≤ st.1
theorem ScI.step {st : Nat × Bool × List Nat} {i : Nat} (h : ScI st i) (ch : UInt8) : ScI (stepS st ch) (i + 1) := by
  obtain ⟨a, b, N⟩ := st
  obtain ⟨h1, h2, h3, h4⟩ := h
  simp only at h1 h2 h3 h4
  unfold stepS
  split
  · exact ⟨h1, h2, by simp only; omega, by simp⟩
  · rename_i hd
    have hd : isD ch = true := by simpa using hd
    have hdc := (isD_iff ch).1 hd
    simp only
    have ha : 1 ≤ (if b = true then a else a + 1) ∧ (if b = true then a else a + 1) ≤ i + 1 := by
      split
      · rename_i hb; have := h4 hb; omega
      · omega
    generalize (if b = true then a else a + 1) = a' at *
    split
    · rename_i hc
      refine ⟨by simp [h1], fun k => ?_, by simp only; omega, fun _ => ha.1⟩
      simp only
      by_cases hk : k = a' - 1
      · subst hk
        simp only [List.getD, List.getElem?_set_self (show a' - 1 < N.length by omega), Option.getD_some]
        have := hc.2
        simp only [List.getD] at this
        omega
      · have := h2 k
        simp only [List.getD, List.getElem?_set_ne (Ne.symm hk)] at this ⊢
        exact this
    · exact ⟨h1, h2, by simp only; omega, fun _ => ha.1⟩
theorem scan_inv (l : List UInt8) : ∀ i, i ≤ l.length → ScI (scanS (l.take i)) i
  | 0, _ => by
    refine ⟨rfl, fun k => ?_, by simp [scanS], by simp [scanS]⟩
    have : (scanS (l.take 0)).2.2 = [0, 0, 0, 0, 0, 0] := rfl
    rw [this]
    rcases Nat.lt_or_ge k 6 with h | h
    · rcases (show k = 0 ∨ k = 1 ∨ k = 2 ∨ k = 3 ∨ k = 4 ∨ k = 5 by omega) with rfl | rfl | rfl | rfl | rfl | rfl <;> decide
    · simp [List.getD, h]
  | i + 1, hi => by
    rw [scanS_take l i (by omega)]
    exact (scan_inv l i (by omega)).step _
/-! ### The scan of a configuration's text -/
theorem scan_no : ∀ (x : List UInt8) (a : Nat) (N : List Nat), x.all (fun c => !isD c) = true → x.foldl stepS (a, false, N) = (a, false, N)
  | [], _, _, _ => rfl
  | c :: x, a, N, h => by
    simp only [List.all_cons, Bool.and_eq_true, Bool.not_eq_true'] at h
    rw [List.foldl_cons]
    have : stepS (a, false, N) c = (a, false, N) := by unfold stepS; rw [if_pos h.1]
    rw [this]
    exact scan_no x a N h.2
theorem scan_no1 (c : UInt8) (x : List UInt8) (a : Nat) (b : Bool) (N : List Nat) (h : (c :: x).all (fun c => !isD c) = true) : (c :: x).foldl stepS (a, b, N) = (a, false, N) := by
  simp only [List.all_cons, Bool.and_eq_true, Bool.not_eq_true'] at h
  rw [List.foldl_cons]
  have : stepS (a, b, N) c = (a, false, N) := by unfold stepS; rw [if_pos h.1]
  rw [this]
  exact scan_no x a N h.2
theorem scan_dec {k a : Nat} {N : List Nat} (hk : k ≤ 64) (ha : a < 6) (hN : N.length = 6) (h0 : N.getD a 0 = 0) : (decU k).foldl stepS (a, false, N) = (a + 1, true, N.set a k) := by
  have one : ∀ d, d < 10 → stepS (a, false, N) (UInt8.ofNat (48 + d)) = (a + 1, true, N.set a d) := fun d hd => by
    unfold stepS
    rw [if_neg (by rw [dig_isD d hd]; decide)]
    simp only [Bool.false_eq_true, if_false]
    rw [if_pos ⟨by omega, by rw [show a + 1 - 1 = a by omega, h0]; decide⟩, dig_nat d hd, show a + 1 - 1 = a by omega, h0, show 10 * 0 + (48 + d - 48) = d by omega]
  by_cases h : k < 10
  · rw [decU_small h, List.foldl_cons, List.foldl_nil, one k h]
  · rw [decU_big h, decU_small (show k / 10 < 10 by omega), List.foldl_append, show List.foldl stepS (a, false, N) [UInt8.ofNat (48 + k / 10)] = (a + 1, true, N.set a (k / 10)) from one (k / 10) (by omega), List.foldl_cons, List.foldl_nil]
    unfold stepS
    rw [if_neg (by rw [dig_isD _ (by omega)]; decide)]
    have hg : (N.set a (k / 10)).getD a 0 = k / 10 := by simp [List.getD, show a < N.length by omega]
    simp only [if_true]
    rw [show a + 1 - 1 = a by omega, hg, if_pos ⟨by omega, by omega⟩, dig_nat _ (by omega), List.set_set, show 10 * (k / 10) + (48 + k % 10 - 48) = k by omega]
theorem nameB_all (j : Nat) : (32 :: (nameB j ++ [32])).all (fun c => !isD c) = true := by
  rcases Nat.lt_or_ge j 7 with h | h
  · rcases (show j = 0 ∨ j = 1 ∨ j = 2 ∨ j = 3 ∨ j = 4 ∨ j = 5 ∨ j = 6 by omega) with rfl | rfl | rfl | rfl | rfl | rfl | rfl <;> decide
  · have : nameB j = [] := by unfold nameB nameL; simp [List.getD, h, toB]
    rw [this]; decide
theorem kindB_all (A : Int) : (kindB A).all (fun c => !isD c) = true := by
  unfold kindB kindL
  split
  · decide
  · split <;> decide
theorem scan_part {c : Cf} (hc : rightC c) (j : Nat) (h1 : 1 ≤ j) (h7 : j < 7) (b : Bool) {N : List Nat} (hN : N.length = 6) (h0 : N.getD (j - 1) 0 = 0) : (toB (partL c j)).foldl stepS (j - 1, b, N) = (j, true, N.set (j - 1) ((cfL c).getD j 0).toNat) := by
  have hb := right_bd hc j h7
  have e : toB (partL c j) = (32 :: (nameB j ++ [32])) ++ decU ((cfL c).getD j 0).toNat := by
    unfold partL
    rw [toB_app, toB_app, toB_app]
    rw [show toB [32] = [32] from rfl]
    simp only [nameB, decU, List.append_assoc, List.cons_append, List.nil_append]
  rw [e, List.foldl_append, scan_no1 32 _ _ _ _ (nameB_all j), scan_dec (by omega) (by omega) hN h0, show j - 1 + 1 = j by omega]
theorem scan_conf {c : Cf} (hc : rightC c) : (scanS (confU c)).2.2 = [((cfL c).getD 1 0).toNat, ((cfL c).getD 2 0).toNat, ((cfL c).getD 3 0).toNat, ((cfL c).getD 4 0).toNat, ((cfL c).getD 5 0).toNat, ((cfL c).getD 6 0).toNat] := by
  unfold scanS confU confL
  simp only [tailL, toB_app, List.foldl_append]
  rw [show toB (kindL c.A) = kindB c.A from rfl, scan_no _ _ _ (kindB_all c.A), show toB [] = [] from rfl, List.foldl_nil]
  rw [scan_part hc 1 (by omega) (by omega) _ rfl rfl]
  rw [scan_part hc 2 (by omega) (by omega) _ rfl rfl]
  rw [scan_part hc 3 (by omega) (by omega) _ rfl rfl]
  rw [scan_part hc 4 (by omega) (by omega) _ rfl rfl]
  rw [scan_part hc 5 (by omega) (by omega) _ rfl rfl]
  rw [scan_part hc 6 (by omega) (by omega) _ rfl rfl]
  rfl
/-! ### The walk -/
theorem by8_atc (l : List UInt8) (i : Nat) (hi : i < (by8 l).size) : ((by8 l)[i]'hi).toNat = (l.getD i 0).toNat := by rw [by8_at]
theorem nums6_at {N : List Nat} (h : N.length = 6) (k : Nat) (hk : k < 6) : (nums6 N)[k]? = some (.int .i64 ((N.getD k 0 : Nat) : Int)) := by
  simp [nums6, ints7, List.getD, show k < N.length by omega]
theorem nums6_set (N : List Nat) (k n : Nat) : (nums6 N).setIfInBounds k (.int .i64 (n : Int)) = nums6 (N.set k n) := by
  unfold nums6 ints7
  apply Array.ext'
  simp [List.map_set]
theorem nums6_size {N : List Nat} (h : N.length = 6) : (nums6 N).size = 6 := by simp [nums6, ints7, h]
theorem list6 {α : Type} {l : List α} (h : l.length = 6) : ∃ a b c d e f, l = [a, b, c, d, e, f] := by
  match l, h with
  | [a, b, c, d, e, f], _ => exact ⟨a, b, c, d, e, f, rfl⟩
theorem ar64v {K : Value → World → Prop} {w : World} {n : Int} (m : Int) (e : n = m) (h : -9223372036854775808 ≤ m ∧ m ≤ 9223372036854775807) (k : K (.int .i64 m) w) : ValP .i64 (IntKind.i64.wrap n) K w := by
  subst e; exact ar64 h k
set_option maxHeartbeats 1000000 in
set_option maxRecDepth 10000 in
theorem rcparse_c (l : List UInt8) (hl : l.length ≤ 1000000) (w : World) : Fn Tryd.prog 9 #[.string (by8 l)] w fun r w' => (∃ c e, r = .tuple #[.agg (cf7 c), .bool (decide (e = 0))] ∧ CfR l e c) ∧ Upd [] w w' := by
  refine fn_enter Tryd.func9 rfl rfl ?_
  refine al (cf7 zC) (fun _ => by kernel_rfl) fun w1 hb1 hu1 hs1 => ?_
  refine al (nums6 [0, 0, 0, 0, 0, 0]) (fun _ => by kernel_rfl) fun w2 hb2 hu2 hs2 => ?_
  have hb12 := hb1.upd hu2 (by simp)
  obtain ⟨q, hq⟩ : ∃ q, q = w1.heap.size := ⟨_, rfl⟩
  obtain ⟨g, hg⟩ : ∃ g, g = w.heap.size := ⟨_, rfl⟩
  have hgq : g < q := by omega
  rw [← hq] at hb2 ⊢
  rw [← hg] at hb12 ⊢
  have hwg : w.heap.size ≤ g := by omega
  have hwq : w.heap.size ≤ q := by omega
  have hU2 := hu1.trans hu2
  clear hq hg hs1 hs2
  refine loop_rule [0, 2, 4] [5, 6, 7] (fun vs w' m => ∃ i : Nat, vs = [.int .i64 (((scanS (l.take i)).1 : Int) - 1), .bool (scanS (l.take i)).2.1, .int .i64 i] ∧ i ≤ l.length ∧ m = l.length - i ∧ Blk w' q 61 (nums6 (scanS (l.take i)).2.2) ∧ Blk w' g 24 (cf7 zC) ∧ Upd [] w w') rfl [.int .i64 (-1), .bool false, .int .i64 0] l.length rfl
    ⟨0, rfl, by omega, rfl, hb2, hb12, hU2⟩ ?_
  rintro _ w3 m ⟨i, rfl, hi, rfl, hb3, hg3, hU3⟩
  refine len_str ?_
  refine cd (fun hlt => ?_) (fun hlt => ?_)
  · rw [by8_size] at hlt
    have hlt : i < l.length := by omega
    have his : i < (by8 l).size := by rw [by8_size]; exact hlt
    have hI := scan_inv l i hi
    have hst := scanS_take l i hlt
    generalize scanS (l.take i) = st at *
    obtain ⟨a, b, N⟩ := st
    have hch : (l.getD i 0).toNat ≤ 255 := by have := (l.getD i 0).toNat_lt; omega
    refine ixs i rfl his ?_
    rw [by8_at]
    refine cd (fun h48 => ?_) (fun h48 => ?_)
    · have hnd : isD (l.getD i 0) = false := by
        cases hq : isD (l.getD i 0) with
        | false => rfl
        | true => have := (isD_iff _).1 hq; exact absurd this (by omega)
      have hs' : scanS (l.take (i + 1)) = (a, false, N) := by rw [hst]; unfold stepS; rw [if_pos hnd]
      refine ar64 (by omega) ?_
      exact round_mk [.int .i64 ((a : Int) - 1), .bool false, .int .i64 ((i + 1 : Nat) : Int)] (l.length - (i + 1)) rfl rfl ⟨i + 1, by rw [hs'], by omega, rfl, by rw [hs']; exact hb3, hg3, hU3⟩ (by omega)
    · refine ixs i rfl his ?_
      rw [by8_at]
      refine cd (fun h57 => ?_) (fun h57 => ?_)
      · have hnd : isD (l.getD i 0) = false := by
          cases hq : isD (l.getD i 0) with
          | false => rfl
          | true => have := (isD_iff _).1 hq; exact absurd this (by omega)
        have hs' : scanS (l.take (i + 1)) = (a, false, N) := by rw [hst]; unfold stepS; rw [if_pos hnd]
        refine ar64 (by omega) ?_
        exact round_mk [.int .i64 ((a : Int) - 1), .bool false, .int .i64 ((i + 1 : Nat) : Int)] (l.length - (i + 1)) rfl rfl ⟨i + 1, by rw [hs'], by omega, rfl, by rw [hs']; exact hb3, hg3, hU3⟩ (by omega)
      · have hd : isD (l.getD i 0) = true := by rw [isD_iff]; omega
        have hdr := (isD_iff _).1 hd
        obtain ⟨hN, hle, hai, hb1'⟩ := hI
        simp only at hN hle hai hb1'
        cases b with
        | false =>
          refine ar64v (((a + 1 : Nat) : Int) - 1) (by omega) (by omega) ?_
          by_cases h6 : (a + 1) ≤ 6
          · refine cY (show (((a + 1) : Nat) : Int) - 1 < 6 by omega) ?_
            refine ixA ((a + 1) - 1) (by omega) (by omega) ?_
            have hcell : ∀ w', Blk w' q 61 (nums6 N) → w'.cell? ⟨q, 0 + ((a + 1) - 1) * 1, none⟩ = some (.int .i64 ((N.getD ((a + 1) - 1) 0 : Nat) : Int)) := fun w' hb => by
              rw [hb.cell, show 0 + ((a + 1) - 1) * 1 = (a + 1) - 1 by omega]; exact nums6_at hN _ (by omega)
            refine ld (hcell _ hb3) ?_
            have hlN := hle ((a + 1) - 1)
            by_cases hlt2 : N.getD ((a + 1) - 1) 0 < 1000
            · refine cY (show ((N.getD ((a + 1) - 1) 0 : Nat) : Int) < 1000 by omega) ?_
              have hs' : scanS (l.take (i + 1)) = ((a + 1), true, N.set ((a + 1) - 1) (10 * N.getD ((a + 1) - 1) 0 + ((l.getD i 0).toNat - 48))) := by
                rw [hst]; unfold stepS; rw [if_neg (by rw [hd]; decide)]; simp only [if_true, Bool.false_eq_true, if_false]; rw [if_pos ⟨h6, hlt2⟩]
              refine draw_tail 11 (by decide +kernel) ?_
              refine q_ixA ((a + 1) - 1) (by omega) (by omega) ?_
              refine q_ld (v := .int .i64 ((N.getD ((a + 1) - 1) 0 : Nat) : Int)) (by rintro _ rfl; exact hcell _ hb3.drew) ?_
              refine q_ar64 (by omega) ?_
              refine rq (.int .u8 ((l.getD i 0).toNat : Int)) (fun _ _ => ixs i rfl his (by rw [by8_at]; exact ⟨rfl, rfl⟩)) ?_
              refine rq (.int .i64 ((l.getD i 0).toNat : Int)) (fun _ _ => cv (ar64 (by omega) ⟨rfl, rfl⟩)) ?_
              refine q_ar64 (by omega) ?_
              refine q_ar64 (by omega) ?_
              refine ixA ((a + 1) - 1) (show (((a + 1) : Nat) : Int) - 1 = (((a + 1) - 1 : Nat) : Int) by omega) (by omega) ?_
              refine st hb3.drew (by rw [nums6_size hN]; omega) rfl fun w4 hb4 hu4 hs4 => ?_
              refine ar64 (by omega) ?_
              refine round_mk [.int .i64 ((((a + 1) : Nat) : Int) - 1), .bool true, .int .i64 ((i + 1 : Nat) : Int)] (l.length - (i + 1)) rfl rfl ⟨i + 1, by rw [hs'], by omega, rfl, ?_, hg3.drew.upd hu4 (by simp; omega), hU3.drew.step hu4 (by simp; omega)⟩ (by omega)
              rw [hs', ← nums6_set]
              rw [show ((10 * N.getD ((a + 1) - 1) 0 + ((l.getD i 0).toNat - 48) : Nat) : Int) = 10 * ((N.getD ((a + 1) - 1) 0 : Nat) : Int) + ((l.getD i 0).toNat : Int) - 48 by omega]
              rw [show 0 + ((a + 1) - 1) * 1 = (a + 1) - 1 by omega] at hb4
              exact hb4
            · refine cN (show ¬ ((N.getD ((a + 1) - 1) 0 : Nat) : Int) < 1000 by omega) ?_
              have hs' : scanS (l.take (i + 1)) = ((a + 1), true, N) := by
                rw [hst]; unfold stepS; rw [if_neg (by rw [hd]; decide)]; simp only [if_true, Bool.false_eq_true, if_false]; rw [if_neg (fun h => hlt2 h.2)]
              refine ar64 (by omega) ?_
              refine round_mk [.int .i64 ((((a + 1) : Nat) : Int) - 1), .bool true, .int .i64 ((i + 1 : Nat) : Int)] (l.length - (i + 1)) rfl rfl ⟨i + 1, by rw [hs'], by omega, rfl, by rw [hs']; exact hb3, hg3, hU3⟩ (by omega)
          · refine cN (show ¬ (((a + 1) : Nat) : Int) - 1 < 6 by omega) ?_
            have hs' : scanS (l.take (i + 1)) = ((a + 1), true, N) := by
              rw [hst]; unfold stepS; rw [if_neg (by rw [hd]; decide)]; simp only [if_true, Bool.false_eq_true, if_false]; rw [if_neg (fun h => h6 h.1)]
            refine ar64 (by omega) ?_
            refine round_mk [.int .i64 ((((a + 1) : Nat) : Int) - 1), .bool true, .int .i64 ((i + 1 : Nat) : Int)] (l.length - (i + 1)) rfl rfl ⟨i + 1, by rw [hs'], by omega, rfl, by rw [hs']; exact hb3, hg3, hU3⟩ (by omega)
        | true =>
          have ha1 := hb1' rfl
          by_cases h6 : a ≤ 6
          · refine cY (show ((a : Nat) : Int) - 1 < 6 by omega) ?_
            refine ixA (a - 1) (by omega) (by omega) ?_
            have hcell : ∀ w', Blk w' q 61 (nums6 N) → w'.cell? ⟨q, 0 + (a - 1) * 1, none⟩ = some (.int .i64 ((N.getD (a - 1) 0 : Nat) : Int)) := fun w' hb => by
              rw [hb.cell, show 0 + (a - 1) * 1 = a - 1 by omega]; exact nums6_at hN _ (by omega)
            refine ld (hcell _ hb3) ?_
            have hlN := hle (a - 1)
            by_cases hlt2 : N.getD (a - 1) 0 < 1000
            · refine cY (show ((N.getD (a - 1) 0 : Nat) : Int) < 1000 by omega) ?_
              have hs' : scanS (l.take (i + 1)) = (a, true, N.set (a - 1) (10 * N.getD (a - 1) 0 + ((l.getD i 0).toNat - 48))) := by
                rw [hst]; unfold stepS; rw [if_neg (by rw [hd]; decide)]; simp only [if_true, Bool.false_eq_true, if_false]; rw [if_pos ⟨h6, hlt2⟩]
              refine draw_tail 11 (by decide +kernel) ?_
              refine q_ixA (a - 1) (by omega) (by omega) ?_
              refine q_ld (v := .int .i64 ((N.getD (a - 1) 0 : Nat) : Int)) (by rintro _ rfl; exact hcell _ hb3.drew) ?_
              refine q_ar64 (by omega) ?_
              refine rq (.int .u8 ((l.getD i 0).toNat : Int)) (fun _ _ => ixs i rfl his (by rw [by8_at]; exact ⟨rfl, rfl⟩)) ?_
              refine rq (.int .i64 ((l.getD i 0).toNat : Int)) (fun _ _ => cv (ar64 (by omega) ⟨rfl, rfl⟩)) ?_
              refine q_ar64 (by omega) ?_
              refine q_ar64 (by omega) ?_
              refine ixA (a - 1) (show ((a : Nat) : Int) - 1 = ((a - 1 : Nat) : Int) by omega) (by omega) ?_
              refine st hb3.drew (by rw [nums6_size hN]; omega) rfl fun w4 hb4 hu4 hs4 => ?_
              refine ar64 (by omega) ?_
              refine round_mk [.int .i64 (((a : Nat) : Int) - 1), .bool true, .int .i64 ((i + 1 : Nat) : Int)] (l.length - (i + 1)) rfl rfl ⟨i + 1, by rw [hs'], by omega, rfl, ?_, hg3.drew.upd hu4 (by simp; omega), hU3.drew.step hu4 (by simp; omega)⟩ (by omega)
              rw [hs', ← nums6_set]
              rw [show ((10 * N.getD (a - 1) 0 + ((l.getD i 0).toNat - 48) : Nat) : Int) = 10 * ((N.getD (a - 1) 0 : Nat) : Int) + ((l.getD i 0).toNat : Int) - 48 by omega]
              rw [show 0 + (a - 1) * 1 = a - 1 by omega] at hb4
              exact hb4
            · refine cN (show ¬ ((N.getD (a - 1) 0 : Nat) : Int) < 1000 by omega) ?_
              have hs' : scanS (l.take (i + 1)) = (a, true, N) := by
                rw [hst]; unfold stepS; rw [if_neg (by rw [hd]; decide)]; simp only [if_true, Bool.false_eq_true, if_false]; rw [if_neg (fun h => hlt2 h.2)]
              refine ar64 (by omega) ?_
              refine round_mk [.int .i64 (((a : Nat) : Int) - 1), .bool true, .int .i64 ((i + 1 : Nat) : Int)] (l.length - (i + 1)) rfl rfl ⟨i + 1, by rw [hs'], by omega, rfl, by rw [hs']; exact hb3, hg3, hU3⟩ (by omega)
          · refine cN (show ¬ ((a : Nat) : Int) - 1 < 6 by omega) ?_
            have hs' : scanS (l.take (i + 1)) = (a, true, N) := by
              rw [hst]; unfold stepS; rw [if_neg (by rw [hd]; decide)]; simp only [if_true, Bool.false_eq_true, if_false]; rw [if_neg (fun h => h6 h.1)]
            refine ar64 (by omega) ?_
            refine round_mk [.int .i64 (((a : Nat) : Int) - 1), .bool true, .int .i64 ((i + 1 : Nat) : Int)] (l.length - (i + 1)) rfl rfl ⟨i + 1, by rw [hs'], by omega, rfl, by rw [hs']; exact hb3, hg3, hU3⟩ (by omega)
  · rw [by8_size] at hlt
    obtain rfl : i = l.length := by omega
    rw [List.take_length] at hb3
    have hI := scan_inv l l.length (by omega)
    rw [List.take_length] at hI
    have hsc : ∀ d, rightC d → l = confU d → (scanS l).2.2 = [((cfL d).getD 1 0).toNat, ((cfL d).getD 2 0).toNat, ((cfL d).getD 3 0).toNat, ((cfL d).getD 4 0).toNat, ((cfL d).getD 5 0).toNat, ((cfL d).getD 6 0).toNat] := fun d hd he => by
      rw [he]; exact scan_conf hd
    have hlen := hI.len
    clear hI
    generalize (scanS l).2.2 = N at *
    obtain ⟨n0, n1, n2, n3, n4, n5, rfl⟩ := list6 hlen
    have hb3 : Blk w3 q 61 #[.int .i64 (n0 : Int), .int .i64 (n1 : Int), .int .i64 (n2 : Int), .int .i64 (n3 : Int), .int .i64 (n4 : Int), .int .i64 (n5 : Int)] := hb3
    have hlt3 := hb3.lt
    have hlg3 := hg3.lt
    have hdA : ∀ d, rightC d → l = confU d → (⟨((d.A.toNat : Nat) : Int), n0, n1, n2, n3, n4, n5⟩ : Cf) = d := fun d hd he => by
      have h := hsc d hd he
      have hb := right_bd hd
      have hA := right_A hd
      obtain ⟨A, T, M, L, B, P, S⟩ := d
      simp only [List.cons.injEq, and_true] at h
      obtain ⟨e1, e2, e3, e4, e5, e6⟩ := h
      have b1 := hb 1 (by omega); have b2 := hb 2 (by omega); have b3 := hb 3 (by omega); have b4 := hb 4 (by omega); have b5 := hb 5 (by omega); have b6 := hb 6 (by omega)
      simp [cfL] at e1 e2 e3 e4 e5 e6 b1 b2 b3 b4 b5 b6 hA
      rw [Cf.mk.injEq]
      refine ⟨?_, ?_, ?_, ?_, ?_, ?_, ?_⟩ <;> (try simp only) <;> omega
    refine loop_rule [0, 2, 4] [8] (fun vs w' m => ∃ k : Nat, vs = [.int .i64 k] ∧ k ≤ 3 ∧ m = 3 - k ∧ (∀ j : Nat, j < k → ¬ (rightC ⟨(j : Int), n0, n1, n2, n3, n4, n5⟩ ∧ l = confU ⟨(j : Int), n0, n1, n2, n3, n4, n5⟩)) ∧ Upd [] w3 w') rfl [.int .i64 0] 3 rfl
      ⟨0, rfl, by omega, rfl, fun j h => absurd h (by omega), Upd.refl _ _⟩ ?_
    rintro _ w4 m ⟨k, rfl, hk, rfl, hnk, hU4⟩
    have hb4 := hb3.upd hU4 (by simp)
    have hg4 := hg3.upd hU4 (by simp)
    have hz4 := hU4.size
    refine cd (fun hlt => ?_) (fun hlt => ?_)
    · have hlt : k < 3 := by omega
      refine ixA 0 rfl (by decide) ?_
      refine ldb hb4 rfl ?_
      refine ixA 1 rfl (by decide) ?_
      refine ldb hb4 rfl ?_
      refine ixA 2 rfl (by decide) ?_
      refine ldb hb4 rfl ?_
      refine ixA 3 rfl (by decide) ?_
      refine ldb hb4 rfl ?_
      refine ixA 4 rfl (by decide) ?_
      refine ldb hb4 rfl ?_
      refine ixA 5 rfl (by decide) ?_
      refine ldb hb4 rfl ?_
      refine bd (cf7 ⟨(k : Int), n0, n1, n2, n3, n4, n5⟩) (fun _ => by kernel_rfl) ?_
      refine al (cf7 zC) (fun _ => by kernel_rfl) fun w5 hb5 hu5 hs5 => ?_
      refine stw hb5 rfl rfl rfl fun w6 hb6 hu6 hs6 => ?_
      have hU6 : Upd [] w4 w6 := hu5.step hu6 (by simp)
      have hb6 : Blk w6 w4.heap.size 24 (cf7 ⟨(k : Int), n0, n1, n2, n3, n4, n5⟩) := hb6
      obtain ⟨c, hc⟩ : ∃ c : Cf, c = ⟨(k : Int), n0, n1, n2, n3, n4, n5⟩ := ⟨_, rfl⟩
      rw [← hc] at hb6
      refine ldw hb6 (cf7_len c) ?_
      refine cl (rright_c c w6) ?_
      rintro _ w7 ⟨rfl, hu7⟩
      have hU7 := hU6.trans hu7
      have hb7 := hb6.upd hu7 (by simp)
      have hstep : ¬ (rightC c ∧ l = confU c) → ∀ j : Nat, j < k + 1 → ¬ (rightC ⟨(j : Int), n0, n1, n2, n3, n4, n5⟩ ∧ l = confU ⟨(j : Int), n0, n1, n2, n3, n4, n5⟩) := fun hn j hj => by
        by_cases hjk : j = k
        · subst hjk; rw [← hc]; exact hn
        · exact hnk j (by omega)
      by_cases hr : rightC c
      · rw [decide_eq_true hr]
        refine ldw hb7 (cf7_len c) ?_
        refine cl (rcshow_c hr w7) ?_
        rintro _ w8 ⟨rfl, hu8⟩
        have hU8 := hU7.trans hu8
        rw [str_by8]
        refine cd (fun heq => ?_) (fun heq => ?_)
        · rw [by8_list, by8_list] at heq
          refine ldw (hb7.upd hu8 (by simp)) (cf7_len c) ?_
          refine stw (hg4.upd hU8 (by simp)) rfl (cf7_len _) (cf7_one _) fun w9 hb9 hu9 hs9 => ?_
          refine rlw hb9 (by simpa [Value.cells] using cf7_len c) ?_
          exact ⟨⟨c, 0, rfl, .inl ⟨hr, heq.symm, rfl⟩⟩, ((hU3.trans hU4).trans hU8).step hu9 (by simp; omega)⟩
        · rw [by8_list, by8_list] at heq
          refine ar64 (by omega) ?_
          exact round_mk [.int .i64 ((k + 1 : Nat) : Int)] (3 - (k + 1)) rfl rfl ⟨k + 1, rfl, by omega, rfl, hstep (fun h => heq h.2.symm), hU4.trans hU8⟩ (by omega)
      · rw [decide_eq_false hr]
        refine ar64 (by omega) ?_
        exact round_mk [.int .i64 ((k + 1 : Nat) : Int)] (3 - (k + 1)) rfl rfl ⟨k + 1, rfl, by omega, rfl, hstep (fun h => hr h.1), hU4.trans hU7⟩ (by omega)
    · obtain rfl : k = 3 := by omega
      refine bd (cf7 zC) (fun _ => by kernel_rfl) ?_
      refine stw hg4 rfl rfl rfl fun w5 hb5 hu5 hs5 => ?_
      refine rlw hb5 rfl ?_
      refine ⟨⟨zC, 8, rfl, .inr ⟨fun d hd he => ?_, rfl, rfl⟩⟩, (hU3.trans hU4).step hu5 (by simp; omega)⟩
      have hA := right_A hd
      have hq := hdA d hd he
      have := hnk d.A.toNat (by omega)
      rw [hq] at this
      exact this ⟨hd, he⟩
end Go.Proofs.YtlhbgnoghjendaaDoor
