/- The lines of picks and draws, and the reference's text of a configuration. -/
import Derived.Test.YtlhbgnoghjendaaDoorUd
namespace Go.Proofs.YtlhbgnoghjendaaDoor
open Go.RowKit
attribute [local irreducible] Instr.loadAt Instr.storeAt Instr.fieldAt Instr.indexAt Instr.sliceAt Instr.buildSlice Instr.box Instr.alloc Builtin.append_ Builtin.len_ Builtin.min_ Builtin.max_ Calls Instr.build Instr.makeSlice binSem convert Instr.index Instr.range Instr.next
def runL (p : Int) (n : Nat) : List Int := [32] ++ decB p.toNat ++ [120] ++ decB n
def pickF : Nat → List Int → List Int
  | _, [] => []
  | n, x :: l => if l ≠ [] ∧ l.getD 0 0 = x then pickF (n + 1) l else runL x (n + 1) ++ pickF 0 l
theorem pickF_nil (n : Nat) : pickF n [] = [] := by unfold pickF; rfl
theorem pickF_at (n : Nat) (l : List Int) (i : Nat) (hi : i < l.length) : pickF n (l.drop i) = if i + 1 < l.length ∧ l.getD (i + 1) 0 = l.getD i 0 then pickF (n + 1) (l.drop (i + 1)) else runL (l.getD i 0) (n + 1) ++ pickF 0 (l.drop (i + 1)) := by
  rw [getD_drop l i hi, pickF]
  have h1 : (l.drop (i + 1) ≠ []) ↔ i + 1 < l.length := by
    rw [ne_eq, List.drop_eq_nil_iff]; omega
  have h2 : (l.drop (i + 1)).getD 0 0 = l.getD (i + 1) 0 := by simp [List.getD, List.getElem?_drop]
  rw [h2]
  by_cases h : i + 1 < l.length ∧ l.getD (i + 1) 0 = l.getD i 0
  · rw [if_pos h, if_pos ⟨h1.2 h.1, h.2⟩]
  · rw [if_neg h, if_neg (fun hh => h ⟨h1.1 hh.1, hh.2⟩)]
def okP (l : List Int) : Prop := ∀ i, i < l.length → 0 ≤ l.getD i 0 ∧ l.getD i 0 < 6
theorem runL_len (p : Int) (n : Nat) (hp : 0 ≤ p ∧ p < 6) (hn : n < 4294967296) : (runL p n).length ≤ 22 := by
  have h1 : (decB p.toNat).length ≤ 10 := decB_len 9 _ (by omega)
  have h2 : (decB n).length ≤ 10 := decB_len 9 _ (by omega)
  unfold runL
  simp only [List.length_append, List.length_cons, List.length_nil]; omega
theorem okP_tail {x : Int} {l : List Int} (h : okP (x :: l)) : okP l := fun i hi => by
  have := h (i + 1) (by simp; omega)
  simpa [List.getD] using this
theorem pickF_len : ∀ (l : List Int) (n : Nat), okP l → n + l.length < 4294967296 → (pickF n l).length ≤ 22 * l.length
  | [], n, _, _ => by rw [pickF_nil]; simp
  | x :: l, n, h, hn => by
    simp only [List.length_cons] at hn ⊢
    rw [pickF]
    have hx := h 0 (by simp)
    have hx : 0 ≤ x ∧ x < 6 := by simpa using hx
    split
    · have := pickF_len l (n + 1) (okP_tail h) (by omega); omega
    · have h1 := pickF_len l 0 (okP_tail h) (by omega)
      have h2 := runL_len x (n + 1) hx (by omega)
      rw [List.length_append]; omega
def t_picks : List Int := [112,105,99,107,115]
def pickL (l : List Int) : List Int := t_picks ++ pickF 0 l
theorem pickL_len (l : List Int) (h : okP l) (hl : l.length ≤ 2000) : (pickL l).length ≤ 44005 := by
  have h1 := pickF_len l 0 h (by omega)
  have h2 : t_picks.length = 5 := rfl
  unfold pickL
  rw [List.length_append]; omega
theorem pickL_len2 (l : List Int) (h : okP l) (hl : l.length ≤ 60000) : (pickL l).length ≤ 1320005 := by
  have h1 := pickF_len l 0 h (by omega)
  have h2 : t_picks.length = 5 := rfl
  unfold pickL
  rw [List.length_append]; omega
theorem okP_drop {l : List Int} (h : okP l) (o : Nat) : okP (l.drop o) := fun i hi => by
  have hi : i < l.length - o := by simpa using hi
  have := h (o + i) (by omega)
  simpa [List.getD, List.getElem?_drop] using this
set_option maxRecDepth 10000 in
theorem rows_c {w : World} {v : Value} {ps : List Int} (h : RdK w .i64 v ps) (hok : okP ps) (hl : ps.length ≤ 60000) : Fn Tryd.prog 48 #[v] w fun r w' => r = .string (strOfNums (pickL ps)) ∧ Upd [] w w' := by
  refine fn_enter Tryd.func48 rfl rfl ?_
  have hlen := pickL_len2 ps hok hl
  refine loop_rule [] [0, 3] (fun vs w' m => ∃ (o : Nat) (lv : Value) (s : List Int), vs = [lv, .string (strOfNums s)] ∧ o ≤ ps.length ∧ m = ps.length - o ∧ RdK w' .i64 lv (ps.drop o) ∧ s ++ pickF 0 (ps.drop o) = pickL ps ∧ Upd [] w w') rfl [v, .string (strOfNums t_picks)] ps.length rfl
    ⟨0, v, t_picks, rfl, by omega, rfl, h, rfl, Upd.refl _ _⟩ ?_
  rintro _ w1 m ⟨o, lv, s, rfl, ho, rfl, hR, htot, hU⟩
  have hsl : s.length ≤ 1320005 := by rw [← htot] at hlen; simp at hlen; omega
  obtain ⟨va, vc, rfl, hc1, hc2⟩ := hR.form
  simp only [maxLen] at hc2
  refine len_sl ?_
  refine cd (fun hlt => ?_) (fun hlt => ?_)
  · have hlt : 0 < (ps.drop o).length := by omega
    have hdl : (ps.drop o).length ≤ 60000 := by simp; omega
    obtain ⟨b, of, c', he, -⟩ := hR.some_ hlt
    cases he
    refine loop_rule [0, 3] [4] (fun vs w' m => ∃ n : Nat, vs = [.int .i64 n] ∧ 1 ≤ n ∧ n ≤ (ps.drop o).length ∧ m = (ps.drop o).length - n ∧ pickF 0 (ps.drop o) = pickF (n - 1) ((ps.drop o).drop (n - 1)) ∧ (ps.drop o).getD (n - 1) 0 = (ps.drop o).getD 0 0 ∧ Upd [] w1 w') rfl [.int .i64 1] _ rfl
      ⟨1, rfl, by omega, by omega, rfl, rfl, rfl, Upd.refl _ _⟩ ?_
    rintro _ w2 m ⟨n, rfl, hn1, hn2, rfl, hI, hsame, hu2⟩
    refine draw_all (fun w' => Upd [] w1 w') (by decide +kernel) hu2.drew ?_
    refine q_len ?_
    by_cases hq1 : n < (ps.drop o).length
    · refine cY (show (n : Int) < ((ps.drop o).length : Int) by omega) ?_
      refine q_ix n rfl hq1 ?_
      refine q_ld (v := .int .i64 ((ps.drop o).getD n 0)) (fun w' hw' => (hR.upd0 hw').at_ rfl n hq1) ?_
      refine q_ix 0 rfl hlt ?_
      refine q_ld (v := .int .i64 ((ps.drop o).getD 0 0)) (fun w' hw' => (hR.upd0 hw').at_ rfl 0 hlt) ?_
      intro w3 hu3
      refine cd (fun heq => ?_) (fun heq => ?_)
      · refine ar64 (by omega) ?_
        refine round_mk [.int .i64 ((n + 1 : Nat) : Int)] ((ps.drop o).length - (n + 1)) rfl rfl ⟨n + 1, rfl, by omega, by omega, rfl, ?_, by simpa using heq, hu3⟩ (by omega)
        rw [hI, pickF_at _ _ _ (by omega), if_pos ⟨by omega, by rw [hsame, show n - 1 + 1 = n by omega]; exact heq⟩]
        rw [show n - 1 + 1 = n by omega, show n + 1 - 1 = n by omega]
      · have hq := okP_drop hok o 0 (by omega)
        obtain ⟨p, hp⟩ := Int.eq_ofNat_of_zero_le hq.1
        have hdp : (decB p).length ≤ 10 := decB_len 9 _ (by omega)
        have hdn : (decB n).length ≤ 10 := decB_len 9 _ (by omega)
        refine ix 0 rfl (by omega) ?_
        refine ld (v := .int .i64 (p : Int)) (by rw [← hp]; exact (hR.upd0 hu3).at_ rfl 0 (by omega)) ?_
        refine cl (sdig_c p (by omega) _) ?_
        rintro _ w5 ⟨rfl, hu5⟩
        refine sadd (a := strOfNums [32]) (by rw [strOfNums_size, strOfNums_size]; simp only [List.length_append, List.length_cons, List.length_nil]; omega) ?_
        rw [str_add]
        refine sadd (b := strOfNums [120]) (by rw [strOfNums_size, strOfNums_size]; simp only [List.length_append, List.length_cons, List.length_nil]; omega) ?_
        rw [str_add]
        refine cl (sdig_c n (by omega) _) ?_
        rintro _ w6 ⟨rfl, hu6⟩
        refine sadd (by rw [strOfNums_size, strOfNums_size]; simp only [List.length_append, List.length_cons, List.length_nil]; omega) ?_
        rw [str_add]
        refine sadd (by rw [strOfNums_size, strOfNums_size]; simp only [List.length_append, List.length_cons, List.length_nil]; omega) ?_
        rw [str_add]
        refine sl_lo n rfl (by omega) ?_
        have hcut := (((hR.upd0 hu3).cut n (by omega)).upd0 hu5).upd0 hu6
        rw [List.drop_drop] at hcut
        have hend : pickF 0 (ps.drop o) = runL ((ps.drop o).getD 0 0) n ++ pickF 0 (ps.drop (o + n)) := by
          rw [hI, pickF_at _ _ _ (by omega), if_neg (fun hh => heq (by have := hh.2; rw [hsame, show n - 1 + 1 = n by omega] at this; exact this)), hsame, show n - 1 + 1 = n by omega, List.drop_drop]
        refine round_mk [_, .string (strOfNums (s ++ ([32] ++ decB p ++ [120] ++ decB n)))] (ps.length - (o + n)) rfl rfl ⟨o + n, _, _, rfl, by rw [List.length_drop] at *; omega, rfl, hcut, ?_, ((hU.trans hu3).trans hu5).trans hu6⟩ (by rw [List.length_drop] at *; omega)
        have hpt : p = ((ps.drop o).getD 0 0).toNat := by omega
        rw [← htot, hend, List.append_assoc]
        unfold runL
        rw [← hpt]
    · refine cN (show ¬ (n : Int) < ((ps.drop o).length : Int) by omega) ?_
      intro w3 hu3
      have hq := okP_drop hok o 0 (by omega)
      obtain ⟨p, hp⟩ := Int.eq_ofNat_of_zero_le hq.1
      have hdp : (decB p).length ≤ 10 := decB_len 9 _ (by omega)
      have hdn : (decB n).length ≤ 10 := decB_len 9 _ (by omega)
      refine ix 0 rfl (by omega) ?_
      refine ld (v := .int .i64 (p : Int)) (by rw [← hp]; exact (hR.upd0 hu3).at_ rfl 0 (by omega)) ?_
      refine cl (sdig_c p (by omega) _) ?_
      rintro _ w5 ⟨rfl, hu5⟩
      refine sadd (a := strOfNums [32]) (by rw [strOfNums_size, strOfNums_size]; simp only [List.length_append, List.length_cons, List.length_nil]; omega) ?_
      rw [str_add]
      refine sadd (b := strOfNums [120]) (by rw [strOfNums_size, strOfNums_size]; simp only [List.length_append, List.length_cons, List.length_nil]; omega) ?_
      rw [str_add]
      refine cl (sdig_c n (by omega) _) ?_
      rintro _ w6 ⟨rfl, hu6⟩
      refine sadd (by rw [strOfNums_size, strOfNums_size]; simp only [List.length_append, List.length_cons, List.length_nil]; omega) ?_
      rw [str_add]
      refine sadd (by rw [strOfNums_size, strOfNums_size]; simp only [List.length_append, List.length_cons, List.length_nil]; omega) ?_
      rw [str_add]
      refine sl_lo n rfl (by omega) ?_
      have hcut := (((hR.upd0 hu3).cut n (by omega)).upd0 hu5).upd0 hu6
      rw [List.drop_drop] at hcut
      have hend : pickF 0 (ps.drop o) = runL ((ps.drop o).getD 0 0) n ++ pickF 0 (ps.drop (o + n)) := by
        rw [hI, pickF_at _ _ _ (by omega), if_neg (fun hh => by omega), hsame, show n - 1 + 1 = n by omega, List.drop_drop]
      refine round_mk [_, .string (strOfNums (s ++ ([32] ++ decB p ++ [120] ++ decB n)))] (ps.length - (o + n)) rfl rfl ⟨o + n, _, _, rfl, by rw [List.length_drop] at *; omega, rfl, hcut, ?_, ((hU.trans hu3).trans hu5).trans hu6⟩ (by rw [List.length_drop] at *; omega)
      have hpt : p = ((ps.drop o).getD 0 0).toNat := by omega
      rw [← htot, hend, List.append_assoc]
      unfold runL
      rw [← hpt]
  · have hnil : ps.drop o = [] := List.eq_nil_of_length_eq_zero (by omega)
    rw [hnil, pickF_nil, List.append_nil] at htot
    subst htot
    exact ⟨rfl, hU⟩
end Go.Proofs.YtlhbgnoghjendaaDoor
