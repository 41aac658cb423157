/- The law PilePlays: its walk. -/
import Derived.Test.YtaogmfmphamplaaPb
namespace Go.Proofs.Ytaogmfmphamplaa
open Go.RowKit
attribute [local irreducible] Instr.loadAt Instr.storeAt Instr.fieldAt Instr.indexAt Instr.sliceAt Instr.buildSlice Instr.box Instr.alloc Builtin.append_ Builtin.len_ Builtin.min_ Builtin.max_ Calls Instr.build Instr.makeSlice binSem convert Instr.index Instr.range Instr.next
abbrev LL (p : Nat) (pv lv : Value) (l m : List Int) : List Ob := [obPile p pv l, obIn lv m]
structure Pl (w w' : World) (p : Nat) (pv lv : Value) (l : List Int) (j : Nat) (E : List Ob) : Prop where
  h : Held w w' (LL p pv lv l l ++ E)
  le : l.length ≤ j
section
variable {w w' w'' : World} {p : Nat} {pv lv : Value} {l : List Int} {j : Nat} {E : List Ob}
theorem Pl.pile (h : Pl w w' p pv lv l j E) : IsPile w' p pv l := h.h.at_ (i := 0) (x := obPile p pv l) rfl
theorem Pl.list (h : Pl w w' p pv lv l j E) : Sl w' TI 1 lv l.length (ints l) := h.h.at_ (i := 1) (x := obIn lv l) rfl
theorem Pl.upd0 (h : Pl w w' p pv lv l j E) (hu : Upd [] w' w'') : Pl w w'' p pv lv l j E := ⟨h.h.upd0 hu, h.le⟩
theorem hold {p : Nat} {pv pv' lv : Value} {l l' : List Int} {w1 : World} (h : Pl w w' p pv lv l j E) (hp : IsPile w1 p pv' l') (hu : Upd [p] w' w1) (ho : pv'.ownBlock = pv.ownBlock) : Held w w1 (LL p pv' lv l' l ++ E) := by
  have ef : foot p pv' = foot p pv := by unfold foot; rw [ho]
  exact h.h.set (i := 0) (x := obPile p pv l) (y := obPile p pv' l') rfl hp ⟨hu.mono (by intro k hk; rw [List.mem_singleton.1 hk]; exact List.mem_cons_self), fun k hk => .inl (by show k ∈ foot p pv; rw [← ef]; exact hk)⟩
end
theorem Pl.pushed {w w' w'' : World} {p : Nat} {pv lv pv' lv' : Value} {l : List Int} {j : Nat} {x : Int} (I : Pl w w' p pv lv l j []) (H : Held w w'' (LL p pv' lv' (l ++ [x]) (l ++ [x]))) : Pl w w'' p pv' lv' (l ++ [x]) (j + 1) [] :=
  ⟨H, by simp only [List.length_append, List.length_cons, List.length_nil]; have := I.le; omega⟩
theorem Pl.took {w w' w'' : World} {p : Nat} {pv lv pv' lv' : Value} {l : List Int} {j : Nat} {b : Bool} (I : Pl w w' p pv lv l j []) (H : Held w w'' (LL p pv' lv' (tk l b).1 (tk l b).1)) : Pl w w'' p pv' lv' (tk l b).1 (j + 1) [] :=
  ⟨H, by have := tk_len l b; have := I.le; omega⟩
set_option maxRecDepth 100000 in
set_option maxHeartbeats 4000000 in
theorem plays_law {w : World} {v2 : Value} {ls : List (List Int)} (hv : SlRows w w.heap.size [.i64, .i64] v2 ls) (i : Int) (wi : (Lit.int .i64 i).wf = true) (s : Int) : Fn Try.prog 12 #[v2, .int .i64 i, .int .i64 s] w fun r w' => r = .bool true ∧ Upd [] w w' := by
  obtain ⟨a2, cap2, rfl, g1, g2, g3, g4, h5⟩ := hv.norm (by decide)
  refine fn_enter Try.func12 rfl rfl ?_
  refine len_sl ?_
  refine cd (fun hbig => ?_) (fun hbig => ?_)
  · refine cl (lives04 _) ?_
    rintro _ wx ⟨rfl, hux⟩
    exact ⟨rfl, hux⟩
  have hbig : ls.length ≤ 1000 := by omega
  refine al #[.slice none 0 0] (fun _ => by kernel_rfl) fun w1 hb1 hu1 hs1 => ?_
  have H1 : Held w w1 (LL w.heap.size (.slice none 0 0) (.slice none 0 0) [] []) := ⟨Sep.cons (Sep.cons (Sep.nil w1) (Sl.nil_ _ _ _) (by simp [feet])) (new_pile hb1) (by simp [feet, obPile, foot, obSl, Value.ownBlock]), hu1, by simp [feet, obPile, foot, obSl, Value.ownBlock]⟩
  generalize hp : w.heap.size = p at *
  refine loop_rule [0, 1, 2, 7] [8, 9] (fun vs w' m => ∃ (j : Nat) (pv lv : Value) (l : List Int), vs = [lv, .int .i64 j] ∧ j ≤ ls.length ∧ m = ls.length - j ∧ Pl w w' p pv lv l j []) rfl [.slice none 0 0, .int .i64 0] ls.length rfl ⟨0, _, _, [], rfl, by omega, rfl, H1, by simp⟩ ?_
  rintro _ w2 m ⟨j, pv, lv, l, rfl, hj, rfl, I⟩
  have hl1000 : l.length ≤ 1000 := by have := I.le; omega
  refine len_sl ?_
  refine cd (fun hlt => ?_) (fun hlt => ?_)
  · have hlt : j < ls.length := by omega
    obtain ⟨b, o, rfl, hblt, hcell⟩ := h5 (by omega)
    have hk : ∀ w', Upd [] w w' → w'.cell? ⟨b, o + j * 2 + 0, none⟩ = some (.int .i64 ((ls.getD j []).getD 0 0)) := fun w' hu => by
      rw [hu.cell (show b < w.heap.size by rw [hp]; exact hblt) (by simp)]; exact hcell j 0 hlt (by decide)
    have hx : ∀ w', Upd [] w w' → w'.cell? ⟨b, o + j * 2 + 1, none⟩ = some (.int .i64 ((ls.getD j []).getD 1 0)) := fun w' hu => by
      rw [hu.cell (show b < w.heap.size by rw [hp]; exact hblt) (by simp)]; exact hcell j 1 hlt (by decide)
    refine ix j rfl hlt ?_
    refine fa ?_
    refine ld (hk w2 I.h.up) ?_
    refine cd (fun k0 => ?_) (fun k0 => ?_)
    · refine cY k0 ?_
      refine ix j rfl hlt ?_
      refine fa ?_
      refine ld (hx w2 I.h.up) ?_
      refine cl (push_c I.pile ((ls.getD j []).getD 1 0) (by omega)) ?_
      rintro _ w3 ⟨pv', hp3, hu3, hf3⟩
      have H3 : Held w w3 (LL p pv' lv (l ++ [(ls.getD j []).getD 1 0]) l) := I.h.set (i := 0) (x := obPile p pv l) (y := obPile p pv' (l ++ [(ls.getD j []).getD 1 0])) rfl hp3 ⟨hu3, hf3⟩
      refine ix j rfl hlt ?_
      refine fa ?_
      refine ld (hx w3 H3.up) ?_
      refine bs #[.int .i64 ((ls.getD j []).getD 1 0)] (fun _ => by kernel_rfl) fun w4 hb4 hu4 hs4 => ?_
      have H4 := H3.upd0 hu4
      have hsl4 : Sl w4 TI 1 lv l.length (ints l) := H4.at_ (i := 1) (x := obIn lv l) rfl
      refine apg hsl4 hb4 rfl rfl (by decide) (by simp only [maxLen]; omega) (by omega) fun lv' w5 hs5 hG5 => ?_
      have H5 : Held w w5 (LL p pv' lv' (l ++ [(ls.getD j []).getD 1 0]) (l ++ [(ls.getD j []).getD 1 0])) := H4.set (i := 1) (x := obIn lv l) (y := obIn lv' (l ++ [(ls.getD j []).getD 1 0])) rfl (by
        show Sl w5 TI 1 lv' (l ++ [(ls.getD j []).getD 1 0]).length _
        rw [List.length_append, List.map_append]
        exact hs5) (Upd.own hG5)
      refine ar64 (by omega) ?_
      exact round_mk [_, .int .i64 ((j + 1 : Nat) : Int)] (ls.length - (j + 1)) rfl rfl ⟨j + 1, _, _, _, rfl, by omega, rfl, Pl.pushed I H5⟩ (by omega)
    refine cd (fun k1 => ?_) (fun k1 => ?_)
    · refine ix j rfl hlt ?_
      refine fa ?_
      refine ld (hx w2 I.h.up) ?_
      refine cl (push_c I.pile ((ls.getD j []).getD 1 0) (by omega)) ?_
      rintro _ w3 ⟨pv', hp3, hu3, hf3⟩
      have H3 : Held w w3 (LL p pv' lv (l ++ [(ls.getD j []).getD 1 0]) l) := I.h.set (i := 0) (x := obPile p pv l) (y := obPile p pv' (l ++ [(ls.getD j []).getD 1 0])) rfl hp3 ⟨hu3, hf3⟩
      refine ix j rfl hlt ?_
      refine fa ?_
      refine ld (hx w3 H3.up) ?_
      refine bs #[.int .i64 ((ls.getD j []).getD 1 0)] (fun _ => by kernel_rfl) fun w4 hb4 hu4 hs4 => ?_
      have H4 := H3.upd0 hu4
      have hsl4 : Sl w4 TI 1 lv l.length (ints l) := H4.at_ (i := 1) (x := obIn lv l) rfl
      refine apg hsl4 hb4 rfl rfl (by decide) (by simp only [maxLen]; omega) (by omega) fun lv' w5 hs5 hG5 => ?_
      have H5 : Held w w5 (LL p pv' lv' (l ++ [(ls.getD j []).getD 1 0]) (l ++ [(ls.getD j []).getD 1 0])) := H4.set (i := 1) (x := obIn lv l) (y := obIn lv' (l ++ [(ls.getD j []).getD 1 0])) rfl (by
        show Sl w5 TI 1 lv' (l ++ [(ls.getD j []).getD 1 0]).length _
        rw [List.length_append, List.map_append]
        exact hs5) (Upd.own hG5)
      refine ar64 (by omega) ?_
      exact round_mk [_, .int .i64 ((j + 1 : Nat) : Int)] (ls.length - (j + 1)) rfl rfl ⟨j + 1, _, _, _, rfl, by omega, rfl, Pl.pushed I H5⟩ (by omega)
    refine cd (fun k2 => ?_) (fun k2 => ?_)
    · refine cl (popP I.pile) ?_
      rintro _ w3 ⟨rfl, pv', hp3, hu3, ho3⟩
      have H3 := hold I hp3 hu3 ho3
      have hsl3 : Sl w3 TI 1 lv l.length (ints l) := H3.at_ (i := 1) (x := obIn lv l) rfl
      refine cl (taken_c hsl3 true) ?_
      rintro _ w4 ⟨lv', rfl, hs4, ho4, hu4⟩
      have H4 : Held w w4 (LL p pv' lv' (tk l true).1 (tk l true).1) := H3.set (i := 1) (x := obIn lv l) (y := obIn lv' (tk l true).1) rfl hs4 ⟨hu4.mono (by simp), fun k hk => .inl (by simp only [obSl] at hk ⊢; rw [← ho4]; exact hk)⟩
      refine cN (fun h => h rfl) ?_
      refine bnq ?_
      refine cN (fun h => by simp at h) ?_
      refine ar64 (by omega) ?_
      exact round_mk [_, .int .i64 ((j + 1 : Nat) : Int)] (ls.length - (j + 1)) rfl rfl ⟨j + 1, _, _, _, rfl, by omega, rfl, Pl.took I H4⟩ (by omega)
    refine cd (fun k3 => ?_) (fun k3 => ?_)
    · refine cl (shiftP I.pile) ?_
      rintro _ w3 ⟨rfl, pv', hp3, hu3, ho3⟩
      have H3 := hold I hp3 hu3 ho3
      have hsl3 : Sl w3 TI 1 lv l.length (ints l) := H3.at_ (i := 1) (x := obIn lv l) rfl
      refine cl (taken_c hsl3 false) ?_
      rintro _ w4 ⟨lv', rfl, hs4, ho4, hu4⟩
      have H4 : Held w w4 (LL p pv' lv' (tk l false).1 (tk l false).1) := H3.set (i := 1) (x := obIn lv l) (y := obIn lv' (tk l false).1) rfl hs4 ⟨hu4.mono (by simp), fun k hk => .inl (by simp only [obSl] at hk ⊢; rw [← ho4]; exact hk)⟩
      refine cN (fun h => h rfl) ?_
      refine bnq ?_
      refine cN (fun h => by simp at h) ?_
      refine ar64 (by omega) ?_
      exact round_mk [_, .int .i64 ((j + 1 : Nat) : Int)] (ls.length - (j + 1)) rfl rfl ⟨j + 1, _, _, _, rfl, by omega, rfl, Pl.took I H4⟩ (by omega)
    refine cd (fun k4 => ?_) (fun k4 => ?_)
    · refine ix j rfl hlt ?_
      refine fa ?_
      refine ld (hx w2 I.h.up) ?_
      obtain ⟨d, hde, hd1, hd2⟩ : ∃ d : Int, (if (if (1000 : Int) < (ls.getD j []).getD 1 0 then 1000 else (ls.getD j []).getD 1 0) > 2 then (if (1000 : Int) < (ls.getD j []).getD 1 0 then 1000 else (ls.getD j []).getD 1 0) else 2) = d ∧ 2 ≤ d ∧ d ≤ 1000 := ⟨_, rfl, by omega, by omega⟩
      refine mn2 ?_
      refine val _ rfl ?_
      refine mx2 ?_
      refine val d hde ?_
      refine al #[.int .i64 0] (fun _ => by kernel_rfl) fun w3 hb3 hu3 hs3 => ?_
      refine st hb3 (by decide) rfl fun w4 hb4 hu4 hs4 => ?_
      have H4 : Held w w4 [obPile p pv l, obIn lv l, obBlk w2.heap.size TI #[.int .i64 d]] := I.h.add (y := obBlk w2.heap.size TI #[.int .i64 d]) (hu3.step hu4 (by simp)) hb4 (by simp [obBlk])
      generalize hg : w2.heap.size = g at *
      refine loop_rule [0, 1, 2, 7, 8, 9, 20] [21, 22] (fun vs w' m => ∃ (i : Nat) (mv : Value), vs = [mv, .int .i64 i] ∧ i ≤ l.length ∧ m = l.length - i ∧ Held w w' [obPile p pv l, obIn lv l, obBlk g TI #[.int .i64 d], obIn mv ((l.take i).filter fun y => y.tmod d != 0)]) rfl [.slice none 0 0, .int .i64 0] l.length rfl
        ⟨0, _, rfl, by omega, rfl, H4.add (y := obIn (.slice none 0 0) []) (Upd.refl _ _) (Sl.nil_ _ _ _) (by simp [obSl, Value.ownBlock])⟩ ?_
      rintro _ w5 m2 ⟨q, mv, rfl, hq, rfl, H5⟩
      have hl5 : Sl w5 TI 1 lv l.length (ints l) := H5.at_ (i := 1) (x := obIn lv l) rfl
      have hl5' := hl5
      obtain ⟨la, lc, rfl, -⟩ := hl5.form
      refine len_sl ?_
      refine cd (fun hq1 => ?_) (fun hq1 => ?_)
      · have hq1 : q < l.length := by omega
        obtain ⟨b1, o1, c1, he, -⟩ := hl5.some_ (by omega)
        cases he
        have hd5 : Blk w5 g TI #[.int .i64 d] := H5.at_ (i := 2) (x := obBlk g TI #[.int .i64 d]) rfl
        refine draw_all (fun w' => w' = w5.drew) (by decide +kernel) rfl ?_
        refine q_ix q rfl hq1 ?_
        refine q_ld (v := .int .i64 (l.getD q 0)) (by rintro _ rfl; exact hl5'.drew.getD_ rfl q hq1) ?_
        refine q_ld (v := .int .i64 d) (by rintro _ rfl; exact hd5.drew.cell 0) ?_
        refine rq (.int .i64 ((l.getD q 0).tmod d)) (fun _ _ => rm (by omega) (val _ rfl ⟨rfl, rfl⟩)) ?_
        rintro _ rfl
        have H6 := H5.upd0 (Upd.refl [] w5).drew
        have hl6 := hl5'.drew
        generalize w5.drew = w6 at *
        have htk := getD_take l q hq1
        refine cd (fun hm => ?_) (fun hm => ?_)
        · refine ix q rfl hq1 ?_
          refine ld (hl6.getD_ rfl q hq1) ?_
          refine bs #[.int .i64 (l.getD q 0)] (fun _ => by kernel_rfl) fun w7 hb7 hu7 hs7 => ?_
          have H7 := H6.upd0 hu7
          have hm7 : Sl w7 TI 1 mv ((l.take q).filter fun y => y.tmod d != 0).length (ints ((l.take q).filter fun y => y.tmod d != 0)) := H7.at_ (i := 3) (x := obIn mv ((l.take q).filter fun y => y.tmod d != 0)) rfl
          have hfl : ((l.take q).filter fun y => y.tmod d != 0).length ≤ 1000 := by
            have := List.length_filter_le (fun y : Int => y.tmod d != 0) (l.take q)
            rw [List.length_take] at this
            omega
          refine apg hm7 hb7 rfl rfl (by decide) (by simp only [maxLen]; omega) (by omega) fun mv' w8 hs8 hG8 => ?_
          have H8 := H7.set (i := 3) (x := obIn mv ((l.take q).filter fun y => y.tmod d != 0)) (y := obIn mv' ((l.take (q + 1)).filter fun y => y.tmod d != 0)) rfl (by
            show Sl w8 TI 1 mv' ((l.take (q + 1)).filter fun y => y.tmod d != 0).length _
            rw [htk, List.filter_append, List.filter_cons_of_pos (by simpa using hm), List.filter_nil, List.length_append, List.map_append]
            exact hs8) (Upd.own hG8)
          refine ar64 (by omega) ?_
          exact round_mk [_, .int .i64 ((q + 1 : Nat) : Int)] (l.length - (q + 1)) rfl rfl ⟨q + 1, _, rfl, by omega, rfl, H8⟩ (by omega)
        · have hsm : (l.take (q + 1)).filter (fun y => y.tmod d != 0) = (l.take q).filter fun y => y.tmod d != 0 := by
            rw [htk, List.filter_append, List.filter_cons_of_neg (by simpa using hm), List.filter_nil, List.append_nil]
          refine ar64 (by omega) ?_
          exact round_mk [_, .int .i64 ((q + 1 : Nat) : Int)] (l.length - (q + 1)) rfl rfl ⟨q + 1, _, rfl, by omega, rfl, by rw [hsm]; exact H6⟩ (by omega)
      · have hq2 : q = l.length := by omega
        subst hq2
        rw [List.take_length] at H5
        have hp5 : IsPile w5 p pv l := H5.at_ (i := 0) (x := obPile p pv l) rfl
        have hd5 : Blk w5 g TI #[.int .i64 d] := H5.at_ (i := 2) (x := obBlk g TI #[.int .i64 d]) rfl
        refine cl (keep_c (pi := 0) (p := fun y => y.tmod d != 0) (B := obBlk g TI #[.int .i64 d]) hp5.blk rfl hp5.sl (by omega) (by decide) (noMul (by omega) l) hd5) ?_
        rintro _ w6 ⟨pv', rfl, hb6, hs6, hu6, ho6⟩
        have H6 := H5.set (i := 0) (x := obPile p pv l) (y := obPile p pv' (l.filter fun y => y.tmod d != 0)) rfl (show IsPile w6 p pv' _ from ⟨hb6, hs6⟩) ⟨hu6.mono (by intro k hk; rw [List.mem_singleton.1 hk]; exact List.mem_cons_self), fun k hk => by
          rcases List.mem_cons.1 hk with h1 | h1
          · rw [h1]; exact .inl List.mem_cons_self
          · exact .inr (ho6 k (by simpa using h1))⟩
        have H6' : Held w w6 (LL p pv' mv (l.filter fun y => y.tmod d != 0) (l.filter fun y => y.tmod d != 0)) := H6.sub (by
          refine List.Sublist.cons_cons _ ?_
          refine List.Sublist.cons _ ?_
          exact List.Sublist.cons _ (List.Sublist.refl _))
        have hm6 : Sl w6 TI 1 mv (l.filter fun y => y.tmod d != 0).length (ints (l.filter fun y => y.tmod d != 0)) := H6'.at_ (i := 1) (x := obIn mv (l.filter fun y => y.tmod d != 0)) rfl
        have hfl := List.length_filter_le (fun y : Int => y.tmod d != 0) l
        obtain ⟨ma, mc, rfl, -⟩ := hm6.form
        refine len_sl ?_
        refine len_sl ?_
        refine ar64 (by omega) ?_
        refine cN (fun h => h rfl) ?_
        refine ar64 (by omega) ?_
        exact round_mk [_, .int .i64 ((j + 1 : Nat) : Int)] (ls.length - (j + 1)) rfl rfl ⟨j + 1, _, _, _, rfl, by omega, rfl, ⟨H6', by have := I.le; omega⟩⟩ (by omega)
    · refine ar64 (by omega) ?_
      exact round_mk [_, .int .i64 ((j + 1 : Nat) : Int)] (ls.length - (j + 1)) rfl rfl ⟨j + 1, _, _, _, rfl, by omega, rfl, ⟨I.h, Nat.le_succ_of_le I.le⟩⟩ (by omega)
  · have hpl := I.pile
    have hli := I.list
    have hli' := hli
    obtain ⟨la, lc, rfl, -⟩ := hli.form
    refine loop_rule [0, 1, 2, 7, 8] [23, 24] (fun vs w' m => ∃ q : Nat, vs = [.bool (hasI (l.take q) s), .int .i64 q] ∧ q ≤ l.length ∧ m = l.length - q ∧ w' = w2) rfl [.bool false, .int .i64 0] l.length rfl ⟨0, rfl, by omega, rfl, rfl⟩ ?_
    rintro _ w3 m ⟨q, rfl, hq, rfl, rfl⟩
    refine len_sl ?_
    refine cd (fun hlt => ?_) (fun hlt => ?_)
    · have hlt : q < l.length := by omega
      obtain ⟨b1, o1, c1, he, -⟩ := hli.some_ (by omega)
      cases he
      have hst := hasI_s l s q hlt
      cases hb : hasI (l.take q) s with
      | true =>
        rw [hb, Bool.true_or] at hst
        refine ar64 (by omega) ?_
        exact round_mk [.bool (hasI (l.take (q + 1)) s), .int .i64 ((q + 1 : Nat) : Int)] (l.length - (q + 1)) rfl (by rw [hst]; rfl) ⟨q + 1, rfl, by omega, rfl, rfl⟩ (by omega)
      | false =>
        rw [hb, Bool.false_or] at hst
        refine ix q rfl hlt ?_
        refine ld (hli'.getD_ rfl q hlt) ?_
        refine ar64 (by omega) ?_
        exact round_mk [.bool (hasI (l.take (q + 1)) s), .int .i64 ((q + 1 : Nat) : Int)] (l.length - (q + 1)) rfl (by rw [hst]; rfl) ⟨q + 1, rfl, by omega, rfl, rfl⟩ (by omega)
    · have hq : q = l.length := by omega
      subst hq
      rw [List.take_length]
      refine cl (at_c hpl i) ?_
      rintro _ w3 ⟨rfl, rfl⟩
      by_cases hi : 0 ≤ i ∧ i < l.length
      · obtain ⟨b1, o1, c1, he, -⟩ := hli'.some_ (by omega)
        cases he
        rw [if_pos hi]
        refine cY hi.1 ?_
        refine len_sl ?_
        refine bnq ?_
        refine cN (fun h => by simp [hi.2] at h) ?_
        refine len_sl ?_
        refine ar64 (by omega) ?_
        refine mn2 ?_
        refine val i (by rw [if_neg (by omega)]) ?_
        refine mx2 ?_
        refine val i (by split <;> omega) ?_
        refine ix i.toNat (by omega) (by omega) ?_
        refine ld (hli'.getD_ rfl i.toNat (by omega)) ?_
        refine cN (fun h => h rfl) ?_
        refine cl (list_c hpl (by omega)) ?_
        rintro r w4 ⟨hr, hu4⟩
        obtain ⟨ra, rc, rfl, -⟩ := hr.form
        refine cl (same_c hr (hli'.upd hu4 (by simp))) ?_
        rintro _ w5 ⟨rfl, hu5⟩
        have hp5 := (hpl.upd hu4 (by simp)).upd hu5 (by simp)
        refine cl (len_c hp5) ?_
        rintro _ _ ⟨rfl, rfl⟩
        refine len_sl ?_
        refine cY rfl ?_
        refine cl (has_c hp5 s) ?_
        rintro _ _ ⟨rfl, rfl⟩
        refine bq ?_
        refine cY (by simp) ?_
        refine cl (lives04 _) ?_
        rintro _ w6 ⟨rfl, hu6⟩
        exact ⟨rfl, ((I.h.up.trans hu4).trans hu5).trans hu6⟩
      · rw [if_neg hi]
        by_cases h0 : i ≥ 0
        · refine cY h0 ?_
          refine len_sl ?_
          refine bnq ?_
          refine cN (fun h => by simp at h; omega) ?_
          refine cl (list_c hpl (by omega)) ?_
          rintro r w4 ⟨hr, hu4⟩
          obtain ⟨ra, rc, rfl, -⟩ := hr.form
          refine cl (same_c hr (hli'.upd hu4 (by simp))) ?_
          rintro _ w5 ⟨rfl, hu5⟩
          have hp5 := (hpl.upd hu4 (by simp)).upd hu5 (by simp)
          refine cl (len_c hp5) ?_
          rintro _ _ ⟨rfl, rfl⟩
          refine len_sl ?_
          refine cY rfl ?_
          refine cl (has_c hp5 s) ?_
          rintro _ _ ⟨rfl, rfl⟩
          refine bq ?_
          refine cY (by simp) ?_
          refine cl (lives04 _) ?_
          rintro _ w6 ⟨rfl, hu6⟩
          exact ⟨rfl, ((I.h.up.trans hu4).trans hu5).trans hu6⟩
        · refine cN h0 ?_
          refine bnq ?_
          refine cl (list_c hpl (by omega)) ?_
          rintro r w4 ⟨hr, hu4⟩
          obtain ⟨ra, rc, rfl, -⟩ := hr.form
          refine cl (same_c hr (hli'.upd hu4 (by simp))) ?_
          rintro _ w5 ⟨rfl, hu5⟩
          have hp5 := (hpl.upd hu4 (by simp)).upd hu5 (by simp)
          refine cl (len_c hp5) ?_
          rintro _ _ ⟨rfl, rfl⟩
          refine len_sl ?_
          refine cY rfl ?_
          refine cl (has_c hp5 s) ?_
          rintro _ _ ⟨rfl, rfl⟩
          refine bq ?_
          refine cY (by simp) ?_
          refine cl (lives04 _) ?_
          rintro _ w6 ⟨rfl, hu6⟩
          exact ⟨rfl, ((I.h.up.trans hu4).trans hu5).trans hu6⟩
theorem PilePlays_walk (w : World) (v : Value) (ls : List (List Int)) (h : SlRows w w.heap.size [.i64, .i64] v ls) (i : Int) (wi : (Lit.int .i64 i).wf = true) (x : Int) (wx : (Lit.int .i64 x).wf = true) :
    Calls Try.prog 12 #[v, .int .i64 i, .int .i64 x] w fun e w' => e = .returned (.bool true) ∧ Below w.heap.size w w' :=
  (plays_law h i wi x).mono fun _ _ ⟨_, he, hv, hu⟩ => ⟨by rw [he, hv], hu.below⟩
end Go.Proofs.Ytaogmfmphamplaa
