/- The laws SchedOdd and SchedBack: their walks, and the contracts of reversing and of the next interleaving. -/
import Derived.Test.YtjninopakpfklaaSh
namespace Go.Proofs.Ytjninopakpfklaa
open Go.RowKit
attribute [local irreducible] Instr.loadAt Instr.storeAt Instr.fieldAt Instr.indexAt Instr.sliceAt Instr.buildSlice Instr.box Instr.alloc Builtin.append_ Builtin.len_ Builtin.min_ Builtin.max_ Calls Instr.build Instr.makeSlice binSem convert Instr.index Instr.range Instr.next

theorem stA {P : Program} {w : World} {t e : Nat} [One P t] {K : World → Prop} {v u : Value} {n : Nat} {xs : List Value} {g o c j x : Nat} (h : Sl w e 1 v n xs) (hv : v = .slice (some ⟨g, o, none⟩) n c) (hj : j < n) (hx : x = o + j * 1) (hu : u.oneCell' = true)
    (k : ∀ w', Sl w' e 1 v n (xs.set j u) → Upd [g] w w' → w'.heap.size = w.heap.size → K w') : RunU P (Instr.storeAt t (.pointer (some ⟨g, x, none⟩)) u) K w := by
  subst hx; exact stS h hv hj hu k
def swpL (s : List Int) (i : Nat) : List Int := (List.range s.length).map fun x => if x < i ∨ s.length - i ≤ x then s.getD (s.length - 1 - x) 0 else s.getD x 0
@[simp] theorem swpL_len (s : List Int) (i : Nat) : (swpL s i).length = s.length := by simp [swpL]
theorem swpL_zero (s : List Int) : swpL s 0 = s := by
  apply List.ext_getElem (by simp)
  intro x h1 h2
  simp only [swpL, List.getElem_map, List.getElem_range]
  rw [if_neg (by omega)]; simp [List.getD, h2]
theorem swpL_done (s : List Int) (i : Nat) (h : s.length ≤ 2 * i + 1) : swpL s i = s.reverse := by
  apply List.ext_getElem (by simp)
  intro x h1 h2
  have h3 : x < s.length := by simpa using h2
  simp only [swpL, List.getElem_map, List.getElem_range, List.getElem_reverse]
  by_cases hc : x < i ∨ s.length - i ≤ x
  · rw [if_pos hc]; simp [List.getD, show s.length - 1 - x < s.length by omega]
  · rw [if_neg hc]
    have e : s.length - 1 - x = x := by omega
    simp [List.getD, h3, e]
theorem swpL_step (s : List Int) (i : Nat) (h : 2 * i + 1 < s.length) : ((swpL s i).set i (s.getD (s.length - 1 - i) 0)).set (s.length - 1 - i) (s.getD i 0) = swpL s (i + 1) := by
  apply List.ext_getElem (by simp)
  intro x h1 h2
  have h3 : x < s.length := by simpa using h2
  rw [List.getElem_set, List.getElem_set]
  simp only [swpL, List.getElem_map, List.getElem_range]
  by_cases hx1 : s.length - 1 - i = x
  · subst hx1
    rw [if_pos rfl, if_pos (by omega)]
    congr 1; omega
  · rw [if_neg hx1]
    by_cases hx2 : i = x
    · subst hx2
      rw [if_pos rfl, if_pos (by omega)]
    · rw [if_neg hx2]
      by_cases hc : x < i ∨ s.length - i ≤ x
      · rw [if_pos hc, if_pos (by omega)]
      · rw [if_neg hc, if_neg (by omega)]
theorem swpL_at (s : List Int) (i x : Nat) (hx : i ≤ x) (hx2 : x < s.length - i) : (swpL s i).getD x 0 = s.getD x 0 := by
  have h : x < (swpL s i).length := by simp; omega
  rw [List.getD_eq_getElem?_getD, List.getElem?_eq_getElem h]
  simp only [swpL, List.getElem_map, List.getElem_range, Option.getD_some]
  rw [if_neg (by omega)]
theorem app_getD (p s : List Int) (i : Nat) : (p ++ s).getD (p.length + i) 0 = s.getD i 0 := by simp [List.getD, List.getElem?_append_right]
set_option maxRecDepth 10000 in
theorem reverse_c {w : World} {g o n cap c2 : Nat} {p s : List Int} (hs : Sl w 3 1 (.slice (some ⟨g, o, none⟩) n cap) n ((p ++ s).map (.int .i64))) (hl : (p ++ s).length < 4294967296) :
    Fn Try.prog 74 #[.slice (some ⟨g, o + p.length * 1, none⟩) s.length c2] w fun _ w' => Sl w' 3 1 (.slice (some ⟨g, o, none⟩) n cap) n ((p ++ s.reverse).map (.int .i64)) ∧ Upd [g] w w' := by
  have hn : p.length + s.length = n := by have := hs.1; simpa using this
  rw [List.length_append] at hl
  refine fn_enter Try.func74 rfl rfl ?_
  refine len_sl ?_
  refine ar64 (by omega) ?_
  refine loop_rule [0] [2, 3] (fun vs w' m => ∃ (i : Nat), vs = [.int .i64 i, .int .i64 ((s.length : Int) - 1 - i)] ∧ 2 * i ≤ s.length + 1 ∧ m = s.length - i ∧ Sl w' 3 1 (.slice (some ⟨g, o, none⟩) n cap) n ((p ++ swpL s i).map (.int .i64)) ∧ Upd [g] w w') rfl [.int .i64 0, .int .i64 ((s.length : Int) - 1)] s.length rfl
    ⟨0, by simp, by omega, rfl, by rw [swpL_zero]; exact hs, Upd.refl _ _⟩ ?_
  rintro _ w1 m ⟨i, rfl, hi, rfl, hS, hU⟩
  refine cd (fun hlt => ?_) (fun hlt => ?_)
  · have hlt : 2 * i + 1 < s.length := by omega
    have hcell : ∀ x, i ≤ x → x < s.length - i → w1.drew.cell? ⟨g, o + p.length * 1 + x * 1, none⟩ = some (.int .i64 (s.getD x 0)) := fun x h1 h2 => by
      have := (RdK.of_sl hS).at_ rfl (p.length + x) (by simp; omega)
      rw [app_getD, swpL_at s i x h1 h2] at this
      rw [show o + p.length * 1 + x * 1 = o + (p.length + x) * 1 by omega]
      exact this
    refine draw_swap 14 13 [(0, true), (1, true), (2, false), (3, false), (4, true), (5, true), (6, true), (7, true), (8, false), (9, false), (10, false), (11, true), (12, true)] (by decide +kernel) ?_
    refine q_ix (s.length - 1 - i) (by omega) (by omega) ?_
    refine q_ld (v := .int .i64 (s.getD (s.length - 1 - i) 0)) (by rintro _ rfl; exact hcell _ (by omega) (by omega)) ?_
    refine q_ix i rfl (by omega) ?_
    refine q_ld (v := .int .i64 (s.getD i 0)) (by rintro _ rfl; exact hcell _ (by omega) (by omega)) ?_
    refine q_ix i rfl (by omega) ?_
    have hS1 : Sl w1.drew 3 1 _ _ _ := hS.drew
    refine stA (j := p.length + i) hS1 rfl (by omega) (by omega) rfl fun w2 hs2 hu2 hz2 => ?_
    refine ix (s.length - 1 - i) (by omega) (by omega) ?_
    refine stA (j := p.length + (s.length - 1 - i)) hs2 rfl (by omega) (by omega) rfl fun w3 hs3 hu3 hz3 => ?_
    have hlist : (((p ++ swpL s i).map (Value.int .i64)).set (p.length + i) (.int .i64 (s.getD (s.length - 1 - i) 0))).set (p.length + (s.length - 1 - i)) (.int .i64 (s.getD i 0)) = (p ++ swpL s (i + 1)).map (.int .i64) := by
      rw [← List.map_set, ← List.map_set, List.set_append_right _ _ (by omega), List.set_append_right _ _ (by omega), Nat.add_sub_cancel_left, Nat.add_sub_cancel_left, swpL_step s i hlt]
    rw [hlist] at hs3
    have hu23 : Upd [g] w1 w3 := (show Upd [g] w1 w2 from ⟨hu2.os, hu2.tape, hu2.output, hu2.size, hu2.block⟩).trans hu3
    refine ar64 (by omega) ?_
    refine ar64 (by omega) ?_
    refine round_mk [.int .i64 ((i + 1 : Nat) : Int), .int .i64 ((s.length : Int) - 1 - ((i + 1 : Nat) : Int))] (s.length - (i + 1)) rfl (by rw [show (s.length : Int) - 1 - ((i + 1 : Nat) : Int) = (s.length : Int) - 1 - (i : Int) - 1 by omega]; rfl) ⟨i + 1, rfl, by omega, rfl, hs3, hU.trans hu23⟩ (by omega)
  · rw [swpL_done s i (by omega)] at hS
    exact ⟨hS, hU⟩

theorem nI_app (a b : List Nat) : nI (a ++ b) = nI a ++ nI b := by simp [nI]
theorem nI_cons (a : Nat) (b : List Nat) : nI (a :: b) = (a : Int) :: nI b := rfl
theorem swap_list (a b : Nat) (s1 s2 : List Nat) : ∀ (p : List Nat), ((nI (p ++ a :: (s1 ++ b :: s2))).set p.length (b : Int)).set (p.length + 1 + s1.length) (a : Int) = nI (p ++ b :: (s1 ++ a :: s2))
  | [] => by
    have h : ∀ (s1 : List Nat), (nI (s1 ++ b :: s2)).set s1.length (a : Int) = nI (s1 ++ a :: s2) := by
      intro s1
      induction s1 with
      | nil => rfl
      | cons y s1 ih =>
        show ((y : Int) :: nI (s1 ++ b :: s2)).set (s1.length + 1) (a : Int) = (y : Int) :: nI (s1 ++ a :: s2)
        rw [List.set_cons_succ, ih]
    show ((b : Int) :: nI (s1 ++ b :: s2)).set (0 + 1 + s1.length) (a : Int) = (b : Int) :: nI (s1 ++ a :: s2)
    rw [show 0 + 1 + s1.length = s1.length + 1 by omega, List.set_cons_succ, h]
  | y :: p => by
    have ih := swap_list a b s1 s2 p
    show (((y : Int) :: nI (p ++ a :: (s1 ++ b :: s2))).set (p.length + 1) (b : Int)).set (p.length + 1 + 1 + s1.length) (a : Int) = (y : Int) :: nI (p ++ b :: (s1 ++ a :: s2))
    rw [List.set_cons_succ, show p.length + 1 + 1 + s1.length = (p.length + 1 + s1.length) + 1 by omega, List.set_cons_succ, ih]
def NextV (w : World) (x : List Nat) (r : Value) : Prop :=
  (x.Pairwise (· ≥ ·) ∧ r = .tuple #[.slice none 0 0, .bool false]) ∨
  ∃ p a s1 b s2 rv, x = p ++ a :: (s1 ++ b :: s2) ∧ (s1 ++ b :: s2).Pairwise (· ≥ ·) ∧ a < b ∧ (∀ y ∈ s2, y ≤ a) ∧ r = .tuple #[rv, .bool true] ∧ RdK w .i64 rv (nI (p ++ b :: (s1 ++ a :: s2).reverse))
theorem getD_p (p s : List Nat) (a i : Nat) : (nI (p ++ a :: s)).getD (p.length + 1 + i) 0 = ((s.getD i 0 : Nat) : Int) := by
  rw [nI_getD, show p.length + 1 + i = p.length + (1 + i) by omega]
  simp [List.getD, List.getElem?_append_right, Nat.add_comm 1 i]
theorem getD_a (p s : List Nat) (a : Nat) : (nI (p ++ a :: s)).getD p.length 0 = (a : Int) := by
  rw [nI_getD]; simp [List.getD]
set_option maxRecDepth 100000 in
theorem next_c {w : World} {v : Value} {l : List Int} (hv : RdK w .i64 v l) (hl : l.length ≤ 100) (hr : Rng l) : Fn Try.prog 56 #[v] w fun r w' =>
    (if goodP l then ∃ x, l = nI x ∧ NextV w' x r else r = .tuple #[.slice none 0 0, .bool false]) ∧ Upd [] w w' := by
  obtain ⟨a0, ca, rfl, -⟩ := hv.form
  refine fn_enter Try.func56 rfl rfl ?_
  refine cl (whole_c hv hl hr) ?_
  rintro _ w1 ⟨⟨rv, rfl, hW⟩, hu1⟩
  by_cases hg : goodP l
  · obtain ⟨x, n, rfl, hn6, hx20, hxn, -, -⟩ := hW hg
    refine cN (by simpa using hg) ?_
    refine len_sl ?_
    by_cases h0 : x = []
    · subst h0
      refine val (-2) rfl ?_
      refine loop_rounds 1 ?_
      refine draw_all (fun w' => Upd [] w w') (by decide +kernel) hu1.drew ?_
      intro w2 hU2
      exact ⟨by rw [if_pos hg]; exact ⟨[], rfl, .inl ⟨by simp, rfl⟩⟩, hU2⟩
    have hpos : 0 < x.length := List.length_pos_iff.2 h0
    refine val (((x.length - 1 : Nat) : Int) - 1) (by rw [IntWalk.i64_in _ (by simp; omega)]; simp; omega) ?_
    refine loop_rule [0] [6] (fun vs w' m => ∃ (k : Nat), vs = [.int .i64 ((k : Int) - 1)] ∧ k < x.length ∧ m = k ∧ (x.drop k).Pairwise (· ≥ ·) ∧ Upd [] w w') rfl [_] (x.length - 1) rfl ⟨x.length - 1, rfl, by omega, rfl, ?_, hu1⟩ ?_
    · have : (x.drop (x.length - 1)).length = 1 := by simp; omega
      match hd : x.drop (x.length - 1), this with
      | [y], _ => simp
    rintro _ w2 k ⟨_, rfl, hk, rfl, hpw, hU⟩
    have hk' : k < (nI x).length := by simpa using hk
    obtain ⟨b_, o_, c_, he_, -⟩ := hv.some_ (by omega)
    cases he_
    cases k with
    | zero =>
      refine draw_all (fun w' => Upd [] w w') (by decide +kernel) hU.drew ?_
      intro w3 hU3
      exact ⟨by rw [if_pos hg]; exact ⟨x, rfl, .inl ⟨by simpa using hpw, rfl⟩⟩, hU3⟩
    | succ k =>
      have hrd : ∀ i, i < x.length → ∀ w', Upd [] w w' → w'.cell? ⟨b_, o_ + i * 1, none⟩ = some (.int .i64 ((x.getD i 0 : Nat) : Int)) := fun i hi w' hw' => by
        rw [(hv.upd0 hw').at_ rfl i (by simpa using hi), nI_getD]
      refine draw_all (fun w' => Upd [] w w') (by decide +kernel) hU.drew ?_
      refine cY (by omega) ?_
      refine q_ix k (by omega) (by omega) ?_
      refine q_ld (hrd k (by omega)) ?_
      refine q_ar64 (by omega) ?_
      refine q_ix (k + 1) (by omega) (by omega) ?_
      refine q_ld (hrd (k + 1) hk) ?_
      intro w3 hU3
      have hdr := natD_drop x k (by omega)
      have hdr2 := natD_drop x (k + 1) hk
      refine cd (fun hge => ?_) (fun hge => ?_)
      · refine ar64 (by omega) ?_
        refine round_mk [.int .i64 ((k : Int) - 1)] k rfl (by rw [show ((k : Int) - 1) = (((k + 1 : Nat) : Int) - 1 - 1) by omega]; rfl) ⟨k, rfl, by omega, rfl, ?_, hU3⟩ (by omega)
        rw [hdr, List.pairwise_cons]
        refine ⟨fun y hy => ?_, hpw⟩
        rw [hdr2] at hy hpw
        rw [List.pairwise_cons] at hpw
        rcases List.mem_cons.1 hy with rfl | hy
        · show x.getD k 0 ≥ x.getD (k + 1) 0; omega
        · have := hpw.1 y hy; show x.getD k 0 ≥ y; omega
      · have hlt : x.getD k 0 < x.getD (k + 1) 0 := by omega
        refine cN (by omega) ?_
        -- the list in its parts
        obtain ⟨p, a, s, hx, hpl, hs0⟩ : ∃ p a s, x = p ++ a :: s ∧ p.length = k ∧ a < s.getD 0 0 := by
          refine ⟨x.take k, x.getD k 0, x.drop (k + 1), by rw [← hdr, List.take_append_drop], by simp; omega, ?_⟩
          rw [hdr2]; exact hlt
        have hs : x.drop (k + 1) = s := by rw [hx, ← hpl]; simp
        rw [hs] at hpw
        have hsl : p.length + 1 + s.length = x.length := by rw [hx]; simp; omega
        have hspos : 0 < s.length := by omega
        refine cl (clone_c (hv.upd0 hU3) (by simp; omega)) ?_
        rintro r4 w4 ⟨hs4, hf4, hu4⟩
        have hU4 := hU3.trans hu4
        rw [nI_length] at hs4
        obtain ⟨g, o, cap, rfl, hcap⟩ := hs4.some_ hpos
        have hfg := hf4 g rfl
        have hz3 := hU3.size
        refine len_sl ?_
        refine val ((p.length + 1 + (s.length - 1) : Nat) : Int) (by rw [IntWalk.i64_in _ (by omega)]; omega) ?_
        have hs4 : Sl w4 3 1 (.slice (some ⟨g, o, none⟩) x.length cap) x.length ((nI (p ++ a :: s)).map (.int .i64)) := by rw [← hx]; exact hs4
        have hcell : ∀ w' i, Sl w' 3 1 (.slice (some ⟨g, o, none⟩) x.length cap) x.length ((nI (p ++ a :: s)).map (.int .i64)) → i < s.length → w'.cell? ⟨g, o + (p.length + 1 + i) * 1, none⟩ = some (.int .i64 ((s.getD i 0 : Nat) : Int)) := fun w' i h hi => by
          rw [(RdK.of_sl h).at_ rfl (p.length + 1 + i) (by simp; omega), getD_p]
        have hcella : ∀ w', Sl w' 3 1 (.slice (some ⟨g, o, none⟩) x.length cap) x.length ((nI (p ++ a :: s)).map (.int .i64)) → w'.cell? ⟨g, o + p.length * 1, none⟩ = some (.int .i64 (a : Int)) := fun w' h => by
          rw [(RdK.of_sl h).at_ rfl p.length (by simp), getD_a]
        refine loop_rule [6, 7] [8] (fun vs w' m => ∃ (q : Nat), vs = [.int .i64 ((p.length + 1 + q : Nat) : Int)] ∧ q < s.length ∧ m = q ∧ (∀ y ∈ s.drop (q + 1), y ≤ a) ∧ Upd [] w4 w') rfl [_] (s.length - 1) rfl ⟨s.length - 1, rfl, by omega, rfl, by rw [List.drop_eq_nil_of_le (by omega)]; simp, Upd.refl _ _⟩ ?_
        rintro _ w5 q ⟨_, rfl, hq, rfl, hall, hU5⟩
        have hs5 := hs4.upd hU5 (by simp)
        refine draw_all (fun w' => Upd [] w4 w') (by decide +kernel) hU5.drew ?_
        refine q_ix (p.length + 1 + q) (by omega) (by omega) ?_
        refine q_ld (fun w' hw' => hcell w' q (hs4.upd hw' (by simp)) hq) ?_
        refine q_ix p.length (by omega) (by omega) ?_
        refine q_ld (fun w' hw' => hcella w' (hs4.upd hw' (by simp))) ?_
        intro w6 hU6
        have hdq := natD_drop s q hq
        refine cd (fun hle => ?_) (fun hle => ?_)
        · have hq0 : q ≠ 0 := by rintro rfl; omega
          refine ar64 (by omega) ?_
          refine round_mk [.int .i64 ((p.length + 1 + (q - 1) : Nat) : Int)] (q - 1) rfl (by rw [show ((p.length + 1 + (q - 1) : Nat) : Int) = ((p.length + 1 + q : Nat) : Int) - 1 by omega]; rfl) ⟨q - 1, rfl, by omega, rfl, ?_, hU6⟩ (by omega)
          intro y hy
          rw [show q - 1 + 1 = q by omega, hdq] at hy
          rcases List.mem_cons.1 hy with rfl | hy
          · omega
          · exact hall y hy
        · have hab : a < s.getD q 0 := by omega
          obtain ⟨s1, b, s2, hs12, hs1l, hb, hs2⟩ : ∃ s1 b s2, s = s1 ++ b :: s2 ∧ s1.length = q ∧ b = s.getD q 0 ∧ s2 = s.drop (q + 1) :=
            ⟨s.take q, s.getD q 0, s.drop (q + 1), by rw [← hdq, List.take_append_drop], by simp; omega, rfl, rfl⟩
          rw [← hb] at hab
          rw [← hs2] at hall
          have hs6 := hs4.upd hU6 (by simp)
          have c1 := hcell w6.drew q hs6.drew hq
          rw [← hb] at c1
          have c2 := hcella w6.drew hs6.drew
          refine draw_swap 14 13 [(0, true), (1, true), (2, false), (3, false), (4, true), (5, true), (6, true), (7, true), (8, false), (9, false), (10, false), (11, true), (12, true)] (by decide +kernel) ?_
          refine q_ix (p.length + 1 + q) (by omega) (by omega) ?_
          refine q_ld (by rintro _ rfl; exact c1) ?_
          refine q_ix p.length (by omega) (by omega) ?_
          refine q_ld (by rintro _ rfl; exact c2) ?_
          refine q_ix p.length (by omega) (by omega) ?_
          refine stS hs6.drew rfl (by omega) rfl fun w7 hs7 hu7 hz7 => ?_
          refine ix (p.length + 1 + q) (by omega) (by omega) ?_
          refine stS hs7 rfl (by omega) rfl fun w8 hs8 hu8 hz8 => ?_
          rw [← List.map_set, ← List.map_set, hs12, ← hs1l, swap_list a b s1 s2 p] at hs8
          have hU8 : Upd [] w w8 := ((hU4.trans hU6).step (show Upd [g] w6 w7 from ⟨hu7.os, hu7.tape, hu7.output, hu7.size, hu7.block⟩) (by simp; omega)).step hu8 (by simp; omega)
          refine ar64 (by omega) ?_
          refine sl_lo (p.length + 1) (by omega) (by omega) ?_
          have hl12 : s1.length + 1 + s2.length = s.length := by rw [hs12]; simp; omega
          have hs8' : Sl w8 3 1 (.slice (some ⟨g, o, none⟩) x.length cap) x.length ((nI (p ++ [b]) ++ nI (s1 ++ a :: s2)).map (.int .i64)) := by
            rw [← nI_app]; simpa using hs8
          have hrev := reverse_c (c2 := cap - (p.length + 1)) hs8' (by simp; omega)
          rw [show (nI (p ++ [b])).length = p.length + 1 by simp, show (nI (s1 ++ a :: s2)).length = x.length - (p.length + 1) by simp; omega] at hrev
          have hval : (if cap = p.length + 1 then (some ⟨g, o, none⟩ : Option Addr) else (some ⟨g, o, none⟩ : Option Addr).map (·.add ((p.length + 1) * 1))) = some ⟨g, o + (p.length + 1) * 1, none⟩ := by
            rw [if_neg (by omega)]; simp [Addr.add_lit]
          rw [hval]
          refine cl hrev ?_
          rintro _ w9 ⟨hs9, hu9⟩
          refine ⟨?_, hU8.step hu9 (by simp; omega)⟩
          rw [if_pos hg]
          refine ⟨x, rfl, .inr ⟨p, a, s1, b, s2, _, by rw [hx, hs12], by rw [← hs12]; exact hpw, hab, hall, rfl, ?_⟩⟩
          have e : nI (p ++ b :: (s1 ++ a :: s2).reverse) = nI (p ++ [b]) ++ (nI (s1 ++ a :: s2)).reverse := by
            simp [nI]
          rw [e]
          exact RdK.of_sl hs9
  · refine cY hg ?_
    exact ⟨by rw [if_neg hg]; rfl, hu1⟩
end Go.Proofs.Ytjninopakpfklaa
