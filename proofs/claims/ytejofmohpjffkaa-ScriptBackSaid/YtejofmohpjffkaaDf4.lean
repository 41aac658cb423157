/- The walk of the law ConfCodes. -/
import Derived.Test.YtejofmohpjffkaaDf3
import Derived.Test.YtejofmohpjffkaaV9
namespace Go.Proofs.Ytejofmohpjffkaa.K
open Go.RowKit
attribute [local irreducible] Instr.loadAt Instr.storeAt Instr.fieldAt Instr.indexAt Instr.sliceAt Instr.buildSlice Instr.box Instr.alloc Builtin.append_ Builtin.len_ Builtin.min_ Builtin.max_ Calls Instr.build Instr.makeSlice binSem convert Instr.index

def cfOf (l : List Int) : Cf := ⟨l.getD 0 0, l.getD 1 0, l.getD 2 0, l.getD 3 0, l.getD 4 0, l.getD 5 0, l.getD 6 0⟩
def dec (l : List Int) (k : Nat) : List Int := (List.range 7).map fun j => if j < k then l.getD j 0 else 0
theorem dec_step (l : List Int) (k : Nat) (hk : k < 7) : (ints7 (dec l k)).setIfInBounds k (.int .i64 (l.getD k 0)) = ints7 (dec l (k + 1)) := by
  rcases (show k = 0 ∨ k = 1 ∨ k = 2 ∨ k = 3 ∨ k = 4 ∨ k = 5 ∨ k = 6 by omega) with rfl | rfl | rfl | rfl | rfl | rfl | rfl <;> rfl
theorem dec_size (l : List Int) (k : Nat) : (ints7 (dec l k)).size = 7 := by simp [ints7, dec]
def zC : Cf := ⟨0, 0, 0, 0, 0, 0, 0⟩
/-- bytes that are read -/
structure Bts (w : World) (v : Value) (l : List Int) : Prop where
  h : SlInts w w.heap.size .u8 v l
theorem Bts.upd {w w' : World} {v : Value} {l : List Int} (h : Bts w v l) (hu : Upd [] w w') : Bts w' v l := by
  obtain ⟨a, cap, rfl, h1, h2, h3, h4, h5⟩ := h.h
  refine ⟨a, cap, rfl, h1, h2, h3, h4, fun hp => ?_⟩
  obtain ⟨b, o, hab, hb, hc⟩ := h5 hp
  exact ⟨b, o, hab, Nat.lt_of_lt_of_le hb hu.size, fun i hi => by rw [hu.cell hb (by simp)]; exact hc i hi⟩
theorem Bts.form {w : World} {v : Value} {l : List Int} (h : Bts w v l) : ∃ a cap, v = .slice a l.length cap ∧ l.length ≤ cap := by
  obtain ⟨a, cap, rfl, h1, -⟩ := h.h
  exact ⟨a, cap, rfl, h1⟩
theorem Bts.some_ {w : World} {v : Value} {l : List Int} (h : Bts w v l) (hp : 0 < l.length) : ∃ b o cap, v = .slice (some ⟨b, o, none⟩) l.length cap ∧ l.length ≤ cap ∧ ∀ i, i < l.length → w.cell? ⟨b, o + i * 1, none⟩ = some (.int .u8 (l.getD i 0)) := by
  obtain ⟨a, cap, rfl, h1, h2, h3, h4, h5⟩ := h.h
  obtain ⟨b, o, rfl, hb, hc⟩ := h5 hp
  exact ⟨b, o, cap, rfl, h1, fun i hi => by rw [Nat.mul_one]; exact hc i hi⟩
theorem Bts.byte {w : World} {v : Value} {l : List Int} (h : Bts w v l) (i : Nat) (hi : i < l.length) : 0 ≤ l.getD i 0 ∧ l.getD i 0 ≤ 255 := by
  obtain ⟨a, cap, rfl, h1, h2, h3, h4, h5⟩ := h.h
  have h6 := h4 (l.getD i 0) (by simp [List.getD, hi])
  simp only [Lit.wf] at h6
  have h7 : IntKind.u8.min ≤ l.getD i 0 ∧ l.getD i 0 ≤ IntKind.u8.max := by simpa using h6
  exact h7

set_option maxRecDepth 10000 in
theorem decode_c (v : Value) (l : List Int) (w : World) (hv : Bts w v l) : Fn Try.prog 18 #[v] w fun r w' => r = .tuple #[.agg (cf7 (if l.length < 7 then zC else if rightC (cfOf l) then cfOf l else zC)), .int .i64 (if l.length < 7 then 9 else errC (cfOf l))] ∧ Upd [] w w' := by
  obtain ⟨a, cap, rfl, hcap⟩ := hv.form
  refine fn_enter Try.func18 rfl rfl ?_
  refine al #[.int .i64 0, .int .i64 0, .int .i64 0, .int .i64 0, .int .i64 0, .int .i64 0, .int .i64 0] (fun _ => by kernel_rfl) fun w1 hb1 hu1 hs1 => ?_
  refine al #[.int .i64 0, .int .i64 0, .int .i64 0, .int .i64 0, .int .i64 0, .int .i64 0, .int .i64 0] (fun _ => by kernel_rfl) fun w2 hb2 hu2 hs2 => ?_
  refine len_sl ?_
  have hr2 := hb1.upd hu2 (by simp)
  refine cd (fun h7 => ?_) (fun h7 => ?_)
  · have h7 : l.length < 7 := by omega
    refine bd #[.int .i64 0, .int .i64 0, .int .i64 0, .int .i64 0, .int .i64 0, .int .i64 0, .int .i64 0] (fun _ => by kernel_rfl) ?_
    refine stw hr2 rfl rfl rfl fun w3 hb3 hu3 hs3 => ?_
    refine rlw hb3 rfl ?_
    refine ⟨?_, (hu1.trans hu2).step hu3 (by simp)⟩
    rw [if_pos h7, if_pos h7]
    rfl
  · have h7 : ¬ l.length < 7 := by omega
    have hU := hu1.trans hu2
    obtain ⟨b, o, cap', he, -, hc⟩ := hv.some_ (by omega)
    cases he
    rw [if_neg h7, if_neg h7]
    have hd1 : w.heap.size ≠ w1.heap.size := by omega
    have hd2 : w.heap.size ≤ w1.heap.size := by omega
    have hb2 : Blk w2 w1.heap.size 70 (ints7 (dec l 0)) := hb2
    generalize w1.heap.size = q at *
    refine loop_rule [0, 2, 4] [11] (fun vs w' m => ∃ j : Nat, vs = [.int .i64 j] ∧ j ≤ 7 ∧ m = 7 - j ∧ Blk w' q 70 (ints7 (dec l j)) ∧ Blk w' w.heap.size 23 #[.int .i64 0, .int .i64 0, .int .i64 0, .int .i64 0, .int .i64 0, .int .i64 0, .int .i64 0] ∧ Upd [] w w') rfl [.int .i64 0] 7 rfl ⟨0, rfl, by omega, rfl, hb2, hr2, hU⟩ ?_
    rintro _ w3 m ⟨j, rfl, hj, rfl, gp, gr, gU⟩
    refine cd (fun hlt => ?_) (fun hlt => ?_)
    · have hlt : j < 7 := by omega
      refine ix j rfl (by omega) ?_
      refine ld (((hv.upd gU).some_ (by omega)).elim fun b' h => h.elim fun o' h => h.elim fun c' h => by have h1 := h.1; have h2 := h.2.2 j (by omega); cases h1; exact h2) ?_
      refine cv ?_
      refine ar64 (by have := hv.byte j (by omega); omega) ?_
      refine ixA j rfl hlt ?_
      refine st gp (by rw [dec_size]; omega) rfl fun w4 hb4 hu4 hs4 => ?_
      refine ar64 (by omega) ?_
      refine round_mk [.int .i64 ((j + 1 : Nat) : Int)] (7 - (j + 1)) rfl rfl ?_ (by omega)
      refine ⟨j + 1, rfl, by omega, rfl, ?_, gr.upd hu4 (by simpa using hd1), gU.step hu4 (by simpa using hd2)⟩
      rw [← dec_step l j hlt]
      simpa using hb4
    · have hj : j = 7 := by omega
      subst hj
      have gp : Blk w3 q 70 (cf7 (cfOf l)) := gp
      refine ldw gp (cf7_len _) ?_
      refine cl (conf_c (cfOf l) _) ?_
      rintro _ w4 ⟨rfl, hu4⟩
      refine cl (check_c (cfOf l) _) ?_
      rintro _ w5 ⟨rfl, hu5⟩
      have gr5 := (gr.upd hu4 (by simp)).upd hu5 (by simp)
      have gp5 := (gp.upd hu4 (by simp)).upd hu5 (by simp)
      have gU5 := (gU.trans hu4).trans hu5
      by_cases hr : rightC (cfOf l)
      · have he : errC (cfOf l) = 0 := if_pos hr
        rw [if_pos hr, he]
        refine ldw gp5 (cf7_len _) ?_
        refine cl (conf_c (cfOf l) _) ?_
        rintro _ w6 ⟨rfl, hu6⟩
        refine stw (gr5.upd hu6 (by simp)) rfl (cf7_len _) (cf7_one _) fun w7 hb7 hu7 hs7 => ?_
        refine rlw hb7 (cf7_len _) ?_
        exact ⟨rfl, (gU5.trans hu6).step hu7 (by simp)⟩
      · have he : errC (cfOf l) = 6 := if_neg hr
        rw [if_neg hr, he]
        refine bd (cf7 zC) (fun _ => by kernel_rfl) ?_
        refine stw gr5 rfl rfl rfl fun w7 hb7 hu7 hs7 => ?_
        refine rlw hb7 rfl ?_
        exact ⟨rfl, gU5.step hu7 (by simp)⟩

theorem cfL_at (c : Cf) (hc : rightC c) (j : Nat) (hj : j < 7) : 0 ≤ (cfL c).getD j 0 ∧ (cfL c).getD j 0 ≤ 255 := by
  obtain ⟨A, T, N, L, B, P, S⟩ := c
  obtain ⟨⟨h0, h1, h2, h3, h4, h5, h6⟩, -⟩ := hc
  unfold within at *
  rcases (show j = 0 ∨ j = 1 ∨ j = 2 ∨ j = 3 ∨ j = 4 ∨ j = 5 ∨ j = 6 by omega) with rfl | rfl | rfl | rfl | rfl | rfl | rfl <;> simp only [cfL, List.getD_cons_zero, List.getD_cons_succ] <;> omega
theorem cf7_get (c : Cf) (j : Nat) (hj : j < 7) : (cf7 c).toList[j]? = some (.int .i64 ((cfL c).getD j 0)) := by
  obtain ⟨A, T, N, L, B, P, S⟩ := c
  rcases (show j = 0 ∨ j = 1 ∨ j = 2 ∨ j = 3 ∨ j = 4 ∨ j = 5 ∨ j = 6 by omega) with rfl | rfl | rfl | rfl | rfl | rfl | rfl <;> rfl
theorem cfL_take (c : Cf) (j : Nat) (hj : j < 7) : (cfL c).take (j + 1) = (cfL c).take j ++ [(cfL c).getD j 0] := by
  obtain ⟨A, T, N, L, B, P, S⟩ := c
  rcases (show j = 0 ∨ j = 1 ∨ j = 2 ∨ j = 3 ∨ j = 4 ∨ j = 5 ∨ j = 6 by omega) with rfl | rfl | rfl | rfl | rfl | rfl | rfl <;> rfl
set_option maxRecDepth 10000 in
theorem code_c (c : Cf) (hr : rightC c) (w : World) : Fn Try.prog 19 #[.agg (cf7 c)] w fun v w' => Sl w' 5 1 v 7 ((cfL c).map (.int .u8)) ∧ Upd [] w w' := by
  refine fn_enter Try.func19 rfl rfl ?_
  refine bx fun w1 hb1 hu1 hs1 => ?_
  have hb1 : Blk w1 w.heap.size 23 (cf7 c) := hb1
  refine ldw hb1 (cf7_len _) ?_
  refine cl (check_c c _) ?_
  rintro _ w2 ⟨rfl, hu2⟩
  rw [show errC c = 0 from if_pos hr]
  refine ldw (hb1.upd hu2 (by simp)) (cf7_len _) ?_
  refine cl (of_c c _) ?_
  rintro _ w3 ⟨rfl, hu3⟩
  refine loop_rule [10] [11, 3] (fun vs w' m => ∃ (j : Nat) (v : Value), vs = [.int .i64 j, v] ∧ j ≤ 7 ∧ m = 7 - j ∧ Sl w' 5 1 v j (((cfL c).take j).map (.int .u8)) ∧ (∀ g, v.ownBlock = some g → w.heap.size ≤ g) ∧ Upd [] w w') rfl [.int .i64 0, .slice none 0 0] 7 rfl ⟨0, _, rfl, by omega, rfl, Sl.nil_ _ _ _, (fun g hg => by cases hg), (hu1.trans hu2).trans hu3⟩ ?_
  rintro _ w4 m ⟨j, v, rfl, hj, rfl, hs, ho, hU⟩
  refine cd (fun hlt => ?_) (fun hlt => ?_)
  · have hlt : j < 7 := by omega
    refine ixv j rfl hlt (cf7_get c j hlt) ?_
    refine cv ?_
    refine ar8 (cfL_at c hr j hlt) ?_
    refine bs #[.int .u8 ((cfL c).getD j 0)] (fun _ => by kernel_rfl) fun w5 hb5 hu5 hs5 => ?_
    refine app (hs.upd hu5 (by simp)) hb5 rfl rfl (by decide) (by simp [maxLen]; omega) (by omega) fun g off cap w6 hs6 hu6 hg => ?_
    refine ar64 (by omega) ?_
    refine round_mk [.int .i64 ((j + 1 : Nat) : Int), _] (7 - (j + 1)) rfl rfl ?_ (by omega)
    have z5 := hu5.size
    have zU := hU.size
    refine ⟨j + 1, _, rfl, by omega, rfl, ?_, ?_, (hU.trans hu5).step hu6 ?_⟩
    · rw [cfL_take c j hlt, List.map_append]; exact hs6
    · intro g' hg'
      have : g = g' := by simpa [Value.ownBlock] using hg'
      subst this
      rcases hg with h | h
      · exact ho _ h
      · omega
    · intro x hx
      exact .inr (ho x (by simpa using hx))
  · have hj : j = 7 := by omega
    subst hj
    have e : (cfL c).take 7 = cfL c := by obtain ⟨A, T, N, L, B, P, S⟩ := c; rfl
    rw [e] at hs
    exact ⟨hs, hU⟩

theorem slice_str {w : World} {v : Value} {xs : List Int} (h : Sl w 5 1 v 7 (xs.map (.int .u8))) {K : Value → World → Prop} (k : K (.string (strOfNums xs)) w) : RunP Try.prog (convert 29 9 v) K w := by
  obtain ⟨g, o, c, rfl, -⟩ := h.some_ (by decide)
  have hl : xs.length = 7 := by have := h.1; simpa using this
  exact cvb xs hl (h.bytes rfl) k
theorem zeq {w : World} {x y : Operand} : RunP Try.prog (binSem .eql 23 x y (.agg (cf7 zC)) (.agg (cf7 zC))) (fun v' w' => v' = .bool true ∧ w' = w) w := eqq zC
set_option maxRecDepth 100000 in
set_option maxHeartbeats 2000000 in
theorem codes_c (v : Value) (l : List Int) (w : World) (hv : Bts w v l) : Fn Try.prog 4 #[v] w fun r w' => r = .bool true ∧ Upd [] w w' := by
  obtain ⟨a, cap, rfl, hcap⟩ := hv.form
  refine fn_enter Try.func4 rfl rfl ?_
  refine len_sl ?_
  have out : ∀ {w2 : World} {K : Value → World → Prop}, Upd [] w w2 → (∀ w3, Upd [] w w3 → K (.bool true) w3) → CallP Try.prog 17 #[] K w2 := fun hu hk => cl (lives_c _) (by rintro _ w3 ⟨rfl, h⟩; exact hk _ (hu.trans h))
  refine cd (fun h2 => ?_) (fun h2 => ?_)
  · exact out (Upd.refl _ _) fun w3 h => ⟨rfl, h⟩
  refine cl (decode_c _ l w hv) ?_
  rintro _ w1 ⟨rfl, hu1⟩
  refine al #[.int .i64 0, .int .i64 0, .int .i64 0, .int .i64 0, .int .i64 0, .int .i64 0, .int .i64 0] (fun _ => by kernel_rfl) fun w2 hb2 hu2 hs2 => ?_
  have z1 := hu1.size
  refine stw hb2 rfl (cf7_len _) (cf7_one _) fun w3 hb3 hu3 hs3 => ?_
  have hU3 := (hu1.trans hu2).step hu3 (by simp; omega)
  generalize w1.heap.size = q at *
  refine len_sl ?_
  refine cd (fun h7 => ?_) (fun h7 => ?_)
  · have h7 : l.length < 7 := by omega
    rw [if_pos h7] at hb3 ⊢
    refine ldw hb3 rfl ?_
    refine bd (cf7 zC) (fun _ => by kernel_rfl) ?_
    refine aq (fits_cf zC) (fits_cf zC) ?_
    rw [eq_cf]
    exact out hU3 fun w3 h => ⟨rfl, h⟩
  have h7 : ¬ l.length < 7 := by omega
  rw [if_neg h7] at hb3 ⊢
  obtain ⟨b, o, cap', he, hcap', hc⟩ := hv.some_ (by omega)
  cases he
  have hby : ∀ i, i < 7 → ∀ w', Upd [] w3 w' → w'.cell? ⟨b, o + i * 1, none⟩ = some (.int .u8 (l.getD i 0)) := fun i hi w' hw' => by
    obtain ⟨b1, o1, c1, e1, -, h⟩ := (hv.upd (hU3.trans hw')).some_ (by omega)
    cases e1
    exact h i (by omega)
  have hb := fun i (hi : i < 7) => hv.byte i (by omega)
  refine draw_mix 30 [(0, true), (1, true), (2, true), (3, true), (4, true), (5, true), (6, true), (7, true), (8, true), (9, true), (10, true), (11, true), (12, true), (13, true), (14, true), (15, true), (16, true), (17, true), (18, true), (19, true), (20, true), (21, true), (22, true), (23, true), (24, true), (25, true), (26, true), (27, true), (28, true), (29, false)] (fun w' => Upd [] w3 w') (by decide +kernel) (Upd.refl _ _).drew ?_
  refine q_ix 0 rfl (by omega) ?_
  refine q_ld (v := .int .u8 (l.getD 0 0)) (hby 0 (by decide)) ?_
  refine rq (.int .i64 (l.getD 0 0)) (fun w' _ => cv (ar64 (by have := hb 0 (by decide); omega) ⟨rfl, rfl⟩)) ?_
  refine q_ix 1 rfl (by omega) ?_
  refine q_ld (v := .int .u8 (l.getD 1 0)) (hby 1 (by decide)) ?_
  refine rq (.int .i64 (l.getD 1 0)) (fun w' _ => cv (ar64 (by have := hb 1 (by decide); omega) ⟨rfl, rfl⟩)) ?_
  refine q_ix 2 rfl (by omega) ?_
  refine q_ld (v := .int .u8 (l.getD 2 0)) (hby 2 (by decide)) ?_
  refine rq (.int .i64 (l.getD 2 0)) (fun w' _ => cv (ar64 (by have := hb 2 (by decide); omega) ⟨rfl, rfl⟩)) ?_
  refine q_ix 3 rfl (by omega) ?_
  refine q_ld (v := .int .u8 (l.getD 3 0)) (hby 3 (by decide)) ?_
  refine rq (.int .i64 (l.getD 3 0)) (fun w' _ => cv (ar64 (by have := hb 3 (by decide); omega) ⟨rfl, rfl⟩)) ?_
  refine q_ix 4 rfl (by omega) ?_
  refine q_ld (v := .int .u8 (l.getD 4 0)) (hby 4 (by decide)) ?_
  refine rq (.int .i64 (l.getD 4 0)) (fun w' _ => cv (ar64 (by have := hb 4 (by decide); omega) ⟨rfl, rfl⟩)) ?_
  refine q_ix 5 rfl (by omega) ?_
  refine q_ld (v := .int .u8 (l.getD 5 0)) (hby 5 (by decide)) ?_
  refine rq (.int .i64 (l.getD 5 0)) (fun w' _ => cv (ar64 (by have := hb 5 (by decide); omega) ⟨rfl, rfl⟩)) ?_
  refine q_ix 6 rfl (by omega) ?_
  refine q_ld (v := .int .u8 (l.getD 6 0)) (hby 6 (by decide)) ?_
  refine rq (.int .i64 (l.getD 6 0)) (fun w' _ => cv (ar64 (by have := hb 6 (by decide); omega) ⟨rfl, rfl⟩)) ?_
  refine rq (.agg (cf7 (cfOf l))) (fun w' _ => bd _ (fun _ => by kernel_rfl) ⟨rfl, rfl⟩) ?_
  refine al #[.int .i64 0, .int .i64 0, .int .i64 0, .int .i64 0, .int .i64 0, .int .i64 0, .int .i64 0] (fun _ => by kernel_rfl) fun w4 hb4 hu4 hs4 => ?_
  refine ⟨(Upd.refl [] w3).drew.trans hu4, ?_⟩
  refine stw hb4 rfl rfl rfl fun w5 hb5 hu5 hs5 => ?_
  have hq : q < w3.heap.size := hb3.lt
  have hU5 : Upd [] w w5 := (hU3.drew.trans hu4).step hu5 (by have := hU3.size; simp; omega)
  have hp5 := (hb3.drew.upd hu4 (by simp)).upd hu5 (by simp; omega)
  have hb5 : Blk w5 w3.heap.size 23 (cf7 (cfOf l)) := hb5
  refine ldw hb5 (cf7_len _) ?_
  refine cl (right_c (cfOf l) _) ?_
  rintro _ w6 ⟨rfl, hu6⟩
  have hU6 := hU5.trans hu6
  refine cd (fun hr => ?_) (fun hr => ?_)
  · have hr : ¬ rightC (cfOf l) := by simpa using hr
    rw [if_neg hr] at hp5
    rw [show errC (cfOf l) = 6 from if_neg hr]
    refine ldw (hp5.upd hu6 (by simp)) (cf7_len _) ?_
    refine bd (cf7 zC) (fun _ => by kernel_rfl) ?_
    refine aq (fits_cf zC) (fits_cf zC) ?_
    rw [eq_cf]
    exact out hU6 fun w3 h => ⟨rfl, h⟩
  · have hr : rightC (cfOf l) := by simpa using hr
    rw [if_pos hr] at hp5
    rw [show errC (cfOf l) = 0 from if_pos hr]
    have hp6 := hp5.upd hu6 (by simp)
    have hc6 := hb5.upd hu6 (by simp)
    have lc : ∀ g w', Blk w6 g 23 (cf7 (cfOf l)) → Upd [] w6 w' → RunP Try.prog (Instr.loadAt 23 (.pointer (some ⟨g, 0, none⟩))) (fun v w'' => v = .agg (cf7 (cfOf l)) ∧ w'' = w') w' := fun g w' hg hw' => ldw (hg.upd hw' (by simp)) (cf7_len _) ⟨rfl, rfl⟩
    have hbs : ∀ i, i < 7 → ∀ w', Upd [] w6 w' → w'.cell? ⟨b, o + i, none⟩ = some (.int .u8 ((cfL (cfOf l)).getD i 0)) := fun i hi w' hw' => by
      obtain ⟨b1, o1, c1, e1, -, h⟩ := (hv.upd (hU6.trans hw')).some_ (by omega)
      cases e1
      have h1 := h i (by omega)
      rw [Nat.mul_one] at h1
      rw [h1]
      rcases (show i = 0 ∨ i = 1 ∨ i = 2 ∨ i = 3 ∨ i = 4 ∨ i = 5 ∨ i = 6 by omega) with rfl | rfl | rfl | rfl | rfl | rfl | rfl <;> rfl
    refine draw_mix 19 [(0, true), (1, true), (2, true), (3, true), (4, true), (5, true), (6, true), (7, true), (8, true), (11, true), (12, true), (13, true), (9, false), (10, false), (14, false), (15, false), (16, false), (17, false), (18, false)] (fun w' => Upd [] w6 w') (by decide +kernel) (Upd.refl _ _).drew ?_
    refine rq (.agg (cf7 (cfOf l))) (fun w' hw' => lc _ _ hp6 hw') ?_
    refine rq (.agg (cf7 (cfOf l))) (fun w' hw' => lc _ _ hc6 hw') ?_
    refine rq (.bool true) (fun _ _ => eqq _) ?_
    refine rq (.agg (cf7 (cfOf l))) (fun w' hw' => lc _ _ hp6 hw') ?_
    refine q_hi 7 rfl (by omega) ?_
    refine rq (.string (strOfNums (cfL (cfOf l)))) (fun w' hw' => cvb _ rfl (fun i hi => hbs i hi w' hw') ⟨rfl, rfl⟩) ?_
    refine cl (code_c (cfOf l) hr _) ?_
    rintro v7 w7 ⟨hs7, hu7⟩
    have hU7 : Upd [] w6 w7 := (Upd.refl [] w6).drew.trans hu7
    refine ⟨hU7, ?_⟩
    refine slice_str hs7 ?_
    refine ⟨hU7, ?_⟩
    refine ⟨hU7, ?_⟩
    rw [show ((strOfNums (cfL (cfOf l))).toList == (strOfNums (cfL (cfOf l))).toList) = true by simp]
    refine ⟨hU7, ?_⟩
    refine ⟨hU7, ?_⟩
    refine cl (lives_c _) ?_
    rintro _ w8 ⟨rfl, hu8⟩
    refine ⟨hU7.trans hu8, ?_⟩
    refine ⟨hU7.trans hu8, ?_⟩
    exact ⟨rfl, hU6.trans (hU7.trans hu8)⟩
theorem ConfCodes_walk (w : World) (v : Value) (ls : List (List Int)) (h : SlRows w w.heap.size [.u8] v ls) :
    Calls Try.prog 4 #[v] w fun e w' => e = .returned (.bool true) ∧ Below w.heap.size w w' :=
  (codes_c v _ w ⟨h.ints⟩).mono fun _ _ ⟨_, he, hv, hu⟩ => ⟨by rw [he, hv], hu.below⟩
end Go.Proofs.Ytejofmohpjffkaa.K
