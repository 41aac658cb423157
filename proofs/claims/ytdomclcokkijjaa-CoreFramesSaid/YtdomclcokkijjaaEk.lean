/- The law CoreFrames. -/
import Derived.Test.YtdomclcokkijjaaEj
import Derived.Test.YtdomclcokkijjaaArgs
namespace Go.Proofs.Ytdomclcokkijjaa
open Go.RowKit
attribute [local irreducible] Instr.loadAt Instr.storeAt Instr.fieldAt Instr.indexAt Instr.sliceAt Instr.buildSlice Instr.box Instr.alloc Builtin.append_ Builtin.len_ Builtin.min_ Builtin.max_ Calls Instr.build Instr.makeSlice binSem convert Instr.index Instr.range Instr.next
def frsL (fns : List Int) (l : List Int) (i : Nat) : List Fr := (fns.take i).map fun fn => ⟨fn, 0, l⟩
theorem frsL_succ (fns l : List Int) (i : Nat) (h : i < fns.length) : frsL fns l (i + 1) = frsL fns l i ++ [⟨fns.getD i 0, 0, l⟩] := by
  unfold frsL
  rw [getD_take fns i h, List.map_append]; rfl
theorem frsL_len (fns l : List Int) (i : Nat) (h : i ≤ fns.length) : (frsL fns l i).length = i := by simp [frsL]; omega
abbrev nl : Value := .slice none 0 0
structure FrI (w0 w : World) (g : Nat) (fv : Value) (fs : List Fr) (r : Int × Int × Int) : Prop where
  t : IsThr w g 0 fv fs r nl nl nl nl nl
  up : Upd [] w0 w
  f1 : w0.heap.size ≤ g
  f2 : ∀ q, fv.ownBlock = some q → w0.heap.size ≤ q
theorem FrI.upd0 {w0 w w' : World} {g : Nat} {fv : Value} {fs : List Fr} {r : Int × Int × Int} (h : FrI w0 w g fv fs r) (hu : Upd [] w w') : FrI w0 w' g fv fs r := ⟨h.t.upd0 hu, h.up.trans hu, h.f1, h.f2⟩
theorem FrI.drew_ {w0 w : World} {g : Nat} {fv : Value} {fs : List Fr} {r : Int × Int × Int} (h : FrI w0 w g fv fs r) : FrI w0 w.drew g fv fs r := h.upd0 (Upd.refl [] w).drew
theorem regs_at (f : Fr) (k : Nat) (hk : k < 10) : (frC f)[2 + k]? = some (.int .u64 (f.R.getD k 0)) := by
  rw [show 2 + k = k + 1 + 1 by omega]
  show (regsC 10 f.R)[k]? = _
  simp [regsC, hk]
set_option maxRecDepth 100000 in
theorem frames_law {w : World} {v1 v2 v3 : Value} {fns l ret : List Int} (h1 : RdK w .i64 v1 fns) (h2 : RdK w .u64 v2 l) (h3 : RdK w .u64 v3 ret) : Fn Try.prog 3 #[v1, v2, v3] w fun r w' => r = .bool true ∧ Upd [] w w' := by
  obtain ⟨a1, c1, hv1, -⟩ := h1.form
  obtain ⟨a2, c2, hv2, -⟩ := h2.form
  obtain ⟨a3, c3, hv3, -⟩ := h3.form
  subst hv1; subst hv2; subst hv3
  refine fn_enter Try.func3 rfl rfl ?_
  refine len_sl ?_
  have early : Fn Try.prog 15 #[] w fun r w' => r = .bool true ∧ Upd [] w w' := lives16 w
  by_cases q1 : (fns.length : Int) > 200
  · refine cY q1 ?_
    refine cl early ?_
    rintro _ w1 ⟨rfl, hu1⟩
    exact ⟨rfl, hu1⟩
  refine cN q1 ?_
  refine len_sl ?_
  by_cases q2 : (l.length : Int) > 100
  · refine cY q2 ?_
    refine cl early ?_
    rintro _ w1 ⟨rfl, hu1⟩
    exact ⟨rfl, hu1⟩
  refine cN q2 ?_
  refine len_sl ?_
  by_cases q3 : (ret.length : Int) > 100
  · refine cY q3 ?_
    refine cl early ?_
    rintro _ w1 ⟨rfl, hu1⟩
    exact ⟨rfl, hu1⟩
  refine cN q3 ?_
  refine bd (thrC 0 nl (0, 0, 0) nl nl nl nl nl) (fun _ => by kernel_rfl) ?_
  refine bx fun w1 hb1 hu1 hs1 => ?_
  have I1 : FrI w w1 w.heap.size nl [] (0, 0, 0) := ⟨⟨hb1, Sl.nil_ _ _ _⟩, hu1, Nat.le_refl _, by simp [Value.ownBlock]⟩
  generalize w.heap.size = g at I1
  refine cl (push_nil 1 (.slice none 0 0) w1) ?_
  rintro _ _ rfl
  refine cl (pop_nil (.slice none 0 0) _) ?_
  rintro _ _ rfl
  refine cl (top_nil _) ?_
  rintro _ _ ⟨rfl, rfl⟩
  refine ptr_ne0 ?_
  refine cl (top_none I1.t) ?_
  rintro _ _ ⟨rfl, rfl⟩
  refine ptr_ne0 ?_
  rename_i w1
  refine loop_rule [0, 1, 2, 7] [9] (fun vs w' m => ∃ (i : Nat) (fv : Value), vs = [.int .i64 (i : Int)] ∧ i ≤ fns.length ∧ m = fns.length - i ∧ FrI w w' g fv (frsL fns l i) (0, 0, 0)) rfl [.int .i64 0] fns.length rfl
    ⟨0, _, rfl, by omega, rfl, I1⟩ ?_
  rintro _ w2 m ⟨i, fv, rfl, hi, rfl, I2⟩
  refine len_sl ?_
  refine cd (fun hlt => ?_) (fun hlt => ?_)
  · have hlt : i < fns.length := by omega
    obtain ⟨fnb, fno, fnc, he, -⟩ := h1.some_ (by omega)
    cases he
    refine ix i rfl hlt ?_
    refine ld ((h1.upd0 I2.up).at_ rfl i hlt) ?_
    have hfl := frsL_len fns l i hi
    refine cl (push_c I2.t (by omega) (h2.upd0 I2.up) (by omega) (fns.getD i 0)) ?_
    rintro _ w3 ⟨fv3, ht3, hu3, hf3⟩
    rw [← frsL_succ fns l i hlt] at ht3
    have I3 : FrI w w3 g fv3 (frsL fns l (i + 1)) (0, 0, 0) := ⟨ht3, I2.up.step hu3 (fun q hq => .inr (by
      rcases List.mem_cons.1 hq with h | h
      · rw [h]; exact I2.f1
      · exact I2.f2 q (by simpa using h))), I2.f1, fun q hq => by
      rcases hf3 q hq with h | h
      · exact I2.f2 q h
      · have := I2.up.size; omega⟩
    have hfl3 := frsL_len fns l (i + 1) (by omega)
    obtain ⟨fb, fo, fc, rfl, -⟩ := I3.t.fr.some_ (by omega)
    have ht3 := I3.t
    rw [frsL_succ fns l i hlt] at ht3
    refine cl (top_c ht3 (by omega)) ?_
    rintro _ _ ⟨rfl, rfl⟩
    have hu34 : Upd [] w3 w3.drew := (Upd.refl [] w3).drew
    have I4 := I3.upd0 hu34
    have ht4 := ht3.upd0 hu34
    rw [hfl]
    have hfl3' : (frsL fns l i ++ [(⟨fns.getD i 0, 0, l⟩ : Fr)]).length = i + 1 := by rw [← frsL_succ fns l i hlt]; exact hfl3
    rw [hfl3'] at ht4
    rw [hfl3] at I4
    generalize w3.drew = w4 at *
    have htop : ∀ j, j < 12 → w4.cell? ⟨fb, fo + i * 12 + j, none⟩ = (frC ⟨fns.getD i 0, 0, l⟩)[j]? := fun j hj => by
      have := ht4.top j hj
      rw [hfl] at this; exact this
    have htop' : ∀ j, j < 12 → w4.drew.cell? ⟨fb, fo + i * 12 + j, none⟩ = (frC ⟨fns.getD i 0, 0, l⟩)[j]? := htop
    refine draw_all (fun w' => w' = w4.drew) (by decide +kernel) rfl ?_
    refine rq (.bool false) (fun _ _ => ptr_eq ⟨rfl, rfl⟩) ?_
    refine q_fa ?_
    refine q_ld (v := .int .i64 (fns.getD i 0)) (by rintro _ rfl; exact htop' 0 (by omega)) ?_
    refine q_ix i rfl hlt ?_
    refine q_ld (v := .int .i64 (fns.getD i 0)) (by rintro _ rfl; exact (h1.upd0 I4.up.drew).at_ rfl i hlt) ?_
    refine cN (by simp) ?_
    refine q_fa ?_
    refine q_ld (v := .int .i64 0) (by rintro _ rfl; exact htop' 1 (by omega)) ?_
    refine q_fa ?_
    refine q_ld (v := .slice (some ⟨fb, fo, none⟩) (i + 1) fc) (by rintro _ rfl; exact ht4.blk.drew.cell 1) ?_
    refine q_len ?_
    refine q_ar64 (by omega) ?_
    rintro _ rfl
    refine cN (by simp) ?_
    have I5 := I4.drew_
    have htop5 : ∀ k, k < 10 → w4.drew.cell? ⟨fb, fo + i * 12 + 2 + k * 1, none⟩ = some (.int .u64 (l.getD k 0)) := fun k hk => by
      rw [Nat.mul_one, Nat.add_assoc, htop' (2 + k) (by omega)]
      exact regs_at ⟨fns.getD i 0, 0, l⟩ k hk
    generalize w4.drew = w5 at *
    refine loop_rule [0, 1, 2, 7, 9, 10] [11] (fun vs w' m => ∃ k : Nat, vs = [.int .i64 (k : Int)] ∧ k ≤ 10 ∧ m = 10 - k ∧ w' = w5) rfl [.int .i64 0] 10 rfl ⟨0, rfl, by omega, rfl, rfl⟩ ?_
    rintro _ _ m ⟨k, rfl, hk, rfl, rfl⟩
    refine cd (fun hk10 => ?_) (fun hk10 => ?_)
    · refine len_sl ?_
      refine cd (fun hkl => ?_) (fun hkl => ?_)
      · have hkl : k < l.length := by omega
        obtain ⟨lb, lo, lc, he, -⟩ := h2.some_ (by omega)
        cases he
        refine ix k rfl hkl ?_
        refine ld ((h2.upd0 I5.up).at_ rfl k hkl) ?_
        refine fa ?_
        refine ixA k rfl (by omega) ?_
        refine ld (htop5 k (by omega)) ?_
        refine cN (by simp) ?_
        refine ar64 (by omega) ?_
        exact round_mk [.int .i64 ((k + 1 : Nat) : Int)] (10 - (k + 1)) rfl rfl ⟨k + 1, rfl, by omega, rfl, rfl⟩ (by omega)
      · have hg0 : l.getD k 0 = 0 := by rw [List.getD_eq_getElem?_getD, List.getElem?_eq_none (by omega)]; rfl
        refine fa ?_
        refine ixA k rfl (by omega) ?_
        refine ld (htop5 k (by omega)) ?_
        refine cN (by rw [hg0]; simp) ?_
        refine ar64 (by omega) ?_
        exact round_mk [.int .i64 ((k + 1 : Nat) : Int)] (10 - (k + 1)) rfl rfl ⟨k + 1, rfl, by omega, rfl, rfl⟩ (by omega)
    · refine ar64 (by omega) ?_
      exact round_mk [.int .i64 ((i + 1 : Nat) : Int)] (fns.length - (i + 1)) rfl rfl ⟨i + 1, _, rfl, by omega, rfl, I5⟩ (by omega)
  have hi : i = fns.length := by omega
  subst hi
  refine len_sl ?_
  refine ar64 (by omega) ?_
  refine loop_rule [0, 1, 2, 7] [13] (fun vs w' m => ∃ (i : Nat) (fv : Value) (r : Int × Int × Int), vs = [.int .i64 ((i : Int) - 1)] ∧ i ≤ fns.length ∧ i = m ∧ FrI w w' g fv (frsL fns l i) r) rfl [.int .i64 ((fns.length : Int) - 1)] fns.length rfl
    ⟨fns.length, _, _, rfl, by omega, rfl, I2⟩ ?_
  rintro _ w3 m ⟨i, fv, r, rfl, hi, rfl, I3⟩
  refine cd (fun hge => ?_) (fun hge => ?_)
  · obtain ⟨j, rfl⟩ : ∃ j, i = j + 1 := ⟨i - 1, by omega⟩
    have hj : j < fns.length := by omega
    have hfl := frsL_len fns l j (by omega)
    have hfl1 := frsL_len fns l (j + 1) hi
    obtain ⟨fnb, fno, fnc, he, -⟩ := h1.some_ (by omega)
    cases he
    obtain ⟨fb, fo, fc, rfl, -⟩ := I3.t.fr.some_ (by omega)
    have ht3 := I3.t
    rw [frsL_succ fns l j hj] at ht3
    have hcl : ∀ w', Upd [] w3 w' → Fn Try.prog 18 #[ptrV g] w' fun r w'' => r = .pointer (some ⟨fb, fo + (frsL fns l j).length * 12, none⟩) ∧ Upd [] w3 w'' := fun w' hw' =>
      (top_c (ht3.upd0 hw') (by omega)).mono fun _ _ ⟨u, he, h1, h2⟩ => ⟨u, he, h1, by rw [h2]; exact hw'.drew⟩
    refine draw_all (fun w' => Upd [] w3 w') (by decide +kernel) (Upd.refl [] w3).drew ?_
    refine q_cl (.pointer (some ⟨fb, fo + (frsL fns l j).length * 12, none⟩)) hcl ?_
    refine rq (.bool false) (fun _ _ => ptr_eq ⟨rfl, rfl⟩) ?_
    refine q_cl (.pointer (some ⟨fb, fo + (frsL fns l j).length * 12, none⟩)) hcl ?_
    refine q_fa ?_
    refine q_ld (v := .int .i64 (fns.getD j 0)) (fun w' hw' => (ht3.upd0 hw').top 0 (by omega)) ?_
    refine q_ix j (by omega) hj ?_
    refine q_ld (v := .int .i64 (fns.getD j 0)) (fun w' hw' => (h1.upd0 (I3.up.trans hw')).at_ rfl j hj) ?_
    rintro w4 hw4
    refine cN (by simp) ?_
    have ht4 := ht3.upd0 hw4
    have hU4 := I3.up.trans hw4
    refine cl (pop_c ht4 (by omega) (fun w' hw' => h3.upd0 (hU4.step hw' (by simp; exact I3.f1)))) ?_
    rintro _ w5 ⟨fv5, ht5, hu5, ho5⟩
    have I5 : FrI w w5 g fv5 (frsL fns l j) (ret.getD 0 0, ret.getD 1 0, ret.getD 2 0) := ⟨ht5, hU4.step hu5 (by simp; exact I3.f1), I3.f1, fun q hq => by
      rw [ho5] at hq
      exact I3.f2 q hq⟩
    have hret : ∀ k, k < 3 → w5.cell? ⟨g, 0 + 2 + k * 1, none⟩ = some (.int .u64 (ret.getD k 0)) := fun k hk => by
      rw [ht5.blk.cell]
      rcases (show k = 0 ∨ k = 1 ∨ k = 2 by omega) with rfl | rfl | rfl <;> rfl
    refine loop_rule [0, 1, 2, 7, 13] [14] (fun vs w' m => ∃ k : Nat, vs = [.int .i64 (k : Int)] ∧ k ≤ 3 ∧ m = 3 - k ∧ w' = w5) rfl [.int .i64 0] 3 rfl ⟨0, rfl, by omega, rfl, rfl⟩ ?_
    rintro _ _ m ⟨k, rfl, hk, rfl, rfl⟩
    refine cd (fun hk10 => ?_) (fun hk10 => ?_)
    · refine len_sl ?_
      refine cd (fun hkl => ?_) (fun hkl => ?_)
      · have hkl : k < ret.length := by omega
        obtain ⟨lb, lo, lc, he, -⟩ := h3.some_ (by omega)
        cases he
        refine ix k rfl hkl ?_
        refine ld ((h3.upd0 I5.up).at_ rfl k hkl) ?_
        refine fa ?_
        refine ixA k rfl (by omega) ?_
        refine ld (hret k (by omega)) ?_
        refine cN (by simp) ?_
        refine ar64 (by omega) ?_
        exact round_mk [.int .i64 ((k + 1 : Nat) : Int)] (3 - (k + 1)) rfl rfl ⟨k + 1, rfl, by omega, rfl, rfl⟩ (by omega)
      · have hg0 : ret.getD k 0 = 0 := by rw [List.getD_eq_getElem?_getD, List.getElem?_eq_none (by omega)]; rfl
        refine fa ?_
        refine ixA k rfl (by omega) ?_
        refine ld (hret k (by omega)) ?_
        refine cN (by rw [hg0]; simp) ?_
        refine ar64 (by omega) ?_
        exact round_mk [.int .i64 ((k + 1 : Nat) : Int)] (3 - (k + 1)) rfl rfl ⟨k + 1, rfl, by omega, rfl, rfl⟩ (by omega)
    · refine val ((j : Int) - 1) (by rw [IntWalk.i64_in _ (by omega)]; omega) ?_
      exact round_mk [.int .i64 ((j : Int) - 1)] j rfl rfl ⟨j, _, _, rfl, by omega, rfl, I5⟩ (by omega)
  have hi0 : i = 0 := by omega
  subst hi0
  refine cl (top_none I3.t) ?_
  rintro _ _ ⟨rfl, rfl⟩
  refine ptr_eq0 ?_
  refine cl (lives16 _) ?_
  rintro _ w4 ⟨rfl, hu4⟩
  exact ⟨rfl, I3.up.trans hu4⟩
theorem CoreFrames_walk (w : World) (v1 : Value) (l1 : List (List Int)) (h1 : SlRows w w.heap.size [.i64] v1 l1) (v2 : Value) (l2 : List (List Int)) (h2 : SlRows w w.heap.size [.u64] v2 l2) (v3 : Value) (l3 : List (List Int)) (h3 : SlRows w w.heap.size [.u64] v3 l3) :
    Calls Try.prog 3 #[v1, v2, v3] w fun e w' => e = .returned (.bool true) ∧ Below w.heap.size w w' :=
  (frames_law (RdK.of_ints h1.ints (Nat.le_refl _)) (RdK.of_ints h2.ints (Nat.le_refl _)) (RdK.of_ints h3.ints (Nat.le_refl _))).mono fun _ _ ⟨_, he, hv, hu⟩ => ⟨by rw [he, hv], hu.below⟩
end Go.Proofs.Ytdomclcokkijjaa
