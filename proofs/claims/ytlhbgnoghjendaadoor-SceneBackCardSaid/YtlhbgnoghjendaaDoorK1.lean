/- Joined: Wf Wg Wh Wi Wj Wk Wl Wm Wn Wo Xa Xb Xc Xd Xl Xe. -/
import Derived.Test.YtlhbgnoghjendaaDoorWe
import Derived.Test.YtlhbgnoghjendaaDoorV17
import Derived.Test.YtlhbgnoghjendaaDoorUi
/- Scenes: numbers, rows of picks, how a text begins: the program's and the reference's. -/
namespace Go.Proofs.YtlhbgnoghjendaaDoor
open Go.RowKit
attribute [local irreducible] Instr.loadAt Instr.storeAt Instr.fieldAt Instr.indexAt Instr.sliceAt Instr.buildSlice Instr.box Instr.alloc Builtin.append_ Builtin.len_ Builtin.min_ Builtin.max_ Calls Instr.build Instr.makeSlice binSem convert Instr.index Instr.range Instr.next
theorem snum_c (l : List UInt8) (hl : l.length ≤ 1000000) (h32 : (32 : UInt8) ∉ l) (w : World) : Fn Tryd.prog 83 #[.string (by8 l)] w fun r w' => (∃ n b, r = .tuple #[.int .i64 n, .bool b] ∧ NumR l n b ∧ 0 ≤ n ∧ n < 4294967296) ∧ Upd [] w w' := by
  refine fn_enter Tryd.func83 rfl rfl ?_
  refine sadd (b := by8 [32, 48]) (by rw [by8_size, by8_size]; simp; omega) ?_
  rw [str_by_add]
  refine cl (read_c (l ++ [32, 48]) (by simp; omega) w) ?_
  rintro _ w1 ⟨rfl, hu1⟩
  cases hy : readR (l ++ [32, 48]) with
  | none =>
    refine al z3 (fun _ => by kernel_rfl) fun w2 hb2 hu2 hs2 => ?_
    refine stw hb2 rfl rfl rfl fun w3 hb3 hu3 hs3 => ?_
    have hU3 := (hu1.trans hu2).step hu3 (by have := hu1.size; simp; omega)
    refine draw_all (fun w' => Upd [] w3 w') (by decide +kernel) (Upd.refl _ _).drew ?_
    refine q_fa ?_
    refine q_ld (v := .int .u32 0) (fun w' hw' => (hb3.upd hw' (by simp)).cell 1) ?_
    refine rq (.int .i64 0) (fun _ _ => cv (ar64 (by omega) ⟨rfl, rfl⟩)) ?_
    intro w4 hu4
    refine ⟨⟨_, _, rfl, ⟨fun h => (by cases h), fun k hk he => ?_⟩, by omega, by omega⟩, hU3.trans hu4⟩
    rw [he, num_forth hk] at hy; cases hy
  | some p =>
    obtain ⟨o, k, v⟩ := p
    have hkv : ∃ kk : Nat, kk < 4294967296 ∧ k = kk := by
      unfold readR at hy
      split at hy
      · cases hy; exact ⟨0, by decide, rfl⟩
      · split at hy
        · cases hy; exact ⟨0, by decide, rfl⟩
        · split at hy
          · cases hy; exact ⟨0, by decide, rfl⟩
          · obtain ⟨⟨a, b⟩, hp, he⟩ := Option.map_eq_some_iff.1 hy
            cases he
            exact ⟨a, (pairOf_some hp).2.1, rfl⟩
    obtain ⟨kk, hkk, rfl⟩ := hkv
    refine al z3 (fun _ => by kernel_rfl) fun w2 hb2 hu2 hs2 => ?_
    refine stw hb2 rfl rfl rfl fun w3 hb3 hu3 hs3 => ?_
    have hU3 := (hu1.trans hu2).step hu3 (by have := hu1.size; simp; omega)
    refine draw_all (fun w' => Upd [] w3 w') (by decide +kernel) (Upd.refl _ _).drew ?_
    refine q_fa ?_
    refine q_ld (v := .int .u32 (kk : Int)) (fun w' hw' => (hb3.upd hw' (by simp)).cell 1) ?_
    refine rq (.int .i64 (kk : Int)) (fun _ _ => cv (ar64 (by omega) ⟨rfl, rfl⟩)) ?_
    refine q_fa ?_
    refine q_ld (v := .int .i64 o) (fun w' hw' => (hb3.upd hw' (by simp)).cell 0) ?_
    by_cases ho : o = 2
    · refine cY ho ?_
      refine q_cl (.bool false) (fun w' hw' => (contains_g l 32 w').mono fun _ _ ⟨u, he, h1, h2⟩ => ⟨u, he, by rw [h1, decide_eq_false h32], by rw [h2]; exact hw'⟩) ?_
      intro w4 hu4
      refine ⟨⟨_, _, rfl, ⟨fun h => ?_, fun k hk he => ?_⟩, by omega, by omega⟩, hU3.trans hu4⟩
      · obtain ⟨n, h1, h2, h3⟩ := num_back h32 hy ho
        exact ⟨n, h1, h2, h3⟩
      · rw [he, num_forth hk] at hy
        cases hy
        exact ⟨rfl, rfl⟩
    · refine cN ho ?_
      intro w4 hu4
      refine ⟨⟨_, _, rfl, ⟨fun h => (by cases h), fun k hk he => ?_⟩, by omega, by omega⟩, hU3.trans hu4⟩
      rw [he, num_forth hk] at hy
      cases hy
      exact absurd rfl ho
def RowIs (l : List UInt8) (t n : Nat) : Prop := t < 4294967296 ∧ 1 ≤ n ∧ n ≤ 60000 ∧ l = decU t ++ 120 :: decU n
theorem dec_noX (k : Nat) : (120 : UInt8) ∉ decU k := fun h => by
  have := List.all_eq_true.1 (decU_isD k) _ h
  exact absurd this (by decide)
/-- what row tells -/
structure RowR (l : List UInt8) (t n : Int) (b : Bool) : Prop where
  back : b = true → ∃ t' n' : Nat, t = t' ∧ n = n' ∧ RowIs l t' n'
  forth : ∀ t' n' : Nat, RowIs l t' n' → b = true ∧ t = t' ∧ n = n'
theorem RowIs.cut {l : List UInt8} {t n : Nat} (h : RowIs l t n) : cutC 120 l = some (decU t, decU n) := by rw [h.2.2.2]; exact cutC_app 120 _ _ (dec_noX t)
theorem row_c (l : List UInt8) (hl : l.length ≤ 900000) (h32 : (32 : UInt8) ∉ l) (w : World) : Fn Tryd.prog 61 #[.string (by8 l)] w fun r w' => (∃ t n b, r = .tuple #[.int .i64 t, .int .i64 n, .bool b] ∧ RowR l t n b) ∧ Upd [] w w' := by
  refine fn_enter Tryd.func61 rfl rfl ?_
  refine cl (cut_g l 120 (by omega) w) ?_
  rintro _ w1 ⟨rfl, hu1⟩
  unfold cutG
  cases hc : cutC 120 l with
  | none =>
    refine cl (snum_c l (by omega) h32 w1) ?_
    rintro _ w2 ⟨⟨t, bt, rfl, ht, -⟩, hu2⟩
    refine cl (snum_c [] (by simp) (by simp) w2) ?_
    rintro _ w3 ⟨⟨n, bn, rfl, hn, -⟩, hu3⟩
    refine ⟨⟨_, _, _, rfl, ⟨fun h => (by cases h), fun t' n' h => ?_⟩⟩, (hu1.trans hu2).trans hu3⟩
    rw [h.cut] at hc; cases hc
  | some p =>
    obtain ⟨a, b⟩ := p
    obtain ⟨-, h2, h3⟩ := cutC_some 120 l a b hc
    have hal : a.length + b.length ≤ l.length := by rw [h2, List.length_append, List.length_cons]; omega
    have ha32 : (32 : UInt8) ∉ a := fun h => h32 (by rw [h2]; simp [h])
    have hb32 : (32 : UInt8) ∉ b := fun h => h32 (by rw [h2]; simp [h])
    refine cl (snum_c a (by omega) ha32 w1) ?_
    rintro _ w2 ⟨⟨t, bt, rfl, ht, ht0, ht1⟩, hu2⟩
    refine cl (snum_c b (by omega) hb32 w2) ?_
    rintro _ w3 ⟨⟨n, bn, rfl, hn, hn0, hn1⟩, hu3⟩
    have hU3 := (hu1.trans hu2).trans hu3
    have hf : ∀ t' n' : Nat, RowIs l t' n' → (bt = true ∧ t = t') ∧ (bn = true ∧ n = n') ∧ 1 ≤ n ∧ n ≤ 60000 := fun t' n' h => by
      have hq := h.cut
      rw [hc] at hq
      injection hq with hq
      injection hq with e1 e2
      obtain ⟨h1, h4, h5, -⟩ := h
      have h6 := hn.forth n' (by omega) e2
      exact ⟨ht.forth t' h1 e1, h6, by omega, by omega⟩
    cases bt with
    | false => exact ⟨⟨_, _, _, rfl, ⟨fun h => (by cases h), fun t' n' h => by cases (hf t' n' h).1.1⟩⟩, hU3⟩
    | true =>
      cases bn with
      | false => exact ⟨⟨_, _, _, rfl, ⟨fun h => (by cases h), fun t' n' h => by cases (hf t' n' h).2.1.1⟩⟩, hU3⟩
      | true =>
        by_cases hn1' : n ≥ 1
        · refine cY hn1' ?_
          refine ⟨⟨_, _, _, rfl, ⟨fun h => ?_, fun t' n' h => ?_⟩⟩, hU3⟩
          · obtain ⟨t', e1, e2, e3⟩ := ht.back rfl
            obtain ⟨n', e4, e5, e6⟩ := hn.back rfl
            have h : n ≤ 60000 := by simpa using h
            exact ⟨t', n', e2, e5, e1, by omega, by omega, by rw [h2, e3, e6]⟩
          · have := hf t' n' h
            exact ⟨decide_eq_true this.2.2.2, this.1.2, this.2.1.2⟩
        · refine cN hn1' ?_
          exact ⟨⟨_, _, _, rfl, ⟨fun h => (by cases h), fun t' n' h => absurd (hf t' n' h).2.2.1 hn1'⟩⟩, hU3⟩
theorem begins_c (l p : List UInt8) (w : World) : Fn Tryd.prog 40 #[.string (by8 l), .string (by8 p)] w fun r w' => r = .bool (decide (l.take p.length = p)) ∧ w' = w := by
  refine fn_enter Tryd.func40 rfl rfl ?_
  refine len_str ?_
  refine len_str ?_
  have h1 := by8_size l
  have h2 := by8_size p
  by_cases h : (by8 l).size ≥ (by8 p).size
  · refine cY (show ((by8 l).size : Int) ≥ ((by8 p).size : Int) by omega) ?_
    refine len_str ?_
    refine s_hi p.length (by omega) (by omega) ?_
    refine ⟨?_, rfl⟩
    refine congrArg Value.bool ?_
    rw [ext_take, by8_list, by8_list]
    show (List.take p.length l == p) = _
    by_cases hq : List.take p.length l = p <;> simp [hq]
  · refine cN (show ¬ ((by8 l).size : Int) ≥ ((by8 p).size : Int) by omega) ?_
    refine ⟨?_, rfl⟩
    have : ¬ l.take p.length = p := fun hh => by
      have := congrArg List.length hh
      rw [List.length_take] at this
      omega
    rw [decide_eq_false this]; rfl
end Go.Proofs.YtlhbgnoghjendaaDoor

/- Scenes: the reference's numbers, words and lines. -/
namespace Go.Proofs.YtlhbgnoghjendaaDoor
open Go.RowKit
attribute [local irreducible] Instr.loadAt Instr.storeAt Instr.fieldAt Instr.indexAt Instr.sliceAt Instr.buildSlice Instr.box Instr.alloc Builtin.append_ Builtin.len_ Builtin.min_ Builtin.max_ Calls Instr.build Instr.makeSlice binSem convert Instr.index Instr.range Instr.next
/-- what the reference's number tells -/
def NumF (l : List UInt8) (r : Int) : Prop := (∃ k : Nat, k ≤ 100009 ∧ l = decU k ∧ r = k) ∨ ((∀ k : Nat, k ≤ 100009 → l ≠ decU k) ∧ r = -1)
theorem valL_app (a b : List UInt8) : valL a ≤ valL (a ++ b) := by
  unfold valL
  rw [List.foldl_append]
  have : ∀ (b : List UInt8) (n : Nat), n ≤ b.foldl (fun n c => 10 * n + (c.toNat - 48)) n := by
    intro b
    induction b with
    | nil => intro n; exact Nat.le_refl _
    | cons c b ih => intro n; rw [List.foldl_cons]; have := ih (10 * n + (c.toNat - 48)); omega
  exact this b _
theorem valL_take (l : List UInt8) (i : Nat) : valL (l.take i) ≤ valL l := by
  have := valL_app (l.take i) (l.drop i)
  rwa [List.take_append_drop] at this
set_option maxRecDepth 10000 in
theorem rnum_c (l : List UInt8) (hl : l.length ≤ 1000000) (w : World) : Fn Tryd.prog 85 #[.string (by8 l)] w fun r w' => (∃ n, r = .int .i64 n ∧ NumF l n) ∧ Upd [] w w' := by
  refine fn_enter Tryd.func85 rfl rfl ?_
  refine loop_rule [0] [3, 4] (fun vs w' m => ∃ i : Nat, vs = [.int .i64 (valL (l.take i) : Int), .int .i64 i] ∧ i ≤ l.length ∧ m = l.length - i ∧ valL (l.take i) ≤ 100009 ∧ w' = w) rfl [.int .i64 0, .int .i64 0] l.length rfl
    ⟨0, rfl, by omega, rfl, by simp [valL], rfl⟩ ?_
  rintro _ w1 m ⟨i, rfl, hi, rfl, hv, rfl⟩
  have hfin : ∀ k : Nat, l = decU k → valL l = k := fun k h => by rw [h]; exact decU_val k
  refine len_str ?_
  refine cd (fun hlt => ?_) (fun hlt => ?_)
  · rw [by8_size] at hlt
    have hlt : i < l.length := by omega
    have his : i < (by8 l).size := by rw [by8_size]; exact hlt
    have hmem : l.getD i 0 ∈ l := by simp [List.getD, hlt]
    have hnd : isD (l.getD i 0) = false → NumF l (-1) := fun h => by
      refine .inr ⟨fun k hk he => ?_, rfl⟩
      have := List.all_eq_true.1 (decU_isD k) (l.getD i 0) (by rw [← he]; exact hmem)
      rw [h] at this; cases this
    have hnot : ¬ (48 ≤ (l.getD i 0).toNat ∧ (l.getD i 0).toNat ≤ 57) → isD (l.getD i 0) = false := fun h => by
      cases hq : isD (l.getD i 0) with
      | false => rfl
      | true => exact absurd ((isD_iff _).1 hq) h
    refine ixs i rfl his ?_
    rw [by8_at]
    by_cases h48 : ((l.getD i 0).toNat : Int) < 48
    · refine cY h48 ?_
      exact ⟨⟨_, rfl, hnd (hnot (by omega))⟩, Upd.refl _ _⟩
    refine cN h48 ?_
    refine ixs i rfl his ?_
    rw [by8_at]
    by_cases h57 : ((l.getD i 0).toNat : Int) > 57
    · refine cY h57 ?_
      exact ⟨⟨_, rfl, hnd (hnot (by omega))⟩, Upd.refl _ _⟩
    refine cN h57 ?_
    have htk : valL (l.take (i + 1)) = 10 * valL (l.take i) + ((l.getD i 0).toNat - 48) := by rw [take_nextU l i hlt, valL_snoc]
    have hle := valL_take l (i + 1)
    refine cd (fun hb => ?_) (fun hb => ?_)
    · refine ⟨⟨_, rfl, .inr ⟨fun k hk he => ?_, rfl⟩⟩, Upd.refl _ _⟩
      have := hfin k he
      omega
    · refine ar64 (by omega) ?_
      refine ixs i rfl his ?_
      rw [by8_at]
      refine cv ?_
      refine ar64 (by omega) ?_
      refine ar64 (by omega) ?_
      refine ar64 (by omega) ?_
      refine ar64 (by omega) ?_
      exact round_mk [.int .i64 (valL (l.take (i + 1)) : Int), .int .i64 ((i + 1 : Nat) : Int)] (l.length - (i + 1)) rfl (by rw [htk, show ((10 * valL (l.take i) + ((l.getD i 0).toNat - 48) : Nat) : Int) = 10 * (valL (l.take i) : Int) + ((l.getD i 0).toNat : Int) - 48 by omega]; rfl) ⟨i + 1, rfl, by omega, rfl, by omega, rfl⟩ (by omega)
  · rw [by8_size] at hlt
    obtain rfl : i = l.length := by omega
    rw [List.take_length] at hv ⊢
    refine cl (r36d_c (valL l) (by omega) w1) ?_
    rintro _ w2 ⟨rfl, hu2⟩
    rw [str_by8]
    refine cd (fun hne => ?_) (fun hne => ?_)
    · rw [by8_list, by8_list] at hne
      refine ⟨⟨_, rfl, .inr ⟨fun k hk he => hne ?_, rfl⟩⟩, hu2⟩
      have := hfin k he
      rw [this]; exact he.symm
    · rw [by8_list, by8_list] at hne
      have hne : toB (decB (valL l)) = l := by simpa using hne
      exact ⟨⟨_, rfl, .inl ⟨valL l, hv, hne.symm, rfl⟩⟩, hu2⟩
/-- strings in memory of the call's own -/
structure StrS (w0 w : World) (v : Value) (L : List (List UInt8)) : Prop where
  s : Sl w 9 1 v L.length (strB L)
  own : ∀ g, v.ownBlock = some g → w0.heap.size ≤ g
  up : Upd [] w0 w
theorem StrS.upd0 {w0 w w' : World} {v : Value} {L : List (List UInt8)} (h : StrS w0 w v L) (hu : Upd [] w w') : StrS w0 w' v L := ⟨h.s.upd hu (by simp), h.own, h.up.trans hu⟩
theorem StrS.grow {w0 w w' : World} {v v' : Value} {L M : List (List UInt8)} (h : StrS w0 w v L) (hs : Sl w' 9 1 v' (L.length + M.length) (strB L ++ strB M)) (hG : Grow w w' v v') : StrS w0 w' v' (L ++ M) := by
  have := hG.from_ h.up h.own
  refine ⟨?_, this.2, this.1⟩
  rw [List.length_append]
  have : strB (L ++ M) = strB L ++ strB M := by simp [strB]
  rw [this]; exact hs
theorem ext_mid (l : List UInt8) (a b : Nat) : (by8 l).extract a b = by8 ((l.drop a).take (b - a)) := by
  apply ByteArray.ext; apply Array.ext'; simp [by8]
theorem parts_hit {c : UInt8} {l : List UInt8} {f i : Nat} (hf : f ≤ i) (hi : i < l.length) (hc : l.getD i 0 = c) (hno : c ∉ (l.drop f).take (i - f)) : partsC c (l.drop f) = ((l.drop f).take (i - f)) :: partsC c (l.drop (i + 1)) := by
  have e : l.drop f = (l.drop f).take (i - f) ++ c :: l.drop (i + 1) := by
    have h1 := List.take_append_drop (i - f) (l.drop f)
    rw [List.drop_drop, show f + (i - f) = i by omega, List.drop_eq_getElem_cons hi] at h1
    have h2 : l[i] = c := by simpa [List.getD, hi] using hc
    rw [h2] at h1
    exact h1.symm
  conv => lhs; rw [e]
  exact partsC_app c _ _ hno
theorem no_step {c : UInt8} {l : List UInt8} {f i : Nat} (hf : f ≤ i) (hi : i < l.length) (hc : l.getD i 0 ≠ c) (hno : c ∉ (l.drop f).take (i - f)) : c ∉ (l.drop f).take (i + 1 - f) := by
  rw [show i + 1 - f = (i - f) + 1 by omega, List.take_add_one]
  intro h
  rcases List.mem_append.1 h with h | h
  · exact hno h
  · have h3 : (l.drop f)[i - f]? = some (l.getD i 0) := by
      rw [List.getElem?_drop, show f + (i - f) = i by omega]; simp [List.getD, hi]
    rw [h3] at h
    simp at h
    exact hc h.symm
set_option maxRecDepth 10000 in
theorem words_c (l : List UInt8) (hl : l.length ≤ 1000000) (w : World) : Fn Tryd.prog 67 #[.string (by8 l)] w fun r w' => StrS w w' r (partsC 32 l) := by
  have hcl : l.count 32 ≤ l.length := List.count_le_length
  have hpl := partsC_len 32 l
  have hsz := by8_size l
  refine fn_enter Tryd.func67 rfl rfl ?_
  refine loop_rule [0] [3, 4, 5] (fun vs w' m => ∃ (i f : Nat) (v : Value) (D : List (List UInt8)), vs = [v, .int .i64 f, .int .i64 i] ∧ m = l.length + 1 - i ∧ StrS w w' v D ∧
      ((i ≤ l.length ∧ f ≤ i ∧ D ++ partsC 32 (l.drop f) = partsC 32 l ∧ (32 : UInt8) ∉ (l.drop f).take (i - f)) ∨ (i = l.length + 1 ∧ D = partsC 32 l))) rfl [.slice none 0 0, .int .i64 0, .int .i64 0] (l.length + 1) rfl
    ⟨0, 0, _, [], rfl, rfl, ⟨Sl.nil_ _ _ _, by simp [Value.ownBlock], Upd.refl _ _⟩, .inl ⟨by omega, by omega, rfl, by simp⟩⟩ ?_
  rintro _ w1 m ⟨i, f, v, D, rfl, rfl, hS, hor⟩
  refine len_str ?_
  rcases hor with ⟨hi, hf, hD, hno⟩ | ⟨rfl, rfl⟩
  rotate_left
  · refine cN (show ¬ ((l.length + 1 : Nat) : Int) ≤ ((by8 l).size : Int) by omega) ?_
    exact hS
  have hDl : D.length ≤ l.length + 1 := by
    have := congrArg List.length hD
    rw [List.length_append] at this
    omega
  refine cY (show (i : Int) ≤ ((by8 l).size : Int) by omega) ?_
  refine len_str ?_
  by_cases hie : i = l.length
  · refine cY (show (i : Int) = ((by8 l).size : Int) by omega) ?_
    subst hie
    refine s_lohi f l.length rfl rfl hf (by omega) ?_
    rw [ext_mid]
    refine bs #[.string (by8 ((l.drop f).take (l.length - f)))] (fun _ => by kernel_rfl) fun w2 hb2 hu2 hs2 => ?_
    have hS2 := hS.upd0 hu2
    refine apg hS2.s hb2 rfl rfl (by decide) (by simp only [maxLen]; omega) (by omega) fun v3 w3 hs3 hG3 => ?_
    have hS3 := hS2.grow (M := [(l.drop f).take (l.length - f)]) hs3 hG3
    have hfull : D ++ [(l.drop f).take (l.length - f)] = partsC 32 l := by
      rw [← hD, partsC_none 32 (l.drop f) (by rw [List.take_of_length_le (by simp)] at hno; exact hno), List.take_of_length_le (by simp)]
    rw [hfull] at hS3
    refine ar64 (by omega) ?_
    refine ar64 (by omega) ?_
    exact round_mk [v3, .int .i64 ((l.length + 1 : Nat) : Int), .int .i64 ((l.length + 1 : Nat) : Int)] 0 rfl rfl ⟨l.length + 1, l.length + 1, v3, _, rfl, by omega, hS3, .inr ⟨rfl, rfl⟩⟩ (by omega)
  · have hlt : i < l.length := by omega
    have his : i < (by8 l).size := by omega
    refine cN (show ¬ (i : Int) = ((by8 l).size : Int) by omega) ?_
    refine ixs i rfl his ?_
    rw [by8_at]
    refine cd (fun h32 => ?_) (fun h32 => ?_)
    · have hc : l.getD i 0 = 32 := UInt8.toNat_inj.1 (by show _ = 32; omega)
      have hhit := parts_hit hf hlt hc hno
      refine s_lohi f i rfl rfl hf (by omega) ?_
      rw [ext_mid]
      refine bs #[.string (by8 ((l.drop f).take (i - f)))] (fun _ => by kernel_rfl) fun w2 hb2 hu2 hs2 => ?_
      have hS2 := hS.upd0 hu2
      refine apg hS2.s hb2 rfl rfl (by decide) (by simp only [maxLen]; omega) (by omega) fun v3 w3 hs3 hG3 => ?_
      have hS3 := hS2.grow (M := [(l.drop f).take (i - f)]) hs3 hG3
      refine ar64 (by omega) ?_
      refine ar64 (by omega) ?_
      exact round_mk [v3, .int .i64 ((i + 1 : Nat) : Int), .int .i64 ((i + 1 : Nat) : Int)] (l.length + 1 - (i + 1)) rfl rfl ⟨i + 1, i + 1, v3, _, rfl, by omega, hS3, .inl ⟨by omega, by omega, by rw [← hD, hhit, List.append_assoc]; rfl, by simp⟩⟩ (by omega)
    · have hc : l.getD i 0 ≠ 32 := fun h => h32 (by rw [h]; rfl)
      refine ar64 (by omega) ?_
      exact round_mk [v, .int .i64 (f : Int), .int .i64 ((i + 1 : Nat) : Int)] (l.length + 1 - (i + 1)) rfl rfl ⟨i + 1, f, v, D, rfl, by omega, hS, .inl ⟨by omega, by omega, hD, no_step hf hlt hc hno⟩⟩ (by omega)
/-- a text's lines that have their ends -/
def linesT (l : List UInt8) : List (List UInt8) := (partsC 10 l).dropLast
def moreT (l : List UInt8) : Prop := (partsC 10 l).getLastD [] ≠ []
instance (l : List UInt8) : Decidable (moreT l) := by unfold moreT; exact inferInstance
set_option maxRecDepth 10000 in
theorem lines_s (l : List UInt8) (hl : l.length ≤ 1000000) (w : World) : Fn Tryd.prog 38 #[.string (by8 l)] w fun r w' => ∃ v, r = .tuple #[v, .bool (decide (moreT l))] ∧ StrS w w' v (linesT l) := by
  have hcl : l.count 10 ≤ l.length := List.count_le_length
  have hpl := partsC_len 10 l
  have hsz := by8_size l
  refine fn_enter Tryd.func38 rfl rfl ?_
  refine loop_rule [0] [4, 5, 6] (fun vs w' m => ∃ (i f : Nat) (v : Value) (D : List (List UInt8)), vs = [v, .int .i64 f, .int .i64 i] ∧ m = l.length - i ∧ StrS w w' v D ∧
      i ≤ l.length ∧ f ≤ i ∧ D ++ partsC 10 (l.drop f) = partsC 10 l ∧ (10 : UInt8) ∉ (l.drop f).take (i - f)) rfl [.slice none 0 0, .int .i64 0, .int .i64 0] l.length rfl
    ⟨0, 0, _, [], rfl, rfl, ⟨Sl.nil_ _ _ _, by simp [Value.ownBlock], Upd.refl _ _⟩, by omega, by omega, rfl, by simp⟩ ?_
  rintro _ w1 m ⟨i, f, v, D, rfl, rfl, hS, hi, hf, hD, hno⟩
  have hDl : D.length ≤ l.length + 1 := by
    have := congrArg List.length hD
    rw [List.length_append] at this
    omega
  refine len_str ?_
  refine cd (fun hlt => ?_) (fun hlt => ?_)
  · have hlt : i < l.length := by omega
    have his : i < (by8 l).size := by omega
    refine ixs i rfl his ?_
    rw [by8_at]
    refine cd (fun h32 => ?_) (fun h32 => ?_)
    · have hc : l.getD i 0 = 10 := UInt8.toNat_inj.1 (by show _ = 10; omega)
      have hhit := parts_hit hf hlt hc hno
      refine s_lohi f i rfl rfl hf (by omega) ?_
      rw [ext_mid]
      refine bs #[.string (by8 ((l.drop f).take (i - f)))] (fun _ => by kernel_rfl) fun w2 hb2 hu2 hs2 => ?_
      have hS2 := hS.upd0 hu2
      refine apg hS2.s hb2 rfl rfl (by decide) (by simp only [maxLen]; omega) (by omega) fun v3 w3 hs3 hG3 => ?_
      have hS3 := hS2.grow (M := [(l.drop f).take (i - f)]) hs3 hG3
      refine ar64 (by omega) ?_
      refine ar64 (by omega) ?_
      exact round_mk [v3, .int .i64 ((i + 1 : Nat) : Int), .int .i64 ((i + 1 : Nat) : Int)] (l.length - (i + 1)) rfl rfl ⟨i + 1, i + 1, v3, _, rfl, by omega, hS3, by omega, by omega, by rw [← hD, hhit, List.append_assoc]; rfl, by simp⟩ (by omega)
    · have hc : l.getD i 0 ≠ 10 := fun h => h32 (by rw [h]; rfl)
      refine ar64 (by omega) ?_
      exact round_mk [v, .int .i64 (f : Int), .int .i64 ((i + 1 : Nat) : Int)] (l.length - (i + 1)) rfl rfl ⟨i + 1, f, v, D, rfl, by omega, hS, by omega, by omega, hD, no_step hf hlt hc hno⟩ (by omega)
  · obtain rfl : i = l.length := by omega
    have h1 : partsC 10 (l.drop f) = [l.drop f] := partsC_none 10 _ (by rw [List.take_of_length_le (by simp)] at hno; exact hno)
    rw [h1] at hD
    have h2 : linesT l = D := by unfold linesT; rw [← hD]; simp
    have h3 : moreT l ↔ f < l.length := by
      unfold moreT; rw [← hD]; simp
    refine len_str ?_
    refine ⟨v, ?_, by rw [h2]; exact hS⟩
    refine congrArg (fun b => Value.tuple #[v, .bool b]) ?_
    by_cases hq : f < l.length
    · rw [decide_eq_true (h3.2 hq)]; exact decide_eq_true (by omega)
    · rw [decide_eq_false (fun h => hq (h3.1 h))]; exact decide_eq_false (by omega)
end Go.Proofs.YtlhbgnoghjendaaDoor

/- Scenes: what a row is; the reference's rows; digits of the base 16. -/
namespace Go.Proofs.YtlhbgnoghjendaaDoor
open Go.RowKit
attribute [local irreducible] Instr.loadAt Instr.storeAt Instr.fieldAt Instr.indexAt Instr.sliceAt Instr.buildSlice Instr.box Instr.alloc Builtin.append_ Builtin.len_ Builtin.min_ Builtin.max_ Calls Instr.build Instr.makeSlice binSem convert Instr.index Instr.range Instr.next
theorem at_split {l : List UInt8} {i : Nat} {c : UInt8} (hlt : i < l.length) (hc : l.getD i 0 = c) : l = l.take i ++ c :: l.drop (i + 1) := by
  have h1 := List.take_append_drop i l
  rw [List.drop_eq_getElem_cons hlt] at h1
  have h2 : l[i] = c := by simpa [List.getD, hlt] using hc
  rw [h2] at h1
  exact h1.symm
def rowP (l : List UInt8) : Option (Nat × Nat) :=
  match cutC 120 l with
  | none => none
  | some (a, b) => if decU (valL a) = a ∧ decU (valL b) = b ∧ valL a < 4294967296 ∧ 1 ≤ valL b ∧ valL b ≤ 60000 then some (valL a, valL b) else none
theorem rowP_iff (l : List UInt8) (t n : Nat) : rowP l = some (t, n) ↔ RowIs l t n := by
  constructor
  · intro h
    unfold rowP at h
    cases hc : cutC 120 l with
    | none => rw [hc] at h; cases h
    | some p =>
      obtain ⟨a, b⟩ := p
      rw [hc] at h
      simp only at h
      split at h
      · rename_i hk
        injection h with h
        injection h with e1 e2
        subst e1; subst e2
        obtain ⟨-, h2, -⟩ := cutC_some 120 l a b hc
        exact ⟨hk.2.2.1, hk.2.2.2.1, hk.2.2.2.2, by rw [hk.1, hk.2.1]; exact h2⟩
      · cases h
  · intro h
    unfold rowP
    rw [h.cut]
    simp only [decU_val]
    rw [if_pos ⟨trivial, trivial, h.1, h.2.1, h.2.2.1⟩]
/-- what the reference's row tells -/
structure RowF (l : List UInt8) (t n : Int) (b : Bool) : Prop where
  back : b = true → ∃ t' n' : Nat, t = t' ∧ n = n' ∧ RowIs l t' n'
  forth : ∀ t' n' : Nat, t' ≤ 100009 → RowIs l t' n' → b = true ∧ t = t' ∧ n = n'
theorem NumF.of {l : List UInt8} {r : Int} (h : NumF l r) {k : Nat} (hk : k ≤ 100009) (he : l = decU k) : r = k := by
  rcases h with ⟨m, hm, e, rfl⟩ | ⟨h1, -⟩
  · rw [he] at e
    have := congrArg valL e
    rw [decU_val, decU_val] at this
    rw [this]
  · exact absurd he (h1 k hk)
set_option maxRecDepth 10000 in
theorem rrow_c (l : List UInt8) (hl : l.length ≤ 900000) (w : World) : Fn Tryd.prog 68 #[.string (by8 l)] w fun r w' => (∃ t n b, r = .tuple #[.int .i64 t, .int .i64 n, .bool b] ∧ RowF l t n b) ∧ Upd [] w w' := by
  have hsz := by8_size l
  refine fn_enter Tryd.func68 rfl rfl ?_
  refine loop_rule [0] [5] (fun vs w' m => ∃ i : Nat, vs = [.int .i64 i] ∧ i ≤ l.length ∧ m = l.length - i ∧ (120 : UInt8) ∉ l.take i ∧ w' = w) rfl [.int .i64 0] l.length rfl
    ⟨0, rfl, by omega, rfl, by simp, rfl⟩ ?_
  rintro _ w1 m ⟨i, rfl, hi, rfl, hno, rfl⟩
  refine len_str ?_
  refine cd (fun hlt => ?_) (fun hlt => ?_)
  · have hlt : i < l.length := by omega
    have his : i < (by8 l).size := by omega
    refine ixs i rfl his ?_
    rw [by8_at]
    refine cd (fun h120 => ?_) (fun h120 => ?_)
    · have hc : l.getD i 0 = 120 := UInt8.toNat_inj.1 (by show _ = 120; omega)
      have e : l = l.take i ++ 120 :: l.drop (i + 1) := by
        exact at_split hlt hc
      have hcut : cutC 120 l = some (l.take i, l.drop (i + 1)) := by
        have := cutC_app 120 (l.take i) (l.drop (i + 1)) hno
        rwa [← e] at this
      refine draw_mix 9 [(0, true), (1, true), (2, true), (4, true), (5, true), (6, true), (7, true), (3, false), (8, false)] (fun w' => Upd [] w1 w') (by decide +kernel) (Upd.refl _ _).drew ?_
      refine rq (.string (by8 (l.take i))) (fun _ _ => s_hi i rfl (by omega) ⟨by rw [ext_take], rfl⟩) ?_
      refine q_ar64 (by omega) ?_
      refine rq (.string (by8 (l.drop (i + 1)))) (fun _ _ => s_lo (i + 1) rfl (by omega) ⟨by rw [ext_drop], rfl⟩) ?_
      refine cl (rnum_c (l.take i) (by rw [List.length_take]; omega) _) ?_
      rintro _ w2 ⟨⟨t, rfl, ht⟩, hu2⟩
      have hU2 : Upd [] w1 w2 := (Upd.refl [] w1).drew.trans hu2
      refine ⟨hU2, ?_⟩
      refine cl (rnum_c (l.drop (i + 1)) (by rw [List.length_drop]; omega) w2) ?_
      rintro _ w3 ⟨⟨n, rfl, hn⟩, hu3⟩
      have hU3 := hU2.trans hu3
      refine ⟨hU3, ?_⟩
      have hf : ∀ t' n' : Nat, t' ≤ 100009 → RowIs l t' n' → t = t' ∧ n = n' ∧ 1 ≤ n' ∧ n' ≤ 60000 := fun t' n' h1 h => by
        have hq := h.cut
        rw [hcut] at hq
        injection hq with hq
        injection hq with e1 e2
        exact ⟨ht.of h1 e1, hn.of (by have := h.2.2.1; omega) e2, h.2.1, h.2.2.1⟩
      by_cases h0 : t ≥ 0
      · refine cY h0 ?_
        by_cases h1 : n ≥ 1
        · refine cY h1 ?_
          refine ⟨⟨_, _, _, rfl, ⟨fun h => ?_, fun t' n' h2 h => ?_⟩⟩, hU3⟩
          · have h : n ≤ 60000 := by simpa using h
            rcases ht with ⟨k, hk, e1, rfl⟩ | ⟨-, e⟩
            · rcases hn with ⟨k', hk', e2, rfl⟩ | ⟨-, e⟩
              · exact ⟨k, k', rfl, rfl, by omega, by omega, by omega, by rw [← e1, ← e2]; exact e⟩
              · omega
            · omega
          · have := hf t' n' h2 h
            exact ⟨decide_eq_true (by omega), this.1, this.2.1⟩
        · refine cN h1 ?_
          exact ⟨⟨_, _, _, rfl, ⟨fun h => (by cases h), fun t' n' h2 h => by have := hf t' n' h2 h; omega⟩⟩, hU3⟩
      · refine cN h0 ?_
        exact ⟨⟨_, _, _, rfl, ⟨fun h => (by cases h), fun t' n' h2 h => by have := hf t' n' h2 h; omega⟩⟩, hU3⟩
    · have hc : l.getD i 0 ≠ 120 := fun h => h120 (by rw [h]; rfl)
      refine ar64 (by omega) ?_
      refine round_mk [.int .i64 ((i + 1 : Nat) : Int)] (l.length - (i + 1)) rfl rfl ⟨i + 1, rfl, by omega, rfl, ?_, rfl⟩ (by omega)
      rw [take_nextU l i hlt]
      intro h
      rcases List.mem_append.1 h with h | h
      · exact hno h
      · simp only [List.mem_singleton] at h; exact hc h.symm
  · obtain rfl : i = l.length := by omega
    rw [List.take_length] at hno
    refine ⟨⟨_, _, _, rfl, ⟨fun h => (by cases h), fun t' n' h2 h => ?_⟩⟩, Upd.refl _ _⟩
    have := cutC_no 120 l hno
    rw [h.cut] at this; cases this
/-- a digit of the base 16, or -1 -/
def nibB (c : UInt8) : Int := if 48 ≤ c.toNat ∧ c.toNat ≤ 57 then (c.toNat : Int) - 48 else if 97 ≤ c.toNat ∧ c.toNat ≤ 102 then (c.toNat : Int) - 87 else -1
theorem nib_c (c : UInt8) (w : World) : Fn Tryd.prog 69 #[.int .u8 (c.toNat : Int)] w fun r w' => r = .int .i64 (nibB c) ∧ w' = w := by
  have hc := c.toNat_lt
  unfold nibB
  have second : ¬ (48 ≤ c.toNat ∧ c.toNat ≤ 57) → True := fun _ => trivial
  refine fn_enter Tryd.func69 rfl rfl ?_
  by_cases h1 : (c.toNat : Int) ≥ 48
  · refine cY h1 ?_
    refine cd (fun h2 => ?_) (fun h2 => ?_)
    · refine cv ?_
      refine ar64 (by omega) ?_
      refine ar64 (by omega) ?_
      rw [if_pos (by omega)]
      exact ⟨rfl, rfl⟩
    · rw [if_neg (by omega)]
      by_cases h3 : (c.toNat : Int) ≥ 97
      · refine cY h3 ?_
        refine cd (fun h4 => ?_) (fun h4 => ?_)
        · refine cv ?_
          refine ar64 (by omega) ?_
          refine ar64 (by omega) ?_
          rw [if_pos (by omega)]
          exact ⟨rfl, rfl⟩
        · rw [if_neg (by omega)]
          exact ⟨rfl, rfl⟩
      · refine cN h3 ?_
        rw [if_neg (by omega)]
        exact ⟨rfl, rfl⟩
  · refine cN h1 ?_
    rw [if_neg (by omega)]
    refine cN (show ¬ (c.toNat : Int) ≥ 97 by omega) ?_
    rw [if_neg (by omega)]
    exact ⟨rfl, rfl⟩
def hexD : List UInt8 := [48,49,50,51,52,53,54,55,56,57,97,98,99,100,101,102]
theorem hex_nib (c : UInt8) : Lib.indexByte hexD c = nibB c := by
  have : ∀ n : Fin 256, Lib.indexByte hexD (UInt8.ofNat n.val) = nibB (UInt8.ofNat n.val) := by decide +kernel
  have h := this ⟨c.toNat, c.toNat_lt⟩
  simpa using h
end Go.Proofs.YtlhbgnoghjendaaDoor

/- Scenes: the line of picks, as a function; the reference's reading of it. -/
namespace Go.Proofs.YtlhbgnoghjendaaDoor
open Go.RowKit
attribute [local irreducible] Instr.loadAt Instr.storeAt Instr.fieldAt Instr.indexAt Instr.sliceAt Instr.buildSlice Instr.box Instr.alloc Builtin.append_ Builtin.len_ Builtin.min_ Builtin.max_ Calls Instr.build Instr.makeSlice binSem convert Instr.index Instr.range Instr.next
def growP (acc : List Int) (t n : Nat) : List Int := acc ++ List.replicate (min n (60001 - acc.length)) (t : Int)
def picksP (T : Int) : Int → List Int → List (List UInt8) → Option (List Int)
  | _, acc, [] => some acc
  | last, acc, p :: r =>
    match rowP p with
    | none => none
    | some (t, n) => if (t : Int) < T ∧ (t : Int) ≠ last then picksP T t (growP acc t n) r else none
def s_picks : List UInt8 := [112,105,99,107,115]
def picksLine (T : Int) (l : List UInt8) : Option (List Int) := if (partsC 32 l).getD 0 [] = s_picks then picksP T (-1) [] ((partsC 32 l).drop 1) else none
theorem growP_len {acc : List Int} (h : acc.length ≤ 60001) (t n : Nat) : (growP acc t n).length ≤ 60001 := by
  unfold growP; rw [List.length_append, List.length_replicate]; omega
theorem drop_at (ps : List (List UInt8)) (i : Nat) (h : i < ps.length) : ps.drop i = ps.getD i [] :: ps.drop (i + 1) := by
  rw [List.drop_eq_getElem_cons h]; simp [List.getD, h]
/-- numbers in memory of the call's own -/
structure IntS (w0 w : World) (v : Value) (L : List Int) : Prop where
  s : Sl w 3 1 v L.length (L.map (.int .i64))
  own : ∀ g, v.ownBlock = some g → w0.heap.size ≤ g
  up : Upd [] w0 w
theorem IntS.upd0 {w0 w w' : World} {v : Value} {L : List Int} (h : IntS w0 w v L) (hu : Upd [] w w') : IntS w0 w' v L := ⟨h.s.upd hu (by simp), h.own, h.up.trans hu⟩
theorem IntS.grow {w0 w w' : World} {v v' : Value} {L M : List Int} (h : IntS w0 w v L) (hs : Sl w' 3 1 v' (L.length + M.length) (L.map (.int .i64) ++ M.map (.int .i64))) (hG : Grow w w' v v') : IntS w0 w' v' (L ++ M) := by
  have := hG.from_ h.up h.own
  refine ⟨?_, this.2, this.1⟩
  rw [List.length_append, List.map_append]; exact hs
/-- what is answered: the picks, or that there are none -/
def PkR (w0 w : World) (o : Option (List Int)) (v : Value) (b : Bool) : Prop := (b = true ∧ ∃ L, o = some L ∧ L.length ≤ 60001 ∧ IntS w0 w v L) ∨ (b = false ∧ o = none ∧ Upd [] w0 w)
set_option maxRecDepth 10000 in
theorem rpicksl_c (l : List UInt8) (hl : l.length ≤ 100000) (T : Int) (hT : T ≤ 6) (w : World) : Fn Tryd.prog 42 #[.string (by8 l), .int .i64 T] w fun r w' => ∃ v b, r = .tuple #[v, .bool b] ∧ PkR w w' (picksLine T l) v b := by
  have hcl : l.count 32 ≤ l.length := List.count_le_length
  have hpl := partsC_len 32 l
  have hple := parts_le 32 l
  refine fn_enter Tryd.func42 rfl rfl ?_
  refine cl (words_c l (by omega) w) ?_
  rintro wv w1 hS1
  unfold picksLine
  generalize partsC 32 l = ps at *
  have hR := RdN.of_sl hS1.s
  have hU1 := hS1.up
  obtain ⟨va, vc, rfl, hc1, hc2⟩ := hR.form
  simp only [maxLen] at hc2
  obtain ⟨b, o, c', he, -⟩ := hR.some_ (by omega)
  cases he
  have hrd : ∀ w', Upd [] w1 w' → ∀ i, i < ps.length → w'.cell? ⟨b, o + i * 1, none⟩ = some (.string (by8 (ps.getD i []))) := fun w' hu i hi => by
    rw [(hR.upd0 hu).one rfl i hi]; exact strB_at ps i hi
  refine ix 0 rfl (by omega) ?_
  refine ld (hrd w1 (Upd.refl _ _) 0 (by omega)) ?_
  refine cd (fun hne => ?_) (fun hne => ?_)
  · rw [by8_list, ByteArray.toList_eq] at hne
    have hne : ps.getD 0 [] ≠ s_picks := hne
    rw [if_neg hne]
    exact ⟨_, _, rfl, .inr ⟨rfl, rfl, hU1⟩⟩
  rw [by8_list, ByteArray.toList_eq] at hne
  have heq : ps.getD 0 [] = s_picks := Classical.not_not.1 hne
  rw [if_pos heq]
  obtain ⟨O, hO⟩ : ∃ O, O = picksP T (-1) [] (ps.drop 1) := ⟨_, rfl⟩
  rw [← hO]
  refine loop_rule [1, 7] [6, 8, 9] (fun vs w' m => ∃ (i : Nat) (last : Int) (acc : List Int) (v : Value), vs = [v, .int .i64 last, .int .i64 i] ∧ 1 ≤ i ∧ i ≤ ps.length ∧ m = ps.length - i ∧ picksP T last acc (ps.drop i) = O ∧ acc.length ≤ 60001 ∧ IntS w1 w' v acc) rfl [.slice none 0 0, .int .i64 (-1), .int .i64 1] (ps.length - 1) rfl
    ⟨1, -1, [], _, rfl, by omega, by omega, rfl, hO.symm, by simp, ⟨Sl.nil_ _ _ _, by simp [Value.ownBlock], Upd.refl _ _⟩⟩ ?_
  rintro _ w2 m ⟨i, last, acc, v, rfl, hi1, hi, rfl, hP, hacc, hS2⟩
  refine len_sl ?_
  refine cd (fun hlt => ?_) (fun hlt => ?_)
  · have hlt : i < ps.length := by omega
    have hmem : ps.getD i [] ∈ ps := by simp [List.getD, hlt]
    have hpn := hple _ hmem
    rw [drop_at ps i hlt] at hP
    refine ix i rfl hlt ?_
    refine ld (hrd w2 hS2.up i hlt) ?_
    generalize ps.getD i [] = p at *
    refine cl (rrow_c p (by omega) w2) ?_
    rintro _ w3 ⟨⟨t, n, bb, rfl, hr⟩, hu3⟩
    have hS3 := hS2.upd0 hu3
    have hUw := hU1.trans hS3.up
    cases bb with
    | false =>
      have hO' : O = none := by
        rw [← hP]; unfold picksP
        cases hq : rowP p with
        | none => rfl
        | some x =>
          obtain ⟨t', n'⟩ := x
          have hrow := (rowP_iff p t' n').1 hq
          simp only
          refine if_neg (fun h => ?_)
          have := hr.forth t' n' (by omega) hrow
          cases this.1
      exact ⟨_, _, rfl, .inr ⟨rfl, hO', hUw⟩⟩
    | true =>
      obtain ⟨t', n', rfl, rfl, hrow⟩ := hr.back rfl
      have hq := (rowP_iff p t' n').2 hrow
      have hP2 : picksP T last acc (p :: ps.drop (i + 1)) = if (t' : Int) < T ∧ (t' : Int) ≠ last then picksP T t' (growP acc t' n') (ps.drop (i + 1)) else none := by
        rw [picksP, hq]
      rw [hP2] at hP
      by_cases hge : (t' : Int) ≥ T
      · refine cY hge ?_
        exact ⟨_, _, rfl, .inr ⟨rfl, by rw [← hP]; exact if_neg (fun h => by omega), hUw⟩⟩
      refine cN hge ?_
      refine cd (fun hla => ?_) (fun hla => ?_)
      · exact ⟨_, _, rfl, .inr ⟨rfl, by rw [← hP]; exact if_neg (fun h => h.2 hla), hUw⟩⟩
      rw [if_pos ⟨by omega, hla⟩] at hP
      obtain ⟨-, hn1, hn6, -⟩ := hrow
      refine loop_rule [1, 7, 8, 9, 10, 11] [6, 13] (fun vs w' m => ∃ (k : Nat) (v : Value), vs = [v, .int .i64 k] ∧ k ≤ n' ∧ k ≤ 60001 - acc.length ∧ m = n' - k ∧ IntS w1 w' v (acc ++ List.replicate k (t' : Int))) rfl [v, .int .i64 0] n' rfl
        ⟨0, v, rfl, by omega, by omega, rfl, by simpa using hS3⟩ ?_
      rintro _ w4 m ⟨k, v4, rfl, hk1, hk2, rfl, hS4⟩
      have hln : (acc ++ List.replicate k (t' : Int)).length = acc.length + k := by simp
      obtain ⟨fa_, fc_, rfl, -⟩ := (RdN.of_sl hS4.s).form
      by_cases hkn : k < n'
      · refine cY (show (k : Int) < (n' : Int) by omega) ?_
        refine len_sl ?_
        refine cd (fun hq6 => ?_) (fun hq6 => ?_)
        · refine bs #[.int .i64 (t' : Int)] (fun _ => by kernel_rfl) fun w5 hb5 hu5 hs5 => ?_
          have hS5 := hS4.upd0 hu5
          refine apg hS5.s hb5 rfl rfl (by decide) (by simp only [maxLen]; omega) (by omega) fun v6 w6 hs6 hG6 => ?_
          have hS6 := hS5.grow (M := [(t' : Int)]) hs6 hG6
          rw [List.append_assoc, ← List.replicate_succ'] at hS6
          refine ar64 (by omega) ?_
          exact round_mk [v6, .int .i64 ((k + 1 : Nat) : Int)] (n' - (k + 1)) rfl rfl ⟨k + 1, v6, rfl, by omega, by omega, rfl, hS6⟩ (by omega)
        · have hk : k = min n' (60001 - acc.length) := by omega
          have hgr : acc ++ List.replicate k (t' : Int) = growP acc t' n' := by unfold growP; rw [hk]
          rw [hgr] at hS4 hln
          have hgl := growP_len hacc t' n'
          refine ar64 (by omega) ?_
          exact round_mk [_, .int .i64 (t' : Int), .int .i64 ((i + 1 : Nat) : Int)] (ps.length - (i + 1)) rfl (by rw [hgr]; rfl) ⟨i + 1, (t' : Int), growP acc t' n', _, rfl, by omega, by omega, rfl, hP, hgl, hS4⟩ (by omega)
      · refine cN (show ¬ (k : Int) < (n' : Int) by omega) ?_
        have hk : k = min n' (60001 - acc.length) := by omega
        have hgr : acc ++ List.replicate k (t' : Int) = growP acc t' n' := by unfold growP; rw [hk]
        rw [hgr] at hS4 hln
        have hgl := growP_len hacc t' n'
        refine ar64 (by omega) ?_
        exact round_mk [_, .int .i64 (t' : Int), .int .i64 ((i + 1 : Nat) : Int)] (ps.length - (i + 1)) rfl (by rw [hgr]; rfl) ⟨i + 1, (t' : Int), growP acc t' n', _, rfl, by omega, by omega, rfl, hP, hgl, hS4⟩ (by omega)
  · obtain rfl : i = ps.length := by omega
    rw [List.drop_length] at hP
    exact ⟨_, _, rfl, .inl ⟨rfl, acc, by rw [← hP]; rfl, hacc, ⟨hS2.s, fun g hg => by have := hS2.own g hg; have := hU1.size; omega, hU1.trans hS2.up⟩⟩⟩
end Go.Proofs.YtlhbgnoghjendaaDoor

/- Scenes: the line of draws, as a function; the reference's reading of it. -/
namespace Go.Proofs.YtlhbgnoghjendaaDoor
open Go.RowKit
attribute [local irreducible] Instr.loadAt Instr.storeAt Instr.fieldAt Instr.indexAt Instr.sliceAt Instr.buildSlice Instr.box Instr.alloc Builtin.append_ Builtin.len_ Builtin.min_ Builtin.max_ Calls Instr.build Instr.makeSlice binSem convert Instr.index Instr.range Instr.next
def byteP (p : List UInt8) : Option Int := if p.length = 2 ∧ 0 ≤ nibB (p.getD 0 0) ∧ 0 ≤ nibB (p.getD 1 0) then some (16 * nibB (p.getD 0 0) + nibB (p.getD 1 0)) else none
def drawsP : List Int → List (List UInt8) → Option (List Int)
  | acc, [] => some acc
  | acc, p :: r =>
    match byteP p with
    | none => none
    | some d => drawsP (acc ++ [d]) r
def s_draws : List UInt8 := [100,114,97,119,115]
def drawsLine (l : List UInt8) : Option (List Int) := if (partsC 32 l).getD 0 [] = s_draws then drawsP [] ((partsC 32 l).drop 1) else none
theorem nibB_le (c : UInt8) : -1 ≤ nibB c ∧ nibB c ≤ 15 := by
  unfold nibB
  repeat' split
  all_goals omega
/-- bytes in memory of the call's own -/
structure BytS (w0 w : World) (v : Value) (L : List Int) : Prop where
  s : Sl w 5 1 v L.length (L.map (.int .u8))
  own : ∀ g, v.ownBlock = some g → w0.heap.size ≤ g
  up : Upd [] w0 w
theorem BytS.upd0 {w0 w w' : World} {v : Value} {L : List Int} (h : BytS w0 w v L) (hu : Upd [] w w') : BytS w0 w' v L := ⟨h.s.upd hu (by simp), h.own, h.up.trans hu⟩
theorem BytS.grow {w0 w w' : World} {v v' : Value} {L M : List Int} (h : BytS w0 w v L) (hs : Sl w' 5 1 v' (L.length + M.length) (L.map (.int .u8) ++ M.map (.int .u8))) (hG : Grow w w' v v') : BytS w0 w' v' (L ++ M) := by
  have := hG.from_ h.up h.own
  refine ⟨?_, this.2, this.1⟩
  rw [List.length_append, List.map_append]; exact hs
def DwR (w0 w : World) (o : Option (List Int)) (v : Value) (b : Bool) : Prop := (b = true ∧ ∃ L, o = some L ∧ (∀ d ∈ L, 0 ≤ d ∧ d ≤ 255) ∧ L.length ≤ 100000 ∧ BytS w0 w v L) ∨ (b = false ∧ o = none ∧ Upd [] w0 w)
set_option maxRecDepth 10000 in
theorem rdrawsl_c (l : List UInt8) (hl : l.length ≤ 90000) (w : World) : Fn Tryd.prog 43 #[.string (by8 l)] w fun r w' => ∃ v b, r = .tuple #[v, .bool b] ∧ DwR w w' (drawsLine l) v b := by
  have hcl : l.count 32 ≤ l.length := List.count_le_length
  have hpl := partsC_len 32 l
  refine fn_enter Tryd.func43 rfl rfl ?_
  refine cl (words_c l (by omega) w) ?_
  rintro wv w1 hS1
  unfold drawsLine
  generalize partsC 32 l = ps at *
  have hR := RdN.of_sl hS1.s
  have hU1 := hS1.up
  obtain ⟨va, vc, rfl, hc1, hc2⟩ := hR.form
  simp only [maxLen] at hc2
  obtain ⟨b, o, c', he, -⟩ := hR.some_ (by omega)
  cases he
  have hrd : ∀ w', Upd [] w1 w' → ∀ i, i < ps.length → w'.cell? ⟨b, o + i * 1, none⟩ = some (.string (by8 (ps.getD i []))) := fun w' hu i hi => by
    rw [(hR.upd0 hu).one rfl i hi]; exact strB_at ps i hi
  refine ix 0 rfl (by omega) ?_
  refine ld (hrd w1 (Upd.refl _ _) 0 (by omega)) ?_
  refine cd (fun hne => ?_) (fun hne => ?_)
  · rw [by8_list, ByteArray.toList_eq] at hne
    have hne : ps.getD 0 [] ≠ s_draws := hne
    rw [if_neg hne]
    exact ⟨_, _, rfl, .inr ⟨rfl, rfl, hU1⟩⟩
  rw [by8_list, ByteArray.toList_eq] at hne
  have heq : ps.getD 0 [] = s_draws := Classical.not_not.1 hne
  rw [if_pos heq]
  obtain ⟨O, hO⟩ : ∃ O, O = drawsP [] (ps.drop 1) := ⟨_, rfl⟩
  rw [← hO]
  refine loop_rule [5] [4, 6] (fun vs w' m => ∃ (i : Nat) (acc : List Int) (v : Value), vs = [v, .int .i64 i] ∧ 1 ≤ i ∧ i ≤ ps.length ∧ m = ps.length - i ∧ drawsP acc (ps.drop i) = O ∧ acc.length + 1 = i ∧ (∀ d ∈ acc, 0 ≤ d ∧ d ≤ 255) ∧ BytS w1 w' v acc) rfl [.slice none 0 0, .int .i64 1] (ps.length - 1) rfl
    ⟨1, [], _, rfl, by omega, by omega, rfl, hO.symm, rfl, by simp, ⟨Sl.nil_ _ _ _, by simp [Value.ownBlock], Upd.refl _ _⟩⟩ ?_
  rintro _ w2 m ⟨i, acc, v, rfl, hi1, hi, rfl, hP, hacc, hby, hS2⟩
  have hUw := hU1.trans hS2.up
  refine len_sl ?_
  refine cd (fun hlt => ?_) (fun hlt => ?_)
  · have hlt : i < ps.length := by omega
    rw [drop_at ps i hlt] at hP
    have hrd2 : ∀ w', Upd [] w2 w' → w'.cell? ⟨b, o + i * 1, none⟩ = some (.string (by8 (ps.getD i []))) := fun w' hu => hrd w' (hS2.up.trans hu) i hlt
    generalize ps.getD i [] = p at *
    have hsz := by8_size p
    have hn0 := nibB_le (p.getD 0 0)
    have hn1 := nibB_le (p.getD 1 0)
    have hbad : byteP p = none → O = none := fun h => by rw [← hP, drawsP, h]
    refine ix i rfl hlt ?_
    refine ld (hrd2 w2 (Upd.refl _ _)) ?_
    refine len_str ?_
    by_cases h2 : ((by8 p).size : Int) ≠ 2
    · refine cY h2 ?_
      exact ⟨_, _, rfl, .inr ⟨rfl, hbad (if_neg (fun h => by omega)), hUw⟩⟩
    refine cN h2 ?_
    have hp2 : p.length = 2 := by omega
    refine ix i rfl hlt ?_
    refine ld (hrd2 w2 (Upd.refl _ _)) ?_
    refine ixs 0 rfl (by omega) ?_
    rw [by8_at]
    refine cl (nib_c (p.getD 0 0) w2) ?_
    rintro _ w2 ⟨rfl, rfl⟩
    by_cases h0 : nibB (p.getD 0 0) < 0
    · refine cY h0 ?_
      exact ⟨_, _, rfl, .inr ⟨rfl, hbad (if_neg (fun h => by omega)), hUw⟩⟩
    refine cN h0 ?_
    refine ix i rfl hlt ?_
    refine ld (hrd2 w2 (Upd.refl _ _)) ?_
    refine ixs 1 rfl (by omega) ?_
    rw [by8_at]
    refine cl (nib_c (p.getD 1 0) _) ?_
    rintro _ w2 ⟨rfl, rfl⟩
    refine cd (fun h1 => ?_) (fun h1 => ?_)
    · exact ⟨_, _, rfl, .inr ⟨rfl, hbad (if_neg (fun h => by omega)), hUw⟩⟩
    have hgood : byteP p = some (16 * nibB (p.getD 0 0) + nibB (p.getD 1 0)) := if_pos ⟨hp2, by omega, by omega⟩
    rw [drawsP, hgood] at hP
    refine draw_mix 17 [(0, true), (1, true), (2, true), (3, true), (4, true), (5, true), (6, true), (7, true), (8, true), (9, true), (10, true), (11, true), (12, true), (13, true), (14, true), (15, true), (16, false)] (fun w' => Upd [] w2 w') (by decide +kernel) (Upd.refl _ _).drew ?_
    refine q_ix i rfl hlt ?_
    refine q_ld (v := .string (by8 p)) (fun w' hw' => hrd2 w' hw') ?_
    refine rq (.int .u8 ((p.getD 0 0).toNat : Int)) (fun _ _ => ixs 0 rfl (by omega) (by rw [by8_at]; exact ⟨rfl, rfl⟩)) ?_
    refine t_cl (.int .i64 (nibB (p.getD 0 0))) (fun w' _ => nib_c _ w') ?_
    refine q_ar64 (by omega) ?_
    refine q_ix i rfl hlt ?_
    refine q_ld (v := .string (by8 p)) (fun w' hw' => hrd2 w' hw') ?_
    refine rq (.int .u8 ((p.getD 1 0).toNat : Int)) (fun _ _ => ixs 1 rfl (by omega) (by rw [by8_at]; exact ⟨rfl, rfl⟩)) ?_
    refine t_cl (.int .i64 (nibB (p.getD 1 0))) (fun w' _ => nib_c _ w') ?_
    refine q_ar64 (by omega) ?_
    refine rq (.int .u8 (16 * nibB (p.getD 0 0) + nibB (p.getD 1 0))) (fun _ _ => cv (ar8 (by omega) ⟨rfl, rfl⟩)) ?_
    refine bs #[.int .u8 (16 * nibB (p.getD 0 0) + nibB (p.getD 1 0))] (fun _ => by kernel_rfl) fun w5 hb5 hu5 hs5 => ?_
    have hu5' : Upd [] w2 w5 := (Upd.refl [] w2).drew.trans hu5
    refine ⟨hu5', ?_⟩
    have hS5 := hS2.upd0 hu5'
    have hb5 : Blk w5 w2.heap.size 5 #[.int .u8 (16 * nibB (p.getD 0 0) + nibB (p.getD 1 0))] := hb5
    refine apg hS5.s hb5 rfl rfl (by decide) (by simp only [maxLen]; omega) (by omega) fun v6 w6 hs6 hG6 => ?_
    have hS6 := hS5.grow (M := [16 * nibB (p.getD 0 0) + nibB (p.getD 1 0)]) hs6 hG6
    refine ar64 (by omega) ?_
    refine round_mk [v6, .int .i64 ((i + 1 : Nat) : Int)] (ps.length - (i + 1)) rfl rfl ⟨i + 1, _, v6, rfl, by omega, by omega, rfl, hP, by simp; omega, fun d hd => ?_, hS6⟩ (by omega)
    rcases List.mem_append.1 hd with hd | hd
    · exact hby d hd
    · simp only [List.mem_singleton] at hd
      omega
  · obtain rfl : i = ps.length := by omega
    rw [List.drop_length] at hP
    exact ⟨_, _, rfl, .inl ⟨rfl, acc, by rw [← hP]; rfl, hby, by omega, ⟨hS2.s, fun g hg => by have := hS2.own g hg; have := hU1.size; omega, hU1.trans hS2.up⟩⟩⟩
end Go.Proofs.YtlhbgnoghjendaaDoor

/- Scenes: the reader; a line is taken; how the next one begins. -/
namespace Go.Proofs.YtlhbgnoghjendaaDoor
open Go.RowKit
attribute [local irreducible] Instr.loadAt Instr.storeAt Instr.fieldAt Instr.indexAt Instr.sliceAt Instr.buildSlice Instr.box Instr.alloc Builtin.append_ Builtin.len_ Builtin.min_ Builtin.max_ Calls Instr.build Instr.makeSlice binSem convert Instr.index Instr.range Instr.next
/-- a reader's cells -/
def rdV (rest : List UInt8) (a : Int) (c : Cf) (cv pv dv : Value) : Array Value := #[.string (by8 rest), .int .i64 a, .int .i64 c.A, .int .i64 c.T, .int .i64 c.N, .int .i64 c.L, .int .i64 c.B, .int .i64 c.P, .int .i64 c.S, cv, pv, dv]
abbrev TRd : Nat := 73
/-- the line, what is left, and whether the line has its end -/
def nextL (rest : List UInt8) : List UInt8 × List UInt8 × Bool :=
  match cutC 10 rest with
  | none => (rest, rest, false)
  | some (a, b) => (a, b, true)
theorem next_c {w : World} {p : Nat} {rest : List UInt8} {a : Int} {c : Cf} {cv pv dv : Value} (hb : Blk w p TRd (rdV rest a c cv pv dv)) (hl : rest.length ≤ 1000000) (ha : 0 ≤ a ∧ a ≤ 1000000) :
    Fn Tryd.prog 58 #[.pointer (some ⟨p, 0, none⟩)] w fun r w' => r = .tuple #[.string (by8 (nextL rest).1), .bool (nextL rest).2.2] ∧ Blk w' p TRd (rdV (nextL rest).2.1 (a + 1) c cv pv dv) ∧ Upd [p] w w' := by
  refine fn_enter Tryd.func58 rfl rfl ?_
  refine fa ?_
  refine ldb hb rfl ?_
  refine ar64 (by omega) ?_
  refine fa ?_
  refine st hb (by show 0 + 1 < 12; omega) rfl fun w1 hb1 hu1 hs1 => ?_
  have hb1 : Blk w1 p TRd (rdV rest (a + 1) c cv pv dv) := hb1
  refine fa ?_
  refine ldb hb1 rfl ?_
  refine cl (cut_g rest 10 (by omega) w1) ?_
  rintro _ w2 ⟨rfl, hu2⟩
  have hb2 := hb1.upd hu2 (by simp)
  have hU2 : Upd [p] w w2 := hu1.trans (hu2.mono (by simp))
  unfold cutG nextL
  cases hc : cutC 10 rest with
  | none => exact ⟨rfl, hb2, hU2⟩
  | some q =>
    obtain ⟨x, y⟩ := q
    refine fa ?_
    refine st hb2 (by show 0 + 0 < 12; omega) rfl fun w3 hb3 hu3 hs3 => ?_
    exact ⟨rfl, hb3, hU2.trans hu3⟩
theorem peek_c {w : World} {p : Nat} {rest x : List UInt8} {a : Int} {c : Cf} {cv pv dv : Value} (hb : Blk w p TRd (rdV rest a c cv pv dv)) :
    Fn Tryd.prog 59 #[.pointer (some ⟨p, 0, none⟩), .string (by8 x)] w fun r w' => r = .bool (decide (rest.take x.length = x)) ∧ w' = w := by
  refine fn_enter Tryd.func59 rfl rfl ?_
  refine fa ?_
  refine ldb hb rfl ?_
  refine cl (hasp_g rest x w) ?_
  rintro _ w1 ⟨rfl, rfl⟩
  exact ⟨rfl, rfl⟩
theorem end_c {w : World} {p : Nat} {rest : List UInt8} {a : Int} {c : Cf} {cv pv dv : Value} (hb : Blk w p TRd (rdV rest a c cv pv dv)) (ha : 0 ≤ a ∧ a ≤ 1000000) :
    Fn Tryd.prog 36 #[.pointer (some ⟨p, 0, none⟩)] w fun r w' => r = .bool (decide (rest = [])) ∧ Blk w' p TRd (rdV rest (a + 1) c cv pv dv) ∧ Upd [p] w w' := by
  refine fn_enter Tryd.func36 rfl rfl ?_
  refine fa ?_
  refine fa ?_
  refine ldb hb rfl ?_
  refine ar64 (by omega) ?_
  refine fa ?_
  refine fa ?_
  refine st hb (by show 0 + 0 + 1 < 12; omega) rfl fun w1 hb1 hu1 hs1 => ?_
  have hb1 : Blk w1 p TRd (rdV rest (a + 1) c cv pv dv) := hb1
  refine fa ?_
  refine fa ?_
  refine ldb hb1 rfl ?_
  refine ⟨?_, hb1, hu1⟩
  refine congrArg Value.bool ?_
  rw [by8_list, ByteArray.toList_eq]
  show (rest == []) = _
  cases rest <;> simp
end Go.Proofs.YtlhbgnoghjendaaDoor

/- Scenes: the reader reads the configuration. -/
namespace Go.Proofs.YtlhbgnoghjendaaDoor
open Go.RowKit
attribute [local irreducible] Instr.loadAt Instr.storeAt Instr.fieldAt Instr.indexAt Instr.sliceAt Instr.buildSlice Instr.box Instr.alloc Builtin.append_ Builtin.len_ Builtin.min_ Builtin.max_ Calls Instr.build Instr.makeSlice binSem convert Instr.index Instr.range Instr.next
theorem sto {P : Program} {t n g T o : Nat} [AggT P t n] {K : World → Prop} {w : World} {cs new : Array Value} (hb : Blk w g T cs) (hl : o + n ≤ cs.size) (hn : new.toList.length = n) (h1 : new.toList.all (·.oneCell') = true)
    (k : ∀ w', Blk w' g T (new.toList.zipIdx.foldl (fun cs (p : Value × Nat) => cs.setIfInBounds (o + p.2) p.1) cs) → Upd [g] w w' → w'.heap.size = w.heap.size → K w') : RunU P (Instr.storeAt t (.pointer (some ⟨g, o, none⟩)) (.agg new)) K w := by
  obtain ⟨h2, h3, h4⟩ := run_setCells_blk g T new.toList o w cs hb
  refine ⟨⟨_, run_storeAt_mid w g o t new (fun j hj => ?_) (by rw [AggT.i (P := P) (t := t) (n := n)]; simpa using hn.symm) (by rw [← Array.all_toList]; exact h1), k _ h2 h3 h4⟩⟩
  refine ⟨?_, hb.frozen (o + j)⟩
  rw [hb.cell]
  simp at hn
  simp; omega
theorem nextL_len (rest : List UInt8) : (nextL rest).1.length ≤ rest.length ∧ (nextL rest).2.1.length ≤ rest.length := by
  unfold nextL
  cases hc : cutC 10 rest with
  | none => exact ⟨Nat.le_refl _, Nat.le_refl _⟩
  | some q =>
    obtain ⟨x, y⟩ := q
    obtain ⟨-, h2, -⟩ := cutC_some 10 rest x y hc
    have := congrArg List.length h2
    rw [List.length_append, List.length_cons] at this
    exact ⟨by simp only; omega, by simp only; omega⟩
theorem sto_rd (rest : List UInt8) (a : Int) (c0 c : Cf) (cv pv dv : Value) : ((cf7 c).toList.zipIdx.foldl (fun cs (p : Value × Nat) => cs.setIfInBounds (0 + 2 + 0 + p.2) p.1) (rdV rest a c0 cv pv dv)) = rdV rest a c cv pv dv := by
  obtain ⟨A, T, N, L, B, P, S⟩ := c
  apply Array.ext'
  simp [cf7, rdV, List.zipIdx]
set_option maxRecDepth 10000 in
theorem conf_r {w : World} {p : Nat} {rest : List UInt8} {a : Int} {c0 : Cf} {cv pv dv : Value} (hb : Blk w p TRd (rdV rest a c0 cv pv dv)) (hl : rest.length ≤ 1000000) (ha : 0 ≤ a ∧ a ≤ 1000000) :
    Fn Tryd.prog 32 #[.pointer (some ⟨p, 0, none⟩)] w fun r w' => ∃ c e, r = .bool ((nextL rest).2.2 && decide (e = 0)) ∧ CfR (nextL rest).1 e c ∧ Blk w' p TRd (rdV (nextL rest).2.1 (a + 1) c cv pv dv) ∧ Upd [p] w w' := by
  have hlen := nextL_len rest
  refine fn_enter Tryd.func32 rfl rfl ?_
  refine fa ?_
  refine cl (next_c hb hl ha) ?_
  rintro _ w1 ⟨rfl, hb1, hu1⟩
  generalize nextL rest = q at *
  obtain ⟨line, rest', ok⟩ := q
  simp only at hlen
  refine cl (cparse_c line (by omega) w1) ?_
  rintro _ w2 ⟨⟨c, e, rfl, hcf⟩, hu2⟩
  have hb2 := hb1.upd hu2 (by simp)
  have hlt := hb2.lt
  refine al (cf7 zC) (fun _ => by kernel_rfl) fun w3 hb3 hu3 hs3 => ?_
  refine stw hb3 rfl (cf7_len c) (cf7_one c) fun w4 hb4 hu4 hs4 => ?_
  have hu34 : Upd [] w2 w4 := hu3.step hu4 (by simp)
  have hb24 := hb2.upd hu34 (by simp)
  refine ldw hb4 (cf7_len c) ?_
  refine fa ?_
  refine fa ?_
  refine sto (n := 7) hb24 (by show 0 + 2 + 0 + 7 ≤ 12; omega) (cf7_len c) (cf7_one c) fun w5 hb5 hu5 hs5 => ?_
  rw [sto_rd] at hb5
  have hU : Upd [p] w w5 := ((hu1.trans (hu2.mono (by simp))).trans (hu34.mono (by simp))).trans hu5
  cases ok with
  | false => exact ⟨c, e, rfl, hcf, hb5, hU⟩
  | true => exact ⟨c, e, rfl, hcf, hb5, hU⟩
end Go.Proofs.YtlhbgnoghjendaaDoor

/- Scenes: the reader reads the draws. -/
namespace Go.Proofs.YtlhbgnoghjendaaDoor
open Go.RowKit
attribute [local irreducible] Instr.loadAt Instr.storeAt Instr.fieldAt Instr.indexAt Instr.sliceAt Instr.buildSlice Instr.box Instr.alloc Builtin.append_ Builtin.len_ Builtin.min_ Builtin.max_ Calls Instr.build Instr.makeSlice binSem convert Instr.index Instr.range Instr.next
theorem or16 {P : Program} {K : Value → World → Prop} {w : World} {t : Nat} {x y : Operand} {a b : Nat} (ha : a < 16) (hb : b < 16) (k : K (.int .i64 ((16 * a + b : Nat) : Int)) w) : RunP P (binSem .or t x y (.int .i64 ((16 * a : Nat) : Int)) (.int .i64 (b : Int))) K w :=
  rn _ _ (by
    have e : ((BitVec.ofInt 64 ((16 * a : Nat) : Int) ||| BitVec.ofInt 64 (b : Int)).toNat) = 16 * a + b := by
      rw [BitVec.toNat_or, BitVec.toNat_ofInt, BitVec.toNat_ofInt]
      rw [show (((16 * a : Nat) : Int) % (2 ^ 64 : Nat)).toNat = 2 ^ 4 * a by omega, show ((b : Int) % (2 ^ 64 : Nat)).toNat = b by omega, ← Nat.two_pow_add_eq_or_of_lt (i := 4) (by omega) a]
    have e2 : IntKind.i64.wrap ((16 * a + b : Nat) : Int) = ((16 * a + b : Nat) : Int) := IntWalk.i64_in _ (by omega)
    simp only [binSem, eqGuard, binOp, Op.intBits]
    show (Sem.pure (Value.int IntKind.i64 (IntKind.i64.wrap ((BitVec.ofInt 64 ((16 * a : Nat) : Int) ||| BitVec.ofInt 64 (b : Int)).toNat : Int)))).run P w = _
    rw [e, e2]
    rfl) k
theorem sibyte_hex (c : UInt8) (w : World) : Fn Tryd.prog 62 #[.string (by8 hexD), .int .u8 (c.toNat : Int)] w fun r w' => r = .int .i64 (nibB c) ∧ w' = w :=
  (sibyte_g hexD (c.toNat : Int) w).mono fun _ _ ⟨u, he, h1, h2⟩ => ⟨u, he, by rw [h1, ← hex_nib]; simp, h2⟩
/-- what reading the draws leaves: the reader's block, and the bytes if the line is right -/
def DrR (w w' : World) (p : Nat) (rest : List UInt8) (a : Int) (c : Cf) (cv pv : Value) (b : Bool) : Prop :=
  (b = true ∧ (nextL rest).2.2 = true ∧ ∃ L v, drawsLine (nextL rest).1 = some L ∧ (∀ d ∈ L, 0 ≤ d ∧ d ≤ 255) ∧ Blk w' p TRd (rdV (nextL rest).2.1 (a + 1) c cv pv v) ∧ Sl w' 5 1 v L.length (L.map (.int .u8)) ∧ ∀ g, v.ownBlock = some g → w.heap.size ≤ g)
  ∨ (b = false ∧ ((nextL rest).2.2 = false ∨ drawsLine (nextL rest).1 = none) ∧ ∃ v, Blk w' p TRd (rdV (nextL rest).2.1 (a + 1) c cv pv v))
set_option maxRecDepth 10000 in
theorem draws_r {w : World} {p : Nat} {rest : List UInt8} {a : Int} {c : Cf} {cv pv : Value} (hb : Blk w p TRd (rdV rest a c cv pv (.slice none 0 0))) (hl : rest.length ≤ 90000) (ha : 0 ≤ a ∧ a ≤ 1000000) :
    Fn Tryd.prog 35 #[.pointer (some ⟨p, 0, none⟩)] w fun r w' => ∃ b, r = .bool b ∧ DrR w w' p rest a c cv pv b ∧ Upd [p] w w' := by
  have hlen := nextL_len rest
  unfold DrR
  refine fn_enter Tryd.func35 rfl rfl ?_
  refine fa ?_
  refine cl (next_c hb (by omega) ha) ?_
  rintro _ w1 ⟨rfl, hb1, hu1⟩
  generalize nextL rest = q at *
  obtain ⟨line, rest', ok⟩ := q
  simp only at hlen hb1 ⊢
  refine cl (split_g line 32 (by omega) w1) ?_
  rintro lv w2 ⟨hS, hu2⟩
  have hb2 := hb1.upd hu2 (by simp)
  have hU2 : Upd [p] w w2 := hu1.trans (hu2.mono (by simp))
  cases ok with
  | false => exact ⟨false, rfl, .inr ⟨rfl, .inl rfl, _, hb2⟩, hU2⟩
  | true =>
    have hcl : line.count 32 ≤ line.length := List.count_le_length
    have hpl := partsC_len 32 line
    unfold drawsLine
    generalize partsC 32 line = ps at *
    have hne := hS.blk_ne hb2 (by decide)
    have hR := RdN.of_sl hS
    obtain ⟨va, vc, rfl, hc1, hc2⟩ := hR.form
    simp only [maxLen] at hc2
    obtain ⟨b, o, c', he, -⟩ := hR.some_ (by omega)
    cases he
    have hrd : ∀ w', Upd [p] w2 w' → ∀ i, i < ps.length → w'.cell? ⟨b, o + i * 1, none⟩ = some (.string (by8 (ps.getD i []))) := fun w' hu i hi => by
      rw [(RdN.of_sl (hS.upd hu (fun g hg => by simp only [List.mem_singleton]; rintro rfl; exact hne hg))).one rfl i hi]; exact strB_at ps i hi
    refine ix 0 rfl (by omega) ?_
    refine ld (hrd w2 (Upd.refl _ _) 0 (by omega)) ?_
    refine cd (fun hq => ?_) (fun hq => ?_)
    · rw [by8_list, ByteArray.toList_eq] at hq
      have hq : ps.getD 0 [] ≠ s_draws := hq
      exact ⟨false, rfl, .inr ⟨rfl, .inr (if_neg hq), _, hb2⟩, hU2⟩
    rw [by8_list, ByteArray.toList_eq] at hq
    have heq : ps.getD 0 [] = s_draws := Classical.not_not.1 hq
    rw [if_pos heq]
    refine sl_lo 1 rfl (by omega) ?_
    obtain ⟨A, hA⟩ : ∃ A, A = (if vc = 1 then (some ⟨b, o, none⟩ : Option Addr) else (some ⟨b, o, none⟩ : Option Addr).map (·.add (1 * 1))) := ⟨_, rfl⟩
    rw [← hA]
    refine len_sl ?_
    obtain ⟨O, hO⟩ : ∃ O, O = drawsP [] (ps.drop 1) := ⟨_, rfl⟩
    rw [← hO]
    have hz2 := hU2.size
    have hp2 := hb2.lt
    refine loop_rule [0, 28, 29] [30] (fun vs w' m => ∃ (i : Nat) (acc : List Int) (v : Value), vs = [.int .i64 i] ∧ i + 1 ≤ ps.length ∧ m = ps.length - 1 - i ∧ drawsP acc (ps.drop (i + 1)) = O ∧ acc.length = i ∧ (∀ d ∈ acc, 0 ≤ d ∧ d ≤ 255) ∧ Blk w' p TRd (rdV rest' (a + 1) c cv pv v) ∧ Sl w' 5 1 v acc.length (acc.map (.int .u8)) ∧ (∀ g, v.ownBlock = some g → w2.heap.size ≤ g) ∧ Upd [p] w2 w') rfl [.int .i64 0] (ps.length - 1 - 0) rfl
      ⟨0, [], _, rfl, by omega, rfl, hO.symm, rfl, by simp, hb2, Sl.nil_ _ _ _, by simp [Value.ownBlock], Upd.refl _ _⟩ ?_
    rintro _ w3 m ⟨i, acc, v, rfl, hi, rfl, hP, hacc, hby, hb3, hS3, hown, hU3⟩
    have hUw := hU2.trans hU3
    have hw3 := hU3.size
    refine cd (fun hlt => ?_) (fun hlt => ?_)
    · have hlt : i + 1 < ps.length := by omega
      obtain rfl : A = some ⟨b, o + 1, none⟩ := by rw [hA, if_neg (by omega)]; simp [Addr.add_lit]
      rw [drop_at ps (i + 1) hlt] at hP
      have hcell := hrd w3 hU3 (i + 1) hlt
      rw [show o + (i + 1) * 1 = o + 1 + i * 1 by omega] at hcell
      generalize ps.getD (i + 1) [] = x at *
      have hsz := by8_size x
      have hn0 := nibB_le (x.getD 0 0)
      have hn1 := nibB_le (x.getD 1 0)
      have hbad : byteP x = none → O = none := fun h => by rw [← hP, drawsP, h]
      refine ix i rfl (by omega) ?_
      refine ld hcell ?_
      refine len_str ?_
      by_cases h2 : ((by8 x).size : Int) ≠ 2
      · refine cY h2 ?_
        exact ⟨false, rfl, .inr ⟨rfl, .inr (hbad (if_neg (fun h => by omega))), _, hb3⟩, hUw⟩
      refine cN h2 ?_
      have hx2 : x.length = 2 := by omega
      refine draw_all (fun w' => w' = w3.drew) (by decide +kernel) rfl ?_
      refine rq (.int .u8 ((x.getD 0 0).toNat : Int)) (fun _ _ => ixs 0 rfl (by omega) (by rw [by8_at]; exact ⟨rfl, rfl⟩)) ?_
      refine q_cl (.int .i64 (nibB (x.getD 0 0))) (fun w' hw' => (sibyte_hex (x.getD 0 0) w').mono fun _ _ ⟨u, he, h1, h2⟩ => ⟨u, he, h1, by rw [h2]; exact hw'⟩) ?_
      refine rq (.int .u8 ((x.getD 1 0).toNat : Int)) (fun _ _ => ixs 1 rfl (by omega) (by rw [by8_at]; exact ⟨rfl, rfl⟩)) ?_
      refine q_cl (.int .i64 (nibB (x.getD 1 0))) (fun w' hw' => (sibyte_hex (x.getD 1 0) w').mono fun _ _ ⟨u, he, h1, h2⟩ => ⟨u, he, h1, by rw [h2]; exact hw'⟩) ?_
      rintro _ rfl
      have hb4 := hb3.drew
      by_cases h0 : nibB (x.getD 0 0) < 0
      · refine cY h0 ?_
        exact ⟨false, rfl, .inr ⟨rfl, .inr (hbad (if_neg (fun h => by omega))), _, hb4⟩, hUw.drew⟩
      refine cN h0 ?_
      refine cd (fun h1 => ?_) (fun h1 => ?_)
      · exact ⟨false, rfl, .inr ⟨rfl, .inr (hbad (if_neg (fun h => by omega))), _, hb4⟩, hUw.drew⟩
      have hgood : byteP x = some (16 * nibB (x.getD 0 0) + nibB (x.getD 1 0)) := if_pos ⟨hx2, by omega, by omega⟩
      rw [drawsP, hgood] at hP
      obtain ⟨n0, hn0e⟩ := Int.eq_ofNat_of_zero_le (show 0 ≤ nibB (x.getD 0 0) by omega)
      obtain ⟨n1, hn1e⟩ := Int.eq_ofNat_of_zero_le (show 0 ≤ nibB (x.getD 1 0) by omega)
      rw [hn0e, hn1e] at hP ⊢
      rw [hn0e] at hn0
      rw [hn1e] at hn1
      refine fa ?_
      refine fa ?_
      refine ldb hb4 (v := v) rfl ?_
      refine sh_l (by decide) ?_
      refine val ((16 * n0 : Nat) : Int) (by rw [show min (4 : Int).toNat IntKind.i64.bits = 4 by decide, show (2 : Int) ^ 4 = 16 by decide]; rw [show (n0 : Int) * 16 = ((16 * n0 : Nat) : Int) by omega]; exact IntWalk.i64_in _ (by omega)) ?_
      refine or16 (by omega) (by omega) ?_
      refine Go.Proofs.YtlhbgnoghjendaaDoor.cv ?_
      refine ar8 (by omega) ?_
      refine bs #[.int .u8 ((16 * n0 + n1 : Nat) : Int)] (fun _ => by kernel_rfl) fun w5 hb5 hu5 hs5 => ?_
      have hS5 := (hS3.upd (Upd.refl [] w3).drew (by simp)).upd hu5 (by simp)
      have hb45 := hb4.upd hu5 (by simp)
      refine apg hS5 hb5 rfl rfl (by decide) (by simp only [maxLen]; omega) (by omega) fun v6 w6 hs6 hG6 => ?_
      have hnp : v.ownBlock ≠ some p := hS3.blk_ne hb3 (by decide)
      have hb6 := hG6.blk hb45 hnp
      have hU5 : Upd [p] w2 w5 := hU3.drew.trans (hu5.mono (by simp))
      refine fa ?_
      refine fa ?_
      have hone : v6.oneCell' = true := by
        obtain ⟨_, _, e6, -⟩ := hs6.form
        rw [e6]; rfl
      refine st hb6 (by show 0 + 2 + 9 < 12; omega) hone fun w7 hb7 hu7 hs7 => ?_
      have hb7 : Blk w7 p TRd (rdV rest' (a + 1) c cv pv v6) := hb7
      have hnp6 : v6.ownBlock ≠ some p := hs6.blk_ne hb6 (by decide)
      have hs7 := hs6.upd hu7 (fun g hg => by simp only [List.mem_singleton]; rintro rfl; exact hnp6 hg)
      have hU7 : Upd [p] w2 w7 := (hU5.step hG6.up (fun x hx => .inr (hown x (by simpa using hx)))).trans hu7
      refine ar64 (by omega) ?_
      refine round_mk [.int .i64 ((i + 1 : Nat) : Int)] (ps.length - 1 - (i + 1)) rfl rfl ⟨i + 1, acc ++ [((16 * n0 + n1 : Nat) : Int)], v6, rfl, by omega, rfl, ?_, by simp [hacc], fun d hd => ?_, hb7, by rw [List.length_append, List.map_append]; exact hs7, fun g hg => ?_, hU7⟩ (by omega)
      · rw [← hP]; rfl
      · rcases List.mem_append.1 hd with hd | hd
        · exact hby d hd
        · simp only [List.mem_singleton] at hd
          omega
      · rcases hG6.own g hg with h | h
        · exact hown g h
        · have := hU5.size; omega
    · have hie : i + 1 = ps.length := by omega
      rw [hie, List.drop_length] at hP
      exact ⟨true, rfl, .inl ⟨rfl, rfl, acc, v, by rw [← hP]; rfl, hby, hb3, hS3, fun g hg => by have := hown g hg; omega⟩, hUw⟩
end Go.Proofs.YtlhbgnoghjendaaDoor

/- Scenes: the reader reads the picks. -/
namespace Go.Proofs.YtlhbgnoghjendaaDoor
open Go.RowKit
attribute [local irreducible] Instr.loadAt Instr.storeAt Instr.fieldAt Instr.indexAt Instr.sliceAt Instr.buildSlice Instr.box Instr.alloc Builtin.append_ Builtin.len_ Builtin.min_ Builtin.max_ Calls Instr.build Instr.makeSlice binSem convert Instr.index Instr.range Instr.next
/-- what reading the picks leaves -/
def PcR (w w' : World) (p : Nat) (rest : List UInt8) (a : Int) (c : Cf) (kv dv : Value) (b : Bool) : Prop :=
  (b = true ∧ (nextL rest).2.2 = true ∧ ∃ L v, picksLine c.T (nextL rest).1 = some L ∧ L.length ≤ 60001 ∧ Blk w' p TRd (rdV (nextL rest).2.1 (a + 1) c kv v dv) ∧ Sl w' 3 1 v L.length (L.map (.int .i64)) ∧ ∀ g, v.ownBlock = some g → w.heap.size ≤ g)
  ∨ (b = false ∧ ((nextL rest).2.2 = false ∨ picksLine c.T (nextL rest).1 = none) ∧ ∃ v, Blk w' p TRd (rdV (nextL rest).2.1 (a + 1) c kv v dv))
set_option maxRecDepth 10000 in
theorem picks_r {w : World} {p : Nat} {rest : List UInt8} {a : Int} {c : Cf} {kv dv : Value} (hb : Blk w p TRd (rdV rest a c kv (.slice none 0 0) dv)) (hl : rest.length ≤ 90000) (ha : 0 ≤ a ∧ a ≤ 1000000) :
    Fn Tryd.prog 34 #[.pointer (some ⟨p, 0, none⟩)] w fun r w' => ∃ b, r = .bool b ∧ PcR w w' p rest a c kv dv b ∧ Upd [p] w w' := by
  have hlen := nextL_len rest
  unfold PcR
  refine fn_enter Tryd.func34 rfl rfl ?_
  refine fa ?_
  refine cl (next_c hb (by omega) ha) ?_
  rintro _ w1 ⟨rfl, hb1, hu1⟩
  generalize nextL rest = q at *
  obtain ⟨line, rest', ok⟩ := q
  simp only at hlen hb1 ⊢
  refine cl (split_g line 32 (by omega) w1) ?_
  rintro lv w2 ⟨hS, hu2⟩
  have hb2 := hb1.upd hu2 (by simp)
  have hU2 : Upd [p] w w2 := hu1.trans (hu2.mono (by simp))
  cases ok with
  | false => exact ⟨false, rfl, .inr ⟨rfl, .inl rfl, _, hb2⟩, hU2⟩
  | true =>
    have hcl : line.count 32 ≤ line.length := List.count_le_length
    have hpl := partsC_len 32 line
    have hple := parts_le 32 line
    have hpno := partsC_mem 32 line
    unfold picksLine
    generalize partsC 32 line = ps at *
    have hne := hS.blk_ne hb2 (by decide)
    have hR := RdN.of_sl hS
    obtain ⟨va, vc, rfl, hc1, hc2⟩ := hR.form
    simp only [maxLen] at hc2
    obtain ⟨b, o, c', he, -⟩ := hR.some_ (by omega)
    cases he
    have hrd : ∀ w', Upd [p] w2 w' → ∀ i, i < ps.length → w'.cell? ⟨b, o + i * 1, none⟩ = some (.string (by8 (ps.getD i []))) := fun w' hu i hi => by
      rw [(RdN.of_sl (hS.upd hu (fun g hg => by simp only [List.mem_singleton]; rintro rfl; exact hne hg))).one rfl i hi]; exact strB_at ps i hi
    refine ix 0 rfl (by omega) ?_
    refine ld (hrd w2 (Upd.refl _ _) 0 (by omega)) ?_
    refine cd (fun hq => ?_) (fun hq => ?_)
    · rw [by8_list, ByteArray.toList_eq] at hq
      have hq : ps.getD 0 [] ≠ s_picks := hq
      exact ⟨false, rfl, .inr ⟨rfl, .inr (if_neg hq), _, hb2⟩, hU2⟩
    rw [by8_list, ByteArray.toList_eq] at hq
    have heq : ps.getD 0 [] = s_picks := Classical.not_not.1 hq
    rw [if_pos heq]
    refine sl_lo 1 rfl (by omega) ?_
    obtain ⟨A, hA⟩ : ∃ A, A = (if vc = 1 then (some ⟨b, o, none⟩ : Option Addr) else (some ⟨b, o, none⟩ : Option Addr).map (·.add (1 * 1))) := ⟨_, rfl⟩
    rw [← hA]
    refine len_sl ?_
    obtain ⟨O, hO⟩ : ∃ O, O = picksP c.T (-1) [] (ps.drop 1) := ⟨_, rfl⟩
    rw [← hO]
    have hz2 := hU2.size
    have hp2 := hb2.lt
    refine loop_rule [0, 30, 31] [6, 32] (fun vs w' m => ∃ (i : Nat) (last : Int) (acc : List Int) (v : Value), vs = [.int .i64 last, .int .i64 i] ∧ i + 1 ≤ ps.length ∧ m = ps.length - 1 - i ∧ picksP c.T last acc (ps.drop (i + 1)) = O ∧ acc.length ≤ 60001 ∧ Blk w' p TRd (rdV rest' (a + 1) c kv v dv) ∧ Sl w' 3 1 v acc.length (acc.map (.int .i64)) ∧ (∀ g, v.ownBlock = some g → w2.heap.size ≤ g) ∧ Upd [p] w2 w') rfl [.int .i64 (-1), .int .i64 0] (ps.length - 1 - 0) rfl
      ⟨0, -1, [], _, rfl, by omega, rfl, hO.symm, by simp, hb2, Sl.nil_ _ _ _, by simp [Value.ownBlock], Upd.refl _ _⟩ ?_
    rintro _ w3 m ⟨i, last, acc, v, rfl, hi, rfl, hP, hacc, hb3, hS3, hown, hU3⟩
    have hUw := hU2.trans hU3
    have hw3 := hU3.size
    refine cd (fun hlt => ?_) (fun hlt => ?_)
    · have hlt : i + 1 < ps.length := by omega
      obtain rfl : A = some ⟨b, o + 1, none⟩ := by rw [hA, if_neg (by omega)]; simp [Addr.add_lit]
      have hmem : ps.getD (i + 1) [] ∈ ps := by simp [List.getD, hlt]
      have hxl := hple _ hmem
      have hx32 := hpno _ hmem
      rw [drop_at ps (i + 1) hlt] at hP
      have hcell := hrd w3 hU3 (i + 1) hlt
      rw [show o + (i + 1) * 1 = o + 1 + i * 1 by omega] at hcell
      generalize ps.getD (i + 1) [] = x at *
      refine ix i rfl (by omega) ?_
      refine ld hcell ?_
      refine cl (row_c x (by omega) hx32 w3) ?_
      rintro _ w4 ⟨⟨t, n, bb, rfl, hr⟩, hu4⟩
      have hb4 := hb3.upd hu4 (by simp)
      have hS4 := hS3.upd hu4 (by simp)
      have hU4 : Upd [p] w2 w4 := hU3.trans (hu4.mono (by simp))
      have hUw4 := hU2.trans hU4
      cases bb with
      | false =>
        have hO' : O = none := by
          rw [← hP]; unfold picksP
          cases hq : rowP x with
          | none => rfl
          | some y =>
            obtain ⟨t', n'⟩ := y
            cases (hr.forth t' n' ((rowP_iff x t' n').1 hq)).1
        exact ⟨false, rfl, .inr ⟨rfl, .inr hO', _, hb4⟩, hUw4⟩
      | true =>
        obtain ⟨t', n', rfl, rfl, hrow⟩ := hr.back rfl
        have hq := (rowP_iff x t' n').2 hrow
        have hP2 : picksP c.T last acc (x :: ps.drop (i + 1 + 1)) = if (t' : Int) < c.T ∧ (t' : Int) ≠ last then picksP c.T t' (growP acc t' n') (ps.drop (i + 1 + 1)) else none := by
          rw [picksP, hq]
        rw [hP2] at hP
        by_cases hla : (t' : Int) = last
        · refine cY hla ?_
          exact ⟨false, rfl, .inr ⟨rfl, .inr (by rw [← hP]; exact if_neg (fun h => h.2 hla)), _, hb4⟩, hUw4⟩
        refine cN hla ?_
        refine fa ?_
        refine fa ?_
        refine fa ?_
        refine ldb hb4 (v := .int .i64 c.T) rfl ?_
        refine cd (fun hge => ?_) (fun hge => ?_)
        · exact ⟨false, rfl, .inr ⟨rfl, .inr (by rw [← hP]; exact if_neg (fun h => by omega)), _, hb4⟩, hUw4⟩
        rw [if_pos ⟨by omega, hla⟩] at hP
        obtain ⟨-, hn1, hn6, -⟩ := hrow
        obtain ⟨a3, c3', e3, -⟩ := hS4.form
        subst e3
        refine fa ?_
        refine fa ?_
        refine ldb hb4 rfl ?_
        refine len_sl ?_
        refine ar64 (by omega) ?_
        refine mn2 ?_
        obtain ⟨K, hK⟩ : ∃ K, K = min n' (60001 - acc.length) := ⟨_, rfl⟩
        refine val (K : Int) (by split <;> omega) ?_
        refine loop_rule [0, 6, 9, 30, 31, 32, 68] [69] (fun vs w' m => ∃ (k : Nat) (v : Value), vs = [.int .i64 k] ∧ k ≤ K ∧ m = K - k ∧ Blk w' p TRd (rdV rest' (a + 1) c kv v dv) ∧ Sl w' 3 1 v (acc ++ List.replicate k (t' : Int)).length ((acc ++ List.replicate k (t' : Int)).map (.int .i64)) ∧ (∀ g, v.ownBlock = some g → w2.heap.size ≤ g) ∧ Upd [p] w2 w') rfl [.int .i64 0] K rfl
          ⟨0, _, rfl, by omega, rfl, hb4, by simpa using hS4, hown, hU4⟩ ?_
        rintro _ w5 m ⟨k, v5, rfl, hk, rfl, hb5, hS5, hown5, hU5⟩
        refine cd (fun hkl => ?_) (fun hkl => ?_)
        · have hkl : k < K := by omega
          have hln : (acc ++ List.replicate k (t' : Int)).length = acc.length + k := by simp
          refine fa ?_
          refine fa ?_
          refine ldb hb5 (v := v5) rfl ?_
          refine bs #[.int .i64 (t' : Int)] (fun _ => by kernel_rfl) fun w6 hb6 hu6 hs6 => ?_
          have hS6 := hS5.upd hu6 (by simp)
          have hb56 := hb5.upd hu6 (by simp)
          refine apg hS6 hb6 rfl rfl (by decide) (by simp only [maxLen]; omega) (by omega) fun v7 w7 hs7 hG7 => ?_
          have hnp : v5.ownBlock ≠ some p := hS5.blk_ne hb5 (by decide)
          have hb7 := hG7.blk hb56 hnp
          have hU6 : Upd [p] w2 w6 := hU5.trans (hu6.mono (by simp))
          have hone : v7.oneCell' = true := by
            obtain ⟨_, _, e6, -⟩ := hs7.form
            rw [e6]; rfl
          refine fa ?_
          refine fa ?_
          refine st hb7 (by show 0 + 2 + 8 < 12; omega) hone fun w8 hb8 hu8 hs8 => ?_
          have hb8 : Blk w8 p TRd (rdV rest' (a + 1) c kv v7 dv) := hb8
          have hnp7 : v7.ownBlock ≠ some p := hs7.blk_ne hb7 (by decide)
          have hs8' := hs7.upd hu8 (fun g hg => by simp only [List.mem_singleton]; rintro rfl; exact hnp7 hg)
          have hU8 : Upd [p] w2 w8 := (hU6.step hG7.up (fun x hx => .inr (hown5 x (by simpa using hx)))).trans hu8
          have hrep : acc ++ List.replicate (k + 1) (t' : Int) = (acc ++ List.replicate k (t' : Int)) ++ [(t' : Int)] := by rw [List.append_assoc, ← List.replicate_succ']
          refine ar64 (by omega) ?_
          refine round_mk [.int .i64 ((k + 1 : Nat) : Int)] (K - (k + 1)) rfl rfl ⟨k + 1, v7, rfl, by omega, rfl, hb8, ?_, fun g hg => ?_, hU8⟩ (by omega)
          · rw [hrep, List.length_append, List.map_append]; exact hs8'
          · rcases hG7.own g hg with h | h
            · exact hown5 g h
            · have := hU6.size; omega
        · have hkK : k = K := by omega
          have hgr : acc ++ List.replicate k (t' : Int) = growP acc t' n' := by unfold growP; rw [hkK, hK]
          rw [hgr] at hS5
          refine ar64 (by omega) ?_
          exact round_mk [.int .i64 (t' : Int), .int .i64 ((i + 1 : Nat) : Int)] (ps.length - 1 - (i + 1)) rfl rfl ⟨i + 1, (t' : Int), growP acc t' n', v5, rfl, by omega, rfl, hP, growP_len hacc t' n', hb5, hS5, hown5, hU5⟩ (by omega)
    · have hie : i + 1 = ps.length := by omega
      rw [hie, List.drop_length] at hP
      exact ⟨true, rfl, .inl ⟨rfl, rfl, acc, v, by rw [← hP]; rfl, hacc, hb3, hS3, fun g hg => by have := hown g hg; omega⟩, hUw⟩
end Go.Proofs.YtlhbgnoghjendaaDoor

/- Scripts that are the same: the reference (the old Dh, by names). -/
namespace Go.Proofs.YtlhbgnoghjendaaDoor
open Go.RowKit
attribute [local irreducible] Instr.loadAt Instr.storeAt Instr.fieldAt Instr.indexAt Instr.sliceAt Instr.buildSlice Instr.box Instr.alloc Builtin.append_ Builtin.len_ Builtin.min_ Builtin.max_ Calls Instr.build Instr.makeSlice binSem convert Instr.index Instr.range Instr.next
theorem conv0 {P : Program} {w : World} {s e d : Nat} (hs : P.underlying s = some (.slice e)) (he : P.underlying e = some (.int .u8)) (hd : P.underlying d = some .string) (a : Option Addr) (c : Nat) :
    (convert s d (.slice a 0 c)).run P w = .ok (.string (strOfNums [])) w := by
  cases a with
  | none => exact run_convert_bytes_nil w s e hs he 0 c d hd
  | some a =>
    rw [run_convert_bytes_string w s d e _ 0 c hs he hd, run_bytesToString w a 0 c [] (by
      have := run_loadCells_list (P := P) w a [] (fun j v hj => by simp at hj)
      simpa using this), foldl_push_bytes]
    simp [strOfNums, ByteArray.empty, ByteArray.emptyWithCapacity]
    rfl
theorem cvr {P : Program} {K : Value → World → Prop} {w : World} {s e d : Nat} [SlT P s e 1] [IntT P e .u8] [StrT P d] {v : Value} {ds : List Int} (h : RdK w .u8 v ds) (k : K (.string (strOfNums ds)) w) : RunP P (convert s d v) K w := by
  obtain ⟨a, cap, rfl, h1, h2, h5⟩ := h.h
  by_cases hl : ds.length = 0
  · have hl := List.eq_nil_of_length_eq_zero hl
    subst hl
    exact rn _ _ (conv0 (SlT.u (P := P) (t := s) (e := e) (n := 1)) (IntT.u (P := P) (t := e) (k := .u8)) StrT.u a cap) k
  · obtain ⟨b, o, rfl, hb, hc⟩ := h5 (by omega)
    exact cvb ds rfl hc k
theorem nqq {K' : Value → World → Prop} {w : World} {c : Cf} {x y : Operand} (k : K' (.bool false) w) : RunP Tryd.prog (binSem .neq 24 x y (.agg (cf7 c)) (.agg (cf7 c))) K' w :=
  anq (fits_cf _) (fits_cf _) (by rw [eq_cf]; exact k)
set_option maxRecDepth 10000 in
theorem same_c {w : World} {r1 r2 : Value} {c : Cf} {ls : List (List C3)} {ps ds : List Int} (h1 : Scr w c ls ps ds r1) (h2 : Scr w c ls ps ds r2) : Fn Tryd.prog 18 #[r1, r2] w fun r w' => r = .bool true ∧ Upd [] w w' := by
  obtain ⟨kv1, pv1, dv1, vals1, rfl, hc1, hp1, hd1⟩ := h1.h
  obtain ⟨kv2, pv2, dv2, vals2, rfl, hc2, hp2, hd2⟩ := h2.h
  refine fn_enter Tryd.func18 rfl rfl ?_
  refine bx fun w1 hb1 hu1 hs1 => ?_
  refine bx fun w2 hb2 hu2 hs2 => ?_
  have hb1 : Blk w2 w.heap.size TS (scV c kv1 pv1 dv1) := hb1.upd hu2 (by simp)
  have hb2 : Blk w2 w1.heap.size TS (scV c kv2 pv2 dv2) := hb2
  have hU := hu1.trans hu2
  have hc1 := hc1.upd0 hU
  have hc2 := hc2.upd0 hU
  have hp1 := hp1.upd0 hU
  have hp2 := hp2.upd0 hU
  have hd1 := hd1.upd0 hU
  have hd2 := hd2.upd0 hU
  generalize w.heap.size = q1 at *
  generalize w1.heap.size = q2 at *
  obtain ⟨ka1, kc1, hk1, hm1, hm1'⟩ := hc1.out.form
  obtain ⟨ka2, kc2, hk2, -⟩ := hc2.out.form
  obtain ⟨pa1, pc1, hpf1, hm2, hm2'⟩ := hp1.form
  simp only [maxLen] at hm1' hm2'
  obtain ⟨pa2, pc2, hpf2, -⟩ := hp2.form
  subst hk1; subst hk2; subst hpf1; subst hpf2
  refine fa ?_
  refine ldcf hb1 ?_
  refine fa ?_
  refine ldcf hb2 ?_
  refine nqq ?_
  refine fa ?_
  refine ldb hb1 rfl ?_
  refine len_sl ?_
  refine fa ?_
  refine ldb hb2 rfl ?_
  refine len_sl ?_
  refine cN (by simp) ?_
  refine fa ?_
  refine ldb hb1 rfl ?_
  refine len_sl ?_
  refine fa ?_
  refine ldb hb2 rfl ?_
  refine len_sl ?_
  refine cN (by simp) ?_
  refine fa ?_
  refine ldb hb1 rfl ?_
  refine cvr hd1 ?_
  refine fa ?_
  refine ldb hb2 rfl ?_
  refine cvr hd2 ?_
  refine cN (by simp) ?_
  refine loop_rule [2, 3] [5] (fun vs w' m => ∃ i : Nat, vs = [.int .i64 i] ∧ i ≤ ls.length ∧ m = ls.length - i ∧ Upd [] w2 w') rfl [.int .i64 0] ls.length rfl ⟨0, rfl, by omega, rfl, Upd.refl _ _⟩ ?_
  rintro _ w3 m ⟨i, rfl, hi, rfl, hU3⟩
  have gb1 := hb1.upd hU3 (by simp)
  have gb2 := hb2.upd hU3 (by simp)
  refine fa ?_
  refine ldb gb1 rfl ?_
  refine len_sl ?_
  refine cd (fun hlt => ?_) (fun hlt => ?_)
  · have hlt : i < ls.length := by omega
    obtain ⟨kb1, ko1, kc1', he, -⟩ := hc1.out.some_ (by omega)
    cases he
    obtain ⟨kb2, ko2, kc2', he, -⟩ := hc2.out.some_ (by omega)
    cases he
    obtain ⟨x1, hx1, hr1⟩ := hc1.at_ i hlt
    obtain ⟨x2, hx2, hr2⟩ := hc2.at_ i hlt
    obtain ⟨xa1, xc1, rfl, hm3, hm3'⟩ := hr1.form
    simp only [maxLen] at hm3'
    obtain ⟨xa2, xc2, rfl, -⟩ := hr2.form
    have cc1 : ∀ w', Upd [] w2 w' → CallsR w' _ ls vals1 := fun w' hu => hc1.upd0 hu
    have cc2 : ∀ w', Upd [] w2 w' → CallsR w' _ ls vals2 := fun w' hu => hc2.upd0 hu
    refine draw_all (fun w' => w' = w3.drew) (by decide +kernel) rfl ?_
    refine q_fa ?_
    refine q_ld (v := .slice (some ⟨kb1, ko1, none⟩) ls.length kc1) (by rintro _ rfl; exact (gb1).drew.cell 7) ?_
    refine q_ix i rfl hlt ?_
    refine q_ld (v := .slice xa1 (ls.getD i []).length xc1) (by rintro _ rfl; rw [(cc1 _ hU3.drew).out.one rfl i hlt]; exact hx1) ?_
    refine q_len ?_
    refine q_fa ?_
    refine q_ld (v := .slice (some ⟨kb2, ko2, none⟩) ls.length kc2) (by rintro _ rfl; exact (gb2).drew.cell 7) ?_
    refine q_ix i rfl hlt ?_
    refine q_ld (v := .slice xa2 (ls.getD i []).length xc2) (by rintro _ rfl; rw [(cc2 _ hU3.drew).out.one rfl i hlt]; exact hx2) ?_
    refine q_len ?_
    rintro _ rfl
    refine cN (by simp) ?_
    refine loop_rule [2, 3, 5] [6] (fun vs w' m => ∃ j : Nat, vs = [.int .i64 j] ∧ j ≤ (ls.getD i []).length ∧ m = (ls.getD i []).length - j ∧ Upd [] w2 w') rfl [.int .i64 0] _ rfl ⟨0, rfl, by omega, rfl, hU3.drew⟩ ?_
    rintro _ w4 m ⟨j, rfl, hj, rfl, hU4⟩
    have gb1 := hb1.upd hU4 (by simp)
    have gb2 := hb2.upd hU4 (by simp)
    refine fa ?_
    refine ldb gb1 rfl ?_
    refine ix i rfl hlt ?_
    refine ld (by rw [(cc1 _ hU4).out.one rfl i hlt]; exact hx1) ?_
    refine len_sl ?_
    refine cd (fun hlj => ?_) (fun hlj => ?_)
    · have hlj : j < (ls.getD i []).length := by omega
      obtain ⟨xb1, xo1, xc1', he, -⟩ := hr1.some_ (by omega)
      cases he
      obtain ⟨xb2, xo2, xc2', he, -⟩ := hr2.some_ (by omega)
      cases he
      refine draw_all (fun w' => w' = w4.drew) (by decide +kernel) rfl ?_
      refine q_fa ?_
      refine q_ld (v := .slice (some ⟨kb1, ko1, none⟩) ls.length kc1) (by rintro _ rfl; exact (gb1).drew.cell 7) ?_
      refine q_ix i rfl hlt ?_
      refine q_ld (v := .slice (some ⟨xb1, xo1, none⟩) (ls.getD i []).length xc1) (by rintro _ rfl; rw [(cc1 _ hU4.drew).out.one rfl i hlt]; exact hx1) ?_
      refine q_ix j rfl hlj ?_
      refine rq (.agg (cell3 ((ls.getD i []).getD j (0, 0, 0))).toArray) (by rintro _ rfl; exact ld3 (hr1.upd0 hU4.drew) rfl j hlj ⟨rfl, rfl⟩) ?_
      refine q_fa ?_
      refine q_ld (v := .slice (some ⟨kb2, ko2, none⟩) ls.length kc2) (by rintro _ rfl; exact (gb2).drew.cell 7) ?_
      refine q_ix i rfl hlt ?_
      refine q_ld (v := .slice (some ⟨xb2, xo2, none⟩) (ls.getD i []).length xc2) (by rintro _ rfl; rw [(cc2 _ hU4.drew).out.one rfl i hlt]; exact hx2) ?_
      refine q_ix j rfl hlj ?_
      refine rq (.agg (cell3 ((ls.getD i []).getD j (0, 0, 0))).toArray) (by rintro _ rfl; exact ld3 (hr2.upd0 hU4.drew) rfl j hlj ⟨rfl, rfl⟩) ?_
      refine rq (.bool false) (fun _ _ => anq rfl rfl ⟨by rw [eqCells_refl [.i .i64, .i .u32, .i .u32] _ rfl]; rfl, rfl⟩) ?_
      rintro _ rfl
      refine ar64 (by omega) ?_
      exact round_mk [.int .i64 ((j + 1 : Nat) : Int)] ((ls.getD i []).length - (j + 1)) rfl rfl ⟨j + 1, rfl, by omega, rfl, hU4.drew⟩ (by omega)
    · refine ar64 (by omega) ?_
      exact round_mk [.int .i64 ((i + 1 : Nat) : Int)] (ls.length - (i + 1)) rfl rfl ⟨i + 1, rfl, by omega, rfl, hU4⟩ (by omega)
  · refine loop_rule [2, 3] [7] (fun vs w' m => ∃ i : Nat, vs = [.int .i64 i] ∧ i ≤ ps.length ∧ m = ps.length - i ∧ Upd [] w2 w') rfl [.int .i64 0] ps.length rfl ⟨0, rfl, by omega, rfl, hU3⟩ ?_
    rintro _ w4 m ⟨i, rfl, hi, rfl, hU4⟩
    have gb1 := hb1.upd hU4 (by simp)
    have gb2 := hb2.upd hU4 (by simp)
    refine fa ?_
    refine ldb gb1 rfl ?_
    refine len_sl ?_
    refine cd (fun hlt => ?_) (fun hlt => ?_)
    · have hlt : i < ps.length := by omega
      obtain ⟨kb1, ko1, kc1', he, -⟩ := hp1.some_ (by omega)
      cases he
      obtain ⟨kb2, ko2, kc2', he, -⟩ := hp2.some_ (by omega)
      cases he
      refine draw_all (fun w' => w' = w4.drew) (by decide +kernel) rfl ?_
      refine q_fa ?_
      refine q_ld (v := .slice (some ⟨kb1, ko1, none⟩) ps.length pc1) (by rintro _ rfl; exact (gb1).drew.cell 8) ?_
      refine q_ix i rfl hlt ?_
      refine q_ld (v := .int .i64 (ps.getD i 0)) (by rintro _ rfl; exact (hp1.upd0 hU4.drew).at_ rfl i hlt) ?_
      refine q_fa ?_
      refine q_ld (v := .slice (some ⟨kb2, ko2, none⟩) ps.length pc2) (by rintro _ rfl; exact (gb2).drew.cell 8) ?_
      refine q_ix i rfl hlt ?_
      refine q_ld (v := .int .i64 (ps.getD i 0)) (by rintro _ rfl; exact (hp2.upd0 hU4.drew).at_ rfl i hlt) ?_
      rintro _ rfl
      refine cN (by simp) ?_
      refine ar64 (by omega) ?_
      exact round_mk [.int .i64 ((i + 1 : Nat) : Int)] (ps.length - (i + 1)) rfl rfl ⟨i + 1, rfl, by omega, rfl, hU4.drew⟩ (by omega)
    · exact ⟨rfl, hU.trans hU4⟩
end Go.Proofs.YtlhbgnoghjendaaDoor

/- Scenes: calls in memory that is written; what a text is told to be (plain). -/
namespace Go.Proofs.YtlhbgnoghjendaaDoor
open Go.RowKit
attribute [local irreducible] Instr.loadAt Instr.storeAt Instr.fieldAt Instr.indexAt Instr.sliceAt Instr.buildSlice Instr.box Instr.alloc Builtin.append_ Builtin.len_ Builtin.min_ Builtin.max_ Calls Instr.build Instr.makeSlice binSem convert Instr.index Instr.range Instr.next
structure CallsS (w : World) (v : Value) (ls : List (List C3)) (vals : List Value) : Prop where
  out : Sl w 68 1 v ls.length vals
  at_ : ∀ i, i < ls.length → ∃ x, vals[i]? = some x ∧ Sl w 67 3 x (ls.getD i []).length (cellsC (ls.getD i []))
  dj : ∀ (i j : Nat) (x y : Value) (g : Nat), i ≠ j → vals[i]? = some x → vals[j]? = some y → x.ownBlock = some g → y.ownBlock ≠ some g
theorem CallsS.rd {w : World} {v : Value} {ls : List (List C3)} {vals : List Value} (h : CallsS w v ls vals) : CallsR w v ls vals :=
  ⟨RdN.of_sl h.out, fun i hi => let ⟨x, h1, h2⟩ := h.at_ i hi; ⟨x, h1, RdN.of_sl h2⟩⟩
theorem CallsS.upd {S : List Nat} {w w' : World} {v : Value} {ls : List (List C3)} {vals : List Value} (h : CallsS w v ls vals) (hu : Upd S w w') (h1 : ∀ g, v.ownBlock = some g → g ∉ S) (h2 : ∀ x ∈ vals, ∀ g, x.ownBlock = some g → g ∉ S) : CallsS w' v ls vals :=
  ⟨h.out.upd hu h1, fun i hi => let ⟨x, hx, h3⟩ := h.at_ i hi; ⟨x, hx, h3.upd hu (h2 x (List.mem_of_getElem? hx))⟩, h.dj⟩
theorem CallsS.len {w : World} {v : Value} {ls : List (List C3)} {vals : List Value} (h : CallsS w v ls vals) : vals.length = ls.length := by have := h.out.1; simpa using this
/-- all blocks are those of the types, so others don't matter -/
theorem CallsS.far {g : Nat} {T : TypeId} {cs : Array Value} {w w' : World} {v : Value} {ls : List (List C3)} {vals : List Value} (h : CallsS w v ls vals) (hb : Blk w g T cs) (h1 : 68 ≠ T) (h2 : 67 ≠ T) (hu : Upd [g] w w') : CallsS w' v ls vals := by
  refine h.upd hu (fun k hk hm => ?_) (fun x hx k hk hm => ?_)
  · simp only [List.mem_singleton] at hm
    subst hm
    exact h.out.blk_ne hb h1 hk
  · simp only [List.mem_singleton] at hm
    subst hm
    obtain ⟨i, hi, rfl⟩ := List.mem_iff_getElem.1 hx
    obtain ⟨y, hy, hs⟩ := h.at_ i (by rw [← h.len]; exact hi)
    rw [List.getElem?_eq_getElem hi] at hy
    cases hy
    exact hs.blk_ne hb h2 hk
theorem CallsS.push {w w1 : World} {v v' x : Value} {ls : List (List C3)} {vals : List Value} {l : List C3} (h : CallsS w v ls vals) (hx : Sl w 67 3 x l.length (cellsC l)) (hd : ∀ y ∈ vals, ∀ g, y.ownBlock = some g → x.ownBlock ≠ some g)
    (hG : Grow w w1 v v') (hs : Sl w1 68 1 v' (ls.length + 1) (vals ++ [x])) : CallsS w1 v' (ls ++ [l]) (vals ++ [x]) := by
  have hkeep : ∀ {y : Value} {m : Nat} {xs : List Value}, Sl w 67 3 y m xs → Sl w1 67 3 y m xs := fun hy => hy.upd hG.up (fun k hk hm => by
    have := h.out.ne_ hy (by decide) k (by simpa using hm)
    exact this hk)
  refine ⟨by simpa using hs, fun i hi => ?_, fun i j y z g hij hy hz hg => ?_⟩
  · rw [List.length_append, List.length_singleton] at hi
    by_cases hlt : i < ls.length
    · obtain ⟨y, hy, hys⟩ := h.at_ i hlt
      refine ⟨y, by rw [List.getElem?_append_left (by rw [h.len]; exact hlt)]; exact hy, ?_⟩
      have e : (ls ++ [l]).getD i [] = ls.getD i [] := by simp [List.getD, List.getElem?_append_left hlt]
      rw [e]; exact hkeep hys
    · have hi : i = ls.length := by omega
      subst hi
      refine ⟨x, by rw [List.getElem?_append_right (by rw [h.len]; omega), h.len]; simp, ?_⟩
      have e : (ls ++ [l]).getD ls.length [] = l := by simp [List.getD]
      rw [e]; exact hkeep hx
  · rw [List.getElem?_append] at hy hz
    split at hy <;> split at hz
    · exact h.dj i j y z g hij hy hz hg
    · have : z = x := by
        rename_i h2
        have h3 : j - vals.length = 0 := by
          rcases Nat.eq_zero_or_pos (j - vals.length) with h4 | h4
          · exact h4
          · rw [List.getElem?_eq_none (by simp; omega)] at hz; cases hz
        rw [h3] at hz; simpa using hz.symm
      subst this
      exact hd y (List.mem_of_getElem? hy) g hg
    · have : y = x := by
        rename_i h2 _
        have h3 : i - vals.length = 0 := by
          rcases Nat.eq_zero_or_pos (i - vals.length) with h4 | h4
          · exact h4
          · rw [List.getElem?_eq_none (by simp; omega)] at hy; cases hy
        rw [h3] at hy; simpa using hy.symm
      subst this
      intro hz2
      exact hd z (List.mem_of_getElem? hz) g hz2 hg
    · rename_i h2 h3
      have h4 : i - vals.length = 0 := by
        rcases Nat.eq_zero_or_pos (i - vals.length) with h4 | h4
        · exact h4
        · rw [List.getElem?_eq_none (by simp; omega)] at hy; cases hy
      have h5 : j - vals.length = 0 := by
        rcases Nat.eq_zero_or_pos (j - vals.length) with h4 | h4
        · exact h4
        · rw [List.getElem?_eq_none (by simp; omega)] at hz; cases hz
      omega
theorem CallsS.grow {w w' : World} {v x x' : Value} {ls : List (List C3)} {vals : List Value} {e n m : Nat} {xs : List Value} (h : CallsS w v ls vals) (hs : Sl w e n x m xs) (h1 : 68 ≠ e) (h2 : 67 ≠ e) (hG : Grow w w' x x') : CallsS w' v ls vals := by
  refine h.upd hG.up (fun k hk hm => h.out.ne_ hs h1 k hk (by simpa using hm)) (fun y hy k hk hm => ?_)
  obtain ⟨i, hi, rfl⟩ := List.mem_iff_getElem.1 hy
  obtain ⟨y, hy, hys⟩ := h.at_ i (by rw [← h.len]; exact hi)
  rw [List.getElem?_eq_getElem hi] at hy
  cases hy
  exact hys.ne_ hs h2 k hk (by simpa using hm)
theorem CallsS.nil_ (w : World) : CallsS w (.slice none 0 0) [] [] := ⟨Sl.nil_ _ _ _, fun i hi => by simp at hi, fun i j x y g _ hx => by simp at hx⟩
theorem CallsS.lts {w : World} {v : Value} {ls : List (List C3)} {vals : List Value} (h : CallsS w v ls vals) : ∀ x ∈ vals, ∀ g, x.ownBlock = some g → g < w.heap.size := fun x hx g hg => by
  obtain ⟨i, hi, rfl⟩ := List.mem_iff_getElem.1 hx
  obtain ⟨y, hy, hs⟩ := h.at_ i (by rw [← h.len]; exact hi)
  rw [List.getElem?_eq_getElem hi] at hy
  cases hy
  exact hs.lt g hg
/-! ### The plain law -/
def p_thread : List UInt8 := [116,104,114,101,97,100,32]
def thrU (k : Nat) : List UInt8 := p_thread ++ decU k
def stopL (l : List UInt8) : Prop := l.take 7 = p_thread ∨ l.take 5 = s_picks
instance (l : List UInt8) : Decidable (stopL l) := by unfold stopL; exact inferInstance
/-- what a text is: its first wrong line, or a script -/
inductive Out where
  | bad (k : Nat)
  | good (c : Cf) (cs : List (List C3)) (ps ds : List Int)
def tail2P (more : Bool) (c : Cf) (cs : List (List C3)) (ps : List Int) (a : Nat) : List (List UInt8) → Out
  | [] => .bad (a + 1)
  | l :: L => match drawsLine l with
    | none => .bad (a + 1)
    | some ds => if L = [] ∧ more = false then .good c cs ps ds else .bad (a + 2)
def tailP (more : Bool) (c : Cf) (cs : List (List C3)) (a : Nat) : List (List UInt8) → Out
  | [] => .bad (a + 1)
  | l :: L => match picksLine c.T l with
    | none => .bad (a + 1)
    | some ps => tail2P more c cs ps (a + 1) L
def innerP (more : Bool) (c : Cf) : Nat → List (List C3) → List C3 → Nat → List (List UInt8) → Out
  | _, _, _, a, [] => .bad (a + 1)
  | k, cs, acc, a, l :: L => if stopL l then (if ((k + 1 : Nat) : Int) < c.T then (if l = thrU (k + 1) then innerP more c (k + 1) (cs ++ [acc]) [] (a + 1) L else .bad (a + 1)) else tailP more c (cs ++ [acc]) a (l :: L))
    else match parseR l with
      | none => .bad (a + 1)
      | some x => innerP more c k cs (acc ++ [x]) (a + 1) L
def betwP (more : Bool) (c : Cf) (k : Nat) (cs : List (List C3)) (a : Nat) (L : List (List UInt8)) : Out :=
  if (k : Int) < c.T then (match L with
    | [] => .bad (a + 1)
    | l :: L => if l = thrU k then innerP more c k cs [] (a + 1) L else .bad (a + 1)) else tailP more c cs a L
theorem betwP_nil (more : Bool) (c : Cf) (k : Nat) (cs : List (List C3)) (a : Nat) : betwP more c k cs a [] = .bad (a + 1) := by
  unfold betwP; split <;> rfl
theorem innerP_nil (more : Bool) (c : Cf) (k : Nat) (cs : List (List C3)) (acc : List C3) (a : Nat) : innerP more c k cs acc a [] = .bad (a + 1) := by
  unfold innerP; rfl
theorem innerP_stop (more : Bool) (c : Cf) (k : Nat) (cs : List (List C3)) (acc : List C3) (a : Nat) {l : List UInt8} (L : List (List UInt8)) (h : stopL l) : innerP more c k cs acc a (l :: L) = betwP more c (k + 1) (cs ++ [acc]) a (l :: L) := by
  rw [innerP, if_pos h]; rfl
theorem innerP_none (more : Bool) (c : Cf) (k : Nat) (cs : List (List C3)) (acc : List C3) (a : Nat) {l : List UInt8} (L : List (List UInt8)) (h : ¬ stopL l) (hp : parseR l = none) : innerP more c k cs acc a (l :: L) = .bad (a + 1) := by
  rw [innerP, if_neg h, hp]
theorem innerP_some (more : Bool) (c : Cf) (k : Nat) (cs : List (List C3)) (acc : List C3) (a : Nat) {l : List UInt8} (L : List (List UInt8)) (h : ¬ stopL l) {x : C3} (hp : parseR l = some x) : innerP more c k cs acc a (l :: L) = innerP more c k cs (acc ++ [x]) (a + 1) L := by
  rw [innerP, if_neg h, hp]
theorem betwP_yes (more : Bool) (c : Cf) (k : Nat) (cs : List (List C3)) (a : Nat) (L : List (List UInt8)) (h : (k : Int) < c.T) : betwP more c k cs a (thrU k :: L) = innerP more c k cs [] (a + 1) L := by
  unfold betwP; rw [if_pos h]; exact if_pos rfl
theorem betwP_no (more : Bool) (c : Cf) (k : Nat) (cs : List (List C3)) (a : Nat) {l : List UInt8} (L : List (List UInt8)) (h : (k : Int) < c.T) (hl : l ≠ thrU k) : betwP more c k cs a (l :: L) = .bad (a + 1) := by
  unfold betwP; rw [if_pos h]; exact if_neg hl
theorem betwP_end (more : Bool) (c : Cf) (k : Nat) (cs : List (List C3)) (a : Nat) (L : List (List UInt8)) (h : ¬ (k : Int) < c.T) : betwP more c k cs a L = tailP more c cs a L := by
  unfold betwP; rw [if_neg h]
def OutR (t : List UInt8) (o : Out) : Prop :=
  match linesT t with
  | [] => o = .bad 1
  | l :: L => (∃ c, rightC c ∧ l = confU c ∧ o = betwP (decide (moreT t)) c 0 [] 1 L) ∨ ((∀ d, rightC d → l ≠ confU d) ∧ o = .bad 1)
theorem OutR.uniq {t : List UInt8} {o o' : Out} (h : OutR t o) (h' : OutR t o') : o = o' := by
  unfold OutR at h h'
  split at h
  · rename_i hq; rw [hq] at h'; rw [h, h']
  · rename_i l L hq
    rw [hq] at h'
    rcases h with ⟨c, hc, hl, rfl⟩ | ⟨hn, rfl⟩ <;> rcases h' with ⟨c', hc', hl', rfl⟩ | ⟨hn', rfl⟩
    · rw [confU_inj hc hc' (by rw [← hl, ← hl'])]
    · exact absurd hl (hn' c hc)
    · exact absurd hl' (hn c' hc')
    · rfl
theorem take_line : ∀ (p a b : List UInt8), (10 : UInt8) ∉ p → ((a ++ 10 :: b).take p.length = p ↔ a.take p.length = p)
  | [], a, b, _ => by simp
  | x :: p, [], b, h => by
    simp only [List.mem_cons, not_or] at h
    simp [h.1]
  | x :: p, y :: a, b, h => by
    simp only [List.mem_cons, not_or] at h
    simp only [List.cons_append, List.length_cons, List.take_succ_cons, List.cons.injEq]
    rw [take_line p a b h.2]
theorem next_yes {rest : List UInt8} (h : (nextL rest).2.2 = true) : linesT rest = (nextL rest).1 :: linesT (nextL rest).2.1 ∧ decide (moreT rest) = decide (moreT (nextL rest).2.1) ∧ rest = (nextL rest).1 ++ 10 :: (nextL rest).2.1 ∧ (10 : UInt8) ∉ (nextL rest).1 := by
  unfold nextL at *
  cases hc : cutC 10 rest with
  | none => rw [hc] at h; cases h
  | some q =>
    obtain ⟨a, b⟩ := q
    obtain ⟨-, h1, h2⟩ := cutC_some 10 rest a b hc
    simp only
    have h3 := partsC_app 10 a b h2
    rw [← h1] at h3
    have h4 := partsC_ne 10 b
    refine ⟨?_, ?_, h1, h2⟩
    · unfold linesT; rw [h3]; exact List.dropLast_cons_of_ne_nil h4
    · have e : moreT rest = moreT b := by
        unfold moreT; rw [h3]
        cases hp : partsC 10 b with
        | nil => exact absurd hp h4
        | cons x y => rfl
      simp only [e]
theorem next_no {rest : List UInt8} (h : (nextL rest).2.2 = false) : linesT rest = [] ∧ (moreT rest ↔ rest ≠ []) := by
  unfold nextL at h
  cases hc : cutC 10 rest with
  | none =>
    have h1 := (cutC_none 10 rest hc).2
    unfold linesT moreT
    rw [partsC_none 10 rest h1]
    exact ⟨rfl, Iff.rfl⟩
  | some q => obtain ⟨a, b⟩ := q; rw [hc] at h; cases h
theorem empty_iff (rest : List UInt8) : rest = [] ↔ linesT rest = [] ∧ decide (moreT rest) = false := by
  constructor
  · rintro rfl; exact ⟨rfl, by decide⟩
  · rintro ⟨h1, h2⟩
    cases hq : (nextL rest).2.2 with
    | true => rw [(next_yes hq).1] at h1; cases h1
    | false =>
      have h3 := (next_no hq).2
      by_cases he : rest = []
      · exact he
      · rw [decide_eq_true (h3.2 he)] at h2; cases h2
/-- how the next line begins -/
theorem stop_iff {rest : List UInt8} (h : (nextL rest).2.2 = true) : (rest.take 7 = p_thread ∨ rest.take 5 = s_picks) ↔ stopL (nextL rest).1 := by
  obtain ⟨-, -, h1, -⟩ := next_yes h
  have a1 := take_line p_thread (nextL rest).1 (nextL rest).2.1 (by decide)
  have a2 := take_line s_picks (nextL rest).1 (nextL rest).2.1 (by decide)
  rw [← h1] at a1 a2
  unfold stopL
  exact ⟨fun h => h.elim (fun h => .inl (a1.1 h)) (fun h => .inr (a2.1 h)), fun h => h.elim (fun h => .inl (a1.2 h)) (fun h => .inr (a2.2 h))⟩
/-- what is answered -/
def AnsD (o : Out) (c : Cf) (cs : List (List C3)) (ps ds : List Int) (k e : Int) : Prop :=
  match o with
  | .bad n => c = zC ∧ cs = [] ∧ ps = [] ∧ ds = [] ∧ k = n ∧ e = 8
  | .good c' cs' ps' ds' => (rightS c' cs' ps' ds' ∧ c = c' ∧ cs = cs' ∧ ps = ps' ∧ ds = ds' ∧ k = 0 ∧ e = 0) ∨ (¬ rightS c' cs' ps' ds' ∧ c = zC ∧ cs = [] ∧ ps = [] ∧ ds = [] ∧ k = 0 ∧ e = 1)
theorem AnsD.uniq {o : Out} {c c' : Cf} {cs cs' : List (List C3)} {ps ps' ds ds' : List Int} {k k' e e' : Int} (h : AnsD o c cs ps ds k e) (h' : AnsD o c' cs' ps' ds' k' e') : c = c' ∧ cs = cs' ∧ ps = ps' ∧ ds = ds' ∧ k = k' ∧ e = e' := by
  cases o with
  | bad n =>
    obtain ⟨rfl, rfl, rfl, rfl, rfl, rfl⟩ := h
    obtain ⟨rfl, rfl, rfl, rfl, rfl, rfl⟩ := h'
    exact ⟨rfl, rfl, rfl, rfl, rfl, rfl⟩
  | good a b x y =>
    rcases h with ⟨h0, rfl, rfl, rfl, rfl, rfl, rfl⟩ | ⟨h0, rfl, rfl, rfl, rfl, rfl, rfl⟩ <;> rcases h' with ⟨h1, rfl, rfl, rfl, rfl, rfl, rfl⟩ | ⟨h1, rfl, rfl, rfl, rfl, rfl, rfl⟩
    · exact ⟨rfl, rfl, rfl, rfl, rfl, rfl⟩
    · exact absurd h0 h1
    · exact absurd h1 h0
    · exact ⟨rfl, rfl, rfl, rfl, rfl, rfl⟩
def AnsR (w' : World) (o : Out) (r : Value) : Prop := ∃ v c cs ps ds, ∃ k e : Int, r = .tuple #[v, .int .i64 k, .int .i64 e] ∧ Scr w' c cs ps ds v ∧ AnsD o c cs ps ds k e
end Go.Proofs.YtlhbgnoghjendaaDoor

/- Scenes: the reader reads the calls. -/
namespace Go.Proofs.YtlhbgnoghjendaaDoor
open Go.RowKit
attribute [local irreducible] Instr.loadAt Instr.storeAt Instr.fieldAt Instr.indexAt Instr.sliceAt Instr.buildSlice Instr.box Instr.alloc Builtin.append_ Builtin.len_ Builtin.min_ Builtin.max_ Calls Instr.build Instr.makeSlice binSem convert Instr.index Instr.range Instr.next
abbrev TCall : Nat := 67
/-- a reader while its calls are read -/
structure KlI (w0 w : World) (p : Nat) (rest : List UInt8) (A : Nat) (c : Cf) (kv : Value) (cs : List (List C3)) (vals : List Value) : Prop where
  blk : Blk w p TRd (rdV rest (A : Int) c kv (.slice none 0 0) (.slice none 0 0))
  calls : CallsS w kv cs vals
  own : ∀ g, kv.ownBlock = some g → w0.heap.size ≤ g
  up : Upd [p] w0 w
  hp : p < w0.heap.size
theorem KlI.upd0 {w0 w1 w2 : World} {p : Nat} {rest : List UInt8} {A : Nat} {c : Cf} {kv : Value} {cs : List (List C3)} {vals : List Value} (I : KlI w0 w1 p rest A c kv cs vals) (hu : Upd [] w1 w2) : KlI w0 w2 p rest A c kv cs vals :=
  ⟨I.blk.upd hu (by simp), I.calls.upd hu (by simp) (by simp), I.own, I.up.trans (hu.mono (by simp)), I.hp⟩
/-- the reader's block is written -/
theorem KlI.put {w0 w1 w2 : World} {p : Nat} {rest rest' : List UInt8} {A A' : Nat} {c : Cf} {kv : Value} {cs : List (List C3)} {vals : List Value} (I : KlI w0 w1 p rest A c kv cs vals) (hu : Upd [p] w1 w2) (hb : Blk w2 p TRd (rdV rest' (A' : Int) c kv (.slice none 0 0) (.slice none 0 0))) : KlI w0 w2 p rest' A' c kv cs vals :=
  ⟨hb, I.calls.far I.blk (by decide) (by decide) hu, I.own, I.up.trans hu, I.hp⟩
/-- something newer is written -/
theorem KlI.step {S : List Nat} {w0 w1 w2 : World} {p B : Nat} {rest : List UInt8} {A : Nat} {c : Cf} {kv : Value} {cs : List (List C3)} {vals : List Value} (I : KlI w0 w1 p rest A c kv cs vals) (hB : w0.heap.size ≤ B) (hk : ∀ g, kv.ownBlock = some g → g < B) (hv : ∀ x ∈ vals, ∀ g, x.ownBlock = some g → g < B)
    (hu : Upd S w1 w2) (hS : ∀ g ∈ S, B ≤ g) : KlI w0 w2 p rest A c kv cs vals := by
  have no : ∀ g, g < B → g ∉ S := fun g hg hm => by have := hS g hm; omega
  have hp := I.hp
  exact ⟨I.blk.upd hu (no _ (by omega)), I.calls.upd hu (fun g hg => no _ (hk g hg)) (fun x hx g hg => no _ (hv x hx g hg)), I.own, I.up.step hu (fun x hx => .inr (by have := hS x hx; omega)), I.hp⟩
/-- what reading the calls leaves -/
def KlR (w w' : World) (p : Nat) (c : Cf) (B : Nat) (O : Out) (b : Bool) : Prop :=
  (b = true ∧ ∃ rest A kv cs vals, KlI w w' p rest A c kv cs vals ∧ A + rest.length ≤ B ∧ tot cs ≤ A ∧ tailP (decide (moreT rest)) c cs A (linesT rest) = O)
  ∨ (b = false ∧ ∃ rest kv n, Blk w' p TRd (rdV rest ((n : Nat) : Int) c kv (.slice none 0 0) (.slice none 0 0)) ∧ O = .bad n)
theorem next_len {rest : List UInt8} (h : (nextL rest).2.2 = true) : (nextL rest).1.length + 1 + (nextL rest).2.1.length = rest.length := by
  have := congrArg List.length (next_yes h).2.2.1
  rw [List.length_append, List.length_cons] at this
  omega
theorem tot_snoc (cs : List (List C3)) (l : List C3) : tot (cs ++ [l]) = tot cs + l.length := by simp [tot]
theorem thrU_eq (k : Nat) : strOfNums t_thread ++ strOfNums (decB k) = by8 (thrU k) := by
  rw [str_add, str_by8, toB_app]; rfl
set_option maxRecDepth 10000 in
theorem calls_r {w : World} {p : Nat} {rest : List UInt8} {A : Nat} {c : Cf} (hb : Blk w p TRd (rdV rest (A : Int) c (.slice none 0 0) (.slice none 0 0) (.slice none 0 0))) (hl : A + rest.length ≤ 90000) (hT : 1 ≤ c.T ∧ c.T ≤ 6) (O : Out) (hO : betwP (decide (moreT rest)) c 0 [] A (linesT rest) = O) :
    Fn Tryd.prog 33 #[.pointer (some ⟨p, 0, none⟩)] w fun r w' => ∃ b, r = .bool b ∧ KlR w w' p c (A + rest.length) O b ∧ Upd [p] w w' := by
  refine fn_enter Tryd.func33 rfl rfl ?_
  refine fa ?_
  refine fa ?_
  refine fa ?_
  refine ldb hb (v := .int .i64 c.T) rfl ?_
  obtain ⟨T, hTe⟩ : ∃ T : Nat, c.T = (T : Int) := ⟨_, (Int.toNat_of_nonneg (by omega)).symm⟩
  rw [hTe]
  obtain ⟨M, hM⟩ : ∃ M, M = A + rest.length := ⟨_, rfl⟩
  rw [← hM]
  refine loop_rule [0, 16] [17] (fun vs w' m => ∃ (k : Nat) (rest : List UInt8) (A : Nat) (kv : Value) (cs : List (List C3)) (vals : List Value), vs = [.int .i64 k] ∧ k ≤ T ∧ m = T - k ∧ KlI w w' p rest A c kv cs vals ∧ cs.length = k ∧ A + rest.length ≤ M ∧ tot cs ≤ A ∧ betwP (decide (moreT rest)) c k cs A (linesT rest) = O) rfl [.int .i64 0] T rfl
    ⟨0, rest, A, _, [], [], rfl, by omega, rfl, ⟨hb, CallsS.nil_ _, by simp [Value.ownBlock], Upd.refl _ _, hb.lt⟩, rfl, by omega, by simp [tot], hO⟩ ?_
  rintro _ w1 m ⟨k, rest, A, kv, cs, vals, rfl, hk, rfl, I, hcl, hAM, hto, hP⟩
  refine cd (fun hlt => ?_) (fun hlt => ?_)
  rotate_left
  · have hkT : ¬ (k : Int) < c.T := by omega
    rw [betwP_end _ _ _ _ _ _ hkT] at hP
    exact ⟨true, rfl, .inl ⟨rfl, rest, A, kv, cs, vals, I, hAM, hto, hP⟩, I.up⟩
  have hkT : (k : Int) < c.T := by omega
  refine fa ?_
  refine cl (next_c I.blk (by omega) (by omega)) ?_
  rintro _ w2 ⟨rfl, hb2, hu2⟩
  have hn1 := @next_yes rest
  have hn0 := @next_no rest
  have hnl := @next_len rest
  generalize nextL rest = q at *
  obtain ⟨line, rest2, ok⟩ := q
  simp only at hn1 hn0 hnl hb2 ⊢
  have I2 : KlI w w2 p rest2 (A + 1) c kv cs vals := I.put hu2 hb2
  cases ok with
  | false =>
    rw [(hn0 rfl).1, betwP_nil] at hP
    exact ⟨false, rfl, .inr ⟨rfl, _, _, A + 1, I2.blk, hP.symm⟩, I2.up⟩
  | true =>
    obtain ⟨hL, hmo, -, -⟩ := hn1 rfl
    have hnl := hnl rfl
    have hdl : (decB k).length ≤ 10 := decB_len 9 _ (by omega)
    refine cl (sdig_c k (by omega) w2) ?_
    rintro _ w3 ⟨rfl, hu3⟩
    have I3 := I2.upd0 hu3
    refine sadd (a := strOfNums t_thread) (by rw [strOfNums_size, strOfNums_size]; show 7 + _ ≤ _; omega) ?_
    rw [thrU_eq]
    refine cd (fun hne => ?_) (fun hne => ?_)
    · rw [by8_list, by8_list] at hne
      rw [hL, betwP_no _ _ _ _ _ _ hkT hne] at hP
      exact ⟨false, rfl, .inr ⟨rfl, _, _, A + 1, I3.blk, hP.symm⟩, I3.up⟩
    rw [by8_list, by8_list] at hne
    have hne : line = thrU k := by simpa using hne
    rw [hL, hne, betwP_yes _ _ _ _ _ _ hkT, hmo] at hP
    have hBk : ∀ g, kv.ownBlock = some g → g < w3.heap.size := I3.calls.out.lt
    have hBv := I3.calls.lts
    have hw3 := I3.up.size
    refine loop_rule [0, 16, 17] [6] (fun vs w' m => ∃ (rest : List UInt8) (A : Nat) (lv : Value) (acc : List C3), vs = [lv] ∧ m = rest.length ∧ KlI w w' p rest A c kv cs vals ∧ Sl w' TCall 3 lv acc.length (cellsC acc) ∧ (∀ g, lv.ownBlock = some g → w3.heap.size ≤ g) ∧ w3.heap.size ≤ w'.heap.size ∧ A + rest.length ≤ M ∧ tot cs + acc.length ≤ A ∧ innerP (decide (moreT rest)) c k cs acc A (linesT rest) = O) rfl [.slice none 0 0] rest2.length rfl
      ⟨rest2, A + 1, _, [], rfl, rfl, I3, Sl.nil_ _ _ _, by simp [Value.ownBlock], Nat.le_refl _, by omega, by simp; omega, hP⟩ ?_
    clear hn1 hn0 hnl hP hL hmo I2 I3 hAM hto
    rintro _ w4 m ⟨rest, A, lv, acc, rfl, rfl, I4, hs4, hf4, hz4, hAM, hto, hP⟩
    have hn1 := @next_yes rest
    have hn0 := @next_no rest
    have hnl := @next_len rest
    have hst := @stop_iff rest
    have hle := nextL_len rest
    refine fa ?_
    refine fa ?_
    refine ldb I4.blk (v := .string (by8 rest)) rfl ?_
    by_cases he : rest = []
    · refine cN (by rw [he, by8_list, ByteArray.toList_eq]; simp) ?_
      have hP' : betwP (decide (moreT rest)) c (k + 1) (cs ++ [acc]) A (linesT rest) = O := by
        rw [((empty_iff rest).1 he).1, innerP_nil] at hP
        rw [((empty_iff rest).1 he).1, betwP_nil]; exact hP
      obtain ⟨la, lc, rfl, -⟩ := hs4.form
      refine fa ?_
      refine fa ?_
      refine ldb I4.blk (v := kv) rfl ?_
      refine bs #[.slice la acc.length lc] (fun _ => by kernel_rfl) fun w9 hb9 hu9 hs9 => ?_
      have I9 := I4.upd0 hu9
      refine apg I9.calls.out hb9 rfl rfl (by decide) (by simp only [maxLen]; omega) (by omega) fun kv2 w10 hs10 hG10 => ?_
      have hC10 := I9.calls.push (hs4.upd hu9 (by simp)) (fun y hy g hg hg2 => by have h1 := hBv y hy g hg; have h2 := hf4 g hg2; omega) hG10 hs10
      have hnp : kv.ownBlock ≠ some p := fun h => I9.calls.out.blk_ne I9.blk (by decide) h
      have hown2 : ∀ g, kv2.ownBlock = some g → w.heap.size ≤ g := fun g hg => by
        rcases hG10.own g hg with h | h
        · exact I9.own g h
        · have := I9.up.size; omega
      obtain ⟨ka, kc, rfl, -⟩ := hs10.form
      refine fa ?_
      refine fa ?_
      refine st (hG10.blk I9.blk hnp) (by show 0 + 2 + 7 < 12; omega) rfl fun w11 hb11 hu11 hs11 => ?_
      refine ar64 (by omega) ?_
      exact round_mk [.int .i64 ((k + 1 : Nat) : Int)] (T - (k + 1)) rfl rfl ⟨k + 1, rest, A, _, _, _, rfl, by omega, rfl, ⟨hb11, hC10.far (hG10.blk I9.blk hnp) (by decide) (by decide) hu11, hown2, (I9.up.step hG10.up (fun x hx => .inr (I9.own x (by simpa using hx)))).trans hu11, I9.hp⟩, by simp [hcl], hAM, by rw [tot_snoc]; omega, hP'⟩ (by omega)
    refine cY (by rw [by8_list, ByteArray.toList_eq]; exact he) ?_
    have hgo : (rest.take 7 = p_thread ∨ rest.take 5 = s_picks) → betwP (decide (moreT rest)) c (k + 1) (cs ++ [acc]) A (linesT rest) = O := fun h => by
      cases hq : (nextL rest).2.2 with
      | false =>
        rw [(hn0 hq).1, innerP_nil] at hP
        rw [(hn0 hq).1, betwP_nil]; exact hP
      | true =>
        rw [(hn1 hq).1, innerP_stop _ _ _ _ _ _ _ ((hst hq).1 h)] at hP
        rw [(hn1 hq).1]; exact hP
    refine fa ?_
    refine cl (peek_c (x := p_thread) I4.blk) ?_
    rintro _ w5 ⟨rfl, rfl⟩
    by_cases hth : rest.take 7 = p_thread
    · rw [show decide (rest.take p_thread.length = p_thread) = true from decide_eq_true hth]
      have hP' := hgo (.inl hth)
      obtain ⟨la, lc, rfl, -⟩ := hs4.form
      refine fa ?_
      refine fa ?_
      refine ldb I4.blk (v := kv) rfl ?_
      refine bs #[.slice la acc.length lc] (fun _ => by kernel_rfl) fun w9 hb9 hu9 hs9 => ?_
      have I9 := I4.upd0 hu9
      refine apg I9.calls.out hb9 rfl rfl (by decide) (by simp only [maxLen]; omega) (by omega) fun kv2 w10 hs10 hG10 => ?_
      have hC10 := I9.calls.push (hs4.upd hu9 (by simp)) (fun y hy g hg hg2 => by have h1 := hBv y hy g hg; have h2 := hf4 g hg2; omega) hG10 hs10
      have hnp : kv.ownBlock ≠ some p := fun h => I9.calls.out.blk_ne I9.blk (by decide) h
      have hown2 : ∀ g, kv2.ownBlock = some g → w.heap.size ≤ g := fun g hg => by
        rcases hG10.own g hg with h | h
        · exact I9.own g h
        · have := I9.up.size; omega
      obtain ⟨ka, kc, rfl, -⟩ := hs10.form
      refine fa ?_
      refine fa ?_
      refine st (hG10.blk I9.blk hnp) (by show 0 + 2 + 7 < 12; omega) rfl fun w11 hb11 hu11 hs11 => ?_
      refine ar64 (by omega) ?_
      exact round_mk [.int .i64 ((k + 1 : Nat) : Int)] (T - (k + 1)) rfl rfl ⟨k + 1, rest, A, _, _, _, rfl, by omega, rfl, ⟨hb11, hC10.far (hG10.blk I9.blk hnp) (by decide) (by decide) hu11, hown2, (I9.up.step hG10.up (fun x hx => .inr (I9.own x (by simpa using hx)))).trans hu11, I9.hp⟩, by simp [hcl], hAM, by rw [tot_snoc]; omega, hP'⟩ (by omega)
    rw [show decide (rest.take p_thread.length = p_thread) = false from decide_eq_false hth]
    refine fa ?_
    refine cl (peek_c (x := s_picks) I4.blk) ?_
    rintro _ w6 ⟨rfl, rfl⟩
    by_cases hpi : rest.take 5 = s_picks
    · rw [show decide (rest.take s_picks.length = s_picks) = true from decide_eq_true hpi]
      have hP' := hgo (.inr hpi)
      obtain ⟨la, lc, rfl, -⟩ := hs4.form
      refine fa ?_
      refine fa ?_
      refine ldb I4.blk (v := kv) rfl ?_
      refine bs #[.slice la acc.length lc] (fun _ => by kernel_rfl) fun w9 hb9 hu9 hs9 => ?_
      have I9 := I4.upd0 hu9
      refine apg I9.calls.out hb9 rfl rfl (by decide) (by simp only [maxLen]; omega) (by omega) fun kv2 w10 hs10 hG10 => ?_
      have hC10 := I9.calls.push (hs4.upd hu9 (by simp)) (fun y hy g hg hg2 => by have h1 := hBv y hy g hg; have h2 := hf4 g hg2; omega) hG10 hs10
      have hnp : kv.ownBlock ≠ some p := fun h => I9.calls.out.blk_ne I9.blk (by decide) h
      have hown2 : ∀ g, kv2.ownBlock = some g → w.heap.size ≤ g := fun g hg => by
        rcases hG10.own g hg with h | h
        · exact I9.own g h
        · have := I9.up.size; omega
      obtain ⟨ka, kc, rfl, -⟩ := hs10.form
      refine fa ?_
      refine fa ?_
      refine st (hG10.blk I9.blk hnp) (by show 0 + 2 + 7 < 12; omega) rfl fun w11 hb11 hu11 hs11 => ?_
      refine ar64 (by omega) ?_
      exact round_mk [.int .i64 ((k + 1 : Nat) : Int)] (T - (k + 1)) rfl rfl ⟨k + 1, rest, A, _, _, _, rfl, by omega, rfl, ⟨hb11, hC10.far (hG10.blk I9.blk hnp) (by decide) (by decide) hu11, hown2, (I9.up.step hG10.up (fun x hx => .inr (I9.own x (by simpa using hx)))).trans hu11, I9.hp⟩, by simp [hcl], hAM, by rw [tot_snoc]; omega, hP'⟩ (by omega)
    rw [show decide (rest.take s_picks.length = s_picks) = false from decide_eq_false hpi]
    refine fa ?_
    refine cl (next_c I4.blk (by omega) (by omega)) ?_
    rintro _ w7 ⟨rfl, hb7, hu7⟩
    generalize nextL rest = q at *
    obtain ⟨line2, rest3, ok2⟩ := q
    simp only at hn1 hn0 hnl hst hle hb7 ⊢
    have I7 : KlI w w7 p rest3 (A + 1) c kv cs vals := I4.put hu7 hb7
    have hs7 := hs4.farT I4.blk (by decide) hu7
    have hz7 := hu7.size
    cases ok2 with
    | false =>
      rw [(hn0 rfl).1, innerP_nil] at hP
      refine cl (parse_c line2 (by omega) w7) ?_
      rintro _ w8 ⟨rfl, hu8⟩
      have I8 := I7.upd0 hu8
      rcases parseR line2 with _ | ⟨o, x, y⟩
      · refine al z3 (fun _ => by kernel_rfl) fun w9 hb9 hu9 hs9 => ?_
        have hlt8 := I8.blk.lt
        refine stw hb9 rfl rfl rfl fun w10 hb10 hu10 hs10 => ?_
        have hU10 : Upd [p] w w10 := (I8.upd0 hu9).up.step hu10 (by have := I8.up.size; simp; omega)
        exact ⟨false, rfl, .inr ⟨rfl, _, _, A + 1, ((I8.upd0 hu9).blk).upd hu10 (by simp; omega), hP.symm⟩, hU10⟩
      · refine al z3 (fun _ => by kernel_rfl) fun w9 hb9 hu9 hs9 => ?_
        have hlt8 := I8.blk.lt
        refine stw hb9 rfl rfl rfl fun w10 hb10 hu10 hs10 => ?_
        have hU10 : Upd [p] w w10 := (I8.upd0 hu9).up.step hu10 (by have := I8.up.size; simp; omega)
        exact ⟨false, rfl, .inr ⟨rfl, _, _, A + 1, ((I8.upd0 hu9).blk).upd hu10 (by simp; omega), hP.symm⟩, hU10⟩
    | true =>
      obtain ⟨hL, hmo, -, -⟩ := hn1 rfl
      have hnl := hnl rfl
      have hns : ¬ stopL line2 := fun h => by
        rcases (hst rfl).2 h with h | h
        · exact hth h
        · exact hpi h
      refine cl (parse_c line2 (by omega) w7) ?_
      rintro _ w8 ⟨rfl, hu8⟩
      have I8 := I7.upd0 hu8
      have hlt8 := I8.blk.lt
      have hz8 := hu8.size
      cases hpr : parseR line2 with
      | none =>
        rw [hL, innerP_none _ _ _ _ _ _ _ hns hpr] at hP
        refine al z3 (fun _ => by kernel_rfl) fun w9 hb9 hu9 hs9 => ?_
        refine stw hb9 rfl rfl rfl fun w10 hb10 hu10 hs10 => ?_
        have hU10 : Upd [p] w w10 := (I8.upd0 hu9).up.step hu10 (by have := I8.up.size; simp; omega)
        exact ⟨false, rfl, .inr ⟨rfl, _, _, A + 1, ((I8.upd0 hu9).blk).upd hu10 (by simp; omega), hP.symm⟩, hU10⟩
      | some x =>
        rw [hL, innerP_some _ _ _ _ _ _ _ hns hpr, hmo] at hP
        obtain ⟨o, x, y⟩ := x
        refine al z3 (fun _ => by kernel_rfl) fun w9 hb9 hu9 hs9 => ?_
        refine stw hb9 rfl rfl rfl fun w10 hb10 hu10 hs10 => ?_
        have I10 := (I8.upd0 hu9).step (B := w3.heap.size) hw3 hBk hBv hu10 (by simp; omega)
        have hs10' := ((hs7.upd hu8 (by simp)).upd hu9 (by simp)).upd hu10 (fun g hg => by have := (hs7.upd hu8 (by simp)).lt g hg; simp only [List.mem_singleton]; omega)
        refine ldw hb10 rfl ?_
        refine bs (c3 o x y) (fun _ => by kernel_rfl) fun w11 hb11 hu11 hs11 => ?_
        have I11 := I10.upd0 hu11
        refine apg (hs10'.upd hu11 (by simp)) hb11 rfl rfl (by decide) (by simp only [maxLen]; omega) (by omega) fun lv2 w12 hs12 hG12 => ?_
        have hz11 := hu11.size
        have hz12 := hG12.up.size
        have hcc : cellsC (acc ++ [(o, x, y)]) = cellsC acc ++ (c3 o x y).toList := by rw [cellsC_app]; rfl
        exact round_mk [lv2] rest3.length rfl rfl ⟨rest3, A + 1, lv2, acc ++ [(o, x, y)], rfl, rfl, I11.step (B := w3.heap.size) hw3 hBk hBv hG12.up (fun g hg => hf4 g (by simpa using hg)), by rw [hcc, List.length_append]; exact hs12, fun g hg => (hG12.own g hg).elim (fun h => hf4 g h) (fun h => by omega), by omega, by omega, by rw [List.length_append]; simp only [List.length_singleton]; omega, hP⟩ (by omega)
end Go.Proofs.YtlhbgnoghjendaaDoor

/- Scenes: scene.Parse. -/
namespace Go.Proofs.YtlhbgnoghjendaaDoor
open Go.RowKit
attribute [local irreducible] Instr.loadAt Instr.storeAt Instr.fieldAt Instr.indexAt Instr.sliceAt Instr.buildSlice Instr.box Instr.alloc Builtin.append_ Builtin.len_ Builtin.min_ Builtin.max_ Calls Instr.build Instr.makeSlice binSem convert Instr.index Instr.range Instr.next
theorem rd_sc (rest : List UInt8) (a : Int) (c : Cf) (kv pv dv : Value) (j : Nat) : (rdV rest a c kv pv dv).toList[0 + 2 + j]? = (scV c kv pv dv).toList[j]? := by
  rw [Nat.zero_add, Nat.add_comm]; rfl
theorem ldsc {K' : Value → World → Prop} {w : World} {p : Nat} {rest : List UInt8} {a : Int} {c : Cf} {kv pv dv : Value} (hb : Blk w p TRd (rdV rest a c kv pv dv)) (k : K' (.agg (scV c kv pv dv)) w) : RunP Tryd.prog (Instr.loadAt TS (.pointer (some ⟨p, 0 + 2, none⟩))) K' w := by
  refine lda (scV c kv pv dv).toList rfl (fun j x hj => ?_) (by simpa using k)
  rw [hb.cell, ← Array.getElem?_toList, rd_sc]
  exact hj
abbrev zSc : Array Value := scV zC (.slice none 0 0) (.slice none 0 0) (.slice none 0 0)
theorem scr_zero (w : World) : Scr w zC [] [] [] (.agg zSc) :=
  ⟨_, _, _, [], rfl, ⟨RdN.of_sl (Sl.nil_ w 68 1), fun i hi => by simp at hi⟩, RdK.of_sl (e := 3) (Sl.nil_ w 3 1), RdK.of_sl (e := 5) (Sl.nil_ w 5 1)⟩
theorem tailP_none {rest : List UInt8} {more : Bool} {c : Cf} {cs : List (List C3)} {A : Nat} (h : (nextL rest).2.2 = false ∨ picksLine c.T (nextL rest).1 = none) : tailP more c cs A (linesT rest) = .bad (A + 1) := by
  cases hq : (nextL rest).2.2 with
  | false => rw [(next_no hq).1]; rfl
  | true =>
    have h : picksLine c.T (nextL rest).1 = none := h.resolve_left (by rw [hq]; decide)
    rw [(next_yes hq).1, tailP, h]
theorem tailP_some {rest : List UInt8} {more : Bool} {c : Cf} {cs : List (List C3)} {A : Nat} {L : List Int} (hq : (nextL rest).2.2 = true) (h : picksLine c.T (nextL rest).1 = some L) : tailP more c cs A (linesT rest) = tail2P more c cs L (A + 1) (linesT (nextL rest).2.1) := by
  rw [(next_yes hq).1, tailP, h]
theorem tail2P_none {rest : List UInt8} {more : Bool} {c : Cf} {cs : List (List C3)} {ps : List Int} {A : Nat} (h : (nextL rest).2.2 = false ∨ drawsLine (nextL rest).1 = none) : tail2P more c cs ps A (linesT rest) = .bad (A + 1) := by
  cases hq : (nextL rest).2.2 with
  | false => rw [(next_no hq).1]; rfl
  | true =>
    have h : drawsLine (nextL rest).1 = none := h.resolve_left (by rw [hq]; decide)
    rw [(next_yes hq).1, tail2P, h]
theorem tail2P_some {rest : List UInt8} {c : Cf} {cs : List (List C3)} {ps : List Int} {A : Nat} {L : List Int} (hq : (nextL rest).2.2 = true) (h : drawsLine (nextL rest).1 = some L) : tail2P (decide (moreT rest)) c cs ps A (linesT rest) = if (nextL rest).2.1 = [] then .good c cs ps L else .bad (A + 2) := by
  rw [(next_yes hq).1, tail2P, h, (next_yes hq).2.1]
  simp only
  by_cases he : (nextL rest).2.1 = []
  · rw [if_pos he, if_pos ((empty_iff _).1 he)]
  · rw [if_neg he, if_neg (fun h => he ((empty_iff _).2 h))]
set_option maxRecDepth 10000 in
theorem scparse_c (l : List UInt8) (hl : l.length ≤ 80000) (w : World) : Fn Tryd.prog 16 #[.string (by8 l)] w fun r w' => (∃ o, OutR l o ∧ AnsR w' o r) ∧ Upd [] w w' := by
  refine fn_enter Tryd.func16 rfl rfl ?_
  refine al zSc (fun _ => by kernel_rfl) fun w1 hb1 hu1 hs1 => ?_
  refine bd #[.string (by8 l), .int .i64 0] (fun _ => by kernel_rfl) ?_
  refine bd (rdV l 0 zC (.slice none 0 0) (.slice none 0 0) (.slice none 0 0)) (fun _ => by kernel_rfl) ?_
  refine bx fun w2 hb2 hu2 hs2 => ?_
  have hR := hb1.upd hu2 (by simp)
  have hU2 := hu1.trans hu2
  have hpq : w1.heap.size ≠ w.heap.size := by omega
  have hpn : w.heap.size ≤ w1.heap.size := by omega
  have hb2 : Blk w2 w1.heap.size TRd (rdV l 0 zC (.slice none 0 0) (.slice none 0 0) (.slice none 0 0)) := hb2
  generalize w1.heap.size = p at *
  refine cl (conf_r hb2 (by omega) (by omega)) ?_
  rintro _ w3 ⟨c, e, rfl, hcf, hb3, hu3⟩
  have hRp : w.heap.size ∉ [p] := by simpa using hpq.symm
  have hR3 := hR.upd hu3 hRp
  have hU3 : Upd [] w w3 := hU2.step hu3 (by simp; omega)
  have hle := nextL_len l
  by_cases hg : (nextL l).2.2 = true ∧ e = 0
  rotate_left
  · obtain ⟨O, hO, hOe⟩ : ∃ O, OutR l O ∧ O = .bad 1 := by
      refine ⟨_, ?_, rfl⟩
      unfold OutR
      cases hq : (nextL l).2.2 with
      | false => rw [(next_no hq).1]
      | true =>
        rw [(next_yes hq).1]
        refine .inr ⟨?_, rfl⟩
        rcases hcf with ⟨_, _, h⟩ | ⟨h, _, _⟩
        · exact absurd ⟨hq, h⟩ hg
        · exact h
    rw [show ((nextL l).2.2 && decide (e = 0)) = false by
      cases hq : (nextL l).2.2 with
      | false => rfl
      | true => simp; exact fun h => hg ⟨hq, h⟩]
    have hres := hR3
    refine draw_mix 7 [(0, true), (1, true), (2, true), (3, true), (4, true), (5, true), (6, false)] (fun w' => Blk w' p TRd (rdV (nextL l).2.1 (0 + 1) c (.slice none 0 0) (.slice none 0 0) (.slice none 0 0))) (by decide +kernel) (hb3).drew ?_
    refine rq (.agg zSc) (fun _ _ => bd _ (fun _ => by kernel_rfl) ⟨rfl, rfl⟩) ?_
    refine q_fa ?_
    refine q_fa ?_
    refine q_ld (v := .int .i64 (0 + 1)) (by intro w' hw'; exact hw'.cell 1) ?_
    refine stw hres.drew rfl rfl rfl fun wz hbz huz hsz => ?_
    refine ⟨(hb3).drew.upd huz (by simpa using hpq), ?_⟩
    refine rlw hbz rfl ?_
    refine ⟨⟨O, hO, _, zC, [], [], [], _, _, rfl, scr_zero wz, ?_⟩, (hU3).drew.step huz (by simp)⟩
    rw [hOe]
    exact ⟨rfl, rfl, rfl, rfl, rfl, rfl⟩
  obtain ⟨hq, rfl⟩ := hg
  rw [hq]
  obtain ⟨hc, hce⟩ : rightC c ∧ (nextL l).1 = confU c := by
    rcases hcf with ⟨h1, h2, _⟩ | ⟨_, _, h⟩
    · exact ⟨h1, h2⟩
    · cases h
  have hT : 1 ≤ c.T ∧ c.T ≤ 6 := by
    obtain ⟨A, T, N, L, B, P, S⟩ := c
    exact hc.1.2.1
  obtain ⟨O, hO, hOe⟩ : ∃ O, OutR l O ∧ O = betwP (decide (moreT (nextL l).2.1)) c 0 [] 1 (linesT (nextL l).2.1) := by
    refine ⟨_, ?_, rfl⟩
    unfold OutR
    rw [(next_yes hq).1]
    exact .inl ⟨c, hc, hce, by rw [(next_yes hq).2.1]⟩
  have hb3 : Blk w3 p TRd (rdV (nextL l).2.1 ((1 : Nat) : Int) c (.slice none 0 0) (.slice none 0 0) (.slice none 0 0)) := hb3
  refine cl (calls_r hb3 (by omega) hT O hOe.symm) ?_
  rintro _ w4 ⟨b, rfl, hk, hu4⟩
  have hR4 := hR3.upd hu4 hRp
  have hU4 : Upd [] w w4 := hU3.step hu4 (by simp; omega)
  rcases hk with ⟨rfl, r4, A4, kv, cs, vals, I4, hAM, hto, hP⟩ | ⟨rfl, r4, kv, n, hb4, hbad⟩
  rotate_left
  · have hres := hR4
    refine draw_mix 7 [(0, true), (1, true), (2, true), (3, true), (4, true), (5, true), (6, false)] (fun w' => Blk w' p TRd (rdV r4 ((n : Nat) : Int) c kv (.slice none 0 0) (.slice none 0 0))) (by decide +kernel) (hb4).drew ?_
    refine rq (.agg zSc) (fun _ _ => bd _ (fun _ => by kernel_rfl) ⟨rfl, rfl⟩) ?_
    refine q_fa ?_
    refine q_fa ?_
    refine q_ld (v := .int .i64 ((n : Nat) : Int)) (by intro w' hw'; exact hw'.cell 1) ?_
    refine stw hres.drew rfl rfl rfl fun wz hbz huz hsz => ?_
    refine ⟨(hb4).drew.upd huz (by simpa using hpq), ?_⟩
    refine rlw hbz rfl ?_
    refine ⟨⟨O, hO, _, zC, [], [], [], _, _, rfl, scr_zero wz, ?_⟩, (hU4).drew.step huz (by simp)⟩
    rw [hbad]
    exact ⟨rfl, rfl, rfl, rfl, rfl, rfl⟩
  have hl4 := nextL_len r4
  have hcal4 := I4.calls
  refine cl (picks_r I4.blk (by omega) (by omega)) ?_
  rintro _ w5 ⟨b, rfl, hk, hu5⟩
  have hR5 := hR4.upd hu5 hRp
  have hU5 : Upd [] w w5 := hU4.step hu5 (by simp; omega)
  have hcal5 := hcal4.far I4.blk (by decide) (by decide) hu5
  rcases hk with ⟨rfl, hq4, ps, pv, hpi, hpl, hb5, hsp, hop⟩ | ⟨rfl, hno, pv, hb5⟩
  rotate_left
  · rw [tailP_none hno] at hP
    have hres := hR5
    refine draw_mix 7 [(0, true), (1, true), (2, true), (3, true), (4, true), (5, true), (6, false)] (fun w' => Blk w' p TRd (rdV (nextL r4).2.1 ((A4 : Int) + 1) c kv pv (.slice none 0 0))) (by decide +kernel) (hb5).drew ?_
    refine rq (.agg zSc) (fun _ _ => bd _ (fun _ => by kernel_rfl) ⟨rfl, rfl⟩) ?_
    refine q_fa ?_
    refine q_fa ?_
    refine q_ld (v := .int .i64 ((A4 : Int) + 1)) (by intro w' hw'; exact hw'.cell 1) ?_
    refine stw hres.drew rfl rfl rfl fun wz hbz huz hsz => ?_
    refine ⟨(hb5).drew.upd huz (by simpa using hpq), ?_⟩
    refine rlw hbz rfl ?_
    refine ⟨⟨O, hO, _, zC, [], [], [], _, _, rfl, scr_zero wz, ?_⟩, (hU5).drew.step huz (by simp)⟩
    rw [← hP]
    exact ⟨rfl, rfl, rfl, rfl, rfl, rfl⟩
  rw [tailP_some hq4 hpi, (next_yes hq4).2.1] at hP
  have hl5 := nextL_len (nextL r4).2.1
  generalize (nextL r4).2.1 = r5 at *
  refine cl (draws_r hb5 (by omega) (by omega)) ?_
  rintro _ w6 ⟨b, rfl, hk, hu6⟩
  have hR6 := hR5.upd hu6 hRp
  have hU6 : Upd [] w w6 := hU5.step hu6 (by simp; omega)
  have hcal6 := hcal5.far hb5 (by decide) (by decide) hu6
  have hsp6 := hsp.farT hb5 (by decide) hu6
  rcases hk with ⟨rfl, hq5, ds, dv, hdr, hdb, hb6, hsd, hod⟩ | ⟨rfl, hno, dv, hb6⟩
  rotate_left
  · rw [tail2P_none hno] at hP
    have hres := hR6
    refine draw_mix 7 [(0, true), (1, true), (2, true), (3, true), (4, true), (5, true), (6, false)] (fun w' => Blk w' p TRd (rdV (nextL r5).2.1 ((A4 : Int) + 1 + 1) c kv pv dv)) (by decide +kernel) (hb6).drew ?_
    refine rq (.agg zSc) (fun _ _ => bd _ (fun _ => by kernel_rfl) ⟨rfl, rfl⟩) ?_
    refine q_fa ?_
    refine q_fa ?_
    refine q_ld (v := .int .i64 ((A4 : Int) + 1 + 1)) (by intro w' hw'; exact hw'.cell 1) ?_
    refine stw hres.drew rfl rfl rfl fun wz hbz huz hsz => ?_
    refine ⟨(hb6).drew.upd huz (by simpa using hpq), ?_⟩
    refine rlw hbz rfl ?_
    refine ⟨⟨O, hO, _, zC, [], [], [], _, _, rfl, scr_zero wz, ?_⟩, (hU6).drew.step huz (by simp)⟩
    rw [← hP]
    exact ⟨rfl, rfl, rfl, rfl, rfl, rfl⟩
  rw [tail2P_some hq5 hdr] at hP
  generalize (nextL r5).2.1 = r6 at *
  refine cl (end_c hb6 (by omega)) ?_
  rintro _ w7 ⟨rfl, hb7, hu7⟩
  have hR7 := hR6.upd hu7 hRp
  have hU7 : Upd [] w w7 := hU6.step hu7 (by simp; omega)
  have hcal7 := hcal6.far hb6 (by decide) (by decide) hu7
  have hsp7 := hsp6.farT hb6 (by decide) hu7
  have hsd7 := hsd.farT hb6 (by decide) hu7
  by_cases he : r6 = []
  rotate_left
  · rw [decide_eq_false he]
    rw [if_neg he] at hP
    have hres := hR7
    refine draw_mix 7 [(0, true), (1, true), (2, true), (3, true), (4, true), (5, true), (6, false)] (fun w' => Blk w' p TRd (rdV r6 ((A4 : Int) + 1 + 1 + 1) c kv pv dv)) (by decide +kernel) (hb7).drew ?_
    refine rq (.agg zSc) (fun _ _ => bd _ (fun _ => by kernel_rfl) ⟨rfl, rfl⟩) ?_
    refine q_fa ?_
    refine q_fa ?_
    refine q_ld (v := .int .i64 ((A4 : Int) + 1 + 1 + 1)) (by intro w' hw'; exact hw'.cell 1) ?_
    refine stw hres.drew rfl rfl rfl fun wz hbz huz hsz => ?_
    refine ⟨(hb7).drew.upd huz (by simpa using hpq), ?_⟩
    refine rlw hbz rfl ?_
    refine ⟨⟨O, hO, _, zC, [], [], [], _, _, rfl, scr_zero wz, ?_⟩, (hU7).drew.step huz (by simp)⟩
    rw [← hP]
    exact ⟨rfl, rfl, rfl, rfl, rfl, rfl⟩
  rw [decide_eq_true he]
  rw [if_pos he] at hP
  have hS7 : Scr w7 c cs ps ds (.agg (scV c kv pv dv)) := ⟨_, _, _, vals, rfl, hcal7.rd, RdK.of_sl hsp7, RdK.of_sl hsd7⟩
  refine fa ?_
  refine ldsc hb7 ?_
  refine cl (right_sc hS7 (by omega)) ?_
  rintro _ w8 ⟨⟨b, rfl, hbr⟩, hu8⟩
  have hR8 := hR7.upd hu8 (by simp)
  have hb8 := hb7.upd hu8 (by simp)
  have hU8 := hU7.trans hu8
  cases b with
  | false =>
    refine bd zSc (fun _ => by kernel_rfl) ?_
    refine stw hR8 rfl rfl rfl fun wz hbz huz hsz => ?_
    refine rlw hbz rfl ?_
    refine ⟨⟨O, hO, _, zC, [], [], [], _, _, rfl, scr_zero wz, ?_⟩, hU8.step huz (by simp)⟩
    rw [← hP]
    exact .inr ⟨fun h => (by have := hbr.2 h; cases this), rfl, rfl, rfl, rfl, rfl, rfl⟩
  | true =>
    have hcal8 := (hcal7.upd hu8 (by simp) (by simp))
    have hsp8 := hsp7.upd hu8 (by simp)
    have hsd8 := hsd7.upd hu8 (by simp)
    obtain ⟨ka, kc, rfl, -⟩ := hcal8.out.form
    obtain ⟨pa, pc, rfl, -⟩ := hsp8.form
    obtain ⟨da, dc, rfl, -⟩ := hsd8.form
    refine fa ?_
    refine ldsc hb8 ?_
    refine stw hR8 rfl rfl rfl fun wz hbz huz hsz => ?_
    refine rlw hbz rfl ?_
    refine ⟨⟨O, hO, _, c, cs, ps, ds, _, _, rfl, ⟨_, _, _, vals, rfl, (hcal8.far hR8 (by decide) (by decide) huz).rd, RdK.of_sl (hsp8.farT hR8 (by decide) huz), RdK.of_sl (hsd8.farT hR8 (by decide) huz)⟩, ?_⟩, hU8.step huz (by simp)⟩
    rw [← hP]
    exact .inl ⟨hbr.1 rfl, rfl, rfl, rfl, rfl, rfl, rfl⟩
end Go.Proofs.YtlhbgnoghjendaaDoor

/- Scenes: the reference's Parse. -/
namespace Go.Proofs.YtlhbgnoghjendaaDoor
open Go.RowKit
attribute [local irreducible] Instr.loadAt Instr.storeAt Instr.fieldAt Instr.indexAt Instr.sliceAt Instr.buildSlice Instr.box Instr.alloc Builtin.append_ Builtin.len_ Builtin.min_ Builtin.max_ Calls Instr.build Instr.makeSlice binSem convert Instr.index Instr.range Instr.next
abbrev TStr' : Nat := 9
/-- what the reference holds while it reads a scene -/
structure RfI (w w' : World) (q p : Nat) (lv : Value) (L : List (List UInt8)) (c : Cf) (kv pv dv : Value) (cs : List (List C3)) (vals : List Value) : Prop where
  res : Blk w' w.heap.size TS zSc
  conf : Blk w' q 24 (cf7 c)
  scr : Blk w' p TS (scV c kv pv dv)
  lst : Sl w' TStr' 1 lv L.length (strB L)
  calls : CallsS w' kv cs vals
  up : Upd [] w w'
  hpq : q ≠ p
  hpr : w.heap.size ≠ p
  hpn : w.heap.size ≤ p
  kvn : ∀ g, kv.ownBlock = some g → w.heap.size ≤ g
theorem RfI.step {S : List Nat} {w w1 w2 : World} {q p B : Nat} {lv : Value} {L : List (List UInt8)} {c : Cf} {kv pv dv : Value} {cs : List (List C3)} {vals : List Value} (I : RfI w w1 q p lv L c kv pv dv cs vals) (hB : w.heap.size < B ∧ q < B ∧ p < B) (hl : ∀ g, lv.ownBlock = some g → g < B) (hk : ∀ g, kv.ownBlock = some g → g < B) (hv : ∀ x ∈ vals, ∀ g, x.ownBlock = some g → g < B)
    (hu : Upd S w1 w2) (hS : ∀ g ∈ S, B ≤ g) : RfI w w2 q p lv L c kv pv dv cs vals := by
  have no : ∀ g, g < B → g ∉ S := fun g hg hm => by have := hS g hm; omega
  exact ⟨I.res.upd hu (no _ hB.1), I.conf.upd hu (no _ hB.2.1), I.scr.upd hu (no _ hB.2.2), I.lst.upd hu (fun g hg => no _ (hl g hg)), I.calls.upd hu (fun g hg => no _ (hk g hg)) (fun x hx g hg => no _ (hv x hx g hg)), I.up.step hu (fun x hx => .inr (by have := hS x hx; omega)), I.hpq, I.hpr, I.hpn, I.kvn⟩
theorem RfI.upd0 {w w1 w2 : World} {q p : Nat} {lv : Value} {L : List (List UInt8)} {c : Cf} {kv pv dv : Value} {cs : List (List C3)} {vals : List Value} (I : RfI w w1 q p lv L c kv pv dv cs vals) (hu : Upd [] w1 w2) : RfI w w2 q p lv L c kv pv dv cs vals :=
  ⟨I.res.upd hu (by simp), I.conf.upd hu (by simp), I.scr.upd hu (by simp), I.lst.upd hu (by simp), I.calls.upd hu (by simp) (by simp), I.up.trans hu, I.hpq, I.hpr, I.hpn, I.kvn⟩
theorem RfI.drew {w w1 : World} {q p : Nat} {lv : Value} {L : List (List UInt8)} {c : Cf} {kv pv dv : Value} {cs : List (List C3)} {vals : List Value} (I : RfI w w1 q p lv L c kv pv dv cs vals) : RfI w w1.drew q p lv L c kv pv dv cs vals := I.upd0 (Upd.refl [] w1).drew
theorem RfI.put {w w1 w2 : World} {q p : Nat} {lv : Value} {L : List (List UInt8)} {c : Cf} {kv pv dv pv' dv' : Value} {cs : List (List C3)} {vals : List Value} (I : RfI w w1 q p lv L c kv pv dv cs vals) (hu : Upd [p] w1 w2) (hb : Blk w2 p TS (scV c kv pv' dv')) : RfI w w2 q p lv L c kv pv' dv' cs vals :=
  ⟨I.res.upd hu (by simpa using I.hpr), I.conf.upd hu (by simpa using I.hpq), hb, I.lst.farT I.scr (by decide) hu, I.calls.far I.scr (by decide) (by decide) hu, I.up.step hu (by simpa using I.hpn), I.hpq, I.hpr, I.hpn, I.kvn⟩
theorem RfI.lts {w w1 : World} {q p : Nat} {lv : Value} {L : List (List UInt8)} {c : Cf} {kv pv dv : Value} {cs : List (List C3)} {vals : List Value} (I : RfI w w1 q p lv L c kv pv dv cs vals) :
    (w.heap.size < w1.heap.size ∧ q < w1.heap.size ∧ p < w1.heap.size) ∧ (∀ g, lv.ownBlock = some g → g < w1.heap.size) ∧ (∀ g, kv.ownBlock = some g → g < w1.heap.size) ∧ (∀ x ∈ vals, ∀ g, x.ownBlock = some g → g < w1.heap.size) :=
  ⟨⟨I.res.lt, I.conf.lt, I.scr.lt⟩, I.lst.lt, I.calls.out.lt, I.calls.lts⟩
theorem sto_sc (c0 c : Cf) (cv pv dv : Value) : ((cf7 c).toList.zipIdx.foldl (fun cs (p : Value × Nat) => cs.setIfInBounds (0 + 0 + p.2) p.1) (scV c0 cv pv dv)) = scV c cv pv dv := by
  obtain ⟨A, T, N, L, B, P, S⟩ := c
  apply Array.ext'
  simp [cf7, scV, List.zipIdx]
set_option maxRecDepth 10000 in
theorem rsparse_c (l : List UInt8) (hl : l.length ≤ 80000) (w : World) : Fn Tryd.prog 17 #[.string (by8 l)] w fun r w' => (∃ o, OutR l o ∧ AnsR w' o r) ∧ Upd [] w w' := by
  refine fn_enter Tryd.func17 rfl rfl ?_
  refine al zSc (fun _ => by kernel_rfl) fun w1 hb1 hu1 hs1 => ?_
  refine cl (lines_s l (by omega) w1) ?_
  rintro _ w2 ⟨lv, rfl, hS2⟩
  have hpn : w.heap.size ≤ w2.heap.size := by have := hu1.size; have := hS2.up.size; omega
  have hpr : w.heap.size ≠ w2.heap.size := by have := hu1.size; have := hS2.up.size; omega
  refine al zSc (fun _ => by kernel_rfl) fun w3 hb3 hu3 hs3 => ?_
  have hb3 : Blk w3 w2.heap.size TS zSc := hb3
  have hcl : l.count 10 ≤ l.length := List.count_le_length
  have hpl := partsC_len 10 l
  obtain ⟨L, hL⟩ : ∃ L, L = linesT l := ⟨_, rfl⟩
  have hLl : L.length ≤ l.length := by rw [hL]; unfold linesT; rw [List.length_dropLast]; omega
  have hLm : ∀ x ∈ L, x.length ≤ l.length := fun x hx => parts_le 10 l x (by rw [hL] at hx; exact (List.dropLast_sublist _).subset hx)
  have hLg : ∀ i, i < L.length → (L.getD i []).length ≤ l.length := fun i hi => hLm _ (by simp [List.getD, hi])
  rw [← hL] at hS2
  have hU3 := hu1.trans (hS2.up.trans hu3)
  have hR3 := (hb1.upd hS2.up (by simp)).upd hu3 (by simp)
  have hS3 := (hS2.upd0 hu3).s
  generalize w2.heap.size = p at *
  by_cases h0 : L = []
  · obtain ⟨la, lc, rfl, hl1, hl2⟩ := (RdN.of_sl hS3).form
    obtain ⟨O, hO, hOe⟩ : ∃ O, OutR l O ∧ O = .bad 1 := ⟨_, by unfold OutR; rw [← hL, h0], rfl⟩
    refine len_sl ?_
    refine cY (by rw [h0]; rfl) ?_
    refine bd zSc (fun _ => by kernel_rfl) ?_
    refine ar64 (by omega) ?_
    refine stw (hR3) rfl rfl rfl fun wz hbz huz hsz => ?_
    refine rlw hbz rfl ?_
    refine ⟨⟨O, hO, _, zC, [], [], [], _, _, rfl, scr_zero wz, ?_⟩, (hU3).step huz (by simp)⟩
    rw [hOe]
    exact ⟨rfl, rfl, rfl, rfl, rfl, rfl⟩
  have hpos : 0 < L.length := by cases L with | nil => exact absurd rfl h0 | cons x y => simp
  obtain ⟨lb, lo, lcap, rfl, hlc⟩ := (RdN.of_sl hS3).some_ hpos
  have hrd : ∀ w', Sl w' TStr' 1 (.slice (some ⟨lb, lo, none⟩) L.length lcap) L.length (strB L) → ∀ i, i < L.length → w'.cell? ⟨lb, lo + i * 1, none⟩ = some (.string (by8 (L.getD i []))) := fun w' h i hi => by
    rw [(RdN.of_sl h).one rfl i hi]; exact strB_at L i hi
  have hLL : L = L.getD 0 [] :: L.drop 1 := by have := drop_at L 0 hpos; simpa using this
  refine len_sl ?_
  refine cN (by omega) ?_
  refine ix 0 rfl hpos ?_
  refine ld (hrd w3 hS3 0 hpos) ?_
  refine cl (rcparse_c (L.getD 0 []) (by have := hLg 0 hpos; omega) w3) ?_
  rintro _ w4 ⟨⟨c, e, rfl, hcf⟩, hu4⟩
  refine al (cf7 zC) (fun _ => by kernel_rfl) fun w5 hb5 hu5 hs5 => ?_
  refine stw hb5 rfl (cf7_len c) (cf7_one c) fun w6 hb6 hu6 hs6 => ?_
  have hU4 := hU3.trans hu4
  have z4 := hU4.size
  have b4 := (hb3.upd hu4 (by simp))
  have lt4 := b4.lt
  have r4 := hR3.upd hu4 (by simp)
  have rlt4 := r4.lt
  have s4 := hS3.upd hu4 (by simp)
  have slt4 := s4.lt
  have hU6 : Upd [] w w6 := (hU4.trans hu5).step hu6 (by simp; omega)
  have hR6 := (r4.upd hu5 (by simp)).upd hu6 (by simp; omega)
  have hb36 := (b4.upd hu5 (by simp)).upd hu6 (by simp; omega)
  have hS6 := (s4.upd hu5 (by simp)).upd hu6 (fun g hg => by have := slt4 g hg; simp only [List.mem_singleton]; omega)
  have hpq : w4.heap.size ≠ p := by omega
  generalize w4.heap.size = q at *
  rcases hcf with ⟨hc, hce, rfl⟩ | ⟨hcn, rfl, rfl⟩
  rotate_left
  · obtain ⟨O, hO, hOe⟩ : ∃ O, OutR l O ∧ O = .bad 1 := ⟨_, by unfold OutR; rw [← hL, hLL]; exact .inr ⟨hcn, rfl⟩, rfl⟩
    refine bd zSc (fun _ => by kernel_rfl) ?_
    refine ar64 (by omega) ?_
    refine stw (hR6) rfl rfl rfl fun wz hbz huz hsz => ?_
    refine rlw hbz rfl ?_
    refine ⟨⟨O, hO, _, zC, [], [], [], _, _, rfl, scr_zero wz, ?_⟩, (hU6).step huz (by simp)⟩
    rw [hOe]
    exact ⟨rfl, rfl, rfl, rfl, rfl, rfl⟩
  obtain ⟨O, hO, hOe⟩ : ∃ O, OutR l O ∧ O = betwP (decide (moreT l)) c 0 [] 1 (L.drop 1) := ⟨_, by unfold OutR; rw [← hL, hLL]; exact .inl ⟨c, hc, hce, rfl⟩, rfl⟩
  have hT : 1 ≤ c.T ∧ c.T ≤ 6 := by
    obtain ⟨A, T, N, L, B, P, S⟩ := c
    exact hc.1.2.1
  refine ldw hb6 (cf7_len c) ?_
  refine fa ?_
  refine sto (n := 7) hb36 (by show 0 + 0 + 7 ≤ 10; omega) (cf7_len c) (cf7_one c) fun w7 hb7 hu7 hs7 => ?_
  rw [sto_sc] at hb7
  have I7 : RfI w w7 q p (.slice (some ⟨lb, lo, none⟩) L.length lcap) L c (.slice none 0 0) (.slice none 0 0) (.slice none 0 0) [] [] :=
    ⟨hR6.upd hu7 (by simpa using hpr), hb6.upd hu7 (by simpa using hpq), hb7, hS6.farT hb36 (by decide) hu7, CallsS.nil_ _, hU6.step hu7 (by simpa using hpn), hpq, hpr, hpn, by simp [Value.ownBlock]⟩
  clear hb1 hS2 hb3 hR3 hS3 hU3 hb5 hb6 hu6 hu5 hu4 b4 r4 s4 slt4 hU6 hR6 hb36 hS6 hU4 hb7 hu7 hu3 hu1
  obtain ⟨T, hTe⟩ : ∃ T : Nat, c.T = (T : Int) := ⟨_, (Int.toNat_of_nonneg (by omega)).symm⟩
  refine loop_rule [2, 5, 6, 7, 9] [8, 11] (fun vs w' m => ∃ (k A : Nat) (kv : Value) (cs : List (List C3)) (vals : List Value), vs = [.int .i64 (A : Int), .int .i64 (k : Int)] ∧ k ≤ T ∧ m = T - k ∧ RfI w w' q p (.slice (some ⟨lb, lo, none⟩) L.length lcap) L c kv (.slice none 0 0) (.slice none 0 0) cs vals ∧ cs.length = k ∧ A ≤ L.length ∧ tot cs ≤ A ∧ betwP (decide (moreT l)) c k cs A (L.drop A) = O) rfl [.int .i64 1, .int .i64 0] T rfl
    ⟨0, 1, _, [], [], rfl, by omega, rfl, I7, rfl, hpos, by simp [tot], hOe.symm⟩ ?_
  rintro _ w1 m ⟨k, A, kv, cs, vals, rfl, hk, rfl, I, hcl2, hAM, hto, hP⟩
  refine fa ?_
  refine ldb I.conf (v := .int .i64 c.T) rfl ?_
  refine cd (fun hlt => ?_) (fun hlt => ?_)
  · have hkT : (k : Int) < c.T := hlt
    have hk6 : k < 6 := by omega
    have hdl : (decB k).length ≤ 10 := decB_len 9 _ (by omega)
    refine draw_all (fun w' => Upd [] w1 w') (by decide +kernel) (Upd.refl [] w1).drew ?_
    refine q_len ?_
    by_cases hA : L.length ≤ A
    · refine cY (by omega) ?_
      rw [List.drop_of_length_le hA, betwP_nil] at hP
      intro w2 hu2
      have I2 := I.upd0 hu2
      refine bd zSc (fun _ => by kernel_rfl) ?_
      refine ar64 (by omega) ?_
      refine stw (I2.res) rfl rfl rfl fun wz hbz huz hsz => ?_
      refine rlw hbz rfl ?_
      refine ⟨⟨O, hO, _, zC, [], [], [], _, _, rfl, scr_zero wz, ?_⟩, (I2.up).step huz (by simp)⟩
      rw [← hP]
      exact ⟨rfl, rfl, rfl, rfl, rfl, rfl⟩
    have hA : A < L.length := by omega
    have hlA := hLg A hA
    rw [drop_at L A hA] at hP
    refine cN (by omega) ?_
    refine q_ix A rfl hA ?_
    refine q_ld (v := .string (by8 (L.getD A []))) (fun w' hw' => hrd w' (I.upd0 hw').lst A hA) ?_
    refine q_cl (.string (strOfNums (decB k))) (fun w' hw' => (r36d_c k (by omega) w').mono fun _ _ ⟨u, he, h1, h2⟩ => ⟨u, he, h1, hw'.trans h2⟩) ?_
    refine rq (.string (by8 (thrU k))) (fun _ _ => sadd (a := strOfNums t_thread) (by rw [strOfNums_size, strOfNums_size]; show 7 + _ ≤ _; omega) ⟨by rw [thrU_eq], rfl⟩) ?_
    intro w2 hu2
    have I2 := I.upd0 hu2
    refine cd (fun hne => ?_) (fun hne => ?_)
    · rw [by8_list, by8_list] at hne
      rw [betwP_no _ _ _ _ _ _ hkT hne] at hP
      refine bd zSc (fun _ => by kernel_rfl) ?_
      refine ar64 (by omega) ?_
      refine stw (I2.res) rfl rfl rfl fun wz hbz huz hsz => ?_
      refine rlw hbz rfl ?_
      refine ⟨⟨O, hO, _, zC, [], [], [], _, _, rfl, scr_zero wz, ?_⟩, (I2.up).step huz (by simp)⟩
      rw [← hP]
      exact ⟨rfl, rfl, rfl, rfl, rfl, rfl⟩
    rw [by8_list, by8_list] at hne
    have hne : L.getD A [] = thrU k := by simpa using hne
    rw [hne, betwP_yes _ _ _ _ _ _ hkT] at hP
    refine ar64 (by omega) ?_
    obtain ⟨hB, hBl, hBk, hBv⟩ := I2.lts
    refine loop_rule [2, 5, 6, 7, 9, 11] [8, 12] (fun vs w' m => ∃ (A : Nat) (ev : Value) (acc : List C3), vs = [.int .i64 (A : Int), ev] ∧ A ≤ L.length ∧ m = L.length - A ∧ RfI w w' q p (.slice (some ⟨lb, lo, none⟩) L.length lcap) L c kv (.slice none 0 0) (.slice none 0 0) cs vals ∧ Sl w' TCall 3 ev acc.length (cellsC acc) ∧ (∀ g, ev.ownBlock = some g → w2.heap.size ≤ g) ∧ w2.heap.size ≤ w'.heap.size ∧ tot cs + acc.length ≤ A ∧ innerP (decide (moreT l)) c k cs acc A (L.drop A) = O) rfl [.int .i64 ((A + 1 : Nat) : Int), .slice none 0 0] (L.length - (A + 1)) rfl
      ⟨A + 1, _, [], rfl, by omega, rfl, I2, Sl.nil_ _ _ _, by simp [Value.ownBlock], Nat.le_refl _, by simp; omega, hP⟩ ?_
    clear hP hne hlA hto hAM hA I I2
    rintro _ w3 m ⟨A, ev, acc, rfl, hAM, rfl, I4, hs4, hf4, hz4, hto, hP⟩
    refine len_sl ?_
    by_cases hA : L.length ≤ A
    · refine cN (by omega) ?_
      have hP' : betwP (decide (moreT l)) c (k + 1) (cs ++ [acc]) A (L.drop A) = O := by
        rw [List.drop_of_length_le hA, innerP_nil] at hP
        rw [List.drop_of_length_le hA, betwP_nil]; exact hP
      obtain ⟨ea, ec, rfl, -⟩ := hs4.form
      refine fa ?_
      refine ldb I4.scr (v := kv) rfl ?_
      refine bs #[.slice ea acc.length ec] (fun _ => by kernel_rfl) fun w9 hb9 hu9 hs9 => ?_
      have I9 := I4.upd0 hu9
      refine apg I9.calls.out hb9 rfl rfl (by decide) (by simp only [maxLen]; omega) (by omega) fun kv2 w10 hs10 hG10 => ?_
      have hC10 := I9.calls.push (hs4.upd hu9 (by simp)) (fun y hy g hg hg2 => by have h1 := hBv y hy g hg; have h2 := hf4 g hg2; omega) hG10 hs10
      have hnS : ∀ {T : TypeId} {cs : Array Value} {g : Nat}, Blk w9 g T cs → 68 ≠ T → kv.ownBlock ≠ some g := fun hb hne h => I9.calls.out.blk_ne hb hne h
      have hown2 : ∀ g, kv2.ownBlock = some g → w.heap.size ≤ g := fun g hg => by
        rcases hG10.own g hg with h | h
        · exact I9.kvn g h
        · have := I9.up.size; omega
      obtain ⟨ka, kc, rfl, -⟩ := hs10.form
      have g1 := hG10.blk I9.scr (hnS I9.scr (by decide))
      refine fa ?_
      refine st g1 (by show 0 + 7 < 10; omega) rfl fun w11 hb11 hu11 hs11 => ?_
      refine ar64 (by omega) ?_
      exact round_mk [.int .i64 (A : Int), .int .i64 ((k + 1 : Nat) : Int)] (T - (k + 1)) rfl rfl ⟨k + 1, A, _, _, _, rfl, by omega, rfl,
        ⟨(hG10.blk I9.res (hnS I9.res (by decide))).upd hu11 (by simpa using hpr), (hG10.blk I9.conf (hnS I9.conf (by decide))).upd hu11 (by simpa using hpq), hb11, (I9.lst.upd hG10.up (fun g hg hm => I9.calls.out.ne_ I9.lst (by decide) g (by simpa using hm) hg)).farT g1 (by decide) hu11, hC10.far g1 (by decide) (by decide) hu11, (I9.up.step hG10.up (fun x hx => .inr (I9.kvn x (by simpa using hx)))).step hu11 (by simpa using hpn), hpq, hpr, hpn, hown2⟩, by simp [hcl2], hAM, by rw [tot_snoc]; omega, hP'⟩ (by omega)
    have hA : A < L.length := by omega
    have hlA := hLg A hA
    rw [drop_at L A hA] at hP
    have hgo : ((L.getD A []).take 7 = p_thread ∨ (L.getD A []).take 5 = s_picks) → betwP (decide (moreT l)) c (k + 1) (cs ++ [acc]) A (L.drop A) = O := fun h => by
      rw [innerP_stop _ _ _ _ _ _ _ h] at hP
      rw [drop_at L A hA]; exact hP
    refine cY (by omega) ?_
    refine ix A rfl hA ?_
    refine ld (hrd w3 I4.lst A hA) ?_
    refine cl (begins_c (L.getD A []) p_thread w3) ?_
    rintro _ w4 ⟨rfl, rfl⟩
    by_cases hth : (L.getD A []).take 7 = p_thread
    · rw [show decide ((L.getD A []).take p_thread.length = p_thread) = true from decide_eq_true hth]
      have hP' := hgo (.inl hth)
      obtain ⟨ea, ec, rfl, -⟩ := hs4.form
      refine fa ?_
      refine ldb I4.scr (v := kv) rfl ?_
      refine bs #[.slice ea acc.length ec] (fun _ => by kernel_rfl) fun w9 hb9 hu9 hs9 => ?_
      have I9 := I4.upd0 hu9
      refine apg I9.calls.out hb9 rfl rfl (by decide) (by simp only [maxLen]; omega) (by omega) fun kv2 w10 hs10 hG10 => ?_
      have hC10 := I9.calls.push (hs4.upd hu9 (by simp)) (fun y hy g hg hg2 => by have h1 := hBv y hy g hg; have h2 := hf4 g hg2; omega) hG10 hs10
      have hnS : ∀ {T : TypeId} {cs : Array Value} {g : Nat}, Blk w9 g T cs → 68 ≠ T → kv.ownBlock ≠ some g := fun hb hne h => I9.calls.out.blk_ne hb hne h
      have hown2 : ∀ g, kv2.ownBlock = some g → w.heap.size ≤ g := fun g hg => by
        rcases hG10.own g hg with h | h
        · exact I9.kvn g h
        · have := I9.up.size; omega
      obtain ⟨ka, kc, rfl, -⟩ := hs10.form
      have g1 := hG10.blk I9.scr (hnS I9.scr (by decide))
      refine fa ?_
      refine st g1 (by show 0 + 7 < 10; omega) rfl fun w11 hb11 hu11 hs11 => ?_
      refine ar64 (by omega) ?_
      exact round_mk [.int .i64 (A : Int), .int .i64 ((k + 1 : Nat) : Int)] (T - (k + 1)) rfl rfl ⟨k + 1, A, _, _, _, rfl, by omega, rfl,
        ⟨(hG10.blk I9.res (hnS I9.res (by decide))).upd hu11 (by simpa using hpr), (hG10.blk I9.conf (hnS I9.conf (by decide))).upd hu11 (by simpa using hpq), hb11, (I9.lst.upd hG10.up (fun g hg hm => I9.calls.out.ne_ I9.lst (by decide) g (by simpa using hm) hg)).farT g1 (by decide) hu11, hC10.far g1 (by decide) (by decide) hu11, (I9.up.step hG10.up (fun x hx => .inr (I9.kvn x (by simpa using hx)))).step hu11 (by simpa using hpn), hpq, hpr, hpn, hown2⟩, by simp [hcl2], hAM, by rw [tot_snoc]; omega, hP'⟩ (by omega)
    rw [show decide ((L.getD A []).take p_thread.length = p_thread) = false from decide_eq_false hth]
    refine ix A rfl hA ?_
    refine ld (hrd w4 I4.lst A hA) ?_
    refine cl (begins_c (L.getD A []) s_picks w4) ?_
    rintro _ w5 ⟨rfl, rfl⟩
    by_cases hpi : (L.getD A []).take 5 = s_picks
    · rw [show decide ((L.getD A []).take s_picks.length = s_picks) = true from decide_eq_true hpi]
      have hP' := hgo (.inr hpi)
      obtain ⟨ea, ec, rfl, -⟩ := hs4.form
      refine fa ?_
      refine ldb I4.scr (v := kv) rfl ?_
      refine bs #[.slice ea acc.length ec] (fun _ => by kernel_rfl) fun w9 hb9 hu9 hs9 => ?_
      have I9 := I4.upd0 hu9
      refine apg I9.calls.out hb9 rfl rfl (by decide) (by simp only [maxLen]; omega) (by omega) fun kv2 w10 hs10 hG10 => ?_
      have hC10 := I9.calls.push (hs4.upd hu9 (by simp)) (fun y hy g hg hg2 => by have h1 := hBv y hy g hg; have h2 := hf4 g hg2; omega) hG10 hs10
      have hnS : ∀ {T : TypeId} {cs : Array Value} {g : Nat}, Blk w9 g T cs → 68 ≠ T → kv.ownBlock ≠ some g := fun hb hne h => I9.calls.out.blk_ne hb hne h
      have hown2 : ∀ g, kv2.ownBlock = some g → w.heap.size ≤ g := fun g hg => by
        rcases hG10.own g hg with h | h
        · exact I9.kvn g h
        · have := I9.up.size; omega
      obtain ⟨ka, kc, rfl, -⟩ := hs10.form
      have g1 := hG10.blk I9.scr (hnS I9.scr (by decide))
      refine fa ?_
      refine st g1 (by show 0 + 7 < 10; omega) rfl fun w11 hb11 hu11 hs11 => ?_
      refine ar64 (by omega) ?_
      exact round_mk [.int .i64 (A : Int), .int .i64 ((k + 1 : Nat) : Int)] (T - (k + 1)) rfl rfl ⟨k + 1, A, _, _, _, rfl, by omega, rfl,
        ⟨(hG10.blk I9.res (hnS I9.res (by decide))).upd hu11 (by simpa using hpr), (hG10.blk I9.conf (hnS I9.conf (by decide))).upd hu11 (by simpa using hpq), hb11, (I9.lst.upd hG10.up (fun g hg hm => I9.calls.out.ne_ I9.lst (by decide) g (by simpa using hm) hg)).farT g1 (by decide) hu11, hC10.far g1 (by decide) (by decide) hu11, (I9.up.step hG10.up (fun x hx => .inr (I9.kvn x (by simpa using hx)))).step hu11 (by simpa using hpn), hpq, hpr, hpn, hown2⟩, by simp [hcl2], hAM, by rw [tot_snoc]; omega, hP'⟩ (by omega)
    rw [show decide ((L.getD A []).take s_picks.length = s_picks) = false from decide_eq_false hpi]
    have hns : ¬ stopL (L.getD A []) := fun h => by
      rcases h with h | h
      · exact hth h
      · exact hpi h
    refine ix A rfl hA ?_
    refine ld (hrd w5 I4.lst A hA) ?_
    refine cl (rparse_c (L.getD A []) (by omega) w5) ?_
    rintro _ w6 ⟨rfl, hu6⟩
    have I6 := I4.upd0 hu6
    have hz6 := hu6.size
    rw [rparse_eq]
    cases hpr : parseR (L.getD A []) with
    | none =>
      rw [innerP_none _ _ _ _ _ _ _ hns hpr] at hP
      refine al z3 (fun _ => by kernel_rfl) fun w7 hb7 hu7 hs7 => ?_
      refine stw hb7 rfl rfl rfl fun w8 hb8 hu8 hs8 => ?_
      have I8 := (I6.upd0 hu7).step (B := w2.heap.size) hB hBl hBk hBv hu8 (by simp; omega)
      refine bd zSc (fun _ => by kernel_rfl) ?_
      refine ar64 (by omega) ?_
      refine stw (I8.res) rfl rfl rfl fun wz hbz huz hsz => ?_
      refine rlw hbz rfl ?_
      refine ⟨⟨O, hO, _, zC, [], [], [], _, _, rfl, scr_zero wz, ?_⟩, (I8.up).step huz (by simp)⟩
      rw [← hP]
      exact ⟨rfl, rfl, rfl, rfl, rfl, rfl⟩
    | some x =>
      rw [innerP_some _ _ _ _ _ _ _ hns hpr] at hP
      obtain ⟨o, x, y⟩ := x
      refine al z3 (fun _ => by kernel_rfl) fun w7 hb7 hu7 hs7 => ?_
      refine stw hb7 rfl rfl rfl fun w8 hb8 hu8 hs8 => ?_
      have I8 := (I6.upd0 hu7).step (B := w2.heap.size) hB hBl hBk hBv hu8 (by simp; omega)
      have hs8' := ((hs4.upd hu6 (by simp)).upd hu7 (by simp)).upd hu8 (fun g hg => by have := (hs4.upd hu6 (by simp)).lt g hg; simp only [List.mem_singleton]; omega)
      refine ldw hb8 rfl ?_
      refine bs (c3 o x y) (fun _ => by kernel_rfl) fun w9 hb9 hu9 hs9 => ?_
      have I9 := I8.upd0 hu9
      refine apg (hs8'.upd hu9 (by simp)) hb9 rfl rfl (by decide) (by simp only [maxLen]; omega) (by omega) fun ev2 w10 hs10 hG10 => ?_
      have hz9 := hu9.size
      have hz10 := hG10.up.size
      have hcc : cellsC (acc ++ [(o, x, y)]) = cellsC acc ++ (c3 o x y).toList := by rw [cellsC_app]; rfl
      refine ar64 (by omega) ?_
      exact round_mk [.int .i64 ((A + 1 : Nat) : Int), ev2] (L.length - (A + 1)) rfl rfl ⟨A + 1, ev2, acc ++ [(o, x, y)], rfl, by omega, rfl, I9.step (B := w2.heap.size) hB hBl hBk hBv hG10.up (fun g hg => hf4 g (by simpa using hg)), by rw [hcc, List.length_append]; exact hs10, fun g hg => (hG10.own g hg).elim (fun h => hf4 g h) (fun h => by omega), by omega, by rw [List.length_append]; simp only [List.length_singleton]; omega, hP⟩ (by omega)
  have hkT : ¬ (k : Int) < c.T := hlt
  rw [betwP_end _ _ _ _ _ _ hkT] at hP
  refine len_sl ?_
  by_cases hA : L.length ≤ A
  · refine cY (by omega) ?_
    rw [List.drop_of_length_le hA] at hP
    refine bd zSc (fun _ => by kernel_rfl) ?_
    refine ar64 (by omega) ?_
    refine stw (I.res) rfl rfl rfl fun wz hbz huz hsz => ?_
    refine rlw hbz rfl ?_
    refine ⟨⟨O, hO, _, zC, [], [], [], _, _, rfl, scr_zero wz, ?_⟩, (I.up).step huz (by simp)⟩
    rw [← hP]
    exact ⟨rfl, rfl, rfl, rfl, rfl, rfl⟩
  have hA : A < L.length := by omega
  have hlA := hLg A hA
  rw [drop_at L A hA] at hP
  refine cN (by omega) ?_
  refine draw_mix 11 [(0, true), (1, true), (2, true), (3, true), (4, true), (5, true), (6, false), (7, true), (8, true), (9, true), (10, true)] (fun w' => Upd [] w1 w') (by decide +kernel) (Upd.refl [] w1).drew ?_
  refine q_ix A rfl hA ?_
  refine q_ld (v := .string (by8 (L.getD A []))) (fun w' hw' => hrd w' (I.upd0 hw').lst A hA) ?_
  refine q_fa ?_
  refine q_ld (v := .int .i64 c.T) (fun w' hw' => (I.conf.upd hw' (by simp)).cell 1) ?_
  refine cl (rpicksl_c (L.getD A []) (by omega) c.T hT.2 w1.drew) ?_
  rintro _ w2 ⟨pv, b, rfl, hpk⟩
  have hu2 : Upd [] w1 w2 := (Upd.refl [] w1).drew.trans (by
    rcases hpk with ⟨_, _, _, _, h⟩ | ⟨_, _, h⟩
    · exact h.up
    · exact h)
  have I2 := I.upd0 hu2
  refine ⟨hu2, ?_⟩
  rcases hpk with ⟨rfl, ps, hpi, hpsl, hps⟩ | ⟨rfl, hno, -⟩
  rotate_left
  · rw [tailP, hno] at hP
    refine bd zSc (fun _ => by kernel_rfl) ?_
    refine ar64 (by omega) ?_
    refine stw (I2.res) rfl rfl rfl fun wz hbz huz hsz => ?_
    refine rlw hbz rfl ?_
    refine ⟨⟨O, hO, _, zC, [], [], [], _, _, rfl, scr_zero wz, ?_⟩, (I2.up).step huz (by simp)⟩
    rw [← hP]
    exact ⟨rfl, rfl, rfl, rfl, rfl, rfl⟩
  rw [tailP, hpi] at hP
  simp only at hP
  obtain ⟨pa, pc, rfl, -⟩ := hps.s.form
  refine fa ?_
  refine st I2.scr (by show 0 + 8 < 10; omega) rfl fun w3 hb3 hu3 hs3 => ?_
  have hb3 : Blk w3 p TS (scV c kv (.slice pa ps.length pc) (.slice none 0 0)) := hb3
  have I3 := I2.put hu3 hb3
  have hp3 := hps.s.farT I2.scr (by decide) hu3
  refine ar64 (by omega) ?_
  refine len_sl ?_
  clear hps
  by_cases hA2 : L.length ≤ A + 1
  · refine cY (by omega) ?_
    rw [List.drop_of_length_le hA2] at hP
    refine bd zSc (fun _ => by kernel_rfl) ?_
    refine ar64 (by omega) ?_
    refine stw (I3.res) rfl rfl rfl fun wz hbz huz hsz => ?_
    refine rlw hbz rfl ?_
    refine ⟨⟨O, hO, _, zC, [], [], [], _, _, rfl, scr_zero wz, ?_⟩, (I3.up).step huz (by simp)⟩
    rw [← hP]
    exact ⟨rfl, rfl, rfl, rfl, rfl, rfl⟩
  have hA2 : A + 1 < L.length := by omega
  have hlA2 := hLg (A + 1) hA2
  rw [drop_at L (A + 1) hA2] at hP
  refine cN (by omega) ?_
  refine ix (A + 1) rfl hA2 ?_
  refine ld (hrd w3 I3.lst (A + 1) hA2) ?_
  refine cl (rdrawsl_c (L.getD (A + 1) []) (by omega) w3) ?_
  rintro _ w4 ⟨dv, b, rfl, hdw⟩
  have hu4 : Upd [] w3 w4 := by
    rcases hdw with ⟨_, _, _, _, _, h⟩ | ⟨_, _, h⟩
    · exact h.up
    · exact h
  have I4 := I3.upd0 hu4
  have hp4 := hp3.upd hu4 (by simp)
  rcases hdw with ⟨rfl, ds, hdi, hdb, hdl, hds⟩ | ⟨rfl, hno, -⟩
  rotate_left
  · rw [tail2P, hno] at hP
    refine bd zSc (fun _ => by kernel_rfl) ?_
    refine ar64 (by omega) ?_
    refine stw (I4.res) rfl rfl rfl fun wz hbz huz hsz => ?_
    refine rlw hbz rfl ?_
    refine ⟨⟨O, hO, _, zC, [], [], [], _, _, rfl, scr_zero wz, ?_⟩, (I4.up).step huz (by simp)⟩
    rw [← hP]
    exact ⟨rfl, rfl, rfl, rfl, rfl, rfl⟩
  rw [tail2P, hdi] at hP
  simp only at hP
  obtain ⟨da, dc, rfl, -⟩ := hds.s.form
  refine fa ?_
  refine st I4.scr (by show 0 + 9 < 10; omega) rfl fun w5 hb5 hu5 hs5 => ?_
  have hb5 : Blk w5 p TS (scV c kv (.slice pa ps.length pc) (.slice da ds.length dc)) := hb5
  have I5 := I4.put hu5 hb5
  have hp5 := hp4.farT I4.scr (by decide) hu5
  have hd5 := hds.s.farT I4.scr (by decide) hu5
  refine ar64 (by omega) ?_
  refine len_sl ?_
  by_cases hA3 : A + 1 + 1 < L.length
  · refine cY (by omega) ?_
    have hne : L.drop (A + 1 + 1) ≠ [] := fun h => by have := congrArg List.length h; rw [List.length_drop] at this; simp at this; omega
    rw [show (if L.drop (A + 1 + 1) = [] ∧ decide (moreT l) = false then Out.good c cs ps ds else Out.bad (A + 1 + 2)) = Out.bad (A + 1 + 2) from if_neg (fun h => hne h.1)] at hP
    refine bd zSc (fun _ => by kernel_rfl) ?_
    refine ar64 (by omega) ?_
    refine stw (I5.res) rfl rfl rfl fun wz hbz huz hsz => ?_
    refine rlw hbz rfl ?_
    refine ⟨⟨O, hO, _, zC, [], [], [], _, _, rfl, scr_zero wz, ?_⟩, (I5.up).step huz (by simp)⟩
    rw [← hP]
    exact ⟨rfl, rfl, rfl, rfl, rfl, rfl⟩
  refine cN (by omega) ?_
  have hnil : L.drop (A + 1 + 1) = [] := List.drop_of_length_le (by omega)
  by_cases hm : moreT l
  · rw [decide_eq_true hm]
    rw [show (if L.drop (A + 1 + 1) = [] ∧ decide (moreT l) = false then Out.good c cs ps ds else Out.bad (A + 1 + 2)) = Out.bad (A + 1 + 2) from if_neg (fun h => by rw [decide_eq_true hm] at h; cases h.2)] at hP
    refine bd zSc (fun _ => by kernel_rfl) ?_
    refine ar64 (by omega) ?_
    refine stw (I5.res) rfl rfl rfl fun wz hbz huz hsz => ?_
    refine rlw hbz rfl ?_
    refine ⟨⟨O, hO, _, zC, [], [], [], _, _, rfl, scr_zero wz, ?_⟩, (I5.up).step huz (by simp)⟩
    rw [← hP]
    exact ⟨rfl, rfl, rfl, rfl, rfl, rfl⟩
  rw [decide_eq_false hm]
  rw [show (if L.drop (A + 1 + 1) = [] ∧ decide (moreT l) = false then Out.good c cs ps ds else Out.bad (A + 1 + 2)) = Out.good c cs ps ds from if_pos ⟨hnil, decide_eq_false hm⟩] at hP
  have hS5 : Scr w5 c cs ps ds (.agg (scV c kv (.slice pa ps.length pc) (.slice da ds.length dc))) := ⟨_, _, _, vals, rfl, I5.calls.rd, RdK.of_sl hp5, RdK.of_sl hd5⟩
  refine ldw hb5 rfl ?_
  refine cl (rright_sc hS5) ?_
  rintro _ w6 ⟨⟨b, rfl, hbr⟩, hu6⟩
  have I6 := I5.upd0 hu6
  have hp6 := hp5.upd hu6 (by simp)
  have hd6 := hd5.upd hu6 (by simp)
  cases b with
  | false =>
    refine bd zSc (fun _ => by kernel_rfl) ?_
    refine stw I6.res rfl rfl rfl fun wz hbz huz hsz => ?_
    refine rlw hbz rfl ?_
    refine ⟨⟨O, hO, _, zC, [], [], [], _, _, rfl, scr_zero wz, ?_⟩, I6.up.step huz (by simp)⟩
    rw [← hP]
    exact .inr ⟨fun h => (by have := hbr.2 h; cases this), rfl, rfl, rfl, rfl, rfl, rfl⟩
  | true =>
    obtain ⟨ka, kc, rfl, -⟩ := I6.calls.out.form
    refine ldw I6.scr rfl ?_
    refine stw I6.res rfl rfl rfl fun wz hbz huz hsz => ?_
    refine rlw hbz rfl ?_
    refine ⟨⟨O, hO, _, c, cs, ps, ds, _, _, rfl, ⟨_, _, _, vals, rfl, (I6.calls.far I6.res (by decide) (by decide) huz).rd, RdK.of_sl (hp6.farT I6.res (by decide) huz), RdK.of_sl (hd6.farT I6.res (by decide) huz)⟩, ?_⟩, I6.up.step huz (by simp)⟩
    rw [← hP]
    exact .inl ⟨hbr.1 rfl, rfl, rfl, rfl, rfl, rfl, rfl⟩
end Go.Proofs.YtlhbgnoghjendaaDoor

/- The chapter's example. -/
namespace Go.Proofs.YtlhbgnoghjendaaDoor
open Go.RowKit
attribute [local irreducible] Instr.loadAt Instr.storeAt Instr.fieldAt Instr.indexAt Instr.sliceAt Instr.buildSlice Instr.box Instr.alloc Builtin.append_ Builtin.len_ Builtin.min_ Builtin.max_ Calls Instr.build Instr.makeSlice binSem convert Instr.index Instr.range Instr.next
attribute [local irreducible] Builtin.unsafeSliceData_ Builtin.unsafeString_
def exC : Cf := ⟨0, 1, 2, 1, 1, 1, 1⟩
def exCs : List (List C3) := [[(1, 0, 0)]]
def exT : List Int := [109,111,117,110,100,32,116,104,114,101,97,100,115,32,49,32,110,111,100,101,115,32,50,32,108,101,118,101,108,32,49,32,98,97,116,99,104,32,49,32,112,114,111,98,101,115,32,49,32,115,99,97,110,32,49,10,116,104,114,101,97,100,32,48,10,100,101,108,101,116,101,109,105,110,10,112,105,99,107,115,32,48,120,50,10,100,114,97,119,115,32,48,97,10]
theorem ex_text : textU (linesL exC exCs [0, 0] [10]) = exT := by
  have d0 : decB 0 = [48] := decB_small (n := 0) (by decide)
  have d1 : decB 1 = [49] := decB_small (n := 1) (by decide)
  have d2 : decB 2 = [50] := decB_small (n := 2) (by decide)
  simp [textU, linesL, confL, kindL, tailL, partL, nameL, cfL, exC, exCs, bodyN, thrL, t_thread, callL, showL, rightCall, pickL, pickF, runL, t_picks, drawL, byteL, hexB, t_draws, d0, d1, d2, exT]
theorem ex_lit : Lit exC exCs [0, 0] [10] := by
  refine ⟨⟨by decide, by decide, by decide, by decide, by decide, ?_, ?_⟩, ⟨by decide, by decide, by decide, by decide⟩, ?_, ?_⟩
  · intro i hi j hj
    obtain rfl : i = 0 := by simp [exCs] at hi; omega
    obtain rfl : j = 0 := by simp [exCs] at hj; omega
    exact .inr ⟨.inl rfl, rfl, rfl⟩
  · intro i hi
    have : i = 0 ∨ i = 1 := by simp at hi; omega
    rcases this with rfl | rfl <;> decide
  · intro l hl x hx
    obtain rfl : l = [(1, 0, 0)] := by simpa [exCs] using hl
    obtain rfl : x = (1, 0, 0) := by simpa using hx
    exact ⟨by decide, by decide⟩
  · intro i hi
    obtain rfl : i = 0 := by simp at hi; omega
    decide
set_option maxRecDepth 10000 in
theorem lives36 (w : World) : Fn Tryd.prog 15 #[] w fun r w' => r = .bool true ∧ Upd [] w w' := by
  refine fn_enter Tryd.func15 rfl rfl ?_
  refine bd (cf7 exC) (fun _ => by kernel_rfl) ?_
  refine bd (c3 1 0 0) (fun _ => by kernel_rfl) ?_
  refine bs (c3 1 0 0) (fun _ => by kernel_rfl) fun w1 hb1 hu1 hs1 => ?_
  refine bs #[.slice (some ⟨w.heap.size, 0, none⟩) 1 1] (fun _ => by kernel_rfl) fun w2 hb2 hu2 hs2 => ?_
  refine bs #[.int .i64 0, .int .i64 0] (fun _ => by kernel_rfl) fun w3 hb3 hu3 hs3 => ?_
  refine bs #[.int .u8 10] (fun _ => by kernel_rfl) fun w4 hb4 hu4 hs4 => ?_
  refine bd (scV exC (.slice (some ⟨w1.heap.size, 0, none⟩) 1 1) (.slice (some ⟨w2.heap.size, 0, none⟩) 2 2) (.slice (some ⟨w3.heap.size, 0, none⟩) 1 1)) (fun _ => by kernel_rfl) ?_
  have hU4 := ((hu1.trans hu2).trans hu3).trans hu4
  have hb1' := ((hb1.upd hu2 (by simp)).upd hu3 (by simp)).upd hu4 (by simp)
  have hb2' := (hb2.upd hu3 (by simp)).upd hu4 (by simp)
  have hb3' := hb3.upd hu4 (by simp)
  have hS : Scr w4 exC exCs [0, 0] [10] (.agg (scV exC (.slice (some ⟨w1.heap.size, 0, none⟩) 1 1) (.slice (some ⟨w2.heap.size, 0, none⟩) 2 2) (.slice (some ⟨w3.heap.size, 0, none⟩) 1 1))) := by
    refine ⟨_, _, _, [.slice (some ⟨w.heap.size, 0, none⟩) 1 1], rfl, ⟨RdN.of_sl (Sl.lit (n := 1) hb2' rfl (by decide)), fun i hi => ?_⟩, RdK.of_sl (Sl.lit (n := 2) hb3' rfl (by decide)), RdK.of_sl (Sl.lit (n := 1) hb4 rfl (by decide))⟩
    obtain rfl : i = 0 := by simp [exCs] at hi; omega
    refine ⟨_, rfl, ⟨_, 1, rfl, by decide, by decide, by decide, fun _ => ⟨w.heap.size, 0, rfl, hb1'.lt, fun j hj => ?_⟩⟩⟩
    rw [hb1'.cell, Nat.zero_add, ← Array.getElem?_toList]
    rfl
  refine cl (show36_yes hS ex_lit) ?_
  rintro _ w5 ⟨rfl, hu5⟩
  rw [ex_text]
  exact ⟨congrArg Value.bool (by kernel_rfl), hU4.trans hu5⟩
end Go.Proofs.YtlhbgnoghjendaaDoor

/- The law SceneParses. -/
namespace Go.Proofs.YtlhbgnoghjendaaDoor
open Go.RowKit
attribute [local irreducible] Instr.loadAt Instr.storeAt Instr.fieldAt Instr.indexAt Instr.sliceAt Instr.buildSlice Instr.box Instr.alloc Builtin.append_ Builtin.len_ Builtin.min_ Builtin.max_ Calls Instr.build Instr.makeSlice binSem convert Instr.index Instr.range Instr.next
theorem Scr.form {w : World} {c : Cf} {cs : List (List C3)} {ps ds : List Int} {v : Value} (h : Scr w c cs ps ds v) : ∃ a0 b0 c0 a1 b1 c1 a2 b2 c2, v = .agg (scV c (.slice a0 b0 c0) (.slice a1 b1 c1) (.slice a2 b2 c2)) := by
  obtain ⟨kv, pv, dv, vals, rfl, h1, h2, h3⟩ := h.h
  obtain ⟨a0, c0, rfl, -⟩ := h1.out.form
  obtain ⟨a1, c1, rfl, -⟩ := h2.form
  obtain ⟨a2, c2, rfl, -⟩ := h3.form
  exact ⟨_, _, _, _, _, _, _, _, _, rfl⟩
set_option maxRecDepth 10000 in
theorem sparses_law (l : List UInt8) (w : World) : Fn Tryd.prog 5 #[.string (by8 l)] w fun r w' => r = .bool true ∧ Upd [] w w' := by
  have hsz := by8_size l
  refine fn_enter Tryd.func5 rfl rfl ?_
  refine len_str ?_
  refine cd (fun h3 => ?_) (fun h3 => ?_)
  · refine cl (lives36 w) ?_
    rintro _ w1 ⟨rfl, hu1⟩
    exact ⟨rfl, hu1⟩
  refine cl (scparse_c l (by omega) w) ?_
  rintro _ w1 ⟨⟨o, ho, v, c, cs, ps, ds, k, e, rfl, hs, hd⟩, hu1⟩
  obtain ⟨a0, b0, c0, a1, b1, c1, a2, b2, c2, rfl⟩ := hs.form
  refine al zSc (fun _ => by kernel_rfl) fun w2 hb2 hu2 hs2 => ?_
  refine stw hb2 rfl rfl rfl fun w3 hb3 hu3 hs3 => ?_
  have hu13 : Upd [] w1 w3 := hu2.step hu3 (by simp)
  have hs3 := hs.upd0 hu13
  have hU3 := hu1.trans hu13
  refine cl (rsparse_c l (by omega) w3) ?_
  rintro _ w4 ⟨⟨o', ho', v', c', cs', ps', ds', k', e', rfl, hs', hd'⟩, hu4⟩
  obtain rfl := ho.uniq ho'
  obtain ⟨rfl, rfl, rfl, rfl, rfl, rfl⟩ := hd.uniq hd'
  obtain ⟨a0', b0', c0', a1', b1', c1', a2', b2', c2', rfl⟩ := hs'.form
  refine al zSc (fun _ => by kernel_rfl) fun w5 hb5 hu5 hs5 => ?_
  refine stw hb5 rfl rfl rfl fun w6 hb6 hu6 hs6 => ?_
  have hu46 : Upd [] w4 w6 := hu5.step hu6 (by simp)
  have hs6 := (hs3.upd0 hu4).upd0 hu46
  have hs6' := hs'.upd0 hu46
  have hU6 := (hU3.trans hu4).trans hu46
  refine ldw ((hb3.upd hu4 (by simp)).upd hu46 (by simp)) rfl ?_
  refine ldw hb6 rfl ?_
  refine cl (same_c hs6 hs6') ?_
  rintro _ w7 ⟨rfl, hu7⟩
  refine cY rfl ?_
  refine cY rfl ?_
  refine cl (lives36 w7) ?_
  rintro _ w8 ⟨rfl, hu8⟩
  exact ⟨rfl, (hU6.trans hu7).trans hu8⟩
theorem SceneParses_walk (w : World) (s : ByteArray) (hs : s.size ≤ 140737488351232) : Calls Tryd.prog 5 #[.string s] w fun e w' => e = .returned (.bool true) ∧ Below w.heap.size w w' := by
  rw [← by8_data s]
  exact (sparses_law s.data.toList w).mono fun _ _ ⟨_, he, hv, hu⟩ => ⟨by rw [he, hv], hu.below⟩
end Go.Proofs.YtlhbgnoghjendaaDoor

