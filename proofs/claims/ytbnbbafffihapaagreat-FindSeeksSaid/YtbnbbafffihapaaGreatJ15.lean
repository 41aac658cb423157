/- Joined: Ts Tt Tu. -/
import Derived.Test.YtbnbbafffihapaaGreatJ13
/- Find: the document's rows and its search. -/
namespace Go.Proofs.YtbnbbafffihapaaGreat
open Go.RowKit
attribute [local irreducible] Instr.loadAt Instr.storeAt Instr.fieldAt Instr.indexAt Instr.sliceAt Instr.buildSlice Instr.box Instr.alloc Builtin.append_ Builtin.len_ Builtin.min_ Builtin.max_ Calls Instr.build Instr.makeSlice binSem convert Instr.index Instr.range Instr.next
def natV (l : List Nat) : List Value := l.map fun (j : Nat) => .int .i64 (j : Int)
theorem natV_len (l : List Nat) : (natV l).length = l.length := by simp [natV]
theorem natV_snoc (l : List Nat) (j : Nat) : natV (l ++ [j]) = natV l ++ [.int .i64 (j : Int)] := by simp [natV]
theorem natV_at {w : World} {e : Nat} {l : List Nat} {b o c : Nat} (h : Sl w e 1 (.slice (some ⟨b, o, none⟩) l.length c) l.length (natV l)) {i : Nat} (hi : i < l.length) : w.cell? ⟨b, o + i * 1, none⟩ = some (.int .i64 ((l.getD i 0 : Nat) : Int)) := by
  have := (h.cells rfl i (by omega)).1
  rw [show o + i * 1 = o + i by omega, this]
  simp [natV, List.getD, hi]
theorem xcell2 {w : World} {l : List Nd} {ms : List Int} {n b o cp : Nat} (h : Sl w TXn 3 (.slice (some ⟨b, o, none⟩) n cp) n (xL l ms n)) {j f : Nat} (hj : j < n) (hf : f < 3) {v : Value} (hv : (xC l ms j)[f]? = some v) : w.cell? ⟨b, o + j * 3 + f, none⟩ = some v := by
  rw [show o + j * 3 + f = o + (j * 3 + f) by omega, (h.cells rfl (j * 3 + f) (by omega)).1, xL_at l ms hj hf]; exact hv
theorem tallIx_up (l : List Nd) (k i : Nat) : ((List.range (i + 1)).filter (tallP l k)) = ((List.range i).filter (tallP l k)) ++ (if (k : Int) < (ndAt l i).tall then [i] else []) := by
  rw [List.range_succ, List.filter_append]
  by_cases h : (k : Int) < (ndAt l i).tall
  · rw [if_pos h, List.filter_cons_of_pos (by unfold tallP; exact decide_eq_true h)]; rfl
  · rw [if_neg h, List.filter_cons_of_neg (by unfold tallP; simpa using h)]; rfl
/-- the search in a row, as the document goes -/
def SkS (c : List Nat) (f : Nat) (mk lt : Nat → Bool) (A Y : List Nat) (i : Nat) (out : List Nat) (pred succ : Int) (bh : Bool) : Prop :=
  (bh = false ∧ succ = -1 ∧ pred = -1 ∧ out = c.take i ∧ 0 < f ∧ ∀ j ∈ c.take i, j + 1 < f) ∨ (bh = true ∧ succ = -1 ∧ sk mk lt out (c.drop i) = (A, Y) ∧ pred = (lastF 0 out : Int) - 1) ∨
  (bh = true ∧ 0 ≤ succ ∧ out ++ c.drop i = A ++ Y ∧ pred = (lastF 0 A : Int) - 1 ∧ ∃ j y, Y = j :: y ∧ succ = (j : Int))
section
variable {c : List Nat} {f : Nat} {mk lt : Nat → Bool} {A Y : List Nat} {i : Nat} {out : List Nat} {pred succ : Int}
theorem cut_at (hc : Asc 0 c) (hi : i < c.length) (hf : c.getD i 0 + 1 = f) (hlo : ∀ j ∈ c.take i, j + 1 < f) : c.filter (lowP f) = c.take (i + 1) ∧ c.filter (fun j => !lowP f j) = c.drop (i + 1) := by
  have e : c = c.take (i + 1) ++ c.drop (i + 1) := (List.take_append_drop _ _).symm
  have ht : c.take (i + 1) = c.take i ++ [c.getD i 0] := by rw [List.take_add_one, List.getElem?_eq_getElem hi]; simp [List.getD, hi]
  have hd : Asc f (c.drop (i + 1)) := by
    rw [e] at hc
    have := hc.right
    rw [ht, lastF_app] at this
    rw [← hf]; exact this
  have h1 : ∀ j ∈ c.take (i + 1), lowP f j = true := fun j hj => by
    rw [ht] at hj
    unfold lowP
    rcases List.mem_append.1 hj with h | h
    · have := hlo j h; exact decide_eq_true (by omega)
    · rw [List.mem_singleton.1 h]; exact decide_eq_true (by omega)
  have h2 : ∀ j ∈ c.drop (i + 1), lowP f j = false := fun j hj => by
    have := hd.ge j hj
    unfold lowP; exact decide_eq_false (by omega)
  have a1 : (c.take (i + 1)).filter (lowP f) = c.take (i + 1) := List.filter_eq_self.2 h1
  have a2 : (c.drop (i + 1)).filter (lowP f) = [] := List.filter_eq_nil_iff.2 fun j hj => by rw [h2 j hj]; decide
  have a3 : (c.take (i + 1)).filter (fun j => !lowP f j) = [] := List.filter_eq_nil_iff.2 fun j hj => by rw [h1 j hj]; decide
  have a4 : (c.drop (i + 1)).filter (fun j => !lowP f j) = c.drop (i + 1) := List.filter_eq_self.2 fun j hj => by rw [h2 j hj]; rfl
  constructor
  · conv => lhs; rw [e]
    rw [List.filter_append, a1, a2, List.append_nil]
  · conv => lhs; rw [e]
    rw [List.filter_append, a3, a4, List.nil_append]
theorem drop_at (hi : i < c.length) : c.drop i = c.getD i 0 :: c.drop (i + 1) := by
  rw [List.drop_eq_getElem_cons hi]; simp [List.getD, hi]
theorem SkS.init (hc : Asc 0 c) (hf : f = 0 ∨ (f - 1 ∈ c ∧ 0 < f)) (hE : sk mk lt (c.filter (lowP f)) (c.filter (fun j => !lowP f j)) = (A, Y)) : SkS c f mk lt A Y 0 [] (-1) (-1) (decide ((f : Int) - 1 < 0)) := by
  by_cases h0 : f = 0
  · subst h0
    right; left
    refine ⟨rfl, rfl, ?_, rfl⟩
    have e1 : c.filter (lowP 0) = [] := List.filter_eq_nil_iff.2 fun j _ => by unfold lowP; simp
    have e2 : c.filter (fun j => !lowP 0 j) = c := List.filter_eq_self.2 fun j _ => by unfold lowP; simp
    rw [e1, e2] at hE
    exact hE
  · left
    exact ⟨decide_eq_false (by omega), rfl, rfl, rfl, by omega, fun j hj => by cases hj⟩
theorem SkS.low (h : SkS c f mk lt A Y i out pred succ false) (hi : i < c.length) (hc : Asc 0 c) (hf : f - 1 ∈ c) (hE : sk mk lt (c.filter (lowP f)) (c.filter (fun j => !lowP f j)) = (A, Y)) :
    if ((c.getD i 0 : Nat) : Int) = (f : Int) - 1 then SkS c f mk lt A Y (i + 1) (out ++ [c.getD i 0]) ((f : Int) - 1) (-1) true else SkS c f mk lt A Y (i + 1) (out ++ [c.getD i 0]) (-1) (-1) false := by
  rcases h with ⟨-, -, -, ho, h0, hlo⟩ | ⟨h, -⟩ | ⟨h, -⟩
  · have ht : c.take (i + 1) = c.take i ++ [c.getD i 0] := by rw [List.take_add_one, List.getElem?_eq_getElem hi]; simp [List.getD, hi]
    split
    · rename_i he
      obtain ⟨e1, e2⟩ := cut_at hc hi (f := f) (by omega) hlo
      right; left
      refine ⟨rfl, rfl, ?_, ?_⟩
      · rw [ho, ← ht, ← e1, ← e2]; exact hE
      · rw [lastF_app]
        show (f : Int) - 1 = ((c.getD i 0 + 1 : Nat) : Int) - 1
        omega
    · rename_i he
      left
      refine ⟨rfl, rfl, rfl, by rw [ho, ht], h0, fun j hj => ?_⟩
      rw [ht] at hj
      rcases List.mem_append.1 hj with h | h
      · exact hlo j h
      · rw [List.mem_singleton.1 h]
        rw [← List.take_append_drop i c] at hf hc
        have hr := hc.right
        rw [drop_at hi] at hr hf
        rcases List.mem_append.1 hf with h1 | h1
        · have := hlo _ h1; omega
        · rcases List.mem_cons.1 h1 with h2 | h2
          · omega
          · have := hr.2.ge _ h2; omega
  · cases h
  · cases h
theorem SkS.late (h : SkS c f mk lt A Y i out pred succ true) (hs : 0 ≤ succ) (hi : i < c.length) : SkS c f mk lt A Y (i + 1) (out ++ [c.getD i 0]) pred succ true := by
  rcases h with ⟨h, -⟩ | ⟨-, h, -⟩ | ⟨-, h1, h2, h3, h4⟩
  · cases h
  · omega
  · right; right
    exact ⟨rfl, h1, by rw [List.append_assoc, List.singleton_append, ← drop_at hi]; exact h2, h3, h4⟩
theorem SkS.mark (h : SkS c f mk lt A Y i out pred succ true) (hs : ¬ 0 ≤ succ) (hi : i < c.length) (hm : mk (c.getD i 0) = true) : SkS c f mk lt A Y (i + 1) out pred succ true := by
  rcases h with ⟨h, -⟩ | ⟨-, h1, h2, h3⟩ | ⟨-, h1, -⟩
  · cases h
  · right; left
    rw [drop_at hi, sk_cut hm] at h2
    exact ⟨rfl, h1, h2, h3⟩
  · omega
theorem SkS.pass (h : SkS c f mk lt A Y i out pred succ true) (hs : ¬ 0 ≤ succ) (hi : i < c.length) (hm : mk (c.getD i 0) = false) (hl : lt (c.getD i 0) = true) : SkS c f mk lt A Y (i + 1) (out ++ [c.getD i 0]) ((c.getD i 0 : Nat) : Int) succ true := by
  rcases h with ⟨h, -⟩ | ⟨-, h1, h2, h3⟩ | ⟨-, h1, -⟩
  · cases h
  · right; left
    rw [drop_at hi, sk_pass hm hl] at h2
    refine ⟨rfl, h1, h2, ?_⟩
    rw [lastF_app]
    show ((c.getD i 0 : Nat) : Int) = ((c.getD i 0 + 1 : Nat) : Int) - 1
    omega
  · omega
theorem SkS.stop (h : SkS c f mk lt A Y i out pred succ true) (hs : ¬ 0 ≤ succ) (hi : i < c.length) (hm : mk (c.getD i 0) = false) (hl : lt (c.getD i 0) = false) : SkS c f mk lt A Y (i + 1) (out ++ [c.getD i 0]) pred ((c.getD i 0 : Nat) : Int) true := by
  rcases h with ⟨h, -⟩ | ⟨-, h1, h2, h3⟩ | ⟨-, h1, -⟩
  · cases h
  · right; right
    rw [drop_at hi, sk_stop hm hl] at h2
    injection h2 with e1 e2
    subst e1; subst e2
    exact ⟨rfl, by omega, by rw [List.append_assoc]; rfl, h3, _, _, rfl, rfl⟩
  · omega
/-- a next one, or -1 -/
def sucN : List Nat → Int
  | [] => -1
  | j :: _ => (j : Int)
theorem SkS.fin {bh : Bool} (h : SkS c f mk lt A Y c.length out pred succ bh) (hf : f = 0 ∨ (f - 1 ∈ c ∧ 0 < f)) : out = A ++ Y ∧ pred = (lastF 0 A : Int) - 1 ∧ succ = sucN Y := by
  rcases h with ⟨-, -, -, h1, h2, h3⟩ | ⟨-, h1, h2, h3⟩ | ⟨-, -, h1, h2, j, y, h3, h4⟩
  · exfalso
    have hm := (hf.resolve_left (by omega)).1
    rw [List.take_length] at h3
    have := h3 _ hm
    omega
  · rw [List.drop_length, sk] at h2
    injection h2 with e1 e2
    subst e1; subst e2
    exact ⟨by simp, h3, h1⟩
  · rw [List.drop_length, List.append_nil] at h1
    exact ⟨h1, h2, by rw [h3, h4]; rfl⟩
end
theorem Sl.own_or {w : World} {e n m : Nat} {v : Value} {xs : List Value} (h : Sl w e n v m xs) : v.ownBlock = none ∨ ∃ g, v.ownBlock = some g ∧ ∃ cs, Blk w g e cs := by
  rcases h.2 with ⟨rfl, _⟩ | ⟨g, off, cap, cur, rfl, hb, _⟩
  · exact .inl rfl
  · exact .inr ⟨g, rfl, cur, hb⟩
abbrev TIss : Nat := 23
section
variable {w : World} {l : List Nd} {ms : List Int}
/-- rows in memory -/
structure RwsG (w0 w : World) (l : List Nd) (v : Value) (n : Nat) (rvs : List Value) : Prop where
  g : Gr w0 w TIss 1 v n rvs
  r : ∀ k, k < n → ∃ rv, rvs[k]? = some rv ∧ Gr w0 w 3 1 rv (tallIx l k).length (natV (tallIx l k))
set_option maxRecDepth 10000 in
set_option maxHeartbeats 1000000 in
theorem rrows_c {xv : Value} (hx : Sl w TXn 3 xv l.length (xL l ms l.length)) (h18 : l.length ≤ 18) : Fn Tryz.prog 7 #[xv, .int .i64 4] w fun r w' => Upd [] w w' ∧ ∃ rvs, RwsG w w' l r 4 rvs := by
  obtain ⟨xa, xc, rfl, -⟩ := hx.form
  refine fn_enter Tryz.func7 rfl rfl ?_
  refine loop_rule [0, 1] [5, 6] (fun vs w' m => ∃ (k : Nat) (ov : Value) (rvs : List Value), vs = [ov, .int .i64 (k : Int)] ∧ k ≤ 4 ∧ m = 4 - k ∧ Upd [] w w' ∧ RwsG w w' l ov k rvs) rfl [.slice none 0 0, .int .i64 0] 4 rfl ⟨0, _, [], rfl, by omega, rfl, .refl _ _, ⟨Gr.nil_ _ _ _ _, fun k hk => by omega⟩⟩ ?_
  rintro _ w1 m ⟨k, ov, rvs, rfl, hk, rfl, hu1, hR⟩
  refine cd (fun hk4 => ?_) (fun hk4 => ?_)
  · have hk4 : k < 4 := by omega
    have hx1 := hx.upd hu1 (by simp)
    refine loop_rule [0, 1, 5, 6] [7, 8] (fun vs w' m => ∃ (i : Nat) (rv : Value), vs = [rv, .int .i64 (i : Int)] ∧ i ≤ l.length ∧ m = l.length - i ∧ Upd [] w1 w' ∧ Gr w1 w' 3 1 rv ((List.range i).filter (tallP l k)).length (natV ((List.range i).filter (tallP l k)))) rfl [.slice none 0 0, .int .i64 0] l.length rfl ⟨0, _, rfl, by omega, rfl, .refl _ _, Gr.nil_ _ _ _ _⟩ ?_
    rintro _ w2 m ⟨i, rv, rfl, hi, rfl, hu2, hG⟩
    have hx2 := hx1.upd hu2 (by simp)
    refine len_sl ?_
    refine cd (fun hlt => ?_) (fun hlt => ?_)
    · have hlt : i < l.length := by omega
      obtain ⟨xb, xo, xc2, he, -⟩ := hx.some_ (by omega)
      cases he
      refine ix i rfl (by omega) ?_
      refine fa ?_
      refine ld (v := .int .i64 (ndAt l i).tall) (xcell2 hx2 hlt (by omega) rfl) ?_
      have hfl : ((List.range i).filter (tallP l k)).length ≤ i := by
        refine Nat.le_trans (List.length_filter_le _ _) ?_
        rw [List.length_range]; exact Nat.le_refl _
      refine cd (fun ht => ?_) (fun ht => ?_)
      · refine bs #[.int .i64 (i : Int)] (fun _ => by kernel_rfl) fun w3 hb3 hu3 hs3 => ?_
        have hG3 := hG.upd0 hu3
        refine apg hG3.s hb3 rfl rfl (by decide) (by simp only [maxLen]; omega) (by omega) fun rv4 w4 hs4 hG4 => ?_
        obtain ⟨g4, u4⟩ := hG3.app (hu2.trans hu3) hs4 hG4
        refine ar64 (by omega) ?_
        refine round_mk [rv4, .int .i64 ((i + 1 : Nat) : Int)] (l.length - (i + 1)) rfl rfl ⟨i + 1, rv4, rfl, by omega, rfl, u4, ?_⟩ (by omega)
        rw [tallIx_up, if_pos (by omega), List.length_append, natV_snoc]
        exact g4
      · refine ar64 (by omega) ?_
        refine round_mk [rv, .int .i64 ((i + 1 : Nat) : Int)] (l.length - (i + 1)) rfl rfl ⟨i + 1, rv, rfl, by omega, rfl, hu2, ?_⟩ (by omega)
        rw [tallIx_up, if_neg (by omega), List.append_nil]
        exact hG
    · obtain rfl : i = l.length := by omega
      have hG : Gr w1 w2 3 1 rv (tallIx l k).length (natV (tallIx l k)) := hG
      have hR2 : Gr w w2 TIss 1 ov k rvs := hR.g.upd0 hu2
      obtain ⟨ra, rc, rfl, -⟩ := hG.s.form
      refine bs #[.slice ra (tallIx l k).length rc] (fun _ => by kernel_rfl) fun w3 hb3 hu3 hs3 => ?_
      have hR3 := hR2.upd0 hu3
      have hU3 := (hu1.trans hu2).trans hu3
      refine apg hR3.s hb3 rfl rfl (by decide) (by simp only [maxLen]; omega) (by omega) fun ov4 w4 hs4 hG4 => ?_
      obtain ⟨g4, u4⟩ := hR3.app hU3 hs4 hG4
      have hrl : rvs.length = k := by have := hR.g.s.1; omega
      have far : ∀ {v : Value} {n : Nat} {xs : List Value}, Sl w3 3 1 v n xs → Sl w4 3 1 v n xs := fun {v n xs} h => by
        refine h.upd hG4.up fun q hq hm => ?_
        rcases Sl.own_or hR3.s with h0 | ⟨g0, h0, cs0, hb0⟩
        · rw [h0] at hm; simp at hm
        · rw [h0] at hm
          simp at hm
          subst hm
          exact h.blk_ne hb0 (by decide) hq
      refine ar64 (by omega) ?_
      refine round_mk [ov4, .int .i64 ((k + 1 : Nat) : Int)] (4 - (k + 1)) rfl rfl ⟨k + 1, ov4, rvs ++ [.slice ra (tallIx l k).length rc], rfl, by omega, rfl, u4, ⟨g4, fun j hj => ?_⟩⟩ (by omega)
      rcases Nat.lt_or_ge j k with h | h
      · obtain ⟨rv', e1, e2⟩ := hR.r j h
        exact ⟨rv', by rw [List.getElem?_append_left (by omega)]; exact e1, ⟨far ((e2.upd0 hu2).upd0 hu3).s, e2.f⟩⟩
      · obtain rfl : j = k := by omega
        refine ⟨_, by rw [List.getElem?_append_right (by omega), hrl, Nat.sub_self]; rfl, ⟨far (hG.upd0 hu3).s, fun g hg => ?_⟩⟩
        have := hG.f g hg
        have := hu1.size
        omega
  · obtain rfl : k = 4 := by omega
    exact ⟨hu1, rvs, hR⟩
end
end Go.Proofs.YtbnbbafffihapaaGreat

/- Find: the document's search in a row. -/
namespace Go.Proofs.YtbnbbafffihapaaGreat
open Go.RowKit
attribute [local irreducible] Instr.loadAt Instr.storeAt Instr.fieldAt Instr.indexAt Instr.sliceAt Instr.buildSlice Instr.box Instr.alloc Builtin.append_ Builtin.len_ Builtin.min_ Builtin.max_ Calls Instr.build Instr.makeSlice binSem convert Instr.index Instr.range Instr.next
theorem take_mem2 {c : List Nat} {i q : Nat} (hi : i < c.length) : (q ∈ c.take (i + 1) ↔ q ∈ c.take i ∨ c.getD i 0 = q) := by
  have e : c.getD i 0 = c[i] := by simp [List.getD, hi]
  rw [List.take_add_one, List.mem_append, List.getElem?_eq_getElem hi, e]
  simp
  constructor
  · rintro (h | h)
    · exact .inl h
    · exact .inr h.symm
  · rintro (h | h)
    · exact .inl h
    · exact .inr h.symm
theorem take_lt {c : List Nat} (hc : Asc 0 c) {i : Nat} (hi : i < c.length) (j : Nat) (hj : j ∈ c.take i) : j < c.getD i 0 := by
  have e : c = c.take i ++ c.drop i := (List.take_append_drop _ _).symm
  rw [e, drop_at hi] at hc
  have h1 := (Asc.left hc).lt_last.2 j hj
  have h2 := hc.right.1
  omega
section
variable {w : World} {l : List Nd} {ms : List Int}
set_option maxRecDepth 10000 in
set_option maxHeartbeats 1000000 in
theorem rseek_c {xv rowv : Value} (hx : Sl w TXn 3 xv l.length (xL l ms l.length)) (h18 : l.length ≤ 18) {c : List Nat} (hr : Sl w 3 1 rowv c.length (natV c)) (hc : Asc 0 c) (hm : ∀ j ∈ c, j < l.length) (k f : Nat) (hf : f = 0 ∨ (f - 1 ∈ c ∧ 0 < f)) (n : Int) {A Y : List Nat}
    (hE : sk (mkM ms k) (fpL l ms n).lt (c.filter (lowP f)) (c.filter (fun j => !lowP f j)) = (A, Y)) :
    Fn Tryz.prog 9 #[xv, rowv, .int .i64 (k : Int), .int .i64 ((f : Int) - 1), .int .u64 n] w fun r w' => Upd [] w w' ∧ ∃ ov, r = .tuple #[ov, .int .i64 ((lastF 0 A : Int) - 1), .int .i64 (sucN Y)] ∧ Gr w w' 3 1 ov (A ++ Y).length (natV (A ++ Y)) := by
  obtain ⟨xa, xc, rfl, -⟩ := hx.form
  obtain ⟨ra, rc, rfl, -⟩ := hr.form
  have hcl := asc_len hc hm (Nat.zero_le _)
  refine fn_enter Tryz.func9 rfl rfl ?_
  refine loop_rule [0, 1, 2, 3, 4] [13, 14, 15, 16, 17] (fun vs w' m => ∃ (i : Nat) (ov : Value) (out : List Nat) (pred succ : Int) (bh : Bool), vs = [ov, .int .i64 pred, .int .i64 succ, .bool bh, .int .i64 (i : Int)] ∧ i ≤ c.length ∧ m = c.length - i ∧ out.length ≤ i ∧ Upd [] w w' ∧ Gr w w' 3 1 ov out.length (natV out) ∧ SkS c f (mkM ms k) (fpL l ms n).lt A Y i out pred succ bh ∧ (bh = true → f = 0 ∨ f - 1 ∈ c.take i)) rfl [.slice none 0 0, .int .i64 (-1), .int .i64 (-1), .bool (decide ((f : Int) - 1 < 0)), .int .i64 0] c.length rfl
    ⟨0, _, [], _, _, _, rfl, by omega, rfl, Nat.le_refl _, .refl _ _, Gr.nil_ _ _ _ _, SkS.init hc hf hE, fun h => .inl (by have := of_decide_eq_true h; omega)⟩ ?_
  rintro _ w1 m ⟨i, ov, out, pred, succ, bh, rfl, hi, rfl, hol, hu1, hG, hS, hbt⟩
  refine len_sl ?_
  refine cd (fun hlt => ?_) (fun hlt => ?_)
  · have hlt : i < c.length := by omega
    have hjl : c.getD i 0 < l.length := hm _ (by simp [List.getD, hlt])
    obtain ⟨rb, ro, rc2, he, -⟩ := hr.some_ (by omega)
    cases he
    obtain ⟨xb, xo, xc2, he, -⟩ := hx.some_ (by omega)
    cases he
    have hx1 := hx.upd hu1 (by simp)
    have hr1 := hr.upd hu1 (by simp)
    refine ix i rfl hlt ?_
    refine ld (v := .int .i64 ((c.getD i 0 : Nat) : Int)) (natV_at hr1 hlt) ?_
    refine ix (c.getD i 0) rfl hjl ?_
    refine lda [.int .u64 (ordN l (c.getD i 0)), .int .i64 (ndAt l (c.getD i 0)).tall, .int .i64 (mkA ms (c.getD i 0))] rfl (fun j' x hj' => xcell2 hx1 hjl (by
      rcases Nat.lt_or_ge j' 3 with h | h
      · exact h
      · rw [List.getElem?_eq_none (by simpa using h)] at hj'; cases hj') hj') ?_
    refine al #[.int .u64 0, .int .i64 0, .int .i64 0] (fun _ => by kernel_rfl) fun w2 hb2 hu2 hs2 => ?_
    refine stw hb2 rfl rfl rfl fun w3 hb3 hu3 hs3 => ?_
    have hu13 : Upd [] w1 w3 := hu2.step hu3 (by simp)
    have hU3 := hu1.trans hu13
    have hx3 := hx1.upd hu13 (by simp)
    have hr3 := hr1.upd hu13 (by simp)
    have hG3 := hG.upd0 hu13
    cases bh with
    | false =>
      have hf' : f - 1 ∈ c := by
        rcases hS with ⟨-, -, -, -, h0, -⟩ | ⟨h, -⟩ | ⟨h, -⟩
        · exact (hf.resolve_left (by omega)).1
        · cases h
        · cases h
      have hlow := hS.low hlt hc hf' hE
      have hsp : pred = -1 ∧ succ = -1 := by
        rcases hS with ⟨-, h1, h2, -⟩ | ⟨h, -⟩ | ⟨h, -⟩
        · exact ⟨h2, h1⟩
        · cases h
        · cases h
      obtain ⟨rfl, rfl⟩ := hsp
      refine ix i rfl hlt ?_
      refine ld (v := .int .i64 ((c.getD i 0 : Nat) : Int)) (natV_at hr3 hlt) ?_
      refine bs #[.int .i64 ((c.getD i 0 : Nat) : Int)] (fun _ => by kernel_rfl) fun w4 hb4 hu4 hs4 => ?_
      have hG4 := hG3.upd0 hu4
      have hU4 := hU3.trans hu4
      refine apg hG4.s hb4 rfl rfl (by decide) (by simp only [maxLen]; omega) (by omega) fun ov5 w5 hs5 hG5 => ?_
      obtain ⟨g5, u5⟩ := hG4.app hU4 hs5 hG5
      have g5' : Gr w w5 3 1 ov5 (out ++ [c.getD i 0]).length (natV (out ++ [c.getD i 0])) := by rw [List.length_append, natV_snoc]; exact g5
      have hr5 := hr.upd u5 (by simp)
      refine ix i rfl hlt ?_
      refine ld (v := .int .i64 ((c.getD i 0 : Nat) : Int)) (natV_at hr5 hlt) ?_
      by_cases he : ((c.getD i 0 : Nat) : Int) = (f : Int) - 1
      · rw [if_pos he] at hlow
        have hin : f - 1 ∈ c.take (i + 1) := by
          have e : f - 1 = c.getD i 0 := by omega
          rw [e]; exact (take_mem2 hlt).2 (.inr rfl)
        refine cY he ?_
        refine ar64 (by omega) ?_
        exact round_mk [ov5, .int .i64 ((f : Int) - 1), .int .i64 (-1), .bool true, .int .i64 ((i + 1 : Nat) : Int)] (c.length - (i + 1)) rfl rfl ⟨i + 1, _, _, _, _, _, rfl, by omega, rfl, by first | omega | (rw [List.length_append]; show out.length + 1 ≤ i + 1; omega), u5, g5', hlow, (fun _ => .inr hin)⟩ (by omega)
      · rw [if_neg he] at hlow
        refine cN he ?_
        refine ar64 (by omega) ?_
        exact round_mk [ov5, .int .i64 (-1), .int .i64 (-1), .bool false, .int .i64 ((i + 1 : Nat) : Int)] (c.length - (i + 1)) rfl rfl ⟨i + 1, _, _, _, _, _, rfl, by omega, rfl, by first | omega | (rw [List.length_append]; show out.length + 1 ≤ i + 1; omega), u5, g5', hlow, (fun h => (by cases h))⟩ (by omega)
    | true =>
      by_cases hs : 0 ≤ succ
      · refine cY hs ?_
        have hlate := hS.late hs hlt
        refine ix i rfl hlt ?_
        refine ld (v := .int .i64 ((c.getD i 0 : Nat) : Int)) (natV_at hr3 hlt) ?_
        refine bs #[.int .i64 ((c.getD i 0 : Nat) : Int)] (fun _ => by kernel_rfl) fun w4 hb4 hu4 hs4 => ?_
        have hG4 := hG3.upd0 hu4
        have hU4 := hU3.trans hu4
        refine apg hG4.s hb4 rfl rfl (by decide) (by simp only [maxLen]; omega) (by omega) fun ov5 w5 hs5 hG5 => ?_
        obtain ⟨g5, u5⟩ := hG4.app hU4 hs5 hG5
        have g5' : Gr w w5 3 1 ov5 (out ++ [c.getD i 0]).length (natV (out ++ [c.getD i 0])) := by rw [List.length_append, natV_snoc]; exact g5
        have hr5 := hr.upd u5 (by simp)
        refine ix i rfl hlt ?_
        refine ld (v := .int .i64 ((c.getD i 0 : Nat) : Int)) (natV_at hr5 hlt) ?_
        by_cases he : ((c.getD i 0 : Nat) : Int) = (f : Int) - 1
        · refine cY he ?_
          exfalso
          have hb := hbt rfl
          have := take_lt hc hlt (f - 1)
          rcases hb with h0 | h0
          · omega
          · have := this h0; omega
        · refine cN he ?_
          refine ar64 (by omega) ?_
          exact round_mk [ov5, .int .i64 (pred), .int .i64 (succ), .bool true, .int .i64 ((i + 1 : Nat) : Int)] (c.length - (i + 1)) rfl rfl ⟨i + 1, _, _, _, _, _, rfl, by omega, rfl, by first | omega | (rw [List.length_append]; show out.length + 1 ≤ i + 1; omega), u5, g5', hlate, (fun _ => (hbt rfl).imp id fun h => (take_mem2 hlt).2 (.inl h))⟩ (by omega)
      · refine cN hs ?_
        refine fa ?_
        refine ldb hb3 (v := .int .i64 (mkA ms (c.getD i 0))) rfl ?_
        refine cd (fun hk => ?_) (fun hk => ?_)
        · have hmk := hS.mark hs hlt (by unfold mkM; exact decide_eq_true hk)
          refine ar64 (by omega) ?_
          exact round_mk [ov, .int .i64 (pred), .int .i64 (succ), .bool true, .int .i64 ((i + 1 : Nat) : Int)] (c.length - (i + 1)) rfl rfl ⟨i + 1, _, _, _, _, _, rfl, by omega, rfl, by first | omega | (rw [List.length_append]; show out.length + 1 ≤ i + 1; omega), hU3, hG3, hmk, (fun _ => (hbt rfl).imp id fun h => (take_mem2 hlt).2 (.inl h))⟩ (by omega)
        · have hmf : mkM ms k (c.getD i 0) = false := by unfold mkM; exact decide_eq_false hk
          refine ix i rfl hlt ?_
          refine ld (v := .int .i64 ((c.getD i 0 : Nat) : Int)) (natV_at hr3 hlt) ?_
          refine bs #[.int .i64 ((c.getD i 0 : Nat) : Int)] (fun _ => by kernel_rfl) fun w4 hb4 hu4 hs4 => ?_
          have hG4 := hG3.upd0 hu4
          have hU4 := hU3.trans hu4
          refine apg hG4.s hb4 rfl rfl (by decide) (by simp only [maxLen]; omega) (by omega) fun ov5 w5 hs5 hG5 => ?_
          obtain ⟨g5, u5⟩ := hG4.app hU4 hs5 hG5
          have g5' : Gr w w5 3 1 ov5 (out ++ [c.getD i 0]).length (natV (out ++ [c.getD i 0])) := by rw [List.length_append, natV_snoc]; exact g5
          have hb4' := hb3.upd hu4 (by simp)
          have hb5 := hb4'.upd hG5.up (fun hmm => hG4.s.blk_ne hb4' (by decide) (by simpa using hmm))
          have hr5 := hr.upd u5 (by simp)
          refine fa ?_
          refine ldb hb5 (v := .int .u64 (ordN l (c.getD i 0))) rfl ?_
          by_cases hlt2 : ordN l (c.getD i 0) < n
          · refine cY hlt2 ?_
            refine ix i rfl hlt ?_
            refine ld (v := .int .i64 ((c.getD i 0 : Nat) : Int)) (natV_at hr5 hlt) ?_
            have hps := hS.pass hs hlt hmf (by unfold FP.lt fpL; exact decide_eq_true hlt2)
            refine ar64 (by omega) ?_
            exact round_mk [ov5, .int .i64 (((c.getD i 0 : Nat) : Int)), .int .i64 (succ), .bool true, .int .i64 ((i + 1 : Nat) : Int)] (c.length - (i + 1)) rfl rfl ⟨i + 1, _, _, _, _, _, rfl, by omega, rfl, by first | omega | (rw [List.length_append]; show out.length + 1 ≤ i + 1; omega), u5, g5', hps, (fun _ => (hbt rfl).imp id fun h => (take_mem2 hlt).2 (.inl h))⟩ (by omega)
          · refine cN hlt2 ?_
            refine ix i rfl hlt ?_
            refine ld (v := .int .i64 ((c.getD i 0 : Nat) : Int)) (natV_at hr5 hlt) ?_
            have hps := hS.stop hs hlt hmf (by unfold FP.lt fpL; exact decide_eq_false hlt2)
            refine ar64 (by omega) ?_
            exact round_mk [ov5, .int .i64 (pred), .int .i64 (((c.getD i 0 : Nat) : Int)), .bool true, .int .i64 ((i + 1 : Nat) : Int)] (c.length - (i + 1)) rfl rfl ⟨i + 1, _, _, _, _, _, rfl, by omega, rfl, by first | omega | (rw [List.length_append]; show out.length + 1 ≤ i + 1; omega), u5, g5', hps, (fun _ => (hbt rfl).imp id fun h => (take_mem2 hlt).2 (.inl h))⟩ (by omega)
  · obtain rfl : i = c.length := by omega
    obtain ⟨rfl, rfl, rfl⟩ := hS.fin hf
    exact ⟨hu1, ov, rfl, hG⟩
end
end Go.Proofs.YtbnbbafffihapaaGreat

/- The law FindSeeks: its walk. -/
namespace Go.Proofs.YtbnbbafffihapaaGreat
open Go.RowKit
attribute [local irreducible] Instr.loadAt Instr.storeAt Instr.fieldAt Instr.indexAt Instr.sliceAt Instr.buildSlice Instr.box Instr.alloc Builtin.append_ Builtin.len_ Builtin.min_ Builtin.max_ Calls Instr.build Instr.makeSlice binSem convert Instr.index Instr.range Instr.next
theorem FP.Pre.un_end {g : FP} (h : g.Pre) {k : Nat} (hk : k < 4) : mkf (g.mr k) (lastF 0 (g.E k).1) = false := by
  obtain ⟨h1, h2⟩ := h.fr (3 - k) k (by omega)
  obtain ⟨x, y, hp⟩ := g.prt hk
  rw [hp.e]
  show mkf (g.mr k) (lastF 0 (_ ++ x)) = false
  rw [lastF_app, lastF_filter (h.asc k hk) h1 (Nat.zero_le _)]
  rcases lastF_mem (f := g.fr k) (a := x) with h3 | ⟨h3, h4⟩
  · rw [h3]; exact h2
  · obtain ⟨q, hq⟩ : ∃ q, lastF (g.fr k) x = q + 1 := ⟨lastF (g.fr k) x - 1, by omega⟩
    rw [hq] at h3 ⊢
    exact (hp.hx _ h3).2.2.1
theorem hdN_bd2 {l : List Nd} {c : List Nat} (h : ∀ j ∈ c, j < l.length) (hl : l.length ≤ 18) : 2 ≤ hdN c ∧ hdN c ≤ 20 := by
  cases c with
  | nil => exact ⟨by decide, by decide⟩
  | cons j c =>
    have := h j (List.mem_cons_self ..)
    exact ⟨by show 2 ≤ (j : Int) + 3; omega, by show (j : Int) + 3 ≤ 20; omega⟩
theorem node25 {i o : Int} (hi : i ≤ 1000) (w : World) : Fn Tryz.prog 14 #[.int .i64 i, .int .u64 o] w fun r w' => r = .int .u64 (if i < 0 then o else i + 3) ∧ w' = w := by
  refine fn_enter Tryz.func14 rfl rfl ?_
  refine cd (fun h => ?_) (fun h => ?_)
  · exact ⟨by rw [if_pos h]; rfl, rfl⟩
  · refine ar64 (by omega) ?_
    refine cv ?_
    refine arU (by omega) ?_
    exact ⟨by rw [if_neg h]; rfl, rfl⟩
theorem node25x {i o x : Int} (hi : i ≤ 1000) (hx : (if i < 0 then o else i + 3) = x) (w : World) : Fn Tryz.prog 14 #[.int .i64 i, .int .u64 o] w fun r w' => r = .int .u64 x ∧ w' = w := by
  subst hx; exact node25 hi w
section
variable {w : World} {v mv : Value} {l : List Nd} {ms : List Int} {n : Int}
set_option maxRecDepth 100000 in
set_option maxHeartbeats 4000000 in
theorem seeks25_law (hl : RdNd w v l) (hu : NdU l) (hms : RdK w .i64 mv ms) (hn : u64R n) : Fn Tryz.prog 3 #[v, mv, .int .u64 n] w fun r w' => r = .bool true ∧ Upd [] w w' := by
  refine fn_enter Tryz.func3 rfl rfl ?_
  refine cl (made_c hl hu hms) ?_
  rintro _ w1 (⟨⟨xv, rfl⟩, hu1, -⟩ | ⟨hP, X, W, k, a, t, xv, rfl, H, hM, hX, hfs, hlens, hk0, hk1⟩)
  · refine ptr_eq0 ?_
    refine cl (lives25 _) ?_
    rintro _ w2 ⟨rfl, hu2⟩
    exact ⟨rfl, hu1.trans hu2⟩
  refine ptr_eq ?_
  have h18 := hP.l18
  have hcr : rightC (cA 1 ((20 : Nat) : Int)) := cA_right (.inl rfl) (by omega) (by omega)
  obtain ⟨g, hg⟩ : ∃ g, g = fpL l ms n := ⟨_, rfl⟩
  have hgp : g.Pre := by rw [hg]; exact fpL_pre h18
  have hgn : g.n = n := by rw [hg]; rfl
  have hgN : g.N = 20 := by rw [hg]; rfl
  have hgC : ∀ kk, g.C0 kk = tallIx l kk := fun kk => by rw [hg]; rfl
  have hgm : ∀ kk, g.mr kk = mkM ms kk := fun kk => by rw [hg]; rfl
  have hgc : g.cnt = l.length := by rw [hg]; rfl
  have hB0 : Bs g (tallIx l) W t := by rw [hg]; exact fpL_bs h18 hM hlens
  have hs1 := seek25 (g := g) (W := W) (t := t) (C := tallIx l) (X := X) (w := w1) (k := k) (ac := a) H.new.ok H.calm (by rw [hgN]; exact H.abs) (hgp.ok (by rw [hg]; exact id)) hfs hB0 (fun kk _ => (hgC kk).symm) (by rw [hgn]; exact hn) ⟨by omega, by omega⟩
  rw [hgn, hgN] at hs1
  refine cl hs1 ?_
  rintro _ w2 ⟨rfl, C', W', k', t', hev, hF, hk2, hk3⟩
  obtain ⟨Y, H2, hm, hp2⟩ := H.ev hev
  have hX2 := hX.post hp2
  have hWl : W'.length = 218 := by rw [hF.b.len, hgN]
  refine cl (rrows_c hX2.sl h18) ?_
  rintro rv w3 ⟨hu3, rvs, hR⟩
  have H3 := H2.upd0 hu3
  have hX3 := hX2.upd0 hu3
  obtain ⟨th, e1, e2, eth⟩ := H3.thr
  have htm := thread_mm (i := 0) H3.new.ok e1 e2
  rw [hm] at htm
  refine cl htm ?_
  rintro _ w3 ⟨rfl, rfl⟩
  have hfar : ∀ {e n' : Nat} {vv : Value} {nn : Nat} {xs : List Value}, Gr w2 w3 e n' vv nn xs → FarL w w3 Y e n' vv nn xs := fun h => ⟨h.s, fun q hq hqm => by
    have h1 := h.f q hq
    have h2 := H2.new.ok.lt q hqm
    omega, fun q hq => by have h1 := h.f q hq; have := H2.new.up.size; omega⟩
  have hRf := hfar hR.g
  obtain ⟨ra, rc, rfl, -⟩ := hRf.sl.form
  have hRr : ∀ kk, kk < 4 → ∃ rw_, rvs[kk]? = some rw_ ∧ FarL w w3 Y 3 1 rw_ (tallIx l kk).length (natV (tallIx l kk)) := fun kk hkk => by
    obtain ⟨q, q1, q2⟩ := hR.r kk hkk
    exact ⟨q, q1, hfar q2⟩
  obtain ⟨l1, l2, l3⟩ := hF.b.lens
  rw [← eth, absT_P] at l1
  rw [← eth, absT_S] at l2
  rw [← eth, absT_W] at l3
  obtain ⟨rb, ro, rc2, he, -⟩ := hRf.sl.some_ (by omega)
  cases he
  refine loop_rule [2, 7, 8, 9, 10] [11, 12] (fun vs w' m => ∃ (s : Nat) (from_ : Int), vs = [.int .i64 from_, .int .i64 ((s : Int) - 1)] ∧ s ≤ 4 ∧ s = m ∧ (0 < s → from_ = (g.fr (s - 1) : Int) - 1) ∧
      ∃ Z kz a', LX 1 w w' Z 20 W' kz a' t' ∧ Z.m = X.m ∧ Z.ths = Y.ths ∧ FarL w w' Z TXn 3 xv l.length (xL l ms l.length) ∧ FarL w w' Z TIss 1 (.slice (some ⟨rb, ro, none⟩) 4 rc) 4 rvs ∧ (∀ kk, kk < 4 → ∃ rw_, rvs[kk]? = some rw_ ∧ FarL w w' Z 3 1 rw_ (tallIx l kk).length (natV (tallIx l kk))) ∧ 0 ≤ kz ∧ kz ≤ 8000 - s) rfl [.int .i64 (-1), .int .i64 3] 4 rfl
    ⟨4, -1, rfl, by omega, rfl, fun _ => rfl, Y, k', true, H3, hm, rfl, hX3, hRf, hRr, by omega, by omega⟩ ?_
  rintro _ w4 m ⟨s, from_, rfl, hs4, rfl, hfrom, Z, kz, a', HZ, hmZ, htZ, hXZ, hRZ, hRrZ, hkz, hkz2⟩
  have hth : Z.ths[0]? = some th := by rw [htZ]; exact e1
  refine cd (fun hs0 => ?_) (fun hs0 => ?_)
  · obtain ⟨k, rfl⟩ : ∃ k, s = k + 1 := ⟨s - 1, by omega⟩
    have hfr := hfrom (by omega)
    rw [Nat.add_sub_cancel] at hfr
    subst hfr
    rw [show (((k + 1 : Nat) : Int) - 1) = (k : Int) by omega]
    have hk4 : k < 4 := by omega
    obtain ⟨rowv, hrw, hrow⟩ := hRrZ k hk4
    obtain ⟨A, Yy, hE⟩ : ∃ A Y, g.E k = (A, Y) := ⟨(g.E k).1, (g.E k).2, rfl⟩
    have hasc := hgp.asc k hk4
    rw [hgC] at hasc
    have hpre := (hgp.fr (3 - k) k (by omega)).1
    rw [hgC] at hpre
    have hEq : sk (mkM ms k) (fpL l ms n).lt ((tallIx l k).filter (lowP (g.fr k))) ((tallIx l k).filter (fun j => !lowP (g.fr k) j)) = (A, Yy) := by
      have : g.E k = sk (g.mr k) g.lt ((g.C0 k).filter (lowP (g.fr k))) ((g.C0 k).filter (fun j => !lowP (g.fr k) j)) := endR_eq hk4
      rw [hE, hgC, hgm, show g.lt = (fpL l ms n).lt by rw [hg]] at this
      exact this.symm
    obtain ⟨qa, qc, rfl, -⟩ := hrow.sl.form
    refine ix k rfl hk4 ?_
    refine ld (v := .slice qa (tallIx l k).length qc) (by
      have h1 := (hRZ.sl.cells rfl k (by omega)).1
      rw [show ro + k * 1 = ro + k by omega, h1]; exact hrw) ?_
    refine cl (rseek_c hXZ.sl h18 hrow.sl hasc (fun j hj => (tallIx_mem.1 hj).1) k (g.fr k) hpre n hEq) ?_
    rintro _ w5 ⟨hu5, ov, rfl, hO⟩
    have H5 := HZ.upd0 hu5
    have hOf : FarL w w5 Z 3 1 ov (A ++ Yy).length (natV (A ++ Yy)) := ⟨hO.s, fun q hq hqm => by
      have h1 := hO.f q hq
      have h2 := HZ.new.ok.lt q hqm
      omega, fun q hq => by have h1 := hO.f q hq; have := HZ.new.up.size; omega⟩
    have hX5 := hXZ.upd0 hu5
    have hR5 := hRZ.upd0 hu5
    have hRr5 : ∀ kk, kk < 4 → ∃ rw_, rvs[kk]? = some rw_ ∧ FarL w w5 Z 3 1 rw_ (tallIx l kk).length (natV (tallIx l kk)) := fun kk hkk => by
      obtain ⟨q, q1, q2⟩ := hRrZ kk hkk
      exact ⟨q, q1, q2.upd0 hu5⟩
    obtain ⟨D1, D2, D3, -, -, D6⟩ := hF.all k hk4
    have hch := hF.b.ch k hk4
    have hCk : C' k = A ++ Yy := by rw [D6, hE]
    have hun := hgp.un_end hk4
    rw [hE] at D1 D2 D3 hun
    have hch0 := hch
    rw [hCk] at hch
    have hmark := hch.at_.mark
    rw [hgN] at hmark D3
    have hme := hF.b.mem k hk4
    rw [hCk, hgc] at hme
    have hlaA : lastF 0 A ≤ l.length := lastF_le (fun j hj => hme j (List.mem_append_left _ hj)) (Nat.zero_le _)
    have hhd := hdN_bd2 (fun j hj => hme j (List.mem_append_right _ hj)) h18
    have hpn : (if (lastF 0 A : Int) - 1 < 0 then 1 else (lastF 0 A : Int) - 1 + 3) = predN (lastF 0 A) := by unfold predN; split <;> split <;> omega
    have hsn : (if sucN Yy < 0 then 2 else sucN Yy + 3) = hdN Yy := by
      cases Yy with
      | nil => rfl
      | cons j y => show (if (j : Int) < 0 then 2 else (j : Int) + 3) = (j : Int) + 3; rw [if_neg (by omega)]
    have hsl : sucN Yy ≤ 1000 := by
      cases Yy with
      | nil => decide
      | cons j y => have := hme j (by simp); show (j : Int) ≤ 1000; omega
    have mma := mem_mm H5.new.ok
    rw [hmZ] at mma
    refine cl mma ?_
    rintro _ w5 ⟨rfl, rfl⟩
    have pma := plan_mm H5.new.ok
    rw [hmZ, H5.c_] at pma
    refine cl pma ?_
    rintro _ w6 ⟨rfl, hu6⟩
    refine cl (node25 (by omega) _) ?_
    rintro _ w6 ⟨rfl, rfl⟩
    rw [hpn]
    refine cv ?_
    have hpb : 1 ≤ predN (lastF 0 A) ∧ predN (lastF 0 A) ≤ 100 := by unfold predN; split <;> omega
    refine val (predN (lastF 0 A)) (IntWalk.i64_in _ (by omega)) ?_
    refine ar64 (by omega) ?_
    refine cl (node_a2 hcr (predN (lastF 0 A)) (5 + (k : Int)) w6) ?_
    rintro _ w7 ⟨rfl, hu7⟩
    have hA : (cA 1 ((20 : Nat) : Int)).node (predN (lastF 0 A)) (5 + (k : Int)) = (adr 20 (lastF 0 A) (5 + k) : Int) := by
      rw [show (5 : Int) + (k : Int) = ((5 + k : Nat) : Int) by omega, adr_nodeA (.inl rfl) (by omega) (by omega)]
    rw [hA]
    have H7 := (H5.upd0 hu6).upd0 hu7
    have hL7 : adr 20 (lastF 0 A) (5 + k) < W'.length := by rw [hWl]; exact adr_lt (by omega) (by omega)
    refine cl (H7.load (by omega) hL7) ?_
    rintro _ w8 ⟨rfl, Z8, H8, hm8, ht8, hp8⟩
    have e9 : Z8.ths[0]? = some th := by rw [ht8]; exact hth
    have hO8 := ((hOf.upd0 hu6).upd0 hu7).post hp8
    have hX8 := ((hX5.upd0 hu6).upd0 hu7).post hp8
    have hR8 := ((hR5.upd0 hu6).upd0 hu7).post hp8
    have hRr8 : ∀ kk, kk < 4 → ∃ rw_, rvs[kk]? = some rw_ ∧ FarL w w8 Z8 3 1 rw_ (tallIx l kk).length (natV (tallIx l kk)) := fun kk hkk => by
      obtain ⟨q, q1, q2⟩ := hRr5 kk hkk
      exact ⟨q, q1, ((q2.upd0 hu6).upd0 hu7).post hp8⟩
    have hb9 := (H8.new.ok.core e9).blk
    obtain ⟨b1, o1, c1, hv1, hc1⟩ := slot_at (H8.new.ok.pv_ e9) l1
    obtain ⟨b2, o2, c2, hv2, hc2⟩ := slot_at (H8.new.ok.sv_ e9) l2
    obtain ⟨b3, o3, c3, hv3, hc3⟩ := slot_at (H8.new.ok.wv_ e9) l3
    rw [hv1, hv2, hv3] at hb9
    rw [← eth, absT_P] at D1
    rw [← eth, absT_S] at D2
    rw [← eth, absT_W] at D3
    have hwu := u64_getD hF.b.u (adr 20 (lastF 0 A) (5 + k))
    generalize hww : W'.getD (adr 20 (lastF 0 A) (5 + k)) 0 = ww at *
    have hw2 : IntKind.u64.wrap (ww.tdiv 2) = ww / 2 := by rw [Int.tdiv_eq_ediv_of_nonneg hwu.1, IntKind.wrap_u64]; have h1 := hwu.1; have h2 := hwu.2; omega
    have hw3 : (ww / 2).tmod 65536 = hdN Yy := by rw [Int.tmod_eq_emod_of_nonneg (by have := hwu.1; omega)]; exact hmark.1
    have hw4 : ww.tmod 2 = 0 := by
      rw [Int.tmod_eq_emod_of_nonneg hwu.1]
      have := hmark.2
      rw [hun] at this
      unfold markW at this
      have := of_decide_eq_false this
      omega
    refine draw_all (fun w' => Upd [] w8 w') (by decide +kernel) (Upd.refl [] w8).drew ?_
    refine q_fa ?_
    refine q_ld (v := .slice (some ⟨b1, o1, none⟩) 4 c1) (fun w' hw' => (hb9.upd hw' (by simp)).cell 5) ?_
    refine q_ix k rfl hk4 ?_
    refine q_ld (v := .int .u64 (predN (lastF 0 A))) (fun w' hw' => by rw [hw'.cell (World.block_lt_of_cell? _ _ (hc1 k hk4)) (by simp), hc1 k hk4, D1]) ?_
    refine q_cl (.int .u64 (predN (lastF 0 A))) (fun w' hw' => ((node25x (by omega) hpn w')).mono fun _ _ ⟨u, he, h1, h2⟩ => ⟨u, he, h1, by rw [h2]; exact hw'⟩) ?_
    refine cN (fun h => h rfl) ?_
    refine q_fa ?_
    refine q_ld (v := .slice (some ⟨b2, o2, none⟩) 4 c2) (fun w' hw' => (hb9.upd hw' (by simp)).cell 6) ?_
    refine q_ix k rfl hk4 ?_
    refine q_ld (v := .int .u64 (hdN Yy)) (fun w' hw' => by rw [hw'.cell (World.block_lt_of_cell? _ _ (hc2 k hk4)) (by simp), hc2 k hk4, D2]) ?_
    refine q_cl (.int .u64 (hdN Yy)) (fun w' hw' => ((node25x hsl hsn w')).mono fun _ _ ⟨u, he, h1, h2⟩ => ⟨u, he, h1, by rw [h2]; exact hw'⟩) ?_
    refine cN (fun h => h rfl) ?_
    refine q_fa ?_
    refine q_ld (v := .slice (some ⟨b3, o3, none⟩) 4 c3) (fun w' hw' => (hb9.upd hw' (by simp)).cell 7) ?_
    refine q_ix k rfl hk4 ?_
    refine q_ld (v := .int .u64 ww) (fun w' hw' => by rw [hw'.cell (World.block_lt_of_cell? _ _ (hc3 k hk4)) (by simp), hc3 k hk4, D3]) ?_
    refine cN (fun h => h rfl) ?_
    refine rq (.int .u64 (ww / 2)) (fun _ _ => qu (by decide) (val (ww / 2) hw2 ⟨rfl, rfl⟩)) ?_
    refine rq (.int .u64 (hdN Yy)) (fun _ _ => rm (by decide) (val (hdN Yy) hw3 ⟨rfl, rfl⟩)) ?_
    refine q_fa ?_
    refine q_ld (v := .slice (some ⟨b2, o2, none⟩) 4 c2) (fun w' hw' => (hb9.upd hw' (by simp)).cell 6) ?_
    refine q_ix k rfl hk4 ?_
    refine q_ld (v := .int .u64 (hdN Yy)) (fun w' hw' => by rw [hw'.cell (World.block_lt_of_cell? _ _ (hc2 k hk4)) (by simp), hc2 k hk4, D2]) ?_
    refine cN (fun h => h rfl) ?_
    refine rq (.int .u64 0) (fun _ _ => rm (by decide) (val 0 hw4 ⟨rfl, rfl⟩)) ?_
    intro w9 hu9
    have H9 := H8.upd0 hu9
    have hO9 := hO8.upd0 hu9
    have Q9 : Qm w9 Z8 := H9.q (.inl rfl) (by omega) (by omega) (by rw [hWl]) hF.b.u
    have hrq := row_q Q9 (k : Int) ⟨by omega, by omega⟩
    rw [hm8, hmZ] at hrq
    refine cl hrq ?_
    rintro gv wa ⟨hG, hua⟩
    rw [hgN] at hch0
    have hrI : rowI (cA 1 ((20 : Nat) : Int)) W' (k : Int) = (C' k).map fun (j : Nat) => (j : Int) + 3 := rowI_chn hch0 (hF.b.asc k hk4) (fun j hj => by have := hF.b.mem k hk4 j hj; omega) hk4
    rw [H9.c_, H9.w_, hrI, hCk, List.length_map] at hG
    have hOa := hO9.upd0 hua
    obtain ⟨ga, gc, rfl, -⟩ := hG.s.form
    obtain ⟨oa, oc, rfl, -⟩ := hOa.sl.form
    refine len_sl ?_
    refine len_sl ?_
    refine cN (fun h => h rfl) ?_
    have hcl : (A ++ Yy).length ≤ 18 := by
      have := asc_len (hF.b.asc k hk4) (hF.b.mem k hk4) (Nat.zero_le _)
      rw [hCk] at this; omega
    generalize hcc : A ++ Yy = cc at *
    refine loop_rule [2, 7, 8, 9, 10, 12, 13, 14, 18] [19] (fun vs w' m => ∃ (i : Nat), vs = [.int .i64 (i : Int)] ∧ i ≤ cc.length ∧ m = cc.length - i ∧ Upd [] wa w') rfl [.int .i64 0] cc.length rfl ⟨0, rfl, by omega, rfl, .refl _ _⟩ ?_
    rintro _ wb m ⟨i, rfl, hi, rfl, hub⟩
    have hOb := hOa.upd0 hub
    have hGb := hG.upd0 hub
    refine len_sl ?_
    refine cd (fun hlt => ?_) (fun hlt => ?_)
    · have hlt : i < cc.length := by omega
      obtain ⟨gb, go_, gc2, he, -⟩ := hG.s.some_ (by omega)
      cases he
      obtain ⟨ob, oo, oc2, he, -⟩ := hOa.sl.some_ (by omega)
      cases he
      have hcb : cc.getD i 0 < l.length := hme _ (by simp [List.getD, hlt])
      refine draw_all (fun w' => Upd [] wb w') (by decide +kernel) (Upd.refl [] wb).drew ?_
      refine q_ix i rfl hlt ?_
      refine q_ld (v := .int .i64 (((cc.getD i 0 : Nat) : Int) + 3)) (fun w' hw' => by
        have := ((hGb.upd0 hw').s.cells rfl i (by omega)).1
        rw [show go_ + i * 1 = go_ + i by omega, this]
        simp [List.getD, hlt]) ?_
      refine q_ix i rfl hlt ?_
      refine q_ld (v := .int .i64 ((cc.getD i 0 : Nat) : Int)) (fun w' hw' => natV_at (hOb.upd0 hw').sl hlt) ?_
      refine q_ar64 (by omega) ?_
      intro wc huc
      refine cN (fun h => h rfl) ?_
      refine ar64 (by omega) ?_
      exact round_mk [.int .i64 ((i + 1 : Nat) : Int)] (cc.length - (i + 1)) rfl rfl ⟨i + 1, rfl, by omega, rfl, hub.trans huc⟩ (by omega)
    · have U := (hu9.trans hua).trans hub
      refine ar64 (by omega) ?_
      refine round_mk [.int .i64 ((lastF 0 A : Int) - 1), .int .i64 ((k : Int) - 1)] k rfl rfl ⟨k, _, rfl, by omega, rfl, fun h0 => ?_, Z8, kz + 1, a', H8.upd0 U, hm8.trans hmZ, ht8.trans htZ, hX8.upd0 U, hR8.upd0 U, fun kk hkk => ?_, by omega, by omega⟩ (by omega)
      · have e : g.fr (k - 1) = lastF 0 (g.E (k - 1 + 1)).1 := frm_s (by omega)
        rw [e, show k - 1 + 1 = k by omega, hE]
      · obtain ⟨q, q1, q2⟩ := hRr8 kk hkk
        exact ⟨q, q1, q2.upd0 U⟩
  · refine cl (lives25 _) ?_
    rintro _ wz ⟨rfl, huz⟩
    exact ⟨rfl, HZ.new.up.trans huz⟩
end
theorem FindSeeks_walk (w : World) (v : Value) (l : List Nd) (h : RdNd w v l) (hu : NdU l) (v2 : Value) (l2 : List (List Int)) (h2 : SlRows w w.heap.size [.i64] v2 l2) (n : Int) (hn : (Lit.int .u64 n).wf) :
    Calls Tryz.prog 3 #[v, v2, .int .u64 n] w fun e w' => e = .returned (.bool true) ∧ Below w.heap.size w w' := by
  have h0 : IntKind.u64.min ≤ n ∧ n ≤ IntKind.u64.max := by simpa [Lit.wf] using hn
  exact (seeks25_law h hu (RdK.of_ints h2.ints (Nat.le_refl _)) h0).mono fun _ _ ⟨_, he, hr, hup⟩ => ⟨by rw [he, hr], hup.below⟩
end Go.Proofs.YtbnbbafffihapaaGreat

