/- Scripts: what they hold; lists of calls in memory; what bytes are parsed as. -/
import Derived.Test.YtejofmohpjffkaaCk
import Derived.Test.YtejofmohpjffkaaV14
import Derived.Test.YtejofmohpjffkaaDf4
namespace Go.Proofs.Ytejofmohpjffkaa
open Go.RowKit
attribute [local irreducible] Instr.loadAt Instr.storeAt Instr.fieldAt Instr.indexAt Instr.sliceAt Instr.buildSlice Instr.box Instr.alloc Builtin.append_ Builtin.len_ Builtin.min_ Builtin.max_ Calls Instr.build Instr.makeSlice binSem convert Instr.index Instr.range Instr.next

/-- a slice that is only read: m elements of n cells -/
structure RdN (w : World) (n : Nat) (v : Value) (m : Nat) (xs : List Value) : Prop where
  h : ∃ a cap, v = .slice a m cap ∧ m ≤ cap ∧ cap ≤ maxLen ∧ xs.length = m * n ∧ (0 < m → ∃ b o, a = some ⟨b, o, none⟩ ∧ b < w.heap.size ∧ ∀ j, j < m * n → w.cell? ⟨b, o + j, none⟩ = xs[j]?)
theorem RdN.of_sl {w : World} {e : TypeId} {n : Nat} {v : Value} {m : Nat} {xs : List Value} (h : Sl w e n v m xs) : RdN w n v m xs := by
  rcases h.2 with ⟨rfl, h0⟩ | ⟨g, off, cap, cur, rfl, hb, hc, hmm, hs, ht⟩
  · exact ⟨none, 0, by rw [h0], by omega, by decide, h.1, fun hp => by omega⟩
  · exact ⟨_, cap, rfl, hc, hmm, h.1, fun hp => ⟨g, off, rfl, hb.lt, fun i hi => (h.cells rfl i hi).1⟩⟩
theorem RdN.upd0 {w w' : World} {n : Nat} {v : Value} {m : Nat} {xs : List Value} (h : RdN w n v m xs) (hu : Upd [] w w') : RdN w' n v m xs := by
  obtain ⟨a, cap, rfl, h1, h2, h3, h5⟩ := h.h
  refine ⟨a, cap, rfl, h1, h2, h3, fun hp => ?_⟩
  obtain ⟨b, o, rfl, hb, hc⟩ := h5 hp
  exact ⟨b, o, rfl, Nat.lt_of_lt_of_le hb hu.size, fun i hi => by rw [hu.cell hb (by simp)]; exact hc i hi⟩
theorem RdN.form {w : World} {n : Nat} {v : Value} {m : Nat} {xs : List Value} (h : RdN w n v m xs) : ∃ a cap, v = .slice a m cap ∧ m ≤ cap ∧ cap ≤ maxLen := by
  obtain ⟨a, cap, rfl, h1, h2, -⟩ := h.h
  exact ⟨a, cap, rfl, h1, h2⟩
theorem RdN.some_ {w : World} {n : Nat} {v : Value} {m : Nat} {xs : List Value} (h : RdN w n v m xs) (hp : 0 < m) : ∃ b o cap, v = .slice (some ⟨b, o, none⟩) m cap ∧ m ≤ cap := by
  obtain ⟨a, cap, rfl, h1, h2, h3, h5⟩ := h.h
  obtain ⟨b, o, rfl, -⟩ := h5 hp
  exact ⟨b, o, cap, rfl, h1⟩
theorem RdN.at_ {w : World} {n : Nat} {v : Value} {m : Nat} {xs : List Value} (h : RdN w n v m xs) {b o k c : Nat} (hv : v = .slice (some ⟨b, o, none⟩) k c) (i j : Nat) (hi : i < m) (hj : j < n) : w.cell? ⟨b, o + i * n + j, none⟩ = xs[i * n + j]? := by
  obtain ⟨a, cap, rfl, h1, h2, h3, h5⟩ := h.h
  obtain ⟨b', o', rfl, -, hc⟩ := h5 (by omega)
  injection hv with hv
  injection hv with hv
  injection hv with h6 h7
  subst h6; subst h7
  rw [Nat.add_assoc]
  apply hc
  have := Nat.mul_le_mul_right n (show i + 1 ≤ m by omega)
  rw [Nat.add_mul] at this
  omega
theorem RdN.one {w : World} {v : Value} {m : Nat} {xs : List Value} (h : RdN w 1 v m xs) {b o k c : Nat} (hv : v = .slice (some ⟨b, o, none⟩) k c) (i : Nat) (hi : i < m) : w.cell? ⟨b, o + i * 1, none⟩ = xs[i]? := by
  have := h.at_ hv i 0 hi (by omega)
  simpa using this
theorem RdK.rdN {w : World} {k : IntKind} {v : Value} {l : List Int} (h : RdK w k v l) : RdN w 1 v l.length (l.map (.int k)) := by
  obtain ⟨a, cap, rfl, h1, h2, h5⟩ := h.h
  refine ⟨a, cap, rfl, h1, h2, by simp, fun hp => ?_⟩
  obtain ⟨b, o, rfl, hb, hc⟩ := h5 hp
  refine ⟨b, o, rfl, hb, fun j hj => ?_⟩
  rw [Nat.mul_one] at hj
  rw [hc j hj]; simp [List.getD, hj]
abbrev C3 := Int × Int × Int
def cell3 (x : C3) : List Value := [.int .i64 x.1, .int .u32 x.2.1, .int .u32 x.2.2]
def cellsC (l : List C3) : List Value := l.flatMap cell3
theorem cellsC_len (l : List C3) : (cellsC l).length = l.length * 3 := by
  induction l with
  | nil => rfl
  | cons x l ih =>
    show (cell3 x ++ cellsC l).length = _
    rw [List.length_append, ih]
    show 3 + l.length * 3 = (l.length + 1) * 3
    omega
theorem cellsC_app (a b : List C3) : cellsC (a ++ b) = cellsC a ++ cellsC b := by simp [cellsC]
theorem cellsC_at : ∀ (l : List C3) (i j : Nat), i < l.length → j < 3 → (cellsC l)[i * 3 + j]? = (cell3 (l.getD i (0, 0, 0)))[j]?
  | x :: l, 0, j, _, hj => by
    show (cell3 x ++ cellsC l)[0 * 3 + j]? = _
    rw [Nat.zero_mul, Nat.zero_add, List.getElem?_append_left (by show j < 3; exact hj)]; rfl
  | x :: l, i + 1, j, h, hj => by
    have h : i < l.length := by simpa using h
    show (cell3 x ++ cellsC l)[(i + 1) * 3 + j]? = _
    rw [List.getElem?_append_right (by show 3 ≤ _; omega), show (i + 1) * 3 + j - (cell3 x).length = i * 3 + j by show (i + 1) * 3 + j - 3 = _; omega, cellsC_at l i j h hj]
    simp [List.getD]
/-- a slice of slices of calls, read -/
structure CallsR (w : World) (v : Value) (ls : List (List C3)) (vals : List Value) : Prop where
  out : RdN w 1 v ls.length vals
  at_ : ∀ i, i < ls.length → ∃ x, vals[i]? = some x ∧ RdN w 3 x (ls.getD i []).length (cellsC (ls.getD i []))
theorem CallsR.upd0 {w w' : World} {v : Value} {ls : List (List C3)} {vals : List Value} (h : CallsR w v ls vals) (hu : Upd [] w w') : CallsR w' v ls vals :=
  ⟨h.out.upd0 hu, fun i hi => let ⟨x, h1, h2⟩ := h.at_ i hi; ⟨x, h1, h2.upd0 hu⟩⟩
/-- .. own ones -/
structure CallsS (w : World) (v : Value) (ls : List (List C3)) (vals : List Value) : Prop where
  out : Sl w 64 1 v ls.length vals
  at_ : ∀ i, i < ls.length → ∃ x, vals[i]? = some x ∧ Sl w 43 3 x (ls.getD i []).length (cellsC (ls.getD i []))
  dj : ∀ (i j : Nat) (x y : Value) (g : Nat), i ≠ j → vals[i]? = some x → vals[j]? = some y → x.ownBlock = some g → y.ownBlock ≠ some g
theorem CallsS.rd {w : World} {v : Value} {ls : List (List C3)} {vals : List Value} (h : CallsS w v ls vals) : CallsR w v ls vals :=
  ⟨RdN.of_sl h.out, fun i hi => let ⟨x, h1, h2⟩ := h.at_ i hi; ⟨x, h1, RdN.of_sl h2⟩⟩
theorem CallsS.upd {S : List Nat} {w w' : World} {v : Value} {ls : List (List C3)} {vals : List Value} (h : CallsS w v ls vals) (hu : Upd S w w') (h1 : ∀ g, v.ownBlock = some g → g ∉ S) (h2 : ∀ x ∈ vals, ∀ g, x.ownBlock = some g → g ∉ S) : CallsS w' v ls vals :=
  ⟨h.out.upd hu h1, fun i hi => let ⟨x, hx, h3⟩ := h.at_ i hi; ⟨x, hx, h3.upd hu (h2 x (List.mem_of_getElem? hx))⟩, h.dj⟩
theorem CallsS.len {w : World} {v : Value} {ls : List (List C3)} {vals : List Value} (h : CallsS w v ls vals) : vals.length = ls.length := by have := h.out.1; simpa using this
/-- all blocks are those of the types, so others don't matter -/
theorem CallsS.far {g : Nat} {T : TypeId} {cs : Array Value} {w w' : World} {v : Value} {ls : List (List C3)} {vals : List Value} (h : CallsS w v ls vals) (hb : Blk w g T cs) (h1 : 64 ≠ T) (h2 : 43 ≠ T) (hu : Upd [g] w w') : CallsS w' v ls vals := by
  refine h.upd hu (fun k hk hm => ?_) (fun x hx k hk hm => ?_)
  · simp only [List.mem_singleton] at hm
    subst hm
    exact h.out.blk_ne hb h1 hk
  · simp only [List.mem_singleton] at hm
    subst hm
    obtain ⟨i, hi, rfl⟩ := List.mem_iff_getElem.1 hx
    obtain ⟨y, hy, hs⟩ := h.at_ i (by rw [← h.len]; exact hi)
    rw [List.getElem?_eq_getElem hi] at hy
    cases hy
    exact hs.blk_ne hb h2 hk
theorem getD_set_ls (ls : List (List C3)) (t i : Nat) (l : List C3) (ht : t < ls.length) : (ls.set t l).getD i [] = if i = t then l else ls.getD i [] := by
  by_cases h : i = t
  · subst h; simp [List.getD, ht]
  · rw [if_neg h]; simp [List.getD, List.getElem?_set_ne (Ne.symm h)]
/-- one list has grown, and its slice is laid -/
theorem CallsS.put {w w1 w2 : World} {v x x' : Value} {ls : List (List C3)} {vals : List Value} {t : Nat} {l : List C3} {g o c : Nat} (h : CallsS w v ls vals) (ht : t < ls.length) (hx : vals[t]? = some x) (hG : Grow w w1 x x') (hs : Sl w1 43 3 x' l.length (cellsC l))
    (hv : v = .slice (some ⟨g, o, none⟩) ls.length c) (h2 : Sl w2 64 1 v ls.length (vals.set t x')) (hu : Upd [g] w1 w2) : CallsS w2 v (ls.set t l) (vals.set t x') := by
  have hgv : v.ownBlock = some g := by rw [hv]; rfl
  have hxs : Sl w 43 3 x (ls.getD t []).length (cellsC (ls.getD t [])) := by
    obtain ⟨y, hy, hs⟩ := h.at_ t ht
    rw [hx] at hy; cases hy; exact hs
  have hv1 : Sl w1 64 1 v ls.length vals := h.out.upd hG.up (fun k hk hm => by
    have := h.out.ne_ hxs (by decide) k hk
    exact this (by simpa using hm))
  refine ⟨by simpa using h2, fun i hi => ?_, fun i j y z k hij hy hz hk => ?_⟩
  · have hi : i < ls.length := by simpa using hi
    rw [getD_set_ls ls t i l ht]
    by_cases hit : i = t
    · subst hit
      rw [if_pos rfl]
      refine ⟨x', by rw [List.getElem?_set_self (by rw [h.len]; exact ht)], hs.upd hu fun k hk hm => ?_⟩
      simp only [List.mem_singleton] at hm
      subst hm
      exact hv1.ne_ hs (by decide) k hgv hk
    · rw [if_neg hit]
      obtain ⟨y, hy, hys⟩ := h.at_ i hi
      refine ⟨y, by rw [List.getElem?_set_ne (Ne.symm hit)]; exact hy, ?_⟩
      have hy1 : Sl w1 43 3 y (ls.getD i []).length (cellsC (ls.getD i [])) := hys.upd hG.up fun k hk hm => h.dj i t y x k hit hy hx hk (by simpa using hm)
      exact hy1.upd hu fun k hk hm => by
        simp only [List.mem_singleton] at hm
        subst hm
        exact hv1.ne_ hy1 (by decide) k hgv hk
  · have old : ∀ (i : Nat) (y : Value), i ≠ t → vals[i]? = some y → ∀ k, y.ownBlock = some k → x'.ownBlock ≠ some k := by
      intro i y hit hy k hk hk'
      rcases hG.own k hk' with h1 | h1
      · exact h.dj i t y x k hit hy hx hk h1
      · have hil : i < ls.length := by
          rw [← h.len]
          rcases Nat.lt_or_ge i vals.length with h2 | h2
          · exact h2
          · rw [List.getElem?_eq_none h2] at hy; cases hy
        obtain ⟨y', hy', hys⟩ := h.at_ i hil
        rw [hy] at hy'; cases hy'
        have := hys.lt k hk; omega
    by_cases hit : i = t
    · subst hit
      rw [List.getElem?_set_self (by rw [h.len]; exact ht)] at hy
      cases hy
      rw [List.getElem?_set_ne hij] at hz
      intro hzk
      exact old j z (Ne.symm hij) hz k hzk hk
    · rw [List.getElem?_set_ne (Ne.symm hit)] at hy
      by_cases hjt : j = t
      · subst hjt
        rw [List.getElem?_set_self (by rw [h.len]; exact ht)] at hz
        cases hz
        exact old i y hit hy k hk
      · rw [List.getElem?_set_ne (Ne.symm hjt)] at hz
        exact h.dj i j y z k hij hy hz hk

/-! ### What bytes are parsed as -/
/-- thread t's calls among the first i that stand in the bytes -/
def callsOf (B : List Int) (T : Int) (i t : Nat) : List C3 := ((List.range i).filter fun j => decide ((B.getD (10 * j) 0).tmod T = (t : Int))).map fun j => decR ((B.drop (10 * j + 1)).take 9)
def callsUp (B : List Int) (T : Int) (i : Nat) : List (List C3) := (List.range T.toNat).map fun t => callsOf B T i t
theorem callsOf_succ (B : List Int) (T : Int) (i t : Nat) : callsOf B T (i + 1) t = callsOf B T i t ++ (if (B.getD (10 * i) 0).tmod T = (t : Int) then [decR ((B.drop (10 * i + 1)).take 9)] else []) := by
  unfold callsOf
  rw [List.range_succ, List.filter_append, List.map_append]
  congr 1
  by_cases h : (B.getD (10 * i) 0).tmod T = (t : Int)
  · rw [if_pos h]
    simp only [List.filter_cons, List.filter_nil, decide_eq_true h, if_true, List.map_cons, List.map_nil]
  · rw [if_neg h]
    simp only [List.filter_cons, List.filter_nil, decide_eq_false h, Bool.false_eq_true, if_false, List.map_nil]
@[simp] theorem callsUp_len (B : List Int) (T : Int) (i : Nat) : (callsUp B T i).length = T.toNat := by simp [callsUp]
theorem callsUp_getD (B : List Int) (T : Int) (i t : Nat) (h : t < T.toNat) : (callsUp B T i).getD t [] = callsOf B T i t := by simp [callsUp, List.getD, h]
theorem callsUp_succ (B : List Int) (T : Int) (i t : Nat) (ht : (B.getD (10 * i) 0).tmod T = (t : Int)) (hT : t < T.toNat) : (callsUp B T i).set t ((callsUp B T i).getD t [] ++ [decR ((B.drop (10 * i + 1)).take 9)]) = callsUp B T (i + 1) := by
  rw [callsUp_getD _ _ _ _ hT]
  apply List.ext_getElem
  · simp
  · intro k h1 h2
    have hk : k < T.toNat := by simpa using h2
    rw [List.getElem_set]
    by_cases hkt : t = k
    · subst hkt
      rw [if_pos rfl]
      simp only [callsUp, List.getElem_map, List.getElem_range]
      rw [callsOf_succ, if_pos ht]
    · rw [if_neg hkt]
      simp only [callsUp, List.getElem_map, List.getElem_range]
      rw [callsOf_succ, if_neg (by omega), List.append_nil]
theorem callsUp_zero (B : List Int) (T : Int) : callsUp B T 0 = List.replicate T.toNat [] := by
  apply List.ext_getElem
  · simp
  · intro k h1 h2; simp [callsUp, callsOf]
def cntB (b : List Int) : Nat := (b.getD 7 0).toNat
def atB (b : List Int) : Nat := 8 + 10 * cntB b
def numB (b : List Int) : Nat := (b.getD (atB b) 0).toNat + 256 * (b.getD (atB b + 1) 0).toNat
def restB (b : List Int) : List Int := b.drop (atB b + 2 + numB b)
/-- why there is no script, or 0 -/
def errS (b : List Int) : Int :=
  if b.length < 7 then 9 else if ¬ K.rightC (K.cfOf b) then 6 else if b.length < 8 then 9 else if 48 < cntB b then 10 else if b.length < atB b + 2 then 9
  else if 60000 < numB b then 10 else if b.length < atB b + 2 + numB b then 9 else if 4096 < (restB b).length then 10 else 0
def lsB (b : List Int) : List (List C3) := callsUp (b.drop 8) (K.cfOf b).T (cntB b)
def psB (b : List Int) : List Int := ((b.drop (atB b + 2)).take (numB b)).map fun x => x.tmod (K.cfOf b).T
/-- a script's cells -/
def scV (c : K.Cf) (cv pv dv : Value) : Array Value := #[.int .i64 c.A, .int .i64 c.T, .int .i64 c.N, .int .i64 c.L, .int .i64 c.B, .int .i64 c.P, .int .i64 c.S, cv, pv, dv]
structure Scr (w : World) (c : K.Cf) (ls : List (List C3)) (ps ds : List Int) (r : Value) : Prop where
  h : ∃ cv pv dv vals, r = .agg (scV c cv pv dv) ∧ CallsR w cv ls vals ∧ RdK w .i64 pv ps ∧ RdK w .u8 dv ds
theorem Scr.upd0 {w w' : World} {c : K.Cf} {ls : List (List C3)} {ps ds : List Int} {r : Value} (h : Scr w c ls ps ds r) (hu : Upd [] w w') : Scr w' c ls ps ds r :=
  let ⟨cv, pv, dv, vals, h1, h2, h3, h4⟩ := h.h; ⟨cv, pv, dv, vals, h1, h2.upd0 hu, h3.upd0 hu, h4.upd0 hu⟩
/-- what Parse answers -/
def parseV (w : World) (b : List Int) (r : Value) : Prop :=
  if errS b = 0 then ∃ s, r = .tuple #[s, .int .i64 0] ∧ Scr w (K.cfOf b) (lsB b) (psB b) (restB b) s
  else r = .tuple #[.agg (scV K.zC (.slice none 0 0) (.slice none 0 0) (.slice none 0 0)), .int .i64 (errS b)]
end Go.Proofs.Ytejofmohpjffkaa
