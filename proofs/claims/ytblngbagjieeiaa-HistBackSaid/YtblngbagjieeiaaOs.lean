/- Histories: the operations tell the events back: the plain law. -/
import Derived.Test.YtblngbagjieeiaaOr
namespace Go.Proofs.Ytblngbagjieeiaa
open Go.RowKit
attribute [local irreducible] Instr.loadAt Instr.storeAt Instr.fieldAt Instr.indexAt Instr.sliceAt Instr.buildSlice Instr.box Instr.alloc Builtin.append_ Builtin.len_ Builtin.min_ Builtin.max_ Calls Instr.build Instr.makeSlice binSem convert Instr.index Instr.range Instr.next
attribute [local irreducible] Builtin.unsafeSliceData_ Builtin.unsafeString_ Instr.lookup Instr.mapUpdate Instr.makeMap Builtin.delete_
/-- what an operation tells of place n -/
def evAt (n : Nat) (o : OpD) : List EvD := if o.frm = (n : Int) then [⟨o.th, false, o.c, z3⟩] else if o.to = (n : Int) then [⟨o.th, true, z3, o.a⟩] else []
theorem evAt_frm {n : Nat} {o : OpD} (h : o.frm = (n : Int)) : evAt n o = [⟨o.th, false, o.c, z3⟩] := if_pos h
theorem evAt_to {n : Nat} {o : OpD} (h : o.frm ≠ (n : Int)) (h2 : o.to = (n : Int)) : evAt n o = [⟨o.th, true, z3, o.a⟩] := (if_neg h).trans (if_pos h2)
theorem evAt_no {n : Nat} {o : OpD} (h : o.frm ≠ (n : Int)) (h2 : o.to ≠ (n : Int)) : evAt n o = [] := (if_neg h).trans (if_neg h2)
def evsAt (l : List OpD) (n : Nat) : List EvD := l.flatMap (evAt n)
def toN : List OpD → Nat
  | [] => 0
  | o :: l => (if 0 ≤ o.to then 1 else 0) + toN l
theorem toN_app : ∀ (l : List OpD) (o : OpD), toN (l ++ [o]) = toN l + if 0 ≤ o.to then 1 else 0
  | [], o => by simp [toN]
  | x :: l, o => by
    show (if 0 ≤ x.to then 1 else 0) + toN (l ++ [o]) = (if 0 ≤ x.to then 1 else 0) + toN l + _
    rw [toN_app l o]; omega
theorem toN_set : ∀ (l : List OpD) (m : Nat) (o : OpD), m < l.length → toN (l.set m o) + (if 0 ≤ (l.getD m opZ).to then 1 else 0) = toN l + if 0 ≤ o.to then 1 else 0
  | [], _, _, h => absurd h (by simp)
  | x :: l, 0, o, _ => by
    show (if 0 ≤ o.to then 1 else 0) + toN l + (if 0 ≤ x.to then 1 else 0) = (if 0 ≤ x.to then 1 else 0) + toN l + _
    omega
  | x :: l, m + 1, o, h => by
    have ih := toN_set l m o (by simpa using h)
    show (if 0 ≤ x.to then 1 else 0) + toN (l.set m o) + (if 0 ≤ (l.getD m opZ).to then 1 else 0) = (if 0 ≤ x.to then 1 else 0) + toN l + _
    omega
theorem evsAt_app (l : List OpD) (o : OpD) (n : Nat) : evsAt (l ++ [o]) n = evsAt l n ++ evAt n o := by simp [evsAt]
theorem evsAt_none {l : List OpD} {n : Nat} (h : ∀ o ∈ l, o.frm ≠ (n : Int) ∧ o.to ≠ (n : Int)) : evsAt l n = [] := by
  unfold evsAt
  rw [List.flatMap_eq_nil_iff]
  intro o ho
  unfold evAt
  rw [if_neg (h o ho).1, if_neg (h o ho).2]
theorem flat_set {f : OpD → List EvD} : ∀ (l : List OpD) (m : Nat) (o : OpD), m < l.length → (f o = f (l.getD m opZ) → (l.set m o).flatMap f = l.flatMap f) ∧ ((∀ j, j < l.length → j ≠ m → f (l.getD j opZ) = []) → (l.set m o).flatMap f = f o)
  | [], _, _, h => absurd h (by simp)
  | x :: l, 0, o, _ => by
    refine ⟨fun h => ?_, fun h => ?_⟩
    · show (f o ++ l.flatMap f) = f x ++ l.flatMap f
      rw [h]; rfl
    · show (f o ++ l.flatMap f) = f o
      have : l.flatMap f = [] := by
        rw [List.flatMap_eq_nil_iff]
        intro y hy
        obtain ⟨i, hi, rfl⟩ := mem_getD opZ hy
        exact h (i + 1) (by simp; omega) (by omega)
      rw [this, List.append_nil]
  | x :: l, m + 1, o, h => by
    obtain ⟨i1, i2⟩ := flat_set (f := f) l m o (by simpa using h)
    refine ⟨fun h1 => ?_, fun h1 => ?_⟩
    · show (f x ++ (l.set m o).flatMap f) = f x ++ l.flatMap f
      rw [i1 h1]
    · show (f x ++ (l.set m o).flatMap f) = f o
      have e : f x = [] := h1 0 (by simp) (by omega)
      rw [e, List.nil_append]
      exact i2 fun j hj hne => h1 (j + 1) (by simp; omega) (by omega)
structure Back (l : List EvD) : Prop where
  b : ∀ o ∈ opF l, (0 ≤ o.frm ∧ o.frm < l.length) ∧ (-1 ≤ o.to ∧ o.to < l.length)
  n : (opF l).length + toN (opF l) = l.length
  at_ : ∀ n, n < l.length → evsAt (opF l) n = [l.getD n evZ]
theorem back_ok : ∀ l : List EvD, rightH l → Back l := snoc_ind (fun _ => ⟨fun o ho => (by cases ho), rfl, fun n hn => absurd hn (by simp)⟩) (fun l e ih h => by
  obtain ⟨h1, h2, h3⟩ := right_snoc h
  have B := ih h1
  obtain ⟨g, I⟩ := opI_ex l h1
  have hl : (l ++ [e]).length = l.length + 1 := by simp
  cases hb : e.bk with
  | false =>
    obtain ⟨-, ho⟩ := I.call h2 hb
    have he : (⟨e.th, false, e.c, z3⟩ : EvD) = e := by
      unfold nullP at h3
      rw [hb, if_neg (by decide)] at h3
      rw [← hb, ← h3]
    refine ⟨fun o hm => ?_, ?_, fun n hn => ?_⟩
    · rw [ho] at hm
      rw [hl]
      rcases List.mem_append.1 hm with hm | hm
      · have := B.b o hm; omega
      · rw [List.mem_singleton.1 hm]
        exact ⟨⟨show (0 : Int) ≤ (l.length : Int) by omega, show (l.length : Int) < _ by omega⟩, show (-1 : Int) ≤ -1 by omega, show (-1 : Int) < _ by omega⟩
    · rw [ho, hl, toN_app, List.length_append]
      have := B.n
      show (opF l).length + 1 + (toN (opF l) + (if (0 : Int) ≤ -1 then 1 else 0)) = _
      rw [if_neg (by decide)]; omega
    · rw [ho, evsAt_app]
      rcases Nat.lt_or_ge n l.length with hn' | hn'
      · rw [B.at_ n hn', getD_app_lt hn']
        have : evAt n (newOp l.length e) = [] := evAt_no (show (l.length : Int) ≠ (n : Int) by omega) (show (-1 : Int) ≠ (n : Int) by omega)
        rw [this, List.append_nil]
      · have : n = l.length := by omega
        subst this
        rw [getD_app_eq, evsAt_none (fun o hm => by have := B.b o hm; omega)]
        rw [evAt_frm (show (newOp l.length e).frm = (l.length : Int) from rfl)]
        exact congrArg (fun x => [x]) he
  | true =>
    obtain ⟨-, m, -, hm, ho⟩ := I.back h2 hb
    have he : (⟨e.th, true, z3, e.a⟩ : EvD) = e := by
      unfold nullP at h3
      rw [hb, if_pos rfl] at h3
      rw [← hb, ← h3]
    have hop : openOp e.th ((opF l).getD m opZ) := by
      obtain ⟨c, hc⟩ := evE_back h2 hb
      have Ie := I e.th
      rw [hc] at Ie
      obtain ⟨m', g1, g2, g3, g4⟩ := Ie
      by_cases hmm : m = m'
      · subst hmm; exact g3
      · exfalso
        have e1 : (opF (l ++ [e])).getD m' opZ = ((opF l).getD m' opZ) := by
          rw [ho]; simp [List.getD, List.getElem?_set, hmm]
        have e2 : opF (l ++ [e]) = (opF l).map (ansOp l.length e) := by rw [opF_app, hb]; rfl
        rw [e2, getD_map (d := opZ) g2, ansOp_open g3] at e1
        have := congrArg OpD.to e1
        have h5 : (l.length : Int) = ((opF l).getD m' opZ).to := this
        rw [g3.2] at h5; omega
    have hbm := B.b _ (getD_mem (d := opZ) hm)
    refine ⟨fun o hm' => ?_, ?_, fun n hn => ?_⟩
    · rw [ho] at hm'
      rw [hl]
      rcases List.mem_or_eq_of_mem_set hm' with h5 | h5
      · have := B.b o h5; omega
      · rw [h5]
        exact ⟨⟨hbm.1.1, by have := hbm.1.2; show ((opF l).getD m opZ).frm < _; omega⟩, show (-1 : Int) ≤ (l.length : Int) by omega, show (l.length : Int) < _ by omega⟩
    · rw [ho, hl, List.length_set]
      have h5 := toN_set (opF l) m { (opF l).getD m opZ with a := e.a, to := (l.length : Int) } hm
      rw [hop.2, if_neg (by decide), if_pos (show (0 : Int) ≤ (l.length : Int) by omega)] at h5
      have := B.n
      omega
    · rw [ho]
      rcases Nat.lt_or_ge n l.length with hn' | hn'
      · rw [getD_app_lt hn', ← B.at_ n hn']
        refine (flat_set (opF l) m _ hm).1 ?_
        by_cases q : ((opF l).getD m opZ).frm = (n : Int)
        · rw [evAt_frm q, evAt_frm (o := { (opF l).getD m opZ with a := e.a, to := (l.length : Int) }) q]
        · rw [evAt_no q (by rw [hop.2]; omega), evAt_no (o := { (opF l).getD m opZ with a := e.a, to := (l.length : Int) }) q (show (l.length : Int) ≠ (n : Int) by omega)]
      · have : n = l.length := by omega
        subst this
        rw [getD_app_eq]
        have e1 := (flat_set (f := evAt l.length) (opF l) m { (opF l).getD m opZ with a := e.a, to := (l.length : Int) } hm).2 (fun j hj hne => by
          have := B.b _ (getD_mem (d := opZ) hj)
          exact evAt_no (by omega) (by omega))
        refine e1.trans ?_
        rw [evAt_to (o := { (opF l).getD m opZ with a := e.a, to := (l.length : Int) }) (show ((opF l).getD m opZ).frm ≠ (l.length : Int) by omega) rfl]
        show [(⟨((opF l).getD m opZ).th, true, z3, e.a⟩ : EvD)] = [e]
        rw [hop.1]
        exact congrArg (fun x => [x]) he)
end Go.Proofs.Ytblngbagjieeiaa
