/- Histories: their operations: the plain law. -/
import Derived.Test.YtblngbagjieeiaaOj
namespace Go.Proofs.Ytblngbagjieeiaa
open Go.RowKit
attribute [local irreducible] Instr.loadAt Instr.storeAt Instr.fieldAt Instr.indexAt Instr.sliceAt Instr.buildSlice Instr.box Instr.alloc Builtin.append_ Builtin.len_ Builtin.min_ Builtin.max_ Calls Instr.build Instr.makeSlice binSem convert Instr.index Instr.range Instr.next
structure OpD where
  th : Int
  c : C3
  a : C3
  frm : Int
  to : Int
def opZ : OpD := ⟨0, z3, z3, 0, 0⟩
instance : DecidableEq OpD := fun x y => decidable_of_iff (x.th = y.th ∧ x.c = y.c ∧ x.a = y.a ∧ x.frm = y.frm ∧ x.to = y.to) (by
  obtain ⟨a1, a2, a3, a4, a5⟩ := x
  obtain ⟨b1, b2, b3, b4, b5⟩ := y
  simp)
def openOp (th : Int) (o : OpD) : Prop := o.th = th ∧ o.to = -1
instance (th : Int) (o : OpD) : Decidable (openOp th o) := by unfold openOp; exact inferInstance
def ansOp (n : Nat) (e : EvD) (o : OpD) : OpD := if openOp e.th o then { o with a := e.a, to := (n : Int) } else o
def newOp (n : Nat) (e : EvD) : OpD := ⟨e.th, e.c, z3, (n : Int), -1⟩
/-- operations of events, one by one -/
def opF : List EvD → List OpD := fun l => (l.foldl (fun (s : List OpD × Nat) e => (if e.bk then s.1.map (ansOp s.2 e) else s.1 ++ [newOp s.2 e], s.2 + 1)) ([], 0)).1
theorem opF_n (l : List EvD) : ∀ (s : List OpD × Nat), (l.foldl (fun (s : List OpD × Nat) e => (if e.bk then s.1.map (ansOp s.2 e) else s.1 ++ [newOp s.2 e], s.2 + 1)) s).2 = s.2 + l.length := by
  induction l with
  | nil => intro s; rfl
  | cons e l ih => intro s; simp only [List.foldl_cons, List.length_cons]; rw [ih]; omega
theorem opF_app (l : List EvD) (e : EvD) : opF (l ++ [e]) = if e.bk then (opF l).map (ansOp l.length e) else opF l ++ [newOp l.length e] := by
  unfold opF
  rw [List.foldl_append]
  have := opF_n l ([], 0)
  simp only [Nat.zero_add] at this
  simp only [List.foldl_cons, List.foldl_nil, this]
/-- what the program's map knows -/
def OpI (l : List EvD) (g : Int → Option Int) : Prop := ∀ th, match fOf l th with
  | none => ∀ o ∈ opF l, ¬ openOp th o
  | some _ => ∃ m : Nat, g th = some (m : Int) ∧ m < (opF l).length ∧ openOp th ((opF l).getD m opZ) ∧ ∀ j, j < (opF l).length → j ≠ m → ¬ openOp th ((opF l).getD j opZ)
theorem OpI.nil (g : Int → Option Int) : OpI [] g := fun th => by
  show ∀ o ∈ opF [], _
  intro o ho; cases ho
theorem evE_call {f : BF} {e : EvD} (h : evE f e = 0) (hb : e.bk = false) : f e.th = none := by
  unfold evE at h
  rw [hb, if_neg (by decide)] at h
  unfold invE at h
  split at h
  · cases h
  · split at h
    · cases h
    · cases hf : f e.th with
      | none => rfl
      | some c => rw [hf] at h; cases h
theorem evE_back {f : BF} {e : EvD} (h : evE f e = 0) (hb : e.bk = true) : ∃ c, f e.th = some c := by
  unfold evE at h
  rw [hb, if_pos rfl] at h
  unfold resE at h
  split at h
  · cases h
  · cases hf : f e.th with
    | none => rw [hf] at h; cases h
    | some c => exact ⟨c, rfl⟩
theorem getD_mem {α : Type} {d : α} {l : List α} {i : Nat} (h : i < l.length) : l.getD i d ∈ l := by simp [List.getD, h]
theorem mem_getD {α : Type} (d : α) {l : List α} {x : α} (h : x ∈ l) : ∃ i, i < l.length ∧ l.getD i d = x := by
  obtain ⟨i, hi, rfl⟩ := List.getElem_of_mem h
  exact ⟨i, hi, by simp [List.getD, hi]⟩
theorem getD_map {α β : Type} {d : α} {e : β} {f : α → β} {l : List α} {i : Nat} (h : i < l.length) : (l.map f).getD i e = f (l.getD i d) := by simp [List.getD, h]
/-- a call begins -/
theorem OpI.call {l : List EvD} {g : Int → Option Int} {e : EvD} (I : OpI l g) (h : evE (fOf l) e = 0) (hb : e.bk = false) : OpI (l ++ [e]) (fun k => if k = e.th then some ((opF l).length : Int) else g k) ∧ opF (l ++ [e]) = opF l ++ [newOp l.length e] := by
  have he := evE_call h hb
  have ho : opF (l ++ [e]) = opF l ++ [newOp l.length e] := by rw [opF_app, hb]; rfl
  refine ⟨fun th => ?_, ho⟩
  have It := I th
  rw [fOf_app, ho]
  unfold stepF
  by_cases ht : th = e.th
  · subst ht
    rw [he] at It
    have It : ∀ o ∈ opF l, ¬ openOp e.th o := It
    rw [if_pos rfl, hb]
    show ∃ m : Nat, _
    refine ⟨(opF l).length, if_pos rfl, by simp, ?_, fun j hj hne => ?_⟩
    · rw [getD_app_eq]; exact ⟨rfl, rfl⟩
    · have hj : j < (opF l).length := by simp at hj; omega
      rw [getD_app_lt hj]
      exact It _ (getD_mem hj)
  · rw [if_neg ht]
    cases hf : fOf l th with
    | none =>
      rw [hf] at It
      have It : ∀ o ∈ opF l, ¬ openOp th o := It
      show ∀ o ∈ opF l ++ [newOp l.length e], ¬ openOp th o
      intro o hm
      rcases List.mem_append.1 hm with h1 | h1
      · exact It o h1
      · rw [List.mem_singleton.1 h1]; exact fun h2 => ht h2.1.symm
    | some c =>
      rw [hf] at It
      obtain ⟨m, h1, h2, h3, h4⟩ := It
      show ∃ m : Nat, _
      refine ⟨m, (if_neg ht).trans h1, by simp; omega, by rw [getD_app_lt h2]; exact h3, fun j hj hne => ?_⟩
      rcases Nat.lt_or_ge j (opF l).length with h5 | h5
      · rw [getD_app_lt h5]; exact h4 j h5 hne
      · have : j = (opF l).length := by simp at hj; omega
        subst this
        rw [getD_app_eq]; exact fun h2 => ht h2.1.symm
theorem ansOp_open {n : Nat} {e : EvD} {o : OpD} (h : openOp e.th o) : ansOp n e o = { o with a := e.a, to := (n : Int) } := if_pos h
theorem ansOp_not {n : Nat} {e : EvD} {o : OpD} (h : ¬ openOp e.th o) : ansOp n e o = o := if_neg h
theorem ansOp_th {n : Nat} {e : EvD} {o : OpD} : (ansOp n e o).th = o.th := by unfold ansOp; split <;> rfl
/-- a call is answered -/
theorem OpI.back {l : List EvD} {g : Int → Option Int} {e : EvD} (I : OpI l g) (h : evE (fOf l) e = 0) (hb : e.bk = true) : OpI (l ++ [e]) g ∧ ∃ m : Nat, g e.th = some (m : Int) ∧ m < (opF l).length ∧ opF (l ++ [e]) = (opF l).set m { (opF l).getD m opZ with a := e.a, to := (l.length : Int) } := by
  obtain ⟨c, hc⟩ := evE_back h hb
  have ho : opF (l ++ [e]) = (opF l).map (ansOp l.length e) := by rw [opF_app, hb]; rfl
  have Ie := I e.th
  rw [hc] at Ie
  obtain ⟨m, h1, h2, h3, h4⟩ := Ie
  refine ⟨fun th => ?_, m, h1, h2, ?_⟩
  · have It := I th
    rw [fOf_app, ho]
    unfold stepF
    by_cases ht : th = e.th
    · subst ht
      rw [if_pos rfl, hb]
      show ∀ o ∈ (opF l).map (ansOp l.length e), ¬ openOp e.th o
      intro o hm h5
      obtain ⟨o', hm', rfl⟩ := List.mem_map.1 hm
      by_cases hp : openOp e.th o'
      · rw [ansOp_open hp] at h5
        have : (l.length : Int) = -1 := h5.2
        omega
      · rw [ansOp_not hp] at h5; exact hp h5
    · rw [if_neg ht]
      have hsame : ∀ o, openOp th (ansOp l.length e o) ↔ openOp th o := fun o => by
        by_cases hp : openOp e.th o
        · constructor
          · intro h5; exact absurd (by rw [← h5.1, ansOp_th, hp.1]) ht
          · intro h5; exact absurd (by rw [← h5.1, hp.1]) ht
        · rw [ansOp_not hp]
      cases hf : fOf l th with
      | none =>
        rw [hf] at It
        have It : ∀ o ∈ opF l, ¬ openOp th o := It
        show ∀ o ∈ (opF l).map (ansOp l.length e), ¬ openOp th o
        intro o hm h5
        obtain ⟨o', hm', rfl⟩ := List.mem_map.1 hm
        exact It o' hm' ((hsame o').1 h5)
      | some c2 =>
        rw [hf] at It
        obtain ⟨k, k1, k2, k3, k4⟩ := It
        show ∃ m : Nat, _
        refine ⟨k, k1, by simp; omega, by rw [getD_map (d := opZ) k2]; exact (hsame _).2 k3, fun j hj hne => ?_⟩
        have hj : j < (opF l).length := by simpa using hj
        rw [getD_map (d := opZ) hj]
        exact fun h5 => k4 j hj hne ((hsame _).1 h5)
  · rw [ho]
    apply List.ext_getElem?
    intro j
    rw [List.getElem?_map, List.getElem?_set]
    by_cases hj : m = j
    · subst hj
      rw [if_pos rfl, if_pos h2]
      have : (opF l)[m]? = some ((opF l).getD m opZ) := by simp [List.getD, h2]
      rw [this]
      exact congrArg some (ansOp_open h3)
    · rw [if_neg hj]
      rcases Nat.lt_or_ge j (opF l).length with h5 | h5
      · have : (opF l)[j]? = some ((opF l).getD j opZ) := by simp [List.getD, h5]
        rw [this]
        exact congrArg some (ansOp_not (h4 j h5 (fun h => hj h.symm)))
      · rw [List.getElem?_eq_none h5]; rfl
/-- the first place from n on where a thread has an event -/
def fstK (l : List EvD) (th : Int) : Nat → Nat → Option Nat
  | 0, _ => none
  | m + 1, n => if (l.getD n evZ).th = th then some n else fstK l th m (n + 1)
def ndK (l : List EvD) (th : Int) (n : Nat) : Option Nat := fstK l th (l.length - n) n
/-- the operation of the call at place i -/
def refOp (l : List EvD) (i : Nat) : OpD := match ndK l (l.getD i evZ).th (i + 1) with
  | none => ⟨(l.getD i evZ).th, (l.getD i evZ).c, z3, (i : Int), -1⟩
  | some k => ⟨(l.getD i evZ).th, (l.getD i evZ).c, (l.getD k evZ).a, (i : Int), (k : Int)⟩
def refOps (l : List EvD) : Nat → List OpD
  | 0 => []
  | n + 1 => refOps l n ++ if (l.getD n evZ).bk then [] else [refOp l n]
theorem fstK_bd {l : List EvD} {th : Int} : ∀ {m n k : Nat}, fstK l th m n = some k → n ≤ k ∧ k < n + m ∧ (l.getD k evZ).th = th
  | 0, n, k, h => by cases h
  | m + 1, n, k, h => by
    unfold fstK at h
    split at h
    · cases h
      exact ⟨Nat.le_refl _, by omega, by assumption⟩
    · obtain ⟨h1, h2, h3⟩ := fstK_bd h
      exact ⟨by omega, by omega, h3⟩
theorem fstK_app {l : List EvD} {e : EvD} {th : Int} : ∀ (m n : Nat), n + m = l.length → fstK (l ++ [e]) th (m + 1) n = match fstK l th m n with
    | some k => some k
    | none => if e.th = th then some l.length else none
  | 0, n, h => by
    have : n = l.length := by omega
    subst this
    show (if ((l ++ [e]).getD l.length evZ).th = th then some l.length else none) = if e.th = th then some l.length else none
    rw [getD_app_eq]
  | m + 1, n, h => by
    have ih := fstK_app (l := l) (e := e) (th := th) m (n + 1) (by omega)
    show (if ((l ++ [e]).getD n evZ).th = th then some n else fstK (l ++ [e]) th (m + 1) (n + 1)) = match (if (l.getD n evZ).th = th then some n else fstK l th m (n + 1)) with
      | some k => some k
      | none => if e.th = th then some l.length else none
    rw [getD_app_lt (by omega), ih]
    by_cases q : (l.getD n evZ).th = th
    · rw [if_pos q, if_pos q]
    · rw [if_neg q, if_neg q]
theorem ndK_app {l : List EvD} {e : EvD} {th : Int} {n : Nat} (hn : n ≤ l.length) : ndK (l ++ [e]) th n = match ndK l th n with
    | some k => some k
    | none => if e.th = th then some l.length else none := by
  unfold ndK
  rw [List.length_append, show l.length + [e].length - n = (l.length - n) + 1 by simp; omega]
  exact fstK_app _ _ (by omega)
theorem refOp_app {l : List EvD} {e : EvD} {i : Nat} (hi : i < l.length) : refOp (l ++ [e]) i = ansOp l.length e (refOp l i) := by
  unfold refOp
  rw [getD_app_lt hi, ndK_app (by omega)]
  cases hk : ndK l (l.getD i evZ).th (i + 1) with
  | some k =>
    obtain ⟨h1, h2, h3⟩ := fstK_bd hk
    show (⟨_, _, ((l ++ [e]).getD k evZ).a, _, _⟩ : OpD) = _
    rw [getD_app_lt (by omega), ansOp_not (fun h => by have : (k : Int) = -1 := h.2; omega)]
  | none =>
    by_cases q : e.th = (l.getD i evZ).th
    · show (match (if e.th = (l.getD i evZ).th then some l.length else none) with | none => _ | some k => _) = _
      rw [if_pos q, ansOp_open ⟨q.symm, rfl⟩]
      show (⟨_, _, ((l ++ [e]).getD l.length evZ).a, _, _⟩ : OpD) = _
      rw [getD_app_eq]
    · show (match (if e.th = (l.getD i evZ).th then some l.length else none) with | none => _ | some k => _) = _
      rw [if_neg q, ansOp_not (fun h => q h.1.symm)]
theorem refOps_app {l : List EvD} {e : EvD} : ∀ m, m ≤ l.length → refOps (l ++ [e]) m = (refOps l m).map (ansOp l.length e)
  | 0, _ => rfl
  | m + 1, h => by
    show refOps (l ++ [e]) m ++ (if ((l ++ [e]).getD m evZ).bk then [] else [refOp (l ++ [e]) m]) = (refOps l m ++ if (l.getD m evZ).bk then [] else [refOp l m]).map _
    rw [refOps_app m (by omega), getD_app_lt (by omega), refOp_app (by omega), List.map_append]
    cases (l.getD m evZ).bk <;> rfl
theorem right_snoc {l : List EvD} {e : EvD} (h : rightH (l ++ [e])) : rightH l ∧ evE (fOf l) e = 0 ∧ nullP e := by
  refine ⟨fun i hi => ?_, ?_⟩
  · have := h i (by simp; omega)
    rw [mayE_lt hi, getD_app_lt hi] at this
    exact this
  · have := h l.length (by simp)
    rw [mayE_app, getD_app_eq] at this
    exact this
theorem snoc_ind {α : Type} {p : List α → Prop} (h0 : p []) (h1 : ∀ l x, p l → p (l ++ [x])) : ∀ l, p l := fun l => by
  have : ∀ n, n ≤ l.length → p (l.take n) := by
    intro n
    induction n with
    | zero => intro _; exact h0
    | succ n ih =>
      intro hn
      rw [List.take_add_one, List.getElem?_eq_getElem (by omega)]
      exact h1 _ _ (ih (by omega))
  have := this l.length (Nat.le_refl _)
  rwa [List.take_length] at this
theorem opI_ex : ∀ l : List EvD, rightH l → ∃ g, OpI l g := snoc_ind (fun _ => ⟨fun _ => none, OpI.nil _⟩) (fun l e ih h => by
  obtain ⟨h1, h2, -⟩ := right_snoc h
  obtain ⟨g, I⟩ := ih h1
  cases hb : e.bk with
  | true => exact ⟨g, (I.back h2 hb).1⟩
  | false => exact ⟨_, (I.call h2 hb).1⟩)
theorem ref_opF : ∀ l : List EvD, rightH l → refOps l l.length = opF l := snoc_ind (fun _ => rfl) (fun l e ih h => by
  obtain ⟨h1, h2, -⟩ := right_snoc h
  have ih := ih h1
  have hl : (l ++ [e]).length = l.length + 1 := by simp
  rw [hl]
  show refOps (l ++ [e]) l.length ++ (if ((l ++ [e]).getD l.length evZ).bk then [] else [refOp (l ++ [e]) l.length]) = _
  rw [getD_app_eq, refOps_app l.length (Nat.le_refl _), ih, opF_app]
  cases hb : e.bk with
  | true => simp
  | false =>
    obtain ⟨g, I⟩ := opI_ex l h1
    have Ie := I e.th
    rw [evE_call h2 hb] at Ie
    have Ie : ∀ o ∈ opF l, ¬ openOp e.th o := Ie
    have e1 : (opF l).map (ansOp l.length e) = opF l := by
      have : (opF l).map (ansOp l.length e) = (opF l).map id := List.map_congr_left fun o ho => ansOp_not (Ie o ho)
      rw [this, List.map_id]
    have e2 : refOp (l ++ [e]) l.length = newOp l.length e := by
      unfold refOp
      rw [getD_app_eq]
      have : ndK (l ++ [e]) e.th (l.length + 1) = none := by unfold ndK; rw [hl, Nat.sub_self]; rfl
      rw [this]; rfl
    rw [e1, e2]; rfl)
end Go.Proofs.Ytblngbagjieeiaa
