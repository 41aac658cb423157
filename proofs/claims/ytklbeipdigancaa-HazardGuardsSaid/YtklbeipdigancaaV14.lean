/- Regions that draw their order, in which one operation writes, and others that don't wait for each other only read: what the writer waits for is read ahead of it. -/
import Derived.Test.YtklbeipdigancaaV13
namespace Go.Proofs.Ytklbeipdigancaa
open Go.RowKit

section
variable {P : Program} {ops : Array Oper} {Q : Exit → Act → World → Prop} {md : Region.Mode} {T : Array Bool → World → Prop} {n : Nat}
def wpAnyL (P : Program) (md : Region.Mode) (ops : Array Oper) (Q : Exit → Act → World → Prop) (T : Array Bool → World → Prop) (n : Nat) (L : Array Bool → Act → World → Prop) : Nat → Array Bool → Act → World → Prop
  | 0, listed, a, w => L listed a w
  | f + 1, listed, a, w => Region.ready md ops listed ≠ [] ∧ ∀ i ∈ Region.ready md ops listed, i < n ∧ wpOp P ops Q i (fun a' w' => T (listed.setIfInBounds i true) w' ∧ wpAnyL P md ops Q T n L f (listed.setIfInBounds i true) a' w') a w
theorem wpAny_of_L {g : Nat} {L : Array Bool → Act → World → Prop} (hL : ∀ listed a w, L listed a w → wpAny P md ops Q g listed a w) :
    ∀ (f : Nat) (listed : Array Bool) (a : Act) (w : World), wpAnyL P md ops Q T n L f listed a w → wpAny P md ops Q (f + g) listed a w
  | 0, listed, a, w, h => by rw [Nat.zero_add]; exact hL _ _ _ h
  | f + 1, listed, a, w, h => by
    rw [show f + 1 + g = (f + g) + 1 by omega]
    exact ⟨fun h0 => absurd h0 h.1, fun i hi => wpOp_mono (fun a' w' h' => wpAny_of_L hL f _ a' w' h'.2) (h.2 i hi).2⟩
theorem wpAnyL_first {i : Nat} {oi : Oper} {v : Value} {C : World → Prop} {L : Array Bool → Act → World → Prop} (hi : ops[i]? = some oi) (hsel : ∀ (j : Nat) (o : Oper) cs b, ops[j]? = some o → o.op ≠ .select cs b)
    (hs : Region.sinkB md ops n = true) (hc : Region.chainB md ops n = true) (hn : n < ops.size) (hin : i < n)
    (hdone : ∀ listed a w, L listed a w → ∀ j ∈ Region.ready md ops listed, n ≤ j) (hQ : ∀ c a w, Q (.panic c) (a.put oi.dst v) w → Q (.panic c) a w)
    (hTeq : ∀ listed w, T (listed.setIfInBounds i true) w ↔ T listed w) (hC : ∀ listed w, HeadInv md ops n listed → listed.getD i true = false → T listed w → C w) :
    ∀ (f : Nat) (listed : Array Bool) (a : Act) (w : World), HeadInv md ops n listed →
      (∀ j oj, ops[j]? = some oj → j ≠ i → listed.getD j true = false → (∀ e ∈ oj.after, Region.binds md e = true → e.on ≠ i) → oi.apart ops oj = true) →
      i ∈ Region.ready md ops listed → YieldsQ P ops C oi v a → T listed w →
      wpAnyL P md ops Q T n L f (listed.setIfInBounds i true) (a.put oi.dst v) w → wpAnyL P md ops Q T n L (f + 1) listed a w := by
  intro f
  induction f with
  | zero =>
    intro listed a w inv _ hr hy hT H
    have hun := (mem_ready.1 hr).1
    refine ⟨fun h => (by rw [h] at hr; cases hr), fun j hj => ?_⟩
    have hjn : j < n := by
      rcases Nat.lt_or_ge j n with h | h
      · exact h
      · exact absurd hj (tail_waits hs hc hn inv _ i rfl hin hun j h)
    refine ⟨hjn, ?_⟩
    by_cases hji : j = i
    · subst hji; exact hy.wpOp hi (hC listed w inv hun hT) ⟨(hTeq _ _).2 hT, H⟩
    · have := hdone _ _ _ H j (ready_mono hj hji)
      omega
  | succ f ih =>
    intro listed a w inv hfree hr hy hT H
    have hun := (mem_ready.1 hr).1
    refine ⟨fun h => (by rw [h] at hr; cases hr), fun j hj => ?_⟩
    have hjn : j < n := by
      rcases Nat.lt_or_ge j n with h | h
      · exact h
      · exact absurd hj (tail_waits hs hc hn inv _ i rfl hin hun j h)
    refine ⟨hjn, ?_⟩
    by_cases hji : j = i
    · subst hji; exact hy.wpOp hi (hC listed w inv hun hT) ⟨(hTeq _ _).2 hT, H⟩
    · have h1 := (H.2 j (ready_mono hj hji)).2
      obtain ⟨hjun, oj, hoj, hall⟩ := mem_ready.1 hj
      have hnot : ∀ e ∈ oj.after, Region.binds md e = true → e.on ≠ i := fun e he hb heq => by
        have h1 := hall e he hb
        rw [heq, getD_both hun] at h1
        cases h1
      have h2 := wpOp_putQ hoj (hfree j oj hoj hji hjun hnot) (fun cs b => hsel i oi cs b hi) (fun cs b => hsel j oj cs b hoj) hQ hy h1
      have hfree' : ∀ k ok, ops[k]? = some ok → k ≠ i → (listed.setIfInBounds j true).getD k true = false →
          (∀ e ∈ ok.after, Region.binds md e = true → e.on ≠ i) → oi.apart ops ok = true := fun k ok hk hki hun hno => by
        refine hfree k ok hk hki ?_ hno
        by_cases hjk : j = k
        · subst hjk; exact hjun
        · rw [getD_set_ne true hjk] at hun; exact hun
      refine wpOp_mono (fun a' w' h3 => ?_) h2
      have h4 : T (listed.setIfInBounds j true) w' := by
        have := h3.2.1
        rw [← Array.setIfInBounds_comm _ _ hji] at this
        exact (hTeq _ _).1 this
      refine ⟨h4, ih (listed.setIfInBounds j true) a' w' (inv.set hj hjn) hfree' (ready_mono hr (Ne.symm hji)) h3.1 h4 ?_⟩
      rw [Array.setIfInBounds_comm _ _ hji]
      exact h3.2.2
theorem wpAnyL_only {i : Nat} {L : Array Bool → Act → World → Prop} {f : Nat} {listed : Array Bool} {a : Act} {w : World} (hr : Region.ready md ops listed = [i]) (hin : i < n)
    (h : wpOp P ops Q i (fun a' w' => T (listed.setIfInBounds i true) w' ∧ wpAnyL P md ops Q T n L f (listed.setIfInBounds i true) a' w') a w) : wpAnyL P md ops Q T n L (f + 1) listed a w :=
  ⟨by rw [hr]; simp, fun j hj => by rw [hr] at hj; have : j = i := by simpa using hj
                                    subst this; exact ⟨hin, h⟩⟩
end

/-- the writer waits for it -/
def waitsB (md : Region.Mode) (ops : Array Oper) (m i : Nat) : Bool := match ops[m]? with | some o => o.after.any fun e => decide (e.on = i) && Region.binds md e | none => false
def swB (md : Region.Mode) (ops : Array Oper) (n g m : Nat) : List (Nat × Bool) → Array Bool → Bool
  | [], listed => decide (m < n) && decide (Region.ready md ops listed = [m]) && Region.seqB md ops g n (listed.setIfInBounds m true)
  | (i, b) :: r, listed => decide (i < n) && decide (i ≠ m) && (Region.ready md ops listed).contains i && Region.free md ops listed i && (!b || waitsB md ops m i) && swB md ops n g m r (listed.setIfInBounds i true)
def swAll (ops : Array Oper) (n m : Nat) (ord : List (Nat × Bool)) : Bool :=
  Region.noSelect ops && decide (n < ops.size) && decide (ord.length + 1 = n) && Region.sinkB .any ops n && Region.chainB .any ops n && swB .any ops n (ops.size - n) m ord (Array.replicate ops.size false)

def vswStep (P : Program) (N : Nat) (w0 : World) (ops : List Oper) (x : Nat × Bool) (e : Env) (next : Env → Prop) : Prop :=
  match x with
  | (i, true) => (match opAt? ops i with
    | some o => qGuard P N (· = w0) ops o e next
    | none => False)
  | (i, false) => (match opAt? ops i with
    | some o => qGuard P N (fun _ => True) ops o e next
    | none => False)
def vswMake (P : Program) (N : Nat) (w0 : World) (ops : List Oper) (m : Nat) (tail : Env → World → Prop) (e : Env) : Prop :=
  match opAt? ops m with
  | some o => (match o.guard with
    | none => vcOp P e o (fun v w' => setK N e o.dst v fun e' => tail e' w') w0
    | some _ => False)
  | none => False
noncomputable def vsw (P : Program) (N : Nat) (w0 : World) (ops : List Oper) (m : Nat) (tail : Env → World → Prop) (l : List (Nat × Bool)) : Env → Prop :=
  List.rec (motive := fun _ => Env → Prop) (vswMake P N w0 ops m tail) (fun x _ next e => vswStep P N w0 ops x e next) l
theorem vsw_cons {P : Program} {N : Nat} {w0 : World} {ops : List Oper} {m : Nat} {tail : Env → World → Prop} {x : Nat × Bool} {r : List (Nat × Bool)} {e : Env} : vsw P N w0 ops m tail (x :: r) e = vswStep P N w0 ops x e (vsw P N w0 ops m tail r) := rfl
theorem getD_set_self (l : Array Bool) (m : Nat) : (l.setIfInBounds m true).getD m true = true := by
  rcases Nat.lt_or_ge m l.size with h | h
  · simp [Array.getD, h]
  · simp [Array.getD, Array.size_setIfInBounds, Nat.not_lt.2 h]
theorem vsw_sound {P : Program} {N : Nat} {w0 : World} {l : List Oper} {n m : Nat} {tail : Env → World → Prop} {Q : Exit → Act → World → Prop} (hQ : ∀ c a d v w, Q (.panic c) (a.put d v) w → Q (.panic c) a w)
    (hsel : Region.noSelect l.toArray = true) (hs : Region.sinkB .any l.toArray n = true) (hc : Region.chainB .any l.toArray n = true) (hn : n < l.toArray.size) :
    ∀ (ord : List (Nat × Bool)) (listed : Array Bool) (e : Env) (a : Act), swB .any l.toArray n (l.toArray.size - n) m ord listed = true → HeadInv .any l.toArray n listed → Knows N e a → vsw P N w0 l m tail ord e →
      wpAnyL P .any l.toArray Q (fun listed w => listed.getD m true = false → w = w0) n (fun listed' a' w' => Region.seqB .any l.toArray (l.toArray.size - n) n listed' = true ∧ ∃ e', Knows N e' a' ∧ tail e' w') (ord.length + 1) listed a w0
  | [], listed, e, a, hB, inv, hk, h => by
    simp only [swB, Bool.and_eq_true, decide_eq_true_eq] at hB
    obtain ⟨⟨hmn, hr⟩, hB'⟩ := hB
    have h : vswMake P N w0 l m tail e := h
    unfold vswMake at h
    rw [opAt_eq] at h
    split at h
    · rename_i o ho
      have ho' : l.toArray[m]? = some o := by simpa using ho
      split at h
      · rename_i hg
        refine wpAnyL_only hr hmn ?_
        unfold wpOp
        simp only [ho']
        rw [if_pos (by simp [Region.wanted, hg])]
        refine .inl (Oper.wp_mono ?_ (vcOp_sound (Q := Q) hk h))
        rintro a' w' ⟨v, rfl, h2⟩
        obtain ⟨e', hk', h3⟩ := setK_sound hk h2
        exact ⟨fun h => absurd h (by rw [getD_set_self]; simp), hB', e', hk', h3⟩
      · exact h.elim
    · exact h.elim
  | (i, b) :: r, listed, e, a, hB, inv, hk, h => by
    simp only [swB, Bool.and_eq_true, decide_eq_true_eq] at hB
    obtain ⟨⟨⟨⟨⟨hin, him⟩, hr⟩, hf⟩, hb⟩, hB'⟩ := hB
    have hr' : i ∈ Region.ready .any l.toArray listed := by simpa using hr
    rw [vsw_cons] at h
    have go : ∀ (C : World → Prop) (o : Oper), l[i]? = some o → qGuard P N C l o e (vsw P N w0 l m tail r) → (∀ listed w, HeadInv .any l.toArray n listed → listed.getD i true = false → (listed.getD m true = false → w = w0) → C w) →
        wpAnyL P .any l.toArray Q (fun listed w => listed.getD m true = false → w = w0) n (fun listed' a' w' => Region.seqB .any l.toArray (l.toArray.size - n) n listed' = true ∧ ∃ e', Knows N e' a' ∧ tail e' w') (r.length + 1 + 1) listed a w0 := by
      intro C o ho hq hC
      have ho' : l.toArray[i]? = some o := by simpa using ho
      obtain ⟨v, hy, e', hk', h'⟩ := qGuard_sound hk hq
      exact wpAnyL_first ho' (Region.noSelect_spec hsel) hs hc hn hin (fun listed' a' w' hL => seqB_ready hL.1) (fun c a w => hQ c a _ _ w) (fun listed w => by rw [getD_set_ne true him]) hC (r.length + 1) listed a w0 inv (Region.free_spec ho' hf) hr' hy (fun _ => rfl)
        (vsw_sound hQ hsel hs hc hn r _ e' _ hB' (inv.set hr' hin) hk' h')
    unfold vswStep at h
    cases b with
    | true =>
      simp only [] at h
      rw [opAt_eq] at h
      split at h
      · rename_i o ho
        refine go (· = w0) o ho h fun listed w hi hun hT => ?_
        refine hT ?_
        have hw : waitsB .any l.toArray m i = true := by simpa using hb
        unfold waitsB at hw
        split at hw
        · rename_i om hom
          rw [Array.any_eq_true'] at hw
          obtain ⟨e1, he1, h2⟩ := hw
          simp only [Bool.and_eq_true, decide_eq_true_eq] at h2
          cases hl : listed.getD m true with
          | false => rfl
          | true =>
            have hms : m < listed.size := by
              rw [hi.size]
              rcases Nat.lt_or_ge m l.toArray.size with h | h
              · exact h
              · rw [Array.getElem?_eq_none h] at hom; cases hom
            have hl2 : listed.getD m false = true := by
              cases h3 : listed.getD m false with
              | true => rfl
              | false => rw [getD_in hms h3] at hl; cases hl
            have h4 := hi.closed m om hom hl2 e1 he1 h2.2
            rw [h2.1, getD_both hun] at h4
            cases h4
        · cases hw
      · exact h.elim
    | false =>
      simp only [] at h
      rw [opAt_eq] at h
      split at h
      · rename_i o ho
        exact go (fun _ => True) o ho h fun _ _ _ _ _ => trivial
      · exact h.elim

theorem draw_swap {P : Program} {N : Nat} {e : Env} {w : World} {Q : Env → World → Prop} [Mixed P] {l : List Oper} (n m : Nat) (ord : List (Nat × Bool)) (hB : swAll l.toArray n m ord = true)
    (h : vsw P N w.drew l m (fun e' w' => vcOps P N l Q (l.drop n) e' w') ord e) : DrawP P N l.toArray Q e w := by
  refine ⟨fun id a hk => ?_⟩
  simp only [swAll, Bool.and_eq_true, decide_eq_true_eq] at hB
  obtain ⟨⟨⟨⟨⟨hsel, hn⟩, hlen⟩, hs⟩, hc⟩, hmix⟩ := hB
  have inv0 : HeadInv .any l.toArray n (Array.replicate l.toArray.size false) :=
    ⟨by simp, fun j oj _ hl => (by rw [getD_replicate_false] at hl; cases hl), fun t _ ht => getD_in (by simpa using ht) (getD_replicate_false _ _)⟩
  have H := vsw_sound (Q := fun x a' w' => x = .normal ∧ ∃ e', Knows N e' a' ∧ Q e' w') (fun c a d v w h => by cases h.1) hsel hs hc hn ord _ e a hmix inv0 hk h
  refine wp_region_any Mixed.h ?_
  have hd : (l.drop n).length = l.toArray.size - n := by simp
  have := wpAny_of_L (g := l.toArray.size - n) (fun listed' a' w' hL => by
    obtain ⟨h1, e', hk', h2⟩ := hL
    rw [← hd] at h1 ⊢
    exact wpAny_of_seq (l.drop n) n listed' a' w' (fun j => by simp) h1 (vcOps_sound (Q' := fun x a' w' => x = .normal ∧ ∃ e', Knows N e' a' ∧ Q e' w') _ e' a' w' hk' (fun e a w hk hq => ⟨rfl, e, hk, hq⟩) h2)) _ _ _ _ H
  have hsz : ord.length + 1 + (l.toArray.size - n) = l.toArray.size := by omega
  rw [hsz] at this
  exact this
end Go.Proofs.Ytklbeipdigancaa
