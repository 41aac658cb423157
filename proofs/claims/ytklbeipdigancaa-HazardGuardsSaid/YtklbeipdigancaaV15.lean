/- Regions that draw their order, all of them in heads: no tail. -/
import Derived.Test.YtklbeipdigancaaV14
namespace Go.Proofs.Ytklbeipdigancaa
open Go.RowKit

section
variable {P : Program} {ops : Array Oper} {Q : Exit → Act → World → Prop} {md : Region.Mode} {S : World → Prop} {n : Nat}
theorem no_tail {listed : Array Bool} {j : Nat} (hn : n = ops.size) (h : n ≤ j) : ¬ j ∈ Region.ready md ops listed := fun hj => by
  obtain ⟨_, o, ho, _⟩ := mem_ready.1 hj
  rw [Array.getElem?_eq_none (by omega)] at ho
  cases ho
theorem wpAnyT_firstA {i : Nat} {oi : Oper} {v : Value} {L : Array Bool → Act → World → Prop} (hi : ops[i]? = some oi) (hsel : ∀ (j : Nat) (o : Oper) cs b, ops[j]? = some o → o.op ≠ .select cs b)
    (hn : n = ops.size) (hin : i < n)
    (hdone : ∀ listed a w, L listed a w → ∀ j ∈ Region.ready md ops listed, n ≤ j) (hQ : ∀ c a w, Q (.panic c) (a.put oi.dst v) w → Q (.panic c) a w) :
    ∀ (f : Nat) (listed : Array Bool) (a : Act) (w : World), HeadInv md ops n listed →
      (∀ j oj, ops[j]? = some oj → j ≠ i → listed.getD j true = false → (∀ e ∈ oj.after, Region.binds md e = true → e.on ≠ i) → oi.apart ops oj = true) →
      i ∈ Region.ready md ops listed → YieldsQ P ops S oi v a → S w →
      wpAnyT P md ops Q S n L f (listed.setIfInBounds i true) (a.put oi.dst v) w → wpAnyT P md ops Q S n L (f + 1) listed a w := by
  intro f
  induction f with
  | zero =>
    intro listed a w inv _ hr hy hS H
    have hun := (mem_ready.1 hr).1
    refine ⟨fun h => (by rw [h] at hr; cases hr), fun j hj => ?_⟩
    have hjn : j < n := by
      rcases Nat.lt_or_ge j n with h | h
      · exact h
      · exact absurd hj (no_tail hn h)
    refine ⟨hjn, ?_⟩
    by_cases hji : j = i
    · subst hji; exact hy.wpOp hi hS ⟨hS, H⟩
    · have := hdone _ _ _ H j (ready_mono hj hji)
      omega
  | succ f ih =>
    intro listed a w inv hfree hr hy hS H
    have hun := (mem_ready.1 hr).1
    refine ⟨fun h => (by rw [h] at hr; cases hr), fun j hj => ?_⟩
    have hjn : j < n := by
      rcases Nat.lt_or_ge j n with h | h
      · exact h
      · exact absurd hj (no_tail hn h)
    refine ⟨hjn, ?_⟩
    by_cases hji : j = i
    · subst hji; exact hy.wpOp hi hS ⟨hS, H⟩
    · have h1 := (H.2 j (ready_mono hj hji)).2
      obtain ⟨hjun, oj, hoj, hall⟩ := mem_ready.1 hj
      have hnot : ∀ e ∈ oj.after, Region.binds md e = true → e.on ≠ i := fun e he hb heq => by
        have h1 := hall e he hb
        rw [heq, getD_both hun] at h1
        cases h1
      have h2 := wpOp_putQ hoj (hfree j oj hoj hji hjun hnot) (fun cs b => hsel i oi cs b hi) (fun cs b => hsel j oj cs b hoj) hQ hy h1
      have hfree' : ∀ k ok, ops[k]? = some ok → k ≠ i → (listed.setIfInBounds j true).getD k true = false →
          (∀ e ∈ ok.after, Region.binds md e = true → e.on ≠ i) → oi.apart ops ok = true := fun k ok hk hki hun hno => by
        refine hfree k ok hk hki ?_ hno
        by_cases hjk : j = k
        · subst hjk; exact hjun
        · rw [getD_set_ne true hjk] at hun; exact hun
      refine wpOp_mono (fun a' w' h3 => ⟨h3.2.1, ih (listed.setIfInBounds j true) a' w' (inv.set hj hjn) hfree' (ready_mono hr (Ne.symm hji)) h3.1 h3.2.1 ?_⟩) h2
      rw [Array.setIfInBounds_comm _ _ hji]
      exact h3.2.2
end
def mixAllA (ops : Array Oper) (ord : List (Nat × Bool)) : Bool :=
  Region.noSelect ops && decide (ord.length = ops.size) && mixB .any ops ops.size 0 ord (Array.replicate ops.size false)
theorem vmix_soundA {P : Program} {N : Nat} {S : World → Prop} {l : List Oper} {n : Nat} {tail : Env → World → Prop} {Q : Exit → Act → World → Prop} (hQ : ∀ c a d v w, Q (.panic c) (a.put d v) w → Q (.panic c) a w)
    (hsel : Region.noSelect l.toArray = true) (hn : n = l.toArray.size) :
    ∀ (ord : List (Nat × Bool)) (listed : Array Bool) (e : Env) (a : Act) (w : World), mixB .any l.toArray n (l.toArray.size - n) ord listed = true → HeadInv .any l.toArray n listed → Knows N e a → S w → vmix P N S l tail ord e w →
      wpAnyT P .any l.toArray Q S n (fun listed' a' w' => Region.seqB .any l.toArray (l.toArray.size - n) n listed' = true ∧ ∃ e', Knows N e' a' ∧ tail e' w') ord.length listed a w
  | [], listed, e, a, w, hB, _, hk, _, h => ⟨hB, e, hk, h⟩
  | (i, true) :: r, listed, e, a, w, hB, inv, hk, hS, h => by
    simp only [mixB, Bool.and_eq_true, decide_eq_true_eq] at hB
    obtain ⟨⟨⟨hin, hr⟩, hf⟩, hB'⟩ := hB
    rw [vmix_cons] at h
    unfold vmixStep at h
    simp only [] at h
    rw [opAt_eq] at h
    split at h
    · rename_i o ho
      have ho' : l.toArray[i]? = some o := by simpa using ho
      have hr' : i ∈ Region.ready .any l.toArray listed := by simpa using hr
      obtain ⟨v, hy, e', hk', h'⟩ := qGuard_sound hk h
      exact wpAnyT_firstA ho' (Region.noSelect_spec hsel) hn hin (fun listed' a' w' hL => seqB_ready hL.1) (fun c a w => hQ c a _ _ w) r.length listed a w inv (Region.free_spec ho' hf) hr' hy hS
        (vmix_soundA hQ hsel hn r _ e' _ w hB' (inv.set hr' hin) hk' hS h')
    · exact h.elim
  | (i, false) :: r, listed, e, a, w, hB, inv, hk, hS, h => by
    simp only [mixB, Bool.and_eq_true, decide_eq_true_eq] at hB
    obtain ⟨⟨hin, hr⟩, hB'⟩ := hB
    have hr' : i ∈ Region.ready .any l.toArray listed := by rw [hr]; simp
    rw [vmix_cons] at h
    unfold vmixStep at h
    simp only [] at h
    rw [opAt_eq] at h
    split at h
    · rename_i o ho
      have ho' : l.toArray[i]? = some o := by simpa using ho
      split at h
      · rename_i hg
        refine wpAnyT_only hr hin ?_
        unfold wpOp
        simp only [ho']
        rw [if_pos (by simp [Region.wanted, hg])]
        refine .inl (Oper.wp_mono ?_ (vcOp_sound (Q := Q) hk h))
        rintro a' w' ⟨v, rfl, hS', h2⟩
        obtain ⟨e', hk', h3⟩ := setK_sound hk h2
        exact ⟨hS', vmix_soundA hQ hsel hn r _ e' _ w' hB' (inv.set hr' hin) hk' hS' h3⟩
      · rename_i j want hg
        have skipped : ∀ e1, Knows N e1 a → Region.wanted o (yielded l.toArray a.tmps) = false → (setK N e1 o.dst undef fun e' => vmix P N S l tail r e' w) → wpOp P l.toArray Q i (fun a' w' => S w' ∧ wpAnyT P .any l.toArray Q S n (fun listed' a' w' => Region.seqB .any l.toArray (l.toArray.size - n) n listed' = true ∧ ∃ e', Knows N e' a' ∧ tail e' w') r.length (listed.setIfInBounds i true) a' w') a w := by
          intro e1 hk1 hw h1
          unfold wpOp
          simp only [ho', hw, Bool.false_eq_true, if_false]
          obtain ⟨e', hk', h3⟩ := setK_sound hk1 h1
          exact ⟨hS, vmix_soundA hQ hsel hn r _ e' _ w hB' (inv.set hr' hin) hk' hS h3⟩
        have done : ∀ e1, Knows N e1 a → Region.wanted o (yielded l.toArray a.tmps) = true → vcOp P e1 o (fun v w' => S w' ∧ setK N e1 o.dst v fun e' => vmix P N S l tail r e' w') w → wpOp P l.toArray Q i (fun a' w' => S w' ∧ wpAnyT P .any l.toArray Q S n (fun listed' a' w' => Region.seqB .any l.toArray (l.toArray.size - n) n listed' = true ∧ ∃ e', Knows N e' a' ∧ tail e' w') r.length (listed.setIfInBounds i true) a' w') a w := by
          intro e1 hk1 hw h1
          unfold wpOp
          simp only [ho', hw, if_true]
          refine .inl (Oper.wp_mono ?_ (vcOp_sound (Q := Q) hk1 h1))
          rintro a' w' ⟨v, rfl, hS', h2⟩
          obtain ⟨e', hk', h3⟩ := setK_sound hk1 h2
          exact ⟨hS', vmix_soundA hQ hsel hn r _ e' _ w' hB' (inv.set hr' hin) hk' hS' h3⟩
        refine wpAnyT_only hr hin ?_
        split at h
        · rename_i d hd
          split at h
          · rename_i b hb
            have hy : yielded l.toArray a.tmps j = some b := by
              have h1 := hk.look d _ hb
              rw [dstOf_eq] at hd
              unfold yielded
              simp [hd, h1]
            have hw : Region.wanted o (yielded l.toArray a.tmps) = (b == want) := by
              simp only [Region.wanted, hg, hy]
              cases b <;> cases want <;> rfl
            have hkb : ∀ b', b = b' → Knows N ((d, .bool b') :: e) a := fun b' hbb => by
              subst hbb
              refine ⟨hk.defers, hk.size, fun t v hl => ?_⟩
              by_cases hdt : d = t
              · subst hdt; rw [look_cons_eq] at hl; cases hl; exact hk.look _ _ hb
              · rw [look_cons_ne hdt] at hl; exact hk.look _ _ hl
            cases want with
            | true =>
              cases b with
              | true => exact done _ (hkb true rfl) (by rw [hw]; rfl) h
              | false => exact skipped _ (hkb false rfl) (by rw [hw]; rfl) h
            | false =>
              cases b with
              | true => exact skipped _ (hkb true rfl) (by rw [hw]; rfl) h
              | false => exact done _ (hkb false rfl) (by rw [hw]; rfl) h
          · rename_i u hb
            have hy : yielded l.toArray a.tmps j = none := by
              have h1 := hk.look d _ hb
              rw [dstOf_eq] at hd
              unfold yielded
              simp [hd, h1]
            exact skipped _ hk (by simp only [Region.wanted, hg, hy]; rfl) h
          · exact h.elim
        · exact h.elim
    · exact h.elim

theorem draw_mixA {P : Program} {N : Nat} {e : Env} {w : World} {Q : Env → World → Prop} [Mixed P] {l : List Oper} (ord : List (Nat × Bool)) (S : World → Prop) (hB : mixAllA l.toArray ord = true) (hS : S w.drew)
    (h : vmix P N S l Q ord e w.drew) : DrawP P N l.toArray Q e w := by
  refine ⟨fun id a hk => ?_⟩
  simp only [mixAllA, Bool.and_eq_true, decide_eq_true_eq] at hB
  obtain ⟨⟨hsel, hlen⟩, hmix⟩ := hB
  have inv0 : HeadInv .any l.toArray l.toArray.size (Array.replicate l.toArray.size false) :=
    ⟨by simp, fun j oj _ hl => (by rw [getD_replicate_false] at hl; cases hl), fun t _ ht => getD_in (by simpa using ht) (getD_replicate_false _ _)⟩
  have H := vmix_soundA (Q := fun x a' w' => x = .normal ∧ ∃ e', Knows N e' a' ∧ Q e' w') (fun c a d v w h => by cases h.1) hsel rfl ord _ e a w.drew (by rw [Nat.sub_self]; exact hmix) inv0 hk hS h
  refine wp_region_any Mixed.h ?_
  have := wpAny_of_T (g := 0) (fun listed' a' w' hL => by
    obtain ⟨h1, e', hk', h2⟩ := hL
    rw [Nat.sub_self] at h1
    exact wpAny_of_seq [] l.toArray.size listed' a' w' (fun j => by simp) h1 (wpList_nil ⟨rfl, e', hk', h2⟩)) _ _ _ _ H
  rw [Nat.add_zero, hlen] at this
  exact this
end Go.Proofs.Ytklbeipdigancaa
