/- Regions that draw their order, in which several operations write, and don't wait for each other: all orders are walked, as a tree. -/
import Derived.Test.YtklbeipdigancaaV15
namespace Go.Proofs.Ytklbeipdigancaa
open Go.RowKit

/-- the orders: done; one that only reads, taken first; the only one that is ready; one that is ready, and the others that are -/
inductive MT where
  | done
  | rd (i : Nat) (t : MT)
  | ef (i : Nat) (t : MT)
  | fk (i : Nat) (t : MT) (r : MT)
def MT.depth : MT → Nat
  | .done => 0
  | .rd _ t => t.depth + 1
  | .ef _ t => t.depth + 1
  | .fk _ t _ => t.depth + 1
def MT.alts : MT → List Nat
  | .done => []
  | .rd _ _ => []
  | .ef i _ => [i]
  | .fk i _ r => i :: r.alts
/-- main: as it goes on; alt: as one of several that are ready, d operations being left -/
def mtB (md : Region.Mode) (ops : Array Oper) (n g : Nat) : MT → Bool → Nat → Array Bool → Bool
  | .done, false, _, listed => Region.seqB md ops g n listed
  | .done, true, _, _ => false
  | .rd i t, false, _, listed => decide (i < n) && (Region.ready md ops listed).contains i && Region.free md ops listed i && mtB md ops n g t false 0 (listed.setIfInBounds i true)
  | .rd _ _, true, _, _ => false
  | .ef i t, false, _, listed => decide (i < n) && decide (Region.ready md ops listed = [i]) && mtB md ops n g t false 0 (listed.setIfInBounds i true)
  | .ef i t, true, d, listed => decide (i < n) && (Region.ready md ops listed).contains i && decide (t.depth = d) && mtB md ops n g t false 0 (listed.setIfInBounds i true)
  | .fk i t r, false, _, listed => decide (i < n) && (Region.ready md ops listed).contains i && ((Region.ready md ops listed).all fun j => decide (j = i) || r.alts.contains j) && mtB md ops n g t false 0 (listed.setIfInBounds i true) && mtB md ops n g r true t.depth listed
  | .fk i t r, true, d, listed => decide (i < n) && (Region.ready md ops listed).contains i && decide (t.depth = d) && mtB md ops n g t false 0 (listed.setIfInBounds i true) && mtB md ops n g r true d listed
def mtAll (ops : Array Oper) (n : Nat) (t : MT) : Bool :=
  Region.noSelect ops && decide (n < ops.size) && decide (t.depth = n) && Region.sinkB .any ops n && Region.chainB .any ops n && mtB .any ops n (ops.size - n) t false 0 (Array.replicate ops.size false)
def efStep (P : Program) (N : Nat) (S : World → Prop) (ops : List Oper) (i : Nat) (e : Env) (w : World) (next : Env → World → Prop) : Prop :=
  match opAt? ops i with
  | some o => (match o.guard with
    | none => vcOp P e o (fun v w' => S w' ∧ setK N e o.dst v fun e' => next e' w') w
    | some _ => False)
  | none => False
noncomputable def vtree (P : Program) (N : Nat) (S : World → Prop) (ops : List Oper) (tail : Env → World → Prop) (t : MT) : Env → World → Prop :=
  MT.rec (motive := fun _ => Env → World → Prop) tail (fun i _ next e w => vmixStep P N S ops (i, true) e w next) (fun i _ next e w => efStep P N S ops i e w next) (fun i _ _ next other e w => efStep P N S ops i e w next ∧ other e w) t
theorem ef_sound {P : Program} {N : Nat} {S : World → Prop} {l : List Oper} {Q : Exit → Act → World → Prop} {i : Nat} {e : Env} {a : Act} {w : World} {next : Env → World → Prop} {X : Act → World → Prop} (hk : Knows N e a)
    (h : efStep P N S l i e w next) (hX : ∀ e' a' w', Knows N e' a' → S w' → next e' w' → X a' w') : wpOp P l.toArray Q i (fun a' w' => S w' ∧ X a' w') a w := by
  unfold efStep at h
  rw [opAt_eq] at h
  split at h
  · rename_i o ho
    have ho' : l.toArray[i]? = some o := by simpa using ho
    split at h
    · rename_i hg
      unfold wpOp
      simp only [ho']
      rw [if_pos (by simp [Region.wanted, hg])]
      refine .inl (Oper.wp_mono ?_ (vcOp_sound (Q := Q) hk h))
      rintro a' w' ⟨v, rfl, hS', h2⟩
      obtain ⟨e', hk', h3⟩ := setK_sound hk h2
      exact ⟨hS', hX e' _ w' hk' hS' h3⟩
    · exact h.elim
  · exact h.elim
theorem vtree_sound {P : Program} {N : Nat} {S : World → Prop} {l : List Oper} {n : Nat} {tail : Env → World → Prop} {Q : Exit → Act → World → Prop} (hQ : ∀ c a d v w, Q (.panic c) (a.put d v) w → Q (.panic c) a w)
    (hsel : Region.noSelect l.toArray = true) (hs : Region.sinkB .any l.toArray n = true) (hc : Region.chainB .any l.toArray n = true) (hn : n < l.toArray.size) :
    ∀ (t : MT) (listed : Array Bool) (e : Env) (a : Act) (w : World), HeadInv .any l.toArray n listed → Knows N e a → S w → vtree P N S l tail t e w →
      (mtB .any l.toArray n (l.toArray.size - n) t false 0 listed = true →
        wpAnyT P .any l.toArray Q S n (fun listed' a' w' => Region.seqB .any l.toArray (l.toArray.size - n) n listed' = true ∧ ∃ e', Knows N e' a' ∧ tail e' w') t.depth listed a w) ∧
      (∀ d, mtB .any l.toArray n (l.toArray.size - n) t true d listed = true → ∀ j ∈ t.alts, j < n ∧
        wpOp P l.toArray Q j (fun a' w' => S w' ∧ wpAnyT P .any l.toArray Q S n (fun listed' a' w' => Region.seqB .any l.toArray (l.toArray.size - n) n listed' = true ∧ ∃ e', Knows N e' a' ∧ tail e' w') d (listed.setIfInBounds j true) a' w') a w) := by
  intro t
  induction t with
  | done =>
    intro listed e a w inv hk hS h
    exact ⟨fun hB => ⟨hB, e, hk, h⟩, fun d hB => by simp [mtB] at hB⟩
  | rd i t ih =>
    intro listed e a w inv hk hS h
    refine ⟨fun hB => ?_, fun d hB => by simp [mtB] at hB⟩
    simp only [mtB, Bool.and_eq_true, decide_eq_true_eq] at hB
    obtain ⟨⟨⟨hin, hr⟩, hf⟩, hB'⟩ := hB
    have h : vmixStep P N S l (i, true) e w (vtree P N S l tail t) := h
    unfold vmixStep at h
    simp only [] at h
    rw [opAt_eq] at h
    split at h
    · rename_i o ho
      have ho' : l.toArray[i]? = some o := by simpa using ho
      have hr' : i ∈ Region.ready .any l.toArray listed := by simpa using hr
      obtain ⟨v, hy, e', hk', h'⟩ := qGuard_sound hk h
      exact wpAnyT_first ho' (Region.noSelect_spec hsel) hs hc hn hin (fun listed' a' w' hL => seqB_ready hL.1) (fun c a w => hQ c a _ _ w) t.depth listed a w inv (Region.free_spec ho' hf) hr' hy hS
        ((ih _ e' _ w (inv.set hr' hin) hk' hS h').1 hB')
    · exact h.elim
  | ef i t ih =>
    intro listed e a w inv hk hS h
    have h : efStep P N S l i e w (vtree P N S l tail t) := h
    refine ⟨fun hB => ?_, fun d hB => ?_⟩
    · simp only [mtB, Bool.and_eq_true, decide_eq_true_eq] at hB
      obtain ⟨⟨hin, hr⟩, hB'⟩ := hB
      have hr' : i ∈ Region.ready .any l.toArray listed := by rw [hr]; simp
      exact wpAnyT_only hr hin (ef_sound hk h fun e' a' w' hk' hS' h3 => (ih _ e' a' w' (inv.set hr' hin) hk' hS' h3).1 hB')
    · simp only [mtB, Bool.and_eq_true, decide_eq_true_eq] at hB
      obtain ⟨⟨⟨hin, hr⟩, hd⟩, hB'⟩ := hB
      have hr' : i ∈ Region.ready .any l.toArray listed := by simpa using hr
      intro j hj
      have hj : j = i := by simpa [MT.alts] using hj
      subst hj
      subst hd
      exact ⟨hin, ef_sound hk h fun e' a' w' hk' hS' h3 => (ih _ e' a' w' (inv.set hr' hin) hk' hS' h3).1 hB'⟩
  | fk i t r iht ihr =>
    intro listed e a w inv hk hS h
    have h : efStep P N S l i e w (vtree P N S l tail t) ∧ vtree P N S l tail r e w := h
    refine ⟨fun hB => ?_, fun d hB => ?_⟩
    · simp only [mtB, Bool.and_eq_true, decide_eq_true_eq] at hB
      obtain ⟨⟨⟨⟨hin, hr⟩, hall⟩, hB'⟩, hBr⟩ := hB
      have hr' : i ∈ Region.ready .any l.toArray listed := by simpa using hr
      refine ⟨fun h0 => (by rw [h0] at hr'; cases hr'), fun j hj => ?_⟩
      have hj2 := List.all_eq_true.1 hall j hj
      by_cases hji : j = i
      · subst hji
        exact ⟨hin, ef_sound hk h.1 fun e' a' w' hk' hS' h3 => (iht _ e' a' w' (inv.set hr' hin) hk' hS' h3).1 hB'⟩
      · have hja : j ∈ r.alts := by simpa [hji] using hj2
        exact (ihr listed e a w inv hk hS h.2).2 _ hBr j hja
    · simp only [mtB, Bool.and_eq_true, decide_eq_true_eq] at hB
      obtain ⟨⟨⟨⟨hin, hr⟩, hd⟩, hB'⟩, hBr⟩ := hB
      have hr' : i ∈ Region.ready .any l.toArray listed := by simpa using hr
      intro j hj
      subst hd
      rcases List.mem_cons.1 hj with hj | hj
      · subst hj
        exact ⟨hin, ef_sound hk h.1 fun e' a' w' hk' hS' h3 => (iht _ e' a' w' (inv.set hr' hin) hk' hS' h3).1 hB'⟩
      · exact (ihr listed e a w inv hk hS h.2).2 _ hBr j hj
theorem draw_tree {P : Program} {N : Nat} {e : Env} {w : World} {Q : Env → World → Prop} [Mixed P] {l : List Oper} (n : Nat) (t : MT) (S : World → Prop) (hB : mtAll l.toArray n t = true) (hS : S w.drew)
    (h : vtree P N S l (fun e' w' => vcOps P N l Q (l.drop n) e' w') t e w.drew) : DrawP P N l.toArray Q e w := by
  refine ⟨fun id a hk => ?_⟩
  simp only [mtAll, Bool.and_eq_true, decide_eq_true_eq] at hB
  obtain ⟨⟨⟨⟨⟨hsel, hn⟩, hlen⟩, hs⟩, hc⟩, hmix⟩ := hB
  have inv0 : HeadInv .any l.toArray n (Array.replicate l.toArray.size false) :=
    ⟨by simp, fun j oj _ hl => (by rw [getD_replicate_false] at hl; cases hl), fun t _ ht => getD_in (by simpa using ht) (getD_replicate_false _ _)⟩
  have H := (vtree_sound (Q := fun x a' w' => x = .normal ∧ ∃ e', Knows N e' a' ∧ Q e' w') (fun c a d v w h => by cases h.1) hsel hs hc hn t _ e a w.drew inv0 hk hS h).1 hmix
  refine wp_region_any Mixed.h ?_
  have hd : (l.drop n).length = l.toArray.size - n := by simp
  have := wpAny_of_T (g := l.toArray.size - n) (fun listed' a' w' hL => by
    obtain ⟨h1, e', hk', h2⟩ := hL
    rw [← hd] at h1 ⊢
    exact wpAny_of_seq (l.drop n) n listed' a' w' (fun j => by simp) h1 (vcOps_sound (Q' := fun x a' w' => x = .normal ∧ ∃ e', Knows N e' a' ∧ Q e' w') _ e' a' w' hk' (fun e a w hk hq => ⟨rfl, e, hk, hq⟩) h2)) _ _ _ _ H
  have hsz : t.depth + (l.toArray.size - n) = l.toArray.size := by omega
  rw [hsz] at this
  exact this
theorem Sl.farT {w w' : World} {e T : TypeId} {n : Nat} {v : Value} {m g : Nat} {xs : List Value} {cs : Array Value} (h : Sl w e n v m xs) (hb : Blk w g T cs) (hne : e ≠ T) (hu : Upd [g] w w') : Sl w' e n v m xs :=
  h.upd hu fun k hk hm => by
    simp only [List.mem_singleton] at hm
    subst hm
    exact h.blk_ne hb hne hk
end Go.Proofs.Ytklbeipdigancaa
