/- Regions that draw their order, in which some operations make memory: what only reads may be taken first. -/
import Derived.Test.YtklbeipdigancaaV4
namespace Go.Proofs.Ytklbeipdigancaa
open Go.RowKit

section
variable {P : Program} {ops : Array Oper} {Q : Exit → Act → World → Prop} {md : Region.Mode} {S : World → Prop} {n : Nat}

/-- in every world that meets S the operation leaves 'v', and the world as it is: a value, or a call -/
def YieldsQ (P : Program) (ops : Array Oper) (S : World → Prop) (o : Oper) (v : Value) (a : Act) : Prop :=
  (Region.wanted o (yielded ops a.tmps) = true ∧ ∀ w, S w → o.quietAt P a (· = w) w v) ∨
  (Region.wanted o (yielded ops a.tmps) = false ∧ v = undef)
theorem YieldsQ.of_same {o : Oper} {v : Value} {a a' : Act} (hy : YieldsQ P ops S o v a) (he : execOp a'.eval o = execOp a.eval o)
    (hw : Region.wanted o (yielded ops a'.tmps) = Region.wanted o (yielded ops a.tmps)) : YieldsQ P ops S o v a' := by
  unfold YieldsQ Oper.quietAt at *
  rw [he, hw]
  exact hy
theorem YieldsQ.wpOp {i : Nat} {o : Oper} {v : Value} {a : Act} (hi : ops[i]? = some o) (hy : YieldsQ P ops S o v a)
    {K : Act → World → Prop} {w : World} (hS : S w) (h : K (a.put o.dst v) w) : wpOp P ops Q i K a w := by
  unfold Go.wpOp
  simp only [hi]
  rcases hy with ⟨hw, hv⟩ | ⟨hw, rfl⟩
  · simp only [hw, if_true]
    refine .inl (Oper.wp_of_quiet (C := (· = w)) (K := fun a' => a' = a.put o.dst v) rfl (fun a' w' hw' ha' => by subst hw'; subst ha'; exact h) ⟨v, fun w' hw' => by subst hw'; exact hv _ hS, rfl⟩)
  · simp only [hw, Bool.false_eq_true, if_false]; exact h
theorem wpOp_putQ {j : Nat} {oi oj : Oper} {v : Value} (hj : ops[j]? = some oj) (hap : oi.apart ops oj = true)
    (hsi : ∀ cs b, oi.op ≠ .select cs b) (hsj : ∀ cs b, oj.op ≠ .select cs b)
    (hQ : ∀ c a w, Q (.panic c) (a.put oi.dst v) w → Q (.panic c) a w) {K : Act → World → Prop} {a : Act} {w : World}
    (hy : YieldsQ P ops S oi v a) (h : wpOp P ops Q j K (a.put oi.dst v) w) :
    wpOp P ops Q j (fun a' w' => YieldsQ P ops S oi v a' ∧ K (a'.put oi.dst v) w') a w := by
  obtain ⟨h1, h2, h3⟩ := Oper.apart_spec hap
  have keep : ∀ (a : Act), YieldsQ P ops S oi v a → ∀ u, YieldsQ P ops S oi v (a.put oj.dst u) := fun a hy u =>
    hy.of_same (execOp_put oi hsi a oj.dst u h3) (wanted_put oi a oj.dst u h3)
  have keepD : ∀ d, YieldsQ P ops S oi v { a with defers := d :: a.defers } := fun d => hy.of_same rfl rfl
  unfold wpOp at *
  simp only [hj] at *
  rw [wanted_put oj a oi.dst v h1] at h
  split
  · rename_i hw
    simp only [hw, if_true] at h
    rcases h with h | ⟨hasks, hlets⟩
    case inr => exact .inr ⟨by unfold Oper.asks at *; rw [execOp_put oj hsj a oi.dst v h1] at hasks; exact hasks, hlets⟩
    refine .inl ?_
    unfold Oper.wp at *
    rw [execOp_put oj hsj a oi.dst v h1] at h
    generalize (execOp a.eval oj).run P w = r at *
    cases r with
    | ok n w' =>
      cases n <;> simp only [Oper.upon] at h ⊢
      case value u => exact ⟨keep a hy u, by rw [← Act.put_comm a v u h2]; exact h⟩
      case skip => exact ⟨keep a hy _, by rw [← Act.put_comm a v undef h2]; exact h⟩
      case defer d =>
        refine ⟨keep _ (keepD d) _, ?_⟩
        rw [← Act.put_comm _ v undef h2, ← Act.put_defers]
        exact h
      case enter f args =>
        refine Calls.mono h fun e w'' he => ?_
        cases e with
        | returned u => exact ⟨keep a hy u, by rw [← Act.put_comm a v u h2]; exact he⟩
        | panicked c => exact hQ _ _ _ he
        | outgrown => exact he
      case row row args => exact Rows.mono h fun u w'' he => ⟨keep a hy u, by rw [← Act.put_comm a v u h2]; exact he⟩
    | halt x w' =>
      cases x <;> simp only [Oper.upon] at h ⊢
      case panic u => exact hQ _ _ _ h
  · rename_i hw
    simp only [hw] at h
    exact ⟨keep a hy _, by rw [← Act.put_comm a v undef h2]; exact h⟩

def wpAnyT (P : Program) (md : Region.Mode) (ops : Array Oper) (Q : Exit → Act → World → Prop) (S : World → Prop) (n : Nat) (L : Array Bool → Act → World → Prop) : Nat → Array Bool → Act → World → Prop
  | 0, listed, a, w => L listed a w
  | f + 1, listed, a, w => Region.ready md ops listed ≠ [] ∧ ∀ i ∈ Region.ready md ops listed, i < n ∧ wpOp P ops Q i (fun a' w' => S w' ∧ wpAnyT P md ops Q S n L f (listed.setIfInBounds i true) a' w') a w

theorem wpAny_of_T {g : Nat} {L : Array Bool → Act → World → Prop} (hL : ∀ listed a w, L listed a w → wpAny P md ops Q g listed a w) :
    ∀ (f : Nat) (listed : Array Bool) (a : Act) (w : World), wpAnyT P md ops Q S n L f listed a w → wpAny P md ops Q (f + g) listed a w
  | 0, listed, a, w, h => by rw [Nat.zero_add]; exact hL _ _ _ h
  | f + 1, listed, a, w, h => by
    rw [show f + 1 + g = (f + g) + 1 by omega]
    exact ⟨fun h0 => absurd h0 h.1, fun i hi => wpOp_mono (fun a' w' h' => wpAny_of_T hL f _ a' w' h'.2) (h.2 i hi).2⟩

theorem wpAnyT_first {i : Nat} {oi : Oper} {v : Value} {L : Array Bool → Act → World → Prop} (hi : ops[i]? = some oi) (hsel : ∀ (j : Nat) (o : Oper) cs b, ops[j]? = some o → o.op ≠ .select cs b)
    (hs : Region.sinkB md ops n = true) (hc : Region.chainB md ops n = true) (hn : n < ops.size) (hin : i < n)
    (hdone : ∀ listed a w, L listed a w → ∀ j ∈ Region.ready md ops listed, n ≤ j) (hQ : ∀ c a w, Q (.panic c) (a.put oi.dst v) w → Q (.panic c) a w) :
    ∀ (f : Nat) (listed : Array Bool) (a : Act) (w : World), HeadInv md ops n listed →
      (∀ j oj, ops[j]? = some oj → j ≠ i → listed.getD j true = false → (∀ e ∈ oj.after, Region.binds md e = true → e.on ≠ i) → oi.apart ops oj = true) →
      i ∈ Region.ready md ops listed → YieldsQ P ops S oi v a → S w →
      wpAnyT P md ops Q S n L f (listed.setIfInBounds i true) (a.put oi.dst v) w → wpAnyT P md ops Q S n L (f + 1) listed a w := by
  intro f
  induction f with
  | zero =>
    intro listed a w inv _ hr hy hS H
    have hun := (mem_ready.1 hr).1
    refine ⟨fun h => (by rw [h] at hr; cases hr), fun j hj => ?_⟩
    have hjn : j < n := by
      rcases Nat.lt_or_ge j n with h | h
      · exact h
      · exact absurd hj (tail_waits hs hc hn inv _ i rfl hin hun j h)
    refine ⟨hjn, ?_⟩
    by_cases hji : j = i
    · subst hji; exact hy.wpOp hi hS ⟨hS, H⟩
    · have := hdone _ _ _ H j (ready_mono hj hji)
      omega
  | succ f ih =>
    intro listed a w inv hfree hr hy hS H
    have hun := (mem_ready.1 hr).1
    refine ⟨fun h => (by rw [h] at hr; cases hr), fun j hj => ?_⟩
    have hjn : j < n := by
      rcases Nat.lt_or_ge j n with h | h
      · exact h
      · exact absurd hj (tail_waits hs hc hn inv _ i rfl hin hun j h)
    refine ⟨hjn, ?_⟩
    by_cases hji : j = i
    · subst hji; exact hy.wpOp hi hS ⟨hS, H⟩
    · have h1 := (H.2 j (ready_mono hj hji)).2
      obtain ⟨hjun, oj, hoj, hall⟩ := mem_ready.1 hj
      have hnot : ∀ e ∈ oj.after, Region.binds md e = true → e.on ≠ i := fun e he hb heq => by
        have h1 := hall e he hb
        rw [heq, getD_both hun] at h1
        cases h1
      have h2 := wpOp_putQ hoj (hfree j oj hoj hji hjun hnot) (fun cs b => hsel i oi cs b hi) (fun cs b => hsel j oj cs b hoj) hQ hy h1
      have hfree' : ∀ k ok, ops[k]? = some ok → k ≠ i → (listed.setIfInBounds j true).getD k true = false →
          (∀ e ∈ ok.after, Region.binds md e = true → e.on ≠ i) → oi.apart ops ok = true := fun k ok hk hki hun hno => by
        refine hfree k ok hk hki ?_ hno
        by_cases hjk : j = k
        · subst hjk; exact hjun
        · rw [getD_set_ne true hjk] at hun; exact hun
      refine wpOp_mono (fun a' w' h3 => ⟨h3.2.1, ih (listed.setIfInBounds j true) a' w' (inv.set hj hjn) hfree' (ready_mono hr (Ne.symm hji)) h3.1 h3.2.1 ?_⟩) h2
      rw [Array.setIfInBounds_comm _ _ hji]
      exact h3.2.2
theorem wpAnyT_only {i : Nat} {L : Array Bool → Act → World → Prop} {f : Nat} {listed : Array Bool} {a : Act} {w : World} (hr : Region.ready md ops listed = [i]) (hin : i < n)
    (h : wpOp P ops Q i (fun a' w' => S w' ∧ wpAnyT P md ops Q S n L f (listed.setIfInBounds i true) a' w') a w) : wpAnyT P md ops Q S n L (f + 1) listed a w :=
  ⟨by rw [hr]; simp, fun j hj => by rw [hr] at hj; have : j = i := by simpa using hj
                                    subst this; exact ⟨hin, h⟩⟩
end

/-- the order in which the heads are walked; 'true': it only reads, and is taken first -/
def mixB (md : Region.Mode) (ops : Array Oper) (n g : Nat) : List (Nat × Bool) → Array Bool → Bool
  | [], listed => Region.seqB md ops g n listed
  | (i, true) :: r, listed => decide (i < n) && (Region.ready md ops listed).contains i && Region.free md ops listed i && mixB md ops n g r (listed.setIfInBounds i true)
  | (i, false) :: r, listed => decide (i < n) && decide (Region.ready md ops listed = [i]) && mixB md ops n g r (listed.setIfInBounds i true)
def mixAll (ops : Array Oper) (n : Nat) (ord : List (Nat × Bool)) : Bool :=
  Region.noSelect ops && decide (n < ops.size) && decide (ord.length = n) && Region.sinkB .any ops n && Region.chainB .any ops n && mixB .any ops n (ops.size - n) ord (Array.replicate ops.size false)

def opAt? (ops : List Oper) (i : Nat) : Option Oper :=
  match ops, i with
  | [], _ => none
  | o :: _, 0 => some o
  | _ :: l, i + 1 => opAt? l i
theorem opAt_eq (l : List Oper) : ∀ i, opAt? l i = l[i]? := by
  induction l with
  | nil => intro i; simp [opAt?]
  | cons o l ih => intro i; cases i <;> simp [opAt?, ih]

structure CallT (P : Program) (S : World → Prop) (f : FuncId) (args : Array Value) (K : Value → Prop) : Prop where
  h : ∃ v, (∀ w, S w → ((callFunc f args).run P w = .ok (.enter f args) w ∧ Calls P f args w fun e w' => e = .returned v ∧ w' = w)) ∧ K v
def vtCall (P : Program) (S : World → Prop) (f : Value) (l : List Value) (K : Value → Prop) : Prop :=
  match f with
  | .func (.func f) x y => CallT P S f (x ++ l.toArray ++ y) K
  | _ => False
def vtOp (P : Program) (S : World → Prop) (e : Env) (o : Oper) (K : Value → Prop) : Prop :=
  match plainB o with
  | true => vqOp P S e o K
  | false => (match o.op with
    | .call c => (match c.callee with
      | .value f => ev e f fun fv => evs e c.args.toList fun l => vtCall P S fv l K
      | _ => False)
    | _ => False)
theorem vtOp_sound {P : Program} {N : Nat} {S : World → Prop} {e : Env} {a : Act} {o : Oper} {K : Value → Prop} (hk : Knows N e a) (h : vtOp P S e o K) : ∃ v, (∀ w, S w → o.quietAt P a (· = w) w v) ∧ K v := by
  unfold vtOp at h
  split at h
  · rename_i hp
    obtain ⟨v, h1, h2⟩ := vqOp_plain hk hp h
    exact ⟨v, fun w hw => (by unfold Oper.quietAt; rw [h1 w hw]; exact ⟨rfl, rfl⟩), h2⟩
  · split at h
    · rename_i c hc
      split at h
      · rename_i f hf
        have e1 : ∀ z : Array Operand, z.map a.eval = (z.toList.map a.eval).toArray := fun z => by apply Array.ext'; simp
        have h1 := ev_sound hk (K := fun fv => evs e c.args.toList fun l => vtCall P S fv l K) h
        have h2 := evs_sound hk (K := fun l => vtCall P S (a.eval f) l K) h1
        unfold vtCall at h2
        split at h2
        · rename_i g x y hg
          have e2 : execOp a.eval o = callFunc g (x ++ (c.args.toList.map a.eval).toArray ++ y) := by
            unfold execOp
            simp only [hc, resolve, hf, hg, Deferred.ofValue]
            show invoke (.fn (.func g) y) (x ++ c.args.map a.eval) = _
            rw [e1]
            rfl
          obtain ⟨v, h3, h4⟩ := h2.h
          refine ⟨v, fun w hw => ?_, h4⟩
          unfold Oper.quietAt
          rw [e2, (h3 w hw).1]
          exact ⟨rfl, (h3 w hw).2⟩
        · exact h2.elim
      · exact h.elim
    · exact h.elim
theorem t_cl {P : Program} {S : World → Prop} {K : Value → Prop} {f : Nat} {args : Array Value} [HasBody P f] (v : Value) (h : ∀ w, S w → Fn P f args w fun r w' => r = v ∧ w' = w) (k : K v) : CallT P S f args K :=
  ⟨⟨v, fun w hw => ⟨HasBody.h args w, (h w hw).mono fun _ _ ⟨u, he, hu, hc⟩ => ⟨by rw [he, hu], hc⟩⟩, k⟩⟩

/-- one operation with its guard: as it reads -/
def qGuard (P : Program) (N : Nat) (C : World → Prop) (ops : List Oper) (o : Oper) (e : Env) (K : Env → Prop) : Prop :=
  match o.guard with
  | none => vtOp P C e o (fun v => setK N e o.dst v K)
  | some (j, want) =>
    (match dstOf ops j with
    | some d => (match look e d with
      | some (.bool b) =>
        (match want with
        | true => (Bool.rec (motive := fun _ => Prop) (setK N ((d, .bool false) :: e) o.dst undef K) (vtOp P C ((d, .bool true) :: e) o (fun v => setK N ((d, .bool true) :: e) o.dst v K)) b : Prop)
        | false => (Bool.rec (motive := fun _ => Prop) (vtOp P C ((d, .bool false) :: e) o (fun v => setK N ((d, .bool false) :: e) o.dst v K)) (setK N ((d, .bool true) :: e) o.dst undef K) b : Prop))
      | some (.tuple _) => setK N e o.dst undef K
      | _ => False)
    | none => False)
def vmixStep (P : Program) (N : Nat) (S : World → Prop) (ops : List Oper) (x : Nat × Bool) (e : Env) (w : World) (next : Env → World → Prop) : Prop :=
  match x with
  | (i, true) => (match opAt? ops i with
    | some o => qGuard P N S ops o e fun e' => next e' w
    | none => False)
  | (i, false) => (match opAt? ops i with
    | some o => (match o.guard with
      | none => vcOp P e o (fun v w' => S w' ∧ setK N e o.dst v fun e' => next e' w') w
      | some (j, want) =>
        (match dstOf ops j with
        | some d => (match look e d with
          | some (.bool b) =>
            (match want with
            | true => (Bool.rec (motive := fun _ => Prop) (setK N ((d, .bool false) :: e) o.dst undef fun e' => next e' w) (vcOp P ((d, .bool true) :: e) o (fun v w' => S w' ∧ setK N ((d, .bool true) :: e) o.dst v fun e' => next e' w') w) b : Prop)
            | false => (Bool.rec (motive := fun _ => Prop) (vcOp P ((d, .bool false) :: e) o (fun v w' => S w' ∧ setK N ((d, .bool false) :: e) o.dst v fun e' => next e' w') w) (setK N ((d, .bool true) :: e) o.dst undef fun e' => next e' w) b : Prop))
          | some (.tuple _) => setK N e o.dst undef fun e' => next e' w
          | _ => False)
        | none => False))
    | none => False)
/-- the heads in their order -/
noncomputable def vmix (P : Program) (N : Nat) (S : World → Prop) (ops : List Oper) (tail : Env → World → Prop) (l : List (Nat × Bool)) : Env → World → Prop :=
  List.rec (motive := fun _ => Env → World → Prop) tail (fun x _ next e w => vmixStep P N S ops x e w next) l
theorem vmix_cons {P : Program} {N : Nat} {S : World → Prop} {ops : List Oper} {tail : Env → World → Prop} {x : Nat × Bool} {r : List (Nat × Bool)} {e : Env} {w : World} : vmix P N S ops tail (x :: r) e w = vmixStep P N S ops x e w (vmix P N S ops tail r) := rfl

theorem qGuard_sound {P : Program} {N : Nat} {C : World → Prop} {ops : List Oper} {o : Oper} {e : Env} {K : Env → Prop} {a : Act} (hk : Knows N e a) (h : qGuard P N C ops o e K) :
    ∃ v, YieldsQ P ops.toArray C o v a ∧ ∃ e', Knows N e' (a.put o.dst v) ∧ K e' := by
  unfold qGuard at h
  split at h
  · rename_i hg
    obtain ⟨v, h1, h2⟩ := vtOp_sound hk h
    exact ⟨v, .inl ⟨by simp [Region.wanted, hg], h1⟩, setK_sound hk h2⟩
  · rename_i j want hg
    split at h
    · rename_i d hd
      split at h
      · rename_i b hb
        have hy : yielded ops.toArray a.tmps j = some b := by
          have h1 := hk.look d _ hb
          rw [dstOf_eq] at hd
          unfold yielded
          simp [hd, h1]
        have hw : Region.wanted o (yielded ops.toArray a.tmps) = (b == want) := by
          simp only [Region.wanted, hg, hy]
          cases b <;> cases want <;> rfl
        have hkb : ∀ b', b = b' → Knows N ((d, .bool b') :: e) a := fun b' hbb => by
          subst hbb
          refine ⟨hk.defers, hk.size, fun t v hl => ?_⟩
          by_cases hdt : d = t
          · subst hdt; rw [look_cons_eq] at hl; cases hl; exact hk.look _ _ hb
          · rw [look_cons_ne hdt] at hl; exact hk.look _ _ hl
        have yes : ∀ b', b = b' → (b == want) = true → vtOp P C ((d, .bool b') :: e) o (fun v => setK N ((d, .bool b') :: e) o.dst v K) → ∃ v, YieldsQ P ops.toArray C o v a ∧ ∃ e', Knows N e' (a.put o.dst v) ∧ K e' := fun b' hbb hw2 h1 => by
          obtain ⟨v, h2, h3⟩ := vtOp_sound (hkb b' hbb) h1
          exact ⟨v, .inl ⟨by rw [hw, hw2], h2⟩, setK_sound (hkb b' hbb) h3⟩
        have no : ∀ b', b = b' → (b == want) = false → (setK N ((d, .bool b') :: e) o.dst undef K) → ∃ v, YieldsQ P ops.toArray C o v a ∧ ∃ e', Knows N e' (a.put o.dst v) ∧ K e' := fun b' hbb hw2 h1 =>
          ⟨undef, .inr ⟨by rw [hw, hw2], rfl⟩, setK_sound (hkb b' hbb) h1⟩
        cases want with
        | true =>
          cases b with
          | true => exact yes true rfl rfl h
          | false => exact no false rfl rfl h
        | false =>
          cases b with
          | true => exact no true rfl rfl h
          | false => exact yes false rfl rfl h
      · rename_i u hb
        have hy : yielded ops.toArray a.tmps j = none := by
          have h1 := hk.look d _ hb
          rw [dstOf_eq] at hd
          unfold yielded
          simp [hd, h1]
        have hw : Region.wanted o (yielded ops.toArray a.tmps) = false := by
          simp only [Region.wanted, hg, hy]
          rfl
        exact ⟨undef, .inr ⟨hw, rfl⟩, setK_sound hk h⟩
      · exact h.elim
    · exact h.elim

theorem vmix_sound {P : Program} {N : Nat} {S : World → Prop} {l : List Oper} {n : Nat} {tail : Env → World → Prop} {Q : Exit → Act → World → Prop} (hQ : ∀ c a d v w, Q (.panic c) (a.put d v) w → Q (.panic c) a w)
    (hsel : Region.noSelect l.toArray = true) (hs : Region.sinkB .any l.toArray n = true) (hc : Region.chainB .any l.toArray n = true) (hn : n < l.toArray.size) :
    ∀ (ord : List (Nat × Bool)) (listed : Array Bool) (e : Env) (a : Act) (w : World), mixB .any l.toArray n (l.toArray.size - n) ord listed = true → HeadInv .any l.toArray n listed → Knows N e a → S w → vmix P N S l tail ord e w →
      wpAnyT P .any l.toArray Q S n (fun listed' a' w' => Region.seqB .any l.toArray (l.toArray.size - n) n listed' = true ∧ ∃ e', Knows N e' a' ∧ tail e' w') ord.length listed a w
  | [], listed, e, a, w, hB, _, hk, _, h => ⟨hB, e, hk, h⟩
  | (i, true) :: r, listed, e, a, w, hB, inv, hk, hS, h => by
    simp only [mixB, Bool.and_eq_true, decide_eq_true_eq] at hB
    obtain ⟨⟨⟨hin, hr⟩, hf⟩, hB'⟩ := hB
    rw [vmix_cons] at h
    unfold vmixStep at h
    simp only [] at h
    rw [opAt_eq] at h
    split at h
    · rename_i o ho
      have ho' : l.toArray[i]? = some o := by simpa using ho
      have hr' : i ∈ Region.ready .any l.toArray listed := by simpa using hr
      obtain ⟨v, hy, e', hk', h'⟩ := qGuard_sound hk h
      exact wpAnyT_first ho' (Region.noSelect_spec hsel) hs hc hn hin (fun listed' a' w' hL => seqB_ready hL.1) (fun c a w => hQ c a _ _ w) r.length listed a w inv (Region.free_spec ho' hf) hr' hy hS
        (vmix_sound hQ hsel hs hc hn r _ e' _ w hB' (inv.set hr' hin) hk' hS h')
    · exact h.elim
  | (i, false) :: r, listed, e, a, w, hB, inv, hk, hS, h => by
    simp only [mixB, Bool.and_eq_true, decide_eq_true_eq] at hB
    obtain ⟨⟨hin, hr⟩, hB'⟩ := hB
    have hr' : i ∈ Region.ready .any l.toArray listed := by rw [hr]; simp
    rw [vmix_cons] at h
    unfold vmixStep at h
    simp only [] at h
    rw [opAt_eq] at h
    split at h
    · rename_i o ho
      have ho' : l.toArray[i]? = some o := by simpa using ho
      split at h
      · rename_i hg
        refine wpAnyT_only hr hin ?_
        unfold wpOp
        simp only [ho']
        rw [if_pos (by simp [Region.wanted, hg])]
        refine .inl (Oper.wp_mono ?_ (vcOp_sound (Q := Q) hk h))
        rintro a' w' ⟨v, rfl, hS', h2⟩
        obtain ⟨e', hk', h3⟩ := setK_sound hk h2
        exact ⟨hS', vmix_sound hQ hsel hs hc hn r _ e' _ w' hB' (inv.set hr' hin) hk' hS' h3⟩
      · rename_i j want hg
        have skipped : ∀ e1, Knows N e1 a → Region.wanted o (yielded l.toArray a.tmps) = false → (setK N e1 o.dst undef fun e' => vmix P N S l tail r e' w) → wpOp P l.toArray Q i (fun a' w' => S w' ∧ wpAnyT P .any l.toArray Q S n (fun listed' a' w' => Region.seqB .any l.toArray (l.toArray.size - n) n listed' = true ∧ ∃ e', Knows N e' a' ∧ tail e' w') r.length (listed.setIfInBounds i true) a' w') a w := by
          intro e1 hk1 hw h1
          unfold wpOp
          simp only [ho', hw, Bool.false_eq_true, if_false]
          obtain ⟨e', hk', h3⟩ := setK_sound hk1 h1
          exact ⟨hS, vmix_sound hQ hsel hs hc hn r _ e' _ w hB' (inv.set hr' hin) hk' hS h3⟩
        have done : ∀ e1, Knows N e1 a → Region.wanted o (yielded l.toArray a.tmps) = true → vcOp P e1 o (fun v w' => S w' ∧ setK N e1 o.dst v fun e' => vmix P N S l tail r e' w') w → wpOp P l.toArray Q i (fun a' w' => S w' ∧ wpAnyT P .any l.toArray Q S n (fun listed' a' w' => Region.seqB .any l.toArray (l.toArray.size - n) n listed' = true ∧ ∃ e', Knows N e' a' ∧ tail e' w') r.length (listed.setIfInBounds i true) a' w') a w := by
          intro e1 hk1 hw h1
          unfold wpOp
          simp only [ho', hw, if_true]
          refine .inl (Oper.wp_mono ?_ (vcOp_sound (Q := Q) hk1 h1))
          rintro a' w' ⟨v, rfl, hS', h2⟩
          obtain ⟨e', hk', h3⟩ := setK_sound hk1 h2
          exact ⟨hS', vmix_sound hQ hsel hs hc hn r _ e' _ w' hB' (inv.set hr' hin) hk' hS' h3⟩
        refine wpAnyT_only hr hin ?_
        split at h
        · rename_i d hd
          split at h
          · rename_i b hb
            have hy : yielded l.toArray a.tmps j = some b := by
              have h1 := hk.look d _ hb
              rw [dstOf_eq] at hd
              unfold yielded
              simp [hd, h1]
            have hw : Region.wanted o (yielded l.toArray a.tmps) = (b == want) := by
              simp only [Region.wanted, hg, hy]
              cases b <;> cases want <;> rfl
            have hkb : ∀ b', b = b' → Knows N ((d, .bool b') :: e) a := fun b' hbb => by
              subst hbb
              refine ⟨hk.defers, hk.size, fun t v hl => ?_⟩
              by_cases hdt : d = t
              · subst hdt; rw [look_cons_eq] at hl; cases hl; exact hk.look _ _ hb
              · rw [look_cons_ne hdt] at hl; exact hk.look _ _ hl
            cases want with
            | true =>
              cases b with
              | true => exact done _ (hkb true rfl) (by rw [hw]; rfl) h
              | false => exact skipped _ (hkb false rfl) (by rw [hw]; rfl) h
            | false =>
              cases b with
              | true => exact skipped _ (hkb true rfl) (by rw [hw]; rfl) h
              | false => exact done _ (hkb false rfl) (by rw [hw]; rfl) h
          · rename_i u hb
            have hy : yielded l.toArray a.tmps j = none := by
              have h1 := hk.look d _ hb
              rw [dstOf_eq] at hd
              unfold yielded
              simp [hd, h1]
            exact skipped _ hk (by simp only [Region.wanted, hg, hy]; rfl) h
          · exact h.elim
        · exact h.elim
    · exact h.elim

theorem draw_mix {P : Program} {N : Nat} {e : Env} {w : World} {Q : Env → World → Prop} [Mixed P] {l : List Oper} (n : Nat) (ord : List (Nat × Bool)) (S : World → Prop) (hB : mixAll l.toArray n ord = true) (hS : S w.drew)
    (h : vmix P N S l (fun e' w' => vcOps P N l Q (l.drop n) e' w') ord e w.drew) : DrawP P N l.toArray Q e w := by
  refine ⟨fun id a hk => ?_⟩
  simp only [mixAll, Bool.and_eq_true, decide_eq_true_eq] at hB
  obtain ⟨⟨⟨⟨⟨hsel, hn⟩, hlen⟩, hs⟩, hc⟩, hmix⟩ := hB
  have inv0 : HeadInv .any l.toArray n (Array.replicate l.toArray.size false) :=
    ⟨by simp, fun j oj _ hl => (by rw [getD_replicate_false] at hl; cases hl), fun t _ ht => getD_in (by simpa using ht) (getD_replicate_false _ _)⟩
  have H := vmix_sound (Q := fun x a' w' => x = .normal ∧ ∃ e', Knows N e' a' ∧ Q e' w') (fun c a d v w h => by cases h.1) hsel hs hc hn ord _ e a w.drew hmix inv0 hk hS h
  refine wp_region_any Mixed.h ?_
  have hd : (l.drop n).length = l.toArray.size - n := by simp
  have := wpAny_of_T (g := l.toArray.size - n) (fun listed' a' w' hL => by
    obtain ⟨h1, e', hk', h2⟩ := hL
    rw [← hd] at h1 ⊢
    exact wpAny_of_seq (l.drop n) n listed' a' w' (fun j => by simp) h1 (vcOps_sound (Q' := fun x a' w' => x = .normal ∧ ∃ e', Knows N e' a' ∧ Q e' w') _ e' a' w' hk' (fun e a w hk hq => ⟨rfl, e, hk, hq⟩) h2)) _ _ _ _ H
  have hsz : ord.length + (l.toArray.size - n) = l.toArray.size := by omega
  rw [hsz] at this
  exact this
end Go.Proofs.Ytklbeipdigancaa
