/- Regions that draw their order: one walk in the order of the text serves every order. -/
import Derived.Test.YtklbeipdigancaaV3
namespace Go.Proofs.Ytklbeipdigancaa
open Go.RowKit

/-- in every world of the class: the value, and the world as it was -/
structure RunQ (P : Program) (C : World → Prop) (s : Sem Value) (K : Value → Prop) : Prop where
  h : ∃ v, (∀ w, C w → s.run P w = .ok v w) ∧ K v
structure CallQ (P : Program) (C : World → Prop) (f : FuncId) (args : Array Value) (K : Value → Prop) : Prop where
  h : ∃ v, (∀ w, C w → ((callFunc f args).run P w = .ok (.enter f args) w ∧ Calls P f args w fun e w' => e = .returned v ∧ C w')) ∧ K v
structure ValQ (k : IntKind) (n : Int) (K : Value → Prop) : Prop where
  h : K (.int k n)

def vqBin (P : Program) (C : World → Prop) (op : BinOp) (t : TypeId) (x y : Operand) (a b : Value) (K : Value → Prop) : Prop :=
  match a, b with
  | .int k m, .int k' n =>
    (match decEq k k' with
    | .isTrue _ =>
      (match cmpOf op m n with
      | some r => K (.bool r)
      | none => (match arithOf op m n with
        | some r => ValQ k (k.wrap r) K
        | none => RunQ P C (binSem op t x y a b) K))
    | .isFalse _ => RunQ P C (binSem op t x y a b) K)
  | .string m, .string n =>
    (match scmpOf op m n with
    | some r => K (.bool r)
    | none => RunQ P C (binSem op t x y a b) K)
  | _, _ => RunQ P C (binSem op t x y a b) K
def vqUn (P : Program) (C : World → Prop) (op : UnOp) (a : Value) (K : Value → Prop) : Prop :=
  match op, a with
  | .not, .bool b => K (.bool !b)
  | _, _ => RunQ P C (Op.unary op a) K
def vqNil (a : Value) (K : Value → Prop) : Prop :=
  match a with
  | .pointer (some p) => K (.pointer (some p))
  | .func (.func f) x y => K (.func (.func f) x y)
  | _ => False
def vqCall (P : Program) (C : World → Prop) (f : Value) (l : List Value) (K : Value → Prop) : Prop :=
  match f with
  | .func (.func f) x y => CallQ P C f (x ++ l.toArray ++ y) K
  | _ => False
def vqOp (P : Program) (C : World → Prop) (e : Env) (o : Oper) (K : Value → Prop) : Prop :=
  match o.op with
  | .move x => ev e x fun v => K v
  | .assign x => ev e x fun v => K v
  | .pick c x y => ev e c fun vc => ev e x fun vx => ev e y fun vy => (match vc with | .bool b => (Bool.rec (motive := fun _ => Prop) (K vy) (K vx) b : Prop) | _ => False)
  | .build t ps => evp e ps.toList fun l => RunQ P C (Instr.build t l.toArray) K
  | .load t x => ev e x fun v => RunQ P C (Instr.loadAt t v) K
  | .nilCheck x => ev e x fun v => vqNil v K
  | .binOp op t x y _ => ev e x fun a => ev e y fun b => vqBin P C op t x y a b K
  | .unOp op _ x => ev e x fun a => vqUn P C op a K
  | .convert s d x => ev e x fun v => RunQ P C (convert s d v) K
  | .slice t x lo hi mx => ev e x fun v => evo e lo fun a => evo e hi fun b => evo e mx fun c => RunQ P C (Instr.sliceAt t v a b c) K
  | .fieldAddr s x f => ev e x fun v => RunQ P C (Instr.fieldAt s v f) K
  | .field s x f => ev e x fun v => RunQ P C (Instr.field s v f) K
  | .indexAddr t x i => ev e x fun v => ev e i fun n => RunQ P C (Instr.indexAt t v n) K
  | .index t x i => ev e x fun v => ev e i fun n => RunQ P C (Instr.index t v n) K
  | .extract x i => ev e x fun v => (match v with
      | .tuple vs => (match nthV vs.toList i with | some u => K u | none => False)
      | _ => False)
  | .call c => (match c.callee with
      | .value f => ev e f fun fv => evs e c.args.toList fun l => vqCall P C fv l K
      | .builtin b => evs e c.args.toList fun l => (match builtinSem b c.argTypes o.type l.toArray with | some s => RunQ P C s K | none => False)
      | .invoke _ _ => False)
  | _ => False

def vqStep (P : Program) (N : Nat) (C : World → Prop) (ops : List Oper) (o : Oper) (e : Env) (next : Env → Prop) : Prop :=
  match o.guard with
  | none => vqOp P C e o (fun v => setK N e o.dst v fun e' => next e')
  | some (j, want) =>
    (match dstOf ops j with
    | some d => (match look e d with
      | some (.bool b) =>
        (match want with
        | true => (Bool.rec (motive := fun _ => Prop) (setK N ((d, .bool false) :: e) o.dst undef fun e' => next e') (vqOp P C ((d, .bool true) :: e) o (fun v => setK N ((d, .bool true) :: e) o.dst v fun e' => next e')) b : Prop)
        | false => (Bool.rec (motive := fun _ => Prop) (vqOp P C ((d, .bool false) :: e) o (fun v => setK N ((d, .bool false) :: e) o.dst v fun e' => next e')) (setK N ((d, .bool true) :: e) o.dst undef fun e' => next e') b : Prop))
      | some (.tuple _) => setK N e o.dst undef fun e' => next e'
      | _ => False)
    | none => False)
noncomputable def vqOps (P : Program) (N : Nat) (C : World → Prop) (ops : List Oper) (Q : Env → Prop) (l : List Oper) : Env → Prop :=
  List.rec (motive := fun _ => Env → Prop) Q (fun o _ next e => vqStep P N C ops o e next) l
theorem vqOps_cons {P : Program} {N : Nat} {C : World → Prop} {ops : List Oper} {Q : Env → Prop} {o : Oper} {rest : List Oper} {e : Env} : vqOps P N C ops Q (o :: rest) e = vqStep P N C ops o e (vqOps P N C ops Q rest) := rfl

/-- what such an operation comes to -/
def Comes2 (P : Program) (C : World → Prop) (s : Sem Next) (K : Value → Prop) : Prop := ∃ v, (∀ w, C w → s.run P w = .ok (.value v) w) ∧ K v

theorem comes2_pure {P : Program} {C : World → Prop} {K : Value → Prop} {s : Sem Next} (v : Value) (hs : ∀ w, s.run P w = .ok (.value v) w) (h : K v) : Comes2 P C s K := ⟨v, fun w _ => hs w, h⟩
theorem RunQ.comes {P : Program} {C : World → Prop} {s : Sem Value} {K : Value → Prop} (h : RunQ P C s K) : Comes2 P C (do pure (Next.value (← s))) K := by
  obtain ⟨v, h1, h2⟩ := h.h
  exact ⟨v, fun w hw => run_v (h1 w hw), h2⟩

theorem vqBin_comes {P : Program} {C : World → Prop} {op : BinOp} {t : TypeId} {x y : Operand} {a b : Value} {K : Value → Prop} (h : vqBin P C op t x y a b K) :
    Comes2 P C (do pure (Next.value (← (do eqGuard op t x y a b; binOp op t a b)))) K := by
  unfold vqBin at h
  split at h
  · rename_i k m k' n
    split at h
    · rename_i hk _
      subst hk
      split at h
      · rename_i r hr
        refine comes2_pure (.bool r) (fun w => run_v ?_) h
        unfold cmpOf at hr
        split at hr <;> first | (cases hr; simp [eqGuard, binOp, Op.intCmp]) | (cases hr)
      · split at h
        · rename_i r hr
          refine comes2_pure (.int k (k.wrap r)) (fun w => run_v ?_) h.h
          unfold arithOf at hr
          split at hr <;> first | (cases hr; simp [eqGuard, binOp, Op.intArith]) | (cases hr)
        · exact RunQ.comes h
    · exact RunQ.comes h
  · rename_i m n
    split at h
    · rename_i r hr
      refine comes2_pure (.bool r) (fun w => run_v ?_) h
      unfold scmpOf at hr
      split at hr <;> first | (cases hr; simp [eqGuard, binOp, Op.stringOp]) | (cases hr)
    · exact RunQ.comes h
  · exact RunQ.comes h

def plainB (o : Oper) : Bool :=
  match o.op with
  | .call c => (match c.callee with | .value _ => false | _ => true)
  | _ => true
theorem vqOp_plain {P : Program} {N : Nat} {C : World → Prop} {e : Env} {a : Act} {o : Oper} {K : Value → Prop} (hk : Knows N e a) (hp : plainB o = true) (h : vqOp P C e o K) : Comes2 P C (execOp a.eval o) K := by
  unfold vqOp at h
  unfold execOp
  split at h <;> rename_i ho <;> simp only [ho]
  case h_1 x => exact comes2_pure _ (fun w => rfl) (ev_sound hk (K := fun v => K v) h)
  case h_2 x => exact comes2_pure _ (fun w => rfl) (ev_sound hk (K := fun v => K v) h)
  case h_3 c x y =>
    have h1 := ev_sound hk (K := fun vc => ev e x fun vx => ev e y fun vy => (match vc with | .bool b => (Bool.rec (motive := fun _ => Prop) (K vy) (K vx) b : Prop) | _ => False)) h
    have h2 := ev_sound hk (K := fun vx => ev e y fun vy => (match a.eval c with | .bool b => (Bool.rec (motive := fun _ => Prop) (K vy) (K vx) b : Prop) | _ => False)) h1
    have h3 := ev_sound hk (K := fun vy => (match a.eval c with | .bool b => (Bool.rec (motive := fun _ => Prop) (K vy) (K (a.eval x)) b : Prop) | _ => False)) h2
    split at h3
    · rename_i b hb
      refine comes2_pure (if b then a.eval x else a.eval y) (fun w => by simp [hb, asBool]) ?_
      cases b with
      | true => exact h3
      | false => exact h3
    · exact h3.elim
  case h_4 t ps =>
    have h1 := evp_sound hk (K := fun l => RunQ P C (Instr.build t l.toArray) K) h
    have e1 : (ps.map fun x => match x with | (i, x) => (i, a.eval x)) = (ps.toList.map fun (i, x) => (i, a.eval x)).toArray := by
      apply Array.ext'; simp
    rw [e1]
    exact h1.comes
  case h_5 t x => exact (ev_sound hk (K := fun v => RunQ P C (Instr.loadAt t v) K) h).comes
  case h_6 x =>
    have h1 := ev_sound hk (K := fun v => vqNil v K) h
    generalize a.eval x = v at h1
    unfold vqNil at h1
    split at h1
    · exact comes2_pure _ (fun w => rfl) h1
    · exact comes2_pure _ (fun w => rfl) h1
    · exact h1.elim
  case h_7 op t x y _ =>
    have h1 := ev_sound hk (K := fun va => ev e y fun vb => vqBin P C op t x y va vb K) h
    exact vqBin_comes (ev_sound hk (K := fun vb => vqBin P C op t x y (a.eval x) vb K) h1)
  case h_8 op _ x =>
    have h1 := ev_sound hk (K := fun va => vqUn P C op va K) h
    generalize a.eval x = v at h1
    unfold vqUn at h1
    split at h1
    · rename_i b
      exact comes2_pure (.bool !b) (fun w => run_v (by simp [Op.unary])) h1
    · exact h1.comes
  case h_9 s d x => exact (ev_sound hk (K := fun v => RunQ P C (convert s d v) K) h).comes
  case h_10 t x lo hi mx =>
    have h1 := ev_sound hk (K := fun v => evo e lo fun a => evo e hi fun b => evo e mx fun c => RunQ P C (Instr.sliceAt t v a b c) K) h
    have h2 := evo_sound hk (K := fun vl => evo e hi fun b => evo e mx fun c => RunQ P C (Instr.sliceAt t (a.eval x) vl b c) K) h1
    have h3 := evo_sound hk (K := fun vh => evo e mx fun c => RunQ P C (Instr.sliceAt t (a.eval x) (lo.map a.eval) vh c) K) h2
    exact (evo_sound hk (K := fun vm => RunQ P C (Instr.sliceAt t (a.eval x) (lo.map a.eval) (hi.map a.eval) vm) K) h3).comes
  case h_11 s x f => exact (ev_sound hk (K := fun v => RunQ P C (Instr.fieldAt s v f) K) h).comes
  case h_12 s x f => exact (ev_sound hk (K := fun v => RunQ P C (Instr.field s v f) K) h).comes
  case h_13 t x i =>
    have h1 := ev_sound hk (K := fun v => ev e i fun n => RunQ P C (Instr.indexAt t v n) K) h
    exact (ev_sound hk (K := fun n => RunQ P C (Instr.indexAt t (a.eval x) n) K) h1).comes
  case h_14 t x i =>
    have h1 := ev_sound hk (K := fun v => ev e i fun n => RunQ P C (Instr.index t v n) K) h
    exact (ev_sound hk (K := fun n => RunQ P C (Instr.index t (a.eval x) n) K) h1).comes
  case h_15 x i =>
    have h1 := ev_sound hk (K := fun v => (match v with
      | .tuple vs => (match nthV vs.toList i with | some u => K u | none => False)
      | _ => False)) h
    generalize a.eval x = v at h1
    split at h1
    · split at h1
      · rename_i u hu
        rw [nthV_eq] at hu
        simp only [Array.getElem?_toList] at hu
        exact comes2_pure u (fun w => run_v (by simp [Instr.extract, hu])) h1
      · exact h1.elim
    · exact h1.elim
  case h_16 c =>
    have e1 : ∀ z : Array Operand, z.map a.eval = (z.toList.map a.eval).toArray := fun z => by apply Array.ext'; simp
    split at h
    · rename_i f hf
      simp [plainB, ho, hf] at hp
    · rename_i b hb
      have h1 := evs_sound hk (K := fun l => (match builtinSem b c.argTypes o.type l.toArray with | some s => RunQ P C s K | none => False)) h
      rw [← e1] at h1
      split at h1
      · rename_i s hs
        have e2 : ((do let d ← resolve a.eval c o.type; invoke d.target d.args) : Sem Next) = (do pure (Next.value (← s))) := by
          simp only [resolve, hb]
          show builtin b c.argTypes o.type _ (c.args.map a.eval) = _
          unfold builtinSem at hs
          split at hs <;> first | (cases hs; rfl) | (cases hs)
        rw [e2]
        exact h1.comes
      · exact h1.elim
    · exact h.elim
  case h_17 => exact h.elim

theorem vqOp_sound {P : Program} {N : Nat} {C : World → Prop} {e : Env} {a : Act} {o : Oper} {K : Value → Prop} (hk : Knows N e a) (h : vqOp P C e o K) : ∃ v, (∀ w, C w → o.quietAt P a C w v) ∧ K v := by
  by_cases hp : plainB o = true
  · obtain ⟨v, h1, h2⟩ := vqOp_plain hk hp h
    exact ⟨v, fun w hw => (by unfold Oper.quietAt; rw [h1 w hw]; exact ⟨rfl, rfl⟩), h2⟩
  · have e1 : ∀ z : Array Operand, z.map a.eval = (z.toList.map a.eval).toArray := fun z => by apply Array.ext'; simp
    unfold plainB at hp
    split at hp
    · rename_i c hc
      split at hp
      · rename_i f hf
        unfold vqOp at h
        simp only [hc, hf] at h
        have h1 := ev_sound hk (K := fun fv => evs e c.args.toList fun l => vqCall P C fv l K) h
        have h2 := evs_sound hk (K := fun l => vqCall P C (a.eval f) l K) h1
        unfold vqCall at h2
        split at h2
        · rename_i g x y hg
          have e2 : execOp a.eval o = callFunc g (x ++ (c.args.toList.map a.eval).toArray ++ y) := by
            unfold execOp
            simp only [hc, resolve, hf, hg, Deferred.ofValue]
            show invoke (.fn (.func g) y) (x ++ c.args.map a.eval) = _
            rw [e1]
            rfl
          obtain ⟨v, h3, h4⟩ := h2.h
          refine ⟨v, fun w hw => ?_, h4⟩
          unfold Oper.quietAt
          rw [e2, (h3 w hw).1]
          exact ⟨rfl, (h3 w hw).2⟩
        · exact h2.elim
      · simp at hp
    · simp at hp

theorem vqOps_sound {P : Program} {N : Nat} {C : World → Prop} {ops : List Oper} {Q : Env → Prop} {Q' : Act → Prop} (hQ : ∀ e a, Knows N e a → Q e → Q' a) : ∀ (l : List Oper) (e : Env) (a : Act), Knows N e a → vqOps P N C ops Q l e → wpQuiet P ops.toArray C Q' l a
  | [], e, a, hk, h => wpQuiet_nil (hQ e a hk h)
  | o :: rest, e, a, hk, h => by
    have step : ∀ (_ : vqOp P C e o (fun v => setK N e o.dst v fun e' => vqOps P N C ops Q rest e')), o.quiet P a C (wpQuiet P ops.toArray C Q' rest) := fun h1 => by
      obtain ⟨v, h2, h3⟩ := vqOp_sound hk h1
      obtain ⟨e', hk', h4⟩ := setK_sound hk h3
      exact ⟨v, h2, vqOps_sound hQ rest e' _ hk' h4⟩
    rw [vqOps_cons] at h
    unfold vqStep at h
    unfold wpQuiet
    split at h
    · rename_i hg
      rw [if_pos (by simp [Region.wanted, hg])]
      exact step h
    · rename_i j want hg
      split at h
      · rename_i d hd
        split at h
        · rename_i b hb
          have hy : yielded ops.toArray a.tmps j = some b := by
            have h1 := hk.look d _ hb
            rw [dstOf_eq] at hd
            unfold yielded
            simp [hd, h1]
          have hw : Region.wanted o (yielded ops.toArray a.tmps) = (b == want) := by
            simp only [Region.wanted, hg, hy]
            cases b <;> cases want <;> rfl
          rw [hw]
          have hkb : ∀ b', b = b' → Knows N ((d, .bool b') :: e) a := fun b' hbb => by
            subst hbb
            refine ⟨hk.defers, hk.size, fun t v hl => ?_⟩
            by_cases hdt : d = t
            · subst hdt; rw [look_cons_eq] at hl; cases hl; exact hk.look _ _ hb
            · rw [look_cons_ne hdt] at hl; exact hk.look _ _ hl
          have yes : ∀ b', b = b' → vqOp P C ((d, .bool b') :: e) o (fun v => setK N ((d, .bool b') :: e) o.dst v fun e' => vqOps P N C ops Q rest e') → o.quiet P a C (wpQuiet P ops.toArray C Q' rest) := fun b' hbb h1 => by
            obtain ⟨v, h2, h3⟩ := vqOp_sound (hkb b' hbb) h1
            obtain ⟨e', hk', h4⟩ := setK_sound (hkb b' hbb) h3
            exact ⟨v, h2, vqOps_sound hQ rest e' _ hk' h4⟩
          have no : ∀ b', b = b' → (setK N ((d, .bool b') :: e) o.dst undef fun e' => vqOps P N C ops Q rest e') → wpQuiet P ops.toArray C Q' rest (a.put o.dst undef) := fun b' hbb h1 => by
            obtain ⟨e', hk', h3⟩ := setK_sound (hkb b' hbb) h1
            exact vqOps_sound hQ rest e' _ hk' h3
          cases want with
          | true =>
            cases b with
            | true => rw [if_pos (by simp)]; exact yes true rfl h
            | false => rw [if_neg (by simp)]; exact no false rfl h
          | false =>
            cases b with
            | true => rw [if_neg (by simp)]; exact no true rfl h
            | false => rw [if_pos (by simp)]; exact yes false rfl h
        · rename_i u hb
          have hy : yielded ops.toArray a.tmps j = none := by
            have h1 := hk.look d _ hb
            rw [dstOf_eq] at hd
            unfold yielded
            simp [hd, h1]
          have hw : Region.wanted o (yielded ops.toArray a.tmps) = false := by
            simp only [Region.wanted, hg, hy]
            rfl
          rw [hw, if_neg (by simp)]
          obtain ⟨e', hk', h3⟩ := setK_sound hk h
          exact vqOps_sound hQ rest e' _ hk' h3
        · exact h.elim
      · exact h.elim

theorem wpStill_of_quiet {P : Program} {ops : Array Oper} {w : World} {Q : Act → Prop} : ∀ (l : List Oper) (a : Act), wpQuiet P ops (· = w) Q l a → wpStill P ops w Q l a
  | [], _, h => h
  | o :: rest, a, h => by
    unfold wpQuiet at h
    unfold wpStill
    split at h
    · rename_i hw
      rw [if_pos hw]
      obtain ⟨v, h1, h2⟩ := h
      have h3 := h1 w rfl
      unfold Oper.quietAt at h3
      unfold Oper.still
      generalize (execOp a.eval o).run P w = r at *
      cases r with
      | ok n w' =>
        cases n <;> simp only [Oper.quietUpon] at h3 <;> simp only [Oper.stillUpon]
        case value u => obtain ⟨rfl, rfl⟩ := h3; exact ⟨rfl, wpStill_of_quiet rest _ h2⟩
        case skip => obtain ⟨rfl, rfl⟩ := h3; exact ⟨rfl, wpStill_of_quiet rest _ h2⟩
        case enter f args => exact ⟨h3.1, v, h3.2, wpStill_of_quiet rest _ h2⟩
      | halt x w' => simp only [Oper.quietUpon] at h3
    · rename_i hw
      rw [if_neg hw]
      exact wpStill_of_quiet rest _ h

class Mixed (P : Program) : Prop where
  h : P.follows .mixedOrders = true

section
variable {P : Program} {N : Nat} {e : Env} {w : World} {Q : Env → World → Prop}
/-- every operation only reads, or calls what leaves the class of worlds as it is -/
theorem draw_all [Mixed P] {l : List Oper} (C : World → Prop) (hB : Region.lexB .any l.toArray = true) (hC : C w.drew) (h : vqOps P N C l (fun e' => ∀ w', C w' → Q e' w') l e) : DrawP P N l.toArray Q e w :=
  ⟨fun id a hk => wp_region_quiet (C := C) Mixed.h hB hC (by
    have := vqOps_sound (Q' := fun a' => ∀ w', C w' → (Exit.normal = .normal ∧ ∃ e', Knows N e' a' ∧ Q e' w')) (fun e' a' hk' hq w' hw' => ⟨rfl, e', hk', hq w' hw'⟩) l e a hk h
    simpa using this)⟩
/-- .. and then some in one order -/
theorem draw_tail [Mixed P] {l : List Oper} (n : Nat) (hB : Region.lexTailB .any l.toArray n = true) (h : vqOps P N (· = w.drew) l (fun e' => vcOps P N l Q (l.drop n) e' w.drew) (l.take n) e) : DrawP P N l.toArray Q e w :=
  ⟨fun id a hk => wp_region_still_tail n Mixed.h hB (wpStill_of_quiet _ _ (vqOps_sound (fun e' a' hk' hq => vcOps_sound _ e' a' _ hk' (fun e a w hk hq => ⟨rfl, e, hk, hq⟩) hq) _ e a hk h))⟩
end

section
variable {P : Program} {C : World → Prop} {K : Value → Prop}
theorem rq {s : Sem Value} (v : Value) (h : ∀ w, C w → RunP P s (fun v' w' => v' = v ∧ w' = w) w) (k : K v) : RunQ P C s K :=
  ⟨⟨v, fun w hw => let ⟨_, _, h1, h2, h3⟩ := (h w hw).h; by rw [h1, h2, h3], k⟩⟩
theorem q_fa {s f off b o : Nat} [FOff P s f off] (k : K (.pointer (some ⟨b, o + off, none⟩))) : RunQ P C (Instr.fieldAt s (.pointer (some ⟨b, o, none⟩)) f) K := rq _ (fun _ _ => fa ⟨rfl, rfl⟩) k
theorem q_ld {t : Nat} [One P t] {a : Addr} {v : Value} (h : ∀ w, C w → w.cell? a = some v) (k : K v) : RunQ P C (Instr.loadAt t (.pointer (some a))) K := rq _ (fun w hw => ld (h w hw) ⟨rfl, rfl⟩) k
theorem q_ix {t e n : Nat} [SlT P t e n] {b o len cap : Nat} {k' : IntKind} {i : Int} (j : Nat) (hi : i = (j : Int)) (hj : j < len) (k : K (.pointer (some ⟨b, o + j * n, none⟩))) :
    RunQ P C (Instr.indexAt t (.slice (some ⟨b, o, none⟩) len cap) (.int k' i)) K := rq _ (fun _ _ => ix j hi hj ⟨rfl, rfl⟩) k
theorem q_len {t e n ty : Nat} [SlT P t e n] {a : Option Addr} {len cap : Nat} (k : K (.int .i64 len)) : RunQ P C (Builtin.len_ #[t] ty #[.slice a len cap]) K := rq _ (fun _ _ => len_sl ⟨rfl, rfl⟩) k
theorem q_lens {t ty : Nat} [StrT P t] {s : ByteArray} (k : K (.int .i64 s.size)) : RunQ P C (Builtin.len_ #[t] ty #[.string s]) K := rq _ (fun _ _ => len_str ⟨rfl, rfl⟩) k
theorem q_ar64 {n : Int} (h : -9223372036854775808 ≤ n ∧ n ≤ 9223372036854775807) (k : K (.int .i64 n)) : ValQ .i64 (IntKind.i64.wrap n) K := ⟨by rw [IntWalk.i64_in n h]; exact k⟩
theorem q_arU {n : Int} (h : 0 ≤ n ∧ n ≤ 18446744073709551615) (k : K (.int .u64 n)) : ValQ .u64 (IntKind.u64.wrap n) K := ⟨by rw [IntKind.wrap_u64, Int.emod_eq_of_lt h.1 (by omega)]; exact k⟩
theorem q_val {k' : IntKind} {n : Int} (m : Int) (h : n = m) (k : K (.int k' m)) : ValQ k' n K := ⟨h ▸ k⟩
theorem q_cl {f : Nat} {args : Array Value} [HasBody P f] (v : Value) (h : ∀ w, C w → Fn P f args w fun r w' => r = v ∧ C w') (k : K v) : CallQ P C f args K :=
  ⟨⟨v, fun w hw => ⟨HasBody.h args w, (h w hw).mono fun _ _ ⟨u, he, hu, hc⟩ => ⟨by rw [he, hu], hc⟩⟩, k⟩⟩
theorem q_hi {t e n : Nat} [SlT P t e n] {a : Option Addr} {len cap : Nat} {k' : IntKind} {i : Int} (j : Nat) (hi : i = (j : Int)) (hj : j ≤ cap) (k : K (.slice a j cap)) :
    RunQ P C (Instr.sliceAt t (.slice a len cap) none (some (.int k' i)) none) K := rq _ (fun _ _ => sl_hi j hi hj ⟨rfl, rfl⟩) k
end
end Go.Proofs.Ytklbeipdigancaa
