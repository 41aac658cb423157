/- A reader for functions that range over functions, and for the rounds of such loops. -/
import Derived.Test.YtaogmfmphamplaaV18
import Derived.Test.YtaogmfmphamplaaFa
import Derived.RangeFuncLeaves
import Derived.RangeFuncMany
import Derived.TacticsIn
namespace Go.Proofs.Ytaogmfmphamplaa
open Go.RowKit
theorem vcOp_comes {P : Program} {N : Nat} {e : Env} {a : Act} {o : Oper} {K : Value → World → Prop} {w : World} (hk : Knows N e a) (h : vcOp P e o K w) : Comes1 P (execOp a.eval o) K w := by
  unfold vcOp at h
  unfold execOp
  split at h <;> rename_i ho <;> simp only [ho]
  case h_1 x => exact .inl ⟨_, w, rfl, ev_sound hk (K := fun v => K v w) h⟩
  case h_2 x => exact .inl ⟨_, w, rfl, ev_sound hk (K := fun v => K v w) h⟩
  case h_3 c x y =>
    have h1 := ev_sound hk (K := fun vc => ev e x fun vx => ev e y fun vy => (match vc with | .bool b => (Bool.rec (motive := fun _ => Prop) (K vy w) (K vx w) b : Prop) | _ => False)) h
    have h2 := ev_sound hk (K := fun vx => ev e y fun vy => (match a.eval c with | .bool b => (Bool.rec (motive := fun _ => Prop) (K vy w) (K vx w) b : Prop) | _ => False)) h1
    have h3 := ev_sound hk (K := fun vy => (match a.eval c with | .bool b => (Bool.rec (motive := fun _ => Prop) (K vy w) (K (a.eval x) w) b : Prop) | _ => False)) h2
    split at h3
    · rename_i b hb
      refine .inl ⟨if b then a.eval x else a.eval y, w, by simp [hb, asBool], ?_⟩
      cases b with
      | true => exact h3
      | false => exact h3
    · exact h3.elim
  case h_4 t => exact h.comes
  case h_5 t x => exact (ev_sound hk (K := fun v => RunP P (Instr.box t v) K w) h).comes
  case h_6 t ps =>
    have h1 := evp_sound hk (K := fun l => RunP P (Instr.build t l.toArray) K w) h
    have e1 : (ps.map fun x => match x with | (i, x) => (i, a.eval x)) = (ps.toList.map fun (i, x) => (i, a.eval x)).toArray := by
      apply Array.ext'; simp
    rw [e1]
    exact h1.comes
  case h_7 t n ps =>
    have h1 := evp_sound hk (K := fun l => RunP P (Instr.buildSlice t n l.toArray) K w) h
    have e1 : (ps.map fun x => match x with | (i, x) => (i, a.eval x)) = (ps.toList.map fun (i, x) => (i, a.eval x)).toArray := by
      apply Array.ext'; simp
    rw [e1]
    exact h1.comes
  case h_8 t x => exact (ev_sound hk (K := fun v => RunP P (Instr.loadAt t v) K w) h).comes
  case h_9 t x y =>
    have h1 := ev_sound hk (K := fun va => ev e y fun vx => RunU P (Instr.storeAt t va vx) (K undef) w) h
    exact (ev_sound hk (K := fun vx => RunU P (Instr.storeAt t (a.eval x) vx) (K undef) w) h1).comes fun _ h => h
  case h_10 x =>
    have h1 := ev_sound hk (K := fun v => vcNil P v K w) h
    generalize a.eval x = v at h1
    unfold vcNil at h1
    split at h1
    · exact .inl ⟨_, w, rfl, h1⟩
    · exact .inl ⟨_, w, rfl, h1⟩
    · exact h1.elim
  case h_11 op t x y _ =>
    have h1 := ev_sound hk (K := fun va => ev e y fun vb => vcBin P op t x y va vb K w) h
    exact vcBin_comes (ev_sound hk (K := fun vb => vcBin P op t x y (a.eval x) vb K w) h1)
  case h_12 op _ x => exact vcUn_comes (ev_sound hk (K := fun va => vcUn P op va K w) h)
  case h_13 s d x => exact (ev_sound hk (K := fun v => RunP P (convert s d v) K w) h).comes
  case h_14 t x => exact (ev_sound hk (K := fun v => RunP P (Instr.makeInterface t v) K w) h).comes
  case h_15 fn x y =>
    have h1 := evs_sound hk (K := fun lx => evs e y.toList fun ly => K (.func fn lx.toArray ly.toArray) w) h
    have h2 := evs_sound hk (K := fun ly => K (.func fn (x.toList.map a.eval).toArray ly.toArray) w) h1
    have e1 : ∀ z : Array Operand, z.map a.eval = (z.toList.map a.eval).toArray := fun z => by apply Array.ext'; simp
    rw [e1, e1]
    exact .inl ⟨_, w, run_v rfl, h2⟩
  case h_16 t x y =>
    have h1 := ev_sound hk (K := fun va => ev e y fun vb => RunP P (Instr.makeSlice t va vb) K w) h
    exact (ev_sound hk (K := fun vb => RunP P (Instr.makeSlice t (a.eval x) vb) K w) h1).comes
  case h_17 t x lo hi mx =>
    have h1 := ev_sound hk (K := fun v => evo e lo fun a => evo e hi fun b => evo e mx fun c => RunP P (Instr.sliceAt t v a b c) K w) h
    have h2 := evo_sound hk (K := fun vl => evo e hi fun b => evo e mx fun c => RunP P (Instr.sliceAt t (a.eval x) vl b c) K w) h1
    have h3 := evo_sound hk (K := fun vh => evo e mx fun c => RunP P (Instr.sliceAt t (a.eval x) (lo.map a.eval) vh c) K w) h2
    exact (evo_sound hk (K := fun vm => RunP P (Instr.sliceAt t (a.eval x) (lo.map a.eval) (hi.map a.eval) vm) K w) h3).comes
  case h_18 s x f => exact (ev_sound hk (K := fun v => RunP P (Instr.fieldAt s v f) K w) h).comes
  case h_19 s x f => exact (ev_sound hk (K := fun v => RunP P (Instr.field s v f) K w) h).comes
  case h_20 t x i =>
    have h1 := ev_sound hk (K := fun v => ev e i fun n => RunP P (Instr.indexAt t v n) K w) h
    exact (ev_sound hk (K := fun n => RunP P (Instr.indexAt t (a.eval x) n) K w) h1).comes
  case h_21 t x i =>
    have h1 := ev_sound hk (K := fun v => ev e i fun n => RunP P (Instr.index t v n) K w) h
    exact (ev_sound hk (K := fun n => RunP P (Instr.index t (a.eval x) n) K w) h1).comes
  case h_22 t x => exact (ev_sound hk (K := fun v => RunP P (Instr.range t v) K w) h).comes
  case h_23 x b => exact (ev_sound hk (K := fun v => RunP P (Instr.next v b o.type) K w) h).comes
  case h_24 x i =>
    have h1 := ev_sound hk (K := fun v => (match v with
      | .tuple vs => (match nthV vs.toList i with | some u => K u w | none => False)
      | _ => False)) h
    generalize a.eval x = v at h1
    split at h1
    · split at h1
      · rename_i u hu
        rw [nthV_eq] at hu
        have hu' : _ := hu
        exact .inl ⟨u, w, run_v (by simp only [Array.getElem?_toList] at hu'; simp [Instr.extract, hu']), h1⟩
      · exact h1.elim
    · exact h1.elim
  case h_25 c =>
    have e1 : ∀ z : Array Operand, z.map a.eval = (z.toList.map a.eval).toArray := fun z => by apply Array.ext'; simp
    split at h
    · rename_i f hf
      have h1 := ev_sound hk (K := fun fv => evs e c.args.toList fun l => vcCall P fv l K w) h
      have h2 := evs_sound hk (K := fun l => vcCall P (a.eval f) l K w) h1
      unfold vcCall at h2
      split at h2
      · rename_i g x y hg
        have e2 : ((do let d ← resolve a.eval c o.type; invoke d.target d.args) : Sem Next) = callFunc g (x ++ (c.args.toList.map a.eval).toArray ++ y) := by
          simp only [resolve, hf, hg, Deferred.ofValue]
          show invoke (.fn (.func g) y) (x ++ c.args.map a.eval) = _
          rw [e1]
          rfl
        rw [e2]
        rcases h2.h with ⟨h3, h4⟩ | ⟨v, w', h3, h4⟩
        · exact .inr (.inr ⟨_, _, h3, h4⟩)
        · exact .inl ⟨v, w', h3, h4⟩
      · exact h2.elim
    · rename_i b hb
      have h1 := evs_sound hk (K := fun l => (match builtinSem b c.argTypes o.type l.toArray with | some s => RunP P s K w | none => False)) h
      rw [← e1] at h1
      split at h1
      · rename_i s hs
        have e2 : ((do let d ← resolve a.eval c o.type; invoke d.target d.args) : Sem Next) = (do pure (Next.value (← s))) := by
          simp only [resolve, hb]
          show builtin b c.argTypes o.type _ (c.args.map a.eval) = _
          unfold builtinSem at hs
          split at hs <;> first | (cases hs; rfl) | (cases hs)
        rw [e2]
        exact h1.comes
      · exact h1.elim
    · exact h.elim
  case h_26 => exact h.elim


theorem vcOp_nodefer {P : Program} {e : Env} {o : Oper} {K : Value → World → Prop} {w : World} (h : vcOp P e o K w) : ∀ c, o.op ≠ .defer c := by
  intro c hc
  unfold vcOp at h
  rw [hc] at h
  exact h
/-- frames of whatever kind -/
def wdF (ro : Option Nat) : Fence := { Fence.wide with round := ro }
theorem callsIn_wd {ro : Option Nat} {n : Nat} {P : Program} {f : FuncId} {args : Array Value} {w : World} {R : Ending → World → Prop} : CallsIn (wdF ro) n P f args w R ↔ Calls P f args w R :=
  (callsIn_wide (n := n) (P := P) (f := f) (args := args) (w := w) (R := R))
def markD (r : Nat) : Deferred := { target := .collected r, args := #[] }
structure KnowsD (N : Nat) (D : List Nat) (e : Env) (a : Act) : Prop where
  defers : a.defers = D.map markD
  size : a.tmps.size = N
  look : ∀ t v, look e t = some v → a.tmps[t]? = some v
theorem KnowsD.bare {N : Nat} {D : List Nat} {e : Env} {a : Act} (h : KnowsD N D e a) : Knows N e { a with defers := [] } := ⟨rfl, h.size, h.look⟩
theorem KnowsD.sub {N : Nat} {D : List Nat} {e e' : Env} {a : Act} (h : KnowsD N D e' a) (hs : Sub e e') : KnowsD N D e a := ⟨h.defers, h.size, fun t v hl => h.look t v (hs t v hl)⟩
theorem KnowsD.ev {N : Nat} {D : List Nat} {e : Env} {a : Act} (hk : KnowsD N D e a) {x : Operand} {K : Value → Prop} (h : ev e x K) : K (a.eval x) := ev_sound hk.bare h
theorem setK_soundD {N : Nat} {D : List Nat} {e : Env} {a : Act} {dst : Option Tmp} {v : Value} {K : Env → Prop} (hk : KnowsD N D e a) (h : setK N e dst v K) : ∃ e', KnowsD N D e' (a.put dst v) ∧ K e' := by
  obtain ⟨e', h1, h2⟩ := setK_sound hk.bare h
  refine ⟨e', ⟨?_, ?_, ?_⟩, h2⟩
  · cases dst <;> exact hk.defers
  · have := h1.size
    cases dst <;> exact this
  · have := h1.look
    cases dst <;> exact this
/-- a call of yield -/
structure YieldP (P : Program) (l : Nat) (x y : Array Value) (vs : List Value) (K : Value → World → Prop) (w : World) : Prop where
  hx : x = #[]
  hy : y = #[]
  h : ∀ m, YieldAt (wdF none) m P l vs.toArray w fun e w' => ∃ v, e = .returned v ∧ K v w'
def calleeOf (o : Oper) : Option (Operand × List Operand) := match o.op with | .call c => (match c.callee with | .value f => some (f, c.args.toList) | _ => none) | _ => none
def vrCall (P : Program) (e : Env) (o : Oper) (al : List Operand) (K : Value → World → Prop) (w : World) (fv : Value) : Prop :=
  match fv with
  | .func (.yield l) x y => evs e al fun vs => YieldP P l x y vs K w
  | _ => vcOp P e o K w
def vrOp (P : Program) (e : Env) (o : Oper) (K : Value → World → Prop) (w : World) : Prop :=
  match calleeOf o with
  | some (f, al) => ev e f (vrCall P e o al K w)
  | none => vcOp P e o K w
theorem wpIn_comes {ro : Option Nat} {n : Nat} {P : Program} {o : Oper} {a : Act} {K : Value → World → Prop} {w : World} {Q : Exit → Act → World → Prop} (hd : ∀ c, o.op ≠ .defer c) (h : Comes1 P (execOp a.eval o) K w) :
    o.wpIn (wdF ro) n P a w (fun a' w' => ∃ v, a' = a.put o.dst v ∧ K v w') Q := by
  refine ⟨fun _ _ => trivial, ?_⟩
  rw [Oper.semAt_eq _ _ _ hd]
  rcases h with ⟨v, w', h1, h2⟩ | ⟨w', h1, h2⟩ | ⟨f, args, h1, h2⟩
  · rw [h1]; exact ⟨v, rfl, h2⟩
  · rw [h1]; exact ⟨undef, rfl, h2⟩
  · rw [h1]
    refine ⟨fun h => (by cases h), callsIn_wd.2 (h2.mono fun e w' he => ?_)⟩
    obtain ⟨v, rfl, hK⟩ := he
    exact ⟨v, rfl, hK⟩
theorem vrOp_sound {ro : Option Nat} {n : Nat} {P : Program} {N : Nat} {D : List Nat} {e : Env} {a : Act} {o : Oper} {K : Value → World → Prop} {w : World} {Q : Exit → Act → World → Prop} (hk : KnowsD N D e a) (h : vrOp P e o K w) :
    o.wpIn (wdF ro) n P a w (fun a' w' => ∃ v, a' = a.put o.dst v ∧ K v w') Q := by
  have plain : vcOp P e o K w → o.wpIn (wdF ro) n P a w (fun a' w' => ∃ v, a' = a.put o.dst v ∧ K v w') Q := fun h => wpIn_comes (vcOp_nodefer h) (show Comes1 P (execOp a.eval o) K w from vcOp_comes (a := { a with defers := [] }) hk.bare h)
  unfold vrOp at h
  split at h
  · rename_i f al hc
    have h1 := hk.ev h
    unfold vrCall at h1
    split at h1
    · rename_i l x y hf
      have h2 := evs_sound hk.bare h1
      obtain ⟨rfl, rfl, h3⟩ := h2
      unfold calleeOf at hc
      split at hc
      · rename_i c ho
        split at hc
        · rename_i g hg
          have e1 : g = f := by have := Option.some.inj hc; exact (Prod.mk.inj this).1
          have e2 : c.args.toList = al := by have := Option.some.inj hc; exact (Prod.mk.inj this).2
          subst e1
          subst e2
          have hrun : execOp a.eval o = Instr.yield l ((c.args.toList.map ({ a with defers := [] } : Act).eval).toArray) := by
            unfold execOp
            simp only [ho]
            simp only [resolve, hg, hf, Deferred.ofValue]
            have e3 : c.args.map a.eval = (c.args.toList.map ({ a with defers := [] } : Act).eval).toArray := by
              apply Array.ext'; simp; intro x _; cases x <;> rfl
            show invoke (.fn (.yield l) #[]) (#[] ++ c.args.map a.eval) = _
            rw [e3]
            simp [invoke]
          refine ⟨fun _ _ => trivial, ?_⟩
          rw [Oper.semAt_eq _ _ _ (by rw [ho]; intro c h; cases h), hrun]
          obtain ⟨fn, tmps, assign, body, hy, hR⟩ := h3 (n - 1)
          rw [hy]
          refine ⟨fun h => (by cases h), ?_⟩
          refine RoundIn.mono (show RoundIn (wdF ro) (n - 1) P l fn tmps assign body w _ from hR) fun e w' he => ?_
          obtain ⟨v, rfl, hK⟩ := he
          exact ⟨v, rfl, hK⟩
        · cases hc
      · cases hc
    · exact plain h1
  · exact plain h
def vrStep (P : Program) (N : Nat) (ops : List Oper) (o : Oper) (e : Env) (w : World) (next : Env → World → Prop) : Prop :=
  match o.guard with
  | none => vrOp P e o (fun v w' => setK N e o.dst v fun e' => next e' w') w
  | some (j, want) =>
    (match dstOf ops j with
    | some d => (match look e d with
      | some (.bool b) =>
        (match want with
        | true => (Bool.rec (motive := fun _ => Prop) (setK N ((d, .bool false) :: e) o.dst undef fun e' => next e' w) (vrOp P ((d, .bool true) :: e) o (fun v w' => setK N ((d, .bool true) :: e) o.dst v fun e' => next e' w') w) b : Prop)
        | false => (Bool.rec (motive := fun _ => Prop) (vrOp P ((d, .bool false) :: e) o (fun v w' => setK N ((d, .bool false) :: e) o.dst v fun e' => next e' w') w) (setK N ((d, .bool true) :: e) o.dst undef fun e' => next e' w) b : Prop))
      | some (.tuple _) => setK N e o.dst undef fun e' => next e' w
      | _ => False)
    | none => False)
noncomputable def vrOps (P : Program) (N : Nat) (ops : List Oper) (Q : Env → World → Prop) (l : List Oper) : Env → World → Prop :=
  List.rec (motive := fun _ => Env → World → Prop) Q (fun o _ next e w => vrStep P N ops o e w next) l
theorem vrOps_cons {P : Program} {N : Nat} {ops : List Oper} {Q : Env → World → Prop} {o : Oper} {rest : List Oper} {e : Env} {w : World} : vrOps P N ops Q (o :: rest) e w = vrStep P N ops o e w (vrOps P N ops Q rest) := rfl
theorem about_true {ro : Option Nat} {P : Program} {o : Oper} {w : World} {a : Act} : ∀ f, o.about P w a.eval = some f → (wdF ro).fn f := fun _ _ => trivial
theorem wpIn_next {F : Fence} {n : Nat} {P : Program} {o : Oper} {a : Act} {w : World} {X Y : Act → World → Prop} {Q : Exit → Act → World → Prop} (hXY : ∀ a w, X a w → Y a w) (h : o.wpIn F n P a w X Q) : o.wpIn F n P a w Y Q := by
  refine ⟨h.1, ?_⟩
  have h2 := h.2
  revert h2
  generalize (o.semAt F.round a.eval).run P w = r
  intro h2
  cases r with
  | ok v w' =>
    cases v with
    | value v => exact hXY _ _ h2
    | skip => exact hXY _ _ h2
    | defer d => exact hXY _ _ h2
    | enter f args => exact ⟨h2.1, h2.2.mono fun e w' he => by
        cases e with
        | returned v => exact hXY _ _ he
        | panicked c => exact he
        | outgrown => exact he⟩
    | row r args => exact ⟨h2.1, h2.2.mono fun v w' he => hXY _ _ he⟩
    | round l f t x y => exact ⟨h2.1, h2.2.mono fun e w' he => by
        cases e with
        | returned v => exact hXY _ _ he
        | panicked c => exact he
        | outgrown => exact he⟩
    | _ => exact h2
  | halt x w' =>
    cases x with
    | panic v => exact h2
    | _ => exact h2
theorem vrOps_sound {ro : Option Nat} {n : Nat} {P : Program} {N : Nat} {D : List Nat} {ops : List Oper} {Q : Env → World → Prop} {Q' : Exit → Act → World → Prop} : ∀ (l : List Oper) (e : Env) (a : Act) (w : World), KnowsD N D e a →
    (∀ e a w, KnowsD N D e a → Q e w → Q' .normal a w) → vrOps P N ops Q l e w → wpListIn (wdF ro) n P ops.toArray Q' l a w
  | [], e, a, w, hk, hQ, h => wpListIn_nil (hQ e a w hk h)
  | o :: rest, e, a, w, hk, hQ, h => by
    have step : ∀ (e1 : Env), KnowsD N D e1 a → (vrOp P e1 o (fun v w' => setK N e1 o.dst v fun e' => vrOps P N ops Q rest e' w') w) → o.wpIn (wdF ro) n P a w (wpListIn (wdF ro) n P ops.toArray Q' rest) Q' := fun e1 hk1 h1 => by
      refine wpIn_next ?_ (vrOp_sound (Q := Q') hk1 h1)
      rintro a' w' ⟨v, rfl, h2⟩
      obtain ⟨e', hk', h3⟩ := setK_soundD hk1 h2
      exact vrOps_sound rest e' _ w' hk' hQ h3
    rw [vrOps_cons] at h
    unfold vrStep at h
    unfold wpListIn
    split at h
    · rename_i hg
      rw [if_pos (by simp [Region.wanted, hg])]
      exact step e hk h
    · rename_i j want hg
      split at h
      · rename_i d hd
        split at h
        · rename_i b hb
          have hy : yielded ops.toArray a.tmps j = some b := by
            have h1 := hk.look d _ hb
            rw [dstOf_eq] at hd
            unfold yielded
            simp [hd, h1]
          have hw : Region.wanted o (yielded ops.toArray a.tmps) = (b == want) := by
            simp only [Region.wanted, hg, hy]
            cases b <;> cases want <;> rfl
          rw [hw]
          have hkb : ∀ b', b = b' → KnowsD N D ((d, .bool b') :: e) a := fun b' hbb => by
            subst hbb
            refine ⟨hk.defers, hk.size, fun t v hl => ?_⟩
            by_cases hdt : d = t
            · subst hdt; rw [look_cons_eq] at hl; cases hl; exact hk.look _ _ hb
            · rw [look_cons_ne hdt] at hl; exact hk.look _ _ hl
          have no : ∀ b', b = b' → (setK N ((d, .bool b') :: e) o.dst undef fun e' => vrOps P N ops Q rest e' w) → wpListIn (wdF ro) n P ops.toArray Q' rest (a.put o.dst undef) w := fun b' hbb h1 => by
            obtain ⟨e', hk', h3⟩ := setK_soundD (hkb b' hbb) h1
            exact vrOps_sound rest e' _ w hk' hQ h3
          cases want with
          | true =>
            cases b with
            | true => rw [if_pos (by simp)]; exact step _ (hkb true rfl) h
            | false => rw [if_neg (by simp)]; exact ⟨about_true, no false rfl h⟩
          | false =>
            cases b with
            | true => rw [if_neg (by simp)]; exact ⟨about_true, no true rfl h⟩
            | false => rw [if_pos (by simp)]; exact step _ (hkb false rfl) h
        · rename_i u hb
          have hy : yielded ops.toArray a.tmps j = none := by
            have h1 := hk.look d _ hb
            rw [dstOf_eq] at hd
            unfold yielded
            simp [hd, h1]
          have hw : Region.wanted o (yielded ops.toArray a.tmps) = false := by
            simp only [Region.wanted, hg, hy]
            rfl
          rw [hw, if_neg (by simp)]
          obtain ⟨e', hk', h3⟩ := setK_soundD hk h
          exact ⟨about_true, vrOps_sound rest e' _ w hk' hQ h3⟩
        · exact h.elim
      · exact h.elim
abbrev QR := Exit → List Nat → Env → World → Prop
def semD (N : Nat) (Q : QR) (x : Exit) (a : Act) (w : World) : Prop := ∃ D e, KnowsD N D e a ∧ Q x D e w
structure LoopR (P : Program) (top : Bool) (N : Nat) (c : Code) (Q : QR) (D : List Nat) (e : Env) (w : World) : Prop where
  h : ∀ n ro a, (top = true → ro = none) → KnowsD N D e a → (Code.loop c).wpIn (wdF ro) n P (semD N Q) a w
structure RangeR (P : Program) (N : Nat) (f : Value) (ps : Array Tmp) (asg c : Code) (Q : QR) (D : List Nat) (e : Env) (w : World) : Prop where
  h : ∀ n g a, KnowsD N D e a → a.eval g = f → (Code.rangeFunc g ps asg c).wpIn (wdF none) n P (semD N Q) a w
structure DrawR (P : Program) (N : Nat) (ops : Array Oper) (Q : List Nat → Env → World → Prop) (D : List Nat) (e : Env) (w : World) : Prop where
  h : ∀ id a, KnowsD N D e a → (Code.region id ops true).wp P (fun x a' w' => x = .normal ∧ ∃ D' e', KnowsD N D' e' a' ∧ Q D' e' w') a w
def thenR (K : List Nat → Env → World → Prop) (Q : QR) (x : Exit) (D : List Nat) (e : Env) (w : World) : Prop :=
  match x with
  | .normal => K D e w
  | x => Q x D e w
def blockR (id : Nat) (Q : QR) (x : Exit) (D : List Nat) (e : Env) (w : World) : Prop :=
  match x with
  | .exit i => (match Nat.beq i id with | true => Q .normal D e w | false => Q (.exit i) D e w)
  | x => Q x D e w
def vr (P : Program) (top : Bool) (N : Nat) : Code → QR → List Nat → Env → World → Prop
  | .skip, Q, D, e, w => Q .normal D e w
  | .region _ ops false, Q, D, e, w => vrOps P N ops.toList (Q .normal D) ops.toList e w
  | .region _ ops true, Q, D, e, w => top = true ∧ DrawR P N ops (Q .normal) D e w
  | .seq x y, Q, D, e, w => vr P top N x (thenR (vr P top N y Q) Q) D e w
  | .cond c x y, Q, D, e, w => ev e c fun v => (match v with | .bool b => (Bool.rec (motive := fun _ => Prop) (vr P top N y Q D e w) (vr P top N x Q D e w) b : Prop) | _ => False)
  | .block id c, Q, D, e, w => vr P top N c (blockR id Q) D e w
  | .loop c, Q, D, e, w => LoopR P top N c Q D e w
  | .rangeFunc f ps asg c, Q, D, e, w => top = true ∧ ev e f fun v => RangeR P N v ps asg c Q D e w
  | .exit id, Q, D, e, w => Q (.exit id) D e w
  | .ret, Q, D, e, w => Q .ret D e w
  | _, _, _, _, _ => False
theorem vr_sound {P : Program} {top : Bool} {N n : Nat} {ro : Option Nat} (hro : top = true → ro = none) : ∀ (c : Code) (Q : QR) (D : List Nat) (e : Env) (a : Act) (w : World), KnowsD N D e a → vr P top N c Q D e w → c.wpIn (wdF ro) n P (semD N Q) a w := by
  intro c
  induction c with
  | skip => intro Q D e a w hk h; exact wpIn_skip ⟨D, e, hk, h⟩
  | region id ops d =>
    intro Q D e a w hk h
    cases d with
    | false =>
      have := vrOps_sound (ro := ro) (n := n) (Q' := semD N Q) ops.toList e a w hk (fun e a w hk hq => ⟨D, e, hk, hq⟩) h
      exact wpIn_region_list (by simpa using this)
    | true =>
      obtain ⟨ht, h⟩ := h
      have := hro ht
      subst this
      refine wpIn_mono (wpIn_wide.2 (h.h id a hk)) ?_
      rintro x a' w' ⟨rfl, D', e', hk', hq⟩
      exact ⟨D', e', hk', hq⟩
  | seq x y ihx ihy =>
    intro Q D e a w hk h
    refine wpIn_seq (wpIn_mono (ihx _ D e a w hk h) ?_)
    rintro ex a' w' ⟨D', e', hk', hq⟩
    cases ex with
    | normal => exact ihy _ D' e' a' w' hk' hq
    | _ => exact ⟨D', e', hk', hq⟩
  | cond c x y ihx ihy =>
    intro Q D e a w hk h
    have h1 := hk.ev (K := fun v => (match v with | .bool b => (Bool.rec (motive := fun _ => Prop) (vr P top N y Q D e w) (vr P top N x Q D e w) b : Prop) | _ => False)) h
    split at h1
    · rename_i b hb
      exact wpIn_cond_split hb (fun ht => ihx _ D e a w hk (CondP.t h1 ht)) (fun hf => ihy _ D e a w hk (CondP.f h1 hf))
    · exact h1.elim
  | block id c ih =>
    intro Q D e a w hk h
    refine wpIn_block (wpIn_mono (ih _ D e a w hk h) ?_)
    rintro ex a' w' ⟨D', e', hk', hq⟩
    cases ex with
    | exit i =>
      simp only [blockR] at hq
      show if i = id then semD N Q Exit.normal a' w' else semD N Q (Exit.exit i) a' w'
      split at hq
      · rename_i hb
        rw [if_pos (Nat.eq_of_beq_eq_true hb)]
        exact ⟨D', e', hk', hq⟩
      · rename_i hb
        rw [if_neg (Nat.ne_of_beq_eq_false hb)]
        exact ⟨D', e', hk', hq⟩
    | _ => exact ⟨D', e', hk', hq⟩
  | loop c _ => intro Q D e a w hk h; exact h.h n ro a hro hk
  | rangeFunc f ps asg c _ _ =>
    intro Q D e a w hk h
    obtain ⟨ht, h⟩ := h
    have := hro ht
    subst this
    exact (hk.ev (K := fun v => RangeR P N v ps asg c Q D e w) h).h n f a hk rfl
  | exit id => intro Q D e a w hk h; exact wpIn_exit ⟨D, e, hk, h⟩
  | scope c _ => intro Q D e a w hk h; exact h.elim
  | label l => intro Q D e a w hk h; exact h.elim
  | goto l => intro Q D e a w hk h; exact h.elim
  | ret => intro Q D e a w hk h; exact wpIn_ret ⟨D, e, hk, h⟩
  | refuse y => intro Q D e a w hk h; exact h.elim
/-! loops -/
structure loopKR (keep : List Nat) (kv : List Value) (slots : List Nat) (R : List Value → World → Nat → Prop) (m : Nat) (D0 D : List Nat) (e : Env) (w : World) : Prop where
  hD : D = D0
  h : loopK keep kv slots R m e w
theorem loop_ruleR {P : Program} {top : Bool} {N : Nat} {c : Code} {Q : QR} {D : List Nat} {e : Env} {w : World} (keep slots : List Nat) (R : List Value → World → Nat → Prop) {kv : List Value} (hk : looks e keep = some kv)
    (vs : List Value) (m : Nat) (hv : looks e slots = some vs) (h0 : R vs w m)
    (hr : ∀ vs w m, R vs w m → vr P top N c (thenR (loopKR keep kv slots R m D) Q) D (zipE slots vs (zipE keep kv [])) w) : LoopR P top N c Q D e w := by
  refine ⟨fun n ro a hro ha => ?_⟩
  refine wpIn_loop (fun a' w' => ∃ m vs, KnowsD N D (zipE slots vs (zipE keep kv [])) a' ∧ R vs w' m) (fun a' w' => leastOf fun m => ∃ vs, KnowsD N D (zipE slots vs (zipE keep kv [])) a' ∧ R vs w' m) ⟨m, vs, ha.sub (zip_sub _ _ _ hv (zip_sub _ _ _ hk fun _ _ h => by cases h)), h0⟩ ?_
  intro a' w' hI
  obtain ⟨vs, hka, hR⟩ := (leastOf_spec hI).1
  refine wpIn_mono (vr_sound hro c _ D _ a' w' hka (hr vs w' _ hR)) ?_
  rintro x a2 w2 ⟨D', e', hk', hq⟩
  cases x with
  | normal =>
    obtain ⟨rfl, h1, vs', m', h2, h3, h4⟩ := hq
    have hnew : ∃ vs, KnowsD N D' (zipE slots vs (zipE keep kv [])) a2 ∧ R vs w2 m' := ⟨vs', hk'.sub (zip_sub _ _ _ h2 (zip_sub _ _ _ h1 fun _ _ h => by cases h)), h3⟩
    exact ⟨⟨m', hnew⟩, Nat.lt_of_le_of_lt ((leastOf_spec (p := fun m => ∃ vs, KnowsD N D' (zipE slots vs (zipE keep kv [])) a2 ∧ R vs w2 m) ⟨m', hnew⟩).2 m' hnew) h4⟩
  | _ => exact ⟨D', e', hk', hq⟩
theorem round_mkR {keep : List Nat} {kv : List Value} {slots : List Nat} {R : List Value → World → Nat → Prop} {m : Nat} {D : List Nat} {e : Env} {w : World} (vs : List Value) (m' : Nat) (h1 : looks e keep = some kv) (h2 : looks e slots = some vs) (h : R vs w m') (hm : m' < m) : loopKR keep kv slots R m D D e w := ⟨rfl, round_mk vs m' h1 h2 h hm⟩
/-! regions that draw, where all is read -/
theorem vqOps_soundD {P : Program} {N : Nat} {D : List Nat} {C : World → Prop} {ops : List Oper} {Q : Env → Prop} {Q' : Act → Prop} (hQ : ∀ e a, KnowsD N D e a → Q e → Q' a) (l : List Oper) (e : Env) (a : Act) (hk : KnowsD N D e a) (h : vqOps P N C ops Q l e) : wpQuiet P ops.toArray C Q' l a := by
  have key : ∀ (l : List Oper) (a a0 : Act) (Q0 : Act → Prop), a0 = { a with defers := [] } → a.defers = D.map markD → (∀ b b0 : Act, b0 = { b with defers := [] } → b.defers = D.map markD → Q0 b0 → Q' b) → wpQuiet P ops.toArray C Q0 l a0 → wpQuiet P ops.toArray C Q' l a := by
    intro l
    induction l with
    | nil => intro a a0 Q0 ha hd hq h; exact hq a a0 ha hd h
    | cons o l ih =>
      intro a a0 Q0 ha hd hq h
      subst ha
      unfold wpQuiet at h ⊢
      have put_ : ∀ v, ({ a with defers := [] } : Act).put o.dst v = { (a.put o.dst v) with defers := [] } := fun v => by cases o.dst <;> rfl
      have putd : ∀ v, (a.put o.dst v).defers = D.map markD := fun v => by cases o.dst <;> exact hd
      split at h
      · rename_i hw
        rw [if_pos hw]
        obtain ⟨v, h1, h2⟩ := h
        exact ⟨v, h1, ih _ _ Q0 (put_ v) (putd v) hq h2⟩
      · rename_i hw
        rw [if_neg hw]
        exact ih _ _ Q0 (put_ undef) (putd undef) hq h
  refine key l a { a with defers := [] } (fun b0 => ∃ e', Knows N e' b0 ∧ Q e') rfl hk.defers (fun b b0 hb hd ⟨e', hk', hq⟩ => ?_) (vqOps_sound (fun e a hk hq => ⟨e, hk, hq⟩) l e _ hk.bare h)
  subst hb
  exact hQ e' b ⟨hd, hk'.size, hk'.look⟩ hq
theorem draw_allR {P : Program} {N : Nat} {D : List Nat} {e : Env} {w : World} {Q : List Nat → Env → World → Prop} [Mixed P] {l : List Oper} (C : World → Prop) (hB : Region.lexB .any l.toArray = true) (hC : C w.drew) (h : vqOps P N C l (fun e' => ∀ w', C w' → Q D e' w') l e) : true = true ∧ DrawR P N l.toArray Q D e w :=
  ⟨rfl, ⟨fun id a hk => wp_region_quiet (C := C) Mixed.h hB hC (by
    have := vqOps_soundD (Q' := fun a' => ∀ w', C w' → (Exit.normal = .normal ∧ ∃ D' e', KnowsD N D' e' a' ∧ Q D' e' w')) (fun e' a' hk' hq w' hw' => ⟨rfl, D, e', hk', hq w' hw'⟩) l e a hk h
    simpa using this)⟩⟩
/-! a function's contract -/
def Dfr (w : World) (r : Nat) : Prop := w.heap[r]? = some (.deferred (some []))
theorem Dfr.upd {S : List Nat} {w w' : World} {r : Nat} (h : Dfr w r) (hu : Upd S w w') (hr : r ∉ S) : Dfr w' r := (hu.block r (Array.getElem?_eq_some_iff.1 h).1 hr).trans h
def retD (P : Program) (rs : List ResultVar) (e : Env) (R : Value → World → Prop) : List Nat → World → Prop
  | [], w => retE P rs e w fun l => R (retV l) w
  | r :: D, w => Dfr w r ∧ ∀ w', Upd [r] w w' → w'.heap.size = w.heap.size → retD P rs e R D w'
def bodyR (P : Program) (rs : List ResultVar) (R : Value → World → Prop) (x : Exit) (D : List Nat) (e : Env) (w : World) : Prop :=
  match x with
  | .normal => retD P rs e R D w
  | .ret => retD P rs e R D w
  | _ => False
theorem upd_putObj (w : World) (l : Nat) (o : Obj) : Upd [l] w (w.putObj l o) :=
  ⟨rfl, rfl, rfl, by simp, fun k _ hk => World.putObj_heap_other (by simpa using hk)⟩
theorem retD_sound {P : Program} {N n : Nat} {fn : Func} {R : Value → World → Prop} {e : Env} : ∀ (D : List Nat) (a : Act) (w : World), KnowsD N D e a → retD P fn.results.toList e R D w → LeavesInM (wdF none) n P fn a.tmps (fun x w' => ∃ v, x = .returned v ∧ R v w') a.defers .returning w
  | [], a, w, hk, h => by
    rw [hk.defers]
    obtain ⟨v, h1, h2⟩ := results_sound (R := fun v => R v w) hk.bare h
    exact ⟨v, h1, v, rfl, h2⟩
  | r :: D, a, w, hk, h => by
    rw [hk.defers]
    obtain ⟨h1, h2⟩ := h
    refine ⟨(fun h => by cases h), .inl ⟨r, _, rfl, run_takeDeferred h1, ?_⟩⟩
    have := retD_sound (n := n) D { a with defers := D.map markD } (w.putObj r (.deferred none)) ⟨rfl, hk.size, hk.look⟩ (h2 _ (upd_putObj w r _) (by simp))
    exact this
theorem fnr_enter {P : Program} {f : FuncId} {fn : Func} {c : Code} {args : Array Value} {w : World} {R : Value → World → Prop} (hf : P.funcs[f]? = some fn) (hb : fn.body = some c)
    (hn : Nat.ble args.toList.length fn.ntmps = true) (h : vr P true fn.ntmps c (bodyR P fn.results.toList R) [] (envFrom 0 args.toList) w) : Fn P f args w R := by
  have hn' : args.size ≤ fn.ntmps := by simpa using Nat.le_of_ble_eq_true hn
  refine callsIn_wd (ro := none) (n := 0) |>.1 (callsIn_of_wp_marks (F := wdF none) hf hb trivial (wpIn_mono (vr_sound (fun _ => rfl) c _ [] _ { tmps := args ++ Array.replicate (fn.ntmps - args.size) undef, defers := [] } w ⟨rfl, by simp; omega, ?_⟩ h) ?_))
  · intro t v hl
    obtain ⟨_, h2⟩ := look_envFrom _ _ _ _ hl
    have h3 : args[t]? = some v := by simpa using h2
    have hlt : t < args.size := by
      rcases Nat.lt_or_ge t args.size with h4 | h4
      · exact h4
      · rw [Array.getElem?_eq_none h4] at h3; cases h3
    show (args ++ Array.replicate (fn.ntmps - args.size) undef)[t]? = some v
    rw [Array.getElem?_append_left hlt]
    exact h3
  · rintro x a' w' ⟨D', e', hk', hq⟩
    cases x with
    | normal => exact retD_sound D' a' w' hk' hq
    | ret => exact retD_sound D' a' w' hk' hq
    | _ => exact hq.elim
/-! iterators -/
/-- a round, as the one who calls yield sees it -/
def YieldR (P : Program) (l : Nat) (va : Array Value) (w : World) (R : Bool → World → Prop) : Prop := ∀ m, YieldAt (wdF none) m P l va w fun e w' => ∃ b, e = .returned (.bool b) ∧ R b w'
theorem yl {P : Program} {l : Nat} {vs : List Value} {K : Value → World → Prop} {w : World} {R : Bool → World → Prop} (h : YieldR P l vs.toArray w R) (k : ∀ b w', R b w' → K (.bool b) w') : YieldP P l #[] #[] vs K w :=
  ⟨rfl, rfl, fun m => by
  obtain ⟨fn, tmps, assign, body, hy, hR⟩ := h m
  exact ⟨fn, tmps, assign, body, hy, hR.mono fun e w' ⟨b, he, hR⟩ => ⟨_, he, k b w' hR⟩⟩⟩
/-- what a function that is ranged over tells: xs, one by one, as long as it is asked to go on -/
def IterC (P : Program) (fv : Value) (xs : List (Array Value)) (A : Ob) : Prop :=
  ∃ g lb, fv = .func (.func g) #[] lb ∧ (∀ args w, (callFunc g args).run P w = .ok (.enter g args) w) ∧ ∀ (l : Nat) (G Gx : Nat → Ob → Prop) (o0 : Ob) (W : World), A.ok W → (∀ k ∈ A.foot, k ∉ o0.foot) → G 0 o0 → o0.ok W →
    (∀ i o W1 va, xs[i]? = some va → G i o → o.ok W1 → To W o0.foot W1 o.foot → YieldR P l va W1 fun b W' => ∃ o', o'.ok W' ∧ To W1 o.foot W' o'.foot ∧ ((b = true ∧ G (i + 1) o') ∨ (b = false ∧ Gx i o'))) →
    Fn P g (#[.func (.yield l) #[] #[]] ++ lb) W fun _ W' => ∃ o', o'.ok W' ∧ To W o0.foot W' o'.foot ∧ (G xs.length o' ∨ ∃ i, i < xs.length ∧ Gx i o')
end Go.Proofs.Ytaogmfmphamplaa
