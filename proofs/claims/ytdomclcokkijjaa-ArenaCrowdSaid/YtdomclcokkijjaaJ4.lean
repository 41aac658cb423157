/- Joined: V19 V20 Pa Ga Gb Gc Ha Hb Hc Hd He V21 Hf Hg. -/
import Derived.Test.YtdomclcokkijjaaJ2
import Derived.RangeFuncLeaves
import Derived.RangeFuncMany
import Derived.TacticsIn
import Derived.Test.YtdomclcokkijjaaTy
import Derived.Test.YtdomclcokkijjaaEu
/- A reader for functions that range over functions, and for the rounds of such loops. -/
namespace Go.Proofs.Ytdomclcokkijjaa
open Go.RowKit
theorem vcOp_comes {P : Program} {N : Nat} {e : Env} {a : Act} {o : Oper} {K : Value → World → Prop} {w : World} (hk : Knows N e a) (h : vcOp P e o K w) : Comes1 P (execOp a.eval o) K w := by
  unfold vcOp at h
  unfold execOp
  split at h <;> rename_i ho <;> simp only [ho]
  case h_1 x => exact .inl ⟨_, w, rfl, ev_sound hk (K := fun v => K v w) h⟩
  case h_2 x => exact .inl ⟨_, w, rfl, ev_sound hk (K := fun v => K v w) h⟩
  case h_3 c x y =>
    have h1 := ev_sound hk (K := fun vc => ev e x fun vx => ev e y fun vy => (match vc with | .bool b => (Bool.rec (motive := fun _ => Prop) (K vy w) (K vx w) b : Prop) | _ => False)) h
    have h2 := ev_sound hk (K := fun vx => ev e y fun vy => (match a.eval c with | .bool b => (Bool.rec (motive := fun _ => Prop) (K vy w) (K vx w) b : Prop) | _ => False)) h1
    have h3 := ev_sound hk (K := fun vy => (match a.eval c with | .bool b => (Bool.rec (motive := fun _ => Prop) (K vy w) (K (a.eval x) w) b : Prop) | _ => False)) h2
    split at h3
    · rename_i b hb
      refine .inl ⟨if b then a.eval x else a.eval y, w, by simp [hb, asBool], ?_⟩
      cases b with
      | true => exact h3
      | false => exact h3
    · exact h3.elim
  case h_4 t => exact h.comes
  case h_5 t x => exact (ev_sound hk (K := fun v => RunP P (Instr.box t v) K w) h).comes
  case h_6 t ps =>
    have h1 := evp_sound hk (K := fun l => RunP P (Instr.build t l.toArray) K w) h
    have e1 : (ps.map fun x => match x with | (i, x) => (i, a.eval x)) = (ps.toList.map fun (i, x) => (i, a.eval x)).toArray := by
      apply Array.ext'; simp
    rw [e1]
    exact h1.comes
  case h_7 t n ps =>
    have h1 := evp_sound hk (K := fun l => RunP P (Instr.buildSlice t n l.toArray) K w) h
    have e1 : (ps.map fun x => match x with | (i, x) => (i, a.eval x)) = (ps.toList.map fun (i, x) => (i, a.eval x)).toArray := by
      apply Array.ext'; simp
    rw [e1]
    exact h1.comes
  case h_8 t x => exact (ev_sound hk (K := fun v => RunP P (Instr.loadAt t v) K w) h).comes
  case h_9 t x y =>
    have h1 := ev_sound hk (K := fun va => ev e y fun vx => RunU P (Instr.storeAt t va vx) (K undef) w) h
    exact (ev_sound hk (K := fun vx => RunU P (Instr.storeAt t (a.eval x) vx) (K undef) w) h1).comes fun _ h => h
  case h_10 x =>
    have h1 := ev_sound hk (K := fun v => vcNil P v K w) h
    generalize a.eval x = v at h1
    unfold vcNil at h1
    split at h1
    · exact .inl ⟨_, w, rfl, h1⟩
    · exact .inl ⟨_, w, rfl, h1⟩
    · exact h1.elim
  case h_11 op t x y _ =>
    have h1 := ev_sound hk (K := fun va => ev e y fun vb => vcBin P op t x y va vb K w) h
    exact vcBin_comes (ev_sound hk (K := fun vb => vcBin P op t x y (a.eval x) vb K w) h1)
  case h_12 op _ x => exact vcUn_comes (ev_sound hk (K := fun va => vcUn P op va K w) h)
  case h_13 s d x => exact (ev_sound hk (K := fun v => RunP P (convert s d v) K w) h).comes
  case h_14 t x => exact (ev_sound hk (K := fun v => RunP P (Instr.makeInterface t v) K w) h).comes
  case h_15 fn x y =>
    have h1 := evs_sound hk (K := fun lx => evs e y.toList fun ly => K (.func fn lx.toArray ly.toArray) w) h
    have h2 := evs_sound hk (K := fun ly => K (.func fn (x.toList.map a.eval).toArray ly.toArray) w) h1
    have e1 : ∀ z : Array Operand, z.map a.eval = (z.toList.map a.eval).toArray := fun z => by apply Array.ext'; simp
    rw [e1, e1]
    exact .inl ⟨_, w, run_v rfl, h2⟩
  case h_16 t x y =>
    have h1 := ev_sound hk (K := fun va => ev e y fun vb => RunP P (Instr.makeSlice t va vb) K w) h
    exact (ev_sound hk (K := fun vb => RunP P (Instr.makeSlice t (a.eval x) vb) K w) h1).comes
  case h_17 t x lo hi mx =>
    have h1 := ev_sound hk (K := fun v => evo e lo fun a => evo e hi fun b => evo e mx fun c => RunP P (Instr.sliceAt t v a b c) K w) h
    have h2 := evo_sound hk (K := fun vl => evo e hi fun b => evo e mx fun c => RunP P (Instr.sliceAt t (a.eval x) vl b c) K w) h1
    have h3 := evo_sound hk (K := fun vh => evo e mx fun c => RunP P (Instr.sliceAt t (a.eval x) (lo.map a.eval) vh c) K w) h2
    exact (evo_sound hk (K := fun vm => RunP P (Instr.sliceAt t (a.eval x) (lo.map a.eval) (hi.map a.eval) vm) K w) h3).comes
  case h_18 s x f => exact (ev_sound hk (K := fun v => RunP P (Instr.fieldAt s v f) K w) h).comes
  case h_19 s x f => exact (ev_sound hk (K := fun v => RunP P (Instr.field s v f) K w) h).comes
  case h_20 t x i =>
    have h1 := ev_sound hk (K := fun v => ev e i fun n => RunP P (Instr.indexAt t v n) K w) h
    exact (ev_sound hk (K := fun n => RunP P (Instr.indexAt t (a.eval x) n) K w) h1).comes
  case h_21 t x i =>
    have h1 := ev_sound hk (K := fun v => ev e i fun n => RunP P (Instr.index t v n) K w) h
    exact (ev_sound hk (K := fun n => RunP P (Instr.index t (a.eval x) n) K w) h1).comes
  case h_22 t x => exact (ev_sound hk (K := fun v => RunP P (Instr.range t v) K w) h).comes
  case h_23 x b => exact (ev_sound hk (K := fun v => RunP P (Instr.next v b o.type) K w) h).comes
  case h_24 x i =>
    have h1 := ev_sound hk (K := fun v => (match v with
      | .tuple vs => (match nthV vs.toList i with | some u => K u w | none => False)
      | _ => False)) h
    generalize a.eval x = v at h1
    split at h1
    · split at h1
      · rename_i u hu
        rw [nthV_eq] at hu
        have hu' : _ := hu
        exact .inl ⟨u, w, run_v (by simp only [Array.getElem?_toList] at hu'; simp [Instr.extract, hu']), h1⟩
      · exact h1.elim
    · exact h1.elim
  case h_25 c =>
    have e1 : ∀ z : Array Operand, z.map a.eval = (z.toList.map a.eval).toArray := fun z => by apply Array.ext'; simp
    split at h
    · rename_i f hf
      have h1 := ev_sound hk (K := fun fv => evs e c.args.toList fun l => vcCall P fv l K w) h
      have h2 := evs_sound hk (K := fun l => vcCall P (a.eval f) l K w) h1
      unfold vcCall at h2
      split at h2
      · rename_i g x y hg
        have e2 : ((do let d ← resolve a.eval c o.type; invoke d.target d.args) : Sem Next) = callFunc g (x ++ (c.args.toList.map a.eval).toArray ++ y) := by
          simp only [resolve, hf, hg, Deferred.ofValue]
          show invoke (.fn (.func g) y) (x ++ c.args.map a.eval) = _
          rw [e1]
          rfl
        rw [e2]
        rcases h2.h with ⟨h3, h4⟩ | ⟨v, w', h3, h4⟩
        · exact .inr (.inr ⟨_, _, h3, h4⟩)
        · exact .inl ⟨v, w', h3, h4⟩
      · exact h2.elim
    · rename_i b hb
      have h1 := evs_sound hk (K := fun l => (match builtinSem b c.argTypes o.type l.toArray with | some s => RunP P s K w | none => False)) h
      rw [← e1] at h1
      split at h1
      · rename_i s hs
        have e2 : ((do let d ← resolve a.eval c o.type; invoke d.target d.args) : Sem Next) = (do pure (Next.value (← s))) := by
          simp only [resolve, hb]
          show builtin b c.argTypes o.type _ (c.args.map a.eval) = _
          unfold builtinSem at hs
          split at hs <;> first | (cases hs; rfl) | (cases hs)
        rw [e2]
        exact h1.comes
      · exact h1.elim
    · exact h.elim
  case h_26 => exact h.elim


theorem vcOp_nodefer {P : Program} {e : Env} {o : Oper} {K : Value → World → Prop} {w : World} (h : vcOp P e o K w) : ∀ c, o.op ≠ .defer c := by
  intro c hc
  unfold vcOp at h
  rw [hc] at h
  exact h
/-- frames of whatever kind -/
def wdF (ro : Option Nat) : Fence := { Fence.wide with round := ro }
theorem callsIn_wd {ro : Option Nat} {n : Nat} {P : Program} {f : FuncId} {args : Array Value} {w : World} {R : Ending → World → Prop} : CallsIn (wdF ro) n P f args w R ↔ Calls P f args w R :=
  (callsIn_wide (n := n) (P := P) (f := f) (args := args) (w := w) (R := R))
def markD (r : Nat) : Deferred := { target := .collected r, args := #[] }
structure KnowsD (N : Nat) (D : List Nat) (e : Env) (a : Act) : Prop where
  defers : a.defers = D.map markD
  size : a.tmps.size = N
  look : ∀ t v, look e t = some v → a.tmps[t]? = some v
theorem KnowsD.bare {N : Nat} {D : List Nat} {e : Env} {a : Act} (h : KnowsD N D e a) : Knows N e { a with defers := [] } := ⟨rfl, h.size, h.look⟩
theorem KnowsD.sub {N : Nat} {D : List Nat} {e e' : Env} {a : Act} (h : KnowsD N D e' a) (hs : Sub e e') : KnowsD N D e a := ⟨h.defers, h.size, fun t v hl => h.look t v (hs t v hl)⟩
theorem KnowsD.ev {N : Nat} {D : List Nat} {e : Env} {a : Act} (hk : KnowsD N D e a) {x : Operand} {K : Value → Prop} (h : ev e x K) : K (a.eval x) := ev_sound hk.bare h
theorem setK_soundD {N : Nat} {D : List Nat} {e : Env} {a : Act} {dst : Option Tmp} {v : Value} {K : Env → Prop} (hk : KnowsD N D e a) (h : setK N e dst v K) : ∃ e', KnowsD N D e' (a.put dst v) ∧ K e' := by
  obtain ⟨e', h1, h2⟩ := setK_sound hk.bare h
  refine ⟨e', ⟨?_, ?_, ?_⟩, h2⟩
  · cases dst <;> exact hk.defers
  · have := h1.size
    cases dst <;> exact this
  · have := h1.look
    cases dst <;> exact this
/-- a call of yield -/
structure YieldP (P : Program) (l : Nat) (x y : Array Value) (vs : List Value) (K : Value → World → Prop) (w : World) : Prop where
  hx : x = #[]
  hy : y = #[]
  h : ∀ m, YieldAt (wdF none) m P l vs.toArray w fun e w' => ∃ v, e = .returned v ∧ K v w'
def calleeOf (o : Oper) : Option (Operand × List Operand) := match o.op with | .call c => (match c.callee with | .value f => some (f, c.args.toList) | _ => none) | _ => none
def vrCall (P : Program) (e : Env) (o : Oper) (al : List Operand) (K : Value → World → Prop) (w : World) (fv : Value) : Prop :=
  match fv with
  | .func (.yield l) x y => evs e al fun vs => YieldP P l x y vs K w
  | _ => vcOp P e o K w
def vrOp (P : Program) (e : Env) (o : Oper) (K : Value → World → Prop) (w : World) : Prop :=
  match calleeOf o with
  | some (f, al) => ev e f (vrCall P e o al K w)
  | none => vcOp P e o K w
theorem wpIn_comes {ro : Option Nat} {n : Nat} {P : Program} {o : Oper} {a : Act} {K : Value → World → Prop} {w : World} {Q : Exit → Act → World → Prop} (hd : ∀ c, o.op ≠ .defer c) (h : Comes1 P (execOp a.eval o) K w) :
    o.wpIn (wdF ro) n P a w (fun a' w' => ∃ v, a' = a.put o.dst v ∧ K v w') Q := by
  refine ⟨fun _ _ => trivial, ?_⟩
  rw [Oper.semAt_eq _ _ _ hd]
  rcases h with ⟨v, w', h1, h2⟩ | ⟨w', h1, h2⟩ | ⟨f, args, h1, h2⟩
  · rw [h1]; exact ⟨v, rfl, h2⟩
  · rw [h1]; exact ⟨undef, rfl, h2⟩
  · rw [h1]
    refine ⟨fun h => (by cases h), callsIn_wd.2 (h2.mono fun e w' he => ?_)⟩
    obtain ⟨v, rfl, hK⟩ := he
    exact ⟨v, rfl, hK⟩
theorem vrOp_sound {ro : Option Nat} {n : Nat} {P : Program} {N : Nat} {D : List Nat} {e : Env} {a : Act} {o : Oper} {K : Value → World → Prop} {w : World} {Q : Exit → Act → World → Prop} (hk : KnowsD N D e a) (h : vrOp P e o K w) :
    o.wpIn (wdF ro) n P a w (fun a' w' => ∃ v, a' = a.put o.dst v ∧ K v w') Q := by
  have plain : vcOp P e o K w → o.wpIn (wdF ro) n P a w (fun a' w' => ∃ v, a' = a.put o.dst v ∧ K v w') Q := fun h => wpIn_comes (vcOp_nodefer h) (show Comes1 P (execOp a.eval o) K w from vcOp_comes (a := { a with defers := [] }) hk.bare h)
  unfold vrOp at h
  split at h
  · rename_i f al hc
    have h1 := hk.ev h
    unfold vrCall at h1
    split at h1
    · rename_i l x y hf
      have h2 := evs_sound hk.bare h1
      obtain ⟨rfl, rfl, h3⟩ := h2
      unfold calleeOf at hc
      split at hc
      · rename_i c ho
        split at hc
        · rename_i g hg
          have e1 : g = f := by have := Option.some.inj hc; exact (Prod.mk.inj this).1
          have e2 : c.args.toList = al := by have := Option.some.inj hc; exact (Prod.mk.inj this).2
          subst e1
          subst e2
          have hrun : execOp a.eval o = Instr.yield l ((c.args.toList.map ({ a with defers := [] } : Act).eval).toArray) := by
            unfold execOp
            simp only [ho]
            simp only [resolve, hg, hf, Deferred.ofValue]
            have e3 : c.args.map a.eval = (c.args.toList.map ({ a with defers := [] } : Act).eval).toArray := by
              apply Array.ext'; simp; intro x _; cases x <;> rfl
            show invoke (.fn (.yield l) #[]) (#[] ++ c.args.map a.eval) = _
            rw [e3]
            simp [invoke]
          refine ⟨fun _ _ => trivial, ?_⟩
          rw [Oper.semAt_eq _ _ _ (by rw [ho]; intro c h; cases h), hrun]
          obtain ⟨fn, tmps, assign, body, hy, hR⟩ := h3 (n - 1)
          rw [hy]
          refine ⟨fun h => (by cases h), ?_⟩
          refine RoundIn.mono (show RoundIn (wdF ro) (n - 1) P l fn tmps assign body w _ from hR) fun e w' he => ?_
          obtain ⟨v, rfl, hK⟩ := he
          exact ⟨v, rfl, hK⟩
        · cases hc
      · cases hc
    · exact plain h1
  · exact plain h
def vrStep (P : Program) (N : Nat) (ops : List Oper) (o : Oper) (e : Env) (w : World) (next : Env → World → Prop) : Prop :=
  match o.guard with
  | none => vrOp P e o (fun v w' => setK N e o.dst v fun e' => next e' w') w
  | some (j, want) =>
    (match dstOf ops j with
    | some d => (match look e d with
      | some (.bool b) =>
        (match want with
        | true => (Bool.rec (motive := fun _ => Prop) (setK N ((d, .bool false) :: e) o.dst undef fun e' => next e' w) (vrOp P ((d, .bool true) :: e) o (fun v w' => setK N ((d, .bool true) :: e) o.dst v fun e' => next e' w') w) b : Prop)
        | false => (Bool.rec (motive := fun _ => Prop) (vrOp P ((d, .bool false) :: e) o (fun v w' => setK N ((d, .bool false) :: e) o.dst v fun e' => next e' w') w) (setK N ((d, .bool true) :: e) o.dst undef fun e' => next e' w) b : Prop))
      | some (.tuple _) => setK N e o.dst undef fun e' => next e' w
      | _ => False)
    | none => False)
noncomputable def vrOps (P : Program) (N : Nat) (ops : List Oper) (Q : Env → World → Prop) (l : List Oper) : Env → World → Prop :=
  List.rec (motive := fun _ => Env → World → Prop) Q (fun o _ next e w => vrStep P N ops o e w next) l
theorem vrOps_cons {P : Program} {N : Nat} {ops : List Oper} {Q : Env → World → Prop} {o : Oper} {rest : List Oper} {e : Env} {w : World} : vrOps P N ops Q (o :: rest) e w = vrStep P N ops o e w (vrOps P N ops Q rest) := rfl
theorem about_true {ro : Option Nat} {P : Program} {o : Oper} {w : World} {a : Act} : ∀ f, o.about P w a.eval = some f → (wdF ro).fn f := fun _ _ => trivial
theorem wpIn_next {F : Fence} {n : Nat} {P : Program} {o : Oper} {a : Act} {w : World} {X Y : Act → World → Prop} {Q : Exit → Act → World → Prop} (hXY : ∀ a w, X a w → Y a w) (h : o.wpIn F n P a w X Q) : o.wpIn F n P a w Y Q := by
  refine ⟨h.1, ?_⟩
  have h2 := h.2
  revert h2
  generalize (o.semAt F.round a.eval).run P w = r
  intro h2
  cases r with
  | ok v w' =>
    cases v with
    | value v => exact hXY _ _ h2
    | skip => exact hXY _ _ h2
    | defer d => exact hXY _ _ h2
    | enter f args => exact ⟨h2.1, h2.2.mono fun e w' he => by
        cases e with
        | returned v => exact hXY _ _ he
        | panicked c => exact he
        | outgrown => exact he⟩
    | row r args => exact ⟨h2.1, h2.2.mono fun v w' he => hXY _ _ he⟩
    | round l f t x y => exact ⟨h2.1, h2.2.mono fun e w' he => by
        cases e with
        | returned v => exact hXY _ _ he
        | panicked c => exact he
        | outgrown => exact he⟩
    | _ => exact h2
  | halt x w' =>
    cases x with
    | panic v => exact h2
    | _ => exact h2
theorem vrOps_sound {ro : Option Nat} {n : Nat} {P : Program} {N : Nat} {D : List Nat} {ops : List Oper} {Q : Env → World → Prop} {Q' : Exit → Act → World → Prop} : ∀ (l : List Oper) (e : Env) (a : Act) (w : World), KnowsD N D e a →
    (∀ e a w, KnowsD N D e a → Q e w → Q' .normal a w) → vrOps P N ops Q l e w → wpListIn (wdF ro) n P ops.toArray Q' l a w
  | [], e, a, w, hk, hQ, h => wpListIn_nil (hQ e a w hk h)
  | o :: rest, e, a, w, hk, hQ, h => by
    have step : ∀ (e1 : Env), KnowsD N D e1 a → (vrOp P e1 o (fun v w' => setK N e1 o.dst v fun e' => vrOps P N ops Q rest e' w') w) → o.wpIn (wdF ro) n P a w (wpListIn (wdF ro) n P ops.toArray Q' rest) Q' := fun e1 hk1 h1 => by
      refine wpIn_next ?_ (vrOp_sound (Q := Q') hk1 h1)
      rintro a' w' ⟨v, rfl, h2⟩
      obtain ⟨e', hk', h3⟩ := setK_soundD hk1 h2
      exact vrOps_sound rest e' _ w' hk' hQ h3
    rw [vrOps_cons] at h
    unfold vrStep at h
    unfold wpListIn
    split at h
    · rename_i hg
      rw [if_pos (by simp [Region.wanted, hg])]
      exact step e hk h
    · rename_i j want hg
      split at h
      · rename_i d hd
        split at h
        · rename_i b hb
          have hy : yielded ops.toArray a.tmps j = some b := by
            have h1 := hk.look d _ hb
            rw [dstOf_eq] at hd
            unfold yielded
            simp [hd, h1]
          have hw : Region.wanted o (yielded ops.toArray a.tmps) = (b == want) := by
            simp only [Region.wanted, hg, hy]
            cases b <;> cases want <;> rfl
          rw [hw]
          have hkb : ∀ b', b = b' → KnowsD N D ((d, .bool b') :: e) a := fun b' hbb => by
            subst hbb
            refine ⟨hk.defers, hk.size, fun t v hl => ?_⟩
            by_cases hdt : d = t
            · subst hdt; rw [look_cons_eq] at hl; cases hl; exact hk.look _ _ hb
            · rw [look_cons_ne hdt] at hl; exact hk.look _ _ hl
          have no : ∀ b', b = b' → (setK N ((d, .bool b') :: e) o.dst undef fun e' => vrOps P N ops Q rest e' w) → wpListIn (wdF ro) n P ops.toArray Q' rest (a.put o.dst undef) w := fun b' hbb h1 => by
            obtain ⟨e', hk', h3⟩ := setK_soundD (hkb b' hbb) h1
            exact vrOps_sound rest e' _ w hk' hQ h3
          cases want with
          | true =>
            cases b with
            | true => rw [if_pos (by simp)]; exact step _ (hkb true rfl) h
            | false => rw [if_neg (by simp)]; exact ⟨about_true, no false rfl h⟩
          | false =>
            cases b with
            | true => rw [if_neg (by simp)]; exact ⟨about_true, no true rfl h⟩
            | false => rw [if_pos (by simp)]; exact step _ (hkb false rfl) h
        · rename_i u hb
          have hy : yielded ops.toArray a.tmps j = none := by
            have h1 := hk.look d _ hb
            rw [dstOf_eq] at hd
            unfold yielded
            simp [hd, h1]
          have hw : Region.wanted o (yielded ops.toArray a.tmps) = false := by
            simp only [Region.wanted, hg, hy]
            rfl
          rw [hw, if_neg (by simp)]
          obtain ⟨e', hk', h3⟩ := setK_soundD hk h
          exact ⟨about_true, vrOps_sound rest e' _ w hk' hQ h3⟩
        · exact h.elim
      · exact h.elim
abbrev QR := Exit → List Nat → Env → World → Prop
def semD (N : Nat) (Q : QR) (x : Exit) (a : Act) (w : World) : Prop := ∃ D e, KnowsD N D e a ∧ Q x D e w
structure LoopR (P : Program) (top : Bool) (N : Nat) (c : Code) (Q : QR) (D : List Nat) (e : Env) (w : World) : Prop where
  h : ∀ n ro a, (top = true → ro = none) → KnowsD N D e a → (Code.loop c).wpIn (wdF ro) n P (semD N Q) a w
structure RangeR (P : Program) (N : Nat) (f : Value) (ps : Array Tmp) (asg c : Code) (Q : QR) (D : List Nat) (e : Env) (w : World) : Prop where
  h : ∀ n g a, KnowsD N D e a → a.eval g = f → (Code.rangeFunc g ps asg c).wpIn (wdF none) n P (semD N Q) a w
structure DrawR (P : Program) (N : Nat) (ops : Array Oper) (Q : List Nat → Env → World → Prop) (D : List Nat) (e : Env) (w : World) : Prop where
  h : ∀ id a, KnowsD N D e a → (Code.region id ops true).wp P (fun x a' w' => x = .normal ∧ ∃ D' e', KnowsD N D' e' a' ∧ Q D' e' w') a w
def thenR (K : List Nat → Env → World → Prop) (Q : QR) (x : Exit) (D : List Nat) (e : Env) (w : World) : Prop :=
  match x with
  | .normal => K D e w
  | x => Q x D e w
def blockR (id : Nat) (Q : QR) (x : Exit) (D : List Nat) (e : Env) (w : World) : Prop :=
  match x with
  | .exit i => (match Nat.beq i id with | true => Q .normal D e w | false => Q (.exit i) D e w)
  | x => Q x D e w
def vr (P : Program) (top : Bool) (N : Nat) : Code → QR → List Nat → Env → World → Prop
  | .skip, Q, D, e, w => Q .normal D e w
  | .region _ ops false, Q, D, e, w => vrOps P N ops.toList (Q .normal D) ops.toList e w
  | .region _ ops true, Q, D, e, w => top = true ∧ DrawR P N ops (Q .normal) D e w
  | .seq x y, Q, D, e, w => vr P top N x (thenR (vr P top N y Q) Q) D e w
  | .cond c x y, Q, D, e, w => ev e c fun v => (match v with | .bool b => (Bool.rec (motive := fun _ => Prop) (vr P top N y Q D e w) (vr P top N x Q D e w) b : Prop) | _ => False)
  | .block id c, Q, D, e, w => vr P top N c (blockR id Q) D e w
  | .loop c, Q, D, e, w => LoopR P top N c Q D e w
  | .rangeFunc f ps asg c, Q, D, e, w => top = true ∧ ev e f fun v => RangeR P N v ps asg c Q D e w
  | .exit id, Q, D, e, w => Q (.exit id) D e w
  | .ret, Q, D, e, w => Q .ret D e w
  | _, _, _, _, _ => False
theorem vr_sound {P : Program} {top : Bool} {N n : Nat} {ro : Option Nat} (hro : top = true → ro = none) : ∀ (c : Code) (Q : QR) (D : List Nat) (e : Env) (a : Act) (w : World), KnowsD N D e a → vr P top N c Q D e w → c.wpIn (wdF ro) n P (semD N Q) a w := by
  intro c
  induction c with
  | skip => intro Q D e a w hk h; exact wpIn_skip ⟨D, e, hk, h⟩
  | region id ops d =>
    intro Q D e a w hk h
    cases d with
    | false =>
      have := vrOps_sound (ro := ro) (n := n) (Q' := semD N Q) ops.toList e a w hk (fun e a w hk hq => ⟨D, e, hk, hq⟩) h
      exact wpIn_region_list (by simpa using this)
    | true =>
      obtain ⟨ht, h⟩ := h
      have := hro ht
      subst this
      refine wpIn_mono (wpIn_wide.2 (h.h id a hk)) ?_
      rintro x a' w' ⟨rfl, D', e', hk', hq⟩
      exact ⟨D', e', hk', hq⟩
  | seq x y ihx ihy =>
    intro Q D e a w hk h
    refine wpIn_seq (wpIn_mono (ihx _ D e a w hk h) ?_)
    rintro ex a' w' ⟨D', e', hk', hq⟩
    cases ex with
    | normal => exact ihy _ D' e' a' w' hk' hq
    | _ => exact ⟨D', e', hk', hq⟩
  | cond c x y ihx ihy =>
    intro Q D e a w hk h
    have h1 := hk.ev (K := fun v => (match v with | .bool b => (Bool.rec (motive := fun _ => Prop) (vr P top N y Q D e w) (vr P top N x Q D e w) b : Prop) | _ => False)) h
    split at h1
    · rename_i b hb
      exact wpIn_cond_split hb (fun ht => ihx _ D e a w hk (CondP.t h1 ht)) (fun hf => ihy _ D e a w hk (CondP.f h1 hf))
    · exact h1.elim
  | block id c ih =>
    intro Q D e a w hk h
    refine wpIn_block (wpIn_mono (ih _ D e a w hk h) ?_)
    rintro ex a' w' ⟨D', e', hk', hq⟩
    cases ex with
    | exit i =>
      simp only [blockR] at hq
      show if i = id then semD N Q Exit.normal a' w' else semD N Q (Exit.exit i) a' w'
      split at hq
      · rename_i hb
        rw [if_pos (Nat.eq_of_beq_eq_true hb)]
        exact ⟨D', e', hk', hq⟩
      · rename_i hb
        rw [if_neg (Nat.ne_of_beq_eq_false hb)]
        exact ⟨D', e', hk', hq⟩
    | _ => exact ⟨D', e', hk', hq⟩
  | loop c _ => intro Q D e a w hk h; exact h.h n ro a hro hk
  | rangeFunc f ps asg c _ _ =>
    intro Q D e a w hk h
    obtain ⟨ht, h⟩ := h
    have := hro ht
    subst this
    exact (hk.ev (K := fun v => RangeR P N v ps asg c Q D e w) h).h n f a hk rfl
  | exit id => intro Q D e a w hk h; exact wpIn_exit ⟨D, e, hk, h⟩
  | scope c _ => intro Q D e a w hk h; exact h.elim
  | label l => intro Q D e a w hk h; exact h.elim
  | goto l => intro Q D e a w hk h; exact h.elim
  | ret => intro Q D e a w hk h; exact wpIn_ret ⟨D, e, hk, h⟩
  | refuse y => intro Q D e a w hk h; exact h.elim
/-! loops -/
structure loopKR (keep : List Nat) (kv : List Value) (slots : List Nat) (R : List Value → World → Nat → Prop) (m : Nat) (D0 D : List Nat) (e : Env) (w : World) : Prop where
  hD : D = D0
  h : loopK keep kv slots R m e w
theorem loop_ruleR {P : Program} {top : Bool} {N : Nat} {c : Code} {Q : QR} {D : List Nat} {e : Env} {w : World} (keep slots : List Nat) (R : List Value → World → Nat → Prop) {kv : List Value} (hk : looks e keep = some kv)
    (vs : List Value) (m : Nat) (hv : looks e slots = some vs) (h0 : R vs w m)
    (hr : ∀ vs w m, R vs w m → vr P top N c (thenR (loopKR keep kv slots R m D) Q) D (zipE slots vs (zipE keep kv [])) w) : LoopR P top N c Q D e w := by
  refine ⟨fun n ro a hro ha => ?_⟩
  refine wpIn_loop (fun a' w' => ∃ m vs, KnowsD N D (zipE slots vs (zipE keep kv [])) a' ∧ R vs w' m) (fun a' w' => leastOf fun m => ∃ vs, KnowsD N D (zipE slots vs (zipE keep kv [])) a' ∧ R vs w' m) ⟨m, vs, ha.sub (zip_sub _ _ _ hv (zip_sub _ _ _ hk fun _ _ h => by cases h)), h0⟩ ?_
  intro a' w' hI
  obtain ⟨vs, hka, hR⟩ := (leastOf_spec hI).1
  refine wpIn_mono (vr_sound hro c _ D _ a' w' hka (hr vs w' _ hR)) ?_
  rintro x a2 w2 ⟨D', e', hk', hq⟩
  cases x with
  | normal =>
    obtain ⟨rfl, h1, vs', m', h2, h3, h4⟩ := hq
    have hnew : ∃ vs, KnowsD N D' (zipE slots vs (zipE keep kv [])) a2 ∧ R vs w2 m' := ⟨vs', hk'.sub (zip_sub _ _ _ h2 (zip_sub _ _ _ h1 fun _ _ h => by cases h)), h3⟩
    exact ⟨⟨m', hnew⟩, Nat.lt_of_le_of_lt ((leastOf_spec (p := fun m => ∃ vs, KnowsD N D' (zipE slots vs (zipE keep kv [])) a2 ∧ R vs w2 m) ⟨m', hnew⟩).2 m' hnew) h4⟩
  | _ => exact ⟨D', e', hk', hq⟩
theorem round_mkR {keep : List Nat} {kv : List Value} {slots : List Nat} {R : List Value → World → Nat → Prop} {m : Nat} {D : List Nat} {e : Env} {w : World} (vs : List Value) (m' : Nat) (h1 : looks e keep = some kv) (h2 : looks e slots = some vs) (h : R vs w m') (hm : m' < m) : loopKR keep kv slots R m D D e w := ⟨rfl, round_mk vs m' h1 h2 h hm⟩
/-! regions that draw, where all is read -/
theorem vqOps_soundD {P : Program} {N : Nat} {D : List Nat} {C : World → Prop} {ops : List Oper} {Q : Env → Prop} {Q' : Act → Prop} (hQ : ∀ e a, KnowsD N D e a → Q e → Q' a) (l : List Oper) (e : Env) (a : Act) (hk : KnowsD N D e a) (h : vqOps P N C ops Q l e) : wpQuiet P ops.toArray C Q' l a := by
  have key : ∀ (l : List Oper) (a a0 : Act) (Q0 : Act → Prop), a0 = { a with defers := [] } → a.defers = D.map markD → (∀ b b0 : Act, b0 = { b with defers := [] } → b.defers = D.map markD → Q0 b0 → Q' b) → wpQuiet P ops.toArray C Q0 l a0 → wpQuiet P ops.toArray C Q' l a := by
    intro l
    induction l with
    | nil => intro a a0 Q0 ha hd hq h; exact hq a a0 ha hd h
    | cons o l ih =>
      intro a a0 Q0 ha hd hq h
      subst ha
      unfold wpQuiet at h ⊢
      have put_ : ∀ v, ({ a with defers := [] } : Act).put o.dst v = { (a.put o.dst v) with defers := [] } := fun v => by cases o.dst <;> rfl
      have putd : ∀ v, (a.put o.dst v).defers = D.map markD := fun v => by cases o.dst <;> exact hd
      split at h
      · rename_i hw
        rw [if_pos hw]
        obtain ⟨v, h1, h2⟩ := h
        exact ⟨v, h1, ih _ _ Q0 (put_ v) (putd v) hq h2⟩
      · rename_i hw
        rw [if_neg hw]
        exact ih _ _ Q0 (put_ undef) (putd undef) hq h
  refine key l a { a with defers := [] } (fun b0 => ∃ e', Knows N e' b0 ∧ Q e') rfl hk.defers (fun b b0 hb hd ⟨e', hk', hq⟩ => ?_) (vqOps_sound (fun e a hk hq => ⟨e, hk, hq⟩) l e _ hk.bare h)
  subst hb
  exact hQ e' b ⟨hd, hk'.size, hk'.look⟩ hq
theorem draw_allR {P : Program} {N : Nat} {D : List Nat} {e : Env} {w : World} {Q : List Nat → Env → World → Prop} [Mixed P] {l : List Oper} (C : World → Prop) (hB : Region.lexB .any l.toArray = true) (hC : C w.drew) (h : vqOps P N C l (fun e' => ∀ w', C w' → Q D e' w') l e) : true = true ∧ DrawR P N l.toArray Q D e w :=
  ⟨rfl, ⟨fun id a hk => wp_region_quiet (C := C) Mixed.h hB hC (by
    have := vqOps_soundD (Q' := fun a' => ∀ w', C w' → (Exit.normal = .normal ∧ ∃ D' e', KnowsD N D' e' a' ∧ Q D' e' w')) (fun e' a' hk' hq w' hw' => ⟨rfl, D, e', hk', hq w' hw'⟩) l e a hk h
    simpa using this)⟩⟩
/-! a function's contract -/
def Dfr (w : World) (r : Nat) : Prop := w.heap[r]? = some (.deferred (some []))
theorem Dfr.upd {S : List Nat} {w w' : World} {r : Nat} (h : Dfr w r) (hu : Upd S w w') (hr : r ∉ S) : Dfr w' r := (hu.block r (Array.getElem?_eq_some_iff.1 h).1 hr).trans h
def retD (P : Program) (rs : List ResultVar) (e : Env) (R : Value → World → Prop) : List Nat → World → Prop
  | [], w => retE P rs e w fun l => R (retV l) w
  | r :: D, w => Dfr w r ∧ ∀ w', Upd [r] w w' → w'.heap.size = w.heap.size → retD P rs e R D w'
def bodyR (P : Program) (rs : List ResultVar) (R : Value → World → Prop) (x : Exit) (D : List Nat) (e : Env) (w : World) : Prop :=
  match x with
  | .normal => retD P rs e R D w
  | .ret => retD P rs e R D w
  | _ => False
theorem upd_putObj (w : World) (l : Nat) (o : Obj) : Upd [l] w (w.putObj l o) :=
  ⟨rfl, rfl, rfl, by simp, fun k _ hk => World.putObj_heap_other (by simpa using hk)⟩
theorem retD_sound {P : Program} {N n : Nat} {fn : Func} {R : Value → World → Prop} {e : Env} : ∀ (D : List Nat) (a : Act) (w : World), KnowsD N D e a → retD P fn.results.toList e R D w → LeavesInM (wdF none) n P fn a.tmps (fun x w' => ∃ v, x = .returned v ∧ R v w') a.defers .returning w
  | [], a, w, hk, h => by
    rw [hk.defers]
    obtain ⟨v, h1, h2⟩ := results_sound (R := fun v => R v w) hk.bare h
    exact ⟨v, h1, v, rfl, h2⟩
  | r :: D, a, w, hk, h => by
    rw [hk.defers]
    obtain ⟨h1, h2⟩ := h
    refine ⟨(fun h => by cases h), .inl ⟨r, _, rfl, run_takeDeferred h1, ?_⟩⟩
    have := retD_sound (n := n) D { a with defers := D.map markD } (w.putObj r (.deferred none)) ⟨rfl, hk.size, hk.look⟩ (h2 _ (upd_putObj w r _) (by simp))
    exact this
theorem fnr_enter {P : Program} {f : FuncId} {fn : Func} {c : Code} {args : Array Value} {w : World} {R : Value → World → Prop} (hf : P.funcs[f]? = some fn) (hb : fn.body = some c)
    (hn : Nat.ble args.toList.length fn.ntmps = true) (h : vr P true fn.ntmps c (bodyR P fn.results.toList R) [] (envFrom 0 args.toList) w) : Fn P f args w R := by
  have hn' : args.size ≤ fn.ntmps := by simpa using Nat.le_of_ble_eq_true hn
  refine callsIn_wd (ro := none) (n := 0) |>.1 (callsIn_of_wp_marks (F := wdF none) hf hb trivial (wpIn_mono (vr_sound (fun _ => rfl) c _ [] _ { tmps := args ++ Array.replicate (fn.ntmps - args.size) undef, defers := [] } w ⟨rfl, by simp; omega, ?_⟩ h) ?_))
  · intro t v hl
    obtain ⟨_, h2⟩ := look_envFrom _ _ _ _ hl
    have h3 : args[t]? = some v := by simpa using h2
    have hlt : t < args.size := by
      rcases Nat.lt_or_ge t args.size with h4 | h4
      · exact h4
      · rw [Array.getElem?_eq_none h4] at h3; cases h3
    show (args ++ Array.replicate (fn.ntmps - args.size) undef)[t]? = some v
    rw [Array.getElem?_append_left hlt]
    exact h3
  · rintro x a' w' ⟨D', e', hk', hq⟩
    cases x with
    | normal => exact retD_sound D' a' w' hk' hq
    | ret => exact retD_sound D' a' w' hk' hq
    | _ => exact hq.elim
/-! iterators -/
/-- a round, as the one who calls yield sees it -/
def YieldR (P : Program) (l : Nat) (va : Array Value) (w : World) (R : Bool → World → Prop) : Prop := ∀ m, YieldAt (wdF none) m P l va w fun e w' => ∃ b, e = .returned (.bool b) ∧ R b w'
theorem yl {P : Program} {l : Nat} {vs : List Value} {K : Value → World → Prop} {w : World} {R : Bool → World → Prop} (h : YieldR P l vs.toArray w R) (k : ∀ b w', R b w' → K (.bool b) w') : YieldP P l #[] #[] vs K w :=
  ⟨rfl, rfl, fun m => by
  obtain ⟨fn, tmps, assign, body, hy, hR⟩ := h m
  exact ⟨fn, tmps, assign, body, hy, hR.mono fun e w' ⟨b, he, hR⟩ => ⟨_, he, k b w' hR⟩⟩⟩
/-- what a function that is ranged over tells: xs, one by one, as long as it is asked to go on -/
def IterC (P : Program) (fv : Value) (xs : List (Array Value)) (A : Ob) : Prop :=
  ∃ g lb, fv = .func (.func g) #[] lb ∧ (∀ args w, (callFunc g args).run P w = .ok (.enter g args) w) ∧ ∀ (l : Nat) (G Gx : Nat → Ob → Prop) (o0 : Ob) (W : World), A.ok W → (∀ k ∈ A.foot, k ∉ o0.foot) → G 0 o0 → o0.ok W →
    (∀ i o W1 va, xs[i]? = some va → G i o → o.ok W1 → To W o0.foot W1 o.foot → YieldR P l va W1 fun b W' => ∃ o', o'.ok W' ∧ To W1 o.foot W' o'.foot ∧ ((b = true ∧ G (i + 1) o') ∨ (b = false ∧ Gx i o'))) →
    Fn P g (#[.func (.yield l) #[] #[]] ++ lb) W fun _ W' => ∃ o', o'.ok W' ∧ To W o0.foot W' o'.foot ∧ (G xs.length o' ∨ ∃ i, i < xs.length ∧ Gx i o')
end Go.Proofs.Ytdomclcokkijjaa

/- The statement that ranges over a function. -/
namespace Go.Proofs.Ytdomclcokkijjaa
open Go.RowKit
def obObj (l : Nat) (o : Obj) : Ob := ⟨[l], fun w => w.heap[l]? = some o, fun {S w w'} h hu hS => (hu.block l (Array.getElem?_eq_some_iff.1 h).1 (hS l (by simp))).trans h, fun h k hk => by
  rw [List.mem_singleton.1 hk]; exact (Array.getElem?_eq_some_iff.1 h).1⟩
def penv : List Nat → List Value → Env → Env
  | p :: ps, v :: vs, e => penv ps vs ((p, v) :: e)
  | _, _, e => e
theorem penv_knows {N : Nat} : ∀ (ps : List Nat) (vs : List Value) (e : Env) (tmps : Array Value), (∀ p ∈ ps, p < N) → tmps.size = N → (∀ t v, look e t = some v → tmps[t]? = some v) →
    ((ps.zip vs).foldl (fun t (x : Nat × Value) => t.setIfInBounds x.1 x.2) tmps).size = N ∧ ∀ t v, look (penv ps vs e) t = some v → ((ps.zip vs).foldl (fun t (x : Nat × Value) => t.setIfInBounds x.1 x.2) tmps)[t]? = some v
  | [], vs, e, tmps, _, hs, hl => ⟨by simpa using hs, by simpa [penv] using hl⟩
  | p :: ps, [], e, tmps, _, hs, hl => ⟨by simpa using hs, by simpa [penv] using hl⟩
  | p :: ps, v :: vs, e, tmps, hp, hs, hl => by
    have hpl := hp p (by simp)
    have := penv_knows ps vs ((p, v) :: e) (tmps.setIfInBounds p v) (fun q hq => hp q (by simp [hq])) (by simpa using hs) (fun t u hu => by
      by_cases h : p = t
      · subst h
        rw [look_cons_eq] at hu
        cases hu
        simp [hs, hpl]
      · rw [look_cons_ne h] at hu
        rw [Array.getElem?_setIfInBounds_ne h]
        exact hl t u hu)
    simpa [penv] using this
theorem penv_act {N : Nat} {D : List Nat} {ps : Array Nat} {va : Array Value} {e : Env} {a : Act} (hp : ∀ p ∈ ps.toList, p < N) (hk : KnowsD N D e a) :
    KnowsD N [] (penv ps.toList va.toList e) { tmps := (ps.zip va).foldl (fun t (p, v) => t.setIfInBounds p v) a.tmps, defers := [] } := by
  obtain ⟨h1, h2⟩ := penv_knows ps.toList va.toList e a.tmps hp hk.size hk.look
  have e1 : (ps.zip va).foldl (fun t (x : Nat × Value) => t.setIfInBounds x.1 x.2) a.tmps = (ps.toList.zip va.toList).foldl (fun t (x : Nat × Value) => t.setIfInBounds x.1 x.2) a.tmps := by
    rw [← Array.foldl_toList, Array.toList_zip]
  refine ⟨rfl, ?_, ?_⟩
  · show ((ps.zip va).foldl (fun t (x : Nat × Value) => t.setIfInBounds x.1 x.2) a.tmps).size = N
    rw [e1]; exact h1
  · show ∀ t v, _ → ((ps.zip va).foldl (fun t (x : Nat × Value) => t.setIfInBounds x.1 x.2) a.tmps)[t]? = some v
    rw [e1]; exact h2
theorem to_in {w W1 W : World} {l : Nat} {F F' : List Nat} (hu : Upd [] w W1) (hl : w.heap.size ≤ l) (ht : To W1 (l :: F) W (l :: F')) (hn : l ∉ F') : To w F W F' :=
  ⟨hu.mono (by simp) |>.step ht.up (fun x hx => by
    rcases List.mem_cons.1 hx with h | h
    · rw [h]; exact .inr hl
    · exact .inl h), fun k hk => by
    have := hu.size
    rcases ht.sub k (List.mem_cons_of_mem _ hk) with h | h
    · rcases List.mem_cons.1 h with h1 | h1
      · subst h1; exact absurd hk hn
      · exact .inl h1
    · right; omega⟩
def roundQ (G : Nat → Ob → Prop) (Gx : Code → Nat → Ob → Prop) (i : Nat) (W : World) (F : List Nat) (x : Exit) (_ : List Nat) (_ : Env) (W2 : World) : Prop :=
  match x with
  | .normal => ∃ o' : Ob, o'.ok W2 ∧ To W F W2 o'.foot ∧ G (i + 1) o'
  | .ret => ∃ o' : Ob, o'.ok W2 ∧ To W F W2 o'.foot ∧ Gx .ret i o'
  | .exit id => ∃ o' : Ob, o'.ok W2 ∧ To W F W2 o'.foot ∧ Gx (.exit id) i o'
  | _ => False
theorem pair_ok {l : Nat} {r : Obj} {o : Ob} {w : World} (h : (obAll [obObj l r, o]).ok w) : w.heap[l]? = some r ∧ o.ok w ∧ l ∉ o.foot := by
  have h : Sep w [obObj l r, o] := h
  refine ⟨h.ok (obObj l r) (by simp), h.ok o (by simp), fun hm => ?_⟩
  exact h.apart_ (i := 0) (j := 1) (x := obObj l r) (y := o) rfl rfl (by decide) l (by simp [obObj]) hm
theorem pair_mk {l : Nat} {r : Obj} {o : Ob} {w : World} (h1 : w.heap[l]? = some r) (h2 : o.ok w) (h3 : l ∉ o.foot) : (obAll [obObj l r, o]).ok w :=
  Sep.cons (Sep.cons (Sep.nil w) h2 (by simp [feet])) h1 (by simp [obObj, feet]; exact h3)
theorem pair_foot (l : Nat) (r : Obj) (o : Ob) : (obAll [obObj l r, o]).foot = l :: o.foot := by simp [obAll, feet, obObj]
theorem range_rule {P : Program} {N : Nat} {ps : Array Tmp} {asg body : Code} {Q : QR} {D : List Nat} {e : Env} {w : World} {fv : Value} {xs : List (Array Value)} {A : Ob} (it : IterC P fv xs A) (hA : A.ok w) (G : Nat → Ob → Prop) (Gx : Code → Nat → Ob → Prop) (o0 : Ob) (h0 : G 0 o0) (ho : o0.ok w) (hap : ∀ k ∈ A.foot, k ∉ o0.foot)
    (hps : ∀ va ∈ xs, va.size = ps.size) (hlt : ∀ p ∈ ps.toList, p < N)
    (round : ∀ i va o W W', xs[i]? = some va → G i o → To w o0.foot W o.foot → o.ok W → To w o0.foot W' o.foot → o.ok W' →
      vr P false N asg (fun x D1 e1 W1 => x = .normal ∧ D1 = [] ∧ W1 = W ∧ vr P false N body (roundQ G Gx i W' o.foot) [] e1 W') [] (penv ps.toList va.toList e) W)
    (done : ∀ r o W, G xs.length o → o.ok W → To w o0.foot W o.foot → Dfr W r → w.heap.size ≤ r → r ∉ o.foot → Q .normal (r :: D) e W)
    (stop : ∀ r c i o W, i < xs.length → Gx c i o → o.ok W → To w o0.foot W o.foot → Dfr W r → w.heap.size ≤ r → r ∉ o.foot → vr P true N c Q (r :: D) e W) : RangeR P N fv ps asg body Q D e w := by
  obtain ⟨gf, lb, rfl, eg, hit⟩ := it
  refine ⟨fun n g a hk hg => wpIn_rangeFunc fun fn _ => ?_⟩
  obtain ⟨rec, hrec⟩ : ∃ rec : LoopState → Option Code → Loop, rec = fun st pe => { state := st, pending := pe, fn, tmps := a.tmps, params := ps, assign := asg, body, defers := w.heap.size } := ⟨_, rfl⟩
  obtain ⟨W1, hW1⟩ : ∃ W1, (w.alloc (.deferred (some []))).alloc (.loop (rec .ready none)) = W1 := ⟨_, rfl⟩
  have hL1 : W1.heap[w.heap.size + 1]? = some (.loop (rec .ready none)) := by
    rw [← hW1]; have := World.alloc_heap_new (w.alloc (.deferred (some []))) (.loop (rec .ready none)); rwa [World.size_alloc] at this
  have hK1 : W1.heap[w.heap.size]? = some (.deferred (some [])) := by
    rw [← hW1]; exact (Below.heap_alloc _ _ _ (by simp)).trans (World.alloc_heap_new w _)
  have hu1 : Upd [] w W1 := by rw [← hW1]; exact ((Upd.refl [] w).alloc _).alloc _
  obtain ⟨l, hl⟩ : ∃ l, l = w.heap.size + 1 := ⟨_, rfl⟩
  rw [← hl] at hL1
  have ln0 : l ∉ o0.foot := fun hm => by have := o0.lt ho l hm; omega
  have lnA : l ∉ A.foot := fun hm => by have := A.lt hA l hm; omega
  refine ⟨l, [markD w.heap.size], W1, { target := .fn (.func gf) lb, args := #[.func (.yield l) #[] #[]] }, W1, gf,
    #[.func (.yield l) #[] #[]] ++ lb, W1, ?_, ?_, ?_, ?_, fun h => (by cases h), ?_⟩
  · rw [← hW1, hrec, hl]; exact run_enterLoop_outer _ _ _ _ _
  · simp only [resolve, hg]
    simp [go_sem]
  · intro f' hf'; exact trivial
  · simp [invoke, go_sem, eg]
  · have hrun := hit l (fun i o' => ∃ o, G i o ∧ o' = obAll [obObj l (.loop (rec .ready none)), o]) (fun i o' => ∃ o c, Gx c i o ∧ o' = obAll [obObj l (.loop (rec .done (some c))), o]) (obAll [obObj l (.loop (rec .ready none)), o0]) W1
      (A.keep hA hu1 (by simp)) (fun k hk => by rw [pair_foot]; intro hm; rcases List.mem_cons.1 hm with h | h; (subst h; exact lnA hk); exact hap k hk h) ⟨o0, h0, rfl⟩ (pair_mk hL1 (o0.keep ho hu1 (by simp)) ln0) ?_
    · refine callsIn_wd.2 (hrun.mono ?_)
      rintro ed W2 ⟨v, rfl, o', hok, hto, hor⟩
      have hD : ∀ {o : Ob} {r : Obj}, o' = obAll [obObj l r, o] → To w o0.foot W2 o.foot ∧ Dfr W2 w.heap.size ∧ w.heap.size ∉ o.foot ∧ W2.heap[l]? = some r ∧ o.ok W2 ∧ l ∉ o.foot := fun {o r} he => by
        subst he
        obtain ⟨h1, h2, h3⟩ := pair_ok hok
        rw [pair_foot, pair_foot] at hto
        have hw0 : w.heap.size ∉ l :: o0.foot := fun hm => by
          rcases List.mem_cons.1 hm with h | h
          · omega
          · have := o0.lt ho _ h; omega
        have hsz : W1.heap.size = w.heap.size + 2 := by rw [← hW1]; simp
        refine ⟨to_in hu1 (by omega) hto h3, (show Dfr W1 w.heap.size from hK1).upd hto.up hw0, fun hm => ?_, h1, h2, h3⟩
        rcases hto.sub _ (List.mem_cons_of_mem _ hm) with h | h
        · exact hw0 h
        · omega
      have fin : ∀ {r : Loop} {o : Ob}, r.state ≠ .busy → W2.heap[l]? = some (.loop r) → l ∉ o.foot → o.ok W2 → To w o0.foot W2 o.foot → Dfr W2 w.heap.size → ∃ W3, (Instr.endLoop l).run P W2 = .ok r.pending W3 ∧ o.ok W3 ∧ To w o0.foot W3 o.foot ∧ Dfr W3 w.heap.size := fun {r o} hs hr hn h2 h3 h4 => by
        refine ⟨_, run_endLoop hr hs, o.keep h2 (upd_putObj W2 l _) (by intro k hk hm; rw [List.mem_singleton.1 hm] at hk; exact hn hk), ⟨h3.up.step (upd_putObj W2 l _) (by simp; omega), h3.sub⟩, h4.upd (upd_putObj W2 l _) (by simp; omega)⟩
      rcases hor with ⟨o, hG, he⟩ | ⟨i, hi, o, c, hG, he⟩
      · obtain ⟨h1, h2, h3, h4, h5, h6⟩ := hD he
        obtain ⟨W3, hr3, ho3, ht3, hd3⟩ := fin (by rw [hrec]; simp) h4 h6 h5 h1 h2
        refine ⟨none, W3, by rw [hr3, hrec], ?_⟩
        exact ⟨w.heap.size :: D, e, ⟨by simp [hk.defers], hk.size, hk.look⟩, done _ o W3 hG ho3 ht3 hd3 (Nat.le_refl _) h3⟩
      · obtain ⟨h1, h2, h3, h4, h5, h6⟩ := hD he
        obtain ⟨W3, hr3, ho3, ht3, hd3⟩ := fin (by rw [hrec]; simp) h4 h6 h5 h1 h2
        refine ⟨some c, W3, by rw [hr3, hrec], ?_⟩
        exact vr_sound (fun _ => rfl) c Q (w.heap.size :: D) e _ W3 ⟨by simp [hk.defers], hk.size, hk.look⟩ (stop _ c i o W3 hi hG ho3 ht3 hd3 (Nat.le_refl _) h3)
    · -- one round
      rintro i o' W va hva ⟨o, hG, rfl⟩ hok hto m
      obtain ⟨hlW, hoW, hnl⟩ := pair_ok hok
      rw [pair_foot, pair_foot] at hto
      have htw := to_in hu1 (by omega) hto hnl
      have hsz := hps va (List.mem_of_getElem? hva)
      have hy := run_yield (P := P) (args := va) hlW (by rw [hrec]; exact hsz)
      rw [hrec] at hy
      refine ⟨fn, _, asg, body, hy, roundIn_of_wpIn (F := wdF none) trivial ?_⟩
      obtain ⟨Wb, hWb⟩ : ∃ Wb, Wb = W.putObj l (.loop { rec .ready none with state := .busy }) := ⟨_, rfl⟩
      have hub : Upd [l] W Wb := by rw [hWb]; exact upd_putObj W l _
      have hlb : Wb.heap[l]? = some (.loop { rec .ready none with state := .busy }) := by rw [hWb]; exact World.putObj_heap_same (Array.getElem?_eq_some_iff.1 hlW).1
      have hob : o.ok Wb := o.keep hoW hub (by intro k hk hm; rw [List.mem_singleton.1 hm] at hk; exact hnl hk)
      have htb : To w o0.foot Wb o.foot := ⟨htw.up.step hub (by simp; omega), htw.sub⟩
      refine wpIn_mono (vr_sound (ro := some l) (top := false) (n := m) (fun h => by cases h) asg _ [] _ _ W (penv_act hlt hk) (round i va o W Wb hva hG htw hoW htb hob)) ?_
      rintro x a1 Wx ⟨D1, e1, hk1, rfl, rfl, hWx, hbody⟩
      replace hWx := hWx.symm
      subst hWx
      refine ⟨Wb, ?_, ?_⟩
      · have := run_beginRound (P := P) hlW (by rw [hrec])
        rw [hWb]; exact this
      refine wpIn_mono (vr_sound (ro := some l) (top := false) (n := m) (fun h => by cases h) body _ [] _ a1 Wb hk1 hbody) ?_
      have fin : ∀ {o' : Ob} {W2 : World} (jump : Option Code), o'.ok W2 → To Wb o.foot W2 o'.foot → (Instr.endRound l jump).run P W2 = .ok (.bool jump.isNone) (W2.putObj l (.loop (rec (if jump.isNone then .ready else .done) jump))) ∧
          (obAll [obObj l (.loop (rec (if jump.isNone then .ready else .done) jump)), o']).ok (W2.putObj l (.loop (rec (if jump.isNone then .ready else .done) jump))) ∧ To W (obAll [obObj l (.loop (rec .ready none)), o]).foot (W2.putObj l (.loop (rec (if jump.isNone then .ready else .done) jump))) (obAll [obObj l (.loop (rec (if jump.isNone then .ready else .done) jump)), o']).foot := fun {o' W2} jump h2 h3 => by
        have hlb2 : l < Wb.heap.size := (Array.getElem?_eq_some_iff.1 hlb).1
        have hl2 : W2.heap[l]? = some (.loop { rec .ready none with state := .busy }) := (h3.up.block l hlb2 hnl).trans hlb
        have hn2 : l ∉ o'.foot := fun hm => by
          rcases h3.sub l hm with h | h
          · exact hnl h
          · omega
        have hu2 := upd_putObj W2 l (.loop (rec (if jump.isNone then .ready else .done) jump))
        refine ⟨by have := run_endRound (P := P) jump hl2; rw [hrec] at this ⊢; exact this, pair_mk (World.putObj_heap_same (Array.getElem?_eq_some_iff.1 hl2).1) (o'.keep h2 hu2 (by intro k hk hm; rw [List.mem_singleton.1 hm] at hk; exact hn2 hk)) hn2, ?_⟩
        rw [pair_foot, pair_foot]
        have hzb := hub.size
        refine ⟨((hub.mono (by simp)).step h3.up (fun x hx => .inl (List.mem_cons_of_mem _ hx))).step hu2 (by simp), fun k hk => ?_⟩
        rcases List.mem_cons.1 hk with h | h
        · exact .inl (by rw [h]; simp)
        · rcases h3.sub k h with h1 | h1
          · exact .inl (List.mem_cons_of_mem _ h1)
          · right; omega
      rintro x a2 W2 ⟨D2, e2, hk2, hq⟩
      cases x with
      | normal =>
        obtain ⟨o', h1, h2, h3⟩ := hq
        obtain ⟨r1, r2, r3⟩ := fin none h1 h2
        exact ⟨_, _, r1, true, rfl, _, r2, r3, .inl ⟨rfl, o', h3, rfl⟩⟩
      | ret =>
        obtain ⟨o', h1, h2, h3⟩ := hq
        obtain ⟨r1, r2, r3⟩ := fin (some .ret) h1 h2
        exact ⟨_, _, r1, false, rfl, _, r2, r3, .inr ⟨rfl, o', _, h3, rfl⟩⟩
      | exit id =>
        obtain ⟨o', h1, h2, h3⟩ := hq
        obtain ⟨r1, r2, r3⟩ := fin (some (.exit id)) h1 h2
        exact ⟨_, _, r1, false, rfl, _, r2, r3, .inr ⟨rfl, o', _, h3, rfl⟩⟩
      | _ => exact hq.elim
end Go.Proofs.Ytdomclcokkijjaa

/- Contracts: lists that are told, those of them that are kept (seqs.Of, seqs.Only, Pile.Keep, of whole numbers). -/
namespace Go.Proofs.Ytdomclcokkijjaa
open Go.RowKit
attribute [local irreducible] Instr.loadAt Instr.storeAt Instr.fieldAt Instr.indexAt Instr.sliceAt Instr.buildSlice Instr.box Instr.alloc Builtin.append_ Builtin.len_ Builtin.min_ Builtin.max_ Calls Instr.build Instr.makeSlice binSem convert Instr.index Instr.range Instr.next
abbrev TIs : Nat := 22
abbrev TSq : Nat := 136
abbrev TKp : Nat := 52
instance : FnT Try.prog TSq := ⟨⟨_, _, _, Try.underlying136⟩⟩
instance : FnT Try.prog TKp := ⟨⟨_, _, _, Try.underlying52⟩⟩
/-- things in memory, of which all are so (they may lie in one another) -/
def obEv (l : List Ob) : Ob := ⟨feet l, fun w => ∀ x ∈ l, x.ok w, fun h hu hS x hx => x.keep (h x hx) hu (fun k hk => hS k (mem_feet.2 ⟨x, hx, hk⟩)), fun h k hk => by
  obtain ⟨x, hx, hk⟩ := mem_feet.1 hk
  exact x.lt (h x hx) k hk⟩
abbrev obIn (v : Value) (l : List Int) : Ob := obSl 3 1 v l.length (l.map (.int .i64))
def one1 (x : Int) : Array Value := #[.int .i64 x]
theorem of_c (v : Value) (w : World) : Fn Try.prog 116 #[v] w fun r w' => r = .func (.func 122) #[] #[.pointer (some ⟨w.heap.size, 0, none⟩)] ∧ (∀ a n c, v = .slice a n c → Blk w' w.heap.size TIs #[v]) ∧ Upd [] w w' := by
  refine fn_enter Try.func116 rfl rfl ?_
  refine bx fun w1 hb1 hu1 hs1 => ?_
  exact ⟨rfl, fun a n c h => by subst h; exact hb1, hu1⟩
theorem of_iter {b : Nat} {v : Value} {l : List Int} (hl : l.length ≤ 4294967296) : IterC Try.prog (.func (.func 122) #[] #[.pointer (some ⟨b, 0, none⟩)]) (l.map one1) (obEv [obBlk b TIs #[v], obIn v l]) := by
  refine ⟨_, _, rfl, HasBody.h, fun lp G Gx o0 W hA hap h0 ho hy => ?_⟩
  have hAk : ∀ {o : Ob} {w' : World}, To W o0.foot w' o.foot → Blk w' b TIs #[v] ∧ Sl w' 3 1 v l.length (l.map (.int .i64)) := fun {o w'} ht => by
    have h2 : (obEv [obBlk b TIs #[v], obIn v l]).ok w' := (obEv [obBlk b TIs #[v], obIn v l]).keep hA ht.up hap
    exact ⟨h2 (obBlk b TIs #[v]) (by simp), h2 (obIn v l) (by simp)⟩
  obtain ⟨hb0, hs0⟩ := hAk (To.refl W o0.foot)
  obtain ⟨va, vc, rfl, -⟩ := hs0.form
  refine fnr_enter Try.func122 rfl rfl ?_
  refine ldb hb0 rfl ?_
  refine len_sl ?_
  refine loop_ruleR [0, 5, 6] [7] (fun vs w' m => ∃ (i : Nat) (o : Ob), vs = [.int .i64 (i : Int)] ∧ i ≤ l.length ∧ m = l.length - i ∧ G i o ∧ o.ok w' ∧ To W o0.foot w' o.foot) rfl [.int .i64 0] l.length rfl ⟨0, o0, rfl, by omega, rfl, h0, ho, To.refl _ _⟩ ?_
  rintro _ w2 m ⟨i, o, rfl, hi, rfl, hG, hok, hto⟩
  refine cd (fun hlt => ?_) (fun hlt => ?_)
  · have hlt : i < l.length := by omega
    obtain ⟨hb2, hs2⟩ := hAk hto
    obtain ⟨vb, vo, vc', he, -⟩ := hs2.some_ (by omega)
    cases he
    refine ix i rfl hlt ?_
    refine ld (v := .int .i64 (l.getD i 0)) (hs2.getD_ rfl i hlt) ?_
    have hx : (l.map one1)[i]? = some (one1 (l.getD i 0)) := by rw [List.getElem?_map, List.getElem?_eq_getElem hlt]; simp [List.getD, hlt]
    refine yl (hy i o w2 (one1 (l.getD i 0)) hx hG hok hto) ?_
    rintro bb w3 ⟨o', hok', hto', ⟨rfl, hG'⟩ | ⟨rfl, hGx⟩⟩
    · refine ar64 (by omega) ?_
      exact round_mkR [.int .i64 ((i + 1 : Nat) : Int)] (l.length - (i + 1)) rfl rfl ⟨i + 1, o', rfl, by omega, rfl, hG', hok', hto.trans hto'⟩ (by omega)
    · exact ⟨o', hok', hto.trans hto', .inr ⟨i, by rw [List.length_map]; exact hlt, hGx⟩⟩
  · have hi : i = l.length := by omega
    subst hi
    exact ⟨o, hok, hto, .inl (by rw [List.length_map]; exact hG)⟩
/-- a function that tells what is kept -/
def KeepV (P : Program) (kv : Value) (l : List Int) (p : Int → Bool) (B : Ob) : Prop :=
  ∃ g lb, kv = .func (.func g) #[] lb ∧ (∀ args w, (callFunc g args).run P w = .ok (.enter g args) w) ∧ ∀ x ∈ l, ∀ w, B.ok w → Fn P g (#[] ++ [Value.int .i64 x].toArray ++ lb) w fun r w' => r = .bool (p x) ∧ Upd [] w w'
theorem cl' {P : Program} {K : Value → World → Prop} {w : World} {f : Nat} {args : Array Value} {R : Value → World → Prop} (hb : ∀ args w, (callFunc f args).run P w = .ok (.enter f args) w) (h : Fn P f args w R) (k : ∀ v w', R v w' → K v w') : CallP P f args K w :=
  have : HasBody P f := ⟨hb⟩
  cl h k
theorem only_c {g1 g2 : Nat} {x1 y1 x2 y2 : Array Value} (w : World) : Fn Try.prog 115 #[.func (.func g1) x1 y1, .func (.func g2) x2 y2] w fun r w' =>
    ∃ b1 b2, r = .func (.func 121) #[] #[.pointer (some ⟨b1, 0, none⟩), .pointer (some ⟨b2, 0, none⟩)] ∧ Blk w' b1 TSq #[.func (.func g1) x1 y1] ∧ Blk w' b2 TKp #[.func (.func g2) x2 y2] ∧ Upd [] w w' ∧ w.heap.size ≤ b1 ∧ b1 < b2 := by
  refine fn_enter Try.func115 rfl rfl ?_
  refine bx fun w1 hb1 hu1 hs1 => ?_
  refine bx fun w2 hb2 hu2 hs2 => ?_
  have hb12 := hb1.upd hu2 (by simp)
  refine ldb hb12 rfl ?_
  refine fn_eq ?_
  refine ldb hb2 rfl ?_
  refine fn_eq ?_
  exact ⟨_, _, rfl, hb12, hb2, hu1.trans hu2, Nat.le_refl _, by omega⟩
def cntK (p : Int → Bool) (l : List Int) (i : Nat) : Nat := ((l.take i).filter p).length
theorem cntK_s (p : Int → Bool) (l : List Int) (i : Nat) (h : i < l.length) : cntK p l (i + 1) = cntK p l i + (if p (l.getD i 0) then 1 else 0) := by
  unfold cntK
  rw [getD_take l i h, List.filter_append, List.length_append]
  generalize l.getD i 0 = x
  cases hp : p x <;> simp [hp]
theorem cntK_at (p : Int → Bool) (l : List Int) (i : Nat) (h : i < l.length) (hp : p (l.getD i 0) = true) : (l.filter p)[cntK p l i]? = some (l.getD i 0) := by
  have e : l.filter p = (l.take i).filter p ++ (l.getD i 0 :: (l.drop (i + 1)).filter p) := by
    rw [← List.filter_cons_of_pos (p := p) hp, ← getD_drop l i h, ← List.filter_append, List.take_append_drop]
  rw [e]
  unfold cntK
  rw [List.getElem?_append_right (Nat.le_refl _), Nat.sub_self]
  rfl
set_option maxRecDepth 10000 in
theorem only_iter {b1 b2 : Nat} {fv kv : Value} {l : List Int} {A B : Ob} {p : Int → Bool} (it : IterC Try.prog fv (l.map one1) A) (hk : KeepV Try.prog kv l p B) (hfv : ∃ g x y, fv = .func (.func g) x y) :
    IterC Try.prog (.func (.func 121) #[] #[.pointer (some ⟨b1, 0, none⟩), .pointer (some ⟨b2, 0, none⟩)]) ((l.filter p).map one1) (obEv [A, B, obBlk b1 TSq #[fv], obBlk b2 TKp #[kv]]) := by
  obtain ⟨gk, lk, rfl, hbk, hk⟩ := hk
  refine ⟨_, _, rfl, HasBody.h, fun lp G Gx o0 W hA hap h0 ho hy => ?_⟩
  have hapl : ∀ k ∈ feet [A, B, obBlk b1 TSq #[fv], obBlk b2 TKp #[.func (.func gk) #[] lk]], k ∉ o0.foot := hap
  have hB1 : Blk W b1 TSq #[fv] := hA (obBlk b1 TSq #[fv]) (by simp)
  obtain ⟨g1, x1, y1, rfl⟩ := hfv
  refine fnr_enter Try.func121 rfl rfl ?_
  refine bx fun w1 hb1 hu1 hs1 => ?_
  have hb1 : Blk w1 W.heap.size TKp #[.func (.yield lp) #[] #[]] := hb1
  refine ldb (hB1.upd hu1 (by simp)) rfl ?_
  have hy0 : W.heap.size ∉ o0.foot := fun hm => by have := o0.lt ho _ hm; omega
  refine ⟨rfl, range_rule it (A.keep (hA A (by simp)) hu1 (by simp)) (fun i o => G (cntK p l i) o) (fun c i o => c = .ret ∧ ∃ j, j < (l.filter p).length ∧ Gx j o) o0 (by simpa [cntK] using h0) (o0.keep ho hu1 (by simp)) (fun k hk => hapl k (mem_feet.2 ⟨A, by simp, hk⟩)) (fun va hva => by
      obtain ⟨x, -, rfl⟩ := List.mem_map.1 hva; rfl) (by decide) (fun i va o w2 w3 hva hG ht2 ho2 ht3 ho3 => ?_) (fun r o w2 hG ho2 ht2 hd hr hro => ?_) (fun r c i o w2 hi hGx ho2 ht2 hd hr hro => ?_)⟩
  · have hil : i < l.length := by
      rcases Nat.lt_or_ge i l.length with h | h
      · exact h
      · rw [List.getElem?_eq_none (by simpa using h)] at hva; cases hva
    have hx : va = one1 (l.getD i 0) := by
      rw [List.getElem?_map, List.getElem?_eq_getElem hil] at hva
      have := Option.some.inj hva
      rw [← this]; simp [List.getD, hil]
    subst hx
    have hcs := cntK_s p l i hil
    have hmem : l.getD i 0 ∈ l := by simp [List.getD, hil]
    have hat := cntK_at p l i hil
    generalize l.getD i 0 = x at *
    have hup : Upd o0.foot W w3 := (hu1.mono (by simp)).trans ht3.up
    have hA3 : (obEv [A, B, obBlk b1 TSq #[.func (.func g1) x1 y1], obBlk b2 TKp #[.func (.func gk) #[] lk]]).ok w3 := (obEv [A, B, obBlk b1 TSq #[.func (.func g1) x1 y1], obBlk b2 TKp #[.func (.func gk) #[] lk]]).keep hA hup hapl
    have hy3 := hb1.upd ht3.up hy0
    refine ⟨rfl, rfl, rfl, ?_⟩
    refine ldb (hA3 (obBlk b2 TKp #[.func (.func gk) #[] lk]) (by simp)) rfl ?_
    refine cl' hbk (hk x hmem w3 (hA3 B (by simp))) ?_
    rintro _ w4 ⟨rfl, hu4⟩
    have ho4 := o.keep ho3 hu4 (by simp)
    have htr : To W o0.foot w4 o.foot := ⟨hup.trans (hu4.mono (by simp)), fun k hk => by
      rcases ht3.sub k hk with h | h
      · exact .inl h
      · have := hu1.size; right; omega⟩
    cases hp : p x with
    | true =>
      rw [hp] at hcs
      refine ldb (hy3.upd hu4 (by simp)) rfl ?_
      refine yl (hy (cntK p l i) o w4 (one1 x) (by rw [List.getElem?_map, hat hp]; rfl) hG ho4 htr) ?_
      rintro bb w5 ⟨o', hok', hto', ⟨rfl, hG'⟩ | ⟨rfl, hGx⟩⟩
      · exact ⟨o', hok', (To.of0 _ hu4).trans hto', (show G (cntK p l (i + 1)) o' by rw [hcs]; exact hG')⟩
      · refine ⟨o', hok', (To.of0 _ hu4).trans hto', rfl, cntK p l i, ?_, hGx⟩
        have := hat hp
        rcases Nat.lt_or_ge (cntK p l i) (l.filter p).length with h | h
        · exact h
        · rw [List.getElem?_eq_none h] at this; cases this
    | false =>
      rw [hp] at hcs
      exact ⟨o, ho4, To.of0 _ hu4, (show G (cntK p l (i + 1)) o by rw [hcs]; exact hG)⟩
  · have e : cntK p l (l.map one1).length = ((l.filter p).map one1).length := by simp [cntK]
    replace hG : G (cntK p l (l.map one1).length) o := hG
    rw [e] at hG
    refine ⟨hd, fun w' hu hz => ⟨o, o.keep ho2 hu (by intro k hk hm; rw [List.mem_singleton.1 hm] at hk; exact hro hk), ⟨((hu1.mono (by simp)).trans ht2.up).step hu (by have := hu1.size; simp; omega), fun k hk => ?_⟩, .inl hG⟩⟩
    rcases ht2.sub k hk with h | h
    · exact .inl h
    · have := hu1.size; right; omega
  · obtain ⟨rfl, j, hj, hGx⟩ := hGx
    refine ⟨hd, fun w' hu hz => ⟨o, o.keep ho2 hu (by intro k hk hm; rw [List.mem_singleton.1 hm] at hk; exact hro hk), ⟨((hu1.mono (by simp)).trans ht2.up).step hu (by have := hu1.size; simp; omega), fun k hk => ?_⟩, .inr ⟨j, by rw [List.length_map]; exact hj, hGx⟩⟩⟩
    rcases ht2.sub k hk with h | h
    · exact .inl h
    · have := hu1.size; right; omega
/-- a list that grows, in its box -/
structure BoxL (bl : Nat) (l : List Int) (i : Nat) (o : Ob) : Prop where
  h : ∃ v, o = obAll [obBlk bl TIs #[v], obIn v (l.take i)]
theorem Upd.own {w w' : World} {v v' : Value} (h : Grow w w' v v') : To w v.ownBlock.toList w' v'.ownBlock.toList := ⟨h.up, fun k hk => by
  rcases h.own k (by simpa using hk) with h1 | h1
  · exact .inl (by simpa using h1)
  · exact .inr h1⟩
theorem BoxL.add {w w1 w2 w3 : World} {bl i : Nat} {l : List Int} {v v' : Value} (hok : (obAll [obBlk bl TIs #[v], obIn v (l.take i)]).ok w) (hi : i < l.length) (hu1 : Upd [] w w1) (hG : Grow w1 w2 v v') (hs : Sl w2 3 1 v' ((l.take i).length + 1) ((l.take i).map (.int .i64) ++ [.int .i64 (l.getD i 0)]))
    (hb : Blk w3 bl TIs #[v']) (hu3 : Upd [bl] w2 w3) : (obAll [obBlk bl TIs #[v'], obIn v' (l.take (i + 1))]).ok w3 ∧ To w (obAll [obBlk bl TIs #[v], obIn v (l.take i)]).foot w3 (obAll [obBlk bl TIs #[v'], obIn v' (l.take (i + 1))]).foot := by
  have hok : Sep w [obBlk bl TIs #[v], obIn v (l.take i)] := hok
  have S1 := hok.upd0 hu1
  have hs' : (obIn v' (l.take (i + 1))).ok w2 := by
    show Sl w2 _ 1 v' (l.take (i + 1)).length _
    rw [getD_take l i hi, List.length_append, List.map_append]
    exact hs
  have t2 : To w1 (obIn v (l.take i)).foot w2 (obIn v' (l.take (i + 1))).foot := Upd.own hG
  have S2 := Sep.set (i := 1) (x := obIn v (l.take i)) (y := obIn v' (l.take (i + 1))) S1 rfl hs' t2
  have t3 : To w2 (obBlk bl TIs #[v]).foot w3 (obBlk bl TIs #[v']).foot := ⟨hu3, fun _ h => .inl h⟩
  have S3 := Sep.set (i := 0) (x := obBlk bl TIs #[v]) (y := obBlk bl TIs #[v']) S2 rfl hb t3
  exact ⟨S3, ((To.of0 _ hu1).trans (To.set (l := [obBlk bl TIs #[v], obIn v (l.take i)]) (i := 1) (x := obIn v (l.take i)) rfl t2)).trans (To.set (i := 0) (x := obBlk bl TIs #[v]) (y := obBlk bl TIs #[v']) rfl t3)⟩
set_option maxRecDepth 10000 in
theorem keep_c {w : World} {pg pi T : Nat} {cs : Array Value} {v : Value} {l : List Int} {kv : Value} {p : Int → Bool} {B : Ob} (hb : Blk w pg T cs) (hcs : cs[pi]? = some v) (hs : Sl w 3 1 v l.length (l.map (.int .i64))) (hl : l.length ≤ 100000) (hT : T ≠ TIs ∧ 3 ≠ T) (hk : KeepV Try.prog kv l p B) (hB : B.ok w) :
    Fn Try.prog 110 #[.pointer (some ⟨pg, pi, none⟩), kv] w fun r w' => ∃ v', r = .int .i64 ((l.length : Int) - (l.filter p).length) ∧ Blk w' pg T (cs.setIfInBounds pi v') ∧ Sl w' 3 1 v' (l.filter p).length ((l.filter p).map (.int .i64)) ∧ Upd [pg] w w' ∧ ∀ g, v'.ownBlock = some g → w.heap.size ≤ g := by
  obtain ⟨va, vc, rfl, -⟩ := hs.form
  have hk' := hk
  obtain ⟨gk, lk, rfl, -, -⟩ := hk'
  have hlf : (l.filter p).length ≤ l.length := List.length_filter_le _ _
  have hpi : pi < cs.size := by
    rcases Nat.lt_or_ge pi cs.size with h | h
    · exact h
    · rw [Array.getElem?_eq_none h] at hcs; cases hcs
  refine fnr_enter Try.func110 rfl rfl ?_
  refine ptr_eq ?_
  refine fn_eq ?_
  refine al #[.slice none 0 0] (fun _ => by kernel_rfl) fun w1 hb1 hu1 hs1 => ?_
  have hb1 : Blk w1 w.heap.size TIs #[.slice none 0 0] := hb1
  refine fa ?_
  refine ld (v := .slice va l.length vc) (by rw [(hb.upd hu1 (by simp)).cell]; exact hcs) ?_
  refine cl (of_c (.slice va l.length vc) w1) ?_
  rintro _ w2 ⟨rfl, hv2, hu2⟩
  have hb2 := hv2 va l.length vc rfl
  refine cl (only_c w2) ?_
  rintro _ w3 ⟨b1, b2, rfl, hq1, hq2, hu3, hz1, hz2⟩
  have hz12 : w1.heap.size ≤ w2.heap.size := hu2.size
  have hU3 : Upd [] w w3 := (hu1.trans hu2).trans hu3
  have hbl3 := (hb1.upd hu2 (by simp)).upd hu3 (by simp)
  have hof := of_iter (b := w1.heap.size) (v := .slice va l.length vc) (l := l) (by omega)
  have hon := only_iter (b1 := b1) (b2 := b2) hof hk ⟨_, _, _, rfl⟩
  have hb23 := hb2.upd hu3 (by simp)
  have hs3 := hs.upd hU3 (by simp)
  have hd2 : w1.heap.size = w.heap.size + 1 := hs1
  refine ⟨rfl, range_rule hon (w := w3) ?_ (fun i o => ∃ v', o = obAll [obBlk w.heap.size TIs #[v'], obIn v' ((l.filter p).take i)]) (fun _ _ _ => False) (obAll [obBlk w.heap.size TIs #[.slice none 0 0], obIn (.slice none 0 0) []]) ⟨.slice none 0 0, rfl⟩ ?_ ?_ (fun va hva => by
      obtain ⟨x, -, rfl⟩ := List.mem_map.1 hva; rfl) (by decide) (fun i va o w4 w5 hva hG ht4 ho4 ht5 ho5 => ?_) (fun r o w4 hG ho4 ht4 hd hr hro => ?_) (fun r c i o w4 hi hGx _ _ _ _ _ => hGx.elim)⟩
  · intro x hx
    simp only [List.mem_cons, List.not_mem_nil, or_false] at hx
    rcases hx with rfl | rfl | rfl | rfl
    · intro y hy
      simp only [List.mem_cons, List.not_mem_nil, or_false] at hy
      rcases hy with rfl | rfl
      · exact hb23
      · exact hs3
    · exact x.keep hB hU3 (by simp)
    · exact hq1
    · exact hq2
  · exact Sep.cons (Sep.cons (Sep.nil w3) (Sl.nil_ _ _ _) (by simp [feet])) hbl3 (by simp [feet, obSl, Value.ownBlock])
  · intro k hk hm
    have e : k = w.heap.size := by simpa [obAll, feet, obBlk, obSl, Value.ownBlock] using hm
    subst e
    simp only [obEv, feet, obBlk, obSl, List.flatMap_cons, List.flatMap_nil, List.append_nil, List.mem_append, List.mem_singleton] at hk
    rcases hk with (h | h) | h | h | h
    · omega
    · have := hs.lt _ (by simpa using h); omega
    · have := B.lt hB _ h; omega
    · omega
    · omega
  · obtain ⟨v', rfl⟩ := hG
    have hil : i < (l.filter p).length := by
      rcases Nat.lt_or_ge i (l.filter p).length with h | h
      · exact h
      · rw [List.getElem?_eq_none (by simpa using h)] at hva; cases hva
    have hx : va = one1 ((l.filter p).getD i 0) := by
      rw [List.getElem?_map, List.getElem?_eq_getElem hil] at hva
      have := Option.some.inj hva
      rw [← this]; simp [List.getD, hil]
    subst hx
    have ho5' : Sep w5 [obBlk w.heap.size TIs #[v'], obIn v' ((l.filter p).take i)] := ho5
    have hblk : Blk w5 w.heap.size TIs #[v'] := ho5'.ok (obBlk w.heap.size TIs #[v']) (by simp)
    have hsl : Sl w5 3 1 v' ((l.filter p).take i).length (((l.filter p).take i).map (.int .i64)) := ho5'.ok (obIn v' ((l.filter p).take i)) (by simp)
    have hln : ((l.filter p).take i).length = i := by rw [List.length_take]; omega
    refine ⟨rfl, rfl, rfl, ?_⟩
    refine ldb hblk rfl ?_
    refine bs (one1 ((l.filter p).getD i 0)) (fun _ => by kernel_rfl) fun w6 hb6 hu6 hs6 => ?_
    refine apg (hsl.upd hu6 (by simp)) hb6 rfl rfl (by decide) (by simp only [maxLen]; omega) (by omega) fun v2 w7 hs7 hG7 => ?_
    have hnb := hsl.blk_ne hblk (by decide)
    have hb7 := (hblk.upd hu6 (by simp)).upd hG7.up (by simpa using hnb)
    obtain ⟨v2a, v2c, rfl, -⟩ := hs7.form
    refine st hb7 (by show 0 < 1; omega) rfl fun w8 hb8 hu8 hs8 => ?_
    obtain ⟨r1, r2⟩ := BoxL.add ho5 hil hu6 hG7 hs7 hb8 hu8
    exact ⟨_, r1, r2, _, rfl⟩
  · obtain ⟨v', rfl⟩ := hG
    have hfull : (l.filter p).take ((l.filter p).map one1).length = l.filter p := by rw [List.length_map, List.take_length]
    rw [hfull] at ho4 hro ht4
    have ho4' : Sep w4 [obBlk w.heap.size TIs #[v'], obIn v' (l.filter p)] := ho4
    have hblk : Blk w4 w.heap.size TIs #[v'] := ho4'.ok (obBlk w.heap.size TIs #[v']) (by simp)
    have hsl : Sl w4 3 1 v' (l.filter p).length ((l.filter p).map (.int .i64)) := ho4'.ok (obIn v' (l.filter p)) (by simp)
    have hfoot0 : (obAll [obBlk w.heap.size TIs #[.slice none 0 0], obIn (.slice none 0 0) []]).foot = [w.heap.size] := by simp [obAll, feet, obBlk, obSl, Value.ownBlock]
    rw [hfoot0] at ht4
    have hpg := hb.lt
    have hb4 := ((hb.upd hU3 (by simp)).upd ht4.up (by simp; omega))
    have hU4 : Upd [] w w4 := hU3.step ht4.up (by simp)
    obtain ⟨va', vc', rfl, -⟩ := hsl.form
    have hown : ∀ g, (Value.slice va' (l.filter p).length vc').ownBlock = some g → w.heap.size ≤ g := fun g hg => by
      rcases ht4.sub g (mem_feet.2 ⟨obIn (.slice va' (l.filter p).length vc') (l.filter p), by simp, by simp [obSl, hg]⟩) with h | h
      · simp at h; omega
      · have := hU3.size; omega
    refine draw_allR (fun w' => w' = w4.drew) (by decide +kernel) rfl ?_
    refine q_fa ?_
    refine q_ld (v := .slice va l.length vc) (by rintro _ rfl; rw [hb4.drew.cell]; exact hcs) ?_
    refine q_len ?_
    refine q_ld (v := .slice va' (l.filter p).length vc') (by rintro _ rfl; exact hblk.drew.cell 0) ?_
    refine q_len ?_
    refine q_ar64 (by omega) ?_
    rintro _ rfl
    refine ldb hblk.drew rfl ?_
    refine fa ?_
    refine st hb4.drew hpi rfl fun w6 hb6 hu6 hs6 => ?_
    refine ⟨(hd.upd (Upd.refl [] w4).drew (by simp)).upd hu6 (by have := hU3.size; simp; omega), fun w7 hu7 hz7 => ?_⟩
    have hrn : r ∉ ([pg] : List Nat) := by have := hU3.size; simp; omega
    refine ⟨_, rfl, hb6.upd hu7 (by have := hU3.size; simp; omega), ?_, ((hU4.drew.mono (by simp)).step hu6 (by simp)).step hu7 (by have := hU3.size; simp; omega), hown⟩
    have hs6 := hsl.drew.upd hu6 (by intro g hg; have := hown g hg; simp; omega)
    refine hs6.upd hu7 (fun g hg hm => ?_)
    have e : g = r := List.mem_singleton.1 hm
    subst e
    exact hro (mem_feet.2 ⟨obIn (.slice va' (l.filter p).length vc') (l.filter p), by simp, by simp [obSl, hg]⟩)
end Go.Proofs.Ytdomclcokkijjaa

/- A machine, as what it holds: its steps as functions on that. -/
namespace Go.Proofs.Ytdomclcokkijjaa
open Go.RowKit
attribute [local irreducible] Instr.loadAt Instr.storeAt Instr.fieldAt Instr.indexAt Instr.sliceAt Instr.buildSlice Instr.box Instr.alloc Builtin.append_ Builtin.len_ Builtin.min_ Builtin.max_ Calls Instr.build Instr.makeSlice binSem convert Instr.index Instr.range Instr.next
structure PT where
  fs : List Fr
  r : Int × Int × Int
  (P S W R O : List Int)
structure PS where
  c : Cf
  W : List Int
  k : Int
  gh : Option (List Int × Int × Int)
  (acted bad : Bool)
  ths : List PT
def absT (t : Th) : PT := ⟨t.fs, t.r, t.P, t.S, t.W, t.R, t.O⟩
def absG (g : Gs) : List Int × Int × Int := (g.tags, g.k, g.n)
def Mc.abs (X : Mc) : PS := ⟨X.c, X.s.W, X.s.k, X.gs.map absG, X.acted, X.bad, X.ths.map absT⟩
/-- what a step leaves as it was -/
structure Kin (X X' : Mc) : Prop where
  m : X'.m = X.m
  mp : X'.mp = X.mp
  gp : X'.gs.map (·.p) = X.gs.map (·.p)
  ptr : X'.ths.map (·.g) = X.ths.map (·.g)
  calm : X.s.on = false ∧ X.s.L = [] → X'.s.on = false ∧ X'.s.L = []
theorem Kin.refl (X : Mc) : Kin X X := ⟨rfl, rfl, rfl, rfl, id⟩
theorem Kin.trans {X Y Z : Mc} (h : Kin X Y) (k : Kin Y Z) : Kin X Z := ⟨k.m.trans h.m, k.mp.trans h.mp, k.gp.trans h.gp, k.ptr.trans h.ptr, fun hc => k.calm (h.calm hc)⟩
theorem Kin.len {X Y : Mc} (h : Kin X Y) : Y.ths.length = X.ths.length := by
  have := congrArg List.length h.ptr
  simpa using this
theorem Kin.g {X Y : Mc} (h : Kin X Y) {i : Nat} {t : Th} (hi : X.ths[i]? = some t) : ∃ t', Y.ths[i]? = some t' ∧ t'.g = t.g := by
  have hl := h.len
  have hlt := (List.getElem?_eq_some_iff.1 hi).1
  have hY : Y.ths[i]? = some (Y.ths[i]'(by omega)) := List.getElem?_eq_getElem _
  refine ⟨_, hY, ?_⟩
  have := congrArg (fun l => l[i]?) h.ptr
  simp only [List.getElem?_map, hi, hY, Option.map_some] at this
  exact Option.some.inj this
/-- the machine has become p -/
def Ev (w : World) (X : Mc) (w' : World) (p : PS) : Prop := ∃ X', Post w X w' X' ∧ Kin X X' ∧ X'.abs = p
/-- .. and its threads are as they were -/
def EvM (w : World) (X : Mc) (w' : World) (p : PS) : Prop := ∃ X', Post w X w' X' ∧ Kin X X' ∧ X'.abs = p ∧ X'.ths = X.ths
theorem EvM.ev {w w' : World} {X : Mc} {p : PS} (h : EvM w X w' p) : Ev w X w' p := let ⟨X', h1, h2, h3, _⟩ := h; ⟨X', h1, h2, h3⟩
theorem Ev.before {w w1 w2 : World} {X X1 : Mc} {p : PS} (h : Post w X w1 X1) (k : Kin X X1) (h2 : Ev w1 X1 w2 p) : Ev w X w2 p := let ⟨X', a, b, c⟩ := h2; ⟨X', h.trans a, k.trans b, c⟩
namespace PS
def okP (p : PS) (a : Int) : Prop := 0 ≤ a ∧ a < p.W.length
instance (p : PS) (a : Int) : Decidable (p.okP a) := inferInstanceAs (Decidable (_ ∧ _))
def tchd (p : PS) (l : List Int) : Option (List Int × Int × Int) := l.foldl (fun g a => g.map fun x => if (p.c.where_ a).1 = 3 then (x.1, gto x.1 x.2.1 x.2.2 (p.c.where_ a).2.1) else x) p.gh
def rd (p : PS) (a : Int) : Int := p.W.getD a.toNat 0
def ldv (p : PS) (a : Int) : Int := if p.okP a then p.rd a else 0
def load (p : PS) (a : Int) : PS := { p with acted := true, gh := p.tchd [a], k := if p.okP a then p.k + 1 else p.k, bad := p.bad || !decide (p.okP a) }
def store (p : PS) (a x : Int) : PS := { p with acted := true, gh := p.tchd [a], W := if p.okP a then p.W.set a.toNat x else p.W, k := if p.okP a then p.k + 1 else p.k, bad := p.bad || !decide (p.okP a) }
def casv (p : PS) (a o : Int) : Bool := decide (p.okP a ∧ p.rd a = o)
def cas (p : PS) (a o n : Int) : PS := { p with acted := true, gh := p.tchd [a], W := if p.okP a ∧ p.rd a = o then p.W.set a.toNat n else p.W, k := if p.okP a then p.k + 1 else p.k, bad := p.bad || !decide (p.okP a) }
def deed (p : PS) (i frm to kind : Int) : PS := { p with gh := p.gh.map fun x => (gt x.1 x.2.1 x.2.2 i frm to kind).2 }
def put (p : PS) (i : Nat) (t : PT) : PS := { p with ths := p.ths.set i t }
def tagl (p : PS) : List Int := match p.gh with | none => [] | some x => x.1
structure Ok (p : PS) (b : Int) : Prop where
  r : rightC p.c
  t : p.tagl.length ≤ 64
  k0 : 0 ≤ p.k
  k1 : p.k ≤ b
  w : ∀ x ∈ p.W, 0 ≤ x ∧ x ≤ 18446744073709551615
  l : p.W.length = (sizeP p.c.A p.c.T p.c.N p.c.L).toNat
end PS
structure Good (X : Mc) (b : Int) : Prop where
  ok : X.abs.Ok b
  calm : X.s.on = false ∧ X.s.L = []
section
variable {w w' : World} {X : Mc} {b : Int}
theorem gtags_abs (X : Mc) : gtags X.gs = X.abs.tagl := by
  unfold PS.tagl Mc.abs
  cases X.gs <;> rfl
theorem Good.tg (h : Good X b) : (gtags X.gs).length ≤ 64 := by rw [gtags_abs]; exact h.ok.t
theorem Good.room (h : Good X b) (hb : b ≤ 1000000) : Roomy X.s := ⟨h.ok.k0, by have := h.ok.k1; have : X.s.k ≤ b := this; omega, by rw [h.calm.2]; decide⟩
theorem abs_tch (c : Cf) (g : Gs) (a : Int) : absG (tchG c g a) = if (c.where_ a).1 = 3 then (g.tags, gto g.tags g.k g.n (c.where_ a).2.1) else absG g := by
  unfold tchG
  split <;> rfl
theorem abs_tchs (c : Cf) (l : List Int) : ∀ gs : Option Gs, (tchs c gs l).map absG = l.foldl (fun g a => g.map fun x => if (c.where_ a).1 = 3 then (x.1, gto x.1 x.2.1 x.2.2 (c.where_ a).2.1) else x) (gs.map absG) := by
  induction l with
  | nil => intro gs; rfl
  | cons a l ih =>
    intro gs
    have e : (tch c gs a).map absG = (gs.map absG).map fun x => if (c.where_ a).1 = 3 then (x.1, gto x.1 x.2.1 x.2.2 (c.where_ a).2.1) else x := by
      cases gs with
      | none => rfl
      | some g => exact congrArg some (abs_tch c g a)
    show (tchs c (tch c gs a) l).map absG = _
    rw [ih, e]; rfl
theorem tch_ptr (c : Cf) (l : List Int) : ∀ gs : Option Gs, (tchs c gs l).map (·.p) = gs.map (·.p) := by
  induction l with
  | nil => intro gs; rfl
  | cons a l ih =>
    intro gs
    show (tchs c (tch c gs a) l).map (·.p) = _
    rw [ih]
    cases gs with
    | none => rfl
    | some g =>
      refine congrArg some ?_
      unfold tchG
      split <;> rfl
theorem okA_abs (X : Mc) (a : Int) : okA X.s a ↔ X.abs.okP a := Iff.rfl
theorem load_p (h : Mach w X) (hg : Good X b) (hb : b ≤ 1000000) (a : Int) : Fn Try.prog 45 #[ptrV X.m, .int .i64 a] w fun r w' => r = .int .u64 (X.abs.ldv a) ∧ EvM w X w' (X.abs.load a) := by
  refine (load_m h hg.ok.r hg.tg (hg.room hb) a).mono fun _ w' ⟨u, he, h1, lv, p⟩ => ⟨u, he, h1, _, p, ⟨rfl, rfl, tch_ptr X.c [a] X.gs, rfl, fun hc => ?_⟩, ?_, rfl⟩
  · show (ldS X.s a).on = false ∧ (ldS X.s a).L = []
    unfold ldS
    split
    · exact ⟨hc.1, by show (if X.s.on then _ else X.s.L) = []; rw [hc.1]; exact hc.2⟩
    · exact hc
  · unfold Mc.abs PS.load
    have e1 := abs_tchs X.c [a] X.gs
    have e2 : (ldS X.s a).W = X.s.W := by unfold ldS; split <;> rfl
    have e3 : (ldS X.s a).k = if X.abs.okP a then X.s.k + 1 else X.s.k := by
      unfold ldS
      by_cases ha : okA X.s a
      · rw [if_pos ha, if_pos ((okA_abs X a).1 ha)]; rfl
      · rw [if_neg ha, if_neg (fun h => ha ((okA_abs X a).2 h))]
    simp only [e2, e3]
    congr 1
theorem store_p (h : Mach w X) (hg : Good X b) (hb : b ≤ 1000000) (a x : Int) : Fn Try.prog 77 #[ptrV X.m, .int .i64 a, .int .u64 x] w fun _ w' => EvM w X w' (X.abs.store a x) := by
  refine (store_mm h hg.ok.r hg.tg (hg.room hb) a x).mono fun _ w' ⟨u, he, lv, p⟩ => ⟨u, he, _, p, ⟨rfl, rfl, tch_ptr X.c [a] X.gs, rfl, fun hc => ?_⟩, ?_, rfl⟩
  · show (stM X.s a x).on = false ∧ (stM X.s a x).L = []
    rw [stM_def]
    split
    · exact ⟨hc.1, by show (if X.s.on then _ else X.s.L) = []; rw [hc.1]; exact hc.2⟩
    · exact hc
  · unfold Mc.abs PS.store
    have e1 := abs_tchs X.c [a] X.gs
    have e2 : (stM X.s a x).W = if X.abs.okP a then X.s.W.set a.toNat x else X.s.W := by
      rw [stM_def]
      by_cases ha : okA X.s a
      · rw [if_pos ha, if_pos ((okA_abs X a).1 ha)]; rfl
      · rw [if_neg ha, if_neg (fun h => ha ((okA_abs X a).2 h))]
    have e3 : (stM X.s a x).k = if X.abs.okP a then X.s.k + 1 else X.s.k := by
      rw [stM_def]
      by_cases ha : okA X.s a
      · rw [if_pos ha, if_pos ((okA_abs X a).1 ha)]; rfl
      · rw [if_neg ha, if_neg (fun h => ha ((okA_abs X a).2 h))]
    simp only [e2, e3]
    congr 1
theorem cas_p (h : Mach w X) (hg : Good X b) (hb : b ≤ 1000000) (a o n : Int) : Fn Try.prog 78 #[ptrV X.m, .int .i64 a, .int .u64 o, .int .u64 n] w fun r w' => r = .bool (X.abs.casv a o) ∧ EvM w X w' (X.abs.cas a o n) := by
  refine (cas_m h hg.ok.r hg.tg (hg.room hb) a o n).mono fun _ w' ⟨u, he, h1, lv, p⟩ => ⟨u, he, h1, _, p, ⟨rfl, rfl, tch_ptr X.c [a] X.gs, rfl, fun hc => ?_⟩, ?_, rfl⟩
  · show (casS X.s a o n).on = false ∧ (casS X.s a o n).L = []
    unfold casS
    split
    · have hw : ∀ s' : MS, s'.on = X.s.on → s'.L = X.s.L → ∀ x, (tick s' x).on = false ∧ (tick s' x).L = [] := fun s' h1 h2 x => ⟨by rw [← hc.1, ← h1]; rfl, by show (if s'.on then _ else s'.L) = []; rw [h1, hc.1, h2]; exact hc.2⟩
      split
      · exact hw _ rfl rfl _
      · exact hw _ rfl rfl _
    · exact hc
  · unfold Mc.abs PS.cas
    have e1 := abs_tchs X.c [a] X.gs
    have e2 : (casS X.s a o n).W = if X.abs.okP a ∧ X.abs.rd a = o then X.s.W.set a.toNat n else X.s.W := by
      unfold casS
      by_cases ha : okA X.s a
      · rw [if_pos ha]
        by_cases hr : rd X.s a = o
        · rw [if_pos hr, if_pos ⟨(okA_abs X a).1 ha, hr⟩]; rfl
        · rw [if_neg hr, if_neg (fun h => hr h.2)]; rfl
      · rw [if_neg ha, if_neg (fun h => ha ((okA_abs X a).2 h.1))]
    have e3 : (casS X.s a o n).k = if X.abs.okP a then X.s.k + 1 else X.s.k := by
      unfold casS
      by_cases ha : okA X.s a
      · rw [if_pos ha, if_pos ((okA_abs X a).1 ha)]
        split <;> rfl
      · rw [if_neg ha, if_neg (fun h => ha ((okA_abs X a).2 h))]
    simp only [e2, e3]
    congr 1
theorem took_p (h : Mach w X) (hg : Good X b) (i : Int) : Fn Try.prog 23 #[ptrV X.m, .int .i64 i] w fun _ w' => EvM w X w' (X.abs.deed i 0 1 1) := by
  have hb16 : (machC X.c (ptrV X.mp) (gvOf X.gs) (ptrV X.fp) X.tv X.acted X.bad).toList[16]? = some (gvOf X.gs) := by cases X.c; rfl
  have hb := h.blk
  have hG := h.gh
  have ht := hg.tg
  refine fn_enter Try.func23 rfl rfl ?_
  refine cl (watched_mm h) ?_
  rintro _ _ ⟨rfl, rfl⟩
  rename_i w1
  cases hgs : X.gs with
  | none =>
    refine ⟨X, .refl h, .refl X, ?_, rfl⟩
    unfold Mc.abs PS.deed
    rw [hgs]; rfl
  | some g =>
    rw [hgs] at hb16 hb hG ht
    refine fa ?_
    refine ldb hb hb16 ?_
    refine cl (alloc_c (show IsG w1 g.p g.v g.tags g.k g.n from hG) ht i) ?_
    rintro _ w2 ⟨h1, h2⟩
    have p := h.setGh (g' := ⟨g.p, g.v, (gt g.tags g.k g.n i 0 1 1).2.1, (gt g.tags g.k g.n i 0 1 1).2.2.1, (gt g.tags g.k g.n i 0 1 1).2.2.2⟩) hgs rfl rfl h1 h2
    refine ⟨_, p, ⟨rfl, rfl, by rw [hgs]; rfl, rfl, id⟩, ?_, rfl⟩
    unfold Mc.abs PS.deed
    rw [hgs]; rfl
theorem gone_p (h : Mach w X) (hg : Good X b) (i : Int) : Fn Try.prog 25 #[ptrV X.m, .int .i64 i] w fun _ w' => EvM w X w' (X.abs.deed i 1 2 2) := by
  have hb16 : (machC X.c (ptrV X.mp) (gvOf X.gs) (ptrV X.fp) X.tv X.acted X.bad).toList[16]? = some (gvOf X.gs) := by cases X.c; rfl
  have hb := h.blk
  have hG := h.gh
  have ht := hg.tg
  refine fn_enter Try.func25 rfl rfl ?_
  refine cl (watched_mm h) ?_
  rintro _ _ ⟨rfl, rfl⟩
  rename_i w1
  cases hgs : X.gs with
  | none =>
    refine ⟨X, .refl h, .refl X, ?_, rfl⟩
    unfold Mc.abs PS.deed
    rw [hgs]; rfl
  | some g =>
    rw [hgs] at hb16 hb hG ht
    refine fa ?_
    refine ldb hb hb16 ?_
    refine cl (retire_c (show IsG w1 g.p g.v g.tags g.k g.n from hG) ht i) ?_
    rintro _ w2 ⟨h1, h2⟩
    have p := h.setGh (g' := ⟨g.p, g.v, (gt g.tags g.k g.n i 1 2 2).2.1, (gt g.tags g.k g.n i 1 2 2).2.2.1, (gt g.tags g.k g.n i 1 2 2).2.2.2⟩) hgs rfl rfl h1 h2
    refine ⟨_, p, ⟨rfl, rfl, by rw [hgs]; rfl, rfl, id⟩, ?_, rfl⟩
    unfold Mc.abs PS.deed
    rw [hgs]; rfl
theorem freed_p (h : Mach w X) (hg : Good X b) (i : Int) : Fn Try.prog 27 #[ptrV X.m, .int .i64 i] w fun _ w' => EvM w X w' (X.abs.deed i 2 0 3) := by
  have hb16 : (machC X.c (ptrV X.mp) (gvOf X.gs) (ptrV X.fp) X.tv X.acted X.bad).toList[16]? = some (gvOf X.gs) := by cases X.c; rfl
  have hb := h.blk
  have hG := h.gh
  have ht := hg.tg
  refine fn_enter Try.func27 rfl rfl ?_
  refine cl (watched_mm h) ?_
  rintro _ _ ⟨rfl, rfl⟩
  rename_i w1
  cases hgs : X.gs with
  | none =>
    refine ⟨X, .refl h, .refl X, ?_, rfl⟩
    unfold Mc.abs PS.deed
    rw [hgs]; rfl
  | some g =>
    rw [hgs] at hb16 hb hG ht
    refine fa ?_
    refine ldb hb hb16 ?_
    refine cl (release_c (show IsG w1 g.p g.v g.tags g.k g.n from hG) ht i) ?_
    rintro _ w2 ⟨h1, h2⟩
    have p := h.setGh (g' := ⟨g.p, g.v, (gt g.tags g.k g.n i 2 0 3).2.1, (gt g.tags g.k g.n i 2 0 3).2.2.1, (gt g.tags g.k g.n i 2 0 3).2.2.2⟩) hgs rfl rfl h1 h2
    refine ⟨_, p, ⟨rfl, rfl, by rw [hgs]; rfl, rfl, id⟩, ?_, rfl⟩
    unfold Mc.abs PS.deed
    rw [hgs]; rfl
theorem abs_th (X : Mc) {i : Nat} {t : Th} (hi : X.ths[i]? = some t) : X.abs.ths[i]? = some (absT t) := by
  show (X.ths.map absT)[i]? = _
  rw [List.getElem?_map, hi]; rfl
theorem abs_set (X : Mc) (i : Nat) (t : Th) : ({ X with ths := X.ths.set i t } : Mc).abs = X.abs.put i (absT t) := by
  unfold Mc.abs PS.put
  simp [List.map_set]
theorem kin_set (X : Mc) {i : Nat} {t t' : Th} (hi : X.ths[i]? = some t) (hg : t'.g = t.g) : Kin X { X with ths := X.ths.set i t' } := by
  refine ⟨rfl, rfl, rfl, ?_, id⟩
  show (X.ths.set i t').map (·.g) = _
  apply List.ext_getElem?
  intro j
  rw [List.getElem?_map, List.getElem?_map, List.getElem?_set]
  by_cases hj : i = j
  · subst hj
    rw [if_pos rfl, if_pos (ths_lt hi), hi]; simp [hg]
  · rw [if_neg hj]
end
end Go.Proofs.Ytdomclcokkijjaa

/- Contracts: words; the arena's routines. -/
namespace Go.Proofs.Ytdomclcokkijjaa
open Go.RowKit
attribute [local irreducible] Instr.loadAt Instr.storeAt Instr.fieldAt Instr.indexAt Instr.sliceAt Instr.buildSlice Instr.box Instr.alloc Builtin.append_ Builtin.len_ Builtin.min_ Builtin.max_ Calls Instr.build Instr.makeSlice binSem convert Instr.index Instr.range Instr.next
def ptrW (x : Int) : Int := x / 2 % 65536
def nextW (x p : Int) : Int := ((x / 131072 + 1) % 140737488355328) * 131072 + (p % 18446744073709551616 % 65536) * 2
abbrev u64R (x : Int) : Prop := 0 ≤ x ∧ x ≤ 18446744073709551615
theorem ptrW_bd {x : Int} : 0 ≤ ptrW x ∧ ptrW x < 65536 := by unfold ptrW; omega
theorem nextW_bd {x p : Int} : u64R (nextW x p) := by unfold nextW u64R; omega
theorem wptr_c {x : Int} (hx : u64R x) (w : World) : Fn Try.prog 112 #[.int .u64 x] w fun r w' => r = .int .i64 (ptrW x) ∧ w' = w := by
  have hx0 := hx.1; have hx1 := hx.2
  refine fn_enter Try.func112 rfl rfl ?_
  refine sh_r (by decide) ?_
  refine val (x / 2) (by
    have e : (2 : Int) ^ min (1 : Int).toNat IntKind.u64.bits = 2 := by decide
    rw [e, Int.fdiv_eq_ediv_of_nonneg _ (by decide)]) ?_
  refine rm (by decide) ?_
  refine val (ptrW x) (by rw [Int.tmod_eq_emod_of_nonneg (by omega)]; rfl) ?_
  have hb := ptrW_bd (x := x)
  refine cv ?_
  refine ar64 (by omega) ?_
  exact ⟨rfl, rfl⟩
theorem aptr_c {x : Int} (hx : u64R x) (w : World) : Fn Try.prog 103 #[.int .u64 x] w fun r w' => r = .int .i64 (ptrW x) ∧ w' = w := by
  refine fn_enter Try.func103 rfl rfl ?_
  refine cl (wptr_c hx w) ?_
  rintro _ _ ⟨rfl, rfl⟩
  exact ⟨rfl, rfl⟩
theorem ver_c {x : Int} (hx : u64R x) (w : World) : Fn Try.prog 119 #[.int .u64 x] w fun r w' => r = .int .u64 (x / 131072) ∧ w' = w := by
  refine fn_enter Try.func119 rfl rfl ?_
  refine sh_r (by decide) ?_
  refine val (x / 131072) (by
    have e : (2 : Int) ^ min (17 : Int).toNat IntKind.u64.bits = 131072 := by decide
    rw [e, Int.fdiv_eq_ediv_of_nonneg _ (by decide)]) ?_
  exact ⟨rfl, rfl⟩
theorem pack2_c (n v : Nat) (hn : n < 65536) (hv : v < 140737488355328) (w : World) : Fn Try.prog 118 #[.int .u64 (n : Int), .bool false, .int .u64 (v : Int)] w fun r w' => r = .int .u64 ((v * 131072 + n * 2 : Nat) : Int) ∧ w' = w := by
  refine fn_enter Try.func118 rfl rfl ?_
  refine sh_l (by decide) ?_
  refine val ((v * 131072 : Nat) : Int) (by
    have e : (2 : Int) ^ min (17 : Int).toNat IntKind.u64.bits = 131072 := by decide
    rw [e, wrapU (by omega)]; omega) ?_
  refine sh_l (by decide) ?_
  refine val ((n * 2 : Nat) : Int) (by
    have e : (2 : Int) ^ min (1 : Int).toNat IntKind.u64.bits = 2 := by decide
    rw [e, wrapU (by omega)]; omega) ?_
  refine borU (by omega) (by omega) ?_
  have e : v * 131072 ||| n * 2 = v * 131072 + n * 2 := by
    have := Nat.two_pow_add_eq_or_of_lt (i := 17) (show n * 2 < 2 ^ 17 by omega) v
    rw [Nat.mul_comm v]
    exact this.symm
  rw [e]
  exact ⟨rfl, rfl⟩
theorem next_c {x : Int} (hx : u64R x) (p : Int) (w : World) : Fn Try.prog 113 #[.int .u64 x, .int .i64 p, .bool false] w fun r w' => r = .int .u64 (nextW x p) ∧ w' = w := by
  have hx0 := hx.1; have hx1 := hx.2
  refine fn_enter Try.func113 rfl rfl ?_
  refine cv ?_
  refine val (p % 18446744073709551616) (by rw [IntKind.wrap_u64]) ?_
  refine rm (by decide) ?_
  refine val (p % 18446744073709551616 % 65536) (by rw [Int.tmod_eq_emod_of_nonneg (by omega)]) ?_
  refine cl (ver_c hx w) ?_
  rintro _ _ ⟨rfl, rfl⟩
  refine arU (by omega) ?_
  refine rm (by decide) ?_
  refine val ((x / 131072 + 1) % 140737488355328) (by rw [Int.tmod_eq_emod_of_nonneg (by omega)]) ?_
  obtain ⟨n, hn⟩ := Int.eq_ofNat_of_zero_le (show 0 ≤ p % 18446744073709551616 % 65536 by omega)
  obtain ⟨v, hv⟩ := Int.eq_ofNat_of_zero_le (show 0 ≤ (x / 131072 + 1) % 140737488355328 by omega)
  rw [hn, hv]
  refine cl (pack2_c n v (by omega) (by omega) _) ?_
  rintro _ _ ⟨rfl, rfl⟩
  exact ⟨by unfold nextW; rw [hn, hv]; simp, rfl⟩
section
variable {w w' : World} {X : Mc} {b : Int}
theorem swing_p (h : Mach w X) (hg : Good X b) (hb : b ≤ 1000000) {x : Int} (hx : u64R x) (p : Int) : Fn Try.prog 104 #[ptrV X.m, .int .u64 x, .int .i64 p] w fun r w' => r = .bool (X.abs.casv 0 x) ∧ EvM w X w' (X.abs.cas 0 x (nextW x p)) := by
  refine fn_enter Try.func104 rfl rfl ?_
  refine cl (next_c hx p w) ?_
  rintro _ _ ⟨rfl, rfl⟩
  refine cl (cas_p h hg hb 0 x (nextW x p)) ?_
  rintro _ w2 ⟨rfl, e⟩
  exact ⟨rfl, e⟩
end
def toI (x : Int) : Int := IntKind.i64.wrap x
def Cf.link (c : Cf) (n : Int) : Int := linkA c.A c.T c.N c.L n
def topped (t : PT) (fs : List Fr) (f : Fr) : PT := { t with fs := fs ++ [f] }
def popped (t : PT) (fs : List Fr) (x : Int) : PT := { t with fs := fs, r := (x, 0, 0) }
def arAlloc (p : PS) (i : Nat) (t : PT) (fs : List Fr) (f : Fr) : PS :=
  if f.pc = 0 then
    (if ptrW (p.ldv 0) = 0 then (p.load 0).put i (popped t fs 0) else (p.load 0).put i (topped t fs ⟨f.fn, 1, regI f.R 0 (p.ldv 0)⟩))
  else if f.pc = 1 then (p.load (p.c.link (ptrW (f.R.getD 0 0)))).put i (topped t fs ⟨f.fn, 2, regI f.R 1 (p.ldv (p.c.link (ptrW (f.R.getD 0 0))))⟩)
  else if p.casv 0 (f.R.getD 0 0) then ((p.cas 0 (f.R.getD 0 0) (nextW (f.R.getD 0 0) (toI (f.R.getD 1 0)))).deed (ptrW (f.R.getD 0 0)) 0 1 1).put i (popped t fs (ptrW (f.R.getD 0 0)))
  else (p.cas 0 (f.R.getD 0 0) (nextW (f.R.getD 0 0) (toI (f.R.getD 1 0)))).put i (topped t fs { f with pc := 0 })
def arRelease (p : PS) (i : Nat) (t : PT) (fs : List Fr) (f : Fr) : PS :=
  if f.pc = 0 then (p.load 0).put i (topped t fs ⟨f.fn, 1, regI f.R 1 (p.ldv 0)⟩)
  else if f.pc = 1 then (p.store (p.c.link (toI (f.R.getD 0 0))) (ptrW (f.R.getD 1 0))).put i (topped t fs { f with pc := 2 })
  else if p.casv 0 (f.R.getD 1 0) then ((p.cas 0 (f.R.getD 1 0) (nextW (f.R.getD 1 0) (toI (f.R.getD 0 0)))).deed (toI (f.R.getD 0 0)) 2 0 3).put i (popped t fs (IntKind.u64.wrap (toI (f.R.getD 0 0))))
  else (p.cas 0 (f.R.getD 1 0) (nextW (f.R.getD 1 0) (toI (f.R.getD 0 0)))).put i (topped t fs { f with pc := 0 })
theorem PS.ldv_bd {p : PS} {b : Int} (h : p.Ok b) (a : Int) : u64R (p.ldv a) := by
  unfold PS.ldv PS.rd
  split
  · rename_i ha
    have hl : a.toNat < p.W.length := by unfold PS.okP at ha; omega
    have : p.W.getD a.toNat 0 = p.W[a.toNat] := by simp [List.getD, hl]
    rw [this]
    exact h.w _ (List.getElem_mem _)
  · exact ⟨by decide, by decide⟩
theorem PS.Ok.load {p : PS} {b : Int} (h : p.Ok b) (a : Int) : (p.load a).Ok (b + 1) := by
  refine ⟨h.r, ?_, ?_, ?_, h.w, h.l⟩
  · have := h.t
    unfold PS.tagl PS.load PS.tchd at *
    simp only [List.foldl_cons, List.foldl_nil]
    cases hgh : p.gh with
    | none => simp
    | some x =>
      rw [hgh] at this
      simp only [Option.map_some]
      split
      · exact this
      · exact this
  · have := h.k0
    show 0 ≤ (if p.okP a then p.k + 1 else p.k)
    split <;> omega
  · have := h.k1
    show (if p.okP a then p.k + 1 else p.k) ≤ b + 1
    split <;> omega
theorem tagl_tch (p : PS) (a : Int) : (match p.tchd [a] with | none => [] | some x => x.1) = p.tagl := by
  unfold PS.tagl PS.tchd
  simp only [List.foldl_cons, List.foldl_nil]
  cases p.gh with
  | none => rfl
  | some x =>
    simp only [Option.map_some]
    split <;> rfl
theorem mem_set_ {l : List Int} {i : Nat} {y : Int} (h : ∀ x ∈ l, u64R x) (hy : u64R y) : ∀ x ∈ l.set i y, u64R x := fun x hx => by
  rcases List.mem_or_eq_of_mem_set hx with h1 | h1
  · exact h x h1
  · rw [h1]; exact hy
theorem PS.Ok.store {p : PS} {b : Int} (h : p.Ok b) (a : Int) {x : Int} (hx : u64R x) : (p.store a x).Ok (b + 1) := by
  refine ⟨h.r, ?_, ?_, ?_, ?_, ?_⟩
  · have := h.t
    rw [← tagl_tch p a] at this
    exact this
  · have := h.k0
    show 0 ≤ (if p.okP a then p.k + 1 else p.k)
    split <;> omega
  · have := h.k1
    show (if p.okP a then p.k + 1 else p.k) ≤ b + 1
    split <;> omega
  · show ∀ y ∈ (if p.okP a then p.W.set a.toNat x else p.W), u64R y
    split
    · exact mem_set_ h.w hx
    · exact h.w
  · show (if p.okP a then p.W.set a.toNat x else p.W).length = _
    have := h.l
    split
    · rw [List.length_set]; exact this
    · exact this
theorem PS.Ok.cas {p : PS} {b : Int} (h : p.Ok b) (a o : Int) {x : Int} (hx : u64R x) : (p.cas a o x).Ok (b + 1) := by
  refine ⟨h.r, ?_, ?_, ?_, ?_, ?_⟩
  · have := h.t
    rw [← tagl_tch p a] at this
    exact this
  · have := h.k0
    show 0 ≤ (if p.okP a then p.k + 1 else p.k)
    split <;> omega
  · have := h.k1
    show (if p.okP a then p.k + 1 else p.k) ≤ b + 1
    split <;> omega
  · show ∀ y ∈ (if p.okP a ∧ p.rd a = o then p.W.set a.toNat x else p.W), u64R y
    split
    · exact mem_set_ h.w hx
    · exact h.w
  · show (if p.okP a ∧ p.rd a = o then p.W.set a.toNat x else p.W).length = _
    have := h.l
    split
    · rw [List.length_set]; exact this
    · exact this
theorem gt_len' (tags : List Int) (k n i a b d : Int) : (gt tags k n i a b d).2.1.length = tags.length := by
  unfold gt
  split
  · rfl
  · split
    · simp
    · rfl
theorem PS.Ok.deed {p : PS} {b : Int} (h : p.Ok b) (i x y z : Int) : (p.deed i x y z).Ok b := by
  refine ⟨h.r, ?_, h.k0, h.k1, h.w, h.l⟩
  have := h.t
  unfold PS.tagl PS.deed at *
  cases hgh : p.gh with
  | none => simp
  | some x => rw [hgh] at this; simp only [Option.map_some]; rw [gt_len']; exact this
theorem PS.Ok.put {p : PS} {b : Int} (h : p.Ok b) (i : Nat) (t : PT) : (p.put i t).Ok b := ⟨h.r, h.t, h.k0, h.k1, h.w, h.l⟩
theorem PS.Ok.up {p : PS} {b c : Int} (h : p.Ok b) (hc : b ≤ c) : p.Ok c := ⟨h.r, h.t, h.k0, Int.le_trans h.k1 hc, h.w, h.l⟩
theorem Good.of {X X' : Mc} {b b' : Int} {p : PS} (h : Good X b) (k : Kin X X') (ha : X'.abs = p) (hp : p.Ok b') : Good X' b' := ⟨by rw [ha]; exact hp, k.calm h.calm⟩
end Go.Proofs.Ytdomclcokkijjaa

/- Contracts: the arena's routines. -/
namespace Go.Proofs.Ytdomclcokkijjaa
open Go.RowKit
attribute [local irreducible] Instr.loadAt Instr.storeAt Instr.fieldAt Instr.indexAt Instr.sliceAt Instr.buildSlice Instr.box Instr.alloc Builtin.append_ Builtin.len_ Builtin.min_ Builtin.max_ Calls Instr.build Instr.makeSlice binSem convert Instr.index Instr.range Instr.next
theorem regs_set {f : Fr} {i : Nat} {x : Int} : frC ⟨f.fn, f.pc, regI f.R i x⟩ = frC { f with R := regI f.R i x } := rfl
theorem frC_R0 (f : Fr) (k : Nat) (hk : k < 10) : (frC f)[2 + k]? = some (.int .u64 (f.R.getD k 0)) := by
  rw [show 2 + k = k + 1 + 1 by omega]
  show (regsC 10 f.R)[k]? = _
  simp [regsC, hk]
section
variable {w w' : World} {X : Mc} {b : Int} {i : Nat} {t : Th} {fs : List Fr} {f : Fr} {fb fo fc : Nat}
theorem set_at {X : Mc} {i : Nat} {t t' : Th} (hi : X.ths[i]? = some t) : (X.ths.set i t')[i]? = some t' := by rw [List.getElem?_set]; simp [ths_lt hi]
/-- the top frame in a walk: it lies where it lay -/
structure TopI (w0 w : World) (X0 X : Mc) (i : Nat) (t : Th) (fs : List Fr) (f : Fr) (fb fo fc : Nat) : Prop where
  p : Post w0 X0 w X
  k : Kin X0 X
  i : X.ths[i]? = some t
  f : t.fs = fs ++ [f]
  v : t.fv = .slice (some ⟨fb, fo, none⟩) t.fs.length fc
theorem TopI.upd0 {w0 : World} {X0 : Mc} (h : TopI w0 w X0 X i t fs f fb fo fc) (hu : Upd [] w w') : TopI w0 w' X0 X i t fs f fb fo fc := ⟨h.p.upd0 hu, h.k, h.i, h.f, h.v⟩
theorem TopI.at_ {w0 : World} {X0 : Mc} (h : TopI w0 w X0 X i t fs f fb fo fc) (j : Nat) (hj : j < 12) : w.cell? ⟨fb, fo + fs.length * 12 + j, none⟩ = (frC f)[j]? := h.p.ok.top h.i h.f h.v j hj
theorem TopI.mem {w0 : World} {X0 X' : Mc} (h : TopI w0 w X0 X i t fs f fb fo fc) (p : Post w X w' X') (k : Kin X X') (hs : X'.ths = X.ths) : TopI w0 w' X0 X' i t fs f fb fo fc := ⟨h.p.trans p, h.k.trans k, by rw [hs]; exact h.i, h.f, h.v⟩
theorem TopI.st {w0 : World} {X0 : Mc} {ty : Nat} [One Try.prog ty] {K : World → Prop} (h : TopI w0 w X0 X i t fs f fb fo fc) {f' : Fr} (j : Nat) (hj : j < 12) {a : Nat} (ha : a = fo + fs.length * 12 + j) {u : Value} (hu : u.oneCell' = true)
    (hf : frC f' = (frC f).set j u) (k : ∀ w', TopI w0 w' X0 { X with ths := X.ths.set i { t with fs := fs ++ [f'] } } i { t with fs := fs ++ [f'] } fs f' fb fo fc → K w') : RunU Try.prog (Instr.storeAt ty (.pointer (some ⟨fb, a, none⟩)) u) K w :=
  st_fr h.p.ok h.i h.f h.v j hj ha hu hf fun w' p => k w' ⟨h.p.trans p, h.k.trans (kin_set X h.i rfl), set_at h.i, rfl, by
    show t.fv = .slice _ (fs ++ [f']).length fc
    rw [h.v, h.f]; simp⟩
theorem TopI.pop {w0 : World} {X0 : Mc} (h : TopI w0 w X0 X i t fs f fb fo fc) (hl : fs.length ≤ 100000) {v : Value} {l : List Int} (hv : ∀ w', Upd [t.g] w w' → RdK w' .u64 v l) :
    Fn Try.prog 17 #[ptrV t.g, v] w fun _ w' => Ev w0 X0 w' (X.abs.put i { absT t with fs := fs, r := (l.getD 0 0, l.getD 1 0, l.getD 2 0) }) :=
  (pop_mm h.p.ok h.i h.f hl hv).mono fun _ w' ⟨u, he, fv, p⟩ => ⟨u, he, _, h.p.trans p, h.k.trans (kin_set X h.i rfl), by rw [abs_set]; rfl⟩
theorem TopI.ev {w0 : World} {X0 : Mc} (h : TopI w0 w X0 X i t fs f fb fo fc) : Ev w0 X0 w X.abs := ⟨X, h.p, h.k, rfl⟩
theorem put_put (p : PS) (i : Nat) (t t' : PT) : (p.put i t).put i t' = p.put i t' := by unfold PS.put; simp
theorem put_load (p : PS) (i : Nat) (t : PT) (a : Int) : (p.put i t).load a = (p.load a).put i t := rfl
theorem put_cas (p : PS) (i : Nat) (t : PT) (a x y : Int) : (p.put i t).cas a x y = (p.cas a x y).put i t := rfl
theorem put_deed (p : PS) (i : Nat) (t : PT) (a x y z : Int) : (p.put i t).deed a x y z = (p.deed a x y z).put i t := rfl
theorem one_rd {w : World} {g : Nat} {x : Int} (hb : Blk w g 27 #[.int .u64 x]) : RdK w .u64 (.slice (some ⟨g, 0, none⟩) 1 1) [x] := RdK.of_sl (e := 27) (n := 1) (Sl.lit (n := 1) hb rfl (by decide))
theorem link_a2 {c : Cf} (hr : rightC c) (n : Int) (w : World) : Fn Try.prog 94 #[.agg (planC c), .int .i64 n] w fun r w' => r = .int .i64 (c.link n) ∧ Upd [] w w' := by
  obtain ⟨A, T, N, L, B, P, S⟩ := c
  exact link_a hr n w
set_option maxRecDepth 10000 in
theorem al_p (h : Mach w X) (hg : Good X b) (hb : b ≤ 900000) (hi : X.ths[i]? = some t) (hfs : t.fs = fs ++ [f]) (hl : fs.length ≤ 90000) (hfv : t.fv = .slice (some ⟨fb, fo, none⟩) t.fs.length fc) (hR : ∀ j, u64R (f.R.getD j 0)) :
    Fn Try.prog 82 #[ptrV X.m, ptrV t.g, .pointer (some ⟨fb, fo + fs.length * 12, none⟩)] w fun _ w' => Ev w X w' (arAlloc X.abs i (absT t) fs f) := by
  have I : TopI w w X X i t fs f fb fo fc := ⟨.refl h, .refl X, hi, hfs, hfv⟩
  have hat : ∀ {w1 : World}, Upd [] w w1 → ∀ j, j < 12 → w1.cell? ⟨fb, fo + fs.length * 12 + j, none⟩ = (frC f)[j]? := fun hu j hj => (I.upd0 hu).at_ j hj
  have h0 := hR 0
  have h1 := hR 1
  have hp0 := ptrW_bd (x := f.R.getD 0 0)
  refine fn_enter Try.func82 rfl rfl ?_
  refine fa ?_
  refine ixA 0 rfl (by omega) ?_
  refine ld (v := .int .u64 (f.R.getD 0 0)) ((hat (Upd.refl [] w) 2 (by omega)).trans (frC_R0 f 0 (by omega))) ?_
  refine cl (aptr_c h0 w) ?_
  rintro _ _ ⟨rfl, rfl⟩
  rename_i w
  refine fa ?_
  refine ld (v := .int .i64 f.pc) (hat (Upd.refl [] w) 1 (by omega)) ?_
  unfold arAlloc
  by_cases c0 : f.pc = 0
  · rw [if_pos c0]
    refine cY c0 ?_
    refine draw_mix 5 [(0, true), (1, true), (3, true), (4, true), (2, false)] (fun _ => True) (by decide +kernel) trivial ?_
    refine q_fa ?_
    have I1 := I.upd0 (Upd.refl [] w).drew
    refine cl (load_p I1.p.ok hg (by omega) 0) ?_
    rintro _ w2 ⟨rfl, X2, p2, k2, a2, s2⟩
    refine ⟨trivial, ?_⟩
    have I2 := I1.mem p2 k2 s2
    refine ixA 0 rfl (by omega) ?_
    refine I2.st (f' := { f with R := regI f.R 0 (X.abs.ldv 0) }) 2 (by omega) rfl rfl (frC_reg f 0 (by omega) _) fun w3 I3 => ?_
    refine fa ?_
    refine I3.st (f' := ⟨f.fn, 1, regI f.R 0 (X.abs.ldv 0)⟩) 1 (by omega) rfl rfl rfl fun w4 I4 => ?_
    refine fa ?_
    refine ixA 0 rfl (by omega) ?_
    refine ld (v := .int .u64 (X.abs.ldv 0)) ((I4.at_ 2 (by omega)).trans ((frC_R0 _ 0 (by omega)).trans (by rw [regI_at _ _ _ _ (by omega)]; rfl))) ?_
    have hv := PS.ldv_bd hg.ok 0
    refine cl (aptr_c hv w4) ?_
    rintro _ _ ⟨rfl, rfl⟩
    rename_i w4
    have ea : ∀ (t' : PT), ((({ ({ X2 with ths := X2.ths.set i { t with fs := fs ++ [{ f with R := regI f.R 0 (X.abs.ldv 0) }] } } : Mc) with ths := (X2.ths.set i { t with fs := fs ++ [{ f with R := regI f.R 0 (X.abs.ldv 0) }] }).set i { t with fs := fs ++ [⟨f.fn, 1, regI f.R 0 (X.abs.ldv 0)⟩] } } : Mc)).abs.put i t') = (X.abs.load 0).put i t' := fun t' => by
      rw [← a2]
      unfold Mc.abs PS.put
      simp [List.map_set]
    by_cases cp : ptrW (X.abs.ldv 0) = 0
    · rw [if_pos cp]
      refine cY cp ?_
      refine bs #[.int .u64 0] (fun _ => by kernel_rfl) fun w5 hb5 hu5 hs5 => ?_
      have I5 := I4.upd0 hu5
      have hne : w4.heap.size ≠ t.g := by have := (I4.p.ok.core I4.i).blk.lt; intro e; rw [e] at this; exact absurd this (Nat.lt_irrefl _)
      refine cl (I5.pop (l := [0]) (by omega) (fun w' hu => one_rd (hb5.upd hu (by simpa using hne)))) ?_
      rintro _ w6 e
      rw [ea] at e
      exact e
    · rw [if_neg cp]
      refine cN cp ?_
      have := I4.ev
      rw [abs_set, abs_set, put_put, a2] at this
      exact this
  rw [if_neg c0]
  refine cN c0 ?_
  by_cases c1 : f.pc = 1
  · rw [if_pos c1]
    refine cY c1 ?_
    refine draw_mix 9 [(0, true), (1, true), (2, true), (4, true), (7, true), (8, true), (3, false), (5, false), (6, false)] (fun _ => True) (by decide +kernel) trivial ?_
    refine q_fa ?_
    have I1 := I.upd0 (Upd.refl [] w).drew
    refine cl (plan_mm I1.p.ok) ?_
    rintro _ w2 ⟨rfl, hu2⟩
    refine ⟨trivial, ?_⟩
    have I2 := I1.upd0 hu2
    refine cl (link_a2 hg.ok.r _ w2) ?_
    rintro _ w3 ⟨rfl, hu3⟩
    refine ⟨trivial, ?_⟩
    have I3 := I2.upd0 hu3
    refine cl (load_p I3.p.ok hg (by omega) _) ?_
    rintro _ w4 ⟨rfl, X4, p4, k4, a4, s4⟩
    refine ⟨trivial, ?_⟩
    have I4 := I3.mem p4 k4 s4
    refine ixA 1 rfl (by omega) ?_
    refine I4.st (f' := { f with R := regI f.R 1 (X.abs.ldv (X.abs.c.link (ptrW (f.R.getD 0 0)))) }) 3 (by omega) rfl rfl (frC_reg f 1 (by omega) _) fun w5 I5 => ?_
    refine fa ?_
    refine I5.st (f' := ⟨f.fn, 2, regI f.R 1 (X.abs.ldv (X.abs.c.link (ptrW (f.R.getD 0 0))))⟩) 1 (by omega) rfl rfl rfl fun w6 I6 => ?_
    have := I6.ev
    rw [abs_set, abs_set, put_put, a4] at this
    exact this
  rw [if_neg c1]
  refine cN c1 ?_
  refine fa ?_
  refine I.st (f' := { f with pc := 0 }) 1 (by omega) rfl rfl (frC_pc f 0) fun w2 I2 => ?_
  have hg2 : Good { X with ths := X.ths.set i { t with fs := fs ++ [{ f with pc := 0 }] } } b := hg.of (kin_set X hi rfl) (abs_set X i _) (hg.ok.put _ _)
  refine draw_tail 12 (by decide +kernel) ?_
  have I3 := I2.upd0 (Upd.refl [] w2).drew
  refine q_fa ?_
  refine q_ixA 0 rfl (by omega) ?_
  refine q_ld (v := .int .u64 (f.R.getD 0 0)) (by rintro _ rfl; exact (I3.at_ 2 (by omega)).trans (frC_R0 _ 0 (by omega))) ?_
  refine q_fa ?_
  refine q_ixA 1 rfl (by omega) ?_
  refine q_ld (v := .int .u64 (f.R.getD 1 0)) (by rintro _ rfl; exact (I3.at_ 3 (by omega)).trans (frC_R0 _ 1 (by omega))) ?_
  refine rq (.int .i64 (toI (f.R.getD 1 0))) (fun _ _ => cv (val _ rfl ⟨rfl, rfl⟩)) ?_
  refine cl (swing_p I3.p.ok hg2 (by omega) h0 (toI (f.R.getD 1 0))) ?_
  rintro _ w4 ⟨rfl, X4, p4, k4, a4, s4⟩
  have I4 := I3.mem p4 k4 s4
  have ec : (({ X with ths := X.ths.set i { t with fs := fs ++ [{ f with pc := 0 }] } } : Mc).abs).casv 0 (f.R.getD 0 0) = X.abs.casv 0 (f.R.getD 0 0) := rfl
  rw [ec]
  rw [abs_set, put_cas] at a4
  cases hcas : X.abs.casv 0 (f.R.getD 0 0) with
  | true =>
    rw [if_pos rfl]
    have hg4 : Good X4 (b + 1) := hg2.of k4 a4 ((hg.ok.cas 0 _ nextW_bd).put _ _)
    have htk := took_p I4.p.ok hg4 (ptrW (f.R.getD 0 0))
    rw [show X4.m = X.m from k4.m] at htk
    refine cl htk ?_
    rintro _ w5 ⟨X5, p5, k5, a5, s5⟩
    have I5 := I4.mem p5 k5 s5
    refine cv ?_
    refine arU (by omega) ?_
    refine bs #[.int .u64 (ptrW (f.R.getD 0 0))] (fun _ => by kernel_rfl) fun w6 hb6 hu6 hs6 => ?_
    have I6 := I5.upd0 hu6
    have hne : w5.heap.size ≠ t.g := by have := (I5.p.ok.core I5.i).blk.lt; intro e; rw [e] at this; exact absurd this (Nat.lt_irrefl _)
    refine cl (I6.pop (l := [ptrW (f.R.getD 0 0)]) (by omega) (fun w' hu => one_rd (hb6.upd hu (by simpa using hne)))) ?_
    rintro _ w7 e
    rw [a5, a4, put_deed, put_put] at e
    exact e
  | false =>
    rw [if_neg (by simp)]
    have := I4.ev
    rw [a4] at this
    exact this
set_option maxRecDepth 10000 in
theorem rel_p (h : Mach w X) (hg : Good X b) (hb : b ≤ 900000) (hi : X.ths[i]? = some t) (hfs : t.fs = fs ++ [f]) (hl : fs.length ≤ 90000) (hfv : t.fv = .slice (some ⟨fb, fo, none⟩) t.fs.length fc) (hR : ∀ j, u64R (f.R.getD j 0)) :
    Fn Try.prog 83 #[ptrV X.m, ptrV t.g, .pointer (some ⟨fb, fo + fs.length * 12, none⟩)] w fun _ w' => Ev w X w' (arRelease X.abs i (absT t) fs f) := by
  have I : TopI w w X X i t fs f fb fo fc := ⟨.refl h, .refl X, hi, hfs, hfv⟩
  have hat : ∀ {w1 : World}, Upd [] w w1 → ∀ j, j < 12 → w1.cell? ⟨fb, fo + fs.length * 12 + j, none⟩ = (frC f)[j]? := fun hu j hj => (I.upd0 hu).at_ j hj
  have h0 := hR 0
  have h1 := hR 1
  have hp1 := ptrW_bd (x := f.R.getD 1 0)
  refine fn_enter Try.func83 rfl rfl ?_
  refine fa ?_
  refine ixA 0 rfl (by omega) ?_
  refine ld (v := .int .u64 (f.R.getD 0 0)) ((hat (Upd.refl [] w) 2 (by omega)).trans (frC_R0 f 0 (by omega))) ?_
  refine cv ?_
  refine val (toI (f.R.getD 0 0)) rfl ?_
  refine fa ?_
  refine ld (v := .int .i64 f.pc) (hat (Upd.refl [] w) 1 (by omega)) ?_
  unfold arRelease
  by_cases c0 : f.pc = 0
  · rw [if_pos c0]
    refine cY c0 ?_
    refine draw_mix 5 [(0, true), (1, true), (3, true), (4, true), (2, false)] (fun _ => True) (by decide +kernel) trivial ?_
    refine q_fa ?_
    have I1 := I.upd0 (Upd.refl [] w).drew
    refine cl (load_p I1.p.ok hg (by omega) 0) ?_
    rintro _ w2 ⟨rfl, X2, p2, k2, a2, s2⟩
    refine ⟨trivial, ?_⟩
    have I2 := I1.mem p2 k2 s2
    refine ixA 1 rfl (by omega) ?_
    refine I2.st (f' := { f with R := regI f.R 1 (X.abs.ldv 0) }) 3 (by omega) rfl rfl (frC_reg f 1 (by omega) _) fun w3 I3 => ?_
    refine fa ?_
    refine I3.st (f' := ⟨f.fn, 1, regI f.R 1 (X.abs.ldv 0)⟩) 1 (by omega) rfl rfl rfl fun w4 I4 => ?_
    have := I4.ev
    rw [abs_set, abs_set, put_put, a2] at this
    exact this
  rw [if_neg c0]
  refine cN c0 ?_
  by_cases c1 : f.pc = 1
  · rw [if_pos c1]
    refine cY c1 ?_
    refine draw_mix 12 [(0, true), (1, true), (3, true), (5, true), (6, true), (7, true), (8, true), (9, true), (2, false), (4, false), (10, false), (11, true)] (fun w' => Upd [] w w') (by decide +kernel) (Upd.refl [] w).drew ?_
    refine q_fa ?_
    refine q_ixA 1 rfl (by omega) ?_
    refine q_ld (v := .int .u64 (f.R.getD 1 0)) (fun w' hw' => (hat hw' 3 (by omega)).trans (frC_R0 _ 1 (by omega))) ?_
    have I1 := I.upd0 (Upd.refl [] w).drew
    refine cl (plan_mm I1.p.ok) ?_
    rintro _ w2 ⟨rfl, hu2⟩
    have hU2 : Upd [] w w2 := (Upd.refl [] w).drew.trans hu2
    refine ⟨hU2, ?_⟩
    refine cl (link_a2 hg.ok.r _ w2) ?_
    rintro _ w3 ⟨rfl, hu3⟩
    have hU3 := hU2.trans hu3
    refine ⟨hU3, ?_⟩
    refine cl (aptr_c h1 w3) ?_
    rintro _ _ ⟨rfl, rfl⟩
    rename_i w3
    refine ⟨hU3, ?_⟩
    refine rq (.int .u64 (ptrW (f.R.getD 1 0))) (fun _ _ => cv (arU (by omega) ⟨rfl, rfl⟩)) ?_
    have I3 := I.upd0 hU3
    refine cl (store_p I3.p.ok hg (by omega) _ (ptrW (f.R.getD 1 0))) ?_
    rintro _ w4 ⟨X4, p4, k4, a4, s4⟩
    have I4 := I3.mem p4 k4 s4
    refine fa ?_
    refine I4.st (f' := { f with pc := 2 }) 1 (by omega) rfl rfl (frC_pc f 2) fun w5 I5 => ?_
    have := I5.ev
    rw [abs_set, a4] at this
    exact this
  rw [if_neg c1]
  refine cN c1 ?_
  refine fa ?_
  refine I.st (f' := { f with pc := 0 }) 1 (by omega) rfl rfl (frC_pc f 0) fun w2 I2 => ?_
  have hg2 : Good { X with ths := X.ths.set i { t with fs := fs ++ [{ f with pc := 0 }] } } b := hg.of (kin_set X hi rfl) (abs_set X i _) (hg.ok.put _ _)
  refine fa ?_
  refine ixA 1 rfl (by omega) ?_
  refine ld (v := .int .u64 (f.R.getD 1 0)) ((I2.at_ 3 (by omega)).trans (frC_R0 _ 1 (by omega))) ?_
  refine cl (swing_p I2.p.ok hg2 (by omega) h1 (toI (f.R.getD 0 0))) ?_
  rintro _ w4 ⟨rfl, X4, p4, k4, a4, s4⟩
  have I4 := I2.mem p4 k4 s4
  have ec : (({ X with ths := X.ths.set i { t with fs := fs ++ [{ f with pc := 0 }] } } : Mc).abs).casv 0 (f.R.getD 1 0) = X.abs.casv 0 (f.R.getD 1 0) := rfl
  rw [ec]
  rw [abs_set, put_cas] at a4
  cases hcas : X.abs.casv 0 (f.R.getD 1 0) with
  | true =>
    rw [if_pos rfl]
    have hg4 : Good X4 (b + 1) := hg2.of k4 a4 ((hg.ok.cas 0 _ nextW_bd).put _ _)
    have htk := freed_p I4.p.ok hg4 (toI (f.R.getD 0 0))
    rw [show X4.m = X.m from k4.m] at htk
    refine cl htk ?_
    rintro _ w5 ⟨X5, p5, k5, a5, s5⟩
    have I5 := I4.mem p5 k5 s5
    refine cv ?_
    refine val (IntKind.u64.wrap (toI (f.R.getD 0 0))) rfl ?_
    refine bs #[.int .u64 (IntKind.u64.wrap (toI (f.R.getD 0 0)))] (fun _ => by kernel_rfl) fun w6 hb6 hu6 hs6 => ?_
    have I6 := I5.upd0 hu6
    have hne : w5.heap.size ≠ t.g := by have := (I5.p.ok.core I5.i).blk.lt; intro e; rw [e] at this; exact absurd this (Nat.lt_irrefl _)
    refine cl (I6.pop (l := [IntKind.u64.wrap (toI (f.R.getD 0 0))]) (by omega) (fun w' hu => one_rd (hb6.upd hu (by simpa using hne)))) ?_
    rintro _ w7 e
    rw [a5, a4, put_deed, put_put] at e
    exact e
  | false =>
    rw [if_neg (by simp)]
    have := I4.ev
    rw [a4] at this
    exact this
/-- arena.Do, as a function on what the machine holds -/
def arDo (p : PS) (i : Nat) (t : PT) (fs : List Fr) (f : Fr) : PS := if f.fn = 1 then arAlloc p i t fs f else if f.fn = 2 then arRelease p i t fs f else p.put i { t with fs := fs, r := (0, 0, 0) }
set_option maxRecDepth 10000 in
theorem do_p (h : Mach w X) (hg : Good X b) (hb : b ≤ 900000) (hi : X.ths[i]? = some t) (hfs : t.fs = fs ++ [f]) (hl : fs.length ≤ 90000) (hR : ∀ j, u64R (f.R.getD j 0)) :
    Fn Try.prog 53 #[ptrV X.m, ptrV t.g] w fun _ w' => Ev w X w' (arDo X.abs i (absT t) fs f) := by
  obtain ⟨fb, fo, fc, hfv⟩ := h.fr_ hi (by rw [hfs]; simp)
  refine fn_enter Try.func53 rfl rfl ?_
  refine cl (top_mm h hi hfs (by omega) hfv) ?_
  rintro _ _ ⟨rfl, rfl⟩
  have p1 : Post w X w.drew X := .of0 h (Upd.refl [] w).drew
  have I1 : TopI w w.drew X X i t fs f fb fo fc := ⟨p1, .refl X, hi, hfs, hfv⟩
  refine ptr_eq ?_
  refine ptr_eq ?_
  refine fa ?_
  refine ld (v := .int .i64 f.fn) (I1.at_ 0 (by omega)) ?_
  unfold arDo
  by_cases c1 : f.fn = 1
  · rw [if_pos c1]
    refine cY c1 ?_
    refine cl (al_p p1.ok hg hb hi hfs hl hfv hR) ?_
    rintro _ w2 e
    exact Ev.before p1 (.refl X) e
  rw [if_neg c1]
  refine cN c1 ?_
  refine fa ?_
  refine ld (v := .int .i64 f.fn) (I1.at_ 0 (by omega)) ?_
  by_cases c2 : f.fn = 2
  · rw [if_pos c2]
    refine cY c2 ?_
    refine cl (rel_p p1.ok hg hb hi hfs hl hfv hR) ?_
    rintro _ w2 e
    exact Ev.before p1 (.refl X) e
  rw [if_neg c2]
  refine cN c2 ?_
  refine cl (I1.pop (l := []) (by omega) (fun w' _ => RdK.nil_ w' .u64)) ?_
  rintro _ w2 e
  exact e
end
end Go.Proofs.Ytdomclcokkijjaa

/- The arena's list: arena.nodes, arena.Chain. -/
namespace Go.Proofs.Ytdomclcokkijjaa
open Go.RowKit
attribute [local irreducible] Instr.loadAt Instr.storeAt Instr.fieldAt Instr.indexAt Instr.sliceAt Instr.buildSlice Instr.box Instr.alloc Builtin.append_ Builtin.len_ Builtin.min_ Builtin.max_ Calls Instr.build Instr.makeSlice binSem convert Instr.index Instr.range Instr.next
def chn (c : Cf) (W : List Int) : Nat → Int → List Int
  | 0, _ => []
  | m + 1, n => if c.link n < 0 then [] else n :: chn c W m (toI (W.getD (c.link n).toNat 0))
def chain (c : Cf) (W : List Int) : List Int := chn c W c.N.toNat (ptrW (W.getD 0 0))
theorem chn_len (c : Cf) (W : List Int) (m : Nat) : ∀ n, (chn c W m n).length ≤ m := by
  induction m with
  | zero => intro n; exact Nat.le_refl _
  | succ m ih =>
    intro n
    unfold chn
    split
    · exact Nat.zero_le _
    · exact Nat.succ_le_succ (ih _)
theorem link_bd {c : Cf} (hr : rightC c) (n : Int) : c.link n = -1 ∨ (1 ≤ n ∧ n ≤ c.N ∧ c.link n = linksP c.A c.T c.L + n - 1 ∧ 10 ≤ c.link n ∧ c.link n < sizeP c.A c.T c.N c.L) := by
  obtain ⟨A, T, N, L, B, P, S⟩ := c
  obtain ⟨b1, b2, b3, b4, b5, b6, b7, b8, b9, b10, b11, b12⟩ := plan_bd hr
  unfold Cf.link linkA
  split
  · rename_i h
    right
    have h : 1 ≤ n ∧ n ≤ N := h
    exact ⟨h.1, h.2, rfl, (by omega : 10 ≤ linksP A T L + n - 1), (by omega : linksP A T L + n - 1 < sizeP A T N L)⟩
  · left; rfl
theorem u64_getD {W : List Int} (hu : ∀ x ∈ W, u64R x) (i : Nat) : u64R (W.getD i 0) := by
  rcases Nat.lt_or_ge i W.length with h | h
  · have : W.getD i 0 = W[i] := by simp [List.getD, h]
    rw [this]; exact hu _ (List.getElem_mem _)
  · have : W.getD i 0 = 0 := by simp [List.getD, List.getElem?_eq_none h]
    rw [this]; exact ⟨by decide, by decide⟩
theorem nodes_c {c : Cf} (v : Value) (w : World) : Fn Try.prog 84 #[v, .agg (planC c)] w fun r w' =>
    ∃ b1 b2, r = .func (.func 105) #[] #[.pointer (some ⟨b1, 0, none⟩), .pointer (some ⟨b2, 0, none⟩)] ∧ (∀ a n k, v = .slice a n k → Blk w' b1 23 #[v]) ∧ Blk w' b2 66 (planC c) ∧ Upd [] w w' ∧ w.heap.size ≤ b1 ∧ w.heap.size ≤ b2 := by
  refine fn_enter Try.func84 rfl rfl ?_
  refine bx fun w1 hb1 hu1 hs1 => ?_
  refine bx fun w2 hb2 hu2 hs2 => ?_
  have hz := hu1.size
  exact ⟨_, _, rfl, fun a n k h => by subst h; exact hb1.upd hu2 (by simp), hb2, hu1.trans hu2, Nat.le_refl _, hz⟩
set_option maxRecDepth 10000 in
theorem nodes_iter {b1 b2 : Nat} {v : Value} {c : Cf} {W : List Int} (hr : rightC c) (hW : W.length = (sizeP c.A c.T c.N c.L).toNat) (hu : ∀ x ∈ W, u64R x) : IterC Try.prog (.func (.func 105) #[] #[.pointer (some ⟨b1, 0, none⟩), .pointer (some ⟨b2, 0, none⟩)]) ((chain c W).map one1) (obEv [obBlk b1 23 #[v], obBlk b2 66 (planC c), obU v W]) := by
  obtain ⟨A, T, N, L, B, P, S⟩ := c
  obtain ⟨bd1, bd2, bd3, bd4, bd5, bd6, bd7, bd8, bd9, bd10, bd11, bd12⟩ := plan_bd hr
  simp only at hW
  refine ⟨_, _, rfl, HasBody.h, fun lp G Gx o0 W0 hA hap h0 ho hy => ?_⟩
  have hAk : ∀ {o : Ob} {w' : World}, To W0 o0.foot w' o.foot → Blk w' b1 23 #[v] ∧ Blk w' b2 66 (planC ⟨A, T, N, L, B, P, S⟩) ∧ Sl w' 27 1 v W.length (W.map (.int .u64)) := fun {o w'} ht => by
    have h2 := (obEv [obBlk b1 23 #[v], obBlk b2 66 (planC ⟨A, T, N, L, B, P, S⟩), obU v W]).keep hA ht.up hap
    exact ⟨h2 (obBlk b1 23 #[v]) (by simp), h2 (obBlk b2 66 (planC ⟨A, T, N, L, B, P, S⟩)) (by simp), h2 (obU v W) (by simp)⟩
  have hAu : ∀ {o : Ob} {w' w'' : World}, To W0 o0.foot w' o.foot → Upd [] w' w'' → To W0 o0.foot w'' o.foot := fun h h2 => h.upd0 h2
  obtain ⟨hb0, hp0, hs0⟩ := hAk (To.refl W0 o0.foot)
  have hs0' := hs0
  obtain ⟨vb, vo, vc, rfl, -⟩ := hs0.some_ (by omega)
  have hu0 := u64_getD hu 0
  refine fnr_enter Try.func105 rfl rfl ?_
  refine ldb hb0 rfl ?_
  refine ix 0 rfl (by omega) ?_
  refine ld (v := .int .u64 (W.getD 0 0)) (hs0'.getD_ rfl 0 (by omega)) ?_
  refine cl (aptr_c hu0 W0) ?_
  rintro _ w1 ⟨rfl, rfl⟩
  refine ldw hp0 rfl ?_
  refine cl (conf_c A T N L B P S w1) ?_
  rintro _ w2 ⟨rfl, hu2⟩
  refine fl (v := .int .i64 N) rfl ?_
  have hch : ∃ m, (chain ⟨A, T, N, L, B, P, S⟩ W).drop 0 = chn ⟨A, T, N, L, B, P, S⟩ W m (ptrW (W.getD 0 0)) ∧ (m : Int) = N - (0 : Nat) := ⟨N.toNat, rfl, by omega⟩
  generalize hl : chain ⟨A, T, N, L, B, P, S⟩ W = l at *
  have hll : l.length ≤ N.toNat := by rw [← hl]; exact chn_len _ _ _ _
  refine loop_ruleR [0, 1, 2, 12] [4, 13] (fun vs w' m => ∃ (i : Nat) (n : Int) (o : Ob), vs = [.int .i64 n, .int .i64 (i : Int)] ∧ i ≤ l.length ∧ l.drop i = chn ⟨A, T, N, L, B, P, S⟩ W m n ∧ (m : Int) = N - i ∧ G i o ∧ o.ok w' ∧ To w1 o0.foot w' o.foot) rfl [.int .i64 (ptrW (W.getD 0 0)), .int .i64 0] N.toNat rfl ?_ ?_
  · obtain ⟨m, h1, h2⟩ := hch
    obtain rfl : m = N.toNat := by omega
    exact ⟨0, _, o0, rfl, by omega, h1, by omega, h0, o0.keep ho hu2 (by simp), (To.refl _ _).upd0 hu2⟩
  rintro _ w3 m ⟨i, n, o, rfl, hi, hdr, hm, hG, hok, hto⟩
  refine cd (fun hlt => ?_) (fun hlt => ?_)
  · obtain ⟨m, rfl⟩ : ∃ k, m = k + 1 := ⟨m - 1, by omega⟩
    obtain ⟨hb3, hp3, hs3⟩ := hAk hto
    refine ldw hp3 rfl ?_
    refine cl (link_a2 (c := ⟨A, T, N, L, B, P, S⟩) hr n w3) ?_
    rintro _ w4 ⟨rfl, hu4⟩
    have hto4 := hto.upd0 hu4
    have hok4 := o.keep hok hu4 (by simp)
    have hlb := link_bd (c := ⟨A, T, N, L, B, P, S⟩) hr n
    unfold chn at hdr
    refine cd (fun hneg => ?_) (fun hneg => ?_)
    · rw [if_pos hneg] at hdr
      have : l.length ≤ i := List.drop_eq_nil_iff.1 hdr
      have hi : i = l.length := by omega
      subst hi
      exact ⟨o, hok4, hto4, .inl (by rw [List.length_map]; exact hG)⟩
    · rw [if_neg hneg] at hdr
      have hil : i < l.length := by
        rcases Nat.lt_or_ge i l.length with h | h
        · exact h
        · rw [List.drop_eq_nil_of_le h] at hdr; cases hdr
      have hx : l[i]? = some n := by
        have := congrArg (fun l => l[0]?) hdr
        simpa [List.getElem?_drop] using this
      have hx1 : (l.map one1)[i]? = some (one1 n) := by rw [List.getElem?_map, hx]; rfl
      have hdr' : l.drop (i + 1) = chn ⟨A, T, N, L, B, P, S⟩ W m (toI (W.getD (Cf.link ⟨A, T, N, L, B, P, S⟩ n).toNat 0)) := by
        rw [← List.drop_drop, hdr]; rfl
      refine yl (hy i o w4 (one1 n) hx1 hG hok4 hto4) ?_
      rintro bb w5 ⟨o', hok', hto', ⟨rfl, hG'⟩ | ⟨rfl, hGx⟩⟩
      · have hto5 := hto4.trans hto'
        obtain ⟨hb5, hp5, hs5⟩ := hAk hto5
        have h0 : Cf.link ⟨A, T, N, L, B, P, S⟩ n < sizeP A T N L := by
          rcases hlb with h | h
          · omega
          · exact h.2.2.2.2
        refine ldb hb5 rfl ?_
        refine ix (Cf.link ⟨A, T, N, L, B, P, S⟩ n).toNat (by omega) (by omega) ?_
        refine ld (v := .int .u64 (W.getD (Cf.link ⟨A, T, N, L, B, P, S⟩ n).toNat 0)) (hs5.getD_ rfl _ (by omega)) ?_
        refine cv ?_
        refine val (toI (W.getD (Cf.link ⟨A, T, N, L, B, P, S⟩ n).toNat 0)) rfl ?_
        refine ar64 (by omega) ?_
        exact round_mkR [_, .int .i64 ((i + 1 : Nat) : Int)] m rfl rfl ⟨i + 1, _, o', rfl, by omega, hdr', by omega, hG', hok', hto5⟩ (by omega)
      · exact ⟨o', hok', hto4.trans hto', .inr ⟨i, by rw [List.length_map]; exact hil, hGx⟩⟩
  · obtain rfl : m = 0 := by omega
    unfold chn at hdr
    have : l.length ≤ i := List.drop_eq_nil_iff.1 hdr
    have hi : i = l.length := by omega
    subst hi
    exact ⟨o, hok, hto, .inl (by rw [List.length_map]; exact hG)⟩
theorem size_bd {c : Cf} (hr : rightC c) : 10 ≤ sizeP c.A c.T c.N c.L ∧ sizeP c.A c.T c.N c.L ≤ 924 := by
  obtain ⟨A, T, N, L, B, P, S⟩ := c
  obtain ⟨b1, b2, b3, b4, b5, b6, b7, b8, b9, b10, b11, b12⟩ := plan_bd hr
  exact ⟨(by omega : 10 ≤ sizeP A T N L), b11⟩
theorem N_bd {c : Cf} (hr : rightC c) : 1 ≤ c.N ∧ c.N ≤ 64 := by
  obtain ⟨A, T, N, L, B, P, S⟩ := c
  exact (plan_bd hr).2.2.2.2.1
theorem chain_0 (w : World) : Fn Try.prog 54 #[.pointer none] w fun r w' => r = .slice none 0 0 ∧ Upd [] w w' := by
  refine fnr_enter Try.func54 rfl rfl ?_
  refine ptr_eq0 ?_
  exact ⟨rfl, Upd.refl _ _⟩
set_option maxRecDepth 10000 in
theorem chain_c {w : World} {X : Mc} (h : Mach w X) (hr : rightC X.c) (hW : X.s.W.length = (sizeP X.c.A X.c.T X.c.N X.c.L).toNat) (hu : ∀ x ∈ X.s.W, u64R x) :
    Fn Try.prog 54 #[ptrV X.m] w fun r w' => Sl w' 3 1 r (chain X.c X.s.W).length ((chain X.c X.s.W).map (.int .i64)) ∧ Upd [] w w' := by
  have hsz := size_bd hr
  have hN := N_bd hr
  have hcl : (chain X.c X.s.W).length ≤ 64 := by have := chn_len X.c X.s.W X.c.N.toNat (ptrW (X.s.W.getD 0 0)); unfold chain; omega
  refine fnr_enter Try.func54 rfl rfl ?_
  refine ptr_eq ?_
  refine al #[.slice none 0 0] (fun _ => by kernel_rfl) fun w1 hb1 hu1 hs1 => ?_
  have hb1 : Blk w1 w.heap.size TIs #[.slice none 0 0] := hb1
  have h1 := h.upd0 hu1
  refine cl (mem_mm h1) ?_
  rintro _ w1 ⟨rfl, rfl⟩
  refine cl (words_c h1.mem (by omega)) ?_
  rintro wv w2 ⟨hs2, hu2, hn2⟩
  have h2 := h1.upd0 hu2
  refine cl (plan_mm h2) ?_
  rintro _ w3 ⟨rfl, hu3⟩
  refine cl (nodes_c (c := X.c) wv w3) ?_
  rintro _ w4 ⟨b1, b2, rfl, hq1, hq2, hu4, hz1, hz2⟩
  obtain ⟨wa, wc, hwv, -⟩ := hs2.form
  have hq1 := hq1 _ _ _ hwv
  have hs4 := (hs2.upd hu3 (by simp)).upd hu4 (by simp)
  have hz12 : w1.heap.size ≤ w2.heap.size := hu2.size
  have hz23 : w2.heap.size ≤ w3.heap.size := hu3.size
  have hd2 : w1.heap.size = w.heap.size + 1 := hs1
  have hU4 : Upd [] w w4 := ((hu1.trans hu2).trans hu3).trans hu4
  have hbl4 := ((hb1.upd hu2 (by simp)).upd hu3 (by simp)).upd hu4 (by simp)
  have hon := nodes_iter (b1 := b1) (b2 := b2) (v := wv) (c := X.c) (W := X.s.W) hr hW hu
  generalize hl : chain X.c X.s.W = l at *
  refine ⟨rfl, range_rule hon (w := w4) ?_ (fun i o => ∃ v', o = obAll [obBlk w.heap.size TIs #[v'], obIn v' (l.take i)]) (fun _ _ _ => False) (obAll [obBlk w.heap.size TIs #[.slice none 0 0], obIn (.slice none 0 0) []]) ⟨.slice none 0 0, rfl⟩ ?_ ?_ (fun va hva => by
      obtain ⟨x, -, rfl⟩ := List.mem_map.1 hva; rfl) (by decide) (fun i va o w5 w6 hva hG ht5 ho5 ht6 ho6 => ?_) (fun r o w5 hG ho5 ht5 hd hr hro => ?_) (fun r c i o w5 hi hGx _ _ _ _ _ => hGx.elim)⟩
  · intro x hx
    simp only [List.mem_cons, List.not_mem_nil, or_false] at hx
    rcases hx with rfl | rfl | rfl
    · exact hq1
    · exact hq2
    · exact hs4
  · exact Sep.cons (Sep.cons (Sep.nil w4) (Sl.nil_ _ _ _) (by simp [feet])) hbl4 (by simp [feet, obSl, Value.ownBlock])
  · intro k hk hm
    have e : k = w.heap.size := by simpa [obAll, feet, obBlk, obSl, Value.ownBlock] using hm
    subst e
    simp only [obEv, feet, obBlk, obSl, List.flatMap_cons, List.flatMap_nil, List.append_nil, List.mem_append, List.mem_singleton] at hk
    rcases hk with h | h | h
    · omega
    · omega
    · have := hn2 _ (by simpa using h); omega
  · obtain ⟨v', rfl⟩ := hG
    have hil : i < l.length := by
      rcases Nat.lt_or_ge i l.length with h | h
      · exact h
      · rw [List.getElem?_eq_none (by simpa using h)] at hva; cases hva
    have hx : va = one1 (l.getD i 0) := by
      rw [List.getElem?_map, List.getElem?_eq_getElem hil] at hva
      have := Option.some.inj hva
      rw [← this]; simp [List.getD, hil]
    subst hx
    have ho6' : Sep w6 [obBlk w.heap.size TIs #[v'], obIn v' (l.take i)] := ho6
    have hblk : Blk w6 w.heap.size TIs #[v'] := ho6'.ok (obBlk w.heap.size TIs #[v']) (by simp)
    have hsl : Sl w6 3 1 v' (l.take i).length ((l.take i).map (.int .i64)) := ho6'.ok (obIn v' (l.take i)) (by simp)
    have hln : (l.take i).length = i := by rw [List.length_take]; omega
    refine ⟨rfl, rfl, rfl, ?_⟩
    refine ldb hblk rfl ?_
    refine bs (one1 (l.getD i 0)) (fun _ => by kernel_rfl) fun w7 hb7 hu7 hs7 => ?_
    refine apg (hsl.upd hu7 (by simp)) hb7 rfl rfl (by decide) (by simp only [maxLen]; omega) (by omega) fun v2 w8 hs8 hG8 => ?_
    have hnb := hsl.blk_ne hblk (by decide)
    have hb8 := (hblk.upd hu7 (by simp)).upd hG8.up (by simpa using hnb)
    obtain ⟨v2a, v2c, rfl, -⟩ := hs8.form
    refine st hb8 (by show 0 < 1; omega) rfl fun w9 hb9 hu9 hs9 => ?_
    obtain ⟨r1, r2⟩ := BoxL.add ho6 hil hu7 hG8 hs8 hb9 hu9
    exact ⟨_, r1, r2, _, rfl⟩
  · obtain ⟨v', rfl⟩ := hG
    have hfull : l.take (l.map one1).length = l := by rw [List.length_map, List.take_length]
    rw [hfull] at ho5 hro ht5
    have ho5' : Sep w5 [obBlk w.heap.size TIs #[v'], obIn v' l] := ho5
    have hblk : Blk w5 w.heap.size TIs #[v'] := ho5'.ok (obBlk w.heap.size TIs #[v']) (by simp)
    have hsl : Sl w5 3 1 v' l.length (l.map (.int .i64)) := ho5'.ok (obIn v' l) (by simp)
    have hfoot0 : (obAll [obBlk w.heap.size TIs #[.slice none 0 0], obIn (.slice none 0 0) []]).foot = [w.heap.size] := by simp [obAll, feet, obBlk, obSl, Value.ownBlock]
    rw [hfoot0] at ht5
    have hU5 : Upd [] w w5 := hU4.step ht5.up (by simp)
    obtain ⟨va', vc', rfl, -⟩ := hsl.form
    refine ldb hblk rfl ?_
    refine ⟨hd, fun w7 hu7 hz7 => ?_⟩
    refine ⟨?_, hU5.step hu7 (by have := hU4.size; simp; omega)⟩
    refine hsl.upd hu7 (fun g hg hm => ?_)
    have e : g = r := List.mem_singleton.1 hm
    subst e
    exact hro (mem_feet.2 ⟨obIn (.slice va' l.length vc') l, by simp, by simp [obSl, hg]⟩)
end Go.Proofs.Ytdomclcokkijjaa

/- A step of arena.Do, and all steps of one routine. -/
namespace Go.Proofs.Ytdomclcokkijjaa
open Go.RowKit
attribute [local irreducible] Instr.loadAt Instr.storeAt Instr.fieldAt Instr.indexAt Instr.sliceAt Instr.buildSlice Instr.box Instr.alloc Builtin.append_ Builtin.len_ Builtin.min_ Builtin.max_ Calls Instr.build Instr.makeSlice binSem convert Instr.index Instr.range Instr.next
section
variable {w w' : World} {X : Mc} {i : Nat} {t : Th} {b : Int}
def calm0 (p : PS) : PS := { p with acted := false }
theorem PS.Ok.calm {p : PS} {b : Int} (h : p.Ok b) : (calm0 p).Ok b := ⟨h.r, h.t, h.k0, h.k1, h.w, h.l⟩
def topL (p : PS) (i : Nat) : Nat := match p.ths[i]? with | some t => t.fs.length | none => 0
theorem put_th {p : PS} {i : Nat} {t0 t : PT} (h : p.ths[i]? = some t0) : (p.put i t).ths[i]? = some t := by
  show (p.ths.set i t)[i]? = _
  rw [List.getElem?_set, if_pos rfl, if_pos (List.getElem?_eq_some_iff.1 h).1]
theorem arDo_th {p : PS} {i : Nat} {t0 : PT} (h : p.ths[i]? = some t0) (fs : List Fr) (f : Fr) : ∃ t', (arDo p i t0 fs f).ths[i]? = some t' ∧ (t'.fs = fs ∨ ∃ f', t'.fs = fs ++ [f']) := by
  unfold arDo
  split
  · unfold arAlloc
    split
    · split
      · exact ⟨_, put_th h, .inl rfl⟩
      · exact ⟨_, put_th h, .inr ⟨_, rfl⟩⟩
    · split
      · exact ⟨_, put_th h, .inr ⟨_, rfl⟩⟩
      · split
        · exact ⟨_, put_th h, .inl rfl⟩
        · exact ⟨_, put_th h, .inr ⟨_, rfl⟩⟩
  · split
    · unfold arRelease
      split
      · exact ⟨_, put_th h, .inr ⟨_, rfl⟩⟩
      · split
        · exact ⟨_, put_th h, .inr ⟨_, rfl⟩⟩
        · split
          · exact ⟨_, put_th h, .inl rfl⟩
          · exact ⟨_, put_th h, .inr ⟨_, rfl⟩⟩
    · exact ⟨_, put_th h, .inl rfl⟩
theorem arDo_acted (p : PS) (i : Nat) (t : PT) (fs : List Fr) {f : Fr} (hf : f.fn = 1 ∨ f.fn = 2) : (arDo p i t fs f).acted = true := by
  unfold arDo
  rcases hf with h | h
  · rw [if_pos h]
    unfold arAlloc
    split
    · split <;> rfl
    · split
      · rfl
      · split <;> rfl
  · rw [if_neg (by omega), if_pos h]
    unfold arRelease
    split
    · rfl
    · split
      · rfl
      · split <;> rfl
theorem abs_calm (X : Mc) : ({ X with acted := false } : Mc).abs = calm0 X.abs := rfl
theorem abs_at {X : Mc} {p : PS} (h : X.abs = p) {i : Nat} {t : Th} (hi : X.ths[i]? = some t) : p.ths[i]? = some (absT t) := by rw [← h]; exact abs_th X hi
set_option maxRecDepth 10000 in
theorem step_ar (h : Mach w X) (hg : Good X b) (hb : b ≤ 900000) {fs : List Fr} {f : Fr} (hi : X.ths[i]? = some t) (hfs : t.fs = fs ++ [f]) (hl : fs.length ≤ 90000) (hX : X.ths.length ≤ 100) (hR : ∀ j, u64R (f.R.getD j 0)) (hf : (f.fn = 1 ∨ f.fn = 2) ∨ fs = []) :
    Fn Try.prog 47 #[ptrV X.m, .int .i64 (i : Int), .func (.func 53) #[] #[]] w fun r w' => r = .bool (decide (0 < topL (arDo (calm0 X.abs) i (absT t) fs f) i)) ∧ Ev w X w' (arDo (calm0 X.abs) i (absT t) fs f) := by
  have hth : (calm0 X.abs).ths[i]? = some (absT t) := abs_th X hi
  obtain ⟨t', ht', hfs'⟩ := arDo_th hth fs f
  generalize hq : arDo (calm0 X.abs) i (absT t) fs f = q at *
  refine (step_mm (f := 53) (ys := #[]) (fun Y w' n => (n = 1 ∧ Post w X w' Y ∧ Kin X Y ∧ Y.abs = calm0 X.abs ∧ Y.ths = X.ths ∧ Y.acted = false) ∨ (n = 0 ∧ Post w X w' Y ∧ Kin X Y ∧ Y.abs = q)) 1 h hi rfl hX (fun w' p => .inl ⟨rfl, p, ⟨rfl, rfl, rfl, rfl, id⟩, rfl, rfl, rfl⟩) ?_ ?_).mono ?_
  · rintro Y w' n (⟨rfl, p, k, ha, hths, hac⟩ | ⟨rfl, p, k, ha⟩)
    · exact ⟨p.ok, k.m, t, by rw [hths]; exact hi, rfl, by rw [hfs]; simp; omega⟩
    · obtain ⟨t2, h2, hg2⟩ := k.g hi
      refine ⟨p.ok, k.m, t2, h2, hg2, ?_⟩
      have := abs_at ha h2
      rw [ht'] at this
      have e : t'.fs = t2.fs := by rw [Option.some.inj this]; rfl
      rw [← e]
      rcases hfs' with e | ⟨f', e⟩
      · rw [e]; omega
      · rw [e]; simp; omega
  · rintro Y w' n t2 (⟨rfl, p, k, ha, hths, hac⟩ | ⟨rfl, p, k, ha⟩) h2 hac2 hne
    · rw [hths, hi] at h2
      obtain rfl := Option.some.inj h2
      have hgY : Good Y b := hg.of k ha hg.ok.calm
      have := do_p (t := t) p.ok hgY hb (by rw [hths]; exact hi) hfs hl hR
      rw [show (#[] ++ [ptrV X.m, ptrV t.g].toArray ++ #[] : Array Value) = #[ptrV Y.m, ptrV t.g] by rw [k.m]; simp]
      refine this.mono ?_
      rintro e w2 ⟨u, he, X2, p2, k2, a2⟩
      rw [ha, hq] at a2
      exact ⟨u, he, X2, 0, .inr ⟨rfl, p.trans p2, k.trans k2, a2⟩, by omega⟩
    · exfalso
      have h3 := abs_at ha h2
      rw [ht'] at h3
      have e : t'.fs = t2.fs := by rw [Option.some.inj h3]; rfl
      by_cases h12 : f.fn = 1 ∨ f.fn = 2
      · have := arDo_acted (calm0 X.abs) i (absT t) fs h12
        rw [hq, ← ha] at this
        rw [show Y.abs.acted = Y.acted from rfl, hac2] at this
        cases this
      · have e2 : q.ths[i]? = some { absT t with fs := fs, r := (0, 0, 0) } := by
          rw [← hq]; unfold arDo
          rw [if_neg (fun h => h12 (.inl h)), if_neg (fun h => h12 (.inr h))]
          exact put_th hth
        rw [e2] at ht'
        have e3 : fs = t'.fs := congrArg PT.fs (Option.some.inj ht')
        have e4 : fs = [] := by
          rcases hf with h | h
          · exact absurd h h12
          · exact h
        exact hne (by rw [← e, ← e3, e4])
  · rintro e w' ⟨r, he, Y, n, t2, (⟨rfl, p, k, ha, hths, hac⟩ | ⟨rfl, p, k, ha⟩), h2, hor, rfl⟩
    · exfalso
      rw [hths, hi] at h2
      obtain rfl := Option.some.inj h2
      rcases hor with h3 | h3
      · rw [hac] at h3; cases h3
      · rw [hfs] at h3; simp at h3
    · refine ⟨_, he, ?_, Y, p, k, ha⟩
      have h3 := abs_at ha h2
      have : topL q i = t2.fs.length := by unfold topL; rw [h3]; rfl
      rw [this]
      exact congrArg Value.bool (by simp)
/-- the steps of one routine, done by thread 0 -/
def Runs : Nat → PS → PS → Prop
  | 0, p, q => p = q ∧ topL q 0 = 0
  | n + 1, p, q => ∃ t f, p.ths[0]? = some t ∧ t.fs = [f] ∧ (∀ j, u64R (f.R.getD j 0)) ∧ (f.fn = 1 ∨ f.fn = 2) ∧ p.Ok 900000 ∧ Runs n (arDo (calm0 p) 0 t [] f) q
def ret0 (p : PS) : Int := match p.ths[0]? with | some t => t.r.1 | none => 0
def pushed (p : PS) (fn x : Int) : PS := match p.ths[0]? with | some t => p.put 0 { t with fs := t.fs ++ [⟨fn, 0, [x]⟩] } | none => p
theorem Runs.top : ∀ {n : Nat} {p q : PS}, Runs n p q → topL p 0 = if n = 0 then 0 else 1
  | 0, _, _, h => by rw [h.1]; exact h.2
  | n + 1, p, q, ⟨t, f, h1, h2, _⟩ => by unfold topL; rw [h1]; simp [h2]
theorem absT_r (t : Th) : (absT t).r = t.r := rfl
set_option maxRecDepth 10000 in
theorem alone_c {w : World} {X : Mc} {t : Th} {q : PS} (h : Mach w X) (hc : X.s.on = false ∧ X.s.L = []) (hT : X.ths.length ≤ 100) (ht : X.ths[0]? = some t) (hfs : t.fs = []) (n : Nat) (hn : n < 40) (fn node : Int) (hr : Runs (n + 1) (pushed X.abs fn (IntKind.u64.wrap node)) q) :
    Fn Try.prog 55 #[ptrV X.m, .int .i64 fn, .int .i64 node] w fun r w' => r = .int .i64 (toI (ret0 q)) ∧ Ev w X w' q := by
  refine fn_enter Try.func55 rfl rfl ?_
  refine cl (thread_mm (i := 0) h ht hT) ?_
  rintro _ w ⟨rfl, rfl⟩
  refine cv ?_
  refine val (IntKind.u64.wrap node) rfl ?_
  refine bs #[.int .u64 (IntKind.u64.wrap node)] (fun _ => by kernel_rfl) fun w1 hb1 hu1 hs1 => ?_
  have h1 := h.upd0 hu1
  refine cl (push_mm h1 ht (by rw [hfs]; simp) (one_rd hb1) (by simp) fn) ?_
  rintro _ w2 ⟨fv, p2⟩
  have p2' : Post w X w2 _ := (Post.of0 h hu1).trans p2
  have k2 := kin_set X (t' := { t with fv := fv, fs := t.fs ++ [⟨fn, 0, [IntKind.u64.wrap node]⟩] }) ht rfl
  have a2 : ({ X with ths := X.ths.set 0 { t with fv := fv, fs := t.fs ++ [⟨fn, 0, [IntKind.u64.wrap node]⟩] } } : Mc).abs = pushed X.abs fn (IntKind.u64.wrap node) := by
    rw [abs_set]; unfold pushed; rw [abs_th X ht]; rfl
  generalize hY : ({ X with ths := X.ths.set 0 { t with fv := fv, fs := t.fs ++ [⟨fn, 0, [IntKind.u64.wrap node]⟩] } } : Mc) = Y at *
  refine loop_rule [0, 7] [8] (fun vs w' m => ∃ (i n : Nat) (p : PS), vs = [.int .i64 (i : Int)] ∧ Ev w X w' p ∧ Runs (n + 1) p q ∧ n + i < 40 ∧ m = n) rfl [.int .i64 0] n rfl ⟨0, n, _, rfl, ⟨Y, p2', k2, a2⟩, hr, by omega, rfl⟩ ?_
  rintro _ w3 m ⟨i, m, p, rfl, ⟨Z, p3, k3, a3⟩, hrun, hmi, rfl⟩
  obtain ⟨t3, f3, g1, g2, g3, g4, g5, hrun⟩ := hrun
  obtain ⟨tz, hz, hzg⟩ := k3.g ht
  have hgood : Good Z 900000 := ⟨by rw [a3]; exact g5, k3.calm hc⟩
  have hz3 := abs_at a3 hz
  rw [g1] at hz3
  have hz3 := Option.some.inj hz3
  have hzfs : tz.fs = [] ++ [f3] := by rw [← g2, hz3]; rfl
  have hst := step_ar (i := 0) p3.ok hgood (by omega) hz hzfs (by simp) (by rw [k3.len]; exact hT) g3 (.inl g4)
  rw [a3, ← hz3, show Z.m = X.m from k3.m] at hst
  refine cY (show (i : Int) < 50 by omega) ?_
  refine cl hst ?_
  rintro _ w4 ⟨rfl, e4⟩
  have htop := hrun.top
  have e4' : Ev w X w4 _ := Ev.before p3 k3 e4
  cases m with
  | zero =>
    rw [htop]
    rw [if_pos rfl]
    obtain ⟨hq, -⟩ := hrun
    rw [hq] at e4'
    obtain ⟨Z4, p4, k4, a4⟩ := e4'
    obtain ⟨t4, ht4, hg4⟩ := k4.g ht
    refine ptr_eq ?_
    have hblk := (p4.ok.core ht4).blk
    rw [hg4] at hblk
    refine fa ?_
    refine ixA 0 rfl (by omega) ?_
    refine ldb hblk rfl ?_
    refine cv ?_
    refine val (toI t4.r.1) rfl ?_
    have h4 := abs_at a4 ht4
    refine ⟨?_, Z4, p4, k4, a4⟩
    unfold ret0
    rw [h4]; rfl
  | succ m =>
    rw [htop]
    rw [if_neg (by omega)]
    refine ar64 (by omega) ?_
    exact round_mk [.int .i64 ((i + 1 : Nat) : Int)] m rfl rfl ⟨i + 1, m, _, rfl, e4', hrun, by omega, rfl⟩ (by omega)
end
end Go.Proofs.Ytdomclcokkijjaa

/- The arena alone: what a routine does to the list. -/
namespace Go.Proofs.Ytdomclcokkijjaa
open Go.RowKit
attribute [local irreducible] Instr.loadAt Instr.storeAt Instr.fieldAt Instr.indexAt Instr.sliceAt Instr.buildSlice Instr.box Instr.alloc Builtin.append_ Builtin.len_ Builtin.min_ Builtin.max_ Calls Instr.build Instr.makeSlice binSem convert Instr.index Instr.range Instr.next
/-- a machine with other memory, ghosts, and first thread -/
def M (p : PS) (a : Bool) (k : Int) (W : List Int) (gh : Option (List Int × Int × Int)) (t : PT) : PS := ⟨p.c, W, k, gh, a, p.bad, p.ths.set 0 t⟩
section
variable {p : PS} {a : Bool} {k : Int} {W : List Int} {gh : Option (List Int × Int × Int)} {t : PT}
theorem M_put (t' : PT) : (M p a k W gh t).put 0 t' = M p a k W gh t' := by unfold M PS.put; simp
theorem M_calm : calm0 (M p a k W gh t) = M p false k W gh t := rfl
theorem M_th {t0 : PT} (h : p.ths[0]? = some t0) : (M p a k W gh t).ths[0]? = some t := by
  show (p.ths.set 0 t)[0]? = _
  rw [List.getElem?_set, if_pos rfl, if_pos (List.getElem?_eq_some_iff.1 h).1]
theorem M_tchd {x : Int} (hw : (p.c.where_ x).1 ≠ 3) : (M p a k W gh t).tchd [x] = gh := by
  cases gh with
  | none => rfl
  | some g =>
    show some (if (p.c.where_ x).1 = 3 then (g.1, gto g.1 g.2.1 g.2.2 (p.c.where_ x).2.1) else g) = some g
    rw [if_neg hw]
theorem M_load {x : Int} (hx : 0 ≤ x ∧ x < W.length) (hw : (p.c.where_ x).1 ≠ 3) : (M p a k W gh t).load x = M p true (k + 1) W gh t := by
  have ho : (M p a k W gh t).okP x := hx
  unfold PS.load
  rw [M_tchd hw, if_pos ho, decide_eq_true ho]
  show (⟨p.c, W, k + 1, gh, true, p.bad || !true, p.ths.set 0 t⟩ : PS) = _
  simp [M]
theorem M_ldv {x : Int} (hx : 0 ≤ x ∧ x < W.length) : (M p a k W gh t).ldv x = W.getD x.toNat 0 := by
  have ho : (M p a k W gh t).okP x := hx
  unfold PS.ldv
  rw [if_pos ho]; rfl
theorem M_store {x y : Int} (hx : 0 ≤ x ∧ x < W.length) (hw : (p.c.where_ x).1 ≠ 3) : (M p a k W gh t).store x y = M p true (k + 1) (W.set x.toNat y) gh t := by
  have ho : (M p a k W gh t).okP x := hx
  unfold PS.store
  rw [M_tchd hw, if_pos ho, if_pos ho, decide_eq_true ho]
  show (⟨p.c, W.set x.toNat y, k + 1, gh, true, p.bad || !true, p.ths.set 0 t⟩ : PS) = _
  simp [M]
theorem M_cas {x y : Int} (hx : 0 ≤ x ∧ x < W.length) (hw : (p.c.where_ x).1 ≠ 3) : (M p a k W gh t).cas x (W.getD x.toNat 0) y = M p true (k + 1) (W.set x.toNat y) gh t := by
  have ho : (M p a k W gh t).okP x := hx
  unfold PS.cas
  rw [M_tchd hw, if_pos ho, decide_eq_true ho]
  have hc : (M p a k W gh t).okP x ∧ (M p a k W gh t).rd x = W.getD x.toNat 0 := ⟨ho, rfl⟩
  rw [if_pos hc]
  show (⟨p.c, W.set x.toNat y, k + 1, gh, true, p.bad || !true, p.ths.set 0 t⟩ : PS) = _
  simp [M]
theorem M_casv {x : Int} (hx : 0 ≤ x ∧ x < W.length) : (M p a k W gh t).casv x (W.getD x.toNat 0) = true := decide_eq_true ⟨hx, rfl⟩
theorem M_deed {tg : List Int} {i frm to kind : Int} (hi : 1 ≤ i ∧ i ≤ tg.length) (hf : tg.getD (i - 1).toNat 0 = frm) : (M p a k W (some (tg, 0, 0)) t).deed i frm to kind = M p a k W (some (tg.set (i - 1).toNat to, 0, 0)) t := by
  show (⟨p.c, W, k, some (gt tg 0 0 i frm to kind).2, a, p.bad, p.ths.set 0 t⟩ : PS) = _
  unfold gt
  rw [if_neg (by omega), if_pos hf]; rfl
theorem M_ok {b b' : Int} {tg : List Int} (h : p.Ok b) (hk : 0 ≤ k ∧ k ≤ b') (hW : ∀ x ∈ W, u64R x) (hl : W.length = p.W.length) (hg : tg.length ≤ 64) (n1 n2 : Int) : (M p a k W (some (tg, n1, n2)) t).Ok b' := ⟨h.r, hg, hk.1, hk.2, hW, hl.trans h.l⟩
end
theorem where_0 {c : Cf} (hr : rightC c) : (c.where_ 0).1 ≠ 3 := by
  have hz := size_bd hr
  unfold Cf.where_ whereP
  rw [if_neg (by omega), if_pos (by decide)]; decide
theorem where_link {c : Cf} (hr : rightC c) {x : Int} (hx : 1 ≤ x ∧ x ≤ c.N) : (c.where_ (c.link x)).1 ≠ 3 ∧ 10 ≤ c.link x ∧ c.link x < sizeP c.A c.T c.N c.L := by
  obtain ⟨A, T, N, L, B, P, S⟩ := c
  obtain ⟨b1, b2, b3, b4, b5, b6, b7, b8, b9, b10, b11, b12⟩ := plan_bd hr
  have hx : 1 ≤ x ∧ x ≤ N := hx
  have e : Cf.link ⟨A, T, N, L, B, P, S⟩ x = linksP A T L + x - 1 := by unfold Cf.link linkA; rw [if_pos hx]
  rw [e]
  refine ⟨?_, by omega, (by omega : linksP A T L + x - 1 < sizeP A T N L)⟩
  unfold Cf.where_ whereP
  simp only
  rw [if_neg (by omega), if_neg (by omega), if_neg (by omega), if_pos (by omega)]
  show (2 : Int) ≠ 3
  decide
theorem link_inj {c : Cf} {x y : Int} (hx : 1 ≤ x ∧ x ≤ c.N) (hy : 1 ≤ y ∧ y ≤ c.N) (h : c.link x = c.link y) : x = y := by
  unfold Cf.link linkA at h
  rw [if_pos hx, if_pos hy] at h
  omega
def Lk (c : Cf) (W : List Int) : Int → List Int → Prop
  | n, [] => n = 0
  | n, x :: l => n = x ∧ (1 ≤ x ∧ x ≤ c.N) ∧ Lk c W (toI (W.getD (c.link x).toNat 0)) l
theorem Lk.mem {c : Cf} {W : List Int} : ∀ {l : List Int} {n : Int}, Lk c W n l → ∀ x ∈ l, 1 ≤ x ∧ x ≤ c.N
  | [], _, _, x, hx => by cases hx
  | y :: l, n, h, x, hx => by
    rcases List.mem_cons.1 hx with e | e
    · rw [e]; exact h.2.1
    · exact Lk.mem h.2.2 x e
theorem getD_set {l : List Int} {i j : Nat} {v : Int} (h : i ≠ j) : (l.set i v).getD j 0 = l.getD j 0 := by
  simp [List.getD, List.getElem?_set, h]
theorem setD_self {l : List Int} {i : Nat} {v : Int} (h : i < l.length) : (l.set i v).getD i 0 = v := by
  simp [List.getD, h]
theorem Lk.set {c : Cf} {W : List Int} {i : Nat} {v : Int} : ∀ {l : List Int} {n : Int}, Lk c W n l → (∀ x ∈ l, (c.link x).toNat ≠ i) → Lk c (W.set i v) n l
  | [], _, h, _ => h
  | y :: l, n, h, hi => ⟨h.1, h.2.1, by
    rw [getD_set (Ne.symm (hi y List.mem_cons_self))]
    exact Lk.set h.2.2 (fun x hx => hi x (List.mem_cons_of_mem _ hx))⟩
structure Rep (p : PS) (free tg : List Int) (b : Int) : Prop where
  ok : p.Ok b
  th : ∃ t, p.ths[0]? = some t ∧ t.fs = []
  lk : Lk p.c p.W (ptrW (p.W.getD 0 0)) free
  gh : p.gh = some (tg, 0, 0)
  nd : free.Nodup
  tag : ∀ x ∈ free, tg.getD (x - 1).toNat 0 = 0
  tl : (tg.length : Int) = p.c.N
  bad : p.bad = false
theorem Rep.up {p : PS} {l tg : List Int} {b c : Int} (R : Rep p l tg b) (h : b ≤ c) : Rep p l tg c := ⟨R.ok.up h, R.th, R.lk, R.gh, R.nd, R.tag, R.tl, R.bad⟩
theorem toI_small {x : Int} (h : 0 ≤ x ∧ x < 65536) : toI x = x := IntWalk.i64_in x (by omega)
theorem ptr_next {x n : Int} (h : 0 ≤ n ∧ n < 65536) : ptrW (nextW x n) = n := by
  unfold ptrW nextW
  have e : n % 18446744073709551616 % 65536 = n := by rw [Int.emod_eq_of_lt (by omega) (by omega), Int.emod_eq_of_lt (by omega) (by omega)]
  rw [e]; omega
theorem Lk.small {c : Cf} (hr : rightC c) {W : List Int} {l : List Int} {n : Int} (h : Lk c W n l) : 0 ≤ n ∧ n < 65536 := by
  have hN := N_bd hr
  cases l with
  | nil => have : n = 0 := h; omega
  | cons x l => have := h.1; have := h.2.1; omega
theorem pushed_M {p : PS} {t : PT} (h : p.ths[0]? = some t) (hf : t.fs = []) (fn x : Int) : pushed p fn x = M p p.acted p.k p.W p.gh { t with fs := [⟨fn, 0, [x]⟩] } := by
  unfold pushed
  rw [h]
  show p.put 0 { t with fs := t.fs ++ [⟨fn, 0, [x]⟩] } = _
  rw [hf]; rfl
theorem regs_1 {x : Int} (h : u64R x) : ∀ j, u64R (([x] : List Int).getD j 0)
  | 0 => h
  | _ + 1 => (⟨by decide, by decide⟩ : u64R 0)
theorem regs_I {l : List Int} {k : Nat} {x : Int} (h : ∀ j, u64R (l.getD j 0)) (hx : u64R x) (j : Nat) : u64R ((regI l k x).getD j 0) := by
  rcases Nat.lt_or_ge j 10 with hj | hj
  · rw [regI_at _ _ _ _ hj]
    split
    · exact hx
    · exact h j
  · have : (regI l k x).getD j 0 = 0 := by simp [List.getD, regI, List.getElem?_eq_none, hj]
    rw [this]; exact ⟨by decide, by decide⟩
theorem al_spec {p : PS} {x : Int} {l tg : List Int} {b : Int} (R : Rep p (x :: l) tg b) (hb : b + 3 ≤ 900000) {y : Int} (hy : u64R y) : ∃ q, Runs 3 (pushed p 1 y) q ∧ Rep q l (tg.set (x - 1).toNat 1) (b + 3) ∧ q.k = p.k + 3 ∧ ret0 q = x ∧ q.c = p.c := by
  obtain ⟨t, ht, hf⟩ := R.th
  have hr := R.ok.r
  have hz := size_bd hr
  have hW := R.ok.l
  obtain ⟨e0, hx, hlk⟩ := R.lk
  obtain ⟨w1, w2, w3⟩ := where_link hr hx
  have hNb := N_bd hr
  have w0 := where_0 hr
  have hk0 := R.ok.k0
  have hk1 := R.ok.k1
  have h0l : 0 ≤ (0 : Int) ∧ (0 : Int) < p.W.length := by omega
  have hl1 : 0 ≤ p.c.link x ∧ p.c.link x < p.W.length := by omega
  have htl := R.tl
  have hu0 := u64_getD R.ok.w 0
  have hu1 := u64_getD R.ok.w (p.c.link x).toNat
  have hsm := hlk.small hr
  have h0' : p.W.getD (0 : Int).toNat 0 = p.W.getD 0 0 := rfl
  rw [pushed_M ht hf, R.gh]
  refine ⟨M p true (p.k + 3) (p.W.set 0 (nextW (p.W.getD 0 0) (toI (p.W.getD (p.c.link x).toNat 0)))) (some (tg.set (x - 1).toNat 1, 0, 0)) { t with fs := [], r := (x, 0, 0) }, ?_, ?_, rfl, ?_, rfl⟩
  · refine ⟨_, _, M_th ht, rfl, regs_1 hy, .inl rfl, M_ok R.ok ⟨by omega, by omega⟩ R.ok.w rfl (by omega) 0 0, ?_⟩
    have s1 : arDo (calm0 (M p p.acted p.k p.W (some (tg, 0, 0)) { t with fs := [⟨1, 0, [y]⟩] })) 0 { t with fs := [⟨1, 0, [y]⟩] } [] ⟨1, 0, [y]⟩ = M p true (p.k + 1) p.W (some (tg, 0, 0)) { t with fs := [⟨1, 1, regI [y] 0 (p.W.getD 0 0)⟩] } := by
      rw [M_calm]
      unfold arDo arAlloc
      rw [if_pos rfl, if_pos rfl, M_ldv h0l, h0', if_neg (by omega), M_load h0l w0, M_put]; rfl
    rw [s1]
    have hr1 := regs_I (k := 0) (regs_1 hy) hu0
    refine ⟨_, _, M_th ht, rfl, hr1, .inl rfl, M_ok R.ok ⟨by omega, by omega⟩ R.ok.w rfl (by omega) 0 0, ?_⟩
    have g0 : (regI [y] 0 (p.W.getD 0 0)).getD 0 0 = p.W.getD 0 0 := by rw [regI_at _ _ _ _ (by omega)]; rfl
    have s2 : arDo (calm0 (M p true (p.k + 1) p.W (some (tg, 0, 0)) { t with fs := [⟨1, 1, regI [y] 0 (p.W.getD 0 0)⟩] })) 0 { t with fs := [⟨1, 1, regI [y] 0 (p.W.getD 0 0)⟩] } [] ⟨1, 1, regI [y] 0 (p.W.getD 0 0)⟩ = M p true (p.k + 1 + 1) p.W (some (tg, 0, 0)) { t with fs := [⟨1, 2, regI (regI [y] 0 (p.W.getD 0 0)) 1 (p.W.getD (p.c.link x).toNat 0)⟩] } := by
      rw [M_calm]
      unfold arDo arAlloc
      rw [if_pos rfl, if_neg (by show ¬ (1 : Int) = 0; decide), if_pos rfl]
      show ((M p false (p.k + 1) p.W (some (tg, 0, 0)) _).load (p.c.link (ptrW ((regI [y] 0 (p.W.getD 0 0)).getD 0 0)))).put 0 (topped _ [] ⟨1, 2, regI (regI [y] 0 (p.W.getD 0 0)) 1 ((M p false (p.k + 1) p.W (some (tg, 0, 0)) _).ldv (p.c.link (ptrW ((regI [y] 0 (p.W.getD 0 0)).getD 0 0))))⟩) = _
      rw [g0, e0, M_ldv hl1, M_load hl1 w1, M_put]; rfl
    rw [s2]
    have hr2 := regs_I (k := 1) hr1 hu1
    refine ⟨_, _, M_th ht, rfl, hr2, .inl rfl, M_ok R.ok ⟨by omega, by omega⟩ R.ok.w rfl (by omega) 0 0, ?_⟩
    have g1 : (regI (regI [y] 0 (p.W.getD 0 0)) 1 (p.W.getD (p.c.link x).toNat 0)).getD 0 0 = p.W.getD 0 0 := by rw [regI_at _ _ _ _ (by omega), if_neg (by decide)]; exact g0
    have g2 : (regI (regI [y] 0 (p.W.getD 0 0)) 1 (p.W.getD (p.c.link x).toNat 0)).getD 1 0 = p.W.getD (p.c.link x).toNat 0 := by rw [regI_at _ _ _ _ (by omega)]; rfl
    generalize regI (regI [y] 0 (p.W.getD 0 0)) 1 (p.W.getD (p.c.link x).toNat 0) = rg at *
    refine ⟨?_, ?_⟩
    · rw [M_calm]
      unfold arDo arAlloc
      rw [if_pos rfl, if_neg (by show ¬ (2 : Int) = 0; decide), if_neg (by show ¬ (2 : Int) = 1; decide)]
      show (if (M p false (p.k + 1 + 1) p.W (some (tg, 0, 0)) _).casv 0 (rg.getD 0 0) = true then (((M p false (p.k + 1 + 1) p.W (some (tg, 0, 0)) _).cas 0 (rg.getD 0 0) (nextW (rg.getD 0 0) (toI (rg.getD 1 0)))).deed (ptrW (rg.getD 0 0)) 0 1 1).put 0 (popped _ [] (ptrW (rg.getD 0 0))) else _) = _
      have hcv : (M p false (p.k + 1 + 1) p.W (some (tg, 0, 0)) { t with fs := [⟨1, 2, rg⟩] }).casv 0 (p.W.getD 0 0) = true := M_casv h0l
      have hcs : (M p false (p.k + 1 + 1) p.W (some (tg, 0, 0)) { t with fs := [⟨1, 2, rg⟩] }).cas 0 (p.W.getD 0 0) (nextW (p.W.getD 0 0) (toI (p.W.getD (p.c.link x).toNat 0))) = _ := M_cas h0l w0
      rw [g1, g2, if_pos hcv, hcs, e0, M_deed (by omega) (R.tag x List.mem_cons_self), M_put]
      show M p true (p.k + 1 + 1 + 1) _ _ _ = M p true (p.k + 3) _ _ _
      rw [show p.k + 1 + 1 + 1 = p.k + 3 by omega]; rfl
    · unfold topL; rw [M_th ht]; rfl
  · have hW' : ∀ z ∈ p.W.set 0 (nextW (p.W.getD 0 0) (toI (p.W.getD (p.c.link x).toNat 0))), u64R z := mem_set_ R.ok.w nextW_bd
    refine ⟨M_ok R.ok ⟨by omega, by omega⟩ hW' (by simp) (by simp; omega) 0 0, ⟨_, M_th ht, rfl⟩, ?_, rfl, (List.nodup_cons.1 R.nd).2, fun z hz => ?_, by simp; exact htl, R.bad⟩
    · show Lk p.c (p.W.set 0 _) (ptrW ((p.W.set 0 _).getD 0 0)) l
      rw [setD_self (by omega), ptr_next hsm]
      exact hlk.set fun z hz => by
        have := (where_link hr (hlk.mem z hz)).2
        omega
    · have h1 := hlk.mem z hz
      have h2 : x ≠ z := fun e => (List.nodup_cons.1 R.nd).1 (by rw [e]; exact hz)
      rw [getD_set (by omega)]
      exact R.tag z (List.mem_cons_of_mem _ hz)
  · unfold ret0; rw [M_th ht]
theorem al_none {p : PS} {tg : List Int} {b : Int} (R : Rep p [] tg b) (hb : b + 3 ≤ 900000) {y : Int} (hy : u64R y) : ∃ q, Runs 1 (pushed p 1 y) q ∧ Rep q [] tg (b + 1) ∧ q.k = p.k + 1 ∧ ret0 q = 0 ∧ q.c = p.c := by
  obtain ⟨t, ht, hf⟩ := R.th
  have hr := R.ok.r
  have hz := size_bd hr
  have hW := R.ok.l
  have e0 : ptrW (p.W.getD 0 0) = 0 := R.lk
  have hNb := N_bd hr
  have w0 := where_0 hr
  have hk0 := R.ok.k0
  have hk1 := R.ok.k1
  have h0l : 0 ≤ (0 : Int) ∧ (0 : Int) < p.W.length := by omega
  have htl := R.tl
  have h0' : p.W.getD (0 : Int).toNat 0 = p.W.getD 0 0 := rfl
  rw [pushed_M ht hf, R.gh]
  refine ⟨M p true (p.k + 1) p.W (some (tg, 0, 0)) { t with fs := [], r := (0, 0, 0) }, ?_, ?_, rfl, ?_, rfl⟩
  · refine ⟨_, _, M_th ht, rfl, regs_1 hy, .inl rfl, M_ok R.ok ⟨by omega, by omega⟩ R.ok.w rfl (by omega) 0 0, ?_, ?_⟩
    · rw [M_calm]
      unfold arDo arAlloc
      rw [if_pos rfl, if_pos rfl, M_ldv h0l, h0', if_pos e0, M_load h0l w0, M_put]; rfl
    · unfold topL; rw [M_th ht]; rfl
  · exact ⟨M_ok R.ok ⟨by omega, by omega⟩ R.ok.w rfl (by omega) 0 0, ⟨_, M_th ht, rfl⟩, R.lk, rfl, R.nd, R.tag, htl, R.bad⟩
  · unfold ret0; rw [M_th ht]
theorem rel_spec {p : PS} {x : Int} {l tg : List Int} {b : Int} (R : Rep p l tg b) (hb : b + 3 ≤ 900000) (hx : 1 ≤ x ∧ x ≤ p.c.N) (htx : tg.getD (x - 1).toNat 0 = 2) : ∃ q, Runs 3 (pushed p 2 x) q ∧ Rep q (x :: l) (tg.set (x - 1).toNat 0) (b + 3) ∧ q.k = p.k + 3 ∧ ret0 q = x ∧ q.c = p.c := by
  obtain ⟨t, ht, hf⟩ := R.th
  have hr := R.ok.r
  have hz := size_bd hr
  have hW := R.ok.l
  have hlk := R.lk
  obtain ⟨w1, w2, w3⟩ := where_link hr hx
  have hNb := N_bd hr
  have w0 := where_0 hr
  have hk0 := R.ok.k0
  have hk1 := R.ok.k1
  have h0l : 0 ≤ (0 : Int) ∧ (0 : Int) < p.W.length := by omega
  have hl1 : 0 ≤ p.c.link x ∧ p.c.link x < p.W.length := by omega
  have htl := R.tl
  have hu0 := u64_getD R.ok.w 0
  have hsm := hlk.small hr
  have h0' : p.W.getD (0 : Int).toNat 0 = p.W.getD 0 0 := rfl
  have hy : u64R x := ⟨by omega, by omega⟩
  have hxI : toI x = x := toI_small (by omega)
  have hnm : x ∉ l := fun h => by rw [R.tag x h] at htx; exact absurd htx (by decide)
  rw [pushed_M ht hf, R.gh]
  refine ⟨M p true (p.k + 3) ((p.W.set (p.c.link x).toNat (ptrW (p.W.getD 0 0))).set 0 (nextW (p.W.getD 0 0) x)) (some (tg.set (x - 1).toNat 0, 0, 0)) { t with fs := [], r := (x, 0, 0) }, ?_, ?_, rfl, ?_, rfl⟩
  · refine ⟨_, _, M_th ht, rfl, regs_1 hy, .inr rfl, M_ok R.ok ⟨by omega, by omega⟩ R.ok.w rfl (by omega) 0 0, ?_⟩
    have s1 : arDo (calm0 (M p p.acted p.k p.W (some (tg, 0, 0)) { t with fs := [⟨2, 0, [x]⟩] })) 0 { t with fs := [⟨2, 0, [x]⟩] } [] ⟨2, 0, [x]⟩ = M p true (p.k + 1) p.W (some (tg, 0, 0)) { t with fs := [⟨2, 1, regI [x] 1 (p.W.getD 0 0)⟩] } := by
      rw [M_calm]
      unfold arDo arRelease
      rw [if_neg (by show ¬ (2 : Int) = 1; decide), if_pos rfl, if_pos rfl, M_ldv h0l, h0', M_load h0l w0, M_put]; rfl
    rw [s1]
    have hr1 := regs_I (k := 1) (regs_1 hy) hu0
    have g0 : (regI [x] 1 (p.W.getD 0 0)).getD 0 0 = x := by rw [regI_at _ _ _ _ (by omega)]; rfl
    have g1 : (regI [x] 1 (p.W.getD 0 0)).getD 1 0 = p.W.getD 0 0 := by rw [regI_at _ _ _ _ (by omega)]; rfl
    generalize regI [x] 1 (p.W.getD 0 0) = rg at *
    refine ⟨_, _, M_th ht, rfl, hr1, .inr rfl, M_ok R.ok ⟨by omega, by omega⟩ R.ok.w rfl (by omega) 0 0, ?_⟩
    have hpu : u64R (ptrW (p.W.getD 0 0)) := ⟨by omega, by omega⟩
    have s2 : arDo (calm0 (M p true (p.k + 1) p.W (some (tg, 0, 0)) { t with fs := [⟨2, 1, rg⟩] })) 0 { t with fs := [⟨2, 1, rg⟩] } [] ⟨2, 1, rg⟩ = M p true (p.k + 1 + 1) (p.W.set (p.c.link x).toNat (ptrW (p.W.getD 0 0))) (some (tg, 0, 0)) { t with fs := [⟨2, 2, rg⟩] } := by
      rw [M_calm]
      unfold arDo arRelease
      rw [if_neg (by show ¬ (2 : Int) = 1; decide), if_pos rfl, if_neg (by show ¬ (1 : Int) = 0; decide), if_pos rfl]
      show ((M p false (p.k + 1) p.W (some (tg, 0, 0)) _).store (p.c.link (toI (rg.getD 0 0))) (ptrW (rg.getD 1 0))).put 0 (topped _ [] ⟨2, 2, rg⟩) = _
      rw [g0, g1, hxI, M_store hl1 w1, M_put]; rfl
    rw [s2]
    have hW2 : ∀ z ∈ p.W.set (p.c.link x).toNat (ptrW (p.W.getD 0 0)), u64R z := mem_set_ R.ok.w hpu
    have hl2 : (p.W.set (p.c.link x).toNat (ptrW (p.W.getD 0 0))).length = p.W.length := by simp
    have h02 : (p.W.set (p.c.link x).toNat (ptrW (p.W.getD 0 0))).getD 0 0 = p.W.getD 0 0 := getD_set (by omega)
    have h02' : (p.W.set (p.c.link x).toNat (ptrW (p.W.getD 0 0))).getD (0 : Int).toNat 0 = p.W.getD 0 0 := h02
    generalize hW2e : p.W.set (p.c.link x).toNat (ptrW (p.W.getD 0 0)) = W2 at *
    refine ⟨_, _, M_th ht, rfl, hr1, .inr rfl, M_ok R.ok ⟨by omega, by omega⟩ hW2 hl2 (by omega) 0 0, ?_⟩
    refine ⟨?_, ?_⟩
    · rw [M_calm]
      unfold arDo arRelease
      rw [if_neg (by show ¬ (2 : Int) = 1; decide), if_pos rfl, if_neg (by show ¬ (2 : Int) = 0; decide), if_neg (by show ¬ (2 : Int) = 1; decide)]
      show (if (M p false (p.k + 1 + 1) W2 (some (tg, 0, 0)) _).casv 0 (rg.getD 1 0) = true then (((M p false (p.k + 1 + 1) W2 (some (tg, 0, 0)) _).cas 0 (rg.getD 1 0) (nextW (rg.getD 1 0) (toI (rg.getD 0 0)))).deed (toI (rg.getD 0 0)) 2 0 3).put 0 (popped _ [] (IntKind.u64.wrap (toI (rg.getD 0 0)))) else _) = _
      have hcv : (M p false (p.k + 1 + 1) W2 (some (tg, 0, 0)) { t with fs := [⟨2, 2, rg⟩] }).casv 0 (p.W.getD 0 0) = true := by rw [← h02']; exact M_casv (by omega)
      have hcs : (M p false (p.k + 1 + 1) W2 (some (tg, 0, 0)) { t with fs := [⟨2, 2, rg⟩] }).cas 0 (p.W.getD 0 0) (nextW (p.W.getD 0 0) x) = M p true (p.k + 1 + 1 + 1) (W2.set 0 (nextW (p.W.getD 0 0) x)) (some (tg, 0, 0)) { t with fs := [⟨2, 2, rg⟩] } := by
        have := M_cas (p := p) (a := false) (k := p.k + 1 + 1) (W := W2) (gh := some (tg, 0, 0)) (t := { t with fs := [⟨2, 2, rg⟩] }) (x := 0) (y := nextW (p.W.getD 0 0) x) (by omega) w0
        rw [h02'] at this
        exact this
      have hxw : IntKind.u64.wrap x = x := by rw [IntKind.wrap_u64]; omega
      rw [g0, g1, hxI, if_pos hcv, hcs, M_deed (by omega) htx, M_put, hxw]
      show M p true (p.k + 1 + 1 + 1) _ _ _ = M p true (p.k + 3) _ _ _
      rw [show p.k + 1 + 1 + 1 = p.k + 3 by omega]; rfl
    · unfold topL; rw [M_th ht]; rfl
  · have hpu : u64R (ptrW (p.W.getD 0 0)) := ⟨by omega, by omega⟩
    have hW' : ∀ z ∈ (p.W.set (p.c.link x).toNat (ptrW (p.W.getD 0 0))).set 0 (nextW (p.W.getD 0 0) x), u64R z := mem_set_ (mem_set_ R.ok.w hpu) nextW_bd
    refine ⟨M_ok R.ok ⟨by omega, by omega⟩ hW' (by simp) (by simp; omega) 0 0, ⟨_, M_th ht, rfl⟩, ?_, rfl, List.nodup_cons.2 ⟨hnm, R.nd⟩, fun z hz => ?_, by simp; exact htl, R.bad⟩
    · show Lk p.c ((p.W.set (p.c.link x).toNat _).set 0 _) (ptrW (((p.W.set (p.c.link x).toNat _).set 0 _).getD 0 0)) (x :: l)
      rw [setD_self (by simp; omega), ptr_next (by omega)]
      refine ⟨rfl, hx, ?_⟩
      rw [getD_set (by omega), setD_self (by omega), toI_small hsm]
      refine (hlk.set fun z hz => ?_).set fun z hz => ?_
      · intro e
        have h1 := (where_link hr (hlk.mem z hz)).2
        have := link_inj (hlk.mem z hz) hx (by omega)
        exact hnm (by rw [← this]; exact hz)
      · have := (where_link hr (hlk.mem z hz)).2
        omega
    · rcases List.mem_cons.1 hz with e | e
      · rw [e, setD_self (by omega)]
      · have h1 := hlk.mem z e
        have h2 : x ≠ z := fun h => hnm (by rw [h]; exact e)
        rw [getD_set (by omega)]
        exact R.tag z e
  · unfold ret0; rw [M_th ht]
theorem Lk.chn {c : Cf} (hr : rightC c) {W : List Int} : ∀ {l : List Int} {n : Int} (m : Nat), l.length ≤ m → Lk c W n l → chn c W m n = l
  | [], n, m, _, h => by
    have h : n = 0 := h
    cases m with
    | zero => rfl
    | succ m =>
      unfold Go.Proofs.Ytdomclcokkijjaa.chn
      rw [if_pos]
      rw [h]
      unfold Cf.link linkA
      rw [if_neg (by omega)]; decide
  | x :: l, n, m, hm, h => by
    obtain ⟨m, rfl⟩ : ∃ k, m = k + 1 := ⟨m - 1, by simp at hm; omega⟩
    obtain ⟨rfl, hx, h2⟩ := h
    unfold Go.Proofs.Ytdomclcokkijjaa.chn
    rw [if_neg (by have := (where_link hr hx).2; omega)]
    rw [Lk.chn hr m (by simpa using hm) h2]
theorem nodup_len : ∀ (n : Nat) (l : List Int), l.Nodup → (∀ x ∈ l, 1 ≤ x ∧ x ≤ (n : Int)) → l.length ≤ n
  | 0, l, _, h => by
    cases l with
    | nil => exact Nat.le_refl _
    | cons x l => have := h x List.mem_cons_self; omega
  | n + 1, l, hd, h => by
    have h1 := nodup_len n (l.filter fun x => decide (x ≠ ((n + 1 : Nat) : Int))) (hd.filter _) (fun x hx => by
      have h2 := List.mem_filter.1 hx
      have h3 := h x h2.1
      have h4 : x ≠ ((n + 1 : Nat) : Int) := of_decide_eq_true h2.2
      omega)
    have h5 : l.length ≤ (l.filter fun x => decide (x ≠ ((n + 1 : Nat) : Int))).length + 1 := by
      clear h1 h
      induction l with
      | nil => simp
      | cons y l ih =>
        have hy := List.nodup_cons.1 hd
        by_cases he : y = ((n + 1 : Nat) : Int)
        · rw [List.filter_cons_of_neg (by simp [he])]
          have : l.filter (fun x => decide (x ≠ ((n + 1 : Nat) : Int))) = l := List.filter_eq_self.2 fun x hx => decide_eq_true (fun e => hy.1 (by rw [he, ← e]; exact hx))
          rw [this]; simp
        · rw [List.filter_cons_of_pos (by simpa using he)]
          have := ih hy.2
          simp only [List.length_cons]; omega
    omega
theorem Rep.chain {p : PS} {l tg : List Int} {b : Int} (R : Rep p l tg b) : chain p.c p.W = l := by
  have hN := N_bd R.ok.r
  have := nodup_len p.c.N.toNat l R.nd (fun x hx => by have := R.lk.mem x hx; omega)
  exact Lk.chn R.ok.r _ this R.lk
end Go.Proofs.Ytdomclcokkijjaa

/- A machine as at first: its list. -/
namespace Go.Proofs.Ytdomclcokkijjaa
open Go.RowKit
attribute [local irreducible] Instr.loadAt Instr.storeAt Instr.fieldAt Instr.indexAt Instr.sliceAt Instr.buildSlice Instr.box Instr.alloc Builtin.append_ Builtin.len_ Builtin.min_ Builtin.max_ Calls Instr.build Instr.makeSlice binSem convert Instr.index Instr.range Instr.next
def freeF (n : Nat) : Nat → List Int
  | 0 => []
  | k + 1 => ((n - k : Nat) : Int) :: freeF n k
theorem freeF_mem (n : Nat) : ∀ (k : Nat), k ≤ n → ∀ x ∈ freeF n k, ((n - k : Nat) : Int) < x ∧ x ≤ n
  | 0, _, x, hx => by cases hx
  | k + 1, hk, x, hx => by
    rcases List.mem_cons.1 hx with e | e
    · rw [e]; omega
    · have := freeF_mem n k (by omega) x e; omega
theorem freeF_nodup (n : Nat) : ∀ (k : Nat), k ≤ n → (freeF n k).Nodup
  | 0, _ => List.nodup_nil
  | k + 1, hk => List.nodup_cons.2 ⟨fun h => by have := freeF_mem n k (by omega) _ h; omega, freeF_nodup n k (by omega)⟩
theorem freeF_len (n : Nat) : ∀ k, (freeF n k).length = k
  | 0 => rfl
  | k + 1 => by show (freeF n k).length + 1 = _; rw [freeF_len n k]
theorem firstW_bd {A T N L B P S : Int} (hr : rightC ⟨A, T, N, L, B, P, S⟩) (y : Sp) : u64R (firstW A N L y) := by
  obtain ⟨b1, b2, b3, b4, b5, b6, -⟩ := plan_bd hr
  unfold firstW u64R
  repeat' split
  all_goals omega
theorem W_at {A T N L B P S : Int} (hr : rightC ⟨A, T, N, L, B, P, S⟩) {t n l sl wd nt se : Nat} (U : Nums A T N L t n l sl wd nt se) (j : Nat) (hj : j < 8 + t * sl + n + n * wd + nt) :
    (layS A T N L (newMS (sizeP A T N L).toNat)).W.getD j 0 = firstW A N L (spAt sl wd (8 + t * sl) (8 + t * sl + n) (8 + t * sl + n + n * wd) j) := by
  rw [first_words hr, U.all_, List.getD_eq_getElem?_getD, List.getElem?_map, cat_at t n sl wd nt j hj]
  rfl
theorem lk0 {A T N L B P S : Int} (hr : rightC ⟨A, T, N, L, B, P, S⟩) {t n l sl wd nt se : Nat} (U : Nums A T N L t n l sl wd nt se) : ∀ k, k ≤ n - se → Lk ⟨A, T, N, L, B, P, S⟩ (layS A T N L (newMS (sizeP A T N L).toNat)).W (if k = 0 then 0 else ((n - k + 1 : Nat) : Int)) (freeF n k)
  | 0, _ => rfl
  | k + 1, hk => by
    have q5 := U.b5; have q3 := U.b3; have qe := U.eN; have qs := U.se_
    rw [if_neg (by omega)]
    have hN : (Cf.N ⟨A, T, N, L, B, P, S⟩) = (n : Int) := qe
    refine ⟨by omega, by rw [hN]; omega, ?_⟩
    have e1 : Cf.link ⟨A, T, N, L, B, P, S⟩ ((n - k : Nat) : Int) = ((8 + t * sl + (n - k) - 1 : Nat) : Int) := linkA_of U (n - k) (by omega) (by omega)
    rw [e1, show ((8 + t * sl + (n - k) - 1 : Nat) : Int).toNat = 8 + t * sl + (n - k) - 1 from rfl, W_at hr U _ (by omega)]
    have e2 : spAt sl wd (8 + t * sl) (8 + t * sl + n) (8 + t * sl + n + n * wd) (8 + t * sl + (n - k) - 1) = (2, ((n - k : Nat) : Int), 0) := by
      unfold spAt
      rw [if_neg (by omega), if_neg (by omega), if_pos (by omega), show 8 + t * sl + (n - k) - 1 - (8 + t * sl) + 1 = n - k by omega]
    rw [e2, fw2]
    have ih := lk0 hr U k (by omega)
    by_cases hk0 : k = 0
    · subst hk0
      rw [if_neg (by omega)]
      exact ih
    · rw [if_neg hk0] at ih
      rw [if_pos (by omega), toI_small (by omega)]
      have : (((n - k : Nat) : Int) + 1) = ((n - k + 1 : Nat) : Int) := by omega
      rw [this]; exact ih
theorem rep0 {m mp fp : Nat} {v lv fv tv : Value} {draws : List Int} {gp : Nat} {gv : Value} {ths : List Th} {A T N L B P S : Int} (hr : rightC ⟨A, T, N, L, B, P, S⟩) {t0 : Th} (ht : ths[0]? = some t0) (hf : t0.fs = []) :
    Rep (mc0 m ⟨A, T, N, L, B, P, S⟩ mp v lv (layS A T N L (newMS (sizeP A T N L).toNat)) (some ⟨gp, gv, liveL N.toNat (sentP A).toNat, 0, 0⟩) fp fv draws tv ths).abs (freeF N.toNat (N.toNat - (sentP A).toNat)) (liveL N.toNat (sentP A).toNat) 200 := by
  obtain ⟨t, n, l, sl, wd, nt, se, U⟩ := nums hr
  have q5 := U.b5; have q3 := U.b3; have qe := U.eN; have qs := U.se_
  have e1 : N.toNat = n := by omega
  have e2 : (sentP A).toNat = se := by omega
  have hq := layS_q hr
  have hlen : (layS A T N L (newMS (sizeP A T N L).toNat)).W.length = (sizeP A T N L).toNat := by rw [layS_len, newMS_len]
  refine ⟨⟨hr, ?_, hq.k0, hq.k1, fun x hx => ?_, hlen⟩, ⟨absT t0, ?_, hf⟩, ?_, rfl, freeF_nodup _ _ (by omega), fun x hx => ?_, ?_, rfl⟩
  · show (liveL N.toNat (sentP A).toNat).length ≤ 64
    rw [liveL_len]; omega
  · have hx : x ∈ (layS A T N L (newMS (sizeP A T N L).toNat)).W := hx
    rw [first_words hr] at hx
    obtain ⟨y, -, rfl⟩ := List.mem_map.1 hx
    exact firstW_bd hr y
  · show (ths.map absT)[0]? = _
    rw [List.getElem?_map, ht]; rfl
  · have h := lk0 hr U (n - se) (Nat.le_refl _)
    rw [if_neg (by omega)] at h
    show Lk ⟨A, T, N, L, B, P, S⟩ (layS A T N L (newMS (sizeP A T N L).toNat)).W (ptrW ((layS A T N L (newMS (sizeP A T N L).toNat)).W.getD 0 0)) _
    rw [e1, e2]
    have e3 : ptrW ((layS A T N L (newMS (sizeP A T N L).toNat)).W.getD 0 0) = ((n - (n - se) + 1 : Nat) : Int) := by
      rw [W_at hr U 0 (by omega)]
      show ptrW (firstW A N L (0, 0, 0)) = _
      rw [fw0, if_pos rfl]
      unfold ptrW
      omega
    rw [e3]; exact h
  · have h := freeF_mem N.toNat (N.toNat - (sentP A).toNat) (by omega) x hx
    rw [liveL_at _ _ _ (by omega), if_neg (by omega)]
  · show ((liveL N.toNat (sentP A).toNat).length : Int) = N
    rw [liveL_len]; omega
/-- a machine that has only one thread at work -/
structure Ar (w w' : World) (X : Mc) (l tg : List Int) (b : Int) : Prop where
  new : New w w' X
  rep : Rep X.abs l tg b
  calm : X.s.on = false ∧ X.s.L = []
  tl : X.ths.length ≤ 100
section
variable {w w' w'' : World} {X : Mc} {l tg : List Int} {b : Int}
theorem Ar.upd0 (h : Ar w w' X l tg b) (hu : Upd [] w' w'') : Ar w w'' X l tg b := ⟨⟨h.new.ok.upd0 hu, h.new.up.trans hu, h.new.fr⟩, h.rep, h.calm, h.tl⟩
theorem Ar.t0 (h : Ar w w' X l tg b) : ∃ t, X.ths[0]? = some t ∧ t.fs = [] := by
  obtain ⟨t, h1, h2⟩ := h.rep.th
  have h1 : (X.ths.map absT)[0]? = some t := h1
  rw [List.getElem?_map] at h1
  cases h3 : X.ths[0]? with
  | none => rw [h3] at h1; cases h1
  | some t' =>
    rw [h3] at h1
    have : absT t' = t := Option.some.inj h1
    exact ⟨t', rfl, by rw [← this] at h2; exact h2⟩
theorem Ar.of {q : PS} {l' tg' : List Int} {b' : Int} (h : Ar w w' X l tg b) (e : Ev w' X w'' q) (hq : Rep q l' tg' b') : ∃ Y, Ar w w'' Y l' tg' b' ∧ Y.m = X.m ∧ Y.mp = X.mp ∧ Y.abs = q := by
  obtain ⟨Y, p, k, a⟩ := e
  exact ⟨Y, ⟨h.new.post p, by rw [a]; exact hq, k.calm h.calm, by rw [k.len]; exact h.tl⟩, k.m, k.mp, a⟩
theorem Ar.alloc {x : Int} (h : Ar w w' X (x :: l) tg b) (hb : b + 3 ≤ 900000) : Fn Try.prog 55 #[ptrV X.m, .int .i64 1, .int .i64 0] w' fun r w'' => r = .int .i64 x ∧ ∃ Y, Ar w w'' Y l (tg.set (x - 1).toNat 1) (b + 3) ∧ Y.m = X.m ∧ Y.mp = X.mp ∧ Y.abs.k = X.abs.k + 3 ∧ Y.abs.c = X.abs.c := by
  obtain ⟨t, ht, hf⟩ := h.t0
  obtain ⟨q, h1, h2, h3, h4, h5⟩ := al_spec h.rep hb (y := IntKind.u64.wrap 0) (by decide)
  have hx := (h.rep.lk.2.1)
  have hN := N_bd h.rep.ok.r
  refine (alone_c h.new.ok h.calm h.tl ht hf 2 (by decide) 1 0 h1).mono ?_
  rintro e w2 ⟨r, he, rfl, hev⟩
  obtain ⟨Y, a, c, d, f⟩ := h.of hev h2
  exact ⟨_, he, by rw [h4, toI_small (by omega)], Y, a, c, d, by rw [f, h3], by rw [f, h5]⟩
theorem Ar.none_ (h : Ar w w' X [] tg b) (hb : b + 3 ≤ 900000) : Fn Try.prog 55 #[ptrV X.m, .int .i64 1, .int .i64 0] w' fun r w'' => r = .int .i64 0 ∧ ∃ Y, Ar w w'' Y [] tg (b + 1) ∧ Y.m = X.m ∧ Y.mp = X.mp ∧ Y.abs.k = X.abs.k + 1 ∧ Y.abs.c = X.abs.c := by
  obtain ⟨t, ht, hf⟩ := h.t0
  obtain ⟨q, h1, h2, h3, h4, h5⟩ := al_none h.rep hb (y := IntKind.u64.wrap 0) (by decide)
  refine (alone_c h.new.ok h.calm h.tl ht hf 0 (by decide) 1 0 h1).mono ?_
  rintro e w2 ⟨r, he, rfl, hev⟩
  obtain ⟨Y, a, c, d, f⟩ := h.of hev h2
  exact ⟨_, he, by rw [h4]; rfl, Y, a, c, d, by rw [f, h3], by rw [f, h5]⟩
theorem Ar.release {x : Int} (h : Ar w w' X l tg b) (hb : b + 3 ≤ 900000) (hx : 1 ≤ x ∧ x ≤ X.abs.c.N) (htx : tg.getD (x - 1).toNat 0 = 2) : Fn Try.prog 55 #[ptrV X.m, .int .i64 2, .int .i64 x] w' fun r w'' => r = .int .i64 x ∧ ∃ Y, Ar w w'' Y (x :: l) (tg.set (x - 1).toNat 0) (b + 3) ∧ Y.m = X.m ∧ Y.mp = X.mp ∧ Y.abs.k = X.abs.k + 3 ∧ Y.abs.c = X.abs.c := by
  obtain ⟨t, ht, hf⟩ := h.t0
  have hN := N_bd h.rep.ok.r
  have hxw : IntKind.u64.wrap x = x := by rw [IntKind.wrap_u64]; omega
  obtain ⟨q, h1, h2, h3, h4, h5⟩ := rel_spec h.rep hb hx htx
  rw [← hxw] at h1
  have := alone_c h.new.ok h.calm h.tl ht hf 2 (by decide) 2 x (q := q) (by rw [hxw] at h1; rw [hxw]; exact h1)
  refine this.mono ?_
  rintro e w2 ⟨r, he, rfl, hev⟩
  obtain ⟨Y, a, c, d, f⟩ := h.of hev h2
  exact ⟨_, he, by rw [h4, toI_small (by omega)], Y, a, c, d, by rw [f, h3], by rw [f, h5]⟩
theorem Ar.gone {x : Int} (h : Ar w w' X l tg b) (hx : 1 ≤ x ∧ x ≤ X.abs.c.N) (htx : tg.getD (x - 1).toNat 0 = 1) : Fn Try.prog 25 #[ptrV X.m, .int .i64 x] w' fun _ w'' => ∃ Y, Ar w w'' Y l (tg.set (x - 1).toNat 2) b ∧ Y.m = X.m ∧ Y.mp = X.mp ∧ Y.abs.k = X.abs.k ∧ Y.abs.c = X.abs.c := by
  have R := h.rep
  have htl := R.tl
  refine (gone_p h.new.ok ⟨R.ok, h.calm⟩ x).mono ?_
  rintro e w2 ⟨u, he, hev⟩
  have e1 : X.abs.deed x 1 2 2 = { X.abs with gh := some (tg.set (x - 1).toNat 2, 0, 0) } := by
    unfold PS.deed
    rw [R.gh]
    show ({ X.abs with gh := some (gt tg 0 0 x 1 2 2).2 } : PS) = _
    unfold gt
    rw [if_neg (by omega), if_pos htx]
  rw [e1] at hev
  obtain ⟨Y, a, c, d, f⟩ := h.of (l' := l) (tg' := tg.set (x - 1).toNat 2) (b' := b) hev.ev ⟨⟨R.ok.r, by show (tg.set _ _).length ≤ 64; have := N_bd R.ok.r; simp; omega, R.ok.k0, R.ok.k1, R.ok.w, R.ok.l⟩, R.th, R.lk, rfl, R.nd, fun z hz => by
    have h1 := R.lk.mem z hz
    have h2 := R.tag z hz
    by_cases hzx : z = x
    · rw [hzx] at h2; rw [h2] at htx; exact absurd htx (by decide)
    · rw [getD_set (by omega)]; exact h2, by simp; exact htl, R.bad⟩
  exact ⟨u, he, Y, a, c, d, by rw [f], by rw [f]⟩
theorem Ar.list (h : Ar w w' X l tg b) : Fn Try.prog 54 #[ptrV X.m] w' fun r w'' => Sl w'' 3 1 r l.length (l.map (.int .i64)) ∧ Upd [] w' w'' := by
  have := chain_c h.new.ok h.rep.ok.r h.rep.ok.l h.rep.ok.w
  have e : chain X.c X.s.W = l := h.rep.chain
  rw [e] at this
  exact this
end
end Go.Proofs.Ytdomclcokkijjaa

/- lives of chapter 17; the law ArenaOdd. -/
namespace Go.Proofs.Ytdomclcokkijjaa
open Go.RowKit
attribute [local irreducible] Instr.loadAt Instr.storeAt Instr.fieldAt Instr.indexAt Instr.sliceAt Instr.buildSlice Instr.box Instr.alloc Builtin.append_ Builtin.len_ Builtin.min_ Builtin.max_ Calls Instr.build Instr.makeSlice binSem convert Instr.index Instr.range Instr.next
theorem ar_new {A T N L B P S : Int} (hr : rightC ⟨A, T, N, L, B, P, S⟩) (w : World) : Fn Try.prog 20 #[.agg (cf7 ⟨A, T, N, L, B, P, S⟩), .slice none 0 0, .bool true] w fun r w' =>
    ∃ X, r = .tuple #[ptrV X.m, .int .i64 0] ∧ Ar w w' X (freeF N.toNat (N.toNat - (sentP A).toNat)) (liveL N.toNat (sentP A).toNat) 200 ∧ X.abs.c = ⟨A, T, N, L, B, P, S⟩ ∧ (X.ths.length : Int) = T ∧ (∀ t ∈ X.ths, t.fs = [] ∧ t.r = (0, 0, 0)) ∧ X.acted = false ∧ X.bad = false := by
  refine (core_new2 (draws := []) true (RdK.nil_ w .u8) (by decide)).mono ?_
  rintro e w1 ⟨r, he, -, hy⟩
  obtain ⟨m, mp, mv, lv, fp, fv, gs, tv, ths, hrt, I, hT, hths, -, hgs⟩ := hy hr
  obtain ⟨gp, gv, rfl⟩ := hgs rfl
  obtain ⟨b1, b2, b3, b4, b5, b6, -⟩ := plan_bd hr
  have hall : ∀ t ∈ ths, t.fs = [] ∧ t.r = (0, 0, 0) := fun t ht => by
    obtain ⟨g, pv, sv, wv, rfl⟩ := hths t ht
    exact ⟨rfl, rfl⟩
  have h0 : ths[0]? = some (ths[0]'(by omega)) := List.getElem?_eq_getElem _
  have hq := layS_q hr
  refine ⟨r, he, _, hrt, ⟨I, rep0 hr h0 (hall _ (List.getElem_mem _)).1, ⟨hq.on, hq.L⟩, ?_⟩, rfl, hT, hall, rfl, rfl⟩
  show ths.length ≤ 100
  omega
set_option maxRecDepth 10000 in
theorem lives17 (w : World) : Fn Try.prog 52 #[] w fun r w' => r = .bool true ∧ Upd [] w w' := by
  refine fn_enter Try.func52 rfl rfl ?_
  refine bd (cf7 ⟨0, 1, 2, 1, 1, 1, 1⟩) (fun _ => by kernel_rfl) ?_
  refine cl (ar_new (A := 0) (T := 1) (N := 2) (L := 1) (B := 1) (P := 1) (S := 1) (by decide) w) ?_
  rintro _ w1 ⟨X, rfl, H, hc, -, -, -, -⟩
  refine ptr_eq ?_
  have H : Ar w w1 X [1, 2] [0, 0] 200 := H
  refine cl (H.alloc (by omega)) ?_
  rintro _ w2 ⟨rfl, X2, H, m2, -, -, c2⟩
  rw [← m2]
  refine cl (H.alloc (by omega)) ?_
  rintro _ w3 ⟨rfl, X3, H, m3, -, -, c3⟩
  rw [← m3]
  refine cl (H.none_ (by omega)) ?_
  rintro _ w4 ⟨rfl, X4, H, m4, -, -, c4⟩
  rw [← m4]
  have hc4 : X4.abs.c = ⟨0, 1, 2, 1, 1, 1, 1⟩ := by rw [c4, c3, c2, hc]
  refine cl (H.gone (x := 1) (by rw [hc4]; decide) rfl) ?_
  rintro _ w5 ⟨X5, H, m5, -, -, c5⟩
  rw [← m5]
  refine cl (H.release (x := 1) (by omega) (by rw [c5, hc4]; decide) rfl) ?_
  rintro _ w6 ⟨rfl, X6, H, m6, -, -, c6⟩
  rw [← m6]
  refine cl H.list ?_
  rintro v w7 ⟨hs, hu⟩
  obtain ⟨va, vo, vc, rfl, -⟩ := hs.some_ (by decide)
  refine len_sl ?_
  refine ix 0 rfl (by decide) ?_
  refine ld (v := .int .i64 1) (hs.getD_ rfl 0 (by decide)) ?_
  exact ⟨rfl, H.new.up.trans hu⟩
theorem top_00 (w : World) : Fn Try.prog 18 #[.pointer none] w fun r w' => r = .pointer none ∧ w' = w := by
  refine fn_enter Try.func18 rfl rfl ?_
  refine ptr_eq0 ?_
  exact ⟨rfl, rfl⟩
theorem do_0 (m : Value) (w : World) : Fn Try.prog 53 #[m, .pointer none] w fun _ w' => w' = w := by
  refine fn_enter Try.func53 rfl rfl ?_
  refine cl (top_00 w) ?_
  rintro _ w ⟨rfl, rfl⟩
  refine ptr_eq0 ?_
  exact rfl
theorem do_idle {w : World} {X : Mc} {t : Th} (h : Mach w X) {i : Nat} (hi : X.ths[i]? = some t) (hf : t.fs = []) (m : Value) : Fn Try.prog 53 #[m, ptrV t.g] w fun _ w' => w' = w := by
  refine fn_enter Try.func53 rfl rfl ?_
  refine cl (top_no h hi hf) ?_
  rintro _ w ⟨rfl, rfl⟩
  refine ptr_eq0 ?_
  exact rfl
theorem arr_eq {w : World} {x y : Operand} : (binSem .eql 28 x y (.agg #[.int .u64 0, .int .u64 0, .int .u64 0]) (.agg #[.int .u64 0, .int .u64 0, .int .u64 0])).run Try.prog w = .ok (.bool true) w := bin_agg (by decide +kernel) (by kernel_rfl)
set_option maxRecDepth 10000 in
theorem odd_law (w : World) (fn r : Int) (hr : u64R r) : Fn Try.prog 9 #[.int .i64 fn, .int .u64 r] w fun e w' => e = .bool true ∧ Upd [] w w' := by
  refine fn_enter Try.func9 rfl rfl ?_
  refine bd (cf7 ⟨0, 1, 2, 1, 1, 1, 1⟩) (fun _ => by kernel_rfl) ?_
  refine cl (ar_new (A := 0) (T := 1) (N := 2) (L := 1) (B := 1) (P := 1) (S := 1) (by decide) w) ?_
  rintro _ w1 ⟨X, rfl, H, hc, hT, hall, hac, hbad⟩
  obtain ⟨t, ht, hf⟩ := H.t0
  refine cl (do_0 _ w1) ?_
  rintro _ w1 rfl
  refine cl (do_0 _ w1) ?_
  rintro _ w1 rfl
  refine cl (thread_mm (i := 0) H.new.ok ht H.tl) ?_
  rintro _ w1 ⟨rfl, rfl⟩
  refine cl (do_idle H.new.ok ht hf _) ?_
  rintro _ w1 rfl
  refine ptr_eq ?_
  refine cl (thread_mm (i := 0) H.new.ok ht H.tl) ?_
  rintro _ w1 ⟨rfl, rfl⟩
  refine ptr_eq ?_
  refine cl (chain_0 w1) ?_
  rintro _ w2 ⟨rfl, hu2⟩
  refine len_sl ?_
  have H := H.upd0 hu2
  refine cd (fun h1 => ?_) (fun h1 => ?_)
  · refine cl (lives17 w2) ?_
    rintro _ w3 ⟨rfl, hu3⟩
    exact ⟨rfl, H.new.up.trans hu3⟩
  refine cd (fun h2 => ?_) (fun h2 => ?_)
  · refine cl (lives17 w2) ?_
    rintro _ w3 ⟨rfl, hu3⟩
    exact ⟨rfl, H.new.up.trans hu3⟩
  refine cl (thread_mm (i := 0) H.new.ok ht H.tl) ?_
  rintro _ w2 ⟨rfl, rfl⟩
  refine bs #[.int .u64 r] (fun _ => by kernel_rfl) fun w3 hb3 hu3 hs3 => ?_
  have H3 := H.upd0 hu3
  refine cl (push_mm H3.new.ok ht (by rw [hf]; simp) (one_rd hb3) (by simp) fn) ?_
  rintro _ w4 ⟨fv, p4⟩
  have k4 := kin_set X (t' := { t with fv := fv, fs := t.fs ++ [⟨fn, 0, [r]⟩] }) ht rfl
  have a4 := abs_set X 0 { t with fv := fv, fs := t.fs ++ [⟨fn, 0, [r]⟩] }
  have c4 : (X.ths.set 0 { t with fv := fv, fs := t.fs ++ [⟨fn, 0, [r]⟩] })[0]? = some { t with fv := fv, fs := t.fs ++ [⟨fn, 0, [r]⟩] } := set_at ht
  generalize hY : ({ X with ths := X.ths.set 0 { t with fv := fv, fs := t.fs ++ [⟨fn, 0, [r]⟩] } } : Mc) = Y at *
  have hYt : Y.ths[0]? = some { t with fv := fv, fs := t.fs ++ [⟨fn, 0, [r]⟩] } := by rw [← hY]; exact c4
  have hok := H.rep.ok
  have hg : Good Y 200 := ⟨by rw [a4]; exact hok.put _ _, k4.calm H.calm⟩
  have hst := step_ar (i := 0) (fs := []) (f := ⟨fn, 0, [r]⟩) p4.ok hg (by omega) hYt (by show t.fs ++ _ = _; rw [hf]) (by simp) (by rw [k4.len]; exact H.tl) (regs_1 hr) (.inr rfl)
  rw [show Y.m = X.m from k4.m] at hst
  refine cl hst ?_
  rintro _ w5 ⟨rfl, Z, p5, k5, a5⟩
  have e5 : arDo (calm0 Y.abs) 0 (absT { t with fv := fv, fs := t.fs ++ [⟨fn, 0, [r]⟩] }) [] ⟨fn, 0, [r]⟩ = (calm0 Y.abs).put 0 { absT t with fs := [], r := (0, 0, 0) } := by
    unfold arDo
    rw [if_neg h1, if_neg h2]; rfl
  rw [e5] at a5 ⊢
  have hyt : (calm0 Y.abs).ths[0]? = some _ := abs_th Y hYt
  have htop : topL ((calm0 Y.abs).put 0 { absT t with fs := [], r := (0, 0, 0) }) 0 = 0 := by
    unfold topL
    rw [put_th hyt]; rfl
  rw [htop]
  obtain ⟨t2, ht2, hg2⟩ := (k4.trans k5).g ht
  have hth := thread_mm (i := 0) p5.ok ht2 (by rw [(k4.trans k5).len]; exact H.tl)
  rw [show Z.m = X.m from (k4.trans k5).m] at hth
  refine cl hth ?_
  rintro _ w5 ⟨rfl, rfl⟩
  have hr2 : t2.r = (0, 0, 0) := by
    have := abs_at a5 ht2
    rw [put_th hyt] at this
    have := congrArg PT.r (Option.some.inj this)
    exact this.symm
  have hblk := (p5.ok.core ht2).blk
  rw [hr2] at hblk
  refine fa ?_
  refine lda [.int .u64 0, .int .u64 0, .int .u64 0] rfl (fun j v hj => ?_) ?_
  · have hlt : j < 3 := by
      rcases Nat.lt_or_ge j 3 with h | h
      · exact h
      · rw [List.getElem?_eq_none (by show 3 ≤ j; exact h)] at hj; cases hj
    rw [hblk.cell, ← Array.getElem?_toList]
    match j, hlt with
    | 0, _ => exact hj
    | 1, _ => exact hj
    | 2, _ => exact hj
  refine bd #[.int .u64 0, .int .u64 0, .int .u64 0] (fun _ => by kernel_rfl) ?_
  refine rn _ _ arr_eq ?_
  have hflt := fault_mm p5.ok
  rw [show Z.m = X.m from (k4.trans k5).m] at hflt
  refine cl hflt ?_
  rintro _ w6 ⟨rfl, hu6⟩
  have hbz : Z.bad = false := by
    have := congrArg PS.bad a5
    have h2 : Y.abs.bad = false := by rw [a4]; exact hbad
    exact this.trans h2
  have hgz : faultG Z.gs = false := by
    have h1 : Z.gs.map absG = Y.abs.gh := congrArg PS.gh a5
    have h2 : Y.abs.gh = X.abs.gh := by rw [a4]; rfl
    rw [h2, H.rep.gh] at h1
    cases hz : Z.gs with
    | none => rfl
    | some g =>
      rw [hz] at h1
      have h3 : absG g = _ := Option.some.inj h1
      have h4 : g.k = 0 := congrArg (fun x => x.2.1) h3
      have h5 : g.n = 0 := congrArg (fun x => x.2.2) h3
      show decide (¬ (g.k = 0 ∧ g.n = 0)) = false
      exact decide_eq_false (fun h => h ⟨h4, h5⟩)
  rw [hbz, hgz]
  refine cl (lives17 w6) ?_
  rintro _ w7 ⟨rfl, hu7⟩
  have h4 := (H3.new.post p4).post p5
  exact ⟨rfl, (h4.up.trans hu6).trans hu7⟩
theorem ArenaOdd_walk (w : World) (fn : Int) (wfn : (Lit.int .i64 fn).wf = true) (r : Int) (wr : (Lit.int .u64 r).wf = true) :
    Calls Try.prog 9 #[.int .i64 fn, .int .u64 r] w fun e w' => e = .returned (.bool true) ∧ Below w.heap.size w w' :=
  (odd_law w fn r (by
    have h : IntKind.u64.min ≤ r ∧ r ≤ IntKind.u64.max := by simpa [Lit.wf] using wr
    exact h)).mono fun _ _ ⟨_, he, hv, hu⟩ => ⟨by rw [he, hv], hu.below⟩
end Go.Proofs.Ytdomclcokkijjaa

/- Things of the call's own that lie apart. -/
namespace Go.Proofs.Ytdomclcokkijjaa
open Go.RowKit
attribute [local irreducible] Instr.loadAt Instr.storeAt Instr.fieldAt Instr.indexAt Instr.sliceAt Instr.buildSlice Instr.box Instr.alloc Builtin.append_ Builtin.len_ Builtin.min_ Builtin.max_ Calls Instr.build Instr.makeSlice binSem convert Instr.index Instr.range Instr.next
theorem Sep.sub {w : World} {l l' : List Ob} (h : Sep w l) (hs : l'.Sublist l) : Sep w l' := ⟨fun x hx => h.ok x (hs.subset hx), h.apart.sublist hs⟩
/-- all of them are new since w -/
structure Held (w w' : World) (L : List Ob) : Prop where
  s : Sep w' L
  up : Upd [] w w'
  fr : ∀ k ∈ feet L, w.heap.size ≤ k
section
variable {w w' w'' : World} {L : List Ob}
theorem Held.upd0 (h : Held w w' L) (hu : Upd [] w' w'') : Held w w'' L := ⟨h.s.upd0 hu, h.up.trans hu, h.fr⟩
theorem Held.set {i : Nat} {x y : Ob} (h : Held w w' L) (hi : L[i]? = some x) (hy : y.ok w'') (ht : To w' x.foot w'' y.foot) : Held w w'' (L.set i y) := by
  have t := To.set hi ht
  obtain ⟨h1, h2⟩ := t.new h.up h.fr
  exact ⟨h.s.set hi hy ht, h1, h2⟩
theorem Held.add {y : Ob} (h : Held w w' L) (hu : Upd [] w' w'') (hy : y.ok w'') (hn : ∀ k ∈ y.foot, w'.heap.size ≤ k) : Held w w'' (L ++ [y]) :=
  ⟨h.s.add hu hy hn, h.up.trans hu, fun k hk => by
    rw [feet_app] at hk
    rcases List.mem_append.1 hk with h1 | h1
    · exact h.fr k h1
    · have := hn k (by simpa [feet] using h1)
      have := h.up.size
      omega⟩
theorem Held.sub {L' : List Ob} (h : Held w w' L) (hs : L'.Sublist L) : Held w w' L' := ⟨h.s.sub hs, h.up, fun k hk => by
  obtain ⟨x, hx, hk⟩ := mem_feet.1 hk
  exact h.fr k (mem_feet.2 ⟨x, hs.subset hx, hk⟩)⟩
theorem Held.at_ {i : Nat} {x : Ob} (h : Held w w' L) (hi : L[i]? = some x) : x.ok w' := h.s.at_ hi
theorem Held.nil (hu : Upd [] w w') : Held w w' [] := ⟨Sep.nil w', hu, by simp [feet]⟩
end
end Go.Proofs.Ytdomclcokkijjaa

/- The law ArenaAlone. -/
namespace Go.Proofs.Ytdomclcokkijjaa
open Go.RowKit
attribute [local irreducible] Instr.loadAt Instr.storeAt Instr.fieldAt Instr.indexAt Instr.sliceAt Instr.buildSlice Instr.box Instr.alloc Builtin.append_ Builtin.len_ Builtin.min_ Builtin.max_ Calls Instr.build Instr.makeSlice binSem convert Instr.index Instr.range Instr.next
structure Mr (w : World) (X : Mc) (l tg : List Int) (b : Int) : Prop where
  ok : Mach w X
  rep : Rep X.abs l tg b
  calm : X.s.on = false ∧ X.s.L = []
  tl : X.ths.length ≤ 100
/-- what comes of it -/
structure Mn (w : World) (X : Mc) (w' : World) (Y : Mc) (l tg : List Int) (b k : Int) : Prop where
  r : Mr w' Y l tg b
  p : Post w X w' Y
  m : Y.m = X.m
  k : Y.abs.k = X.abs.k + k
  c : Y.abs.c = X.abs.c
section
variable {w w' : World} {X : Mc} {l tg : List Int} {b : Int}
theorem Mr.t0 (h : Mr w X l tg b) : ∃ t, X.ths[0]? = some t ∧ t.fs = [] := by
  obtain ⟨t, h1, h2⟩ := h.rep.th
  have h1 : (X.ths.map absT)[0]? = some t := h1
  rw [List.getElem?_map] at h1
  cases h3 : X.ths[0]? with
  | none => rw [h3] at h1; cases h1
  | some t' =>
    rw [h3] at h1
    have : absT t' = t := Option.some.inj h1
    exact ⟨t', rfl, by rw [← this] at h2; exact h2⟩
theorem Mr.of {q : PS} {l' tg' : List Int} {b' k : Int} (h : Mr w X l tg b) (e : Ev w X w' q) (hq : Rep q l' tg' b') (hk : q.k = X.abs.k + k) (hc : q.c = X.abs.c) : ∃ Y, Mn w X w' Y l' tg' b' k := by
  obtain ⟨Y, p, k, a⟩ := e
  exact ⟨Y, ⟨p.ok, by rw [a]; exact hq, k.calm h.calm, by rw [k.len]; exact h.tl⟩, p, k.m, by rw [a]; exact hk, by rw [a]; exact hc⟩
theorem Mr.alloc {x : Int} (h : Mr w X (x :: l) tg b) (hb : b + 3 ≤ 900000) : Fn Try.prog 55 #[ptrV X.m, .int .i64 1, .int .i64 0] w fun r w' => r = .int .i64 x ∧ ∃ Y, Mn w X w' Y l (tg.set (x - 1).toNat 1) (b + 3) 3 := by
  obtain ⟨t, ht, hf⟩ := h.t0
  obtain ⟨q, h1, h2, h3, h4, h5⟩ := al_spec h.rep hb (y := IntKind.u64.wrap 0) (by decide)
  have hx := (h.rep.lk.2.1)
  have hN := N_bd h.rep.ok.r
  refine (alone_c h.ok h.calm h.tl ht hf 2 (by decide) 1 0 h1).mono ?_
  rintro e w2 ⟨r, he, rfl, hev⟩
  exact ⟨_, he, by rw [h4, toI_small (by omega)], h.of hev h2 h3 h5⟩
theorem Mr.none_ (h : Mr w X [] tg b) (hb : b + 3 ≤ 900000) : Fn Try.prog 55 #[ptrV X.m, .int .i64 1, .int .i64 0] w fun r w' => r = .int .i64 0 ∧ ∃ Y, Mn w X w' Y [] tg (b + 1) 1 := by
  obtain ⟨t, ht, hf⟩ := h.t0
  obtain ⟨q, h1, h2, h3, h4, h5⟩ := al_none h.rep hb (y := IntKind.u64.wrap 0) (by decide)
  refine (alone_c h.ok h.calm h.tl ht hf 0 (by decide) 1 0 h1).mono ?_
  rintro e w2 ⟨r, he, rfl, hev⟩
  exact ⟨_, he, by rw [h4]; rfl, h.of hev h2 h3 h5⟩
theorem Mr.release {x : Int} (h : Mr w X l tg b) (hb : b + 3 ≤ 900000) (hx : 1 ≤ x ∧ x ≤ X.abs.c.N) (htx : tg.getD (x - 1).toNat 0 = 2) : Fn Try.prog 55 #[ptrV X.m, .int .i64 2, .int .i64 x] w fun r w' => r = .int .i64 x ∧ ∃ Y, Mn w X w' Y (x :: l) (tg.set (x - 1).toNat 0) (b + 3) 3 := by
  obtain ⟨t, ht, hf⟩ := h.t0
  have hN := N_bd h.rep.ok.r
  have hxw : IntKind.u64.wrap x = x := by rw [IntKind.wrap_u64]; omega
  obtain ⟨q, h1, h2, h3, h4, h5⟩ := rel_spec h.rep hb hx htx
  rw [← hxw] at h1
  have := alone_c h.ok h.calm h.tl ht hf 2 (by decide) 2 x (q := q) (by rw [hxw] at h1; rw [hxw]; exact h1)
  refine this.mono ?_
  rintro e w2 ⟨r, he, rfl, hev⟩
  exact ⟨_, he, by rw [h4, toI_small (by omega)], h.of hev h2 h3 h5⟩
theorem Mr.gone {x : Int} (h : Mr w X l tg b) (hx : 1 ≤ x ∧ x ≤ X.abs.c.N) (htx : tg.getD (x - 1).toNat 0 = 1) : Fn Try.prog 25 #[ptrV X.m, .int .i64 x] w fun _ w' => ∃ Y, Mn w X w' Y l (tg.set (x - 1).toNat 2) b 0 := by
  have R := h.rep
  have htl := R.tl
  refine (gone_p h.ok ⟨R.ok, h.calm⟩ x).mono ?_
  rintro e w2 ⟨u, he, hev⟩
  have e1 : X.abs.deed x 1 2 2 = { X.abs with gh := some (tg.set (x - 1).toNat 2, 0, 0) } := by
    unfold PS.deed
    rw [R.gh]
    show ({ X.abs with gh := some (gt tg 0 0 x 1 2 2).2 } : PS) = _
    unfold gt
    rw [if_neg (by omega), if_pos htx]
  rw [e1] at hev
  refine ⟨u, he, h.of hev.ev ⟨⟨R.ok.r, by show (tg.set _ _).length ≤ 64; have := N_bd R.ok.r; simp; omega, R.ok.k0, R.ok.k1, R.ok.w, R.ok.l⟩, R.th, R.lk, rfl, R.nd, fun z hz => ?_, by simp; exact htl, R.bad⟩ (by show X.abs.k = X.abs.k + 0; omega) rfl⟩
  have h1 := R.lk.mem z hz
  have h2 := R.tag z hz
  by_cases hzx : z = x
  · rw [hzx] at h2; rw [h2] at htx; exact absurd htx (by decide)
  · rw [getD_set (by omega)]; exact h2
theorem Mr.list (h : Mr w X l tg b) : Fn Try.prog 54 #[ptrV X.m] w fun r w' => Sl w' 3 1 r l.length (l.map (.int .i64)) ∧ Upd [] w w' := by
  have := chain_c h.ok h.rep.ok.r h.rep.ok.l h.rep.ok.w
  have e : chain X.c X.s.W = l := h.rep.chain
  rw [e] at this
  exact this
theorem Mr.steps (h : Mr w X l tg b) : Fn Try.prog 46 #[ptrV X.mp] w fun r w' => r = .int .i64 X.abs.k ∧ w' = w := steps_c h.ok.mem
theorem Mr.fault (h : Mr w X l tg b) : Fn Try.prog 31 #[ptrV X.m] w fun r w' => r = .bool false ∧ Upd [] w w' := by
  have := fault_mm h.ok
  have h1 : X.bad = false := h.rep.bad
  have h2 : faultG X.gs = false := by
    have h1 : X.gs.map absG = _ := h.rep.gh
    cases hz : X.gs with
    | none => rfl
    | some g =>
      rw [hz] at h1
      have h3 : absG g = _ := Option.some.inj h1
      have h4 : g.k = 0 := congrArg (fun x => x.2.1) h3
      have h5 : g.n = 0 := congrArg (fun x => x.2.2) h3
      show decide (¬ (g.k = 0 ∧ g.n = 0)) = false
      exact decide_eq_false (fun h => h ⟨h4, h5⟩)
  rw [h1, h2] at this
  exact this
end
theorem many_set : ∀ (l : List Int) (i : Nat) (v x : Int), i < l.length → manyL (l.set i v) x + (if l.getD i 0 = x then 1 else 0) = manyL l x + (if v = x then 1 else 0)
  | [], _, _, _, h => absurd h (Nat.not_lt_zero _)
  | a :: l, 0, v, x, _ => by
    show (((v :: l).filter fun y => decide (y = x)).length) + (if a = x then 1 else 0) = (((a :: l).filter fun y => decide (y = x)).length) + (if v = x then 1 else 0)
    by_cases h1 : v = x <;> by_cases h2 : a = x <;> simp [h1, h2]
  | a :: l, i + 1, v, x, h => by
    have ih := many_set l i v x (by simpa using h)
    show (((a :: l.set i v).filter fun y => decide (y = x)).length) + (if l.getD i 0 = x then 1 else 0) = (((a :: l).filter fun y => decide (y = x)).length) + (if v = x then 1 else 0)
    have e : ∀ k : List Int, ((a :: k).filter fun y => decide (y = x)).length = (if a = x then 1 else 0) + manyL k x := fun k => by
      unfold manyL
      by_cases h2 : a = x
      · simp [h2]; omega
      · simp [h2]
    rw [e, e]; omega
theorem lo_rd {w : World} {e b o c n j : Nat} {xs : List Value} (h : Sl w e 1 (.slice (some ⟨b, o, none⟩) n c) n xs) (hj : j ≤ n) (hc : n ≤ c) : RdL w 1 (.slice (if c = j then some ⟨b, o, none⟩ else (some ⟨b, o, none⟩ : Option Addr).map (·.add (j * 1))) (n - j) (c - j)) (n - j) (xs.drop j) := by
  have hl : xs.length = n * 1 := h.1
  refine ⟨_, _, rfl, by rw [List.length_drop, hl]; omega, fun h0 => ?_⟩
  rw [if_neg (by omega)]
  refine ⟨b, o + j, by simp [Addr.add_lit], fun k x hx => ?_⟩
  rw [List.getElem?_drop] at hx
  have hk : j + k < n * 1 := by
    rw [← hl]
    rcases Nat.lt_or_ge (j + k) xs.length with h1 | h1
    · exact h1
    · rw [List.getElem?_eq_none h1] at hx; cases hx
  rw [Nat.add_assoc, (h.cells rfl (j + k) hk).1]; exact hx
theorem rev_last {x : Int} {l : List Int} : (x :: l).reverse.getD (l.length + 1 - 1) 0 = x := by simp [List.getD]
end Go.Proofs.Ytdomclcokkijjaa

/- The law ArenaAlone: its walk. -/
namespace Go.Proofs.Ytdomclcokkijjaa
open Go.RowKit
attribute [local irreducible] Instr.loadAt Instr.storeAt Instr.fieldAt Instr.indexAt Instr.sliceAt Instr.buildSlice Instr.box Instr.alloc Builtin.append_ Builtin.len_ Builtin.min_ Builtin.max_ Calls Instr.build Instr.makeSlice binSem convert Instr.index Instr.range Instr.next
def aiL (g : Nat) (c : Cf) (X : Mc) (fv hv : Value) (l hl : List Int) : List Ob := [obBlk g 42 (cf7 c), obAll X.obs, obI fv l, obI hv hl]
structure Aw (w w' : World) (g : Nat) (c : Cf) (X : Mc) (fv hv : Value) (l hl tg : List Int) (m : Nat) (b : Int) : Prop where
  h : Held w w' (aiL g c X fv hv l.reverse hl)
  r : Mr w' X l tg b
  m : X.m = m
  cc : X.abs.c = c
  hv1 : ∀ x ∈ hl, (1 ≤ x ∧ x ≤ c.N) ∧ tg.getD (x - 1).toNat 0 = 1
  nd : hl.Nodup
  cnt : (manyL tg 1 : Int) = hl.length + sentP c.A
section
variable {w w' w'' : World} {g : Nat} {c : Cf} {X : Mc} {fv hv : Value} {l hl tg : List Int} {m : Nat} {b : Int}
theorem Aw.upd0 (h : Aw w w' g c X fv hv l hl tg m b) (hu : Upd [] w' w'') : Aw w w'' g c X fv hv l hl tg m b := ⟨h.h.upd0 hu, ⟨h.r.ok.upd0 hu, h.r.rep, h.r.calm, h.r.tl⟩, h.m, h.cc, h.hv1, h.nd, h.cnt⟩
theorem Aw.conf (h : Aw w w' g c X fv hv l hl tg m b) : Blk w' g 42 (cf7 c) := h.h.at_ (i := 0) (x := obBlk g 42 (cf7 c)) rfl
theorem Aw.free (h : Aw w w' g c X fv hv l hl tg m b) : Sl w' 3 1 fv l.reverse.length (l.reverse.map (.int .i64)) := h.h.at_ (i := 2) (x := obI fv l.reverse) rfl
theorem Aw.have_ (h : Aw w w' g c X fv hv l hl tg m b) : Sl w' 3 1 hv hl.length (hl.map (.int .i64)) := h.h.at_ (i := 3) (x := obI hv hl) rfl
theorem Aw.lens (h : Aw w w' g c X fv hv l hl tg m b) : l.length ≤ 64 ∧ hl.length ≤ 64 := by
  have hr := h.r.rep.ok.r
  have hN := N_bd hr
  have hc := h.cc
  have h1 := nodup_len X.abs.c.N.toNat l h.r.rep.nd (fun x hx => by have := h.r.rep.lk.mem x hx; omega)
  have h2 := nodup_len X.abs.c.N.toNat hl h.nd (fun x hx => by have := (h.hv1 x hx).1; rw [hc]; rw [hc] at hN; omega)
  omega
end
theorem Held.mach {w w' w'' : World} {g : Nat} {c : Cf} {X Y : Mc} {fv hv : Value} {l hl : List Int} (h : Held w w' (aiL g c X fv hv l hl)) (p : Post w' X w'' Y) : Held w w'' (aiL g c Y fv hv l hl) :=
  h.set (i := 1) (x := obAll X.obs) (y := obAll Y.obs) rfl p.ok p.to
/-- two lists without one thing -/
theorem drop1 {hl : List Int} {k : Nat} (hk : k < hl.length) (nd : hl.Nodup) : (hl.take k ++ hl.drop (k + 1)).Nodup ∧ hl.getD k 0 ∉ hl.take k ++ hl.drop (k + 1) ∧ (∀ x ∈ hl.take k ++ hl.drop (k + 1), x ∈ hl) ∧ hl.getD k 0 ∈ hl ∧ (hl.take k ++ hl.drop (k + 1)).length + 1 = hl.length := by
  have e : hl = hl.take k ++ (hl.getD k 0 :: hl.drop (k + 1)) := by
    rw [← getD_drop hl k hk, List.take_append_drop]
  have nd' := nd
  rw [e] at nd'
  obtain ⟨n1, n2, n3⟩ := List.nodup_append.1 nd'
  obtain ⟨n4, n5⟩ := List.nodup_cons.1 n2
  refine ⟨List.nodup_append.2 ⟨n1, n5, fun a ha b hb => n3 a ha b (List.mem_cons_of_mem _ hb)⟩, fun h => ?_, fun x hx => ?_, ?_, ?_⟩
  · rcases List.mem_append.1 h with h | h
    · exact n3 _ h _ List.mem_cons_self rfl
    · exact n4 h
  · rcases List.mem_append.1 hx with h | h
    · exact List.mem_of_mem_take h
    · exact List.mem_of_mem_drop h
  · rw [e]; simp [List.getD, hk]
  · rw [List.length_append, List.length_take, List.length_drop]; omega
theorem freeF_rev (n k : Nat) : (freeF n (k + 1)).reverse = (freeF n k).reverse ++ [((n - k : Nat) : Int)] := by
  show (((n - k : Nat) : Int) :: freeF n k).reverse = _
  rw [List.reverse_cons]
set_option maxRecDepth 100000 in
set_option maxHeartbeats 4000000 in
theorem alone_law {w : World} {c : Cf} {v : Value} {gs : List Int} (hv : RdK w .i64 v gs) : Fn Try.prog 10 #[.agg (cf7 c), v] w fun r w' => r = .bool true ∧ Upd [] w w' := by
  obtain ⟨va, vc, rfl, -⟩ := hv.form
  obtain ⟨A, T, N, L, B, P, S⟩ := c
  refine fn_enter Try.func10 rfl rfl ?_
  refine bx fun w1 hb1 hu1 hs1 => ?_
  have hb1 : Blk w1 w.heap.size 42 (cf7 ⟨A, T, N, L, B, P, S⟩) := hb1
  refine ldw hb1 rfl ?_
  refine cl (rright_c ⟨A, T, N, L, B, P, S⟩ w1) ?_
  rintro _ w2 ⟨rfl, hu2⟩
  have hU2 := hu1.trans hu2
  by_cases hr : rightC ⟨A, T, N, L, B, P, S⟩
  rotate_left
  · refine cY hr ?_
    refine cl (lives17 _) ?_
    rintro _ wx ⟨rfl, hux⟩
    exact ⟨rfl, hU2.trans hux⟩
  refine cN (fun h => h hr) ?_
  refine len_sl ?_
  by_cases q1 : (gs.length : Int) > 200
  · refine cY q1 ?_
    refine cl (lives17 _) ?_
    rintro _ wx ⟨rfl, hux⟩
    exact ⟨rfl, hU2.trans hux⟩
  refine cN q1 ?_
  have hb2 := hb1.upd hu2 (by simp)
  refine ldw hb2 rfl ?_
  refine cl (ar_new hr w2) ?_
  rintro _ w3 ⟨X, rfl, H, hc, hT, -, -, -⟩
  refine ptr_eq ?_
  obtain ⟨b1, b2, b3, b4, b5, b6, -⟩ := plan_bd hr
  have S2 : Held w w2 [obBlk w.heap.size 42 (cf7 ⟨A, T, N, L, B, P, S⟩)] := ⟨Sep.cons (Sep.nil w2) hb2 (by simp [feet]), hU2, by simp [feet, obBlk]⟩
  have S3 := S2.add (y := obAll X.obs) H.new.up H.new.ok H.new.fr
  have hb3 := hb2.upd H.new.up (by simp)
  generalize hg : w.heap.size = g at *
  refine fa ?_
  refine ldb hb3 (v := .int .i64 N) rfl ?_
  obtain ⟨n, rfl⟩ := Int.eq_ofNat_of_zero_le (show 0 ≤ N by omega)
  obtain ⟨s, hs⟩ := Int.eq_ofNat_of_zero_le (show 0 ≤ sentP A by omega)
  refine loop_rule [1, 2, 5] [7, 8, 9] (fun vs w' mm => ∃ (k : Nat) (fv : Value), vs = [fv, .slice none 0 0, .int .i64 ((n - k : Nat) : Int)] ∧ k ≤ n - s ∧ mm = n - s - k ∧ Held w w' [obBlk g 42 (cf7 ⟨A, T, (n : Int), L, B, P, S⟩), obAll X.obs, obI fv (freeF n k).reverse]) rfl [.slice none 0 0, .slice none 0 0, .int .i64 (n : Int)] (n - s) rfl
    ⟨0, _, rfl, by omega, rfl, S3.add (y := obI (.slice none 0 0) []) (Upd.refl _ _) (Sl.nil_ _ _ _) (by simp [obSl, Value.ownBlock])⟩ ?_
  rintro _ w4 mm ⟨k, fv, rfl, hk, rfl, S4⟩
  have hb4 : Blk w4 g 42 (cf7 ⟨A, T, (n : Int), L, B, P, S⟩) := S4.at_ (i := 0) (x := obBlk g 42 (cf7 ⟨A, T, (n : Int), L, B, P, S⟩)) rfl
  refine ldw hb4 rfl ?_
  refine cl (rsent_c ⟨A, T, (n : Int), L, B, P, S⟩ w4) ?_
  rintro _ w5 ⟨rfl, hu5⟩
  have hsA : (if A = 0 then (0 : Int) else 2) = (s : Int) := hs
  have S5 := S4.upd0 hu5
  refine cd (fun hgt => ?_) (fun hgt => ?_)
  · have hgt : s < n - k := by
      have h1 : ((n - k : Nat) : Int) > (if A = 0 then (0 : Int) else 2) := hgt
      rw [hsA] at h1; omega
    refine bs #[.int .i64 ((n - k : Nat) : Int)] (fun _ => by kernel_rfl) fun w6 hb6 hu6 hs6 => ?_
    have S6 := S5.upd0 hu6
    have hf6 : Sl w6 3 1 fv (freeF n k).reverse.length ((freeF n k).reverse.map (.int .i64)) := S6.at_ (i := 2) (x := obI fv (freeF n k).reverse) rfl
    have hfl : (freeF n k).reverse.length = k := by rw [List.length_reverse, freeF_len]
    refine apg hf6 hb6 rfl rfl (by decide) (by simp only [maxLen]; omega) (by omega) fun fv' w7 hs7 hG7 => ?_
    have S7 := S6.set (i := 2) (x := obI fv (freeF n k).reverse) (y := obI fv' (freeF n (k + 1)).reverse) rfl (by
      show Sl w7 _ 1 fv' (freeF n (k + 1)).reverse.length ((freeF n (k + 1)).reverse.map (.int .i64))
      rw [freeF_rev, List.length_append, List.map_append]
      exact hs7) (Upd.own hG7)
    refine ar64 (by omega) ?_
    exact round_mk [_, _, .int .i64 ((n - (k + 1) : Nat) : Int)] (n - s - (k + 1)) rfl (by rw [show ((n - (k + 1) : Nat) : Int) = ((n - k : Nat) : Int) - 1 by omega]; rfl) ⟨k + 1, _, rfl, by omega, rfl, S7⟩ (by omega)
  have hkk : k = n - s := by
    have h1 : ¬ ((n - k : Nat) : Int) > (if A = 0 then (0 : Int) else 2) := hgt
    rw [hsA] at h1; omega
  subst hkk
  have H5 : Aw w w5 g ⟨A, T, (n : Int), L, B, P, S⟩ X fv (.slice none 0 0) (freeF n (n - s)) [] (liveL n s) X.m 200 := by
    have e : (freeF (n : Int).toNat ((n : Int).toNat - (sentP A).toNat)) = freeF n (n - s) := by rw [hs]; rfl
    have e2 : liveL (n : Int).toNat (sentP A).toNat = liveL n s := by rw [hs]; rfl
    have hm := liveL_many n s (by omega)
    refine ⟨S5.add (y := obI (.slice none 0 0) []) (Upd.refl _ _) (Sl.nil_ _ _ _) (by simp [obSl, Value.ownBlock]), ⟨S5.at_ (i := 1) (x := obAll X.obs) rfl, ?_, H.calm, H.tl⟩, rfl, hc, by simp, List.nodup_nil, ?_⟩
    · have := H.rep
      rw [e, e2] at this
      exact this
    · rw [hm.1]; show (s : Int) = 0 + sentP A; omega
  generalize hm : X.m = m at *
  have hN : Cf.N ⟨A, T, (n : Int), L, B, P, S⟩ = (n : Int) := rfl
  refine loop_rule [1, 2, 5] [7, 8, 10] (fun vs w' mm => ∃ (j : Nat) (X : Mc) (fv hv : Value) (l hl tg : List Int), vs = [fv, hv, .int .i64 (j : Int)] ∧ j ≤ gs.length ∧ mm = gs.length - j ∧ Aw w w' g ⟨A, T, (n : Int), L, B, P, S⟩ X fv hv l hl tg m (200 + 3 * j)) rfl [fv, .slice none 0 0, .int .i64 0] gs.length rfl
    ⟨0, X, fv, _, _, _, _, rfl, by omega, rfl, H5⟩ ?_
  clear H5 H hm hc hT S5 S4 S3 S2 hb4
  rintro _ w6 mm ⟨j, X, fv, hv', l, hl, tg, rfl, hj, rfl, J⟩
  have hls := J.lens
  have hm := J.m
  refine len_sl ?_
  refine cd (fun hlt => ?_) (fun hlt => ?_)
  · have hlt : j < gs.length := by omega
    have hmem := mem_mm J.r.ok
    rw [hm] at hmem
    refine cl hmem ?_
    rintro _ w6 ⟨rfl, rfl⟩
    refine cl J.r.steps ?_
    rintro _ w6 ⟨rfl, rfl⟩
    obtain ⟨gb, go, gc, he, -⟩ := hv.some_ (by omega)
    cases he
    obtain ⟨ha, hcp, hhe, -⟩ := J.have_.form
    obtain ⟨fa', fc, hfe, -⟩ := J.free.form
    have Jh := J.have_
    have Jf := J.free
    have hk0 := J.r.rep.ok.k0
    have hk1 := J.r.rep.ok.k1
    refine ix j rfl hlt ?_
    refine ld ((hv.upd0 J.h.up).at_ rfl j hlt) ?_
    by_cases neg : gs.getD j 0 < 0
    · refine cY neg ?_
      cases l with
      | nil =>
        have hal := J.r.none_ (by omega)
        rw [hm] at hal
        refine cl hal ?_
        rintro _ w7 ⟨rfl, Y, K⟩
        have J7 : Aw w w7 g ⟨A, T, (n : Int), L, B, P, S⟩ Y fv hv' [] hl tg m (200 + 3 * ((j + 1 : Nat) : Int)) := ⟨J.h.mach K.p, ⟨K.r.ok, K.r.rep.up (by omega), K.r.calm, K.r.tl⟩, K.m.trans hm, K.c.trans J.cc, J.hv1, J.nd, J.cnt⟩
        rw [hfe]
        refine len_sl ?_
        rw [← hfe]
        have J9 := (J7).m
        have hmem9 := mem_mm (J7).r.ok
        rw [J9] at hmem9
        refine cl hmem9 ?_
        rintro _ w9 ⟨rfl, rfl⟩
        refine cl (J7).r.steps ?_
        rintro _ w9 ⟨rfl, rfl⟩
        rw [K.k]
        refine ar64 (by omega) ?_
        refine cN (by omega) ?_
        refine ar64 (by omega) ?_
        exact round_mk [_, _, .int .i64 ((j + 1 : Nat) : Int)] (gs.length - (j + 1)) rfl rfl ⟨j + 1, _, _, _, _, _, _, rfl, by omega, rfl, J7⟩ (by omega)
      | cons x l =>
        have hal := J.r.alloc (by omega)
        rw [hm] at hal
        refine cl hal ?_
        rintro _ w7 ⟨rfl, Y, K⟩
        have H7 : Held w w7 (aiL g ⟨A, T, (n : Int), L, B, P, S⟩ Y fv hv' (x :: l).reverse hl) := J.h.mach K.p
        obtain ⟨fb, fo, fc2, hfe2, hfc2⟩ := Jf.some_ (by simp)
        have hf7 : Sl w7 3 1 fv (x :: l).reverse.length ((x :: l).reverse.map (.int .i64)) := H7.at_ (i := 2) (x := obI fv (x :: l).reverse) rfl
        have hrl : (x :: l).reverse.length = l.length + 1 := by simp
        have hfe3 := hfe2
        have hl1 : l.length + 1 ≤ 64 := by have := hls.1; simpa using this
        rw [hrl] at hfe3 hfc2
        rw [hfe3]
        refine len_sl ?_
        refine cY (by omega) ?_
        refine len_sl ?_
        refine ar64 (by omega) ?_
        refine ix l.length (by omega) (by omega) ?_
        refine ld (v := .int .i64 x) (by
          have := hf7.getD_ hfe2 l.length (by omega)
          rw [this]
          exact congrArg some (congrArg (Value.int .i64) rev_last)) ?_
        refine len_sl ?_
        refine ar64 (by omega) ?_
        refine sl_hi l.length (by omega) (by omega) ?_
        refine bs #[.int .i64 x] (fun _ => by kernel_rfl) fun w8 hb8 hu8 hs8 => ?_
        have H8 := H7.upd0 hu8
        have hh8 : Sl w8 3 1 hv' hl.length (hl.map (.int .i64)) := H8.at_ (i := 3) (x := obI hv' hl) rfl
        refine apg hh8 hb8 rfl rfl (by decide) (by simp only [maxLen]; omega) (by omega) fun hv2 w9 hs9 hG9 => ?_
        have H9 := H8.set (i := 3) (x := obI hv' hl) (y := obI hv2 (hl ++ [x])) rfl (by
          show Sl w9 _ 1 hv2 (hl ++ [x]).length _
          rw [List.length_append, List.map_append]
          exact hs9) (Upd.own hG9)
        have hf9 : Sl w9 3 1 fv (x :: l).reverse.length ((x :: l).reverse.map (.int .i64)) := H9.at_ (i := 2) (x := obI fv (x :: l).reverse) rfl
        have hf9' := hf9.take_ hfe2 l.length (by omega)
        have hrt : (x :: l).reverse.take l.length = l.reverse := by rw [List.reverse_cons, List.take_left' (by simp)]
        have H10 : Held w w9 (aiL g ⟨A, T, (n : Int), L, B, P, S⟩ Y (.slice (some ⟨fb, fo, none⟩) l.length fc2) hv2 l.reverse (hl ++ [x])) := H9.set (i := 2) (x := obI fv (x :: l).reverse) (y := obI (.slice (some ⟨fb, fo, none⟩) l.length fc2) l.reverse) rfl (by
          show Sl w9 _ 1 _ l.reverse.length (l.reverse.map _)
          rw [← List.map_take, Nat.mul_one, hrt] at hf9'
          simpa using hf9') ⟨Upd.refl _ _, fun k hk => .inl (by rw [hfe2]; exact hk)⟩
        have hx1 := J.r.rep.lk.2.1
        have hxt := J.r.rep.tag x List.mem_cons_self
        have htl := J.r.rep.tl
        rw [J.cc] at hx1 htl
        rw [hN] at hx1 htl
        have hms := many_set tg (x - 1).toNat 1 1 (by omega)
        rw [hxt, if_neg (by decide), if_pos rfl] at hms
        have J10 : Aw w w9 g ⟨A, T, (n : Int), L, B, P, S⟩ Y (.slice (some ⟨fb, fo, none⟩) l.length fc2) hv2 l (hl ++ [x]) (tg.set (x - 1).toNat 1) m (200 + 3 * ((j + 1 : Nat) : Int)) := ⟨H10, ⟨H10.at_ (i := 1) (x := obAll Y.obs) rfl, K.r.rep.up (by omega), K.r.calm, K.r.tl⟩, K.m.trans hm, K.c.trans J.cc, fun z hz => by
          rcases List.mem_append.1 hz with e | e
          · obtain ⟨z1, z2⟩ := J.hv1 z e
            rw [hN] at z1 ⊢
            refine ⟨z1, ?_⟩
            by_cases hzx : z = x
            · rw [hzx, setD_self (by omega)]
            · rw [getD_set (by omega)]; exact z2
          · rw [List.mem_singleton.1 e, setD_self (by omega)]
            exact ⟨by rw [hN]; exact hx1, rfl⟩, List.nodup_append.2 ⟨J.nd, by simp, fun a ha b hb => by
          rw [List.mem_singleton.1 hb]
          intro e
          have := (J.hv1 a ha).2
          rw [e, hxt] at this
          exact absurd this (by decide)⟩, by
          have := J.cnt
          rw [List.length_append]
          have e1 : ((manyL (tg.set (x - 1).toNat 1) 1 : Nat) : Int) = (manyL tg 1 : Nat) + 1 := by omega
          rw [e1, this]
          simp only [List.length_cons, List.length_nil, Int.natCast_add]
          generalize sentP _ = z
          omega⟩
        refine cN (fun h => h rfl) ?_
        have J9 := (J10).m
        have hmem9 := mem_mm (J10).r.ok
        rw [J9] at hmem9
        refine cl hmem9 ?_
        rintro _ w9 ⟨rfl, rfl⟩
        refine cl (J10).r.steps ?_
        rintro _ w9 ⟨rfl, rfl⟩
        rw [K.k]
        refine ar64 (by omega) ?_
        refine cN (by omega) ?_
        refine ar64 (by omega) ?_
        exact round_mk [_, _, .int .i64 ((j + 1 : Nat) : Int)] (gs.length - (j + 1)) rfl rfl ⟨j + 1, _, _, _, _, _, _, rfl, by omega, rfl, J10⟩ (by omega)
    refine cN neg ?_
    rw [hhe]
    refine len_sl ?_
    refine cd (fun h0 => ?_) (fun h0 => ?_)
    · rw [← hhe]
      cases l with
      | nil =>
        have hal := J.r.none_ (by omega)
        rw [hm] at hal
        refine cl hal ?_
        rintro _ w7 ⟨rfl, Y, K⟩
        have J7 : Aw w w7 g ⟨A, T, (n : Int), L, B, P, S⟩ Y fv hv' [] hl tg m (200 + 3 * ((j + 1 : Nat) : Int)) := ⟨J.h.mach K.p, ⟨K.r.ok, K.r.rep.up (by omega), K.r.calm, K.r.tl⟩, K.m.trans hm, K.c.trans J.cc, J.hv1, J.nd, J.cnt⟩
        rw [hfe]
        refine len_sl ?_
        rw [← hfe]
        have J9 := (J7).m
        have hmem9 := mem_mm (J7).r.ok
        rw [J9] at hmem9
        refine cl hmem9 ?_
        rintro _ w9 ⟨rfl, rfl⟩
        refine cl (J7).r.steps ?_
        rintro _ w9 ⟨rfl, rfl⟩
        rw [K.k]
        refine ar64 (by omega) ?_
        refine cN (by omega) ?_
        refine ar64 (by omega) ?_
        exact round_mk [_, _, .int .i64 ((j + 1 : Nat) : Int)] (gs.length - (j + 1)) rfl rfl ⟨j + 1, _, _, _, _, _, _, rfl, by omega, rfl, J7⟩ (by omega)
      | cons x l =>
        have hal := J.r.alloc (by omega)
        rw [hm] at hal
        refine cl hal ?_
        rintro _ w7 ⟨rfl, Y, K⟩
        have H7 : Held w w7 (aiL g ⟨A, T, (n : Int), L, B, P, S⟩ Y fv hv' (x :: l).reverse hl) := J.h.mach K.p
        obtain ⟨fb, fo, fc2, hfe2, hfc2⟩ := Jf.some_ (by simp)
        have hf7 : Sl w7 3 1 fv (x :: l).reverse.length ((x :: l).reverse.map (.int .i64)) := H7.at_ (i := 2) (x := obI fv (x :: l).reverse) rfl
        have hrl : (x :: l).reverse.length = l.length + 1 := by simp
        have hfe3 := hfe2
        have hl1 : l.length + 1 ≤ 64 := by have := hls.1; simpa using this
        rw [hrl] at hfe3 hfc2
        rw [hfe3]
        refine len_sl ?_
        refine cY (by omega) ?_
        refine len_sl ?_
        refine ar64 (by omega) ?_
        refine ix l.length (by omega) (by omega) ?_
        refine ld (v := .int .i64 x) (by
          have := hf7.getD_ hfe2 l.length (by omega)
          rw [this]
          exact congrArg some (congrArg (Value.int .i64) rev_last)) ?_
        refine len_sl ?_
        refine ar64 (by omega) ?_
        refine sl_hi l.length (by omega) (by omega) ?_
        refine bs #[.int .i64 x] (fun _ => by kernel_rfl) fun w8 hb8 hu8 hs8 => ?_
        have H8 := H7.upd0 hu8
        have hh8 : Sl w8 3 1 hv' hl.length (hl.map (.int .i64)) := H8.at_ (i := 3) (x := obI hv' hl) rfl
        refine apg hh8 hb8 rfl rfl (by decide) (by simp only [maxLen]; omega) (by omega) fun hv2 w9 hs9 hG9 => ?_
        have H9 := H8.set (i := 3) (x := obI hv' hl) (y := obI hv2 (hl ++ [x])) rfl (by
          show Sl w9 _ 1 hv2 (hl ++ [x]).length _
          rw [List.length_append, List.map_append]
          exact hs9) (Upd.own hG9)
        have hf9 : Sl w9 3 1 fv (x :: l).reverse.length ((x :: l).reverse.map (.int .i64)) := H9.at_ (i := 2) (x := obI fv (x :: l).reverse) rfl
        have hf9' := hf9.take_ hfe2 l.length (by omega)
        have hrt : (x :: l).reverse.take l.length = l.reverse := by rw [List.reverse_cons, List.take_left' (by simp)]
        have H10 : Held w w9 (aiL g ⟨A, T, (n : Int), L, B, P, S⟩ Y (.slice (some ⟨fb, fo, none⟩) l.length fc2) hv2 l.reverse (hl ++ [x])) := H9.set (i := 2) (x := obI fv (x :: l).reverse) (y := obI (.slice (some ⟨fb, fo, none⟩) l.length fc2) l.reverse) rfl (by
          show Sl w9 _ 1 _ l.reverse.length (l.reverse.map _)
          rw [← List.map_take, Nat.mul_one, hrt] at hf9'
          simpa using hf9') ⟨Upd.refl _ _, fun k hk => .inl (by rw [hfe2]; exact hk)⟩
        have hx1 := J.r.rep.lk.2.1
        have hxt := J.r.rep.tag x List.mem_cons_self
        have htl := J.r.rep.tl
        rw [J.cc] at hx1 htl
        rw [hN] at hx1 htl
        have hms := many_set tg (x - 1).toNat 1 1 (by omega)
        rw [hxt, if_neg (by decide), if_pos rfl] at hms
        have J10 : Aw w w9 g ⟨A, T, (n : Int), L, B, P, S⟩ Y (.slice (some ⟨fb, fo, none⟩) l.length fc2) hv2 l (hl ++ [x]) (tg.set (x - 1).toNat 1) m (200 + 3 * ((j + 1 : Nat) : Int)) := ⟨H10, ⟨H10.at_ (i := 1) (x := obAll Y.obs) rfl, K.r.rep.up (by omega), K.r.calm, K.r.tl⟩, K.m.trans hm, K.c.trans J.cc, fun z hz => by
          rcases List.mem_append.1 hz with e | e
          · obtain ⟨z1, z2⟩ := J.hv1 z e
            rw [hN] at z1 ⊢
            refine ⟨z1, ?_⟩
            by_cases hzx : z = x
            · rw [hzx, setD_self (by omega)]
            · rw [getD_set (by omega)]; exact z2
          · rw [List.mem_singleton.1 e, setD_self (by omega)]
            exact ⟨by rw [hN]; exact hx1, rfl⟩, List.nodup_append.2 ⟨J.nd, by simp, fun a ha b hb => by
          rw [List.mem_singleton.1 hb]
          intro e
          have := (J.hv1 a ha).2
          rw [e, hxt] at this
          exact absurd this (by decide)⟩, by
          have := J.cnt
          rw [List.length_append]
          have e1 : ((manyL (tg.set (x - 1).toNat 1) 1 : Nat) : Int) = (manyL tg 1 : Nat) + 1 := by omega
          rw [e1, this]
          simp only [List.length_cons, List.length_nil, Int.natCast_add]
          generalize sentP _ = z
          omega⟩
        refine cN (fun h => h rfl) ?_
        have J9 := (J10).m
        have hmem9 := mem_mm (J10).r.ok
        rw [J9] at hmem9
        refine cl hmem9 ?_
        rintro _ w9 ⟨rfl, rfl⟩
        refine cl (J10).r.steps ?_
        rintro _ w9 ⟨rfl, rfl⟩
        rw [K.k]
        refine ar64 (by omega) ?_
        refine cN (by omega) ?_
        refine ar64 (by omega) ?_
        exact round_mk [_, _, .int .i64 ((j + 1 : Nat) : Int)] (gs.length - (j + 1)) rfl rfl ⟨j + 1, _, _, _, _, _, _, rfl, by omega, rfl, J10⟩ (by omega)
    have hp : 0 < hl.length := by omega
    obtain ⟨hb, ho, hc2, hhe2, hhc⟩ := Jh.some_ hp
    rw [← hhe]
    clear hhe ha hcp
    subst hhe2
    obtain ⟨kk, hkk, hkl⟩ : ∃ kk : Nat, (gs.getD j 0).tmod (hl.length : Int) = (kk : Int) ∧ kk < hl.length := by
      refine ⟨(gs.getD j 0).toNat % hl.length, ?_, Nat.mod_lt _ hp⟩
      rw [Int.tmod_eq_emod_of_nonneg (by omega), Int.natCast_emod, Int.toNat_of_nonneg (by omega)]
    refine ix j rfl hlt ?_
    refine ld ((hv.upd0 J.h.up).at_ rfl j hlt) ?_
    refine len_sl ?_
    refine rm (by omega) ?_
    refine val (kk : Int) hkk ?_
    refine ix kk rfl hkl ?_
    refine ld (v := .int .i64 (hl.getD kk 0)) (Jh.getD_ rfl kk hkl) ?_
    refine draw_mix 10 [(0, true), (1, true), (2, true), (3, true), (5, true), (6, true), (7, true), (8, true), (4, false), (9, false)] (fun _ => True) (by decide +kernel) trivial ?_
    refine q_hi kk rfl (by omega) ?_
    refine q_ar64 (by omega) ?_
    refine rq (.slice (if hc2 = kk + 1 then some ⟨hb, ho, none⟩ else (some ⟨hb, ho, none⟩ : Option Addr).map (·.add ((kk + 1) * 1))) (hl.length - (kk + 1)) (hc2 - (kk + 1))) (fun _ _ => sl_lo (kk + 1) (by omega) (by omega) ⟨rfl, rfl⟩) ?_
    have J7 := J.upd0 (Upd.refl [] w6).drew
    have hone : ∀ (k : List Int), ∀ x ∈ k.map (Value.int .i64), x.oneCell' = true := by
      intro k x hx; obtain ⟨y, -, rfl⟩ := List.mem_map.1 hx; rfl
    have hta := J7.have_.take_ rfl kk (by omega)
    rw [Nat.mul_one, ← List.map_take] at hta
    refine apx (Sl.nil_ w6.drew 3 1) hta.rd (hone _) (by simp only [maxLen]; omega) (by omega) fun r1 w7 hs7 hG7 => ?_
    refine ⟨trivial, ?_⟩
    have hu7 := (hG7.new rfl).1
    have J8 := J7.upd0 hu7
    have hdr := lo_rd J8.have_ (j := kk + 1) (by omega) hhc
    rw [← List.map_drop] at hdr
    refine apx hs7 hdr (hone _) (by simp only [maxLen]; omega) (by omega) fun r2 w8 hs8 hG8 => ?_
    refine ⟨trivial, ?_⟩
    obtain ⟨hu8, hf8⟩ := (hG7.to hG8).new rfl
    obtain ⟨d1, d2, d3, d4, d5⟩ := drop1 hkl J.nd
    have hrl : (hl.take kk ++ hl.drop (kk + 1)).length = 0 + kk + (hl.length - (kk + 1)) := by rw [List.length_append, List.length_take, List.length_drop]; omega
    obtain ⟨hn1, hn2⟩ := J.hv1 _ d4
    generalize hl.getD kk 0 = n1 at *
    have H9 : Held w w8 (aiL g ⟨A, T, (n : Int), L, B, P, S⟩ X fv r2 l.reverse (hl.take kk ++ hl.drop (kk + 1))) := J7.h.set (i := 3) (x := obI (.slice (some ⟨hb, ho, none⟩) hl.length hc2) hl) (y := obI r2 (hl.take kk ++ hl.drop (kk + 1))) rfl (by
      show Sl w8 _ 1 r2 (hl.take kk ++ hl.drop (kk + 1)).length ((hl.take kk ++ hl.drop (kk + 1)).map (.int .i64))
      rw [hrl, List.map_append]
      exact hs8) ⟨hu8.mono (by simp), fun k hk => .inr (hf8 k (by simpa [obSl] using hk))⟩
    generalize hl.take kk ++ hl.drop (kk + 1) = hl2 at *
    refine bs #[.int .i64 n1] (fun _ => by kernel_rfl) fun w9 hb9 hu9 hs9 => ?_
    have H10 := H9.upd0 hu9
    have hf10 : Sl w9 3 1 fv l.reverse.length (l.reverse.map (.int .i64)) := H10.at_ (i := 2) (x := obI fv l.reverse) rfl
    have hlr : l.reverse.length = l.length := List.length_reverse
    refine apg hf10 hb9 rfl rfl (by decide) (by simp only [maxLen]; omega) (by omega) fun fv2 w10 hs10 hG10 => ?_
    have H11 : Held w w10 (aiL g ⟨A, T, (n : Int), L, B, P, S⟩ X fv2 r2 (n1 :: l).reverse hl2) := H10.set (i := 2) (x := obI fv l.reverse) (y := obI fv2 (n1 :: l).reverse) rfl (by
      show Sl w10 _ 1 fv2 (n1 :: l).reverse.length ((n1 :: l).reverse.map (.int .i64))
      rw [List.reverse_cons, List.length_append, List.map_append]
      exact hs10) (Upd.own hG10)
    have M11 : Mr w10 X l tg (200 + 3 * j) := ⟨H11.at_ (i := 1) (x := obAll X.obs) rfl, J.r.rep, J.r.calm, J.r.tl⟩
    have htl := J.r.rep.tl
    have hcc := J.cc
    rw [hcc, hN] at htl
    have hgo := M11.gone (x := n1) (by rw [hcc]; exact hn1) hn2
    rw [hm] at hgo
    refine cl hgo ?_
    rintro _ w11 ⟨Y, K⟩
    have H12 := H11.mach K.p
    have hKm : Y.m = m := K.m.trans hm
    rw [hN] at hn1
    have hre := K.r.release (x := n1) (by omega) (by rw [K.c, hcc]; exact hn1) (by rw [setD_self (by omega)])
    rw [hKm] at hre
    refine cl hre ?_
    rintro _ w12 ⟨rfl, Z, K2⟩
    have H13 := H12.mach K2.p
    refine cN (fun h => h rfl) ?_
    have hm1 := many_set tg (n1 - 1).toNat 2 1 (by omega)
    have hm2 := many_set (tg.set (n1 - 1).toNat 2) (n1 - 1).toNat 0 1 (by simp; omega)
    rw [hn2, if_pos rfl, if_neg (by decide)] at hm1
    rw [setD_self (by omega), if_neg (by decide), if_neg (by decide)] at hm2
    have J13 : Aw w w12 g ⟨A, T, (n : Int), L, B, P, S⟩ Z fv2 r2 (n1 :: l) hl2 ((tg.set (n1 - 1).toNat 2).set (n1 - 1).toNat 0) m (200 + 3 * ((j + 1 : Nat) : Int)) := ⟨H13, ⟨K2.r.ok, K2.r.rep.up (by omega), K2.r.calm, K2.r.tl⟩, K2.m.trans hKm, (K2.c.trans K.c).trans hcc, fun z hz => by
      obtain ⟨z1, z2⟩ := J.hv1 z (d3 z hz)
      rw [hN] at z1 ⊢
      refine ⟨z1, ?_⟩
      have hne : z ≠ n1 := fun e => d2 (by rw [← e]; exact hz)
      rw [getD_set (by omega), getD_set (by omega)]; exact z2, d1, by
      have := J.cnt
      have e1 : ((manyL ((tg.set (n1 - 1).toNat 2).set (n1 - 1).toNat 0) 1 : Nat) : Int) + 1 = (manyL tg 1 : Nat) := by omega
      have e2 : ((hl2.length : Nat) : Int) + 1 = hl.length := by omega
      generalize sentP _ = z at this ⊢
      omega⟩
    have hkz : Z.abs.k = X.abs.k + 3 := by have h1 := K.k; have h2 := K2.k; omega
    have J9 := (J13).m
    have hmem9 := mem_mm (J13).r.ok
    rw [J9] at hmem9
    refine cl hmem9 ?_
    rintro _ w9 ⟨rfl, rfl⟩
    refine cl (J13).r.steps ?_
    rintro _ w9 ⟨rfl, rfl⟩
    rw [hkz]
    refine ar64 (by omega) ?_
    refine cN (by omega) ?_
    refine ar64 (by omega) ?_
    exact round_mk [_, _, .int .i64 ((j + 1 : Nat) : Int)] (gs.length - (j + 1)) rfl rfl ⟨j + 1, _, _, _, _, _, _, rfl, by omega, rfl, J13⟩ (by omega)
  · have J9 := J.m
    have hch := J.r.list
    rw [J9] at hch
    refine cl hch ?_
    rintro cv w7 ⟨hs7, hu7⟩
    obtain ⟨fa', fc, hfe, -⟩ := J.free.form
    obtain ⟨ca, cc', rfl, -⟩ := hs7.form
    have hs7' := hs7
    have Jf := J.free
    have hlr : l.reverse.length = l.length := List.length_reverse
    rw [hfe]
    refine len_sl ?_
    refine len_sl ?_
    refine cN (fun h => h (by rw [hlr])) ?_
    have J7 := J.upd0 hu7
    have hfl := J7.r.fault
    rw [J9] at hfl
    refine cl hfl ?_
    rintro _ w8 ⟨rfl, hu8⟩
    have J8 := J7.upd0 hu8
    have hs8 := hs7.upd hu8 (by simp)
    rw [← hfe]
    clear hfe
    have hrg : ∀ i, i < l.length → l.reverse.getD (l.length - 1 - i) 0 = l.getD i 0 := fun i hi => by
      simp only [List.getD, List.getElem?_reverse (show l.length - 1 - i < l.length by omega)]
      rw [show l.length - 1 - (l.length - 1 - i) = i by omega]
    obtain ⟨fa', fc, hfe, -⟩ := J.free.form
    refine loop_rule [2, 5, 7, 8, 18] [19] (fun vs w' mm => ∃ i : Nat, vs = [.int .i64 (i : Int)] ∧ i ≤ l.length ∧ mm = l.length - i ∧ Upd [] w8 w') rfl [.int .i64 0] l.length rfl ⟨0, rfl, by omega, rfl, Upd.refl _ _⟩ ?_
    rintro _ w9 mm ⟨i, rfl, hi, rfl, hu9⟩
    refine len_sl ?_
    refine cd (fun hq => ?_) (fun hq => ?_)
    · have hq : i < l.length := by omega
      have Jf9 := (J8.upd0 hu9.drew).free
      obtain ⟨fb, fo, fc2, hfe2, -⟩ := Jf9.some_ (by omega)
      have hs9 := hs8.upd hu9.drew (by simp)
      obtain ⟨cb, co, cc2, hce, -⟩ := hs9.some_ (by omega)
      cases hce
      rw [hfe2]
      refine draw_all (fun w' => w' = w9.drew) (by decide +kernel) rfl ?_
      refine q_ix i rfl hq ?_
      refine q_ld (v := .int .i64 (l.getD i 0)) (by rintro _ rfl; exact hs9.getD_ rfl i hq) ?_
      refine q_len ?_
      refine q_ar64 (by omega) ?_
      refine q_ar64 (by omega) ?_
      refine q_ix (l.length - 1 - i) (by omega) (by omega) ?_
      refine q_ld (v := .int .i64 (l.getD i 0)) (by
        rintro _ rfl
        have := Jf9.getD_ hfe2 (l.length - 1 - i) (by omega)
        rw [hrg i hq] at this
        exact this) ?_
      rintro _ rfl
      rw [← hfe2]
      refine cN (fun h => h rfl) ?_
      refine ar64 (by omega) ?_
      exact round_mk [.int .i64 ((i + 1 : Nat) : Int)] (l.length - (i + 1)) rfl rfl ⟨i + 1, rfl, by omega, rfl, hu9.drew⟩ (by omega)
    · have J9' := J8.upd0 hu9
      obtain ⟨gg, hgg, hgt⟩ : ∃ gg, X.gs = some gg ∧ gg.tags = tg := by
        have h1 : X.gs.map absG = _ := J.r.rep.gh
        cases hz : X.gs with
        | none => rw [hz] at h1; cases h1
        | some gg =>
          rw [hz] at h1
          exact ⟨gg, rfl, congrArg (fun x => x.1) (Option.some.inj h1)⟩
      have htl := J.r.rep.tl
      rw [J.cc, hN] at htl
      obtain ⟨ha, hcp, hhe, -⟩ := J.have_.form
      have hcnt := J.cnt
      have hgh : ∀ w', Upd [] w9 w' → IsG w' gg.p gg.v tg gg.k gg.n := fun w' hw' => by
        have := (J9'.upd0 hw').r.ok.gh
        rw [hgg] at this
        rw [← hgt]; exact this
      refine draw_all (fun w' => Upd [] w9 w') (by decide +kernel) (Upd.refl _ _).drew ?_
      refine q_cl (ptrV gg.p) (fun w' hw' => by
        have := ghost_mm (J9'.upd0 hw').r.ok
        rw [J9, hgg] at this
        exact this.mono fun _ _ ⟨u, he, h1, h2⟩ => ⟨u, he, h1, by rw [h2]; exact hw'⟩) ?_
      refine q_cl (.int .i64 (manyL tg 1 : Int)) (fun w' hw' => (count_g (hgh w' hw') (by omega) 1).mono fun _ _ ⟨u, he, h1, h2⟩ => ⟨u, he, h1, by rw [h2]; exact hw'⟩) ?_
      rw [hhe]
      refine q_len ?_
      refine rq (.agg (cf7 ⟨A, T, (n : Int), L, B, P, S⟩)) (fun w' hw' => ldw (J9'.upd0 hw').conf rfl ⟨rfl, rfl⟩) ?_
      refine q_cl (.int .i64 (sentP A)) (fun w' hw' => (rsent_c ⟨A, T, (n : Int), L, B, P, S⟩ w').mono fun _ _ ⟨u, he, h1, h2⟩ => ⟨u, he, h1, hw'.trans h2⟩) ?_
      refine q_ar64 (by omega) ?_
      refine cY hcnt ?_
      refine q_cl (.bool true) (fun w' hw' => (lives17 w').mono fun _ _ ⟨u, he, h1, h2⟩ => ⟨u, he, h1, hw'.trans h2⟩) ?_
      intro w' hw'
      exact ⟨rfl, J9'.h.up.trans hw'⟩
theorem ArenaAlone_walk (w : World) (l : List Int) (wl : Fits [.i64, .i64, .i64, .i64, .i64, .i64, .i64] l) (v1 : Value) (l1 : List (List Int)) (h1 : SlRows w w.heap.size [.i64] v1 l1) :
    Calls Try.prog 10 #[.agg (mkInts [.i64, .i64, .i64, .i64, .i64, .i64, .i64] l).toArray, v1] w fun e w' => e = .returned (.bool true) ∧ Below w.heap.size w w' := by
  obtain ⟨⟨A, T, N, L, B, P, S⟩, rfl⟩ := cf_of wl
  exact (alone_law (c := ⟨A, T, N, L, B, P, S⟩) (RdK.of_ints h1.ints (Nat.le_refl _))).mono fun _ _ ⟨_, he, hv, hu⟩ => ⟨by rw [he, hv], hu.below⟩
end Go.Proofs.Ytdomclcokkijjaa

