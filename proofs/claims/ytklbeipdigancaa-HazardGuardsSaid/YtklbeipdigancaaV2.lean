/- The reader's rules: more known slots do no harm; where ways meet; loops; regions that draw their order. -/
import Derived.Test.YtklbeipdigancaaV
import Derived.Deep.LoopGhost
namespace Go.Proofs.Ytklbeipdigancaa
open Go.RowKit

def Sub (e e' : Env) : Prop := ∀ t v, look e t = some v → look e' t = some v
theorem Sub.refl (e : Env) : Sub e e := fun _ _ h => h
theorem Sub.trans {a b c : Env} (h : Sub a b) (k : Sub b c) : Sub a c := fun t v x => k t v (h t v x)
theorem Sub.cons {e e' : Env} (h : Sub e e') (d : Nat) (v : Value) : Sub ((d, v) :: e) ((d, v) :: e') := fun t u hl => by
  by_cases hd : d = t
  · subst hd; rw [look_cons_eq] at hl ⊢; exact hl
  · rw [look_cons_ne hd] at hl ⊢; exact h t u hl
theorem Knows.sub {N : Nat} {e e' : Env} {a : Act} (h : Knows N e' a) (hs : Sub e e') : Knows N e a := ⟨h.defers, h.size, fun t v hl => h.look t v (hs t v hl)⟩

theorem ev_mono {e e' : Env} (hs : Sub e e') {x : Operand} {K K' : Value → Prop} (hK : ∀ v, K v → K' v) (h : ev e x K) : ev e' x K' := by
  cases x with
  | tmp t =>
    unfold ev at *
    simp only at *
    split at h
    · rename_i v hv
      rw [hs t v hv]
      exact hK _ h
    · exact h.elim
  | const v => exact hK _ h
  | global g => exact hK _ h
  | func f => exact hK _ h
theorem evs_mono {e e' : Env} (hs : Sub e e') : ∀ {l : List Operand} {K K' : List Value → Prop}, (∀ v, K v → K' v) → evs e l K → evs e' l K'
  | [], _, _, hK, h => hK _ h
  | _ :: _, _, _, hK, h => ev_mono hs (fun _ h => evs_mono hs (fun _ h => hK _ h) h) h
theorem evp_mono {e e' : Env} (hs : Sub e e') : ∀ {l : List (Nat × Operand)} {K K' : List (Nat × Value) → Prop}, (∀ v, K v → K' v) → evp e l K → evp e' l K'
  | [], _, _, hK, h => hK _ h
  | (_, _) :: _, _, _, hK, h => ev_mono hs (fun _ h => evp_mono hs (fun _ h => hK _ h) h) h
theorem evo_mono {e e' : Env} (hs : Sub e e') {x : Option Operand} {K K' : Option Value → Prop} (hK : ∀ v, K v → K' v) (h : evo e x K) : evo e' x K' := by
  cases x with
  | none => exact hK _ h
  | some x => exact ev_mono hs (fun _ h => hK _ h) h
theorem RunP.mono {P : Program} {s : Sem Value} {K K' : Value → World → Prop} {w : World} (hK : ∀ v w, K v w → K' v w) (h : RunP P s K w) : RunP P s K' w :=
  ⟨let ⟨v, w', h1, h2⟩ := h.h; ⟨v, w', h1, hK _ _ h2⟩⟩
theorem RunU.mono {P : Program} {s : Sem Unit} {K K' : World → Prop} {w : World} (hK : ∀ w, K w → K' w) (h : RunU P s K w) : RunU P s K' w :=
  ⟨let ⟨w', h1, h2⟩ := h.h; ⟨w', h1, hK _ h2⟩⟩
theorem CallP.mono {P : Program} {f : FuncId} {args : Array Value} {K K' : Value → World → Prop} {w : World} (hK : ∀ v w, K v w → K' v w) (h : CallP P f args K w) : CallP P f args K' w :=
  ⟨h.h.imp (fun ⟨h1, h2⟩ => ⟨h1, h2.mono fun _ _ ⟨v, he, hk⟩ => ⟨v, he, hK _ _ hk⟩⟩) (fun ⟨v, w', h1, h2⟩ => ⟨v, w', h1, hK _ _ h2⟩)⟩
theorem CondP.mono {b : Bool} {X Y X' Y' : Prop} (hX : X → X') (hY : Y → Y') (h : (Bool.rec (motive := fun _ => Prop) Y X b : Prop)) : (Bool.rec (motive := fun _ => Prop) Y' X' b : Prop) := CondP.mk' (fun hb => hX (CondP.t h hb)) (fun hb => hY (CondP.f h hb))
theorem vcBin_mono {P : Program} {op : BinOp} {t : TypeId} {x y : Operand} {a b : Value} {K K' : Value → World → Prop} {w : World} (hK : ∀ v w, K v w → K' v w) (h : vcBin P op t x y a b K w) : vcBin P op t x y a b K' w := by
  revert h
  unfold vcBin
  split
  · rename_i k m k' n
    cases decEq k k' with
    | isTrue hk =>
      dsimp only
      cases cmpOf op m n with
      | some r => exact hK _ _
      | none =>
        dsimp only
        cases arithOf op m n with
        | some r => exact fun h => ⟨hK _ _ h.h⟩
        | none => exact RunP.mono hK
    | isFalse _ => exact RunP.mono hK
  · rename_i m n
    cases scmpOf op m n with
    | some r => exact hK _ _
    | none => exact RunP.mono hK
  · exact RunP.mono hK
theorem vcUn_mono {P : Program} {op : UnOp} {a : Value} {K K' : Value → World → Prop} {w : World} (hK : ∀ v w, K v w → K' v w) (h : vcUn P op a K w) : vcUn P op a K' w := by
  revert h
  unfold vcUn
  split
  · exact hK _ _
  · exact RunP.mono hK
theorem vcNil_mono {P : Program} {a : Value} {K K' : Value → World → Prop} {w : World} (hK : ∀ v w, K v w → K' v w) (h : vcNil P a K w) : vcNil P a K' w := by
  revert h
  unfold vcNil
  split
  · exact hK _ _
  · exact hK _ _
  · exact id
theorem vcCall_mono {P : Program} {f : Value} {l : List Value} {K K' : Value → World → Prop} {w : World} (hK : ∀ v w, K v w → K' v w) (h : vcCall P f l K w) : vcCall P f l K' w := by
  revert h
  unfold vcCall
  split
  · exact CallP.mono hK
  · exact id

theorem vcOp_mono {P : Program} {e e' : Env} {o : Oper} {K K' : Value → World → Prop} {w : World} (hs : Sub e e') (hK : ∀ v w, K v w → K' v w) (h : vcOp P e o K w) : vcOp P e' o K' w := by
  revert h
  unfold vcOp
  split
  case h_1 => exact ev_mono hs fun _ => hK _ _
  case h_2 => exact ev_mono hs fun _ => hK _ _
  case h_3 =>
    refine ev_mono hs fun _ => ev_mono hs fun _ => ev_mono hs fun _ => ?_
    split
    · exact CondP.mono (hK _ _) (hK _ _)
    · exact id
  case h_4 => exact RunP.mono hK
  case h_5 => exact ev_mono hs fun _ => RunP.mono hK
  case h_6 => exact evp_mono hs fun _ => RunP.mono hK
  case h_7 => exact evp_mono hs fun _ => RunP.mono hK
  case h_8 => exact ev_mono hs fun _ => RunP.mono hK
  case h_9 => exact ev_mono hs fun _ => ev_mono hs fun _ => RunU.mono fun _ => hK _ _
  case h_10 => exact ev_mono hs fun _ => vcNil_mono hK
  case h_11 => exact ev_mono hs fun _ => ev_mono hs fun _ => vcBin_mono hK
  case h_12 => exact ev_mono hs fun _ => vcUn_mono hK
  case h_13 => exact ev_mono hs fun _ => RunP.mono hK
  case h_14 => exact ev_mono hs fun _ => RunP.mono hK
  case h_15 => exact evs_mono hs fun _ => evs_mono hs fun _ => hK _ _
  case h_16 => exact ev_mono hs fun _ => ev_mono hs fun _ => RunP.mono hK
  case h_17 => exact ev_mono hs fun _ => evo_mono hs fun _ => evo_mono hs fun _ => evo_mono hs fun _ => RunP.mono hK
  case h_18 => exact ev_mono hs fun _ => RunP.mono hK
  case h_19 => exact ev_mono hs fun _ => RunP.mono hK
  case h_20 => exact ev_mono hs fun _ => ev_mono hs fun _ => RunP.mono hK
  case h_21 => exact ev_mono hs fun _ => ev_mono hs fun _ => RunP.mono hK
  case h_22 => exact ev_mono hs fun _ => RunP.mono hK
  case h_23 => exact ev_mono hs fun _ => RunP.mono hK
  case h_24 =>
    refine ev_mono hs fun v => ?_
    split
    · split
      · exact hK _ _
      · exact id
    · exact id
  case h_25 =>
    split
    · exact ev_mono hs fun _ => evs_mono hs fun _ => vcCall_mono hK
    · refine evs_mono hs fun l => ?_
      split
      · exact RunP.mono hK
      · exact id
    · exact id
  case h_26 => exact evo_mono hs fun _ => RunP.mono hK
  case h_27 => exact ev_mono hs fun _ => ev_mono hs fun _ => RunP.mono hK
  case h_28 => exact ev_mono hs fun _ => ev_mono hs fun _ => ev_mono hs fun _ => RunU.mono fun _ => hK _ _
  case h_29 => exact id

theorem setK_mono {N : Nat} {e e' : Env} {dst : Option Tmp} {v : Value} {K K' : Env → Prop} (hs : Sub e e') (hK : ∀ e e', Sub e e' → K e → K' e') (h : setK N e dst v K) : setK N e' dst v K' := by
  revert h
  unfold setK
  split
  · exact hK _ _ hs
  · split
    · exact hK _ _ (hs.cons _ _)
    · exact id
theorem vcOps_mono {P : Program} {N : Nat} {ops : List Oper} {Q Q' : Env → World → Prop} (hQ : ∀ e e' w, Sub e e' → Q e w → Q' e' w) : ∀ (l : List Oper) (e e' : Env) (w : World), Sub e e' → vcOps P N ops Q l e w → vcOps P N ops Q' l e' w
  | [], e, e', w, hs, h => hQ e e' w hs h
  | o :: rest, e, e', w, hs, h => by
    have h1 : ∀ {e e' : Env} {u : World}, Sub e e' → vcOp P e o (fun v w' => setK N e o.dst v fun e' => vcOps P N ops Q rest e' w') u → vcOp P e' o (fun v w' => setK N e' o.dst v fun e' => vcOps P N ops Q' rest e' w') u := fun hs =>
      vcOp_mono hs fun v w' => setK_mono hs fun a b hab => vcOps_mono hQ rest a b w' hab
    have h2 : ∀ {e e' : Env} {u : World}, Sub e e' → (setK N e o.dst undef fun e' => vcOps P N ops Q rest e' u) → (setK N e' o.dst undef fun e' => vcOps P N ops Q' rest e' u) := fun hs =>
      setK_mono hs fun a b hab => vcOps_mono hQ rest a b _ hab
    revert h
    rw [vcOps_cons, vcOps_cons]
    unfold vcStep
    split
    · exact h1 hs
    · split
      · rename_i d _
        cases hl : look e d with
        | none => exact False.elim
        | some v =>
          rw [hs d v hl]
          split
          · split
            · exact CondP.mono (h1 (hs.cons _ _)) (h2 (hs.cons _ _))
            · exact CondP.mono (h2 (hs.cons _ _)) (h1 (hs.cons _ _))
          · exact h2 hs
          · exact id
      · exact id

theorem DrawP.mono {P : Program} {N : Nat} {ops : Array Oper} {Q Q' : Env → World → Prop} {e e' : Env} {w : World} (hs : Sub e e') (hQ : ∀ e e' w, Sub e e' → Q e w → Q' e' w) (h : DrawP P N ops Q e w) : DrawP P N ops Q' e' w :=
  ⟨fun id a hk => Code.wp_mono (fun _ _ _ ⟨hx, e1, hk1, hq⟩ => ⟨hx, e1, hk1, hQ _ _ _ (Sub.refl _) hq⟩) (h.h id a (hk.sub hs))⟩
theorem sem_mono {N : Nat} {Q Q' : Exit → Env → World → Prop} (hQ : ∀ x e e' w, Sub e e' → Q x e w → Q' x e' w) : ∀ x a w, sem N Q x a w → sem N Q' x a w := fun _ _ _ ⟨e1, hk1, hq⟩ => ⟨e1, hk1, hQ _ _ _ _ (Sub.refl _) hq⟩
theorem LoopP.mono {P : Program} {N : Nat} {c : Code} {Q Q' : Exit → Env → World → Prop} {e e' : Env} {w : World} (hs : Sub e e') (hQ : ∀ x e e' w, Sub e e' → Q x e w → Q' x e' w) (h : LoopP P N c Q e w) : LoopP P N c Q' e' w :=
  ⟨fun a hk => Code.wp_mono (sem_mono hQ) (h.h a (hk.sub hs))⟩
theorem RangeP.mono {P : Program} {N : Nat} {f : Value} {ps : Array Tmp} {asg c : Code} {Q Q' : Exit → Env → World → Prop} {e e' : Env} {w : World} (hs : Sub e e') (hQ : ∀ x e e' w, Sub e e' → Q x e w → Q' x e' w) (h : RangeP P N f ps asg c Q e w) : RangeP P N f ps asg c Q' e' w :=
  ⟨fun g a hk hg => Code.wp_mono (sem_mono hQ) (h.h g a (hk.sub hs) hg)⟩

theorem vc_mono {P : Program} {N : Nat} : ∀ (c : Code) (Q Q' : Exit → Env → World → Prop) (e e' : Env) (w : World), Sub e e' → (∀ x e e' w, Sub e e' → Q x e w → Q' x e' w) → vc P N c Q e w → vc P N c Q' e' w := by
  intro c
  induction c with
  | skip => intro Q Q' e e' w hs hQ h; exact hQ _ _ _ _ hs h
  | region id ops d =>
    intro Q Q' e e' w hs hQ h
    cases d with
    | false => exact vcOps_mono (hQ .normal) _ _ _ _ hs h
    | true => exact DrawP.mono hs (hQ .normal) h
  | seq x y ihx ihy =>
    intro Q Q' e e' w hs hQ h
    refine ihx _ _ _ _ _ hs ?_ h
    intro ex e e' w hs h
    cases ex with
    | normal => exact ihy _ _ _ _ _ hs hQ h
    | _ => exact hQ _ _ _ _ hs h
  | cond c x y ihx ihy =>
    intro Q Q' e e' w hs hQ h
    refine ev_mono hs (fun v => ?_) h
    split
    · exact CondP.mono (ihx _ _ _ _ _ hs hQ) (ihy _ _ _ _ _ hs hQ)
    · exact id
  | block id c ih =>
    intro Q Q' e e' w hs hQ h
    refine ih _ _ _ _ _ hs ?_ h
    intro ex e e' w hs h
    cases ex with
    | exit i =>
      revert h
      simp only [blockE]
      split
      · exact hQ _ _ _ _ hs
      · exact hQ _ _ _ _ hs
    | _ => exact hQ _ _ _ _ hs h
  | loop c _ => intro Q Q' e e' w hs hQ h; exact LoopP.mono hs hQ h
  | rangeFunc f ps asg c _ _ => intro Q Q' e e' w hs hQ h; exact ev_mono hs (fun _ => RangeP.mono hs hQ) h
  | exit id => intro Q Q' e e' w hs hQ h; exact hQ _ _ _ _ hs h
  | scope c ih =>
    intro Q Q' e e' w hs hQ h
    refine ih _ _ _ _ _ hs ?_ h
    intro ex e e' w hs h
    cases ex with
    | goto l => exact h.elim
    | _ => exact hQ _ _ _ _ hs h
  | label l => intro Q Q' e e' w hs hQ h; exact h.elim
  | goto l => intro Q Q' e e' w hs hQ h; exact h.elim
  | ret => intro Q Q' e e' w hs hQ h; exact hQ _ _ _ _ hs h
  | refuse y => intro Q Q' e e' w hs hQ h; exact h.elim

/-! ### What more known slots don't harm -/
class MonoK (K : Env → World → Prop) : Prop where
  mono : ∀ e e' w, Sub e e' → K e w → K e' w
class MonoQ (Q : Exit → Env → World → Prop) : Prop where
  mono : ∀ x e e' w, Sub e e' → Q x e w → Q x e' w
instance {K Q} [MonoK K] [MonoQ Q] : MonoQ (thenE K Q) := ⟨fun x e e' w hs h => by
  cases x with
  | normal => exact MonoK.mono (K := K) _ _ _ hs h
  | _ => exact MonoQ.mono (Q := Q) _ _ _ _ hs h⟩
instance {id Q} [MonoQ Q] : MonoQ (blockE id Q) := ⟨fun x e e' w hs h => by
  cases x with
  | exit i =>
    revert h
    simp only [blockE]
    split
    · exact MonoQ.mono (Q := Q) _ _ _ _ hs
    · exact MonoQ.mono (Q := Q) _ _ _ _ hs
  | _ => exact MonoQ.mono (Q := Q) _ _ _ _ hs h⟩
instance {Q} [MonoQ Q] : MonoQ (noGotoE Q) := ⟨fun x e e' w hs h => by
  cases x with
  | goto l => exact h.elim
  | _ => exact MonoQ.mono (Q := Q) _ _ _ _ hs h⟩
instance {P N c Q} [MonoQ Q] : MonoK (vc P N c Q) := ⟨fun e e' w hs h => vc_mono c Q Q e e' w hs (MonoQ.mono (Q := Q)) h⟩
instance {Q} [MonoQ Q] : MonoK (Q .normal) := ⟨fun e e' w hs h => MonoQ.mono (Q := Q) _ _ _ _ hs h⟩
theorem retE_mono {P : Program} {e e' : Env} {w : World} (hs : Sub e e') : ∀ (rs : List ResultVar) (K : List Value → Prop), retE P rs e w K → retE P rs e' w K
  | [], _, h => h
  | .tmp t :: rs, K, h => by
    unfold retE at *
    split at h
    · rename_i v hv
      rw [hs t v hv]
      exact retE_mono hs rs _ h
    · exact h.elim
  | .cell t ty :: rs, K, h => by
    unfold retE at *
    split at h
    · rename_i v hv
      rw [hs t _ hv]
      exact ⟨let ⟨v, h1, h2⟩ := h.h; ⟨v, h1, retE_mono hs rs _ h2⟩⟩
    · exact h.elim
instance {P rs R} : MonoQ (bodyE P rs R) := ⟨fun x e e' w hs h => by
  cases x with
  | normal => exact retE_mono hs _ _ h
  | ret => exact retE_mono hs _ _ h
  | _ => exact h.elim⟩

def looks (e : Env) : List Nat → Option (List Value)
  | [] => some []
  | t :: ts => (match look e t with
    | some v => (match looks e ts with | some vs => some (v :: vs) | none => none)
    | none => none)
def zipE : List Nat → List Value → Env → Env
  | t :: ts, v :: vs, e => (t, v) :: zipE ts vs e
  | _, _, e => e
theorem zip_sub {e : Env} : ∀ (ts : List Nat) (vs : List Value) (r : Env), looks e ts = some vs → Sub r e → Sub (zipE ts vs r) e
  | [], vs, r, _, hr => by unfold zipE; exact hr
  | t :: ts, vs, r, h, hr => by
    unfold looks at h
    split at h
    · rename_i v hv
      split at h
      · rename_i us hus
        cases h
        intro s u hl
        unfold zipE at hl
        by_cases hts : t = s
        · subst hts
          rw [look_cons_eq] at hl
          cases hl
          exact hv
        · rw [look_cons_ne hts] at hl
          exact zip_sub ts us r hus hr s u hl
      · cases h
    · cases h

/-- where ways meet: the slots that are kept, and what is known of the others -/
structure cutK (keep : List Nat) (kv : List Value) (slots : List Nat) (R : List Value → World → Prop) (e : Env) (w : World) : Prop where
  h1 : looks e keep = some kv
  h2 : ∃ vs, looks e slots = some vs ∧ R vs w
theorem looks_mono {e e' : Env} (hs : Sub e e') : ∀ (ts : List Nat) (vs : List Value), looks e ts = some vs → looks e' ts = some vs
  | [], vs, h => h
  | t :: ts, vs, h => by
    unfold looks at *
    split at h
    · rename_i v hv
      split at h
      · rename_i us hus
        rw [hs t v hv, looks_mono hs ts us hus]
        exact h
      · cases h
    · cases h
instance {keep kv slots R} : MonoK (cutK keep kv slots R) := ⟨fun e e' w hs ⟨h1, vs, h2, h3⟩ => ⟨looks_mono hs _ _ h1, vs, looks_mono hs _ _ h2, h3⟩⟩
theorem cut_mk {keep : List Nat} {kv : List Value} {slots : List Nat} {R : List Value → World → Prop} {e : Env} {w : World} (vs : List Value) (h1 : looks e keep = some kv) (h2 : looks e slots = some vs) (h : R vs w) : cutK keep kv slots R e w := ⟨h1, vs, h2, h⟩
theorem cut_sub {keep : List Nat} {kv : List Value} {slots : List Nat} {R : List Value → World → Prop} {e : Env} {w : World} (h : cutK keep kv slots R e w) : ∃ vs, Sub (zipE slots vs (zipE keep kv [])) e ∧ R vs w :=
  let ⟨h1, vs, h2, h3⟩ := h
  ⟨vs, zip_sub _ _ _ h2 (zip_sub _ _ _ h1 fun _ _ h => by cases h), h3⟩
theorem cond_cut {P : Program} {N : Nat} {b : Bool} {x y : Code} {K : Env → World → Prop} {Q : Exit → Env → World → Prop} {e : Env} {w : World} [MonoK K] [MonoQ Q] (keep slots : List Nat) (R : List Value → World → Prop) {kv : List Value} (hk : looks e keep = some kv)
    (h1 : b = true → vc P N x (thenE (cutK keep kv slots R) Q) e w) (h2 : b = false → vc P N y (thenE (cutK keep kv slots R) Q) e w)
    (h3 : ∀ vs w', R vs w' → K (zipE slots vs (zipE keep kv [])) w') : (Bool.rec (motive := fun _ => Prop) (vc P N y (thenE K Q) e w) (vc P N x (thenE K Q) e w) b : Prop) := by
  have hm : ∀ x e e' w, Sub e e' → thenE (cutK keep kv slots R) Q x e w → thenE K Q x e' w := by
    intro x e e' w hs h
    cases x with
    | normal =>
      obtain ⟨vs, h4, h5⟩ := cut_sub h
      exact MonoK.mono (K := K) _ _ _ (h4.trans hs) (h3 vs w h5)
    | _ => exact MonoQ.mono (Q := Q) _ _ _ _ hs h
  exact CondP.mk' (fun hb => vc_mono x _ _ e e w (Sub.refl e) hm (h1 hb)) (fun hb => vc_mono y _ _ e e w (Sub.refl e) hm (h2 hb))

/-- a loop's end of a round -/
structure loopK (keep : List Nat) (kv : List Value) (slots : List Nat) (R : List Value → World → Nat → Prop) (m : Nat) (e : Env) (w : World) : Prop where
  h1 : looks e keep = some kv
  h2 : ∃ vs m', looks e slots = some vs ∧ R vs w m' ∧ m' < m
instance {keep kv slots R m} : MonoK (loopK keep kv slots R m) := ⟨fun e e' w hs ⟨h1, vs, m', h2, h3⟩ => ⟨looks_mono hs _ _ h1, vs, m', looks_mono hs _ _ h2, h3⟩⟩
theorem round_mk {keep : List Nat} {kv : List Value} {slots : List Nat} {R : List Value → World → Nat → Prop} {m : Nat} {e : Env} {w : World} (vs : List Value) (m' : Nat) (h1 : looks e keep = some kv) (h2 : looks e slots = some vs) (h : R vs w m') (hm : m' < m) : loopK keep kv slots R m e w := ⟨h1, vs, m', h2, h, hm⟩
theorem loop_rule {P : Program} {N : Nat} {c : Code} {Q : Exit → Env → World → Prop} {e : Env} {w : World} (keep slots : List Nat) (R : List Value → World → Nat → Prop) {kv : List Value} (hk : looks e keep = some kv)
    (vs : List Value) (m : Nat) (hv : looks e slots = some vs) (h0 : R vs w m)
    (hr : ∀ vs w m, R vs w m → vc P N c (thenE (loopK keep kv slots R m) Q) (zipE slots vs (zipE keep kv [])) w) : LoopP P N c Q e w := by
  refine ⟨fun a ha => wp_loop_ghost (fun m a' w' => ∃ vs, Knows N (zipE slots vs (zipE keep kv [])) a' ∧ R vs w' m) m ⟨vs, ha.sub (zip_sub _ _ _ hv (zip_sub _ _ _ hk fun _ _ h => by cases h)), h0⟩ ?_⟩
  rintro m a w ⟨vs, hka, hR⟩
  refine Code.wp_mono ?_ (vc_sound c _ _ a w hka (hr vs w m hR))
  rintro x a' w' ⟨e', hk', hq⟩
  cases x with
  | normal =>
    obtain ⟨h1, vs', m', h2, h3, h4⟩ := hq
    exact ⟨m', h4, vs', hk'.sub (zip_sub _ _ _ h2 (zip_sub _ _ _ h1 fun _ _ h => by cases h)), h3⟩
  | _ => exact ⟨e', hk', hq⟩
end Go.Proofs.Ytklbeipdigancaa
