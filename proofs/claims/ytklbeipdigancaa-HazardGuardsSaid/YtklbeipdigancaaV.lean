/- A reader of programs: 'vc' turns a body into its conditions, slot by slot, and 'vc_sound' shows that these suffice. Whatever the program. -/
import Derived.Test.YtklbeipdigancaaHeap
import Derived.Deep.Quiet
import Derived.StillTail
import Derived.Scope
namespace Go.Proofs.Ytklbeipdigancaa
open Go.RowKit

abbrev Env := List (Nat × Value)
def look : Env → Nat → Option Value
  | [], _ => none
  | (s, v) :: e, t => match Nat.beq s t with | true => some v | false => look e t
def ev (e : Env) (x : Operand) (K : Value → Prop) : Prop :=
  match x with
  | .tmp t => (match look e t with | some v => K v | none => False)
  | .const v => K v
  | .global g => K (.pointer (some ⟨g, 0, none⟩))
  | .func f => K (.func (.func f) #[] #[])
def evs (e : Env) : List Operand → (List Value → Prop) → Prop
  | [], K => K []
  | x :: l, K => ev e x fun v => evs e l fun vs => K (v :: vs)
def evp (e : Env) : List (Nat × Operand) → (List (Nat × Value) → Prop) → Prop
  | [], K => K []
  | (i, x) :: l, K => ev e x fun v => evp e l fun vs => K ((i, v) :: vs)
def evo (e : Env) (x : Option Operand) (K : Option Value → Prop) : Prop :=
  match x with
  | none => K none
  | some x => ev e x fun v => K (some v)

structure Knows (N : Nat) (e : Env) (a : Act) : Prop where
  defers : a.defers = []
  size : a.tmps.size = N
  look : ∀ t v, look e t = some v → a.tmps[t]? = some v

/-- an operation's meaning is carried out, and K of what it yields -/
structure RunP (P : Program) (s : Sem Value) (K : Value → World → Prop) (w : World) : Prop where
  h : ∃ v w', s.run P w = .ok v w' ∧ K v w'
structure RunU (P : Program) (s : Sem Unit) (K : World → Prop) (w : World) : Prop where
  h : ∃ w', s.run P w = .ok () w' ∧ K w'
structure CallP (P : Program) (f : FuncId) (args : Array Value) (K : Value → World → Prop) (w : World) : Prop where
  h : ((callFunc f args).run P w = .ok (.enter f args) w ∧ Calls P f args w fun e w' => ∃ v, e = .returned v ∧ K v w') ∨ ∃ v w', (callFunc f args).run P w = .ok (.value v) w' ∧ K v w'
theorem CondP.mk' {b : Bool} {X Y : Prop} (h1 : b = true → X) (h2 : b = false → Y) : (Bool.rec (motive := fun _ => Prop) Y X b : Prop) := by
  cases b with
  | true => exact h1 rfl
  | false => exact h2 rfl
theorem CondP.t {b : Bool} {X Y : Prop} (h : (Bool.rec (motive := fun _ => Prop) Y X b : Prop)) (hb : b = true) : X := by subst hb; exact h
theorem CondP.f {b : Bool} {X Y : Prop} (h : (Bool.rec (motive := fun _ => Prop) Y X b : Prop)) (hb : b = false) : Y := by subst hb; exact h
/-- a number, which may be told otherwise -/
structure ValP (k : IntKind) (n : Int) (K : Value → World → Prop) (w : World) : Prop where
  h : K (.int k n) w

def binSem (op : BinOp) (t : TypeId) (x y : Operand) (a b : Value) : Sem Value := do eqGuard op t x y a b; binOp op t a b
def cmpOf (op : BinOp) (a b : Int) : Option Bool :=
  match op with
  | .eql => some (a == b) | .neq => some (a != b) | .lss => some (decide (a < b)) | .leq => some (decide (a ≤ b)) | .gtr => some (decide (a > b)) | .geq => some (decide (a ≥ b))
  | _ => none
def arithOf (op : BinOp) (a b : Int) : Option Int :=
  match op with
  | .add => some (a + b) | .sub => some (a - b) | .mul => some (a * b)
  | _ => none
def scmpOf (op : BinOp) (a b : ByteArray) : Option Bool :=
  match op with
  | .eql => some (a.toList == b.toList) | .neq => some (!(a.toList == b.toList))
  | _ => none
def vcBin (P : Program) (op : BinOp) (t : TypeId) (x y : Operand) (a b : Value) (K : Value → World → Prop) (w : World) : Prop :=
  match a, b with
  | .int k m, .int k' n =>
    (match decEq k k' with
    | .isTrue _ =>
      (match cmpOf op m n with
      | some r => K (.bool r) w
      | none => (match arithOf op m n with
        | some r => ValP k (k.wrap r) K w
        | none => RunP P (binSem op t x y a b) K w))
    | .isFalse _ => RunP P (binSem op t x y a b) K w)
  | .string m, .string n =>
    (match scmpOf op m n with
    | some r => K (.bool r) w
    | none => RunP P (binSem op t x y a b) K w)
  | _, _ => RunP P (binSem op t x y a b) K w
def vcUn (P : Program) (op : UnOp) (a : Value) (K : Value → World → Prop) (w : World) : Prop :=
  match op, a with
  | .not, .bool b => K (.bool !b) w
  | _, _ => RunP P (Op.unary op a) K w
def vcNil (P : Program) (a : Value) (K : Value → World → Prop) (w : World) : Prop :=
  match a with
  | .pointer (some p) => K (.pointer (some p)) w
  | .func (.func f) x y => K (.func (.func f) x y) w
  | _ => False
def builtinSem (b : Builtin) (argTypes : Array TypeId) (type : TypeId) (args : Array Value) : Option (Sem Value) :=
  match b with
  | .append => some (Builtin.append_ argTypes type args)
  | .cap => some (Builtin.cap_ argTypes type args)
  | .copy => some (Builtin.copy_ argTypes type args)
  | .len => some (Builtin.len_ argTypes type args)
  | .max => some (Builtin.max_ argTypes type args)
  | .min => some (Builtin.min_ argTypes type args)
  | .clear => some (Builtin.clear_ argTypes type args)
  | .delete => some (Builtin.delete_ argTypes type args)
  | .unsafeSliceData => some (Builtin.unsafeSliceData_ argTypes type args)
  | .unsafeString => some (Builtin.unsafeString_ argTypes type args)
  | _ => none
def vcCall (P : Program) (f : Value) (l : List Value) (K : Value → World → Prop) (w : World) : Prop :=
  match f with
  | .func (.func f) x y => CallP P f (x ++ l.toArray ++ y) K w
  | _ => False

def nthV (l : List Value) (i : Nat) : Option Value :=
  match l, i with
  | [], _ => none
  | v :: _, 0 => some v
  | _ :: l, i + 1 => nthV l i
theorem nthV_eq (l : List Value) : ∀ i, nthV l i = l[i]? := by
  induction l with
  | nil => intro i; simp [nthV]
  | cons v l ih => intro i; cases i <;> simp [nthV, ih]
def vcOp (P : Program) (e : Env) (o : Oper) (K : Value → World → Prop) (w : World) : Prop :=
  match o.op with
  | .move x => ev e x fun v => K v w
  | .assign x => ev e x fun v => K v w
  | .pick c x y => ev e c fun vc => ev e x fun vx => ev e y fun vy => (match vc with | .bool b => (Bool.rec (motive := fun _ => Prop) (K vy w) (K vx w) b : Prop) | _ => False)
  | .alloc t => RunP P (Instr.alloc t true (.tuple #[])) K w
  | .box t x => ev e x fun v => RunP P (Instr.box t v) K w
  | .build t ps => evp e ps.toList fun l => RunP P (Instr.build t l.toArray) K w
  | .buildSlice t n ps => evp e ps.toList fun l => RunP P (Instr.buildSlice t n l.toArray) K w
  | .load t x => ev e x fun v => RunP P (Instr.loadAt t v) K w
  | .store t a x => ev e a fun va => ev e x fun vx => RunU P (Instr.storeAt t va vx) (K undef) w
  | .nilCheck x => ev e x fun v => vcNil P v K w
  | .binOp op t x y _ => ev e x fun a => ev e y fun b => vcBin P op t x y a b K w
  | .unOp op _ x => ev e x fun a => vcUn P op a K w
  | .convert s d x => ev e x fun v => RunP P (convert s d v) K w
  | .makeInterface t x => ev e x fun v => RunP P (Instr.makeInterface t v) K w
  | .makeFunc fn x y => evs e x.toList fun lx => evs e y.toList fun ly => K (.func fn lx.toArray ly.toArray) w
  | .makeSlice t x y => ev e x fun a => ev e y fun b => RunP P (Instr.makeSlice t a b) K w
  | .slice t x lo hi mx => ev e x fun v => evo e lo fun a => evo e hi fun b => evo e mx fun c => RunP P (Instr.sliceAt t v a b c) K w
  | .fieldAddr s x f => ev e x fun v => RunP P (Instr.fieldAt s v f) K w
  | .field s x f => ev e x fun v => RunP P (Instr.field s v f) K w
  | .indexAddr t x i => ev e x fun v => ev e i fun n => RunP P (Instr.indexAt t v n) K w
  | .index t x i => ev e x fun v => ev e i fun n => RunP P (Instr.index t v n) K w
  | .range t x => ev e x fun v => RunP P (Instr.range t v) K w
  | .next x b => ev e x fun v => RunP P (Instr.next v b o.type) K w
  | .extract x i => ev e x fun v => (match v with
      | .tuple vs => (match nthV vs.toList i with | some u => K u w | none => False)
      | _ => False)
  | .call c => (match c.callee with
      | .value f => ev e f fun fv => evs e c.args.toList fun l => vcCall P fv l K w
      | .builtin b => evs e c.args.toList fun l => (match builtinSem b c.argTypes o.type l.toArray with | some s => RunP P s K w | none => False)
      | .invoke _ _ => False)
  | .makeMap t r => evo e r fun v => RunP P (Instr.makeMap t v) K w
  | .lookup t m x ok => ev e m fun vm => ev e x fun vx => RunP P (Instr.lookup t vm vx ok) K w
  | .mapUpdate t m x y => ev e m fun vm => ev e x fun vx => ev e y fun vy => RunU P (Instr.mapUpdate t vm vx vy) (K undef) w
  | _ => False

def setK (N : Nat) (e : Env) (dst : Option Tmp) (v : Value) (K : Env → Prop) : Prop :=
  match dst with
  | none => K e
  | some d => (match Nat.blt d N with | true => K ((d, v) :: e) | false => False)

def dstOf (ops : List Oper) (j : Nat) : Option Tmp :=
  match ops, j with
  | [], _ => none
  | o :: _, 0 => o.dst
  | _ :: l, j + 1 => dstOf l j

/-- one operation with its guard, and what comes behind it -/
def vcStep (P : Program) (N : Nat) (ops : List Oper) (o : Oper) (e : Env) (w : World) (next : Env → World → Prop) : Prop :=
  match o.guard with
  | none => vcOp P e o (fun v w' => setK N e o.dst v fun e' => next e' w') w
  | some (j, want) =>
    (match dstOf ops j with
    | some d => (match look e d with
      | some (.bool b) =>
        (match want with
        | true => (Bool.rec (motive := fun _ => Prop) (setK N ((d, .bool false) :: e) o.dst undef fun e' => next e' w) (vcOp P ((d, .bool true) :: e) o (fun v w' => setK N ((d, .bool true) :: e) o.dst v fun e' => next e' w') w) b : Prop)
        | false => (Bool.rec (motive := fun _ => Prop) (vcOp P ((d, .bool false) :: e) o (fun v w' => setK N ((d, .bool false) :: e) o.dst v fun e' => next e' w') w) (setK N ((d, .bool true) :: e) o.dst undef fun e' => next e' w) b : Prop))
      | some (.tuple _) => setK N e o.dst undef fun e' => next e' w
      | _ => False)
    | none => False)
/-- by the recursor itself, so that the kernel meets one form alone -/
noncomputable def vcOps (P : Program) (N : Nat) (ops : List Oper) (Q : Env → World → Prop) (l : List Oper) : Env → World → Prop :=
  List.rec (motive := fun _ => Env → World → Prop) Q (fun o _ next e w => vcStep P N ops o e w next) l
theorem vcOps_cons {P : Program} {N : Nat} {ops : List Oper} {Q : Env → World → Prop} {o : Oper} {rest : List Oper} {e : Env} {w : World} : vcOps P N ops Q (o :: rest) e w = vcStep P N ops o e w (vcOps P N ops Q rest) := rfl

def sem (N : Nat) (Q : Exit → Env → World → Prop) (x : Exit) (a : Act) (w : World) : Prop := ∃ e, Knows N e a ∧ Q x e w

structure DrawP (P : Program) (N : Nat) (ops : Array Oper) (Q : Env → World → Prop) (e : Env) (w : World) : Prop where
  h : ∀ id a, Knows N e a → (Code.region id ops true).wp P (fun x a' w' => x = .normal ∧ ∃ e', Knows N e' a' ∧ Q e' w') a w
structure LoopP (P : Program) (N : Nat) (c : Code) (Q : Exit → Env → World → Prop) (e : Env) (w : World) : Prop where
  h : ∀ a, Knows N e a → (Code.loop c).wp P (sem N Q) a w
structure RangeP (P : Program) (N : Nat) (f : Value) (ps : Array Tmp) (asg c : Code) (Q : Exit → Env → World → Prop) (e : Env) (w : World) : Prop where
  h : ∀ g a, Knows N e a → a.eval g = f → (Code.rangeFunc g ps asg c).wp P (sem N Q) a w

def thenE (K : Env → World → Prop) (Q : Exit → Env → World → Prop) (x : Exit) (e : Env) (w : World) : Prop :=
  match x with
  | .normal => K e w
  | x => Q x e w
def blockE (id : Nat) (Q : Exit → Env → World → Prop) (x : Exit) (e : Env) (w : World) : Prop :=
  match x with
  | .exit i => (match Nat.beq i id with | true => Q .normal e w | false => Q (.exit i) e w)
  | x => Q x e w
def noGotoE (Q : Exit → Env → World → Prop) (x : Exit) (e : Env) (w : World) : Prop :=
  match x with
  | .goto _ => False
  | x => Q x e w

def vc (P : Program) (N : Nat) : Code → (Exit → Env → World → Prop) → Env → World → Prop
  | .skip, Q, e, w => Q .normal e w
  | .region _ ops false, Q, e, w => vcOps P N ops.toList (Q .normal) ops.toList e w
  | .region _ ops true, Q, e, w => DrawP P N ops (Q .normal) e w
  | .seq x y, Q, e, w => vc P N x (thenE (vc P N y Q) Q) e w
  | .cond c x y, Q, e, w => ev e c fun v => (match v with | .bool b => (Bool.rec (motive := fun _ => Prop) (vc P N y Q e w) (vc P N x Q e w) b : Prop) | _ => False)
  | .block id c, Q, e, w => vc P N c (blockE id Q) e w
  | .loop c, Q, e, w => LoopP P N c Q e w
  | .rangeFunc f ps asg c, Q, e, w => ev e f fun v => RangeP P N v ps asg c Q e w
  | .exit id, Q, e, w => Q (.exit id) e w
  | .scope c, Q, e, w => vc P N c (noGotoE Q) e w
  | .ret, Q, e, w => Q .ret e w
  | _, _, _, _ => False

/-! ### Why it suffices -/

theorem ev_sound {N : Nat} {e : Env} {a : Act} (hk : Knows N e a) {x : Operand} {K : Value → Prop} (h : ev e x K) : K (a.eval x) := by
  cases x with
  | tmp t =>
    unfold ev at h
    simp only at h
    split at h
    · rename_i v hv
      have := hk.look t v hv
      simpa [Act.eval, Array.getD_eq_getD_getElem?, this] using h
    · exact h.elim
  | const v => exact h
  | global g => exact h
  | func f => exact h
theorem evs_sound {N : Nat} {e : Env} {a : Act} (hk : Knows N e a) : ∀ {l : List Operand} {K : List Value → Prop}, evs e l K → K (l.map a.eval)
  | [], _, h => h
  | x :: l, K, h => by
    have h1 := ev_sound hk (K := fun v => evs e l fun vs => K (v :: vs)) h
    exact evs_sound hk (K := fun vs => K (a.eval x :: vs)) h1
theorem evp_sound {N : Nat} {e : Env} {a : Act} (hk : Knows N e a) : ∀ {l : List (Nat × Operand)} {K : List (Nat × Value) → Prop}, evp e l K → K (l.map fun (i, x) => (i, a.eval x))
  | [], _, h => h
  | (i, x) :: l, K, h => by
    have h1 := ev_sound hk (K := fun v => evp e l fun vs => K ((i, v) :: vs)) h
    exact evp_sound hk (K := fun vs => K ((i, a.eval x) :: vs)) h1
theorem evo_sound {N : Nat} {e : Env} {a : Act} (hk : Knows N e a) {x : Option Operand} {K : Option Value → Prop} (h : evo e x K) : K (x.map a.eval) := by
  cases x with
  | none => exact h
  | some x => exact ev_sound hk (K := fun v => K (some v)) h

theorem run_bind_ok {α β : Type} {P : Program} {s : Sem α} {f : α → Sem β} {w w' : World} {v : α} (h : s.run P w = .ok v w') : (s >>= f).run P w = (f v).run P w' := by
  simp [h]
theorem run_v {P : Program} {s : Sem Value} {w w' : World} {v : Value} (h : s.run P w = .ok v w') : ((do pure (Next.value (← s))) : Sem Next).run P w = .ok (.value v) w' := by
  simp [h]
theorem run_u {P : Program} {s : Sem Unit} {w w' : World} (h : s.run P w = .ok () w') : ((do s; pure Next.skip) : Sem Next).run P w = .ok .skip w' := by
  simp [h]

/-- what an operation comes to: a value, or a call -/
def Comes1 (P : Program) (s : Sem Next) (K : Value → World → Prop) (w : World) : Prop :=
  (∃ v w', s.run P w = .ok (.value v) w' ∧ K v w') ∨ (∃ w', s.run P w = .ok .skip w' ∧ K undef w') ∨
  ∃ f args, s.run P w = .ok (.enter f args) w ∧ Calls P f args w fun e w' => ∃ v, e = .returned v ∧ K v w'

theorem wp_of_comes {P : Program} {o : Oper} {a : Act} {K : Value → World → Prop} {w : World} {Q : Exit → Act → World → Prop} (h : Comes1 P (execOp a.eval o) K w) :
    o.wp P a w (fun a' w' => ∃ v, a' = a.put o.dst v ∧ K v w') Q := by
  unfold Oper.wp
  rcases h with ⟨v, w', h1, h2⟩ | ⟨w', h1, h2⟩ | ⟨f, args, h1, h2⟩
  · rw [h1]; exact ⟨v, rfl, h2⟩
  · rw [h1]; exact ⟨undef, rfl, h2⟩
  · rw [h1]
    refine h2.mono fun e w' he => ?_
    obtain ⟨v, rfl, hK⟩ := he
    exact ⟨v, rfl, hK⟩

theorem RunP.comes {P : Program} {s : Sem Value} {K : Value → World → Prop} {w : World} (h : RunP P s K w) : Comes1 P (do pure (Next.value (← s))) K w := by
  obtain ⟨v, w', h1, h2⟩ := h.h
  exact .inl ⟨v, w', run_v h1, h2⟩
theorem RunU.comes {P : Program} {s : Sem Unit} {K : World → Prop} {K' : Value → World → Prop} {w : World} (h : RunU P s K w) (hK : ∀ w, K w → K' undef w) : Comes1 P (do s; pure Next.skip) K' w := by
  obtain ⟨w', h1, h2⟩ := h.h
  exact .inr (.inl ⟨w', run_u h1, hK _ h2⟩)

theorem vcBin_comes {P : Program} {op : BinOp} {t : TypeId} {x y : Operand} {a b : Value} {K : Value → World → Prop} {w : World} (h : vcBin P op t x y a b K w) :
    Comes1 P (do pure (Next.value (← (do eqGuard op t x y a b; binOp op t a b)))) K w := by
  unfold vcBin at h
  split at h
  · rename_i k m k' n
    split at h
    · rename_i hk _
      subst hk
      split at h
      · rename_i r hr
        refine .inl ⟨.bool r, w, run_v ?_, h⟩
        unfold cmpOf at hr
        split at hr <;> first | (cases hr; simp [eqGuard, binOp, Op.intCmp]) | (cases hr)
      · split at h
        · rename_i r hr
          refine .inl ⟨.int k (k.wrap r), w, run_v ?_, h.h⟩
          unfold arithOf at hr
          split at hr <;> first | (cases hr; simp [eqGuard, binOp, Op.intArith]) | (cases hr)
        · exact RunP.comes h
    · exact RunP.comes h
  · rename_i m n
    split at h
    · rename_i r hr
      refine .inl ⟨.bool r, w, run_v ?_, h⟩
      unfold scmpOf at hr
      split at hr <;> first | (cases hr; simp [eqGuard, binOp, Op.stringOp]) | (cases hr)
    · exact RunP.comes h
  · exact RunP.comes h

theorem vcUn_comes {P : Program} {op : UnOp} {a : Value} {K : Value → World → Prop} {w : World} (h : vcUn P op a K w) : Comes1 P (do pure (Next.value (← Op.unary op a))) K w := by
  unfold vcUn at h
  split at h
  · rename_i b
    exact .inl ⟨.bool !b, w, run_v (by simp [Op.unary]), h⟩
  · exact h.comes

theorem vcOp_sound {P : Program} {N : Nat} {e : Env} {a : Act} {o : Oper} {K : Value → World → Prop} {w : World} {Q : Exit → Act → World → Prop} (hk : Knows N e a) (h : vcOp P e o K w) :
    o.wp P a w (fun a' w' => ∃ v, a' = a.put o.dst v ∧ K v w') Q := by
  refine wp_of_comes ?_
  unfold vcOp at h
  unfold execOp
  split at h <;> rename_i ho <;> simp only [ho]
  case h_1 x => exact .inl ⟨_, w, rfl, ev_sound hk (K := fun v => K v w) h⟩
  case h_2 x => exact .inl ⟨_, w, rfl, ev_sound hk (K := fun v => K v w) h⟩
  case h_3 c x y =>
    have h1 := ev_sound hk (K := fun vc => ev e x fun vx => ev e y fun vy => (match vc with | .bool b => (Bool.rec (motive := fun _ => Prop) (K vy w) (K vx w) b : Prop) | _ => False)) h
    have h2 := ev_sound hk (K := fun vx => ev e y fun vy => (match a.eval c with | .bool b => (Bool.rec (motive := fun _ => Prop) (K vy w) (K vx w) b : Prop) | _ => False)) h1
    have h3 := ev_sound hk (K := fun vy => (match a.eval c with | .bool b => (Bool.rec (motive := fun _ => Prop) (K vy w) (K (a.eval x) w) b : Prop) | _ => False)) h2
    split at h3
    · rename_i b hb
      refine .inl ⟨if b then a.eval x else a.eval y, w, by simp [hb, asBool], ?_⟩
      cases b with
      | true => exact h3
      | false => exact h3
    · exact h3.elim
  case h_4 t => exact h.comes
  case h_5 t x => exact (ev_sound hk (K := fun v => RunP P (Instr.box t v) K w) h).comes
  case h_6 t ps =>
    have h1 := evp_sound hk (K := fun l => RunP P (Instr.build t l.toArray) K w) h
    have e1 : (ps.map fun x => match x with | (i, x) => (i, a.eval x)) = (ps.toList.map fun (i, x) => (i, a.eval x)).toArray := by
      apply Array.ext'; simp
    rw [e1]
    exact h1.comes
  case h_7 t n ps =>
    have h1 := evp_sound hk (K := fun l => RunP P (Instr.buildSlice t n l.toArray) K w) h
    have e1 : (ps.map fun x => match x with | (i, x) => (i, a.eval x)) = (ps.toList.map fun (i, x) => (i, a.eval x)).toArray := by
      apply Array.ext'; simp
    rw [e1]
    exact h1.comes
  case h_8 t x => exact (ev_sound hk (K := fun v => RunP P (Instr.loadAt t v) K w) h).comes
  case h_9 t x y =>
    have h1 := ev_sound hk (K := fun va => ev e y fun vx => RunU P (Instr.storeAt t va vx) (K undef) w) h
    exact (ev_sound hk (K := fun vx => RunU P (Instr.storeAt t (a.eval x) vx) (K undef) w) h1).comes fun _ h => h
  case h_10 x =>
    have h1 := ev_sound hk (K := fun v => vcNil P v K w) h
    generalize a.eval x = v at h1
    unfold vcNil at h1
    split at h1
    · exact .inl ⟨_, w, rfl, h1⟩
    · exact .inl ⟨_, w, rfl, h1⟩
    · exact h1.elim
  case h_11 op t x y _ =>
    have h1 := ev_sound hk (K := fun va => ev e y fun vb => vcBin P op t x y va vb K w) h
    exact vcBin_comes (ev_sound hk (K := fun vb => vcBin P op t x y (a.eval x) vb K w) h1)
  case h_12 op _ x => exact vcUn_comes (ev_sound hk (K := fun va => vcUn P op va K w) h)
  case h_13 s d x => exact (ev_sound hk (K := fun v => RunP P (convert s d v) K w) h).comes
  case h_14 t x => exact (ev_sound hk (K := fun v => RunP P (Instr.makeInterface t v) K w) h).comes
  case h_15 fn x y =>
    have h1 := evs_sound hk (K := fun lx => evs e y.toList fun ly => K (.func fn lx.toArray ly.toArray) w) h
    have h2 := evs_sound hk (K := fun ly => K (.func fn (x.toList.map a.eval).toArray ly.toArray) w) h1
    have e1 : ∀ z : Array Operand, z.map a.eval = (z.toList.map a.eval).toArray := fun z => by apply Array.ext'; simp
    rw [e1, e1]
    exact .inl ⟨_, w, run_v rfl, h2⟩
  case h_16 t x y =>
    have h1 := ev_sound hk (K := fun va => ev e y fun vb => RunP P (Instr.makeSlice t va vb) K w) h
    exact (ev_sound hk (K := fun vb => RunP P (Instr.makeSlice t (a.eval x) vb) K w) h1).comes
  case h_17 t x lo hi mx =>
    have h1 := ev_sound hk (K := fun v => evo e lo fun a => evo e hi fun b => evo e mx fun c => RunP P (Instr.sliceAt t v a b c) K w) h
    have h2 := evo_sound hk (K := fun vl => evo e hi fun b => evo e mx fun c => RunP P (Instr.sliceAt t (a.eval x) vl b c) K w) h1
    have h3 := evo_sound hk (K := fun vh => evo e mx fun c => RunP P (Instr.sliceAt t (a.eval x) (lo.map a.eval) vh c) K w) h2
    exact (evo_sound hk (K := fun vm => RunP P (Instr.sliceAt t (a.eval x) (lo.map a.eval) (hi.map a.eval) vm) K w) h3).comes
  case h_18 s x f => exact (ev_sound hk (K := fun v => RunP P (Instr.fieldAt s v f) K w) h).comes
  case h_19 s x f => exact (ev_sound hk (K := fun v => RunP P (Instr.field s v f) K w) h).comes
  case h_20 t x i =>
    have h1 := ev_sound hk (K := fun v => ev e i fun n => RunP P (Instr.indexAt t v n) K w) h
    exact (ev_sound hk (K := fun n => RunP P (Instr.indexAt t (a.eval x) n) K w) h1).comes
  case h_21 t x i =>
    have h1 := ev_sound hk (K := fun v => ev e i fun n => RunP P (Instr.index t v n) K w) h
    exact (ev_sound hk (K := fun n => RunP P (Instr.index t (a.eval x) n) K w) h1).comes
  case h_22 t x => exact (ev_sound hk (K := fun v => RunP P (Instr.range t v) K w) h).comes
  case h_23 x b => exact (ev_sound hk (K := fun v => RunP P (Instr.next v b o.type) K w) h).comes
  case h_24 x i =>
    have h1 := ev_sound hk (K := fun v => (match v with
      | .tuple vs => (match nthV vs.toList i with | some u => K u w | none => False)
      | _ => False)) h
    generalize a.eval x = v at h1
    split at h1
    · split at h1
      · rename_i u hu
        rw [nthV_eq] at hu
        have hu' : _ := hu
        exact .inl ⟨u, w, run_v (by simp only [Array.getElem?_toList] at hu'; simp [Instr.extract, hu']), h1⟩
      · exact h1.elim
    · exact h1.elim
  case h_25 c =>
    have e1 : ∀ z : Array Operand, z.map a.eval = (z.toList.map a.eval).toArray := fun z => by apply Array.ext'; simp
    split at h
    · rename_i f hf
      have h1 := ev_sound hk (K := fun fv => evs e c.args.toList fun l => vcCall P fv l K w) h
      have h2 := evs_sound hk (K := fun l => vcCall P (a.eval f) l K w) h1
      unfold vcCall at h2
      split at h2
      · rename_i g x y hg
        have e2 : ((do let d ← resolve a.eval c o.type; invoke d.target d.args) : Sem Next) = callFunc g (x ++ (c.args.toList.map a.eval).toArray ++ y) := by
          simp only [resolve, hf, hg, Deferred.ofValue]
          show invoke (.fn (.func g) y) (x ++ c.args.map a.eval) = _
          rw [e1]
          rfl
        rw [e2]
        rcases h2.h with ⟨h3, h4⟩ | ⟨v, w', h3, h4⟩
        · exact .inr (.inr ⟨_, _, h3, h4⟩)
        · exact .inl ⟨v, w', h3, h4⟩
      · exact h2.elim
    · rename_i b hb
      have h1 := evs_sound hk (K := fun l => (match builtinSem b c.argTypes o.type l.toArray with | some s => RunP P s K w | none => False)) h
      rw [← e1] at h1
      split at h1
      · rename_i s hs
        have e2 : ((do let d ← resolve a.eval c o.type; invoke d.target d.args) : Sem Next) = (do pure (Next.value (← s))) := by
          simp only [resolve, hb]
          show builtin b c.argTypes o.type _ (c.args.map a.eval) = _
          unfold builtinSem at hs
          split at hs <;> first | (cases hs; rfl) | (cases hs)
        rw [e2]
        exact h1.comes
      · exact h1.elim
    · exact h.elim
  case h_26 t r => exact (evo_sound hk (K := fun v => RunP P (Instr.makeMap t v) K w) h).comes
  case h_27 t m x ok =>
    have h1 := ev_sound hk (K := fun vm => ev e x fun vx => RunP P (Instr.lookup t vm vx ok) K w) h
    exact (ev_sound hk (K := fun vx => RunP P (Instr.lookup t (a.eval m) vx ok) K w) h1).comes
  case h_28 t m x y =>
    have h1 := ev_sound hk (K := fun vm => ev e x fun vx => ev e y fun vy => RunU P (Instr.mapUpdate t vm vx vy) (K undef) w) h
    have h2 := ev_sound hk (K := fun vx => ev e y fun vy => RunU P (Instr.mapUpdate t (a.eval m) vx vy) (K undef) w) h1
    exact (ev_sound hk (K := fun vy => RunU P (Instr.mapUpdate t (a.eval m) (a.eval x) vy) (K undef) w) h2).comes fun _ h => h
  case h_29 => exact h.elim

theorem look_cons_eq (d : Nat) (v : Value) (e : Env) : look ((d, v) :: e) d = some v := by simp [look]
theorem look_cons_ne {d t : Nat} (h : d ≠ t) (v : Value) (e : Env) : look ((d, v) :: e) t = look e t := by
  have : Nat.beq d t = false := by
    cases hb : Nat.beq d t with
    | true => exact absurd (Nat.eq_of_beq_eq_true hb) h
    | false => rfl
  simp [look, this]
theorem setK_sound {N : Nat} {e : Env} {a : Act} {dst : Option Tmp} {v : Value} {K : Env → Prop} (hk : Knows N e a) (h : setK N e dst v K) : ∃ e', Knows N e' (a.put dst v) ∧ K e' := by
  unfold setK at h
  split at h
  · exact ⟨e, hk, h⟩
  · rename_i d
    split at h
    · rename_i hb
      have hlt : d < N := by simpa [Nat.blt_eq] using hb
      refine ⟨_, ⟨hk.defers, by simp [Act.put, hk.size], ?_⟩, h⟩
      intro t u hl
      by_cases htd : d = t
      · subst htd
        rw [look_cons_eq] at hl
        cases hl
        simp [Act.put, hk.size, hlt]
      · rw [look_cons_ne htd] at hl
        have := hk.look t u hl
        simp [Act.put, Array.getElem?_setIfInBounds_ne htd, this]
    · exact h.elim

theorem dstOf_eq (l : List Oper) : ∀ j, dstOf l j = (l[j]?).bind (·.dst) := by
  induction l with
  | nil => intro j; simp [dstOf]
  | cons o l ih =>
    intro j
    cases j with
    | zero => simp [dstOf]
    | succ j => simp [dstOf, ih]

theorem vcOps_sound {P : Program} {N : Nat} {ops : List Oper} {Q : Env → World → Prop} {Q' : Exit → Act → World → Prop} : ∀ (l : List Oper) (e : Env) (a : Act) (w : World), Knows N e a →
    (∀ e a w, Knows N e a → Q e w → Q' .normal a w) → vcOps P N ops Q l e w → wpList P ops.toArray Q' l a w
  | [], e, a, w, hk, hQ, h => wpList_nil (hQ e a w hk h)
  | o :: rest, e, a, w, hk, hQ, h => by
    have step : ∀ (_ : vcOp P e o (fun v w' => setK N e o.dst v fun e' => vcOps P N ops Q rest e' w') w), o.wp P a w (wpList P ops.toArray Q' rest) Q' := fun h1 => by
      refine Oper.wp_mono ?_ (vcOp_sound (Q := Q') hk h1)
      rintro a' w' ⟨v, rfl, h2⟩
      obtain ⟨e', hk', h3⟩ := setK_sound hk h2
      exact vcOps_sound rest e' _ w' hk' hQ h3
    rw [vcOps_cons] at h
    unfold vcStep at h
    unfold wpList
    split at h
    · rename_i hg
      rw [if_pos (by simp [Region.wanted, hg])]
      exact .inl (step h)
    · rename_i j want hg
      split at h
      · rename_i d hd
        split at h
        · rename_i b hb
          have hy : yielded ops.toArray a.tmps j = some b := by
            have h1 := hk.look d _ hb
            rw [dstOf_eq] at hd
            unfold yielded
            simp [hd, h1]
          have hw : Region.wanted o (yielded ops.toArray a.tmps) = (b == want) := by
            simp only [Region.wanted, hg, hy]
            cases b <;> cases want <;> rfl
          rw [hw]
          have hkb : ∀ b', b = b' → Knows N ((d, .bool b') :: e) a := fun b' hbb => by
            subst hbb
            refine ⟨hk.defers, hk.size, fun t v hl => ?_⟩
            by_cases hdt : d = t
            · subst hdt; rw [look_cons_eq] at hl; cases hl; exact hk.look _ _ hb
            · rw [look_cons_ne hdt] at hl; exact hk.look _ _ hl
          have yes : ∀ b', b = b' → vcOp P ((d, .bool b') :: e) o (fun v w' => setK N ((d, .bool b') :: e) o.dst v fun e' => vcOps P N ops Q rest e' w') w → o.wp P a w (wpList P ops.toArray Q' rest) Q' := fun b' hbb h1 => by
            refine Oper.wp_mono ?_ (vcOp_sound (Q := Q') (hkb b' hbb) h1)
            rintro a' w' ⟨v, rfl, h2⟩
            obtain ⟨e', hk', h3⟩ := setK_sound (hkb b' hbb) h2
            exact vcOps_sound rest e' _ w' hk' hQ h3
          have no : ∀ b', b = b' → (setK N ((d, .bool b') :: e) o.dst undef fun e' => vcOps P N ops Q rest e' w) → wpList P ops.toArray Q' rest (a.put o.dst undef) w := fun b' hbb h1 => by
            obtain ⟨e', hk', h3⟩ := setK_sound (hkb b' hbb) h1
            exact vcOps_sound rest e' _ w hk' hQ h3
          cases want with
          | true =>
            cases b with
            | true => rw [if_pos (by simp)]; exact .inl (yes true rfl h)
            | false => rw [if_neg (by simp)]; exact no false rfl h
          | false =>
            cases b with
            | true => rw [if_neg (by simp)]; exact no true rfl h
            | false => rw [if_pos (by simp)]; exact .inl (yes false rfl h)
        · rename_i u hb
          have hy : yielded ops.toArray a.tmps j = none := by
            have h1 := hk.look d _ hb
            rw [dstOf_eq] at hd
            unfold yielded
            simp [hd, h1]
          have hw : Region.wanted o (yielded ops.toArray a.tmps) = false := by
            simp only [Region.wanted, hg, hy]
            rfl
          rw [hw, if_neg (by simp)]
          obtain ⟨e', hk', h3⟩ := setK_sound hk h
          exact vcOps_sound rest e' _ w hk' hQ h3
        · exact h.elim
      · exact h.elim

theorem vc_sound {P : Program} {N : Nat} : ∀ (c : Code) (Q : Exit → Env → World → Prop) (e : Env) (a : Act) (w : World), Knows N e a → vc P N c Q e w → c.wp P (sem N Q) a w := by
  intro c
  induction c with
  | skip => intro Q e a w hk h; exact wp_skip ⟨e, hk, h⟩
  | region id ops d =>
    intro Q e a w hk h
    cases d with
    | false =>
      have := vcOps_sound (Q' := sem N Q) ops.toList e a w hk (fun e a w hk hq => ⟨e, hk, hq⟩) h
      exact wp_region_list (by simpa using this)
    | true =>
      refine Code.wp_mono ?_ (h.h id a hk)
      rintro x a' w' ⟨rfl, e', hk', hq⟩
      exact ⟨e', hk', hq⟩
  | seq x y ihx ihy =>
    intro Q e a w hk h
    refine wp_seq (Code.wp_mono ?_ (ihx _ e a w hk h))
    rintro ex a' w' ⟨e', hk', hq⟩
    cases ex with
    | normal => exact ihy _ e' a' w' hk' hq
    | _ => exact ⟨e', hk', hq⟩
  | cond c x y ihx ihy =>
    intro Q e a w hk h
    have h1 := ev_sound hk (K := fun v => (match v with | .bool b => (Bool.rec (motive := fun _ => Prop) (vc P N y Q e w) (vc P N x Q e w) b : Prop) | _ => False)) h
    split at h1
    · rename_i b hb
      exact wp_cond_split hb (fun ht => ihx _ e a w hk (CondP.t h1 ht)) (fun hf => ihy _ e a w hk (CondP.f h1 hf))
    · exact h1.elim
  | block id c ih =>
    intro Q e a w hk h
    refine wp_block (Code.wp_mono ?_ (ih _ e a w hk h))
    rintro ex a' w' ⟨e', hk', hq⟩
    cases ex with
    | exit i =>
      simp only [blockE] at hq
      show if i = id then sem N Q Exit.normal a' w' else sem N Q (Exit.exit i) a' w'
      split at hq
      · rename_i hb
        rw [if_pos (Nat.eq_of_beq_eq_true hb)]
        exact ⟨e', hk', hq⟩
      · rename_i hb
        rw [if_neg (Nat.ne_of_beq_eq_false hb)]
        exact ⟨e', hk', hq⟩
    | _ => exact ⟨e', hk', hq⟩
  | loop c _ => intro Q e a w hk h; exact h.h a hk
  | rangeFunc f ps asg c _ _ =>
    intro Q e a w hk h
    exact (ev_sound hk (K := fun v => RangeP P N v ps asg c Q e w) h).h f a hk rfl
  | exit id => intro Q e a w hk h; exact wp_exit ⟨e, hk, h⟩
  | scope c ih =>
    intro Q e a w hk h
    refine wp_scope_straight (Code.wp_mono ?_ (ih _ e a w hk h))
    rintro ex a' w' ⟨e', hk', hq⟩
    cases ex with
    | goto l => exact hq.elim
    | _ => exact ⟨e', hk', hq⟩
  | label l => intro Q e a w hk h; exact h.elim
  | goto l => intro Q e a w hk h; exact h.elim
  | ret => intro Q e a w hk h; exact wp_ret ⟨e, hk, h⟩
  | refuse y => intro Q e a w hk h; exact h.elim

/-! ### A function's contract -/

def Fn (P : Program) (f : FuncId) (args : Array Value) (w : World) (R : Value → World → Prop) : Prop := Calls P f args w fun e w' => ∃ v, e = .returned v ∧ R v w'
structure RetLd (P : Program) (t : TypeId) (a : Addr) (w : World) (K : Value → Prop) : Prop where
  h : ∃ v, (loadVar t a).run P w = .ok v w ∧ K v
def retE (P : Program) : List ResultVar → Env → World → (List Value → Prop) → Prop
  | [], _, _, K => K []
  | .tmp t :: rs, e, w, K => (match look e t with | some v => retE P rs e w fun l => K (v :: l) | none => False)
  | .cell t ty :: rs, e, w, K => (match look e t with | some (.pointer (some a)) => RetLd P ty a w fun v => retE P rs e w fun l => K (v :: l) | _ => False)
def retV : List Value → Value
  | [v] => v
  | vs => .tuple vs.toArray
@[simp] theorem retV_one (v : Value) : retV [v] = v := rfl
@[simp] theorem retV_two (a b : Value) : retV [a, b] = .tuple #[a, b] := rfl
@[simp] theorem retV_three (a b c : Value) : retV [a, b, c] = .tuple #[a, b, c] := rfl
def bodyE (P : Program) (rs : List ResultVar) (R : Value → World → Prop) (x : Exit) (e : Env) (w : World) : Prop :=
  match x with
  | .normal => retE P rs e w fun l => R (retV l) w
  | .ret => retE P rs e w fun l => R (retV l) w
  | _ => False
def envFrom : Nat → List Value → Env
  | _, [] => []
  | n, v :: l => (n, v) :: envFrom (n + 1) l

theorem look_envFrom (l : List Value) : ∀ n t v, look (envFrom n l) t = some v → n ≤ t ∧ l[t - n]? = some v := by
  induction l with
  | nil => intro n t v h; cases h
  | cons u l ih =>
    intro n t v h
    unfold envFrom at h
    by_cases hn : n = t
    · subst hn
      rw [look_cons_eq] at h
      cases h
      exact ⟨Nat.le_refl _, by simp⟩
    · rw [look_cons_ne hn] at h
      obtain ⟨h1, h2⟩ := ih (n + 1) t v h
      refine ⟨by omega, ?_⟩
      rw [show t - n = (t - (n + 1)) + 1 by omega]
      simpa using h2

def resSem (tmps : Array Value) : ResultVar → Sem Value
  | .tmp t => pure (tmps.getD t undef)
  | .cell a t => do loadVar t (← asAddr (tmps.getD a undef))
theorem retE_sound {P : Program} {N : Nat} {e : Env} {a : Act} {w : World} (hk : Knows N e a) : ∀ (rs : List ResultVar) (K : List Value → Prop), retE P rs e w K →
    ∃ l, (rs.mapM (resSem a.tmps)).run P w = .ok l w ∧ K l
  | [], K, h => ⟨[], by simp, h⟩
  | .tmp t :: rs, K, h => by
    unfold retE at h
    split at h
    · rename_i v hv
      obtain ⟨l, h1, h2⟩ := retE_sound hk rs _ h
      have h3 : a.tmps.getD t undef = v := by simp [Array.getD_eq_getD_getElem?, hk.look t v hv]
      exact ⟨v :: l, by simp [List.mapM_cons, resSem, h1, h3], h2⟩
    · exact h.elim
  | .cell t ty :: rs, K, h => by
    unfold retE at h
    split at h
    · rename_i p hv
      obtain ⟨v, h0, h1⟩ := h.h
      obtain ⟨l, h1, h2⟩ := retE_sound hk rs _ h1
      have h3 : a.tmps.getD t undef = .pointer (some p) := by simp [Array.getD_eq_getD_getElem?, hk.look t _ hv]
      exact ⟨v :: l, by simp [List.mapM_cons, resSem, h1, h3, asAddr, h0], h2⟩
    · exact h.elim

theorem results_sound {P : Program} {N : Nat} {e : Env} {a : Act} {w : World} {fn : Func} {R : Value → Prop} (hk : Knows N e a) (h : retE P fn.results.toList e w fun l => R (retV l)) :
    ∃ v, (results fn a.tmps).run P w = .ok v w ∧ R v := by
  obtain ⟨l, h1, h2⟩ := retE_sound hk _ _ h
  refine ⟨retV l, ?_, h2⟩
  have e0 : results fn a.tmps = (do let vs ← fn.results.mapM (resSem a.tmps); pure (if h : vs.size = 1 then vs[0] else Value.tuple vs)) := by
    unfold results
    congr 1
  rw [e0, ← Array.toArray_toList (xs := fn.results)]
  simp only [List.mapM_toArray]
  have h3 : ∀ (s : Sem (List Value)) , s.run P w = .ok l w → (do let vs ← (List.toArray <$> s); pure (if h : vs.size = 1 then vs[0] else Value.tuple vs) : Sem Value).run P w = .ok (retV l) w := by
    intro s hs
    simp [hs]
    match l with
    | [] => simp [retV]
    | [v] => simp [retV]
    | v :: u :: l => simp [retV]
  exact h3 _ h1

theorem fn_enter {P : Program} {f : FuncId} {fn : Func} {c : Code} {args : Array Value} {w : World} {R : Value → World → Prop} (hf : P.funcs[f]? = some fn) (hb : fn.body = some c)
    (hn : Nat.ble args.toList.length fn.ntmps = true) (h : vc P fn.ntmps c (bodyE P fn.results.toList R) (envFrom 0 args.toList) w) : Fn P f args w R := by
  have hn' : args.size ≤ fn.ntmps := by simpa using Nat.le_of_ble_eq_true hn
  refine calls_of_wp hf hb (Code.wp_mono ?_ (vc_sound c _ _ { tmps := args ++ Array.replicate (fn.ntmps - args.size) undef, defers := [] } w ⟨rfl, by simp; omega, ?_⟩ h))
  · rintro x a' w' ⟨e', hk', hq⟩
    cases x with
    | normal =>
      obtain ⟨v, h1, h2⟩ := results_sound (R := fun v => R v w') hk' hq
      exact ⟨hk'.defers, v, h1, v, rfl, h2⟩
    | ret =>
      obtain ⟨v, h1, h2⟩ := results_sound (R := fun v => R v w') hk' hq
      exact ⟨hk'.defers, v, h1, v, rfl, h2⟩
    | _ => exact hq.elim
  · intro t v hl
    obtain ⟨_, h2⟩ := look_envFrom _ _ _ _ hl
    have h3 : args[t]? = some v := by simpa using h2
    have hlt : t < args.size := by
      rcases Nat.lt_or_ge t args.size with h4 | h4
      · exact h4
      · rw [Array.getElem?_eq_none h4] at h3; cases h3
    show (args ++ Array.replicate (fn.ntmps - args.size) undef)[t]? = some v
    rw [Array.getElem?_append_left hlt]
    exact h3
end Go.Proofs.Ytklbeipdigancaa
