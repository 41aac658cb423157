/- Arrays behind pointers; results that lie in memory. -/
import Derived.Test.YtklbeipdigancaaV7
import Derived.LoopN
namespace Go.Proofs.Ytklbeipdigancaa
open Go.RowKit

class ArrT (P : Program) (t : Nat) (len : outParam Nat) (e n : outParam Nat) : Prop where
  u : P.underlying t = some (.array len e)
  size : ∀ w, (sizeOf e).run P w = .ok n w
section
variable {P : Program} {K : Value → World → Prop} {w : World}
theorem ixA {t len e n : Nat} [ArrT P t len e n] {b o : Nat} {k' : IntKind} {i : Int} (j : Nat) (hi : i = (j : Int)) (hj : j < len) (k : K (.pointer (some ⟨b, o + j * n, none⟩)) w) :
    RunP P (Instr.indexAt t (.pointer (some ⟨b, o, none⟩)) (.int k' i)) K w := by
  subst hi
  have h1 : (0 : Int) ≤ (j : Int) ∧ (j : Int) < (len : Int) := by omega
  exact rn _ _ (by simp [Instr.indexAt, asIntOf, Instr.sureAddr, run_underlying (ArrT.u (P := P) (t := t) (len := len) (e := e) (n := n)), hj, ArrT.size (P := P) (t := t) (len := len) (e := e) (n := n), Addr.add_lit]) k
theorem q_ixA {C : World → Prop} {K : Value → Prop} {t len e n : Nat} [ArrT P t len e n] {b o : Nat} {k' : IntKind} {i : Int} (j : Nat) (hi : i = (j : Int)) (hj : j < len) (k : K (.pointer (some ⟨b, o + j * n, none⟩))) :
    RunQ P C (Instr.indexAt t (.pointer (some ⟨b, o, none⟩)) (.int k' i)) K := rq _ (fun _ _ => ixA j hi hj ⟨rfl, rfl⟩) k
/-- a result that lies in memory -/
theorem rlw {t n g T : Nat} [AggT P t n] {cs : Array Value} {K : Value → Prop} (hb : Blk w g T cs) (hl : cs.toList.length = n) (k : K (.agg cs)) : RetLd P t ⟨g, 0, none⟩ w K := by
  obtain ⟨d, h1, h2⟩ := AggT.u (P := P) (t := t) (n := n)
  exact ⟨_, run_loadVar_mid w g 0 t cs.toList d (fun j v hv => by rw [Nat.zero_add, hb.cell]; simpa using hv) h1 h2 (by rw [AggT.i (P := P) (t := t) (n := n), hl]), by simpa using k⟩
end
/-- so many rounds at most -/
noncomputable def vcRounds (P : Program) (N : Nat) (c : Code) (Q : Exit → Env → World → Prop) (n : Nat) : Env → World → Prop :=
  Nat.rec (motive := fun _ => Env → World → Prop) (fun _ _ => False) (fun _ next => vc P N c (thenE next Q)) n
theorem rounds_sound {P : Program} {N : Nat} {c : Code} {Q : Exit → Env → World → Prop} : ∀ (n : Nat) (e : Env) (a : Act) (w : World), Knows N e a → vcRounds P N c Q n e w → Code.rounds P c (sem N Q) n a w
  | 0, _, _, _, _, h => h.elim
  | n + 1, e, a, w, hk, h => by
    refine Code.wp_mono ?_ (vc_sound c (thenE (vcRounds P N c Q n) Q) e a w hk h)
    rintro x a' w' ⟨e', hk', hq⟩
    cases x with
    | normal => exact rounds_sound n e' a' w' hk' hq
    | _ => exact ⟨e', hk', hq⟩
theorem loop_rounds {P : Program} {N : Nat} {c : Code} {Q : Exit → Env → World → Prop} {e : Env} {w : World} (n : Nat) (h : vcRounds P N c Q n e w) : LoopP P N c Q e w :=
  ⟨fun a ha => wp_loop_rounds n (rounds_sound n e a w ha h)⟩
end Go.Proofs.Ytklbeipdigancaa
