/- Contracts of the calls' functions: pairs, texts. -/
import Derived.Test.YtejofmohpjffkaaCd
namespace Go.Proofs.Ytejofmohpjffkaa
open Go.RowKit
attribute [local irreducible] Instr.loadAt Instr.storeAt Instr.fieldAt Instr.indexAt Instr.sliceAt Instr.buildSlice Instr.box Instr.alloc Builtin.append_ Builtin.len_ Builtin.min_ Builtin.max_ Calls Instr.build Instr.makeSlice binSem convert Instr.index Instr.range Instr.next

def okN (l : List UInt8) : Prop := ¬ badN l ∧ valL l ≤ 4294967295
instance {l : List UInt8} : Decidable (okN l) := by unfold okN; exact inferInstance
theorem numV_form (l : List UInt8) : ∃ x : Int, numV l = #[.int .u32 x, .bool (decide (okN l))] ∧ (okN l → x = (valL l : Int)) := by
  by_cases hb : badN l
  · exact ⟨0, by rw [numV_bad hb, decide_eq_false (fun h : okN l => h.1 hb)], fun h => absurd hb h.1⟩
  · refine ⟨((valL l % 4294967296 : Nat) : Int), ?_, fun h => by have := h.2; omega⟩
    unfold numV
    rw [if_neg hb]
    have : decide (valL l ≤ 4294967295) = decide (okN l) := decide_eq_decide.2 ⟨fun h => ⟨hb, h⟩, fun h => h.2⟩
    rw [this]
def pairOf (l : List UInt8) : Option (Nat × Nat) :=
  match cutAt l with
  | none => none
  | some (a, b) => if okN a ∧ okN b then some (valL a, valL b) else none
def pairV (l : List UInt8) : Array Value :=
  match pairOf l with
  | none => #[.int .u32 0, .int .u32 0, .bool false]
  | some (k, v) => #[.int .u32 (k : Int), .int .u32 (v : Int), .bool true]
set_option maxRecDepth 10000 in
theorem pair_c (l : List UInt8) (hl : l.length ≤ 9223372036854775806) (w : World) : Fn Try.prog 59 #[.string (by8 l)] w fun r w' => r = .tuple (pairV l) ∧ Upd [] w w' := by
  refine fn_enter Try.func59 rfl rfl ?_
  refine cl (cut_c l hl w) ?_
  rintro _ w1 ⟨rfl, hu1⟩
  unfold cutV pairV pairOf
  cases hc : cutAt l with
  | none =>
    refine cl (number_c l w1) ?_
    rintro _ w2 ⟨rfl, hu2⟩
    obtain ⟨x, e1, -⟩ := numV_form l
    rw [e1]
    refine cl (number_c [] w2) ?_
    rintro _ w3 ⟨rfl, hu3⟩
    obtain ⟨y, e2, -⟩ := numV_form []
    rw [e2]
    exact ⟨rfl, (hu1.trans hu2).trans hu3⟩
  | some p =>
    obtain ⟨a, b⟩ := p
    refine cl (number_c a w1) ?_
    rintro _ w2 ⟨rfl, hu2⟩
    obtain ⟨x, e1, hx⟩ := numV_form a
    rw [e1]
    refine cl (number_c b w2) ?_
    rintro _ w3 ⟨rfl, hu3⟩
    obtain ⟨y, e2, hy⟩ := numV_form b
    rw [e2]
    have hU := (hu1.trans hu2).trans hu3
    dsimp only
    refine cd (fun h1 => ?_) (fun h1 => ?_)
    · exact ⟨by rw [if_neg (fun h => h1 h.1)]; rfl, hU⟩
    have h1 : okN a := by simpa using h1
    refine cd (fun h2 => ?_) (fun h2 => ?_)
    · exact ⟨by rw [if_neg (fun h => h2 h.2)]; rfl, hU⟩
    have h2 : okN b := by simpa using h2
    refine ⟨?_, hU⟩
    rw [if_pos ⟨h1, h2⟩, hx h1, hy h2]
    rfl
end Go.Proofs.Ytejofmohpjffkaa
