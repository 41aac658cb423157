/-
  No cell of these rows narrows 'for every input' (looked for: loops, veiled, ifaces, maps, wideKeys, modest, calm, conditions, laid).
  DERIVED. THE GIVEN ROWS OF THIS SEAT. 12 by the template 'for every input the law returns true; each argument reads behind the call as it read before'; 0 by the template 'total and deterministic' (their statements: YtjninopakpfklaaTotals.lean).
  GIVEN WITH THE SEED: the statements are not yours to turn. If you find one false, say at which input.
  Laid BY PROGRAM, IN A SANDBOX (cutbox-rows.mjs): the forced cells as the released guide's own fill.sh prints them over the translation b32353d39207966e… (all of the seat's roots in one cut). By AI agents, Wed Nov 11 2026. No macro, syntax, notation, axiom, sorry.
-/
import Derived.Test.YtjninopakpfklaaChecked
import GoSem.Claim
import GoSem.ClaimJoined
import GoSem.ClaimMapViews
import Derived.JoinedTies
import Derived.KernelRfl
namespace Go.Proofs.Ytjninopakpfklaa
/- THE CELL 'sum', in the pinned program and in every row, IS THE sha256 OF THE DUMP (.gsa) THAT YtjninopakpfklaaProg.lean LOADS. Nothing in Lean hashes anything: it is a label: what it is worth is what the hold of that sum in a sandbox is worth. -/
noncomputable def Try.pinned : Pinned := { name := "ytjninopakpfklaa", sum := "b32353d39207966eca4bdd9508affb7aec98a9b1a43a568fc62cb2910009fd89", checked := Try.checked }
namespace Rows
def none {H : Type} : Left H := { results := [], args := [] }

/-- 'jostlelaw06.PlanMakes': WHATEVER THE INPUT: true; the input reads as it did. -/
def planMakesSpec : ChangeSpec := { name := "planMakes", fn := fun _ => fun
  | [d] => { results := [.lit (.bool true)], args := [d] }
  | _ => none }
def planMakesRow : OpenClaim := { program := "ytjninopakpfklaa", sum := "b32353d39207966eca4bdd9508affb7aec98a9b1a43a568fc62cb2910009fd89", func := "jostle/jostlelaw06.PlanMakes", spec := "planMakes", apart := false }
def PlanMakesSaid : Prop := planMakesRow.holds Try.pinned (OpenSpec.ofChange planMakesSpec)

/-- ITS FALSE NEIGHBOUR: 'it returns false'. Refute it at one input. -/
def planMakesWrong : ChangeSpec := { name := "planMakes", fn := fun _ => fun
  | [d] => { results := [.lit (.bool false)], args := [d] }
  | _ => none }
def PlanMakesWrongFalsely : Prop := planMakesRow.holds Try.pinned (OpenSpec.ofChange planMakesWrong)

/-- 'jostlelaw06.PlanTells': WHATEVER THE INPUT: true; the input reads as it did. -/
def planTellsSpec : ChangeSpec := { name := "planTells", fn := fun _ => fun
  | [d1, d2] => { results := [.lit (.bool true)], args := [d1, d2] }
  | _ => none }
def planTellsRow : OpenClaim := { program := "ytjninopakpfklaa", sum := "b32353d39207966eca4bdd9508affb7aec98a9b1a43a568fc62cb2910009fd89", func := "jostle/jostlelaw06.PlanTells", spec := "planTells", apart := false }
def PlanTellsSaid : Prop := planTellsRow.holds Try.pinned (OpenSpec.ofChange planTellsSpec)

/-- ITS FALSE NEIGHBOUR: 'it returns false'. Refute it at one input. -/
def planTellsWrong : ChangeSpec := { name := "planTells", fn := fun _ => fun
  | [d1, d2] => { results := [.lit (.bool false)], args := [d1, d2] }
  | _ => none }
def PlanTellsWrongFalsely : Prop := planTellsRow.holds Try.pinned (OpenSpec.ofChange planTellsWrong)

/-- 'jostlelaw06.PlanFinds': WHATEVER THE INPUT: true; the input reads as it did. -/
def planFindsSpec : ChangeSpec := { name := "planFinds", fn := fun _ => fun
  | [d1, d2] => { results := [.lit (.bool true)], args := [d1, d2] }
  | _ => none }
def planFindsRow : OpenClaim := { program := "ytjninopakpfklaa", sum := "b32353d39207966eca4bdd9508affb7aec98a9b1a43a568fc62cb2910009fd89", func := "jostle/jostlelaw06.PlanFinds", spec := "planFinds", apart := false }
def PlanFindsSaid : Prop := planFindsRow.holds Try.pinned (OpenSpec.ofChange planFindsSpec)

/-- ITS FALSE NEIGHBOUR: 'it returns false'. Refute it at one input. -/
def planFindsWrong : ChangeSpec := { name := "planFinds", fn := fun _ => fun
  | [d1, d2] => { results := [.lit (.bool false)], args := [d1, d2] }
  | _ => none }
def PlanFindsWrongFalsely : Prop := planFindsRow.holds Try.pinned (OpenSpec.ofChange planFindsWrong)

/-- 'jostlelaw06.PlanBack': WHATEVER THE INPUT: true; the input reads as it did. -/
def planBackSpec : ChangeSpec := { name := "planBack", fn := fun _ => fun
  | [d1, d2, d3] => { results := [.lit (.bool true)], args := [d1, d2, d3] }
  | _ => none }
def planBackRow : OpenClaim := { program := "ytjninopakpfklaa", sum := "b32353d39207966eca4bdd9508affb7aec98a9b1a43a568fc62cb2910009fd89", func := "jostle/jostlelaw06.PlanBack", spec := "planBack", apart := false }
def PlanBackSaid : Prop := planBackRow.holds Try.pinned (OpenSpec.ofChange planBackSpec)

/-- ITS FALSE NEIGHBOUR: 'it returns false'. Refute it at one input. -/
def planBackWrong : ChangeSpec := { name := "planBack", fn := fun _ => fun
  | [d1, d2, d3] => { results := [.lit (.bool false)], args := [d1, d2, d3] }
  | _ => none }
def PlanBackWrongFalsely : Prop := planBackRow.holds Try.pinned (OpenSpec.ofChange planBackWrong)

/-- 'jostlelaw35.SchedAll': WHATEVER THE INPUT: true; the input reads as it did. -/
def schedAllSpec : ChangeSpec := { name := "schedAll", fn := fun _ => fun
  | [d1, d2] => { results := [.lit (.bool true)], args := [d1, d2] }
  | _ => none }
def schedAllRow : OpenClaim := { program := "ytjninopakpfklaa", sum := "b32353d39207966eca4bdd9508affb7aec98a9b1a43a568fc62cb2910009fd89", func := "jostle/jostlelaw35.SchedAll", spec := "schedAll", apart := false }
def SchedAllSaid : Prop := schedAllRow.holds Try.pinned (OpenSpec.ofChange schedAllSpec)

/-- ITS FALSE NEIGHBOUR: 'it returns false'. Refute it at one input. -/
def schedAllWrong : ChangeSpec := { name := "schedAll", fn := fun _ => fun
  | [d1, d2] => { results := [.lit (.bool false)], args := [d1, d2] }
  | _ => none }
def SchedAllWrongFalsely : Prop := schedAllRow.holds Try.pinned (OpenSpec.ofChange schedAllWrong)

/-- 'jostlelaw05.MemPairs': WHATEVER THE INPUT: true; the input reads as it did. -/
def memPairsSpec : ChangeSpec := { name := "memPairs", fn := fun _ => fun
  | [d1, d2] => { results := [.lit (.bool true)], args := [d1, d2] }
  | _ => none }
def memPairsRow : OpenClaim := { program := "ytjninopakpfklaa", sum := "b32353d39207966eca4bdd9508affb7aec98a9b1a43a568fc62cb2910009fd89", func := "jostle/jostlelaw05.MemPairs", spec := "memPairs", apart := false }
def MemPairsSaid : Prop := memPairsRow.holds Try.pinned (OpenSpec.ofChange memPairsSpec)

/-- ITS FALSE NEIGHBOUR: 'it returns false'. Refute it at one input. -/
def memPairsWrong : ChangeSpec := { name := "memPairs", fn := fun _ => fun
  | [d1, d2] => { results := [.lit (.bool false)], args := [d1, d2] }
  | _ => none }
def MemPairsWrongFalsely : Prop := memPairsRow.holds Try.pinned (OpenSpec.ofChange memPairsWrong)

/-- 'jostlelaw35.SchedWeaves': WHATEVER THE INPUT: true; the input reads as it did. -/
def schedWeavesSpec : ChangeSpec := { name := "schedWeaves", fn := fun _ => fun
  | [d1, d2, d3] => { results := [.lit (.bool true)], args := [d1, d2, d3] }
  | _ => none }
def schedWeavesRow : OpenClaim := { program := "ytjninopakpfklaa", sum := "b32353d39207966eca4bdd9508affb7aec98a9b1a43a568fc62cb2910009fd89", func := "jostle/jostlelaw35.SchedWeaves", spec := "schedWeaves", apart := false }
def SchedWeavesSaid : Prop := schedWeavesRow.holds Try.pinned (OpenSpec.ofChange schedWeavesSpec)

/-- ITS FALSE NEIGHBOUR: 'it returns false'. Refute it at one input. -/
def schedWeavesWrong : ChangeSpec := { name := "schedWeaves", fn := fun _ => fun
  | [d1, d2, d3] => { results := [.lit (.bool false)], args := [d1, d2, d3] }
  | _ => none }
def SchedWeavesWrongFalsely : Prop := schedWeavesRow.holds Try.pinned (OpenSpec.ofChange schedWeavesWrong)

/-- 'jostlelaw35.SchedRounds': WHATEVER THE INPUT: true; the input reads as it did. -/
def schedRoundsSpec : ChangeSpec := { name := "schedRounds", fn := fun _ => fun
  | [d1, d2, d3] => { results := [.lit (.bool true)], args := [d1, d2, d3] }
  | _ => none }
def schedRoundsRow : OpenClaim := { program := "ytjninopakpfklaa", sum := "b32353d39207966eca4bdd9508affb7aec98a9b1a43a568fc62cb2910009fd89", func := "jostle/jostlelaw35.SchedRounds", spec := "schedRounds", apart := false }
def SchedRoundsSaid : Prop := schedRoundsRow.holds Try.pinned (OpenSpec.ofChange schedRoundsSpec)

/-- ITS FALSE NEIGHBOUR: 'it returns false'. Refute it at one input. -/
def schedRoundsWrong : ChangeSpec := { name := "schedRounds", fn := fun _ => fun
  | [d1, d2, d3] => { results := [.lit (.bool false)], args := [d1, d2, d3] }
  | _ => none }
def SchedRoundsWrongFalsely : Prop := schedRoundsRow.holds Try.pinned (OpenSpec.ofChange schedRoundsWrong)

/-- 'jostlelaw05.MemSteps': WHATEVER THE INPUT: true; the input reads as it did. -/
def memStepsSpec : ChangeSpec := { name := "memSteps", fn := fun _ => fun
  | [d1, d2, d3] => { results := [.lit (.bool true)], args := [d1, d2, d3] }
  | _ => none }
def memStepsRow : OpenClaim := { program := "ytjninopakpfklaa", sum := "b32353d39207966eca4bdd9508affb7aec98a9b1a43a568fc62cb2910009fd89", func := "jostle/jostlelaw05.MemSteps", spec := "memSteps", apart := false }
def MemStepsSaid : Prop := memStepsRow.holds Try.pinned (OpenSpec.ofChange memStepsSpec)

/-- ITS FALSE NEIGHBOUR: 'it returns false'. Refute it at one input. -/
def memStepsWrong : ChangeSpec := { name := "memSteps", fn := fun _ => fun
  | [d1, d2, d3] => { results := [.lit (.bool false)], args := [d1, d2, d3] }
  | _ => none }
def MemStepsWrongFalsely : Prop := memStepsRow.holds Try.pinned (OpenSpec.ofChange memStepsWrong)

/-- 'jostlelaw05.MemSizes': WHATEVER THE INPUT: true; the input reads as it did. -/
def memSizesSpec : ChangeSpec := { name := "memSizes", fn := fun _ => fun
  | [d1, d2] => { results := [.lit (.bool true)], args := [d1, d2] }
  | _ => none }
def memSizesRow : OpenClaim := { program := "ytjninopakpfklaa", sum := "b32353d39207966eca4bdd9508affb7aec98a9b1a43a568fc62cb2910009fd89", func := "jostle/jostlelaw05.MemSizes", spec := "memSizes", apart := false }
def MemSizesSaid : Prop := memSizesRow.holds Try.pinned (OpenSpec.ofChange memSizesSpec)

/-- ITS FALSE NEIGHBOUR: 'it returns false'. Refute it at one input. -/
def memSizesWrong : ChangeSpec := { name := "memSizes", fn := fun _ => fun
  | [d1, d2] => { results := [.lit (.bool false)], args := [d1, d2] }
  | _ => none }
def MemSizesWrongFalsely : Prop := memSizesRow.holds Try.pinned (OpenSpec.ofChange memSizesWrong)

/-- 'jostlelaw35.SchedBack': WHATEVER THE INPUT: true; the input reads as it did. -/
def schedBackSpec : ChangeSpec := { name := "schedBack", fn := fun _ => fun
  | [d1, d2] => { results := [.lit (.bool true)], args := [d1, d2] }
  | _ => none }
def schedBackRow : OpenClaim := { program := "ytjninopakpfklaa", sum := "b32353d39207966eca4bdd9508affb7aec98a9b1a43a568fc62cb2910009fd89", func := "jostle/jostlelaw35.SchedBack", spec := "schedBack", apart := false }
def SchedBackSaid : Prop := schedBackRow.holds Try.pinned (OpenSpec.ofChange schedBackSpec)

/-- ITS FALSE NEIGHBOUR: 'it returns false'. Refute it at one input. -/
def schedBackWrong : ChangeSpec := { name := "schedBack", fn := fun _ => fun
  | [d1, d2] => { results := [.lit (.bool false)], args := [d1, d2] }
  | _ => none }
def SchedBackWrongFalsely : Prop := schedBackRow.holds Try.pinned (OpenSpec.ofChange schedBackWrong)

/-- 'jostlelaw35.SchedOdd': WHATEVER THE INPUT: true; the input reads as it did. -/
def schedOddSpec : ChangeSpec := { name := "schedOdd", fn := fun _ => fun
  | [d1, d2] => { results := [.lit (.bool true)], args := [d1, d2] }
  | _ => none }
def schedOddRow : OpenClaim := { program := "ytjninopakpfklaa", sum := "b32353d39207966eca4bdd9508affb7aec98a9b1a43a568fc62cb2910009fd89", func := "jostle/jostlelaw35.SchedOdd", spec := "schedOdd", apart := false }
def SchedOddSaid : Prop := schedOddRow.holds Try.pinned (OpenSpec.ofChange schedOddSpec)

/-- ITS FALSE NEIGHBOUR: 'it returns false'. Refute it at one input. -/
def schedOddWrong : ChangeSpec := { name := "schedOdd", fn := fun _ => fun
  | [d1, d2] => { results := [.lit (.bool false)], args := [d1, d2] }
  | _ => none }
def SchedOddWrongFalsely : Prop := schedOddRow.holds Try.pinned (OpenSpec.ofChange schedOddWrong)

/- THE SECOND FORM. 'bulk': how many values and letters a reading holds, each counted each time it is reached (what is shared counts as often as it is met; a slice's spare places count too). A statement '..UptoSaid' is the law's where the arguments, and the package variables that the reading takes, are together of bulk at most 1048576: NARROWER than '..Said'. Prove '..Said' where nothing that the law and all that it calls make is longer than what came in: it says more and counts as full. Else prove '..UptoSaid'. A law counts once. -/
mutual
def uptoBulk {H : Type} : DataW H → Nat
  | .lit (.string bytes) => bytes.length + 1
  | .lit _ => 1
  | .nil => 1
  | .ptr d => uptoBulk d + 1
  | .slice elems spare => uptoBulkAll elems + uptoBulkAll spare + 1
  | .agg parts => uptoBulkAll parts + 1
  | .iface _ d => uptoBulk d + 1
  | .map entries => uptoBulkEntries entries + 1
  | .held _ => 1
def uptoBulkAll {H : Type} : List (DataW H) → Nat
  | [] => 0
  | d :: r => uptoBulk d + uptoBulkAll r
def uptoBulkEntries {H : Type} : List (Lit × DataW H) → Nat
  | [] => 0
  | x :: r => uptoBulkEntry x + uptoBulkEntries r
def uptoBulkEntry {H : Type} : Lit × DataW H → Nat
  | (.string bytes, d) => bytes.length + uptoBulk d + 1
  | (_, d) => uptoBulk d + 1
 end
def uptoSmall : (H : Type) → List (DataW H) → Bool := fun _ ds => decide (uptoBulkAll ds ≤ 1048576)
def OpenSpec.upto (s : _root_.Go.ChangeSpec) : _root_.Go.OpenSpec := { _root_.Go.OpenSpec.ofChange s with cond := some uptoSmall }

/-- 'jostlelaw06.PlanMakes', WHERE WHAT IT READS IS OF BULK AT MOST 1048576: true; the input reads as it did. -/
def planMakesUptoRow : OpenClaim := { program := "ytjninopakpfklaa", sum := "b32353d39207966eca4bdd9508affb7aec98a9b1a43a568fc62cb2910009fd89", func := "jostle/jostlelaw06.PlanMakes", spec := "planMakes", apart := false, narrowed := true }
def PlanMakesUptoSaid : Prop := planMakesUptoRow.holds Try.pinned (OpenSpec.upto planMakesSpec)

/-- 'jostlelaw06.PlanTells', WHERE WHAT IT READS IS OF BULK AT MOST 1048576: true; the input reads as it did. -/
def planTellsUptoRow : OpenClaim := { program := "ytjninopakpfklaa", sum := "b32353d39207966eca4bdd9508affb7aec98a9b1a43a568fc62cb2910009fd89", func := "jostle/jostlelaw06.PlanTells", spec := "planTells", apart := false, narrowed := true }
def PlanTellsUptoSaid : Prop := planTellsUptoRow.holds Try.pinned (OpenSpec.upto planTellsSpec)

/-- 'jostlelaw06.PlanFinds', WHERE WHAT IT READS IS OF BULK AT MOST 1048576: true; the input reads as it did. -/
def planFindsUptoRow : OpenClaim := { program := "ytjninopakpfklaa", sum := "b32353d39207966eca4bdd9508affb7aec98a9b1a43a568fc62cb2910009fd89", func := "jostle/jostlelaw06.PlanFinds", spec := "planFinds", apart := false, narrowed := true }
def PlanFindsUptoSaid : Prop := planFindsUptoRow.holds Try.pinned (OpenSpec.upto planFindsSpec)

/-- 'jostlelaw06.PlanBack', WHERE WHAT IT READS IS OF BULK AT MOST 1048576: true; the input reads as it did. -/
def planBackUptoRow : OpenClaim := { program := "ytjninopakpfklaa", sum := "b32353d39207966eca4bdd9508affb7aec98a9b1a43a568fc62cb2910009fd89", func := "jostle/jostlelaw06.PlanBack", spec := "planBack", apart := false, narrowed := true }
def PlanBackUptoSaid : Prop := planBackUptoRow.holds Try.pinned (OpenSpec.upto planBackSpec)

/-- 'jostlelaw35.SchedAll', WHERE WHAT IT READS IS OF BULK AT MOST 1048576: true; the input reads as it did. -/
def schedAllUptoRow : OpenClaim := { program := "ytjninopakpfklaa", sum := "b32353d39207966eca4bdd9508affb7aec98a9b1a43a568fc62cb2910009fd89", func := "jostle/jostlelaw35.SchedAll", spec := "schedAll", apart := false, narrowed := true }
def SchedAllUptoSaid : Prop := schedAllUptoRow.holds Try.pinned (OpenSpec.upto schedAllSpec)

/-- 'jostlelaw05.MemPairs', WHERE WHAT IT READS IS OF BULK AT MOST 1048576: true; the input reads as it did. -/
def memPairsUptoRow : OpenClaim := { program := "ytjninopakpfklaa", sum := "b32353d39207966eca4bdd9508affb7aec98a9b1a43a568fc62cb2910009fd89", func := "jostle/jostlelaw05.MemPairs", spec := "memPairs", apart := false, narrowed := true }
def MemPairsUptoSaid : Prop := memPairsUptoRow.holds Try.pinned (OpenSpec.upto memPairsSpec)

/-- 'jostlelaw35.SchedWeaves', WHERE WHAT IT READS IS OF BULK AT MOST 1048576: true; the input reads as it did. -/
def schedWeavesUptoRow : OpenClaim := { program := "ytjninopakpfklaa", sum := "b32353d39207966eca4bdd9508affb7aec98a9b1a43a568fc62cb2910009fd89", func := "jostle/jostlelaw35.SchedWeaves", spec := "schedWeaves", apart := false, narrowed := true }
def SchedWeavesUptoSaid : Prop := schedWeavesUptoRow.holds Try.pinned (OpenSpec.upto schedWeavesSpec)

/-- 'jostlelaw35.SchedRounds', WHERE WHAT IT READS IS OF BULK AT MOST 1048576: true; the input reads as it did. -/
def schedRoundsUptoRow : OpenClaim := { program := "ytjninopakpfklaa", sum := "b32353d39207966eca4bdd9508affb7aec98a9b1a43a568fc62cb2910009fd89", func := "jostle/jostlelaw35.SchedRounds", spec := "schedRounds", apart := false, narrowed := true }
def SchedRoundsUptoSaid : Prop := schedRoundsUptoRow.holds Try.pinned (OpenSpec.upto schedRoundsSpec)

/-- 'jostlelaw05.MemSteps', WHERE WHAT IT READS IS OF BULK AT MOST 1048576: true; the input reads as it did. -/
def memStepsUptoRow : OpenClaim := { program := "ytjninopakpfklaa", sum := "b32353d39207966eca4bdd9508affb7aec98a9b1a43a568fc62cb2910009fd89", func := "jostle/jostlelaw05.MemSteps", spec := "memSteps", apart := false, narrowed := true }
def MemStepsUptoSaid : Prop := memStepsUptoRow.holds Try.pinned (OpenSpec.upto memStepsSpec)

/-- 'jostlelaw05.MemSizes', WHERE WHAT IT READS IS OF BULK AT MOST 1048576: true; the input reads as it did. -/
def memSizesUptoRow : OpenClaim := { program := "ytjninopakpfklaa", sum := "b32353d39207966eca4bdd9508affb7aec98a9b1a43a568fc62cb2910009fd89", func := "jostle/jostlelaw05.MemSizes", spec := "memSizes", apart := false, narrowed := true }
def MemSizesUptoSaid : Prop := memSizesUptoRow.holds Try.pinned (OpenSpec.upto memSizesSpec)

/-- 'jostlelaw35.SchedBack', WHERE WHAT IT READS IS OF BULK AT MOST 1048576: true; the input reads as it did. -/
def schedBackUptoRow : OpenClaim := { program := "ytjninopakpfklaa", sum := "b32353d39207966eca4bdd9508affb7aec98a9b1a43a568fc62cb2910009fd89", func := "jostle/jostlelaw35.SchedBack", spec := "schedBack", apart := false, narrowed := true }
def SchedBackUptoSaid : Prop := schedBackUptoRow.holds Try.pinned (OpenSpec.upto schedBackSpec)

/-- 'jostlelaw35.SchedOdd', WHERE WHAT IT READS IS OF BULK AT MOST 1048576: true; the input reads as it did. -/
def schedOddUptoRow : OpenClaim := { program := "ytjninopakpfklaa", sum := "b32353d39207966eca4bdd9508affb7aec98a9b1a43a568fc62cb2910009fd89", func := "jostle/jostlelaw35.SchedOdd", spec := "schedOdd", apart := false, narrowed := true }
def SchedOddUptoSaid : Prop := schedOddUptoRow.holds Try.pinned (OpenSpec.upto schedOddSpec)

end Rows
end Go.Proofs.Ytjninopakpfklaa
