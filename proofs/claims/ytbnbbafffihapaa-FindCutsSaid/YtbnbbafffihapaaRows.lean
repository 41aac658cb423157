/-
  No cell of these rows narrows 'for every input' (looked for: loops, veiled, ifaces, maps, wideKeys, modest, calm, conditions, laid).
  DERIVED. THE GIVEN ROWS OF THIS SEAT. 8 by the template 'for every input the law returns true; each argument reads behind the call as it read before'; 0 by the template 'total and deterministic' (their statements: YtbnbbafffihapaaTotals.lean).
  GIVEN WITH THE SEED: the statements are not yours to turn. If you find one false, say at which input.
  Laid BY PROGRAM, IN A SANDBOX (cutbox-rows.mjs): the forced cells as the released guide's own fill.sh prints them over the translation 80c8159c534bf25a… (all of the seat's roots in one cut). By AI agents, Wed Nov 11 2026. No macro, syntax, notation, axiom, sorry.
-/
import Derived.Test.YtbnbbafffihapaaChecked
import GoSem.Claim
import GoSem.ClaimJoined
import GoSem.ClaimMapViews
import Derived.JoinedTies
import Derived.KernelRfl
namespace Go.Proofs.Ytbnbbafffihapaa
/- THE CELL 'sum', in the pinned program and in every row, IS THE sha256 OF THE DUMP (.gsa) THAT YtbnbbafffihapaaProg.lean LOADS. Nothing in Lean hashes anything: it is a label: what it is worth is what the hold of that sum in a sandbox is worth. -/
noncomputable def Try.pinned : Pinned := { name := "ytbnbbafffihapaa", sum := "80c8159c534bf25a0b94f623ade1b02fa01c8d3401e5a3c439a7f0828794ac0f", checked := Try.checked }
namespace Rows
def none {H : Type} : Left H := { results := [], args := [] }

/-- 'jostlelaw24.SkipBegins': WHATEVER THE INPUT: true; the input reads as it did. -/
def skipBeginsSpec : ChangeSpec := { name := "skipBegins", fn := fun _ => fun
  | [d1, d2] => { results := [.lit (.bool true)], args := [d1, d2] }
  | _ => none }
def skipBeginsRow : OpenClaim := { program := "ytbnbbafffihapaa", sum := "80c8159c534bf25a0b94f623ade1b02fa01c8d3401e5a3c439a7f0828794ac0f", func := "jostle/jostlelaw24.SkipBegins", spec := "skipBegins", unfollowed := true, recurses := true, apart := false }
def SkipBeginsSaid : Prop := skipBeginsRow.holds Try.pinned (OpenSpec.ofChange skipBeginsSpec)

/-- ITS FALSE NEIGHBOUR: 'it returns false'. Refute it at one input. -/
def skipBeginsWrong : ChangeSpec := { name := "skipBegins", fn := fun _ => fun
  | [d1, d2] => { results := [.lit (.bool false)], args := [d1, d2] }
  | _ => none }
def SkipBeginsWrongFalsely : Prop := skipBeginsRow.holds Try.pinned (OpenSpec.ofChange skipBeginsWrong)

/-- 'jostlelaw24.SkipSound': WHATEVER THE INPUT: true; the input reads as it did. -/
def skipSoundSpec : ChangeSpec := { name := "skipSound", fn := fun _ => fun
  | [d1, d2] => { results := [.lit (.bool true)], args := [d1, d2] }
  | _ => none }
def skipSoundRow : OpenClaim := { program := "ytbnbbafffihapaa", sum := "80c8159c534bf25a0b94f623ade1b02fa01c8d3401e5a3c439a7f0828794ac0f", func := "jostle/jostlelaw24.SkipSound", spec := "skipSound", unfollowed := true, recurses := true, apart := false }
def SkipSoundSaid : Prop := skipSoundRow.holds Try.pinned (OpenSpec.ofChange skipSoundSpec)

/-- ITS FALSE NEIGHBOUR: 'it returns false'. Refute it at one input. -/
def skipSoundWrong : ChangeSpec := { name := "skipSound", fn := fun _ => fun
  | [d1, d2] => { results := [.lit (.bool false)], args := [d1, d2] }
  | _ => none }
def SkipSoundWrongFalsely : Prop := skipSoundRow.holds Try.pinned (OpenSpec.ofChange skipSoundWrong)

/-- 'jostlelaw24.SkipShows': WHATEVER THE INPUT: true; the input reads as it did. -/
def skipShowsSpec : ChangeSpec := { name := "skipShows", fn := fun _ => fun
  | [d1, d2, d3] => { results := [.lit (.bool true)], args := [d1, d2, d3] }
  | _ => none }
def skipShowsRow : OpenClaim := { program := "ytbnbbafffihapaa", sum := "80c8159c534bf25a0b94f623ade1b02fa01c8d3401e5a3c439a7f0828794ac0f", func := "jostle/jostlelaw24.SkipShows", spec := "skipShows", unfollowed := true, recurses := true, apart := false }
def SkipShowsSaid : Prop := skipShowsRow.holds Try.pinned (OpenSpec.ofChange skipShowsSpec)

/-- ITS FALSE NEIGHBOUR: 'it returns false'. Refute it at one input. -/
def skipShowsWrong : ChangeSpec := { name := "skipShows", fn := fun _ => fun
  | [d1, d2, d3] => { results := [.lit (.bool false)], args := [d1, d2, d3] }
  | _ => none }
def SkipShowsWrongFalsely : Prop := skipShowsRow.holds Try.pinned (OpenSpec.ofChange skipShowsWrong)

/-- 'jostlelaw27.LocateSeeks': WHATEVER THE INPUT: true; the input reads as it did. -/
def locateSeeksSpec : ChangeSpec := { name := "locateSeeks", fn := fun _ => fun
  | [d1, d2] => { results := [.lit (.bool true)], args := [d1, d2] }
  | _ => none }
def locateSeeksRow : OpenClaim := { program := "ytbnbbafffihapaa", sum := "80c8159c534bf25a0b94f623ade1b02fa01c8d3401e5a3c439a7f0828794ac0f", func := "jostle/jostlelaw27.LocateSeeks", spec := "locateSeeks", unfollowed := true, recurses := true, apart := false }
def LocateSeeksSaid : Prop := locateSeeksRow.holds Try.pinned (OpenSpec.ofChange locateSeeksSpec)

/-- ITS FALSE NEIGHBOUR: 'it returns false'. Refute it at one input. -/
def locateSeeksWrong : ChangeSpec := { name := "locateSeeks", fn := fun _ => fun
  | [d1, d2] => { results := [.lit (.bool false)], args := [d1, d2] }
  | _ => none }
def LocateSeeksWrongFalsely : Prop := locateSeeksRow.holds Try.pinned (OpenSpec.ofChange locateSeeksWrong)

/-- 'jostlelaw27.LocateKeeps': WHATEVER THE INPUT: true; the input reads as it did. -/
def locateKeepsSpec : ChangeSpec := { name := "locateKeeps", fn := fun _ => fun
  | [d1, d2] => { results := [.lit (.bool true)], args := [d1, d2] }
  | _ => none }
def locateKeepsRow : OpenClaim := { program := "ytbnbbafffihapaa", sum := "80c8159c534bf25a0b94f623ade1b02fa01c8d3401e5a3c439a7f0828794ac0f", func := "jostle/jostlelaw27.LocateKeeps", spec := "locateKeeps", unfollowed := true, recurses := true, apart := false }
def LocateKeepsSaid : Prop := locateKeepsRow.holds Try.pinned (OpenSpec.ofChange locateKeepsSpec)

/-- ITS FALSE NEIGHBOUR: 'it returns false'. Refute it at one input. -/
def locateKeepsWrong : ChangeSpec := { name := "locateKeeps", fn := fun _ => fun
  | [d1, d2] => { results := [.lit (.bool false)], args := [d1, d2] }
  | _ => none }
def LocateKeepsWrongFalsely : Prop := locateKeepsRow.holds Try.pinned (OpenSpec.ofChange locateKeepsWrong)

/-- 'jostlelaw25.FindGuards': WHATEVER THE INPUT: true; the input reads as it did. -/
def findGuardsSpec : ChangeSpec := { name := "findGuards", fn := fun _ => fun
  | [d1, d2, d3] => { results := [.lit (.bool true)], args := [d1, d2, d3] }
  | _ => none }
def findGuardsRow : OpenClaim := { program := "ytbnbbafffihapaa", sum := "80c8159c534bf25a0b94f623ade1b02fa01c8d3401e5a3c439a7f0828794ac0f", func := "jostle/jostlelaw25.FindGuards", spec := "findGuards", unfollowed := true, recurses := true, apart := false }
def FindGuardsSaid : Prop := findGuardsRow.holds Try.pinned (OpenSpec.ofChange findGuardsSpec)

/-- ITS FALSE NEIGHBOUR: 'it returns false'. Refute it at one input. -/
def findGuardsWrong : ChangeSpec := { name := "findGuards", fn := fun _ => fun
  | [d1, d2, d3] => { results := [.lit (.bool false)], args := [d1, d2, d3] }
  | _ => none }
def FindGuardsWrongFalsely : Prop := findGuardsRow.holds Try.pinned (OpenSpec.ofChange findGuardsWrong)

/-- 'jostlelaw27.LocateEpochs': WHATEVER THE INPUT: true; the input reads as it did. -/
def locateEpochsSpec : ChangeSpec := { name := "locateEpochs", fn := fun _ => fun
  | [d1, d2, d3] => { results := [.lit (.bool true)], args := [d1, d2, d3] }
  | _ => none }
def locateEpochsRow : OpenClaim := { program := "ytbnbbafffihapaa", sum := "80c8159c534bf25a0b94f623ade1b02fa01c8d3401e5a3c439a7f0828794ac0f", func := "jostle/jostlelaw27.LocateEpochs", spec := "locateEpochs", unfollowed := true, recurses := true, apart := false }
def LocateEpochsSaid : Prop := locateEpochsRow.holds Try.pinned (OpenSpec.ofChange locateEpochsSpec)

/-- ITS FALSE NEIGHBOUR: 'it returns false'. Refute it at one input. -/
def locateEpochsWrong : ChangeSpec := { name := "locateEpochs", fn := fun _ => fun
  | [d1, d2, d3] => { results := [.lit (.bool false)], args := [d1, d2, d3] }
  | _ => none }
def LocateEpochsWrongFalsely : Prop := locateEpochsRow.holds Try.pinned (OpenSpec.ofChange locateEpochsWrong)

/-- 'jostlelaw25.FindCuts': WHATEVER THE INPUT: true; the input reads as it did. -/
def findCutsSpec : ChangeSpec := { name := "findCuts", fn := fun _ => fun
  | [d1, d2, d3] => { results := [.lit (.bool true)], args := [d1, d2, d3] }
  | _ => none }
def findCutsRow : OpenClaim := { program := "ytbnbbafffihapaa", sum := "80c8159c534bf25a0b94f623ade1b02fa01c8d3401e5a3c439a7f0828794ac0f", func := "jostle/jostlelaw25.FindCuts", spec := "findCuts", unfollowed := true, recurses := true, apart := false }
def FindCutsSaid : Prop := findCutsRow.holds Try.pinned (OpenSpec.ofChange findCutsSpec)

/-- ITS FALSE NEIGHBOUR: 'it returns false'. Refute it at one input. -/
def findCutsWrong : ChangeSpec := { name := "findCuts", fn := fun _ => fun
  | [d1, d2, d3] => { results := [.lit (.bool false)], args := [d1, d2, d3] }
  | _ => none }
def FindCutsWrongFalsely : Prop := findCutsRow.holds Try.pinned (OpenSpec.ofChange findCutsWrong)

/- THE SECOND FORM. 'bulk': how many values and letters a reading holds, each counted each time it is reached (what is shared counts as often as it is met; a slice's spare places count too). A statement '..UptoSaid' is the law's where the arguments, and the package variables that the reading takes, are together of bulk at most 1048576: NARROWER than '..Said'. Prove '..Said' where nothing that the law and all that it calls make is longer than what came in: it says more and counts as full. Else prove '..UptoSaid'. A law counts once. -/
mutual
def uptoBulk {H : Type} : DataW H → Nat
  | .lit (.string bytes) => bytes.length + 1
  | .lit _ => 1
  | .nil => 1
  | .ptr d => uptoBulk d + 1
  | .slice elems spare => uptoBulkAll elems + uptoBulkAll spare + 1
  | .agg parts => uptoBulkAll parts + 1
  | .iface _ d => uptoBulk d + 1
  | .map entries => uptoBulkEntries entries + 1
  | .held _ => 1
def uptoBulkAll {H : Type} : List (DataW H) → Nat
  | [] => 0
  | d :: r => uptoBulk d + uptoBulkAll r
def uptoBulkEntries {H : Type} : List (Lit × DataW H) → Nat
  | [] => 0
  | x :: r => uptoBulkEntry x + uptoBulkEntries r
def uptoBulkEntry {H : Type} : Lit × DataW H → Nat
  | (.string bytes, d) => bytes.length + uptoBulk d + 1
  | (_, d) => uptoBulk d + 1
 end
def uptoSmall : (H : Type) → List (DataW H) → Bool := fun _ ds => decide (uptoBulkAll ds ≤ 1048576)
def OpenSpec.upto (s : _root_.Go.ChangeSpec) : _root_.Go.OpenSpec := { _root_.Go.OpenSpec.ofChange s with cond := some uptoSmall }

/-- 'jostlelaw24.SkipBegins', WHERE WHAT IT READS IS OF BULK AT MOST 1048576: true; the input reads as it did. -/
def skipBeginsUptoRow : OpenClaim := { program := "ytbnbbafffihapaa", sum := "80c8159c534bf25a0b94f623ade1b02fa01c8d3401e5a3c439a7f0828794ac0f", func := "jostle/jostlelaw24.SkipBegins", spec := "skipBegins", unfollowed := true, recurses := true, apart := false, narrowed := true }
def SkipBeginsUptoSaid : Prop := skipBeginsUptoRow.holds Try.pinned (OpenSpec.upto skipBeginsSpec)

/-- 'jostlelaw24.SkipSound', WHERE WHAT IT READS IS OF BULK AT MOST 1048576: true; the input reads as it did. -/
def skipSoundUptoRow : OpenClaim := { program := "ytbnbbafffihapaa", sum := "80c8159c534bf25a0b94f623ade1b02fa01c8d3401e5a3c439a7f0828794ac0f", func := "jostle/jostlelaw24.SkipSound", spec := "skipSound", unfollowed := true, recurses := true, apart := false, narrowed := true }
def SkipSoundUptoSaid : Prop := skipSoundUptoRow.holds Try.pinned (OpenSpec.upto skipSoundSpec)

/-- 'jostlelaw24.SkipShows', WHERE WHAT IT READS IS OF BULK AT MOST 1048576: true; the input reads as it did. -/
def skipShowsUptoRow : OpenClaim := { program := "ytbnbbafffihapaa", sum := "80c8159c534bf25a0b94f623ade1b02fa01c8d3401e5a3c439a7f0828794ac0f", func := "jostle/jostlelaw24.SkipShows", spec := "skipShows", unfollowed := true, recurses := true, apart := false, narrowed := true }
def SkipShowsUptoSaid : Prop := skipShowsUptoRow.holds Try.pinned (OpenSpec.upto skipShowsSpec)

/-- 'jostlelaw27.LocateSeeks', WHERE WHAT IT READS IS OF BULK AT MOST 1048576: true; the input reads as it did. -/
def locateSeeksUptoRow : OpenClaim := { program := "ytbnbbafffihapaa", sum := "80c8159c534bf25a0b94f623ade1b02fa01c8d3401e5a3c439a7f0828794ac0f", func := "jostle/jostlelaw27.LocateSeeks", spec := "locateSeeks", unfollowed := true, recurses := true, apart := false, narrowed := true }
def LocateSeeksUptoSaid : Prop := locateSeeksUptoRow.holds Try.pinned (OpenSpec.upto locateSeeksSpec)

/-- 'jostlelaw27.LocateKeeps', WHERE WHAT IT READS IS OF BULK AT MOST 1048576: true; the input reads as it did. -/
def locateKeepsUptoRow : OpenClaim := { program := "ytbnbbafffihapaa", sum := "80c8159c534bf25a0b94f623ade1b02fa01c8d3401e5a3c439a7f0828794ac0f", func := "jostle/jostlelaw27.LocateKeeps", spec := "locateKeeps", unfollowed := true, recurses := true, apart := false, narrowed := true }
def LocateKeepsUptoSaid : Prop := locateKeepsUptoRow.holds Try.pinned (OpenSpec.upto locateKeepsSpec)

/-- 'jostlelaw25.FindGuards', WHERE WHAT IT READS IS OF BULK AT MOST 1048576: true; the input reads as it did. -/
def findGuardsUptoRow : OpenClaim := { program := "ytbnbbafffihapaa", sum := "80c8159c534bf25a0b94f623ade1b02fa01c8d3401e5a3c439a7f0828794ac0f", func := "jostle/jostlelaw25.FindGuards", spec := "findGuards", unfollowed := true, recurses := true, apart := false, narrowed := true }
def FindGuardsUptoSaid : Prop := findGuardsUptoRow.holds Try.pinned (OpenSpec.upto findGuardsSpec)

/-- 'jostlelaw27.LocateEpochs', WHERE WHAT IT READS IS OF BULK AT MOST 1048576: true; the input reads as it did. -/
def locateEpochsUptoRow : OpenClaim := { program := "ytbnbbafffihapaa", sum := "80c8159c534bf25a0b94f623ade1b02fa01c8d3401e5a3c439a7f0828794ac0f", func := "jostle/jostlelaw27.LocateEpochs", spec := "locateEpochs", unfollowed := true, recurses := true, apart := false, narrowed := true }
def LocateEpochsUptoSaid : Prop := locateEpochsUptoRow.holds Try.pinned (OpenSpec.upto locateEpochsSpec)

/-- 'jostlelaw25.FindCuts', WHERE WHAT IT READS IS OF BULK AT MOST 1048576: true; the input reads as it did. -/
def findCutsUptoRow : OpenClaim := { program := "ytbnbbafffihapaa", sum := "80c8159c534bf25a0b94f623ade1b02fa01c8d3401e5a3c439a7f0828794ac0f", func := "jostle/jostlelaw25.FindCuts", spec := "findCuts", unfollowed := true, recurses := true, apart := false, narrowed := true }
def FindCutsUptoSaid : Prop := findCutsUptoRow.holds Try.pinned (OpenSpec.upto findCutsSpec)

end Rows
end Go.Proofs.Ytbnbbafffihapaa
