/-
  No cell of these rows narrows 'for every input' (looked for: loops, veiled, ifaces, maps, wideKeys, modest, calm, conditions, laid).
  DERIVED. THE GIVEN ROWS OF THIS SEAT. 4 by the template 'for every input the law returns true; each argument reads behind the call as it read before'; 0 by the template 'total and deterministic' (their statements: YtblngbagjieeiaaTotals.lean).
  GIVEN WITH THE SEED: the statements are not yours to turn. If you find one false, say at which input.
  Laid BY PROGRAM, IN A SANDBOX (cutbox-rows.mjs): the forced cells as the released guide's own fill.sh prints them over the translation e7878877d8404f0e… (all of the seat's roots in one cut). By AI agents, Wed Nov 11 2026. No macro, syntax, notation, axiom, sorry.
-/
import Derived.Test.YtblngbagjieeiaaChecked
import GoSem.Claim
import GoSem.ClaimJoined
import GoSem.ClaimMapViews
import Derived.JoinedTies
import Derived.KernelRfl
namespace Go.Proofs.Ytblngbagjieeiaa
/- THE CELL 'sum', in the pinned program and in every row, IS THE sha256 OF THE DUMP (.gsa) THAT YtblngbagjieeiaaProg.lean LOADS. Nothing in Lean hashes anything: it is a label: what it is worth is what the hold of that sum in a sandbox is worth. -/
noncomputable def Try.pinned : Pinned := { name := "ytblngbagjieeiaa", sum := "e7878877d8404f0e8bfb4bc94f1bfa15541f0341920caae17123f49cbd363a39", checked := Try.checked }
namespace Rows
def none {H : Type} : Left H := { results := [], args := [] }

/-- 'jostlelaw12.HistNotes': WHATEVER THE INPUT: true; the input reads as it did. -/
def histNotesSpec : ChangeSpec := { name := "histNotes", fn := fun _ => fun
  | [d] => { results := [.lit (.bool true)], args := [d] }
  | _ => none }
def histNotesRow : OpenClaim := { program := "ytblngbagjieeiaa", sum := "e7878877d8404f0e8bfb4bc94f1bfa15541f0341920caae17123f49cbd363a39", func := "jostle/jostlelaw12.HistNotes", spec := "histNotes", inPlace := ["internal/abi.NoEscape"], apart := false }
def HistNotesSaid : Prop := histNotesRow.holds Try.pinned (OpenSpec.ofChange histNotesSpec)

/-- ITS FALSE NEIGHBOUR: 'it returns false'. Refute it at one input. -/
def histNotesWrong : ChangeSpec := { name := "histNotes", fn := fun _ => fun
  | [d] => { results := [.lit (.bool false)], args := [d] }
  | _ => none }
def HistNotesWrongFalsely : Prop := histNotesRow.holds Try.pinned (OpenSpec.ofChange histNotesWrong)

/-- 'jostlelaw12.HistOpers': WHATEVER THE INPUT: true; the input reads as it did. -/
def histOpersSpec : ChangeSpec := { name := "histOpers", fn := fun _ => fun
  | [d] => { results := [.lit (.bool true)], args := [d] }
  | _ => none }
def histOpersRow : OpenClaim := { program := "ytblngbagjieeiaa", sum := "e7878877d8404f0e8bfb4bc94f1bfa15541f0341920caae17123f49cbd363a39", func := "jostle/jostlelaw12.HistOpers", spec := "histOpers", inPlace := ["internal/abi.NoEscape"], apart := false }
def HistOpersSaid : Prop := histOpersRow.holds Try.pinned (OpenSpec.ofChange histOpersSpec)

/-- ITS FALSE NEIGHBOUR: 'it returns false'. Refute it at one input. -/
def histOpersWrong : ChangeSpec := { name := "histOpers", fn := fun _ => fun
  | [d] => { results := [.lit (.bool false)], args := [d] }
  | _ => none }
def HistOpersWrongFalsely : Prop := histOpersRow.holds Try.pinned (OpenSpec.ofChange histOpersWrong)

/-- 'jostlelaw12.HistBack': WHATEVER THE INPUT: true; the input reads as it did. -/
def histBackSpec : ChangeSpec := { name := "histBack", fn := fun _ => fun
  | [d1, d2] => { results := [.lit (.bool true)], args := [d1, d2] }
  | _ => none }
def histBackRow : OpenClaim := { program := "ytblngbagjieeiaa", sum := "e7878877d8404f0e8bfb4bc94f1bfa15541f0341920caae17123f49cbd363a39", func := "jostle/jostlelaw12.HistBack", spec := "histBack", inPlace := ["internal/abi.NoEscape"], apart := false }
def HistBackSaid : Prop := histBackRow.holds Try.pinned (OpenSpec.ofChange histBackSpec)

/-- ITS FALSE NEIGHBOUR: 'it returns false'. Refute it at one input. -/
def histBackWrong : ChangeSpec := { name := "histBack", fn := fun _ => fun
  | [d1, d2] => { results := [.lit (.bool false)], args := [d1, d2] }
  | _ => none }
def HistBackWrongFalsely : Prop := histBackRow.holds Try.pinned (OpenSpec.ofChange histBackWrong)

/-- 'jostlelaw36.SceneShows': WHATEVER THE INPUT: true; the input reads as it did. -/
def sceneShowsSpec : ChangeSpec := { name := "sceneShows", fn := fun _ => fun
  | [d] => { results := [.lit (.bool true)], args := [d] }
  | _ => none }
def sceneShowsRow : OpenClaim := { program := "ytblngbagjieeiaa", sum := "e7878877d8404f0e8bfb4bc94f1bfa15541f0341920caae17123f49cbd363a39", func := "jostle/jostlelaw36.SceneShows", spec := "sceneShows", inPlace := ["internal/abi.NoEscape"], apart := false }
def SceneShowsSaid : Prop := sceneShowsRow.holds Try.pinned (OpenSpec.ofChange sceneShowsSpec)

/-- ITS FALSE NEIGHBOUR: 'it returns false'. Refute it at one input. -/
def sceneShowsWrong : ChangeSpec := { name := "sceneShows", fn := fun _ => fun
  | [d] => { results := [.lit (.bool false)], args := [d] }
  | _ => none }
def SceneShowsWrongFalsely : Prop := sceneShowsRow.holds Try.pinned (OpenSpec.ofChange sceneShowsWrong)

/- THE SECOND FORM. 'bulk': how many values and letters a reading holds, each counted each time it is reached (what is shared counts as often as it is met; a slice's spare places count too). A statement '..UptoSaid' is the law's where the arguments, and the package variables that the reading takes, are together of bulk at most 1048576: NARROWER than '..Said'. Prove '..Said' where nothing that the law and all that it calls make is longer than what came in: it says more and counts as full. Else prove '..UptoSaid'. A law counts once. -/
mutual
def uptoBulk {H : Type} : DataW H → Nat
  | .lit (.string bytes) => bytes.length + 1
  | .lit _ => 1
  | .nil => 1
  | .ptr d => uptoBulk d + 1
  | .slice elems spare => uptoBulkAll elems + uptoBulkAll spare + 1
  | .agg parts => uptoBulkAll parts + 1
  | .iface _ d => uptoBulk d + 1
  | .map entries => uptoBulkEntries entries + 1
  | .held _ => 1
def uptoBulkAll {H : Type} : List (DataW H) → Nat
  | [] => 0
  | d :: r => uptoBulk d + uptoBulkAll r
def uptoBulkEntries {H : Type} : List (Lit × DataW H) → Nat
  | [] => 0
  | x :: r => uptoBulkEntry x + uptoBulkEntries r
def uptoBulkEntry {H : Type} : Lit × DataW H → Nat
  | (.string bytes, d) => bytes.length + uptoBulk d + 1
  | (_, d) => uptoBulk d + 1
 end
def uptoSmall : (H : Type) → List (DataW H) → Bool := fun _ ds => decide (uptoBulkAll ds ≤ 1048576)
def OpenSpec.upto (s : _root_.Go.ChangeSpec) : _root_.Go.OpenSpec := { _root_.Go.OpenSpec.ofChange s with cond := some uptoSmall }

/-- 'jostlelaw12.HistNotes', WHERE WHAT IT READS IS OF BULK AT MOST 1048576: true; the input reads as it did. -/
def histNotesUptoRow : OpenClaim := { program := "ytblngbagjieeiaa", sum := "e7878877d8404f0e8bfb4bc94f1bfa15541f0341920caae17123f49cbd363a39", func := "jostle/jostlelaw12.HistNotes", spec := "histNotes", inPlace := ["internal/abi.NoEscape"], apart := false, narrowed := true }
def HistNotesUptoSaid : Prop := histNotesUptoRow.holds Try.pinned (OpenSpec.upto histNotesSpec)

/-- 'jostlelaw12.HistOpers', WHERE WHAT IT READS IS OF BULK AT MOST 1048576: true; the input reads as it did. -/
def histOpersUptoRow : OpenClaim := { program := "ytblngbagjieeiaa", sum := "e7878877d8404f0e8bfb4bc94f1bfa15541f0341920caae17123f49cbd363a39", func := "jostle/jostlelaw12.HistOpers", spec := "histOpers", inPlace := ["internal/abi.NoEscape"], apart := false, narrowed := true }
def HistOpersUptoSaid : Prop := histOpersUptoRow.holds Try.pinned (OpenSpec.upto histOpersSpec)

/-- 'jostlelaw12.HistBack', WHERE WHAT IT READS IS OF BULK AT MOST 1048576: true; the input reads as it did. -/
def histBackUptoRow : OpenClaim := { program := "ytblngbagjieeiaa", sum := "e7878877d8404f0e8bfb4bc94f1bfa15541f0341920caae17123f49cbd363a39", func := "jostle/jostlelaw12.HistBack", spec := "histBack", inPlace := ["internal/abi.NoEscape"], apart := false, narrowed := true }
def HistBackUptoSaid : Prop := histBackUptoRow.holds Try.pinned (OpenSpec.upto histBackSpec)

/-- 'jostlelaw36.SceneShows', WHERE WHAT IT READS IS OF BULK AT MOST 1048576: true; the input reads as it did. -/
def sceneShowsUptoRow : OpenClaim := { program := "ytblngbagjieeiaa", sum := "e7878877d8404f0e8bfb4bc94f1bfa15541f0341920caae17123f49cbd363a39", func := "jostle/jostlelaw36.SceneShows", spec := "sceneShows", inPlace := ["internal/abi.NoEscape"], apart := false, narrowed := true }
def SceneShowsUptoSaid : Prop := sceneShowsUptoRow.holds Try.pinned (OpenSpec.upto sceneShowsSpec)

end Rows
end Go.Proofs.Ytblngbagjieeiaa
