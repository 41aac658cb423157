/-
  No cell of these rows narrows 'for every input' (looked for: loops, veiled, ifaces, maps, wideKeys, modest, calm, conditions, laid).
  DERIVED. THE GIVEN ROWS OF THIS SEAT. 10 by the template 'for every input the law returns true; each argument reads behind the call as it read before'; 0 by the template 'total and deterministic' (their statements: YtejofmohpjffkaaTotals.lean).
  GIVEN WITH THE SEED: the statements are not yours to turn. If you find one false, say at which input.
  Laid BY PROGRAM, IN A SANDBOX (cutbox-rows.mjs): the forced cells as the released guide's own fill.sh prints them over the translation 1926afdccdccbf2a… (all of the seat's roots in one cut). By AI agents, Wed Nov 11 2026. No macro, syntax, notation, axiom, sorry.
-/
import Derived.Test.YtejofmohpjffkaaChecked
import GoSem.Claim
import GoSem.ClaimJoined
import GoSem.ClaimMapViews
import Derived.JoinedTies
import Derived.KernelRfl
namespace Go.Proofs.Ytejofmohpjffkaa
/- THE CELL 'sum', in the pinned program and in every row, IS THE sha256 OF THE DUMP (.gsa) THAT YtejofmohpjffkaaProg.lean LOADS. Nothing in Lean hashes anything: it is a label: what it is worth is what the hold of that sum in a sandbox is worth. -/
noncomputable def Try.pinned : Pinned := { name := "ytejofmohpjffkaa", sum := "1926afdccdccbf2a2906acca397eabe2e43f1f74ed863ad0207c3790a3c5e784", checked := Try.checked }
namespace Rows
def none {H : Type} : Left H := { results := [], args := [] }

/-- 'jostlelaw10.ConfChecks': WHATEVER THE INPUT: true; the input reads as it did. -/
def confChecksSpec : ChangeSpec := { name := "confChecks", fn := fun _ => fun
  | [d] => { results := [.lit (.bool true)], args := [d] }
  | _ => none }
def confChecksRow : OpenClaim := { program := "ytejofmohpjffkaa", sum := "1926afdccdccbf2a2906acca397eabe2e43f1f74ed863ad0207c3790a3c5e784", func := "jostle/jostlelaw10.ConfChecks", spec := "confChecks", apart := false }
def ConfChecksSaid : Prop := confChecksRow.holds Try.pinned (OpenSpec.ofChange confChecksSpec)

/-- ITS FALSE NEIGHBOUR: 'it returns false'. Refute it at one input. -/
def confChecksWrong : ChangeSpec := { name := "confChecks", fn := fun _ => fun
  | [d] => { results := [.lit (.bool false)], args := [d] }
  | _ => none }
def ConfChecksWrongFalsely : Prop := confChecksRow.holds Try.pinned (OpenSpec.ofChange confChecksWrong)

/-- 'jostlelaw10.ConfCodes': WHATEVER THE INPUT: true; the input reads as it did. -/
def confCodesSpec : ChangeSpec := { name := "confCodes", fn := fun _ => fun
  | [d] => { results := [.lit (.bool true)], args := [d] }
  | _ => none }
def confCodesRow : OpenClaim := { program := "ytejofmohpjffkaa", sum := "1926afdccdccbf2a2906acca397eabe2e43f1f74ed863ad0207c3790a3c5e784", func := "jostle/jostlelaw10.ConfCodes", spec := "confCodes", apart := false }
def ConfCodesSaid : Prop := confCodesRow.holds Try.pinned (OpenSpec.ofChange confCodesSpec)

/-- ITS FALSE NEIGHBOUR: 'it returns false'. Refute it at one input. -/
def confCodesWrong : ChangeSpec := { name := "confCodes", fn := fun _ => fun
  | [d] => { results := [.lit (.bool false)], args := [d] }
  | _ => none }
def ConfCodesWrongFalsely : Prop := confCodesRow.holds Try.pinned (OpenSpec.ofChange confCodesWrong)

/-- 'jostlelaw11.ScriptParses': WHATEVER THE INPUT: true; the input reads as it did. -/
def scriptParsesSpec : ChangeSpec := { name := "scriptParses", fn := fun _ => fun
  | [d] => { results := [.lit (.bool true)], args := [d] }
  | _ => none }
def scriptParsesRow : OpenClaim := { program := "ytejofmohpjffkaa", sum := "1926afdccdccbf2a2906acca397eabe2e43f1f74ed863ad0207c3790a3c5e784", func := "jostle/jostlelaw11.ScriptParses", spec := "scriptParses", apart := false }
def ScriptParsesSaid : Prop := scriptParsesRow.holds Try.pinned (OpenSpec.ofChange scriptParsesSpec)

/-- ITS FALSE NEIGHBOUR: 'it returns false'. Refute it at one input. -/
def scriptParsesWrong : ChangeSpec := { name := "scriptParses", fn := fun _ => fun
  | [d] => { results := [.lit (.bool false)], args := [d] }
  | _ => none }
def ScriptParsesWrongFalsely : Prop := scriptParsesRow.holds Try.pinned (OpenSpec.ofChange scriptParsesWrong)

/-- 'jostlelaw09.CallRight': WHATEVER THE INPUT: true; the input reads as it did. -/
def callRightSpec : ChangeSpec := { name := "callRight", fn := fun _ => fun
  | [d1, d2] => { results := [.lit (.bool true)], args := [d1, d2] }
  | _ => none }
def callRightRow : OpenClaim := { program := "ytejofmohpjffkaa", sum := "1926afdccdccbf2a2906acca397eabe2e43f1f74ed863ad0207c3790a3c5e784", func := "jostle/jostlelaw09.CallRight", spec := "callRight", inPlace := ["internal/bytealg.IndexByteString", "internal/bytealg.IndexString"], named := ["internal/bytealg.MaxLen"], apart := false }
def CallRightSaid : Prop := callRightRow.holds Try.pinned (OpenSpec.ofChange callRightSpec)

/-- ITS FALSE NEIGHBOUR: 'it returns false'. Refute it at one input. -/
def callRightWrong : ChangeSpec := { name := "callRight", fn := fun _ => fun
  | [d1, d2] => { results := [.lit (.bool false)], args := [d1, d2] }
  | _ => none }
def CallRightWrongFalsely : Prop := callRightRow.holds Try.pinned (OpenSpec.ofChange callRightWrong)

/-- 'jostlelaw09.CallCodes': WHATEVER THE INPUT: true; the input reads as it did. -/
def callCodesSpec : ChangeSpec := { name := "callCodes", fn := fun _ => fun
  | [d] => { results := [.lit (.bool true)], args := [d] }
  | _ => none }
def callCodesRow : OpenClaim := { program := "ytejofmohpjffkaa", sum := "1926afdccdccbf2a2906acca397eabe2e43f1f74ed863ad0207c3790a3c5e784", func := "jostle/jostlelaw09.CallCodes", spec := "callCodes", inPlace := ["internal/bytealg.IndexByteString", "internal/bytealg.IndexString"], named := ["internal/bytealg.MaxLen"], apart := false }
def CallCodesSaid : Prop := callCodesRow.holds Try.pinned (OpenSpec.ofChange callCodesSpec)

/-- ITS FALSE NEIGHBOUR: 'it returns false'. Refute it at one input. -/
def callCodesWrong : ChangeSpec := { name := "callCodes", fn := fun _ => fun
  | [d] => { results := [.lit (.bool false)], args := [d] }
  | _ => none }
def CallCodesWrongFalsely : Prop := callCodesRow.holds Try.pinned (OpenSpec.ofChange callCodesWrong)

/-- 'jostlelaw09.CallTexts': WHATEVER THE INPUT: true; the input reads as it did. -/
def callTextsSpec : ChangeSpec := { name := "callTexts", fn := fun _ => fun
  | [d1, d2] => { results := [.lit (.bool true)], args := [d1, d2] }
  | _ => none }
def callTextsRow : OpenClaim := { program := "ytejofmohpjffkaa", sum := "1926afdccdccbf2a2906acca397eabe2e43f1f74ed863ad0207c3790a3c5e784", func := "jostle/jostlelaw09.CallTexts", spec := "callTexts", inPlace := ["internal/bytealg.IndexByteString", "internal/bytealg.IndexString"], named := ["internal/bytealg.MaxLen"], apart := false }
def CallTextsSaid : Prop := callTextsRow.holds Try.pinned (OpenSpec.ofChange callTextsSpec)

/-- ITS FALSE NEIGHBOUR: 'it returns false'. Refute it at one input. -/
def callTextsWrong : ChangeSpec := { name := "callTexts", fn := fun _ => fun
  | [d1, d2] => { results := [.lit (.bool false)], args := [d1, d2] }
  | _ => none }
def CallTextsWrongFalsely : Prop := callTextsRow.holds Try.pinned (OpenSpec.ofChange callTextsWrong)

/-- 'jostlelaw09.CallParses': WHATEVER THE INPUT: true; the input reads as it did. -/
def callParsesSpec : ChangeSpec := { name := "callParses", fn := fun _ => fun
  | [d] => { results := [.lit (.bool true)], args := [d] }
  | _ => none }
def callParsesRow : OpenClaim := { program := "ytejofmohpjffkaa", sum := "1926afdccdccbf2a2906acca397eabe2e43f1f74ed863ad0207c3790a3c5e784", func := "jostle/jostlelaw09.CallParses", spec := "callParses", inPlace := ["internal/bytealg.IndexByteString", "internal/bytealg.IndexString"], named := ["internal/bytealg.MaxLen"], apart := false }
def CallParsesSaid : Prop := callParsesRow.holds Try.pinned (OpenSpec.ofChange callParsesSpec)

/-- ITS FALSE NEIGHBOUR: 'it returns false'. Refute it at one input. -/
def callParsesWrong : ChangeSpec := { name := "callParses", fn := fun _ => fun
  | [d] => { results := [.lit (.bool false)], args := [d] }
  | _ => none }
def CallParsesWrongFalsely : Prop := callParsesRow.holds Try.pinned (OpenSpec.ofChange callParsesWrong)

/-- 'jostlelaw11.ScriptRight': WHATEVER THE INPUT: true; the input reads as it did. -/
def scriptRightSpec : ChangeSpec := { name := "scriptRight", fn := fun _ => fun
  | [d] => { results := [.lit (.bool true)], args := [d] }
  | _ => none }
def scriptRightRow : OpenClaim := { program := "ytejofmohpjffkaa", sum := "1926afdccdccbf2a2906acca397eabe2e43f1f74ed863ad0207c3790a3c5e784", func := "jostle/jostlelaw11.ScriptRight", spec := "scriptRight", apart := false }
def ScriptRightSaid : Prop := scriptRightRow.holds Try.pinned (OpenSpec.ofChange scriptRightSpec)

/-- ITS FALSE NEIGHBOUR: 'it returns false'. Refute it at one input. -/
def scriptRightWrong : ChangeSpec := { name := "scriptRight", fn := fun _ => fun
  | [d] => { results := [.lit (.bool false)], args := [d] }
  | _ => none }
def ScriptRightWrongFalsely : Prop := scriptRightRow.holds Try.pinned (OpenSpec.ofChange scriptRightWrong)

/-- 'jostlelaw11.ScriptBack': WHATEVER THE INPUT: true; the input reads as it did. -/
def scriptBackSpec : ChangeSpec := { name := "scriptBack", fn := fun _ => fun
  | [d1, d2] => { results := [.lit (.bool true)], args := [d1, d2] }
  | _ => none }
def scriptBackRow : OpenClaim := { program := "ytejofmohpjffkaa", sum := "1926afdccdccbf2a2906acca397eabe2e43f1f74ed863ad0207c3790a3c5e784", func := "jostle/jostlelaw11.ScriptBack", spec := "scriptBack", apart := false }
def ScriptBackSaid : Prop := scriptBackRow.holds Try.pinned (OpenSpec.ofChange scriptBackSpec)

/-- ITS FALSE NEIGHBOUR: 'it returns false'. Refute it at one input. -/
def scriptBackWrong : ChangeSpec := { name := "scriptBack", fn := fun _ => fun
  | [d1, d2] => { results := [.lit (.bool false)], args := [d1, d2] }
  | _ => none }
def ScriptBackWrongFalsely : Prop := scriptBackRow.holds Try.pinned (OpenSpec.ofChange scriptBackWrong)

/-- 'jostlelaw09.CallBack': WHATEVER THE INPUT: true; the input reads as it did. -/
def callBackSpec : ChangeSpec := { name := "callBack", fn := fun _ => fun
  | [d1, d2, d3] => { results := [.lit (.bool true)], args := [d1, d2, d3] }
  | _ => none }
def callBackRow : OpenClaim := { program := "ytejofmohpjffkaa", sum := "1926afdccdccbf2a2906acca397eabe2e43f1f74ed863ad0207c3790a3c5e784", func := "jostle/jostlelaw09.CallBack", spec := "callBack", inPlace := ["internal/bytealg.IndexByteString", "internal/bytealg.IndexString"], named := ["internal/bytealg.MaxLen"], apart := false }
def CallBackSaid : Prop := callBackRow.holds Try.pinned (OpenSpec.ofChange callBackSpec)

/-- ITS FALSE NEIGHBOUR: 'it returns false'. Refute it at one input. -/
def callBackWrong : ChangeSpec := { name := "callBack", fn := fun _ => fun
  | [d1, d2, d3] => { results := [.lit (.bool false)], args := [d1, d2, d3] }
  | _ => none }
def CallBackWrongFalsely : Prop := callBackRow.holds Try.pinned (OpenSpec.ofChange callBackWrong)

/- THE SECOND FORM. 'bulk': how many values and letters a reading holds, each counted each time it is reached (what is shared counts as often as it is met; a slice's spare places count too). A statement '..UptoSaid' is the law's where the arguments, and the package variables that the reading takes, are together of bulk at most 1048576: NARROWER than '..Said'. Prove '..Said' where nothing that the law and all that it calls make is longer than what came in: it says more and counts as full. Else prove '..UptoSaid'. A law counts once. -/
mutual
def uptoBulk {H : Type} : DataW H → Nat
  | .lit (.string bytes) => bytes.length + 1
  | .lit _ => 1
  | .nil => 1
  | .ptr d => uptoBulk d + 1
  | .slice elems spare => uptoBulkAll elems + uptoBulkAll spare + 1
  | .agg parts => uptoBulkAll parts + 1
  | .iface _ d => uptoBulk d + 1
  | .map entries => uptoBulkEntries entries + 1
  | .held _ => 1
def uptoBulkAll {H : Type} : List (DataW H) → Nat
  | [] => 0
  | d :: r => uptoBulk d + uptoBulkAll r
def uptoBulkEntries {H : Type} : List (Lit × DataW H) → Nat
  | [] => 0
  | x :: r => uptoBulkEntry x + uptoBulkEntries r
def uptoBulkEntry {H : Type} : Lit × DataW H → Nat
  | (.string bytes, d) => bytes.length + uptoBulk d + 1
  | (_, d) => uptoBulk d + 1
 end
def uptoSmall : (H : Type) → List (DataW H) → Bool := fun _ ds => decide (uptoBulkAll ds ≤ 1048576)
def OpenSpec.upto (s : _root_.Go.ChangeSpec) : _root_.Go.OpenSpec := { _root_.Go.OpenSpec.ofChange s with cond := some uptoSmall }

/-- 'jostlelaw10.ConfChecks', WHERE WHAT IT READS IS OF BULK AT MOST 1048576: true; the input reads as it did. -/
def confChecksUptoRow : OpenClaim := { program := "ytejofmohpjffkaa", sum := "1926afdccdccbf2a2906acca397eabe2e43f1f74ed863ad0207c3790a3c5e784", func := "jostle/jostlelaw10.ConfChecks", spec := "confChecks", apart := false, narrowed := true }
def ConfChecksUptoSaid : Prop := confChecksUptoRow.holds Try.pinned (OpenSpec.upto confChecksSpec)

/-- 'jostlelaw10.ConfCodes', WHERE WHAT IT READS IS OF BULK AT MOST 1048576: true; the input reads as it did. -/
def confCodesUptoRow : OpenClaim := { program := "ytejofmohpjffkaa", sum := "1926afdccdccbf2a2906acca397eabe2e43f1f74ed863ad0207c3790a3c5e784", func := "jostle/jostlelaw10.ConfCodes", spec := "confCodes", apart := false, narrowed := true }
def ConfCodesUptoSaid : Prop := confCodesUptoRow.holds Try.pinned (OpenSpec.upto confCodesSpec)

/-- 'jostlelaw11.ScriptParses', WHERE WHAT IT READS IS OF BULK AT MOST 1048576: true; the input reads as it did. -/
def scriptParsesUptoRow : OpenClaim := { program := "ytejofmohpjffkaa", sum := "1926afdccdccbf2a2906acca397eabe2e43f1f74ed863ad0207c3790a3c5e784", func := "jostle/jostlelaw11.ScriptParses", spec := "scriptParses", apart := false, narrowed := true }
def ScriptParsesUptoSaid : Prop := scriptParsesUptoRow.holds Try.pinned (OpenSpec.upto scriptParsesSpec)

/-- 'jostlelaw09.CallRight', WHERE WHAT IT READS IS OF BULK AT MOST 1048576: true; the input reads as it did. -/
def callRightUptoRow : OpenClaim := { program := "ytejofmohpjffkaa", sum := "1926afdccdccbf2a2906acca397eabe2e43f1f74ed863ad0207c3790a3c5e784", func := "jostle/jostlelaw09.CallRight", spec := "callRight", inPlace := ["internal/bytealg.IndexByteString", "internal/bytealg.IndexString"], named := ["internal/bytealg.MaxLen"], apart := false, narrowed := true }
def CallRightUptoSaid : Prop := callRightUptoRow.holds Try.pinned (OpenSpec.upto callRightSpec)

/-- 'jostlelaw09.CallCodes', WHERE WHAT IT READS IS OF BULK AT MOST 1048576: true; the input reads as it did. -/
def callCodesUptoRow : OpenClaim := { program := "ytejofmohpjffkaa", sum := "1926afdccdccbf2a2906acca397eabe2e43f1f74ed863ad0207c3790a3c5e784", func := "jostle/jostlelaw09.CallCodes", spec := "callCodes", inPlace := ["internal/bytealg.IndexByteString", "internal/bytealg.IndexString"], named := ["internal/bytealg.MaxLen"], apart := false, narrowed := true }
def CallCodesUptoSaid : Prop := callCodesUptoRow.holds Try.pinned (OpenSpec.upto callCodesSpec)

/-- 'jostlelaw09.CallTexts', WHERE WHAT IT READS IS OF BULK AT MOST 1048576: true; the input reads as it did. -/
def callTextsUptoRow : OpenClaim := { program := "ytejofmohpjffkaa", sum := "1926afdccdccbf2a2906acca397eabe2e43f1f74ed863ad0207c3790a3c5e784", func := "jostle/jostlelaw09.CallTexts", spec := "callTexts", inPlace := ["internal/bytealg.IndexByteString", "internal/bytealg.IndexString"], named := ["internal/bytealg.MaxLen"], apart := false, narrowed := true }
def CallTextsUptoSaid : Prop := callTextsUptoRow.holds Try.pinned (OpenSpec.upto callTextsSpec)

/-- 'jostlelaw09.CallParses', WHERE WHAT IT READS IS OF BULK AT MOST 1048576: true; the input reads as it did. -/
def callParsesUptoRow : OpenClaim := { program := "ytejofmohpjffkaa", sum := "1926afdccdccbf2a2906acca397eabe2e43f1f74ed863ad0207c3790a3c5e784", func := "jostle/jostlelaw09.CallParses", spec := "callParses", inPlace := ["internal/bytealg.IndexByteString", "internal/bytealg.IndexString"], named := ["internal/bytealg.MaxLen"], apart := false, narrowed := true }
def CallParsesUptoSaid : Prop := callParsesUptoRow.holds Try.pinned (OpenSpec.upto callParsesSpec)

/-- 'jostlelaw11.ScriptRight', WHERE WHAT IT READS IS OF BULK AT MOST 1048576: true; the input reads as it did. -/
def scriptRightUptoRow : OpenClaim := { program := "ytejofmohpjffkaa", sum := "1926afdccdccbf2a2906acca397eabe2e43f1f74ed863ad0207c3790a3c5e784", func := "jostle/jostlelaw11.ScriptRight", spec := "scriptRight", apart := false, narrowed := true }
def ScriptRightUptoSaid : Prop := scriptRightUptoRow.holds Try.pinned (OpenSpec.upto scriptRightSpec)

/-- 'jostlelaw11.ScriptBack', WHERE WHAT IT READS IS OF BULK AT MOST 1048576: true; the input reads as it did. -/
def scriptBackUptoRow : OpenClaim := { program := "ytejofmohpjffkaa", sum := "1926afdccdccbf2a2906acca397eabe2e43f1f74ed863ad0207c3790a3c5e784", func := "jostle/jostlelaw11.ScriptBack", spec := "scriptBack", apart := false, narrowed := true }
def ScriptBackUptoSaid : Prop := scriptBackUptoRow.holds Try.pinned (OpenSpec.upto scriptBackSpec)

/-- 'jostlelaw09.CallBack', WHERE WHAT IT READS IS OF BULK AT MOST 1048576: true; the input reads as it did. -/
def callBackUptoRow : OpenClaim := { program := "ytejofmohpjffkaa", sum := "1926afdccdccbf2a2906acca397eabe2e43f1f74ed863ad0207c3790a3c5e784", func := "jostle/jostlelaw09.CallBack", spec := "callBack", inPlace := ["internal/bytealg.IndexByteString", "internal/bytealg.IndexString"], named := ["internal/bytealg.MaxLen"], apart := false, narrowed := true }
def CallBackUptoSaid : Prop := callBackUptoRow.holds Try.pinned (OpenSpec.upto callBackSpec)

end Rows
end Go.Proofs.Ytejofmohpjffkaa
