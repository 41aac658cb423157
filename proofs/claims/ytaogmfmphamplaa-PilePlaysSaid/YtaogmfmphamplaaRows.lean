/-
  No cell of these rows narrows 'for every input' (looked for: loops, veiled, ifaces, maps, wideKeys, modest, calm, conditions, laid).
  DERIVED. THE GIVEN ROWS OF THIS SEAT. 11 by the template 'for every input the law returns true; each argument reads behind the call as it read before'; 0 by the template 'total and deterministic' (their statements: YtaogmfmphamplaaTotals.lean).
  GIVEN WITH THE SEED: the statements are not yours to turn. If you find one false, say at which input.
  Laid BY PROGRAM, IN A SANDBOX (cutbox-rows.mjs): the forced cells as the released guide's own fill.sh prints them over the translation a11125c44355ddaa… (all of the seat's roots in one cut). By AI agents, Wed Nov 11 2026. No macro, syntax, notation, axiom, sorry.
-/
import Derived.Test.YtaogmfmphamplaaChecked
import GoSem.Claim
import GoSem.ClaimJoined
import GoSem.ClaimMapViews
import Derived.JoinedTies
import Derived.KernelRfl
namespace Go.Proofs.Ytaogmfmphamplaa
/- THE CELL 'sum', in the pinned program and in every row, IS THE sha256 OF THE DUMP (.gsa) THAT YtaogmfmphamplaaProg.lean LOADS. Nothing in Lean hashes anything: it is a label: what it is worth is what the hold of that sum in a sandbox is worth. -/
noncomputable def Try.pinned : Pinned := { name := "ytaogmfmphamplaa", sum := "a11125c44355ddaaaf5e72f5176e4ec64aca099aa484f0e7f86ecdff3ad043ae", checked := Try.checked }
namespace Rows
def none {H : Type} : Left H := { results := [], args := [] }

/-- 'jostlelaw01.WordMakes': WHATEVER THE INPUT: true; the input reads as it did. -/
def wordMakesSpec : ChangeSpec := { name := "wordMakes", fn := fun _ => fun
  | [d1, d2, d3] => { results := [.lit (.bool true)], args := [d1, d2, d3] }
  | _ => none }
def wordMakesRow : OpenClaim := { program := "ytaogmfmphamplaa", sum := "a11125c44355ddaaaf5e72f5176e4ec64aca099aa484f0e7f86ecdff3ad043ae", func := "jostle/jostlelaw01.WordMakes", spec := "wordMakes", apart := false }
def WordMakesSaid : Prop := wordMakesRow.holds Try.pinned (OpenSpec.ofChange wordMakesSpec)

/-- ITS FALSE NEIGHBOUR: 'it returns false'. Refute it at one input. -/
def wordMakesWrong : ChangeSpec := { name := "wordMakes", fn := fun _ => fun
  | [d1, d2, d3] => { results := [.lit (.bool false)], args := [d1, d2, d3] }
  | _ => none }
def WordMakesWrongFalsely : Prop := wordMakesRow.holds Try.pinned (OpenSpec.ofChange wordMakesWrong)

/-- 'jostlelaw01.WordParts': WHATEVER THE INPUT: true; the input reads as it did. -/
def wordPartsSpec : ChangeSpec := { name := "wordParts", fn := fun _ => fun
  | [d] => { results := [.lit (.bool true)], args := [d] }
  | _ => none }
def wordPartsRow : OpenClaim := { program := "ytaogmfmphamplaa", sum := "a11125c44355ddaaaf5e72f5176e4ec64aca099aa484f0e7f86ecdff3ad043ae", func := "jostle/jostlelaw01.WordParts", spec := "wordParts", apart := false }
def WordPartsSaid : Prop := wordPartsRow.holds Try.pinned (OpenSpec.ofChange wordPartsSpec)

/-- ITS FALSE NEIGHBOUR: 'it returns false'. Refute it at one input. -/
def wordPartsWrong : ChangeSpec := { name := "wordParts", fn := fun _ => fun
  | [d] => { results := [.lit (.bool false)], args := [d] }
  | _ => none }
def WordPartsWrongFalsely : Prop := wordPartsRow.holds Try.pinned (OpenSpec.ofChange wordPartsWrong)

/-- 'jostlelaw01.WordNexts': WHATEVER THE INPUT: true; the input reads as it did. -/
def wordNextsSpec : ChangeSpec := { name := "wordNexts", fn := fun _ => fun
  | [d1, d2, d3] => { results := [.lit (.bool true)], args := [d1, d2, d3] }
  | _ => none }
def wordNextsRow : OpenClaim := { program := "ytaogmfmphamplaa", sum := "a11125c44355ddaaaf5e72f5176e4ec64aca099aa484f0e7f86ecdff3ad043ae", func := "jostle/jostlelaw01.WordNexts", spec := "wordNexts", apart := false }
def WordNextsSaid : Prop := wordNextsRow.holds Try.pinned (OpenSpec.ofChange wordNextsSpec)

/-- ITS FALSE NEIGHBOUR: 'it returns false'. Refute it at one input. -/
def wordNextsWrong : ChangeSpec := { name := "wordNexts", fn := fun _ => fun
  | [d1, d2, d3] => { results := [.lit (.bool false)], args := [d1, d2, d3] }
  | _ => none }
def WordNextsWrongFalsely : Prop := wordNextsRow.holds Try.pinned (OpenSpec.ofChange wordNextsWrong)

/-- 'jostlelaw01.WordBack': WHATEVER THE INPUT: true; the input reads as it did. -/
def wordBackSpec : ChangeSpec := { name := "wordBack", fn := fun _ => fun
  | [d1, d2, d3] => { results := [.lit (.bool true)], args := [d1, d2, d3] }
  | _ => none }
def wordBackRow : OpenClaim := { program := "ytaogmfmphamplaa", sum := "a11125c44355ddaaaf5e72f5176e4ec64aca099aa484f0e7f86ecdff3ad043ae", func := "jostle/jostlelaw01.WordBack", spec := "wordBack", apart := false }
def WordBackSaid : Prop := wordBackRow.holds Try.pinned (OpenSpec.ofChange wordBackSpec)

/-- ITS FALSE NEIGHBOUR: 'it returns false'. Refute it at one input. -/
def wordBackWrong : ChangeSpec := { name := "wordBack", fn := fun _ => fun
  | [d1, d2, d3] => { results := [.lit (.bool false)], args := [d1, d2, d3] }
  | _ => none }
def WordBackWrongFalsely : Prop := wordBackRow.holds Try.pinned (OpenSpec.ofChange wordBackWrong)

/-- 'jostlelaw04.PileTurns': WHATEVER THE INPUT: true; the input reads as it did. -/
def pileTurnsSpec : ChangeSpec := { name := "pileTurns", fn := fun _ => fun
  | [d] => { results := [.lit (.bool true)], args := [d] }
  | _ => none }
def pileTurnsRow : OpenClaim := { program := "ytaogmfmphamplaa", sum := "a11125c44355ddaaaf5e72f5176e4ec64aca099aa484f0e7f86ecdff3ad043ae", func := "jostle/jostlelaw04.PileTurns", spec := "pileTurns", apart := false }
def PileTurnsSaid : Prop := pileTurnsRow.holds Try.pinned (OpenSpec.ofChange pileTurnsSpec)

/-- ITS FALSE NEIGHBOUR: 'it returns false'. Refute it at one input. -/
def pileTurnsWrong : ChangeSpec := { name := "pileTurns", fn := fun _ => fun
  | [d] => { results := [.lit (.bool false)], args := [d] }
  | _ => none }
def PileTurnsWrongFalsely : Prop := pileTurnsRow.holds Try.pinned (OpenSpec.ofChange pileTurnsWrong)

/-- 'jostlelaw08.FeedTells': WHATEVER THE INPUT: true; the input reads as it did. -/
def feedTellsSpec : ChangeSpec := { name := "feedTells", fn := fun _ => fun
  | [d1, d2] => { results := [.lit (.bool true)], args := [d1, d2] }
  | _ => none }
def feedTellsRow : OpenClaim := { program := "ytaogmfmphamplaa", sum := "a11125c44355ddaaaf5e72f5176e4ec64aca099aa484f0e7f86ecdff3ad043ae", func := "jostle/jostlelaw08.FeedTells", spec := "feedTells", apart := false }
def FeedTellsSaid : Prop := feedTellsRow.holds Try.pinned (OpenSpec.ofChange feedTellsSpec)

/-- ITS FALSE NEIGHBOUR: 'it returns false'. Refute it at one input. -/
def feedTellsWrong : ChangeSpec := { name := "feedTells", fn := fun _ => fun
  | [d1, d2] => { results := [.lit (.bool false)], args := [d1, d2] }
  | _ => none }
def FeedTellsWrongFalsely : Prop := feedTellsRow.holds Try.pinned (OpenSpec.ofChange feedTellsWrong)

/-- 'jostlelaw08.FeedSame': WHATEVER THE INPUT: true; the input reads as it did. -/
def feedSameSpec : ChangeSpec := { name := "feedSame", fn := fun _ => fun
  | [d1, d2] => { results := [.lit (.bool true)], args := [d1, d2] }
  | _ => none }
def feedSameRow : OpenClaim := { program := "ytaogmfmphamplaa", sum := "a11125c44355ddaaaf5e72f5176e4ec64aca099aa484f0e7f86ecdff3ad043ae", func := "jostle/jostlelaw08.FeedSame", spec := "feedSame", apart := false }
def FeedSameSaid : Prop := feedSameRow.holds Try.pinned (OpenSpec.ofChange feedSameSpec)

/-- ITS FALSE NEIGHBOUR: 'it returns false'. Refute it at one input. -/
def feedSameWrong : ChangeSpec := { name := "feedSame", fn := fun _ => fun
  | [d1, d2] => { results := [.lit (.bool false)], args := [d1, d2] }
  | _ => none }
def FeedSameWrongFalsely : Prop := feedSameRow.holds Try.pinned (OpenSpec.ofChange feedSameWrong)

/-- 'jostlelaw07.GhostPlays': WHATEVER THE INPUT: true; the input reads as it did. -/
def ghostPlaysSpec : ChangeSpec := { name := "ghostPlays", fn := fun _ => fun
  | [d1, d2, d3] => { results := [.lit (.bool true)], args := [d1, d2, d3] }
  | _ => none }
def ghostPlaysRow : OpenClaim := { program := "ytaogmfmphamplaa", sum := "a11125c44355ddaaaf5e72f5176e4ec64aca099aa484f0e7f86ecdff3ad043ae", func := "jostle/jostlelaw07.GhostPlays", spec := "ghostPlays", apart := false }
def GhostPlaysSaid : Prop := ghostPlaysRow.holds Try.pinned (OpenSpec.ofChange ghostPlaysSpec)

/-- ITS FALSE NEIGHBOUR: 'it returns false'. Refute it at one input. -/
def ghostPlaysWrong : ChangeSpec := { name := "ghostPlays", fn := fun _ => fun
  | [d1, d2, d3] => { results := [.lit (.bool false)], args := [d1, d2, d3] }
  | _ => none }
def GhostPlaysWrongFalsely : Prop := ghostPlaysRow.holds Try.pinned (OpenSpec.ofChange ghostPlaysWrong)

/-- 'jostlelaw07.GhostRounds': WHATEVER THE INPUT: true; the input reads as it did. -/
def ghostRoundsSpec : ChangeSpec := { name := "ghostRounds", fn := fun _ => fun
  | [d1, d2] => { results := [.lit (.bool true)], args := [d1, d2] }
  | _ => none }
def ghostRoundsRow : OpenClaim := { program := "ytaogmfmphamplaa", sum := "a11125c44355ddaaaf5e72f5176e4ec64aca099aa484f0e7f86ecdff3ad043ae", func := "jostle/jostlelaw07.GhostRounds", spec := "ghostRounds", apart := false }
def GhostRoundsSaid : Prop := ghostRoundsRow.holds Try.pinned (OpenSpec.ofChange ghostRoundsSpec)

/-- ITS FALSE NEIGHBOUR: 'it returns false'. Refute it at one input. -/
def ghostRoundsWrong : ChangeSpec := { name := "ghostRounds", fn := fun _ => fun
  | [d1, d2] => { results := [.lit (.bool false)], args := [d1, d2] }
  | _ => none }
def GhostRoundsWrongFalsely : Prop := ghostRoundsRow.holds Try.pinned (OpenSpec.ofChange ghostRoundsWrong)

/-- 'jostlelaw04.PilePlays': WHATEVER THE INPUT: true; the input reads as it did. -/
def pilePlaysSpec : ChangeSpec := { name := "pilePlays", fn := fun _ => fun
  | [d1, d2, d3] => { results := [.lit (.bool true)], args := [d1, d2, d3] }
  | _ => none }
def pilePlaysRow : OpenClaim := { program := "ytaogmfmphamplaa", sum := "a11125c44355ddaaaf5e72f5176e4ec64aca099aa484f0e7f86ecdff3ad043ae", func := "jostle/jostlelaw04.PilePlays", spec := "pilePlays", unfollowed := true, recurses := true, apart := false }
def PilePlaysSaid : Prop := pilePlaysRow.holds Try.pinned (OpenSpec.ofChange pilePlaysSpec)

/-- ITS FALSE NEIGHBOUR: 'it returns false'. Refute it at one input. -/
def pilePlaysWrong : ChangeSpec := { name := "pilePlays", fn := fun _ => fun
  | [d1, d2, d3] => { results := [.lit (.bool false)], args := [d1, d2, d3] }
  | _ => none }
def PilePlaysWrongFalsely : Prop := pilePlaysRow.holds Try.pinned (OpenSpec.ofChange pilePlaysWrong)

/-- 'jostlelaw04.PileWords': WHATEVER THE INPUT: true; the input reads as it did. -/
def pileWordsSpec : ChangeSpec := { name := "pileWords", fn := fun _ => fun
  | [d1, d2] => { results := [.lit (.bool true)], args := [d1, d2] }
  | _ => none }
def pileWordsRow : OpenClaim := { program := "ytaogmfmphamplaa", sum := "a11125c44355ddaaaf5e72f5176e4ec64aca099aa484f0e7f86ecdff3ad043ae", func := "jostle/jostlelaw04.PileWords", spec := "pileWords", unfollowed := true, recurses := true, apart := false }
def PileWordsSaid : Prop := pileWordsRow.holds Try.pinned (OpenSpec.ofChange pileWordsSpec)

/-- ITS FALSE NEIGHBOUR: 'it returns false'. Refute it at one input. -/
def pileWordsWrong : ChangeSpec := { name := "pileWords", fn := fun _ => fun
  | [d1, d2] => { results := [.lit (.bool false)], args := [d1, d2] }
  | _ => none }
def PileWordsWrongFalsely : Prop := pileWordsRow.holds Try.pinned (OpenSpec.ofChange pileWordsWrong)

/- THE SECOND FORM. 'bulk': how many values and letters a reading holds, each counted each time it is reached (what is shared counts as often as it is met; a slice's spare places count too). A statement '..UptoSaid' is the law's where the arguments, and the package variables that the reading takes, are together of bulk at most 1048576: NARROWER than '..Said'. Prove '..Said' where nothing that the law and all that it calls make is longer than what came in: it says more and counts as full. Else prove '..UptoSaid'. A law counts once. -/
mutual
def uptoBulk {H : Type} : DataW H → Nat
  | .lit (.string bytes) => bytes.length + 1
  | .lit _ => 1
  | .nil => 1
  | .ptr d => uptoBulk d + 1
  | .slice elems spare => uptoBulkAll elems + uptoBulkAll spare + 1
  | .agg parts => uptoBulkAll parts + 1
  | .iface _ d => uptoBulk d + 1
  | .map entries => uptoBulkEntries entries + 1
  | .held _ => 1
def uptoBulkAll {H : Type} : List (DataW H) → Nat
  | [] => 0
  | d :: r => uptoBulk d + uptoBulkAll r
def uptoBulkEntries {H : Type} : List (Lit × DataW H) → Nat
  | [] => 0
  | x :: r => uptoBulkEntry x + uptoBulkEntries r
def uptoBulkEntry {H : Type} : Lit × DataW H → Nat
  | (.string bytes, d) => bytes.length + uptoBulk d + 1
  | (_, d) => uptoBulk d + 1
 end
def uptoSmall : (H : Type) → List (DataW H) → Bool := fun _ ds => decide (uptoBulkAll ds ≤ 1048576)
def OpenSpec.upto (s : _root_.Go.ChangeSpec) : _root_.Go.OpenSpec := { _root_.Go.OpenSpec.ofChange s with cond := some uptoSmall }

/-- 'jostlelaw01.WordMakes', WHERE WHAT IT READS IS OF BULK AT MOST 1048576: true; the input reads as it did. -/
def wordMakesUptoRow : OpenClaim := { program := "ytaogmfmphamplaa", sum := "a11125c44355ddaaaf5e72f5176e4ec64aca099aa484f0e7f86ecdff3ad043ae", func := "jostle/jostlelaw01.WordMakes", spec := "wordMakes", apart := false, narrowed := true }
def WordMakesUptoSaid : Prop := wordMakesUptoRow.holds Try.pinned (OpenSpec.upto wordMakesSpec)

/-- 'jostlelaw01.WordParts', WHERE WHAT IT READS IS OF BULK AT MOST 1048576: true; the input reads as it did. -/
def wordPartsUptoRow : OpenClaim := { program := "ytaogmfmphamplaa", sum := "a11125c44355ddaaaf5e72f5176e4ec64aca099aa484f0e7f86ecdff3ad043ae", func := "jostle/jostlelaw01.WordParts", spec := "wordParts", apart := false, narrowed := true }
def WordPartsUptoSaid : Prop := wordPartsUptoRow.holds Try.pinned (OpenSpec.upto wordPartsSpec)

/-- 'jostlelaw01.WordNexts', WHERE WHAT IT READS IS OF BULK AT MOST 1048576: true; the input reads as it did. -/
def wordNextsUptoRow : OpenClaim := { program := "ytaogmfmphamplaa", sum := "a11125c44355ddaaaf5e72f5176e4ec64aca099aa484f0e7f86ecdff3ad043ae", func := "jostle/jostlelaw01.WordNexts", spec := "wordNexts", apart := false, narrowed := true }
def WordNextsUptoSaid : Prop := wordNextsUptoRow.holds Try.pinned (OpenSpec.upto wordNextsSpec)

/-- 'jostlelaw01.WordBack', WHERE WHAT IT READS IS OF BULK AT MOST 1048576: true; the input reads as it did. -/
def wordBackUptoRow : OpenClaim := { program := "ytaogmfmphamplaa", sum := "a11125c44355ddaaaf5e72f5176e4ec64aca099aa484f0e7f86ecdff3ad043ae", func := "jostle/jostlelaw01.WordBack", spec := "wordBack", apart := false, narrowed := true }
def WordBackUptoSaid : Prop := wordBackUptoRow.holds Try.pinned (OpenSpec.upto wordBackSpec)

/-- 'jostlelaw04.PileTurns', WHERE WHAT IT READS IS OF BULK AT MOST 1048576: true; the input reads as it did. -/
def pileTurnsUptoRow : OpenClaim := { program := "ytaogmfmphamplaa", sum := "a11125c44355ddaaaf5e72f5176e4ec64aca099aa484f0e7f86ecdff3ad043ae", func := "jostle/jostlelaw04.PileTurns", spec := "pileTurns", apart := false, narrowed := true }
def PileTurnsUptoSaid : Prop := pileTurnsUptoRow.holds Try.pinned (OpenSpec.upto pileTurnsSpec)

/-- 'jostlelaw08.FeedTells', WHERE WHAT IT READS IS OF BULK AT MOST 1048576: true; the input reads as it did. -/
def feedTellsUptoRow : OpenClaim := { program := "ytaogmfmphamplaa", sum := "a11125c44355ddaaaf5e72f5176e4ec64aca099aa484f0e7f86ecdff3ad043ae", func := "jostle/jostlelaw08.FeedTells", spec := "feedTells", apart := false, narrowed := true }
def FeedTellsUptoSaid : Prop := feedTellsUptoRow.holds Try.pinned (OpenSpec.upto feedTellsSpec)

/-- 'jostlelaw08.FeedSame', WHERE WHAT IT READS IS OF BULK AT MOST 1048576: true; the input reads as it did. -/
def feedSameUptoRow : OpenClaim := { program := "ytaogmfmphamplaa", sum := "a11125c44355ddaaaf5e72f5176e4ec64aca099aa484f0e7f86ecdff3ad043ae", func := "jostle/jostlelaw08.FeedSame", spec := "feedSame", apart := false, narrowed := true }
def FeedSameUptoSaid : Prop := feedSameUptoRow.holds Try.pinned (OpenSpec.upto feedSameSpec)

/-- 'jostlelaw07.GhostPlays', WHERE WHAT IT READS IS OF BULK AT MOST 1048576: true; the input reads as it did. -/
def ghostPlaysUptoRow : OpenClaim := { program := "ytaogmfmphamplaa", sum := "a11125c44355ddaaaf5e72f5176e4ec64aca099aa484f0e7f86ecdff3ad043ae", func := "jostle/jostlelaw07.GhostPlays", spec := "ghostPlays", apart := false, narrowed := true }
def GhostPlaysUptoSaid : Prop := ghostPlaysUptoRow.holds Try.pinned (OpenSpec.upto ghostPlaysSpec)

/-- 'jostlelaw07.GhostRounds', WHERE WHAT IT READS IS OF BULK AT MOST 1048576: true; the input reads as it did. -/
def ghostRoundsUptoRow : OpenClaim := { program := "ytaogmfmphamplaa", sum := "a11125c44355ddaaaf5e72f5176e4ec64aca099aa484f0e7f86ecdff3ad043ae", func := "jostle/jostlelaw07.GhostRounds", spec := "ghostRounds", apart := false, narrowed := true }
def GhostRoundsUptoSaid : Prop := ghostRoundsUptoRow.holds Try.pinned (OpenSpec.upto ghostRoundsSpec)

/-- 'jostlelaw04.PilePlays', WHERE WHAT IT READS IS OF BULK AT MOST 1048576: true; the input reads as it did. -/
def pilePlaysUptoRow : OpenClaim := { program := "ytaogmfmphamplaa", sum := "a11125c44355ddaaaf5e72f5176e4ec64aca099aa484f0e7f86ecdff3ad043ae", func := "jostle/jostlelaw04.PilePlays", spec := "pilePlays", unfollowed := true, recurses := true, apart := false, narrowed := true }
def PilePlaysUptoSaid : Prop := pilePlaysUptoRow.holds Try.pinned (OpenSpec.upto pilePlaysSpec)

/-- 'jostlelaw04.PileWords', WHERE WHAT IT READS IS OF BULK AT MOST 1048576: true; the input reads as it did. -/
def pileWordsUptoRow : OpenClaim := { program := "ytaogmfmphamplaa", sum := "a11125c44355ddaaaf5e72f5176e4ec64aca099aa484f0e7f86ecdff3ad043ae", func := "jostle/jostlelaw04.PileWords", spec := "pileWords", unfollowed := true, recurses := true, apart := false, narrowed := true }
def PileWordsUptoSaid : Prop := pileWordsUptoRow.holds Try.pinned (OpenSpec.upto pileWordsSpec)

end Rows
end Go.Proofs.Ytaogmfmphamplaa
