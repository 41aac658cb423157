/-
  DERIVED. GIVEN WITH THE SEED: THE CARDS: each row of YtlhbgnoghjendaaDoorRows.lean that lists a variable, with what it lists TIED to the program's text (the seventh form; the later family's looks); each row that meets fmt, with fmt's text TOLD by the authors' own Lean function (tested against real Go, not proved from fmt's source: count such statements apart). THE CARD IS WHAT COUNTS. Prove the row's statement (the work); the ties are given (YtlhbgnoghjendaaDoorTie.lean); close each card by the builder's one call (the guide's Derived/Test/ToyasCard.lean, 'card_holds'). Laid BY PROGRAM, IN A SANDBOX (cutbox-door.mjs). By AI agents, Wed Nov 11 2026. No macro, syntax, notation, axiom, sorry.
-/
import Derived.Test.YtlhbgnoghjendaaDoorRows
import GoSem.ClaimSeven
namespace Go.Proofs.YtlhbgnoghjendaaDoor
namespace Rows

/-- THE TIED CARD OF 'jostlelaw10.ConfParses'. -/
def confParsesCard : Claim7 := { stood := { row := confParsesRow, standIns := [], harness := (true, "f05baed4e477fde7f457c66c5d69077d73a3ca659bf7886ae4d21534560a0614"), looks := false }, kinds := [], alts := [], laidByText := true, laidKinds := [.data, .pinned], laidTests := true, laidLooks := .later }
def ConfParsesCardSaid : Prop := Claim7.holds Tryd.pinned (.plain (OpenSpec.ofChange confParsesSpec)) confParsesCard

/-- THE TIED CARD OF 'jostlelaw10.ConfTexts'. -/
def confTextsCard : Claim7 := { stood := { row := confTextsRow, standIns := [], harness := (true, "f05baed4e477fde7f457c66c5d69077d73a3ca659bf7886ae4d21534560a0614"), looks := false }, kinds := [], alts := [], laidByText := true, laidKinds := [.data, .pinned], laidTests := true, laidLooks := .later }
def ConfTextsCardSaid : Prop := Claim7.holds Tryd.pinned (.plain (OpenSpec.ofChange confTextsSpec)) confTextsCard

/-- THE TIED CARD OF 'jostlelaw36.SceneParses'. -/
def sceneParsesCard : Claim7 := { stood := { row := sceneParsesRow, standIns := [], harness := (true, "f05baed4e477fde7f457c66c5d69077d73a3ca659bf7886ae4d21534560a0614"), looks := false }, kinds := [], alts := [], laidByText := true, laidKinds := [.data, .pinned], laidTests := true, laidLooks := .later }
def SceneParsesCardSaid : Prop := Claim7.holds Tryd.pinned (.plain (OpenSpec.ofChange sceneParsesSpec)) sceneParsesCard

/-- THE TIED CARD OF 'jostlelaw36.SceneBack'. -/
def sceneBackCard : Claim7 := { stood := { row := sceneBackRow, standIns := [], harness := (true, "f05baed4e477fde7f457c66c5d69077d73a3ca659bf7886ae4d21534560a0614"), looks := false }, kinds := [], alts := [], laidByText := true, laidKinds := [.data, .pinned], laidTests := true, laidLooks := .later }
def SceneBackCardSaid : Prop := Claim7.holds Tryd.pinned (.plain (OpenSpec.ofChange sceneBackSpec)) sceneBackCard

/-- THE SECOND FORM's CARD OF 'jostlelaw10.ConfParses'. -/
def confParsesUptoCard : Claim7 := { stood := { row := confParsesUptoRow, standIns := [], harness := (true, "f05baed4e477fde7f457c66c5d69077d73a3ca659bf7886ae4d21534560a0614"), looks := false }, kinds := [], alts := [], laidByText := true, laidKinds := [.data, .pinned], laidTests := true, laidLooks := .later }
def ConfParsesUptoCardSaid : Prop := Claim7.holds Tryd.pinned (.plain (OpenSpec.upto confParsesSpec)) confParsesUptoCard

/-- THE SECOND FORM's CARD OF 'jostlelaw10.ConfTexts'. -/
def confTextsUptoCard : Claim7 := { stood := { row := confTextsUptoRow, standIns := [], harness := (true, "f05baed4e477fde7f457c66c5d69077d73a3ca659bf7886ae4d21534560a0614"), looks := false }, kinds := [], alts := [], laidByText := true, laidKinds := [.data, .pinned], laidTests := true, laidLooks := .later }
def ConfTextsUptoCardSaid : Prop := Claim7.holds Tryd.pinned (.plain (OpenSpec.upto confTextsSpec)) confTextsUptoCard

/-- THE SECOND FORM's CARD OF 'jostlelaw36.SceneParses'. -/
def sceneParsesUptoCard : Claim7 := { stood := { row := sceneParsesUptoRow, standIns := [], harness := (true, "f05baed4e477fde7f457c66c5d69077d73a3ca659bf7886ae4d21534560a0614"), looks := false }, kinds := [], alts := [], laidByText := true, laidKinds := [.data, .pinned], laidTests := true, laidLooks := .later }
def SceneParsesUptoCardSaid : Prop := Claim7.holds Tryd.pinned (.plain (OpenSpec.upto sceneParsesSpec)) sceneParsesUptoCard

/-- THE SECOND FORM's CARD OF 'jostlelaw36.SceneBack'. -/
def sceneBackUptoCard : Claim7 := { stood := { row := sceneBackUptoRow, standIns := [], harness := (true, "f05baed4e477fde7f457c66c5d69077d73a3ca659bf7886ae4d21534560a0614"), looks := false }, kinds := [], alts := [], laidByText := true, laidKinds := [.data, .pinned], laidTests := true, laidLooks := .later }
def SceneBackUptoCardSaid : Prop := Claim7.holds Tryd.pinned (.plain (OpenSpec.upto sceneBackSpec)) sceneBackUptoCard
end Rows
end Go.Proofs.YtlhbgnoghjendaaDoor
