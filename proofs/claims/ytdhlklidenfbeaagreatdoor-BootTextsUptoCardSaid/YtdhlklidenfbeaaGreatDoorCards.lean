/-
  DERIVED. GIVEN WITH THE SEED: THE CARDS: each row of YtdhlklidenfbeaaGreatDoorRows.lean that lists a variable, with what it lists TIED to the program's text (the seventh form; the later family's looks); each row that meets fmt, with fmt's text TOLD by the authors' own Lean function (tested against real Go, not proved from fmt's source: count such statements apart). THE CARD IS WHAT COUNTS. Prove the row's statement (the work); the ties are given (YtdhlklidenfbeaaGreatDoorTie.lean); close each card by the builder's one call (the guide's Derived/Test/ToyasCard.lean, 'card_holds'). Laid BY PROGRAM, IN A SANDBOX (cutbox-door.mjs). By AI agents, Wed Nov 11 2026. No macro, syntax, notation, axiom, sorry.
-/
import Derived.Test.YtdhlklidenfbeaaGreatDoorRows
import GoSem.ClaimSeven
namespace Go.Proofs.YtdhlklidenfbeaaGreatDoor
namespace Rows

/-- THE TIED CARD OF 'bootjacklaw22.BootTexts'. -/
def bootTextsCard : Claim7 := { stood := { row := bootTextsRow, standIns := [], harness := (true, "50fad4942d532c144046ae4cb2e767ac5a5b93c1df4422a8b2c195155b1f2efc"), looks := true }, kinds := [], alts := [], laidByText := true, laidKinds := [.data, .data, .data, .data, .sentinel, .sentinel, .pinned], laidTests := true, laidLooks := .later }
def BootTextsCardSaid : Prop := Claim7.holds Tryz.pinned (.plain (OpenSpec.ofChange bootTextsSpec)) bootTextsCard

/-- THE TIED CARD OF 'bootjacklaw08.TreeParses'. -/
def treeParsesCard : Claim7 := { stood := { row := treeParsesRow, standIns := [], harness := (true, "50fad4942d532c144046ae4cb2e767ac5a5b93c1df4422a8b2c195155b1f2efc"), looks := true }, kinds := [], alts := [], laidByText := true, laidKinds := [.data, .data, .data, .data, .sentinel, .sentinel, .sentinel, .pinned], laidTests := true, laidLooks := .later }
def TreeParsesCardSaid : Prop := Claim7.holds Tryz.pinned (.plain (OpenSpec.ofChange treeParsesSpec)) treeParsesCard

/-- THE TIED CARD OF 'bootjacklaw08.TreeBack'. -/
def treeBackCard : Claim7 := { stood := { row := treeBackRow, standIns := [], harness := (true, "50fad4942d532c144046ae4cb2e767ac5a5b93c1df4422a8b2c195155b1f2efc"), looks := true }, kinds := [], alts := [], laidByText := true, laidKinds := [.data, .data, .data, .data, .sentinel, .sentinel, .sentinel, .pinned], laidTests := true, laidLooks := .later }
def TreeBackCardSaid : Prop := Claim7.holds Tryz.pinned (.plain (OpenSpec.ofChange treeBackSpec)) treeBackCard

/-- THE SECOND FORM's CARD OF 'bootjacklaw22.BootTexts'. -/
def bootTextsUptoCard : Claim7 := { stood := { row := bootTextsUptoRow, standIns := [], harness := (true, "50fad4942d532c144046ae4cb2e767ac5a5b93c1df4422a8b2c195155b1f2efc"), looks := true }, kinds := [], alts := [], laidByText := true, laidKinds := [.data, .data, .data, .data, .sentinel, .sentinel, .pinned], laidTests := true, laidLooks := .later }
def BootTextsUptoCardSaid : Prop := Claim7.holds Tryz.pinned (.plain (OpenSpec.upto bootTextsSpec)) bootTextsUptoCard

/-- THE SECOND FORM's CARD OF 'bootjacklaw08.TreeParses'. -/
def treeParsesUptoCard : Claim7 := { stood := { row := treeParsesUptoRow, standIns := [], harness := (true, "50fad4942d532c144046ae4cb2e767ac5a5b93c1df4422a8b2c195155b1f2efc"), looks := true }, kinds := [], alts := [], laidByText := true, laidKinds := [.data, .data, .data, .data, .sentinel, .sentinel, .sentinel, .pinned], laidTests := true, laidLooks := .later }
def TreeParsesUptoCardSaid : Prop := Claim7.holds Tryz.pinned (.plain (OpenSpec.upto treeParsesSpec)) treeParsesUptoCard

/-- THE SECOND FORM's CARD OF 'bootjacklaw08.TreeBack'. -/
def treeBackUptoCard : Claim7 := { stood := { row := treeBackUptoRow, standIns := [], harness := (true, "50fad4942d532c144046ae4cb2e767ac5a5b93c1df4422a8b2c195155b1f2efc"), looks := true }, kinds := [], alts := [], laidByText := true, laidKinds := [.data, .data, .data, .data, .sentinel, .sentinel, .sentinel, .pinned], laidTests := true, laidLooks := .later }
def TreeBackUptoCardSaid : Prop := Claim7.holds Tryz.pinned (.plain (OpenSpec.upto treeBackSpec)) treeBackUptoCard
end Rows
end Go.Proofs.YtdhlklidenfbeaaGreatDoor
