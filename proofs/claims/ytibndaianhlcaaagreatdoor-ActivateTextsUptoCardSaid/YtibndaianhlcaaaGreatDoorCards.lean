/-
  DERIVED. GIVEN WITH THE SEED: THE CARDS: each row of YtibndaianhlcaaaGreatDoorRows.lean that lists a variable, with what it lists TIED to the program's text (the seventh form; the later family's looks); each row that meets fmt, with fmt's text TOLD by the authors' own Lean function (tested against real Go, not proved from fmt's source: count such statements apart). THE CARD IS WHAT COUNTS. Prove the row's statement (the work); the ties are given (YtibndaianhlcaaaGreatDoorTie.lean); close each card by the builder's one call (the guide's Derived/Test/ToyasCard.lean, 'card_holds'). Laid BY PROGRAM, IN A SANDBOX (cutbox-door.mjs). By AI agents, Wed Nov 11 2026. No macro, syntax, notation, axiom, sorry.
-/
import Derived.Test.YtibndaianhlcaaaGreatDoorRows
import GoSem.ClaimSeven
namespace Go.Proofs.YtibndaianhlcaaaGreatDoor
namespace Rows

/-- THE TIED CARD OF 'bootjacklaw21.ActivateSystems'. -/
def activateSystemsCard : Claim7 := { stood := { row := activateSystemsRow, standIns := [], harness := (true, "a9f9a73c91ba853158315eaf8c04db0c4ec28937ec1d2a2657007ae2a30c0b5e"), looks := true }, kinds := [], alts := [], laidByText := true, laidKinds := [.data, .data, .data, .data, .pinned], laidTests := true, laidLooks := .later }
def ActivateSystemsCardSaid : Prop := Claim7.holds Tryz.pinned (.plain (OpenSpec.ofChange activateSystemsSpec)) activateSystemsCard

/-- THE TIED CARD OF 'bootjacklaw21.ActivateRuns'. -/
def activateRunsCard : Claim7 := { stood := { row := activateRunsRow, standIns := [], harness := (true, "a9f9a73c91ba853158315eaf8c04db0c4ec28937ec1d2a2657007ae2a30c0b5e"), looks := true }, kinds := [], alts := [], laidByText := true, laidKinds := [.data, .data, .data, .data, .pinned], laidTests := true, laidLooks := .later }
def ActivateRunsCardSaid : Prop := Claim7.holds Tryz.pinned (.plain (OpenSpec.ofChange activateRunsSpec)) activateRunsCard

/-- THE TIED CARD OF 'bootjacklaw21.ActivateReaches'. -/
def activateReachesCard : Claim7 := { stood := { row := activateReachesRow, standIns := [], harness := (true, "a9f9a73c91ba853158315eaf8c04db0c4ec28937ec1d2a2657007ae2a30c0b5e"), looks := true }, kinds := [], alts := [], laidByText := true, laidKinds := [.data, .data, .data, .data, .pinned], laidTests := true, laidLooks := .later }
def ActivateReachesCardSaid : Prop := Claim7.holds Tryz.pinned (.plain (OpenSpec.ofChange activateReachesSpec)) activateReachesCard

/-- THE TIED CARD OF 'bootjacklaw21.ActivateFails'. -/
def activateFailsCard : Claim7 := { stood := { row := activateFailsRow, standIns := [], harness := (true, "a9f9a73c91ba853158315eaf8c04db0c4ec28937ec1d2a2657007ae2a30c0b5e"), looks := true }, kinds := [], alts := [], laidByText := true, laidKinds := [.data, .data, .data, .data, .pinned], laidTests := true, laidLooks := .later }
def ActivateFailsCardSaid : Prop := Claim7.holds Tryz.pinned (.plain (OpenSpec.ofChange activateFailsSpec)) activateFailsCard

/-- THE TIED CARD OF 'bootjacklaw21.ActivateReads'. -/
def activateReadsCard : Claim7 := { stood := { row := activateReadsRow, standIns := [], harness := (true, "a9f9a73c91ba853158315eaf8c04db0c4ec28937ec1d2a2657007ae2a30c0b5e"), looks := true }, kinds := [], alts := [], laidByText := true, laidKinds := [.data, .data, .data, .data, .pinned], laidTests := true, laidLooks := .later }
def ActivateReadsCardSaid : Prop := Claim7.holds Tryz.pinned (.plain (OpenSpec.ofChange activateReadsSpec)) activateReadsCard

/-- THE TIED CARD OF 'bootjacklaw21.ActivateTexts'. -/
def activateTextsCard : Claim7 := { stood := { row := activateTextsRow, standIns := [], harness := (true, "a9f9a73c91ba853158315eaf8c04db0c4ec28937ec1d2a2657007ae2a30c0b5e"), looks := true }, kinds := [], alts := [], laidByText := true, laidKinds := [.data, .data, .data, .data, .sentinel, .sentinel, .pinned], laidTests := true, laidLooks := .later }
def ActivateTextsCardSaid : Prop := Claim7.holds Tryz.pinned (.plain (OpenSpec.ofChange activateTextsSpec)) activateTextsCard

/-- THE TIED CARD OF 'bootjacklaw21.ActivateParses'. -/
def activateParsesCard : Claim7 := { stood := { row := activateParsesRow, standIns := [], harness := (true, "a9f9a73c91ba853158315eaf8c04db0c4ec28937ec1d2a2657007ae2a30c0b5e"), looks := true }, kinds := [], alts := [], laidByText := true, laidKinds := [.data, .data, .data, .data, .sentinel, .sentinel, .pinned], laidTests := true, laidLooks := .later }
def ActivateParsesCardSaid : Prop := Claim7.holds Tryz.pinned (.plain (OpenSpec.ofChange activateParsesSpec)) activateParsesCard

/-- THE SECOND FORM's CARD OF 'bootjacklaw21.ActivateSystems'. -/
def activateSystemsUptoCard : Claim7 := { stood := { row := activateSystemsUptoRow, standIns := [], harness := (true, "a9f9a73c91ba853158315eaf8c04db0c4ec28937ec1d2a2657007ae2a30c0b5e"), looks := true }, kinds := [], alts := [], laidByText := true, laidKinds := [.data, .data, .data, .data, .pinned], laidTests := true, laidLooks := .later }
def ActivateSystemsUptoCardSaid : Prop := Claim7.holds Tryz.pinned (.plain (OpenSpec.upto activateSystemsSpec)) activateSystemsUptoCard

/-- THE SECOND FORM's CARD OF 'bootjacklaw21.ActivateRuns'. -/
def activateRunsUptoCard : Claim7 := { stood := { row := activateRunsUptoRow, standIns := [], harness := (true, "a9f9a73c91ba853158315eaf8c04db0c4ec28937ec1d2a2657007ae2a30c0b5e"), looks := true }, kinds := [], alts := [], laidByText := true, laidKinds := [.data, .data, .data, .data, .pinned], laidTests := true, laidLooks := .later }
def ActivateRunsUptoCardSaid : Prop := Claim7.holds Tryz.pinned (.plain (OpenSpec.upto activateRunsSpec)) activateRunsUptoCard

/-- THE SECOND FORM's CARD OF 'bootjacklaw21.ActivateReaches'. -/
def activateReachesUptoCard : Claim7 := { stood := { row := activateReachesUptoRow, standIns := [], harness := (true, "a9f9a73c91ba853158315eaf8c04db0c4ec28937ec1d2a2657007ae2a30c0b5e"), looks := true }, kinds := [], alts := [], laidByText := true, laidKinds := [.data, .data, .data, .data, .pinned], laidTests := true, laidLooks := .later }
def ActivateReachesUptoCardSaid : Prop := Claim7.holds Tryz.pinned (.plain (OpenSpec.upto activateReachesSpec)) activateReachesUptoCard

/-- THE SECOND FORM's CARD OF 'bootjacklaw21.ActivateFails'. -/
def activateFailsUptoCard : Claim7 := { stood := { row := activateFailsUptoRow, standIns := [], harness := (true, "a9f9a73c91ba853158315eaf8c04db0c4ec28937ec1d2a2657007ae2a30c0b5e"), looks := true }, kinds := [], alts := [], laidByText := true, laidKinds := [.data, .data, .data, .data, .pinned], laidTests := true, laidLooks := .later }
def ActivateFailsUptoCardSaid : Prop := Claim7.holds Tryz.pinned (.plain (OpenSpec.upto activateFailsSpec)) activateFailsUptoCard

/-- THE SECOND FORM's CARD OF 'bootjacklaw21.ActivateReads'. -/
def activateReadsUptoCard : Claim7 := { stood := { row := activateReadsUptoRow, standIns := [], harness := (true, "a9f9a73c91ba853158315eaf8c04db0c4ec28937ec1d2a2657007ae2a30c0b5e"), looks := true }, kinds := [], alts := [], laidByText := true, laidKinds := [.data, .data, .data, .data, .pinned], laidTests := true, laidLooks := .later }
def ActivateReadsUptoCardSaid : Prop := Claim7.holds Tryz.pinned (.plain (OpenSpec.upto activateReadsSpec)) activateReadsUptoCard

/-- THE SECOND FORM's CARD OF 'bootjacklaw21.ActivateTexts'. -/
def activateTextsUptoCard : Claim7 := { stood := { row := activateTextsUptoRow, standIns := [], harness := (true, "a9f9a73c91ba853158315eaf8c04db0c4ec28937ec1d2a2657007ae2a30c0b5e"), looks := true }, kinds := [], alts := [], laidByText := true, laidKinds := [.data, .data, .data, .data, .sentinel, .sentinel, .pinned], laidTests := true, laidLooks := .later }
def ActivateTextsUptoCardSaid : Prop := Claim7.holds Tryz.pinned (.plain (OpenSpec.upto activateTextsSpec)) activateTextsUptoCard

/-- THE SECOND FORM's CARD OF 'bootjacklaw21.ActivateParses'. -/
def activateParsesUptoCard : Claim7 := { stood := { row := activateParsesUptoRow, standIns := [], harness := (true, "a9f9a73c91ba853158315eaf8c04db0c4ec28937ec1d2a2657007ae2a30c0b5e"), looks := true }, kinds := [], alts := [], laidByText := true, laidKinds := [.data, .data, .data, .data, .sentinel, .sentinel, .pinned], laidTests := true, laidLooks := .later }
def ActivateParsesUptoCardSaid : Prop := Claim7.holds Tryz.pinned (.plain (OpenSpec.upto activateParsesSpec)) activateParsesUptoCard
end Rows
end Go.Proofs.YtibndaianhlcaaaGreatDoor
