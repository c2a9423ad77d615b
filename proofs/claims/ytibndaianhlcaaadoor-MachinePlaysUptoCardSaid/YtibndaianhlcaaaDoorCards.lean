/-
  DERIVED. GIVEN WITH THE SEED: THE CARDS: each row of YtibndaianhlcaaaDoorRows.lean that lists a variable, with what it lists TIED to the program's text (the seventh form; the later family's looks); each row that meets fmt, with fmt's text TOLD by the authors' own Lean function (tested against real Go, not proved from fmt's source: count such statements apart). THE CARD IS WHAT COUNTS. Prove the row's statement (the work); the ties are given (YtibndaianhlcaaaDoorTie.lean); close each card by the builder's one call (the guide's Derived/Test/ToyasCard.lean, 'card_holds'). Laid BY PROGRAM, IN A SANDBOX (cutbox-door.mjs). By AI agents, Wed Nov 11 2026. No macro, syntax, notation, axiom, sorry.
-/
import Derived.Test.YtibndaianhlcaaaDoorRows
import GoSem.ClaimSeven
namespace Go.Proofs.YtibndaianhlcaaaDoor
namespace Rows

/-- THE TIED CARD OF 'bootjacklaw20.MachineAgain'. -/
def machineAgainCard : Claim7 := { stood := { row := machineAgainRow, standIns := [], harness := (true, "966a6db233a60e906aeb84f150eab76b1fb553f0a66c231a3a47e4ad1ce96ef7"), looks := false }, kinds := [], alts := [], laidByText := true, laidKinds := [.data, .pinned], laidTests := true, laidLooks := .later }
def MachineAgainCardSaid : Prop := Claim7.holds Tryd.pinned (.plain (OpenSpec.ofChange machineAgainSpec)) machineAgainCard

/-- THE TIED CARD OF 'bootjacklaw20.MachineStands'. -/
def machineStandsCard : Claim7 := { stood := { row := machineStandsRow, standIns := [], harness := (true, "966a6db233a60e906aeb84f150eab76b1fb553f0a66c231a3a47e4ad1ce96ef7"), looks := false }, kinds := [], alts := [], laidByText := true, laidKinds := [.data, .pinned], laidTests := true, laidLooks := .later }
def MachineStandsCardSaid : Prop := Claim7.holds Tryd.pinned (.plain (OpenSpec.ofChange machineStandsSpec)) machineStandsCard

/-- THE TIED CARD OF 'bootjacklaw20.MachinePlays'. -/
def machinePlaysCard : Claim7 := { stood := { row := machinePlaysRow, standIns := [], harness := (true, "966a6db233a60e906aeb84f150eab76b1fb553f0a66c231a3a47e4ad1ce96ef7"), looks := false }, kinds := [], alts := [], laidByText := true, laidKinds := [.data, .pinned], laidTests := true, laidLooks := .later }
def MachinePlaysCardSaid : Prop := Claim7.holds Tryd.pinned (.plain (OpenSpec.ofChange machinePlaysSpec)) machinePlaysCard

/-- THE SECOND FORM's CARD OF 'bootjacklaw20.MachineAgain'. -/
def machineAgainUptoCard : Claim7 := { stood := { row := machineAgainUptoRow, standIns := [], harness := (true, "966a6db233a60e906aeb84f150eab76b1fb553f0a66c231a3a47e4ad1ce96ef7"), looks := false }, kinds := [], alts := [], laidByText := true, laidKinds := [.data, .pinned], laidTests := true, laidLooks := .later }
def MachineAgainUptoCardSaid : Prop := Claim7.holds Tryd.pinned (.plain (OpenSpec.upto machineAgainSpec)) machineAgainUptoCard

/-- THE SECOND FORM's CARD OF 'bootjacklaw20.MachineStands'. -/
def machineStandsUptoCard : Claim7 := { stood := { row := machineStandsUptoRow, standIns := [], harness := (true, "966a6db233a60e906aeb84f150eab76b1fb553f0a66c231a3a47e4ad1ce96ef7"), looks := false }, kinds := [], alts := [], laidByText := true, laidKinds := [.data, .pinned], laidTests := true, laidLooks := .later }
def MachineStandsUptoCardSaid : Prop := Claim7.holds Tryd.pinned (.plain (OpenSpec.upto machineStandsSpec)) machineStandsUptoCard

/-- THE SECOND FORM's CARD OF 'bootjacklaw20.MachinePlays'. -/
def machinePlaysUptoCard : Claim7 := { stood := { row := machinePlaysUptoRow, standIns := [], harness := (true, "966a6db233a60e906aeb84f150eab76b1fb553f0a66c231a3a47e4ad1ce96ef7"), looks := false }, kinds := [], alts := [], laidByText := true, laidKinds := [.data, .pinned], laidTests := true, laidLooks := .later }
def MachinePlaysUptoCardSaid : Prop := Claim7.holds Tryd.pinned (.plain (OpenSpec.upto machinePlaysSpec)) machinePlaysUptoCard
end Rows
end Go.Proofs.YtibndaianhlcaaaDoor
