/-
  DERIVED. GIVEN WITH THE SEED: THE CARDS: each row of YtdhlklidenfbeaaDoorRows.lean that lists a variable, with what it lists TIED to the program's text (the seventh form; the later family's looks); each row that meets fmt, with fmt's text TOLD by the authors' own Lean function (tested against real Go, not proved from fmt's source: count such statements apart). THE CARD IS WHAT COUNTS. Prove the row's statement (the work); the ties are given (YtdhlklidenfbeaaDoorTie.lean); close each card by the builder's one call (the guide's Derived/Test/ToyasCard.lean, 'card_holds'). Laid BY PROGRAM, IN A SANDBOX (cutbox-door.mjs). By AI agents, Wed Nov 11 2026. No macro, syntax, notation, axiom, sorry.
-/
import Derived.Test.YtdhlklidenfbeaaDoorRows
import GoSem.ClaimSeven
namespace Go.Proofs.YtdhlklidenfbeaaDoor
namespace Rows

/-- THE TIED CARD OF 'bootjacklaw20.MachineAgain'. -/
def machineAgainCard : Claim7 := { stood := { row := machineAgainRow, standIns := [], harness := (true, "813300f6ae9ba3eced0b7d2037cc450550bc67ec5ca64bd4fae894c9d476025a"), looks := false }, kinds := [], alts := [], laidByText := true, laidKinds := [.data, .pinned], laidTests := true, laidLooks := .later }
def MachineAgainCardSaid : Prop := Claim7.holds Tryd.pinned (.plain (OpenSpec.ofChange machineAgainSpec)) machineAgainCard

/-- THE TIED CARD OF 'bootjacklaw20.MachineStands'. -/
def machineStandsCard : Claim7 := { stood := { row := machineStandsRow, standIns := [], harness := (true, "813300f6ae9ba3eced0b7d2037cc450550bc67ec5ca64bd4fae894c9d476025a"), looks := false }, kinds := [], alts := [], laidByText := true, laidKinds := [.data, .pinned], laidTests := true, laidLooks := .later }
def MachineStandsCardSaid : Prop := Claim7.holds Tryd.pinned (.plain (OpenSpec.ofChange machineStandsSpec)) machineStandsCard

/-- THE TIED CARD OF 'bootjacklaw20.MachinePlays'. -/
def machinePlaysCard : Claim7 := { stood := { row := machinePlaysRow, standIns := [], harness := (true, "813300f6ae9ba3eced0b7d2037cc450550bc67ec5ca64bd4fae894c9d476025a"), looks := false }, kinds := [], alts := [], laidByText := true, laidKinds := [.data, .pinned], laidTests := true, laidLooks := .later }
def MachinePlaysCardSaid : Prop := Claim7.holds Tryd.pinned (.plain (OpenSpec.ofChange machinePlaysSpec)) machinePlaysCard

/-- THE TIED CARD OF 'bootjacklaw22.BootNumbers'. -/
def bootNumbersCard : Claim7 := { stood := { row := bootNumbersRow, standIns := [], harness := (true, "813300f6ae9ba3eced0b7d2037cc450550bc67ec5ca64bd4fae894c9d476025a"), looks := false }, kinds := [], alts := [], laidByText := true, laidKinds := [.data, .data, .data], laidTests := true, laidLooks := .later }
def BootNumbersCardSaid : Prop := Claim7.holds Tryd.pinned (.plain (OpenSpec.ofChange bootNumbersSpec)) bootNumbersCard

/-- THE TIED CARD OF 'bootjacklaw22.BootTrial'. -/
def bootTrialCard : Claim7 := { stood := { row := bootTrialRow, standIns := [], harness := (true, "813300f6ae9ba3eced0b7d2037cc450550bc67ec5ca64bd4fae894c9d476025a"), looks := false }, kinds := [], alts := [], laidByText := true, laidKinds := [.data, .data, .data], laidTests := true, laidLooks := .later }
def BootTrialCardSaid : Prop := Claim7.holds Tryd.pinned (.plain (OpenSpec.ofChange bootTrialSpec)) bootTrialCard

/-- THE TIED CARD OF 'bootjacklaw22.BootMenus'. -/
def bootMenusCard : Claim7 := { stood := { row := bootMenusRow, standIns := [], harness := (true, "813300f6ae9ba3eced0b7d2037cc450550bc67ec5ca64bd4fae894c9d476025a"), looks := false }, kinds := [], alts := [], laidByText := true, laidKinds := [.data, .data, .data], laidTests := true, laidLooks := .later }
def BootMenusCardSaid : Prop := Claim7.holds Tryd.pinned (.plain (OpenSpec.ofChange bootMenusSpec)) bootMenusCard

/-- THE TIED CARD OF 'bootjacklaw08.TreeRefs'. -/
def treeRefsCard : Claim7 := { stood := { row := treeRefsRow, standIns := [], harness := (true, "813300f6ae9ba3eced0b7d2037cc450550bc67ec5ca64bd4fae894c9d476025a"), looks := false }, kinds := [], alts := [], laidByText := true, laidKinds := [.data, .data, .data, .data, .sentinel, .pinned], laidTests := true, laidLooks := .later }
def TreeRefsCardSaid : Prop := Claim7.holds Tryd.pinned (.plain (OpenSpec.ofChange treeRefsSpec)) treeRefsCard

/-- THE TIED CARD OF 'bootjacklaw08.TreeFinds'. -/
def treeFindsCard : Claim7 := { stood := { row := treeFindsRow, standIns := [], harness := (true, "813300f6ae9ba3eced0b7d2037cc450550bc67ec5ca64bd4fae894c9d476025a"), looks := false }, kinds := [], alts := [], laidByText := true, laidKinds := [.data, .data, .data, .data, .sentinel, .pinned], laidTests := true, laidLooks := .later }
def TreeFindsCardSaid : Prop := Claim7.holds Tryd.pinned (.plain (OpenSpec.ofChange treeFindsSpec)) treeFindsCard

/-- THE TIED CARD OF 'bootjacklaw08.TreeBytes'. -/
def treeBytesCard : Claim7 := { stood := { row := treeBytesRow, standIns := [], harness := (true, "813300f6ae9ba3eced0b7d2037cc450550bc67ec5ca64bd4fae894c9d476025a"), looks := false }, kinds := [], alts := [], laidByText := true, laidKinds := [.data, .data, .data, .data, .sentinel, .pinned], laidTests := true, laidLooks := .later }
def TreeBytesCardSaid : Prop := Claim7.holds Tryd.pinned (.plain (OpenSpec.ofChange treeBytesSpec)) treeBytesCard

/-- THE SECOND FORM's CARD OF 'bootjacklaw20.MachineAgain'. -/
def machineAgainUptoCard : Claim7 := { stood := { row := machineAgainUptoRow, standIns := [], harness := (true, "813300f6ae9ba3eced0b7d2037cc450550bc67ec5ca64bd4fae894c9d476025a"), looks := false }, kinds := [], alts := [], laidByText := true, laidKinds := [.data, .pinned], laidTests := true, laidLooks := .later }
def MachineAgainUptoCardSaid : Prop := Claim7.holds Tryd.pinned (.plain (OpenSpec.upto machineAgainSpec)) machineAgainUptoCard

/-- THE SECOND FORM's CARD OF 'bootjacklaw20.MachineStands'. -/
def machineStandsUptoCard : Claim7 := { stood := { row := machineStandsUptoRow, standIns := [], harness := (true, "813300f6ae9ba3eced0b7d2037cc450550bc67ec5ca64bd4fae894c9d476025a"), looks := false }, kinds := [], alts := [], laidByText := true, laidKinds := [.data, .pinned], laidTests := true, laidLooks := .later }
def MachineStandsUptoCardSaid : Prop := Claim7.holds Tryd.pinned (.plain (OpenSpec.upto machineStandsSpec)) machineStandsUptoCard

/-- THE SECOND FORM's CARD OF 'bootjacklaw20.MachinePlays'. -/
def machinePlaysUptoCard : Claim7 := { stood := { row := machinePlaysUptoRow, standIns := [], harness := (true, "813300f6ae9ba3eced0b7d2037cc450550bc67ec5ca64bd4fae894c9d476025a"), looks := false }, kinds := [], alts := [], laidByText := true, laidKinds := [.data, .pinned], laidTests := true, laidLooks := .later }
def MachinePlaysUptoCardSaid : Prop := Claim7.holds Tryd.pinned (.plain (OpenSpec.upto machinePlaysSpec)) machinePlaysUptoCard

/-- THE SECOND FORM's CARD OF 'bootjacklaw22.BootNumbers'. -/
def bootNumbersUptoCard : Claim7 := { stood := { row := bootNumbersUptoRow, standIns := [], harness := (true, "813300f6ae9ba3eced0b7d2037cc450550bc67ec5ca64bd4fae894c9d476025a"), looks := false }, kinds := [], alts := [], laidByText := true, laidKinds := [.data, .data, .data], laidTests := true, laidLooks := .later }
def BootNumbersUptoCardSaid : Prop := Claim7.holds Tryd.pinned (.plain (OpenSpec.upto bootNumbersSpec)) bootNumbersUptoCard

/-- THE SECOND FORM's CARD OF 'bootjacklaw22.BootTrial'. -/
def bootTrialUptoCard : Claim7 := { stood := { row := bootTrialUptoRow, standIns := [], harness := (true, "813300f6ae9ba3eced0b7d2037cc450550bc67ec5ca64bd4fae894c9d476025a"), looks := false }, kinds := [], alts := [], laidByText := true, laidKinds := [.data, .data, .data], laidTests := true, laidLooks := .later }
def BootTrialUptoCardSaid : Prop := Claim7.holds Tryd.pinned (.plain (OpenSpec.upto bootTrialSpec)) bootTrialUptoCard

/-- THE SECOND FORM's CARD OF 'bootjacklaw22.BootMenus'. -/
def bootMenusUptoCard : Claim7 := { stood := { row := bootMenusUptoRow, standIns := [], harness := (true, "813300f6ae9ba3eced0b7d2037cc450550bc67ec5ca64bd4fae894c9d476025a"), looks := false }, kinds := [], alts := [], laidByText := true, laidKinds := [.data, .data, .data], laidTests := true, laidLooks := .later }
def BootMenusUptoCardSaid : Prop := Claim7.holds Tryd.pinned (.plain (OpenSpec.upto bootMenusSpec)) bootMenusUptoCard

/-- THE SECOND FORM's CARD OF 'bootjacklaw08.TreeRefs'. -/
def treeRefsUptoCard : Claim7 := { stood := { row := treeRefsUptoRow, standIns := [], harness := (true, "813300f6ae9ba3eced0b7d2037cc450550bc67ec5ca64bd4fae894c9d476025a"), looks := false }, kinds := [], alts := [], laidByText := true, laidKinds := [.data, .data, .data, .data, .sentinel, .pinned], laidTests := true, laidLooks := .later }
def TreeRefsUptoCardSaid : Prop := Claim7.holds Tryd.pinned (.plain (OpenSpec.upto treeRefsSpec)) treeRefsUptoCard

/-- THE SECOND FORM's CARD OF 'bootjacklaw08.TreeFinds'. -/
def treeFindsUptoCard : Claim7 := { stood := { row := treeFindsUptoRow, standIns := [], harness := (true, "813300f6ae9ba3eced0b7d2037cc450550bc67ec5ca64bd4fae894c9d476025a"), looks := false }, kinds := [], alts := [], laidByText := true, laidKinds := [.data, .data, .data, .data, .sentinel, .pinned], laidTests := true, laidLooks := .later }
def TreeFindsUptoCardSaid : Prop := Claim7.holds Tryd.pinned (.plain (OpenSpec.upto treeFindsSpec)) treeFindsUptoCard

/-- THE SECOND FORM's CARD OF 'bootjacklaw08.TreeBytes'. -/
def treeBytesUptoCard : Claim7 := { stood := { row := treeBytesUptoRow, standIns := [], harness := (true, "813300f6ae9ba3eced0b7d2037cc450550bc67ec5ca64bd4fae894c9d476025a"), looks := false }, kinds := [], alts := [], laidByText := true, laidKinds := [.data, .data, .data, .data, .sentinel, .pinned], laidTests := true, laidLooks := .later }
def TreeBytesUptoCardSaid : Prop := Claim7.holds Tryd.pinned (.plain (OpenSpec.upto treeBytesSpec)) treeBytesUptoCard
end Rows
end Go.Proofs.YtdhlklidenfbeaaDoor
