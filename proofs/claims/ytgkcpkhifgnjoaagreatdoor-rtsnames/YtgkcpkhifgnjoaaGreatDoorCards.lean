/-
  DERIVED. GIVEN WITH THE SEED: THE CARDS: each row of YtgkcpkhifgnjoaaGreatDoorRows.lean that lists a variable, with what it lists TIED to the program's text (the seventh form; the later family's looks); each row that meets fmt, with fmt's text TOLD by the authors' own Lean function (tested against real Go, not proved from fmt's source: count such statements apart). THE CARD IS WHAT COUNTS. Prove the row's statement (the work); the ties are given (YtgkcpkhifgnjoaaGreatDoorTie.lean); close each card by the builder's one call (the guide's Derived/Test/ToyasCard.lean, 'card_holds'). Laid BY PROGRAM, IN A SANDBOX (cutbox-door.mjs). By AI agents, Wed Nov 11 2026. No macro, syntax, notation, axiom, sorry.
-/
import Derived.Test.YtgkcpkhifgnjoaaGreatDoorRows
import GoSem.ClaimSeven
namespace Go.Proofs.YtgkcpkhifgnjoaaGreatDoor
namespace Rows

/-- THE TIED CARD OF 'thunkmilllaw25.MachineNames'. -/
def machineNamesCard : Claim7 := { stood := { row := machineNamesRow, standIns := [], harness := (true, "b32f1650c3825ed716dbdf67a4a90998d1cae2fc7440720847d22b023cd01e98"), looks := false }, kinds := [], alts := [], laidByText := true, laidKinds := [.data, .data, .data], laidTests := true, laidLooks := .later }
def MachineNamesCardSaid : Prop := Claim7.holds Tryz.pinned (.plain (OpenSpec.ofChange machineNamesSpec)) machineNamesCard

/-- THE TIED CARD OF 'thunkmilllaw25.MachineNil'. -/
def machineNilCard : Claim7 := { stood := { row := machineNilRow, standIns := [], harness := (true, "b32f1650c3825ed716dbdf67a4a90998d1cae2fc7440720847d22b023cd01e98"), looks := false }, kinds := [], alts := [], laidByText := true, laidKinds := [.data, .data, .data], laidTests := true, laidLooks := .later }
def MachineNilCardSaid : Prop := Claim7.holds Tryz.pinned (.plain (OpenSpec.ofChange machineNilSpec)) machineNilCard

/-- THE TIED CARD OF 'thunkmilllaw26.RtsNames'. -/
def rtsNamesCard : Claim7 := { stood := { row := rtsNamesRow, standIns := [], harness := (true, "b32f1650c3825ed716dbdf67a4a90998d1cae2fc7440720847d22b023cd01e98"), looks := false }, kinds := [], alts := [], laidByText := true, laidKinds := [.data, .data, .data], laidTests := true, laidLooks := .later }
def RtsNamesCardSaid : Prop := Claim7.holds Tryz.pinned (.plain (OpenSpec.ofChange rtsNamesSpec)) rtsNamesCard

/-- THE TIED CARD OF 'thunkmilllaw26.RtsNil'. -/
def rtsNilCard : Claim7 := { stood := { row := rtsNilRow, standIns := [], harness := (true, "b32f1650c3825ed716dbdf67a4a90998d1cae2fc7440720847d22b023cd01e98"), looks := false }, kinds := [], alts := [], laidByText := true, laidKinds := [.data, .data, .data], laidTests := true, laidLooks := .later }
def RtsNilCardSaid : Prop := Claim7.holds Tryz.pinned (.plain (OpenSpec.ofChange rtsNilSpec)) rtsNilCard

/-- THE SECOND FORM's CARD OF 'thunkmilllaw25.MachineNames'. -/
def machineNamesUptoCard : Claim7 := { stood := { row := machineNamesUptoRow, standIns := [], harness := (true, "b32f1650c3825ed716dbdf67a4a90998d1cae2fc7440720847d22b023cd01e98"), looks := false }, kinds := [], alts := [], laidByText := true, laidKinds := [.data, .data, .data], laidTests := true, laidLooks := .later }
def MachineNamesUptoCardSaid : Prop := Claim7.holds Tryz.pinned (.plain (OpenSpec.upto machineNamesSpec)) machineNamesUptoCard

/-- THE SECOND FORM's CARD OF 'thunkmilllaw25.MachineNil'. -/
def machineNilUptoCard : Claim7 := { stood := { row := machineNilUptoRow, standIns := [], harness := (true, "b32f1650c3825ed716dbdf67a4a90998d1cae2fc7440720847d22b023cd01e98"), looks := false }, kinds := [], alts := [], laidByText := true, laidKinds := [.data, .data, .data], laidTests := true, laidLooks := .later }
def MachineNilUptoCardSaid : Prop := Claim7.holds Tryz.pinned (.plain (OpenSpec.upto machineNilSpec)) machineNilUptoCard

/-- THE SECOND FORM's CARD OF 'thunkmilllaw26.RtsNames'. -/
def rtsNamesUptoCard : Claim7 := { stood := { row := rtsNamesUptoRow, standIns := [], harness := (true, "b32f1650c3825ed716dbdf67a4a90998d1cae2fc7440720847d22b023cd01e98"), looks := false }, kinds := [], alts := [], laidByText := true, laidKinds := [.data, .data, .data], laidTests := true, laidLooks := .later }
def RtsNamesUptoCardSaid : Prop := Claim7.holds Tryz.pinned (.plain (OpenSpec.upto rtsNamesSpec)) rtsNamesUptoCard

/-- THE SECOND FORM's CARD OF 'thunkmilllaw26.RtsNil'. -/
def rtsNilUptoCard : Claim7 := { stood := { row := rtsNilUptoRow, standIns := [], harness := (true, "b32f1650c3825ed716dbdf67a4a90998d1cae2fc7440720847d22b023cd01e98"), looks := false }, kinds := [], alts := [], laidByText := true, laidKinds := [.data, .data, .data], laidTests := true, laidLooks := .later }
def RtsNilUptoCardSaid : Prop := Claim7.holds Tryz.pinned (.plain (OpenSpec.upto rtsNilSpec)) rtsNilUptoCard
end Rows
end Go.Proofs.YtgkcpkhifgnjoaaGreatDoor
