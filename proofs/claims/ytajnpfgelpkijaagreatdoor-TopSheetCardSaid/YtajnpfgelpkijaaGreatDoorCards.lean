/-
  DERIVED. GIVEN WITH THE SEED: THE CARDS: each row of YtajnpfgelpkijaaGreatDoorRows.lean that lists a variable, with what it lists TIED to the program's text (the seventh form; the later family's looks); each row that meets fmt, with fmt's text TOLD by the authors' own Lean function (tested against real Go, not proved from fmt's source: count such statements apart). THE CARD IS WHAT COUNTS. Prove the row's statement (the work); the ties are given (YtajnpfgelpkijaaGreatDoorTie.lean); close each card by the builder's one call (the guide's Derived/Test/ToyasCard.lean, 'card_holds'). Laid BY PROGRAM, IN A SANDBOX (cutbox-door.mjs). By AI agents, Wed Nov 11 2026. No macro, syntax, notation, axiom, sorry.
-/
import Derived.Test.YtajnpfgelpkijaaGreatDoorRows
import GoSem.ClaimSeven
namespace Go.Proofs.YtajnpfgelpkijaaGreatDoor
namespace Rows

/-- THE TIED CARD OF 'foretelllaw.SheetReads'. -/
def sheetReadsCard : Claim7 := { stood := { row := sheetReadsRow, standIns := [], harness := (true, "8f02847030c17fa36389fd32a37fb10c856a89c057403937ae98103a29449260"), looks := true }, kinds := [], alts := [], laidByText := true, laidKinds := [.data, .data, .data, .data, .sentinel, .sentinel, .data, .data, .pinned], laidTests := true, laidLooks := .later }
def SheetReadsCardSaid : Prop := Claim7.holds Tryz.pinned (.plain (OpenSpec.ofChange sheetReadsSpec)) sheetReadsCard

/-- THE TIED CARD OF 'foretelltop.TopSheet'. -/
def topSheetCard : Claim7 := { stood := { row := topSheetRow, standIns := [], harness := (true, "8f02847030c17fa36389fd32a37fb10c856a89c057403937ae98103a29449260"), looks := true }, kinds := [], alts := [], laidByText := true, laidKinds := [.data, .data, .data, .data, .sentinel, .sentinel, .data, .data, .pinned], laidTests := true, laidLooks := .later }
def TopSheetCardSaid : Prop := Claim7.holds Tryz.pinned (.plain (OpenSpec.ofChange topSheetSpec)) topSheetCard

/-- THE SECOND FORM's CARD OF 'foretelllaw.SheetReads'. -/
def sheetReadsUptoCard : Claim7 := { stood := { row := sheetReadsUptoRow, standIns := [], harness := (true, "8f02847030c17fa36389fd32a37fb10c856a89c057403937ae98103a29449260"), looks := true }, kinds := [], alts := [], laidByText := true, laidKinds := [.data, .data, .data, .data, .sentinel, .sentinel, .data, .data, .pinned], laidTests := true, laidLooks := .later }
def SheetReadsUptoCardSaid : Prop := Claim7.holds Tryz.pinned (.plain (OpenSpec.upto sheetReadsSpec)) sheetReadsUptoCard

/-- THE SECOND FORM's CARD OF 'foretelltop.TopSheet'. -/
def topSheetUptoCard : Claim7 := { stood := { row := topSheetUptoRow, standIns := [], harness := (true, "8f02847030c17fa36389fd32a37fb10c856a89c057403937ae98103a29449260"), looks := true }, kinds := [], alts := [], laidByText := true, laidKinds := [.data, .data, .data, .data, .sentinel, .sentinel, .data, .data, .pinned], laidTests := true, laidLooks := .later }
def TopSheetUptoCardSaid : Prop := Claim7.holds Tryz.pinned (.plain (OpenSpec.upto topSheetSpec)) topSheetUptoCard
end Rows
end Go.Proofs.YtajnpfgelpkijaaGreatDoor
