/-
  DERIVED. GIVEN WITH THE SEED: THE CARDS: each row of YtnlfhnbcdfdhgaaGreatDoorRows.lean that lists a variable, with what it lists TIED to the program's text (the seventh form; the later family's looks); each row that meets fmt, with fmt's text TOLD by the authors' own Lean function (tested against real Go, not proved from fmt's source: count such statements apart). THE CARD IS WHAT COUNTS. Prove the row's statement (the work); the ties are given (YtnlfhnbcdfdhgaaGreatDoorTie.lean); close each card by the builder's one call (the guide's Derived/Test/ToyasCard.lean, 'card_holds'). Laid BY PROGRAM, IN A SANDBOX (cutbox-door.mjs). By AI agents, Wed Nov 11 2026. No macro, syntax, notation, axiom, sorry.
-/
import Derived.Test.YtnlfhnbcdfdhgaaGreatDoorRows
import GoSem.ClaimSeven
namespace Go.Proofs.YtnlfhnbcdfdhgaaGreatDoor
namespace Rows

/-- THE TIED CARD OF 'foretelllaw.SearchRuns'. -/
def searchRunsCard : Claim7 := { stood := { row := searchRunsRow, standIns := [], harness := (true, "88077404fbda62450799a89cb31b9870ddcad1be0a5cc98cc1432062d0aff77f"), looks := true }, kinds := [], alts := [], laidByText := true, laidKinds := [.data], laidTests := true, laidLooks := .later }
def SearchRunsCardSaid : Prop := Claim7.holds Tryz.pinned (.plain (OpenSpec.ofChange searchRunsSpec)) searchRunsCard

/-- THE TIED CARD OF 'foretelltop.SearchBounds'. -/
def searchBoundsCard : Claim7 := { stood := { row := searchBoundsRow, standIns := [], harness := (true, "88077404fbda62450799a89cb31b9870ddcad1be0a5cc98cc1432062d0aff77f"), looks := true }, kinds := [], alts := [], laidByText := true, laidKinds := [.data], laidTests := true, laidLooks := .later }
def SearchBoundsCardSaid : Prop := Claim7.holds Tryz.pinned (.plain (OpenSpec.ofChange searchBoundsSpec)) searchBoundsCard

/-- THE TIED CARD OF 'foretelltop.SearchSaved'. -/
def searchSavedCard : Claim7 := { stood := { row := searchSavedRow, standIns := [], harness := (true, "88077404fbda62450799a89cb31b9870ddcad1be0a5cc98cc1432062d0aff77f"), looks := true }, kinds := [], alts := [], laidByText := true, laidKinds := [.data], laidTests := true, laidLooks := .later }
def SearchSavedCardSaid : Prop := Claim7.holds Tryz.pinned (.plain (OpenSpec.ofChange searchSavedSpec)) searchSavedCard

/-- THE TIED CARD OF 'foretelltop.SearchCrash'. -/
def searchCrashCard : Claim7 := { stood := { row := searchCrashRow, standIns := [], harness := (true, "88077404fbda62450799a89cb31b9870ddcad1be0a5cc98cc1432062d0aff77f"), looks := true }, kinds := [], alts := [], laidByText := true, laidKinds := [.data], laidTests := true, laidLooks := .later }
def SearchCrashCardSaid : Prop := Claim7.holds Tryz.pinned (.plain (OpenSpec.ofChange searchCrashSpec)) searchCrashCard

/-- THE TIED CARD OF 'foretelltop.SearchAgain'. -/
def searchAgainCard : Claim7 := { stood := { row := searchAgainRow, standIns := [], harness := (true, "88077404fbda62450799a89cb31b9870ddcad1be0a5cc98cc1432062d0aff77f"), looks := true }, kinds := [], alts := [], laidByText := true, laidKinds := [.data], laidTests := true, laidLooks := .later }
def SearchAgainCardSaid : Prop := Claim7.holds Tryz.pinned (.plain (OpenSpec.ofChange searchAgainSpec)) searchAgainCard

/-- THE TIED CARD OF 'foretelltop.SearchDown'. -/
def searchDownCard : Claim7 := { stood := { row := searchDownRow, standIns := [], harness := (true, "88077404fbda62450799a89cb31b9870ddcad1be0a5cc98cc1432062d0aff77f"), looks := true }, kinds := [], alts := [], laidByText := true, laidKinds := [.data], laidTests := true, laidLooks := .later }
def SearchDownCardSaid : Prop := Claim7.holds Tryz.pinned (.plain (OpenSpec.ofChange searchDownSpec)) searchDownCard

/-- THE TIED CARD OF 'foretelltop.SearchParts'. -/
def searchPartsCard : Claim7 := { stood := { row := searchPartsRow, standIns := [], harness := (true, "88077404fbda62450799a89cb31b9870ddcad1be0a5cc98cc1432062d0aff77f"), looks := true }, kinds := [], alts := [], laidByText := true, laidKinds := [.data], laidTests := true, laidLooks := .later }
def SearchPartsCardSaid : Prop := Claim7.holds Tryz.pinned (.plain (OpenSpec.ofChange searchPartsSpec)) searchPartsCard

/-- THE TIED CARD OF 'foretelltop.SearchCalm'. -/
def searchCalmCard : Claim7 := { stood := { row := searchCalmRow, standIns := [], harness := (true, "88077404fbda62450799a89cb31b9870ddcad1be0a5cc98cc1432062d0aff77f"), looks := true }, kinds := [], alts := [], laidByText := true, laidKinds := [.data], laidTests := true, laidLooks := .later }
def SearchCalmCardSaid : Prop := Claim7.holds Tryz.pinned (.plain (OpenSpec.ofChange searchCalmSpec)) searchCalmCard

/-- THE TIED CARD OF 'foretelltop.SearchSame'. -/
def searchSameCard : Claim7 := { stood := { row := searchSameRow, standIns := [], harness := (true, "88077404fbda62450799a89cb31b9870ddcad1be0a5cc98cc1432062d0aff77f"), looks := true }, kinds := [], alts := [], laidByText := true, laidKinds := [.data], laidTests := true, laidLooks := .later }
def SearchSameCardSaid : Prop := Claim7.holds Tryz.pinned (.plain (OpenSpec.ofChange searchSameSpec)) searchSameCard

/-- THE TIED CARD OF 'foretelltop.SearchEnough'. -/
def searchEnoughCard : Claim7 := { stood := { row := searchEnoughRow, standIns := [], harness := (true, "88077404fbda62450799a89cb31b9870ddcad1be0a5cc98cc1432062d0aff77f"), looks := true }, kinds := [], alts := [], laidByText := true, laidKinds := [.data], laidTests := true, laidLooks := .later }
def SearchEnoughCardSaid : Prop := Claim7.holds Tryz.pinned (.plain (OpenSpec.ofChange searchEnoughSpec)) searchEnoughCard

/-- THE TIED CARD OF 'foretelltop.SearchTruth'. -/
def searchTruthCard : Claim7 := { stood := { row := searchTruthRow, standIns := [], harness := (true, "88077404fbda62450799a89cb31b9870ddcad1be0a5cc98cc1432062d0aff77f"), looks := true }, kinds := [], alts := [], laidByText := true, laidKinds := [.data], laidTests := true, laidLooks := .later }
def SearchTruthCardSaid : Prop := Claim7.holds Tryz.pinned (.plain (OpenSpec.ofChange searchTruthSpec)) searchTruthCard

/-- THE SECOND FORM's CARD OF 'foretelllaw.SearchRuns'. -/
def searchRunsUptoCard : Claim7 := { stood := { row := searchRunsUptoRow, standIns := [], harness := (true, "88077404fbda62450799a89cb31b9870ddcad1be0a5cc98cc1432062d0aff77f"), looks := true }, kinds := [], alts := [], laidByText := true, laidKinds := [.data], laidTests := true, laidLooks := .later }
def SearchRunsUptoCardSaid : Prop := Claim7.holds Tryz.pinned (.plain (OpenSpec.upto searchRunsSpec)) searchRunsUptoCard

/-- THE SECOND FORM's CARD OF 'foretelltop.SearchBounds'. -/
def searchBoundsUptoCard : Claim7 := { stood := { row := searchBoundsUptoRow, standIns := [], harness := (true, "88077404fbda62450799a89cb31b9870ddcad1be0a5cc98cc1432062d0aff77f"), looks := true }, kinds := [], alts := [], laidByText := true, laidKinds := [.data], laidTests := true, laidLooks := .later }
def SearchBoundsUptoCardSaid : Prop := Claim7.holds Tryz.pinned (.plain (OpenSpec.upto searchBoundsSpec)) searchBoundsUptoCard

/-- THE SECOND FORM's CARD OF 'foretelltop.SearchSaved'. -/
def searchSavedUptoCard : Claim7 := { stood := { row := searchSavedUptoRow, standIns := [], harness := (true, "88077404fbda62450799a89cb31b9870ddcad1be0a5cc98cc1432062d0aff77f"), looks := true }, kinds := [], alts := [], laidByText := true, laidKinds := [.data], laidTests := true, laidLooks := .later }
def SearchSavedUptoCardSaid : Prop := Claim7.holds Tryz.pinned (.plain (OpenSpec.upto searchSavedSpec)) searchSavedUptoCard

/-- THE SECOND FORM's CARD OF 'foretelltop.SearchCrash'. -/
def searchCrashUptoCard : Claim7 := { stood := { row := searchCrashUptoRow, standIns := [], harness := (true, "88077404fbda62450799a89cb31b9870ddcad1be0a5cc98cc1432062d0aff77f"), looks := true }, kinds := [], alts := [], laidByText := true, laidKinds := [.data], laidTests := true, laidLooks := .later }
def SearchCrashUptoCardSaid : Prop := Claim7.holds Tryz.pinned (.plain (OpenSpec.upto searchCrashSpec)) searchCrashUptoCard

/-- THE SECOND FORM's CARD OF 'foretelltop.SearchAgain'. -/
def searchAgainUptoCard : Claim7 := { stood := { row := searchAgainUptoRow, standIns := [], harness := (true, "88077404fbda62450799a89cb31b9870ddcad1be0a5cc98cc1432062d0aff77f"), looks := true }, kinds := [], alts := [], laidByText := true, laidKinds := [.data], laidTests := true, laidLooks := .later }
def SearchAgainUptoCardSaid : Prop := Claim7.holds Tryz.pinned (.plain (OpenSpec.upto searchAgainSpec)) searchAgainUptoCard

/-- THE SECOND FORM's CARD OF 'foretelltop.SearchDown'. -/
def searchDownUptoCard : Claim7 := { stood := { row := searchDownUptoRow, standIns := [], harness := (true, "88077404fbda62450799a89cb31b9870ddcad1be0a5cc98cc1432062d0aff77f"), looks := true }, kinds := [], alts := [], laidByText := true, laidKinds := [.data], laidTests := true, laidLooks := .later }
def SearchDownUptoCardSaid : Prop := Claim7.holds Tryz.pinned (.plain (OpenSpec.upto searchDownSpec)) searchDownUptoCard

/-- THE SECOND FORM's CARD OF 'foretelltop.SearchParts'. -/
def searchPartsUptoCard : Claim7 := { stood := { row := searchPartsUptoRow, standIns := [], harness := (true, "88077404fbda62450799a89cb31b9870ddcad1be0a5cc98cc1432062d0aff77f"), looks := true }, kinds := [], alts := [], laidByText := true, laidKinds := [.data], laidTests := true, laidLooks := .later }
def SearchPartsUptoCardSaid : Prop := Claim7.holds Tryz.pinned (.plain (OpenSpec.upto searchPartsSpec)) searchPartsUptoCard

/-- THE SECOND FORM's CARD OF 'foretelltop.SearchCalm'. -/
def searchCalmUptoCard : Claim7 := { stood := { row := searchCalmUptoRow, standIns := [], harness := (true, "88077404fbda62450799a89cb31b9870ddcad1be0a5cc98cc1432062d0aff77f"), looks := true }, kinds := [], alts := [], laidByText := true, laidKinds := [.data], laidTests := true, laidLooks := .later }
def SearchCalmUptoCardSaid : Prop := Claim7.holds Tryz.pinned (.plain (OpenSpec.upto searchCalmSpec)) searchCalmUptoCard

/-- THE SECOND FORM's CARD OF 'foretelltop.SearchSame'. -/
def searchSameUptoCard : Claim7 := { stood := { row := searchSameUptoRow, standIns := [], harness := (true, "88077404fbda62450799a89cb31b9870ddcad1be0a5cc98cc1432062d0aff77f"), looks := true }, kinds := [], alts := [], laidByText := true, laidKinds := [.data], laidTests := true, laidLooks := .later }
def SearchSameUptoCardSaid : Prop := Claim7.holds Tryz.pinned (.plain (OpenSpec.upto searchSameSpec)) searchSameUptoCard

/-- THE SECOND FORM's CARD OF 'foretelltop.SearchEnough'. -/
def searchEnoughUptoCard : Claim7 := { stood := { row := searchEnoughUptoRow, standIns := [], harness := (true, "88077404fbda62450799a89cb31b9870ddcad1be0a5cc98cc1432062d0aff77f"), looks := true }, kinds := [], alts := [], laidByText := true, laidKinds := [.data], laidTests := true, laidLooks := .later }
def SearchEnoughUptoCardSaid : Prop := Claim7.holds Tryz.pinned (.plain (OpenSpec.upto searchEnoughSpec)) searchEnoughUptoCard

/-- THE SECOND FORM's CARD OF 'foretelltop.SearchTruth'. -/
def searchTruthUptoCard : Claim7 := { stood := { row := searchTruthUptoRow, standIns := [], harness := (true, "88077404fbda62450799a89cb31b9870ddcad1be0a5cc98cc1432062d0aff77f"), looks := true }, kinds := [], alts := [], laidByText := true, laidKinds := [.data], laidTests := true, laidLooks := .later }
def SearchTruthUptoCardSaid : Prop := Claim7.holds Tryz.pinned (.plain (OpenSpec.upto searchTruthSpec)) searchTruthUptoCard
end Rows
end Go.Proofs.YtnlfhnbcdfdhgaaGreatDoor
