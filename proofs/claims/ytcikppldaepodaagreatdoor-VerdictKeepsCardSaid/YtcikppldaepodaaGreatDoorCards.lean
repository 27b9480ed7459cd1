/-
  DERIVED. GIVEN WITH THE SEED: THE CARDS: each row of YtcikppldaepodaaGreatDoorRows.lean that lists a variable, with what it lists TIED to the program's text (the seventh form; the later family's looks); each row that meets fmt, with fmt's text TOLD by the authors' own Lean function (tested against real Go, not proved from fmt's source: count such statements apart). THE CARD IS WHAT COUNTS. Prove the row's statement (the work); the ties are given (YtcikppldaepodaaGreatDoorTie.lean); close each card by the builder's one call (the guide's Derived/Test/ToyasCard.lean, 'card_holds'). Laid BY PROGRAM, IN A SANDBOX (cutbox-door.mjs). By AI agents, Wed Nov 11 2026. No macro, syntax, notation, axiom, sorry.
-/
import Derived.Test.YtcikppldaepodaaGreatDoorRows
import GoSem.ClaimSeven
namespace Go.Proofs.YtcikppldaepodaaGreatDoor
namespace Rows

/-- THE TIED CARD OF 'foretelllaw.VerdictKeeps'. -/
def verdictKeepsCard : Claim7 := { stood := { row := verdictKeepsRow, standIns := [], harness := (true, "e5a115a27cbf4b1431dad7ad5e11afa00a7af4a16c2ae2ff92d89720287c6c00"), looks := true }, kinds := [], alts := [], laidByText := true, laidKinds := [.data], laidTests := true, laidLooks := .later }
def VerdictKeepsCardSaid : Prop := Claim7.holds Tryz.pinned (.plain (OpenSpec.ofChange verdictKeepsSpec)) verdictKeepsCard

/-- THE TIED CARD OF 'foretelllaw.ProductExplores'. -/
def productExploresCard : Claim7 := { stood := { row := productExploresRow, standIns := [], harness := (true, "e5a115a27cbf4b1431dad7ad5e11afa00a7af4a16c2ae2ff92d89720287c6c00"), looks := true }, kinds := [], alts := [], laidByText := true, laidKinds := [.data], laidTests := true, laidLooks := .later }
def ProductExploresCardSaid : Prop := Claim7.holds Tryz.pinned (.plain (OpenSpec.ofChange productExploresSpec)) productExploresCard

/-- THE TIED CARD OF 'foretelllaw.VerdictChecks'. -/
def verdictChecksCard : Claim7 := { stood := { row := verdictChecksRow, standIns := [], harness := (true, "e5a115a27cbf4b1431dad7ad5e11afa00a7af4a16c2ae2ff92d89720287c6c00"), looks := true }, kinds := [], alts := [], laidByText := true, laidKinds := [.data], laidTests := true, laidLooks := .later }
def VerdictChecksCardSaid : Prop := Claim7.holds Tryz.pinned (.plain (OpenSpec.ofChange verdictChecksSpec)) verdictChecksCard

/-- THE TIED CARD OF 'foretelllaw.SheetReads'. -/
def sheetReadsCard : Claim7 := { stood := { row := sheetReadsRow, standIns := [], harness := (true, "e5a115a27cbf4b1431dad7ad5e11afa00a7af4a16c2ae2ff92d89720287c6c00"), looks := true }, kinds := [], alts := [], laidByText := true, laidKinds := [.data, .data, .data, .data, .sentinel, .sentinel, .data, .data, .pinned], laidTests := true, laidLooks := .later }
def SheetReadsCardSaid : Prop := Claim7.holds Tryz.pinned (.plain (OpenSpec.ofChange sheetReadsSpec)) sheetReadsCard

/-- THE TIED CARD OF 'foretelllaw.SearchRuns'. -/
def searchRunsCard : Claim7 := { stood := { row := searchRunsRow, standIns := [], harness := (true, "e5a115a27cbf4b1431dad7ad5e11afa00a7af4a16c2ae2ff92d89720287c6c00"), looks := true }, kinds := [], alts := [], laidByText := true, laidKinds := [.data], laidTests := true, laidLooks := .later }
def SearchRunsCardSaid : Prop := Claim7.holds Tryz.pinned (.plain (OpenSpec.ofChange searchRunsSpec)) searchRunsCard

/-- THE SECOND FORM's CARD OF 'foretelllaw.VerdictKeeps'. -/
def verdictKeepsUptoCard : Claim7 := { stood := { row := verdictKeepsUptoRow, standIns := [], harness := (true, "e5a115a27cbf4b1431dad7ad5e11afa00a7af4a16c2ae2ff92d89720287c6c00"), looks := true }, kinds := [], alts := [], laidByText := true, laidKinds := [.data], laidTests := true, laidLooks := .later }
def VerdictKeepsUptoCardSaid : Prop := Claim7.holds Tryz.pinned (.plain (OpenSpec.upto verdictKeepsSpec)) verdictKeepsUptoCard

/-- THE SECOND FORM's CARD OF 'foretelllaw.ProductExplores'. -/
def productExploresUptoCard : Claim7 := { stood := { row := productExploresUptoRow, standIns := [], harness := (true, "e5a115a27cbf4b1431dad7ad5e11afa00a7af4a16c2ae2ff92d89720287c6c00"), looks := true }, kinds := [], alts := [], laidByText := true, laidKinds := [.data], laidTests := true, laidLooks := .later }
def ProductExploresUptoCardSaid : Prop := Claim7.holds Tryz.pinned (.plain (OpenSpec.upto productExploresSpec)) productExploresUptoCard

/-- THE SECOND FORM's CARD OF 'foretelllaw.VerdictChecks'. -/
def verdictChecksUptoCard : Claim7 := { stood := { row := verdictChecksUptoRow, standIns := [], harness := (true, "e5a115a27cbf4b1431dad7ad5e11afa00a7af4a16c2ae2ff92d89720287c6c00"), looks := true }, kinds := [], alts := [], laidByText := true, laidKinds := [.data], laidTests := true, laidLooks := .later }
def VerdictChecksUptoCardSaid : Prop := Claim7.holds Tryz.pinned (.plain (OpenSpec.upto verdictChecksSpec)) verdictChecksUptoCard

/-- THE SECOND FORM's CARD OF 'foretelllaw.SheetReads'. -/
def sheetReadsUptoCard : Claim7 := { stood := { row := sheetReadsUptoRow, standIns := [], harness := (true, "e5a115a27cbf4b1431dad7ad5e11afa00a7af4a16c2ae2ff92d89720287c6c00"), looks := true }, kinds := [], alts := [], laidByText := true, laidKinds := [.data, .data, .data, .data, .sentinel, .sentinel, .data, .data, .pinned], laidTests := true, laidLooks := .later }
def SheetReadsUptoCardSaid : Prop := Claim7.holds Tryz.pinned (.plain (OpenSpec.upto sheetReadsSpec)) sheetReadsUptoCard

/-- THE SECOND FORM's CARD OF 'foretelllaw.SearchRuns'. -/
def searchRunsUptoCard : Claim7 := { stood := { row := searchRunsUptoRow, standIns := [], harness := (true, "e5a115a27cbf4b1431dad7ad5e11afa00a7af4a16c2ae2ff92d89720287c6c00"), looks := true }, kinds := [], alts := [], laidByText := true, laidKinds := [.data], laidTests := true, laidLooks := .later }
def SearchRunsUptoCardSaid : Prop := Claim7.holds Tryz.pinned (.plain (OpenSpec.upto searchRunsSpec)) searchRunsUptoCard
end Rows
end Go.Proofs.YtcikppldaepodaaGreatDoor
