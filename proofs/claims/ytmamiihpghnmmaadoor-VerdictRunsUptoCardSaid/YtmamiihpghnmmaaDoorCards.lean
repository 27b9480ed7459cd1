/-
  DERIVED. GIVEN WITH THE SEED: THE CARDS: each row of YtmamiihpghnmmaaDoorRows.lean that lists a variable, with what it lists TIED to the program's text (the seventh form; the later family's looks); each row that meets fmt, with fmt's text TOLD by the authors' own Lean function (tested against real Go, not proved from fmt's source: count such statements apart). THE CARD IS WHAT COUNTS. Prove the row's statement (the work); the ties are given (YtmamiihpghnmmaaDoorTie.lean); close each card by the builder's one call (the guide's Derived/Test/ToyasCard.lean, 'card_holds'). Laid BY PROGRAM, IN A SANDBOX (cutbox-door.mjs). By AI agents, Wed Nov 11 2026. No macro, syntax, notation, axiom, sorry.
-/
import Derived.Test.YtmamiihpghnmmaaDoorRows
import GoSem.ClaimSeven
namespace Go.Proofs.YtmamiihpghnmmaaDoor
namespace Rows

/-- THE TIED CARD OF 'foretelllaw.ProductChecks'. -/
def productChecksCard : Claim7 := { stood := { row := productChecksRow, standIns := [], harness := (true, "055a962d3c4ff35e878d9768ec7e20c28e7b9ccd299571a295ed6fa2c37ed44e"), looks := true }, kinds := [], alts := [], laidByText := true, laidKinds := [.data], laidTests := true, laidLooks := .later }
def ProductChecksCardSaid : Prop := Claim7.holds Tryd.pinned (.plain (OpenSpec.ofChange productChecksSpec)) productChecksCard

/-- THE TIED CARD OF 'foretelllaw.StepLetters'. -/
def stepLettersCard : Claim7 := { stood := { row := stepLettersRow, standIns := [], harness := (true, "055a962d3c4ff35e878d9768ec7e20c28e7b9ccd299571a295ed6fa2c37ed44e"), looks := true }, kinds := [], alts := [], laidByText := true, laidKinds := [.data], laidTests := true, laidLooks := .later }
def StepLettersCardSaid : Prop := Claim7.holds Tryd.pinned (.plain (OpenSpec.ofChange stepLettersSpec)) stepLettersCard

/-- THE TIED CARD OF 'foretelllaw.StepAfters'. -/
def stepAftersCard : Claim7 := { stood := { row := stepAftersRow, standIns := [], harness := (true, "055a962d3c4ff35e878d9768ec7e20c28e7b9ccd299571a295ed6fa2c37ed44e"), looks := true }, kinds := [], alts := [], laidByText := true, laidKinds := [.data], laidTests := true, laidLooks := .later }
def StepAftersCardSaid : Prop := Claim7.holds Tryd.pinned (.plain (OpenSpec.ofChange stepAftersSpec)) stepAftersCard

/-- THE TIED CARD OF 'foretelllaw.ProductBegins'. -/
def productBeginsCard : Claim7 := { stood := { row := productBeginsRow, standIns := [], harness := (true, "055a962d3c4ff35e878d9768ec7e20c28e7b9ccd299571a295ed6fa2c37ed44e"), looks := true }, kinds := [], alts := [], laidByText := true, laidKinds := [.data], laidTests := true, laidLooks := .later }
def ProductBeginsCardSaid : Prop := Claim7.holds Tryd.pinned (.plain (OpenSpec.ofChange productBeginsSpec)) productBeginsCard

/-- THE TIED CARD OF 'foretelllaw.StepNexts'. -/
def stepNextsCard : Claim7 := { stood := { row := stepNextsRow, standIns := [], harness := (true, "055a962d3c4ff35e878d9768ec7e20c28e7b9ccd299571a295ed6fa2c37ed44e"), looks := true }, kinds := [], alts := [], laidByText := true, laidKinds := [.data], laidTests := true, laidLooks := .later }
def StepNextsCardSaid : Prop := Claim7.holds Tryd.pinned (.plain (OpenSpec.ofChange stepNextsSpec)) stepNextsCard

/-- THE TIED CARD OF 'foretelllaw.StepReaches'. -/
def stepReachesCard : Claim7 := { stood := { row := stepReachesRow, standIns := [], harness := (true, "055a962d3c4ff35e878d9768ec7e20c28e7b9ccd299571a295ed6fa2c37ed44e"), looks := true }, kinds := [], alts := [], laidByText := true, laidKinds := [.data], laidTests := true, laidLooks := .later }
def StepReachesCardSaid : Prop := Claim7.holds Tryd.pinned (.plain (OpenSpec.ofChange stepReachesSpec)) stepReachesCard

/-- THE TIED CARD OF 'foretelllaw.VerdictRuns'. -/
def verdictRunsCard : Claim7 := { stood := { row := verdictRunsRow, standIns := [], harness := (true, "055a962d3c4ff35e878d9768ec7e20c28e7b9ccd299571a295ed6fa2c37ed44e"), looks := true }, kinds := [], alts := [], laidByText := true, laidKinds := [.data], laidTests := true, laidLooks := .later }
def VerdictRunsCardSaid : Prop := Claim7.holds Tryd.pinned (.plain (OpenSpec.ofChange verdictRunsSpec)) verdictRunsCard

/-- THE SECOND FORM's CARD OF 'foretelllaw.ProductChecks'. -/
def productChecksUptoCard : Claim7 := { stood := { row := productChecksUptoRow, standIns := [], harness := (true, "055a962d3c4ff35e878d9768ec7e20c28e7b9ccd299571a295ed6fa2c37ed44e"), looks := true }, kinds := [], alts := [], laidByText := true, laidKinds := [.data], laidTests := true, laidLooks := .later }
def ProductChecksUptoCardSaid : Prop := Claim7.holds Tryd.pinned (.plain (OpenSpec.upto productChecksSpec)) productChecksUptoCard

/-- THE SECOND FORM's CARD OF 'foretelllaw.StepLetters'. -/
def stepLettersUptoCard : Claim7 := { stood := { row := stepLettersUptoRow, standIns := [], harness := (true, "055a962d3c4ff35e878d9768ec7e20c28e7b9ccd299571a295ed6fa2c37ed44e"), looks := true }, kinds := [], alts := [], laidByText := true, laidKinds := [.data], laidTests := true, laidLooks := .later }
def StepLettersUptoCardSaid : Prop := Claim7.holds Tryd.pinned (.plain (OpenSpec.upto stepLettersSpec)) stepLettersUptoCard

/-- THE SECOND FORM's CARD OF 'foretelllaw.StepAfters'. -/
def stepAftersUptoCard : Claim7 := { stood := { row := stepAftersUptoRow, standIns := [], harness := (true, "055a962d3c4ff35e878d9768ec7e20c28e7b9ccd299571a295ed6fa2c37ed44e"), looks := true }, kinds := [], alts := [], laidByText := true, laidKinds := [.data], laidTests := true, laidLooks := .later }
def StepAftersUptoCardSaid : Prop := Claim7.holds Tryd.pinned (.plain (OpenSpec.upto stepAftersSpec)) stepAftersUptoCard

/-- THE SECOND FORM's CARD OF 'foretelllaw.ProductBegins'. -/
def productBeginsUptoCard : Claim7 := { stood := { row := productBeginsUptoRow, standIns := [], harness := (true, "055a962d3c4ff35e878d9768ec7e20c28e7b9ccd299571a295ed6fa2c37ed44e"), looks := true }, kinds := [], alts := [], laidByText := true, laidKinds := [.data], laidTests := true, laidLooks := .later }
def ProductBeginsUptoCardSaid : Prop := Claim7.holds Tryd.pinned (.plain (OpenSpec.upto productBeginsSpec)) productBeginsUptoCard

/-- THE SECOND FORM's CARD OF 'foretelllaw.StepNexts'. -/
def stepNextsUptoCard : Claim7 := { stood := { row := stepNextsUptoRow, standIns := [], harness := (true, "055a962d3c4ff35e878d9768ec7e20c28e7b9ccd299571a295ed6fa2c37ed44e"), looks := true }, kinds := [], alts := [], laidByText := true, laidKinds := [.data], laidTests := true, laidLooks := .later }
def StepNextsUptoCardSaid : Prop := Claim7.holds Tryd.pinned (.plain (OpenSpec.upto stepNextsSpec)) stepNextsUptoCard

/-- THE SECOND FORM's CARD OF 'foretelllaw.StepReaches'. -/
def stepReachesUptoCard : Claim7 := { stood := { row := stepReachesUptoRow, standIns := [], harness := (true, "055a962d3c4ff35e878d9768ec7e20c28e7b9ccd299571a295ed6fa2c37ed44e"), looks := true }, kinds := [], alts := [], laidByText := true, laidKinds := [.data], laidTests := true, laidLooks := .later }
def StepReachesUptoCardSaid : Prop := Claim7.holds Tryd.pinned (.plain (OpenSpec.upto stepReachesSpec)) stepReachesUptoCard

/-- THE SECOND FORM's CARD OF 'foretelllaw.VerdictRuns'. -/
def verdictRunsUptoCard : Claim7 := { stood := { row := verdictRunsUptoRow, standIns := [], harness := (true, "055a962d3c4ff35e878d9768ec7e20c28e7b9ccd299571a295ed6fa2c37ed44e"), looks := true }, kinds := [], alts := [], laidByText := true, laidKinds := [.data], laidTests := true, laidLooks := .later }
def VerdictRunsUptoCardSaid : Prop := Claim7.holds Tryd.pinned (.plain (OpenSpec.upto verdictRunsSpec)) verdictRunsUptoCard
end Rows
end Go.Proofs.YtmamiihpghnmmaaDoor
