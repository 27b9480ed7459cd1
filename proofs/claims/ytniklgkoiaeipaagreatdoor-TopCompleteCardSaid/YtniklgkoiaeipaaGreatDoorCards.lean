/-
  DERIVED. GIVEN WITH THE SEED: THE CARDS: each row of YtniklgkoiaeipaaGreatDoorRows.lean that lists a variable, with what it lists TIED to the program's text (the seventh form; the later family's looks); each row that meets fmt, with fmt's text TOLD by the authors' own Lean function (tested against real Go, not proved from fmt's source: count such statements apart). THE CARD IS WHAT COUNTS. Prove the row's statement (the work); the ties are given (YtniklgkoiaeipaaGreatDoorTie.lean); close each card by the builder's one call (the guide's Derived/Test/ToyasCard.lean, 'card_holds'). Laid BY PROGRAM, IN A SANDBOX (cutbox-door.mjs). By AI agents, Wed Nov 11 2026. No macro, syntax, notation, axiom, sorry.
-/
import Derived.Test.YtniklgkoiaeipaaGreatDoorRows
import GoSem.ClaimSeven
namespace Go.Proofs.YtniklgkoiaeipaaGreatDoor
namespace Rows

/-- THE TIED CARD OF 'foretelllaw.ProductExplores'. -/
def productExploresCard : Claim7 := { stood := { row := productExploresRow, standIns := [], harness := (true, "8ce1731e329c0567389bbbe886e613da42031cb4f70f76e7407e676c92455503"), looks := true }, kinds := [], alts := [], laidByText := true, laidKinds := [.data], laidTests := true, laidLooks := .later }
def ProductExploresCardSaid : Prop := Claim7.holds Tryz.pinned (.plain (OpenSpec.ofChange productExploresSpec)) productExploresCard

/-- THE TIED CARD OF 'foretelllaw.VerdictChecks'. -/
def verdictChecksCard : Claim7 := { stood := { row := verdictChecksRow, standIns := [], harness := (true, "8ce1731e329c0567389bbbe886e613da42031cb4f70f76e7407e676c92455503"), looks := true }, kinds := [], alts := [], laidByText := true, laidKinds := [.data], laidTests := true, laidLooks := .later }
def VerdictChecksCardSaid : Prop := Claim7.holds Tryz.pinned (.plain (OpenSpec.ofChange verdictChecksSpec)) verdictChecksCard

/-- THE TIED CARD OF 'foretelltop.TopNot'. -/
def topNotCard : Claim7 := { stood := { row := topNotRow, standIns := [], harness := (true, "8ce1731e329c0567389bbbe886e613da42031cb4f70f76e7407e676c92455503"), looks := true }, kinds := [], alts := [], laidByText := true, laidKinds := [.data], laidTests := true, laidLooks := .later }
def TopNotCardSaid : Prop := Claim7.holds Tryz.pinned (.plain (OpenSpec.ofChange topNotSpec)) topNotCard

/-- THE TIED CARD OF 'foretelltop.TopAnd'. -/
def topAndCard : Claim7 := { stood := { row := topAndRow, standIns := [], harness := (true, "8ce1731e329c0567389bbbe886e613da42031cb4f70f76e7407e676c92455503"), looks := true }, kinds := [], alts := [], laidByText := true, laidKinds := [.data], laidTests := true, laidLooks := .later }
def TopAndCardSaid : Prop := Claim7.holds Tryz.pinned (.plain (OpenSpec.ofChange topAndSpec)) topAndCard

/-- THE TIED CARD OF 'foretelltop.TopOr'. -/
def topOrCard : Claim7 := { stood := { row := topOrRow, standIns := [], harness := (true, "8ce1731e329c0567389bbbe886e613da42031cb4f70f76e7407e676c92455503"), looks := true }, kinds := [], alts := [], laidByText := true, laidKinds := [.data], laidTests := true, laidLooks := .later }
def TopOrCardSaid : Prop := Claim7.holds Tryz.pinned (.plain (OpenSpec.ofChange topOrSpec)) topOrCard

/-- THE TIED CARD OF 'foretelltop.TopAlways'. -/
def topAlwaysCard : Claim7 := { stood := { row := topAlwaysRow, standIns := [], harness := (true, "8ce1731e329c0567389bbbe886e613da42031cb4f70f76e7407e676c92455503"), looks := true }, kinds := [], alts := [], laidByText := true, laidKinds := [.data], laidTests := true, laidLooks := .later }
def TopAlwaysCardSaid : Prop := Claim7.holds Tryz.pinned (.plain (OpenSpec.ofChange topAlwaysSpec)) topAlwaysCard

/-- THE TIED CARD OF 'foretelltop.TopNow'. -/
def topNowCard : Claim7 := { stood := { row := topNowRow, standIns := [], harness := (true, "8ce1731e329c0567389bbbe886e613da42031cb4f70f76e7407e676c92455503"), looks := true }, kinds := [], alts := [], laidByText := true, laidKinds := [.data], laidTests := true, laidLooks := .later }
def TopNowCardSaid : Prop := Claim7.holds Tryz.pinned (.plain (OpenSpec.ofChange topNowSpec)) topNowCard

/-- THE TIED CARD OF 'foretelltop.TopLone'. -/
def topLoneCard : Claim7 := { stood := { row := topLoneRow, standIns := [], harness := (true, "8ce1731e329c0567389bbbe886e613da42031cb4f70f76e7407e676c92455503"), looks := true }, kinds := [], alts := [], laidByText := true, laidKinds := [.data], laidTests := true, laidLooks := .later }
def TopLoneCardSaid : Prop := Claim7.holds Tryz.pinned (.plain (OpenSpec.ofChange topLoneSpec)) topLoneCard

/-- THE TIED CARD OF 'foretelltop.TopSound'. -/
def topSoundCard : Claim7 := { stood := { row := topSoundRow, standIns := [], harness := (true, "8ce1731e329c0567389bbbe886e613da42031cb4f70f76e7407e676c92455503"), looks := true }, kinds := [], alts := [], laidByText := true, laidKinds := [.data], laidTests := true, laidLooks := .later }
def TopSoundCardSaid : Prop := Claim7.holds Tryz.pinned (.plain (OpenSpec.ofChange topSoundSpec)) topSoundCard

/-- THE TIED CARD OF 'foretelltop.TopComplete'. -/
def topCompleteCard : Claim7 := { stood := { row := topCompleteRow, standIns := [], harness := (true, "8ce1731e329c0567389bbbe886e613da42031cb4f70f76e7407e676c92455503"), looks := true }, kinds := [], alts := [], laidByText := true, laidKinds := [.data], laidTests := true, laidLooks := .later }
def TopCompleteCardSaid : Prop := Claim7.holds Tryz.pinned (.plain (OpenSpec.ofChange topCompleteSpec)) topCompleteCard

/-- THE TIED CARD OF 'foretelltop.TopOneRun'. -/
def topOneRunCard : Claim7 := { stood := { row := topOneRunRow, standIns := [], harness := (true, "8ce1731e329c0567389bbbe886e613da42031cb4f70f76e7407e676c92455503"), looks := true }, kinds := [], alts := [], laidByText := true, laidKinds := [.data], laidTests := true, laidLooks := .later }
def TopOneRunCardSaid : Prop := Claim7.holds Tryz.pinned (.plain (OpenSpec.ofChange topOneRunSpec)) topOneRunCard

/-- THE SECOND FORM's CARD OF 'foretelllaw.ProductExplores'. -/
def productExploresUptoCard : Claim7 := { stood := { row := productExploresUptoRow, standIns := [], harness := (true, "8ce1731e329c0567389bbbe886e613da42031cb4f70f76e7407e676c92455503"), looks := true }, kinds := [], alts := [], laidByText := true, laidKinds := [.data], laidTests := true, laidLooks := .later }
def ProductExploresUptoCardSaid : Prop := Claim7.holds Tryz.pinned (.plain (OpenSpec.upto productExploresSpec)) productExploresUptoCard

/-- THE SECOND FORM's CARD OF 'foretelllaw.VerdictChecks'. -/
def verdictChecksUptoCard : Claim7 := { stood := { row := verdictChecksUptoRow, standIns := [], harness := (true, "8ce1731e329c0567389bbbe886e613da42031cb4f70f76e7407e676c92455503"), looks := true }, kinds := [], alts := [], laidByText := true, laidKinds := [.data], laidTests := true, laidLooks := .later }
def VerdictChecksUptoCardSaid : Prop := Claim7.holds Tryz.pinned (.plain (OpenSpec.upto verdictChecksSpec)) verdictChecksUptoCard

/-- THE SECOND FORM's CARD OF 'foretelltop.TopNot'. -/
def topNotUptoCard : Claim7 := { stood := { row := topNotUptoRow, standIns := [], harness := (true, "8ce1731e329c0567389bbbe886e613da42031cb4f70f76e7407e676c92455503"), looks := true }, kinds := [], alts := [], laidByText := true, laidKinds := [.data], laidTests := true, laidLooks := .later }
def TopNotUptoCardSaid : Prop := Claim7.holds Tryz.pinned (.plain (OpenSpec.upto topNotSpec)) topNotUptoCard

/-- THE SECOND FORM's CARD OF 'foretelltop.TopAnd'. -/
def topAndUptoCard : Claim7 := { stood := { row := topAndUptoRow, standIns := [], harness := (true, "8ce1731e329c0567389bbbe886e613da42031cb4f70f76e7407e676c92455503"), looks := true }, kinds := [], alts := [], laidByText := true, laidKinds := [.data], laidTests := true, laidLooks := .later }
def TopAndUptoCardSaid : Prop := Claim7.holds Tryz.pinned (.plain (OpenSpec.upto topAndSpec)) topAndUptoCard

/-- THE SECOND FORM's CARD OF 'foretelltop.TopOr'. -/
def topOrUptoCard : Claim7 := { stood := { row := topOrUptoRow, standIns := [], harness := (true, "8ce1731e329c0567389bbbe886e613da42031cb4f70f76e7407e676c92455503"), looks := true }, kinds := [], alts := [], laidByText := true, laidKinds := [.data], laidTests := true, laidLooks := .later }
def TopOrUptoCardSaid : Prop := Claim7.holds Tryz.pinned (.plain (OpenSpec.upto topOrSpec)) topOrUptoCard

/-- THE SECOND FORM's CARD OF 'foretelltop.TopAlways'. -/
def topAlwaysUptoCard : Claim7 := { stood := { row := topAlwaysUptoRow, standIns := [], harness := (true, "8ce1731e329c0567389bbbe886e613da42031cb4f70f76e7407e676c92455503"), looks := true }, kinds := [], alts := [], laidByText := true, laidKinds := [.data], laidTests := true, laidLooks := .later }
def TopAlwaysUptoCardSaid : Prop := Claim7.holds Tryz.pinned (.plain (OpenSpec.upto topAlwaysSpec)) topAlwaysUptoCard

/-- THE SECOND FORM's CARD OF 'foretelltop.TopNow'. -/
def topNowUptoCard : Claim7 := { stood := { row := topNowUptoRow, standIns := [], harness := (true, "8ce1731e329c0567389bbbe886e613da42031cb4f70f76e7407e676c92455503"), looks := true }, kinds := [], alts := [], laidByText := true, laidKinds := [.data], laidTests := true, laidLooks := .later }
def TopNowUptoCardSaid : Prop := Claim7.holds Tryz.pinned (.plain (OpenSpec.upto topNowSpec)) topNowUptoCard

/-- THE SECOND FORM's CARD OF 'foretelltop.TopLone'. -/
def topLoneUptoCard : Claim7 := { stood := { row := topLoneUptoRow, standIns := [], harness := (true, "8ce1731e329c0567389bbbe886e613da42031cb4f70f76e7407e676c92455503"), looks := true }, kinds := [], alts := [], laidByText := true, laidKinds := [.data], laidTests := true, laidLooks := .later }
def TopLoneUptoCardSaid : Prop := Claim7.holds Tryz.pinned (.plain (OpenSpec.upto topLoneSpec)) topLoneUptoCard

/-- THE SECOND FORM's CARD OF 'foretelltop.TopSound'. -/
def topSoundUptoCard : Claim7 := { stood := { row := topSoundUptoRow, standIns := [], harness := (true, "8ce1731e329c0567389bbbe886e613da42031cb4f70f76e7407e676c92455503"), looks := true }, kinds := [], alts := [], laidByText := true, laidKinds := [.data], laidTests := true, laidLooks := .later }
def TopSoundUptoCardSaid : Prop := Claim7.holds Tryz.pinned (.plain (OpenSpec.upto topSoundSpec)) topSoundUptoCard

/-- THE SECOND FORM's CARD OF 'foretelltop.TopComplete'. -/
def topCompleteUptoCard : Claim7 := { stood := { row := topCompleteUptoRow, standIns := [], harness := (true, "8ce1731e329c0567389bbbe886e613da42031cb4f70f76e7407e676c92455503"), looks := true }, kinds := [], alts := [], laidByText := true, laidKinds := [.data], laidTests := true, laidLooks := .later }
def TopCompleteUptoCardSaid : Prop := Claim7.holds Tryz.pinned (.plain (OpenSpec.upto topCompleteSpec)) topCompleteUptoCard

/-- THE SECOND FORM's CARD OF 'foretelltop.TopOneRun'. -/
def topOneRunUptoCard : Claim7 := { stood := { row := topOneRunUptoRow, standIns := [], harness := (true, "8ce1731e329c0567389bbbe886e613da42031cb4f70f76e7407e676c92455503"), looks := true }, kinds := [], alts := [], laidByText := true, laidKinds := [.data], laidTests := true, laidLooks := .later }
def TopOneRunUptoCardSaid : Prop := Claim7.holds Tryz.pinned (.plain (OpenSpec.upto topOneRunSpec)) topOneRunUptoCard
end Rows
end Go.Proofs.YtniklgkoiaeipaaGreatDoor
