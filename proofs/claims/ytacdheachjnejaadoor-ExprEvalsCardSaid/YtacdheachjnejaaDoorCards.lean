/-
  DERIVED. GIVEN WITH THE SEED: THE CARDS: each row of YtacdheachjnejaaDoorRows.lean that lists a variable, with what it lists TIED to the program's text (the seventh form; the later family's looks); each row that meets fmt, with fmt's text TOLD by the authors' own Lean function (tested against real Go, not proved from fmt's source: count such statements apart). THE CARD IS WHAT COUNTS. Prove the row's statement (the work); the ties are given (YtacdheachjnejaaDoorTie.lean); close each card by the builder's one call (the guide's Derived/Test/ToyasCard.lean, 'card_holds'). Laid BY PROGRAM, IN A SANDBOX (cutbox-door.mjs). By AI agents, Wed Nov 11 2026. No macro, syntax, notation, axiom, sorry.
-/
import Derived.Test.YtacdheachjnejaaDoorRows
import GoSem.ClaimSeven
namespace Go.Proofs.YtacdheachjnejaaDoor
namespace Rows

/-- THE TIED CARD OF 'foretelllaw.ExprEvals'. -/
def exprEvalsCard : Claim7 := { stood := { row := exprEvalsRow, standIns := [], harness := (true, "c84b181d5f870851468e28b2529a8c030a08e00212762bfaaad4fcff5e114f89"), looks := true }, kinds := [], alts := [], laidByText := true, laidKinds := [.data], laidTests := true, laidLooks := .later }
def ExprEvalsCardSaid : Prop := Claim7.holds Tryd.pinned (.plain (OpenSpec.ofChange exprEvalsSpec)) exprEvalsCard

/-- THE TIED CARD OF 'foretelllaw.WordMoments'. -/
def wordMomentsCard : Claim7 := { stood := { row := wordMomentsRow, standIns := [], harness := (true, "c84b181d5f870851468e28b2529a8c030a08e00212762bfaaad4fcff5e114f89"), looks := true }, kinds := [], alts := [], laidByText := true, laidKinds := [.data], laidTests := true, laidLooks := .later }
def WordMomentsCardSaid : Prop := Claim7.holds Tryd.pinned (.plain (OpenSpec.ofChange wordMomentsSpec)) wordMomentsCard

/-- THE TIED CARD OF 'foretelllaw.WordHolds'. -/
def wordHoldsCard : Claim7 := { stood := { row := wordHoldsRow, standIns := [], harness := (true, "c84b181d5f870851468e28b2529a8c030a08e00212762bfaaad4fcff5e114f89"), looks := true }, kinds := [], alts := [], laidByText := true, laidKinds := [.data], laidTests := true, laidLooks := .later }
def WordHoldsCardSaid : Prop := Claim7.holds Tryd.pinned (.plain (OpenSpec.ofChange wordHoldsSpec)) wordHoldsCard

/-- THE TIED CARD OF 'foretelllaw.WordClaims'. -/
def wordClaimsCard : Claim7 := { stood := { row := wordClaimsRow, standIns := [], harness := (true, "c84b181d5f870851468e28b2529a8c030a08e00212762bfaaad4fcff5e114f89"), looks := true }, kinds := [], alts := [], laidByText := true, laidKinds := [.data], laidTests := true, laidLooks := .later }
def WordClaimsCardSaid : Prop := Claim7.holds Tryd.pinned (.plain (OpenSpec.ofChange wordClaimsSpec)) wordClaimsCard

/-- THE TIED CARD OF 'foretelllaw.ModelChecks'. -/
def modelChecksCard : Claim7 := { stood := { row := modelChecksRow, standIns := [], harness := (true, "c84b181d5f870851468e28b2529a8c030a08e00212762bfaaad4fcff5e114f89"), looks := true }, kinds := [], alts := [], laidByText := true, laidKinds := [.data], laidTests := true, laidLooks := .later }
def ModelChecksCardSaid : Prop := Claim7.holds Tryd.pinned (.plain (OpenSpec.ofChange modelChecksSpec)) modelChecksCard

/-- THE TIED CARD OF 'foretelllaw.ModelProps'. -/
def modelPropsCard : Claim7 := { stood := { row := modelPropsRow, standIns := [], harness := (true, "c84b181d5f870851468e28b2529a8c030a08e00212762bfaaad4fcff5e114f89"), looks := true }, kinds := [], alts := [], laidByText := true, laidKinds := [.data], laidTests := true, laidLooks := .later }
def ModelPropsCardSaid : Prop := Claim7.holds Tryd.pinned (.plain (OpenSpec.ofChange modelPropsSpec)) modelPropsCard

/-- THE TIED CARD OF 'foretelllaw.ModelCounts'. -/
def modelCountsCard : Claim7 := { stood := { row := modelCountsRow, standIns := [], harness := (true, "c84b181d5f870851468e28b2529a8c030a08e00212762bfaaad4fcff5e114f89"), looks := true }, kinds := [], alts := [], laidByText := true, laidKinds := [.data], laidTests := true, laidLooks := .later }
def ModelCountsCardSaid : Prop := Claim7.holds Tryd.pinned (.plain (OpenSpec.ofChange modelCountsSpec)) modelCountsCard

/-- THE TIED CARD OF 'foretelllaw.ModelCodes'. -/
def modelCodesCard : Claim7 := { stood := { row := modelCodesRow, standIns := [], harness := (true, "c84b181d5f870851468e28b2529a8c030a08e00212762bfaaad4fcff5e114f89"), looks := true }, kinds := [], alts := [], laidByText := true, laidKinds := [.data], laidTests := true, laidLooks := .later }
def ModelCodesCardSaid : Prop := Claim7.holds Tryd.pinned (.plain (OpenSpec.ofChange modelCodesSpec)) modelCodesCard

/-- THE TIED CARD OF 'foretelllaw.ModelFirsts'. -/
def modelFirstsCard : Claim7 := { stood := { row := modelFirstsRow, standIns := [], harness := (true, "c84b181d5f870851468e28b2529a8c030a08e00212762bfaaad4fcff5e114f89"), looks := true }, kinds := [], alts := [], laidByText := true, laidKinds := [.data], laidTests := true, laidLooks := .later }
def ModelFirstsCardSaid : Prop := Claim7.holds Tryd.pinned (.plain (OpenSpec.ofChange modelFirstsSpec)) modelFirstsCard

/-- THE TIED CARD OF 'foretelllaw.ModelValues'. -/
def modelValuesCard : Claim7 := { stood := { row := modelValuesRow, standIns := [], harness := (true, "c84b181d5f870851468e28b2529a8c030a08e00212762bfaaad4fcff5e114f89"), looks := true }, kinds := [], alts := [], laidByText := true, laidKinds := [.data], laidTests := true, laidLooks := .later }
def ModelValuesCardSaid : Prop := Claim7.holds Tryd.pinned (.plain (OpenSpec.ofChange modelValuesSpec)) modelValuesCard

/-- THE SECOND FORM's CARD OF 'foretelllaw.ExprEvals'. -/
def exprEvalsUptoCard : Claim7 := { stood := { row := exprEvalsUptoRow, standIns := [], harness := (true, "c84b181d5f870851468e28b2529a8c030a08e00212762bfaaad4fcff5e114f89"), looks := true }, kinds := [], alts := [], laidByText := true, laidKinds := [.data], laidTests := true, laidLooks := .later }
def ExprEvalsUptoCardSaid : Prop := Claim7.holds Tryd.pinned (.plain (OpenSpec.upto exprEvalsSpec)) exprEvalsUptoCard

/-- THE SECOND FORM's CARD OF 'foretelllaw.WordMoments'. -/
def wordMomentsUptoCard : Claim7 := { stood := { row := wordMomentsUptoRow, standIns := [], harness := (true, "c84b181d5f870851468e28b2529a8c030a08e00212762bfaaad4fcff5e114f89"), looks := true }, kinds := [], alts := [], laidByText := true, laidKinds := [.data], laidTests := true, laidLooks := .later }
def WordMomentsUptoCardSaid : Prop := Claim7.holds Tryd.pinned (.plain (OpenSpec.upto wordMomentsSpec)) wordMomentsUptoCard

/-- THE SECOND FORM's CARD OF 'foretelllaw.WordHolds'. -/
def wordHoldsUptoCard : Claim7 := { stood := { row := wordHoldsUptoRow, standIns := [], harness := (true, "c84b181d5f870851468e28b2529a8c030a08e00212762bfaaad4fcff5e114f89"), looks := true }, kinds := [], alts := [], laidByText := true, laidKinds := [.data], laidTests := true, laidLooks := .later }
def WordHoldsUptoCardSaid : Prop := Claim7.holds Tryd.pinned (.plain (OpenSpec.upto wordHoldsSpec)) wordHoldsUptoCard

/-- THE SECOND FORM's CARD OF 'foretelllaw.WordClaims'. -/
def wordClaimsUptoCard : Claim7 := { stood := { row := wordClaimsUptoRow, standIns := [], harness := (true, "c84b181d5f870851468e28b2529a8c030a08e00212762bfaaad4fcff5e114f89"), looks := true }, kinds := [], alts := [], laidByText := true, laidKinds := [.data], laidTests := true, laidLooks := .later }
def WordClaimsUptoCardSaid : Prop := Claim7.holds Tryd.pinned (.plain (OpenSpec.upto wordClaimsSpec)) wordClaimsUptoCard

/-- THE SECOND FORM's CARD OF 'foretelllaw.ModelChecks'. -/
def modelChecksUptoCard : Claim7 := { stood := { row := modelChecksUptoRow, standIns := [], harness := (true, "c84b181d5f870851468e28b2529a8c030a08e00212762bfaaad4fcff5e114f89"), looks := true }, kinds := [], alts := [], laidByText := true, laidKinds := [.data], laidTests := true, laidLooks := .later }
def ModelChecksUptoCardSaid : Prop := Claim7.holds Tryd.pinned (.plain (OpenSpec.upto modelChecksSpec)) modelChecksUptoCard

/-- THE SECOND FORM's CARD OF 'foretelllaw.ModelProps'. -/
def modelPropsUptoCard : Claim7 := { stood := { row := modelPropsUptoRow, standIns := [], harness := (true, "c84b181d5f870851468e28b2529a8c030a08e00212762bfaaad4fcff5e114f89"), looks := true }, kinds := [], alts := [], laidByText := true, laidKinds := [.data], laidTests := true, laidLooks := .later }
def ModelPropsUptoCardSaid : Prop := Claim7.holds Tryd.pinned (.plain (OpenSpec.upto modelPropsSpec)) modelPropsUptoCard

/-- THE SECOND FORM's CARD OF 'foretelllaw.ModelCounts'. -/
def modelCountsUptoCard : Claim7 := { stood := { row := modelCountsUptoRow, standIns := [], harness := (true, "c84b181d5f870851468e28b2529a8c030a08e00212762bfaaad4fcff5e114f89"), looks := true }, kinds := [], alts := [], laidByText := true, laidKinds := [.data], laidTests := true, laidLooks := .later }
def ModelCountsUptoCardSaid : Prop := Claim7.holds Tryd.pinned (.plain (OpenSpec.upto modelCountsSpec)) modelCountsUptoCard

/-- THE SECOND FORM's CARD OF 'foretelllaw.ModelCodes'. -/
def modelCodesUptoCard : Claim7 := { stood := { row := modelCodesUptoRow, standIns := [], harness := (true, "c84b181d5f870851468e28b2529a8c030a08e00212762bfaaad4fcff5e114f89"), looks := true }, kinds := [], alts := [], laidByText := true, laidKinds := [.data], laidTests := true, laidLooks := .later }
def ModelCodesUptoCardSaid : Prop := Claim7.holds Tryd.pinned (.plain (OpenSpec.upto modelCodesSpec)) modelCodesUptoCard

/-- THE SECOND FORM's CARD OF 'foretelllaw.ModelFirsts'. -/
def modelFirstsUptoCard : Claim7 := { stood := { row := modelFirstsUptoRow, standIns := [], harness := (true, "c84b181d5f870851468e28b2529a8c030a08e00212762bfaaad4fcff5e114f89"), looks := true }, kinds := [], alts := [], laidByText := true, laidKinds := [.data], laidTests := true, laidLooks := .later }
def ModelFirstsUptoCardSaid : Prop := Claim7.holds Tryd.pinned (.plain (OpenSpec.upto modelFirstsSpec)) modelFirstsUptoCard

/-- THE SECOND FORM's CARD OF 'foretelllaw.ModelValues'. -/
def modelValuesUptoCard : Claim7 := { stood := { row := modelValuesUptoRow, standIns := [], harness := (true, "c84b181d5f870851468e28b2529a8c030a08e00212762bfaaad4fcff5e114f89"), looks := true }, kinds := [], alts := [], laidByText := true, laidKinds := [.data], laidTests := true, laidLooks := .later }
def ModelValuesUptoCardSaid : Prop := Claim7.holds Tryd.pinned (.plain (OpenSpec.upto modelValuesSpec)) modelValuesUptoCard
end Rows
end Go.Proofs.YtacdheachjnejaaDoor
