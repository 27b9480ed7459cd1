/-
  NARROWER THAN 'FOR EVERY INPUT', by the rows' own cells (each row's printed sentence says how): ExprEvals: laid · WordMoments: laid · WordHolds: laid · WordClaims: laid · ModelChecks: laid · ModelProps: laid · ModelCounts: laid · ModelCodes: laid · ModelFirsts: laid · ModelValues: laid.
  DERIVED. THE GIVEN ROWS OF THIS SEAT. 10 by the template 'for every input the law returns true; each argument reads behind the call as it read before'; 0 by the template 'total and deterministic' (their statements: YtacdheachjnejaaDoorTotals.lean).
  GIVEN WITH THE SEED: the statements are not yours to turn. If you find one false, say at which input.
  Laid BY PROGRAM, IN A SANDBOX (cutbox-rows.mjs): the forced cells as the released guide's own fill.sh prints them over the translation 9109a7092e1d0a59… (all of the seat's roots in one cut). By AI agents, Wed Nov 11 2026. No macro, syntax, notation, axiom, sorry.
-/
import Derived.Test.YtacdheachjnejaaDoorChecked
import GoSem.Claim
import GoSem.ClaimJoined
import GoSem.ClaimMapViews
import Derived.JoinedTies
import Derived.KernelRfl
namespace Go.Proofs.YtacdheachjnejaaDoor
/- THE CELL 'sum', in the pinned program and in every row, IS THE sha256 OF THE DUMP (.gsa) THAT YtacdheachjnejaaDoorProg.lean LOADS. Nothing in Lean hashes anything: it is a label: what it is worth is what the hold of that sum in a sandbox is worth. -/
noncomputable def Tryd.pinned : Pinned := { name := "ytacdheachjnejaadoor", sum := "9109a7092e1d0a59e24a3ab9351971c3753cb69fdeba1154fb3774194d13fe3e", checked := Tryd.checked }
namespace Rows
def none {H : Type} : Left H := { results := [], args := [] }

/- WHAT THE LISTED PACKAGE-LEVEL VARIABLES READ AS WHEN THE CALL BEGINS. Each datum BY PROGRAM (the guide's laid-datum.mjs) off the statement by which the dump's own 'gosem.cut.vars' lays the variable. In a bare row this is a premise. The card (YtacdheachjnejaaDoorCards.lean) ties it to the program's text. -/
def laid_foretell_polish_parts {H : Type} : DataW H := .agg [.lit (.int .i64 (-1)), .lit (.int .i64 0), .lit (.int .i64 0), .lit (.int .i64 2), .lit (.int .i64 2), .lit (.int .i64 2), .lit (.int .i64 2), .lit (.int .i64 2), .lit (.int .i64 2), .lit (.int .i64 2), .lit (.int .i64 1), .lit (.int .i64 0), .lit (.int .i64 0), .lit (.int .i64 0), .lit (.int .i64 1), .lit (.int .i64 2), .lit (.int .i64 2), .lit (.int .i64 1), .lit (.int .i64 1)]

/-- 'foretelllaw.ExprEvals': WHATEVER THE INPUT: true; the input reads as it did. -/
def exprEvalsSpec : ChangeSpec := { name := "exprEvals", fn := fun _ => fun
  | [d1, d2] => { results := [.lit (.bool true)], args := [d1, d2] }
  | _ => none }
def exprEvalsRow : OpenClaim := { program := "ytacdheachjnejaadoor", sum := "9109a7092e1d0a59e24a3ab9351971c3753cb69fdeba1154fb3774194d13fe3e", func := "foretell/foretelllaw.ExprEvals", spec := "exprEvals", unfollowed := true, recurses := true, named := ["foretell/polish.parts"], apart := false, laid := [("foretell/polish.parts", laid_foretell_polish_parts)] }
def ExprEvalsSaid : Prop := exprEvalsRow.holds Tryd.pinned (OpenSpec.ofChange exprEvalsSpec)

/-- ITS FALSE NEIGHBOUR: 'it returns false'. Refute it at one input. -/
def exprEvalsWrong : ChangeSpec := { name := "exprEvals", fn := fun _ => fun
  | [d1, d2] => { results := [.lit (.bool false)], args := [d1, d2] }
  | _ => none }
def ExprEvalsWrongFalsely : Prop := exprEvalsRow.holds Tryd.pinned (OpenSpec.ofChange exprEvalsWrong)

/-- 'foretelllaw.WordMoments': WHATEVER THE INPUT: true; the input reads as it did. -/
def wordMomentsSpec : ChangeSpec := { name := "wordMoments", fn := fun _ => fun
  | [d1, d2, d3] => { results := [.lit (.bool true)], args := [d1, d2, d3] }
  | _ => none }
def wordMomentsRow : OpenClaim := { program := "ytacdheachjnejaadoor", sum := "9109a7092e1d0a59e24a3ab9351971c3753cb69fdeba1154fb3774194d13fe3e", func := "foretell/foretelllaw.WordMoments", spec := "wordMoments", unfollowed := true, recurses := true, named := ["foretell/polish.parts"], apart := false, laid := [("foretell/polish.parts", laid_foretell_polish_parts)] }
def WordMomentsSaid : Prop := wordMomentsRow.holds Tryd.pinned (OpenSpec.ofChange wordMomentsSpec)

/-- ITS FALSE NEIGHBOUR: 'it returns false'. Refute it at one input. -/
def wordMomentsWrong : ChangeSpec := { name := "wordMoments", fn := fun _ => fun
  | [d1, d2, d3] => { results := [.lit (.bool false)], args := [d1, d2, d3] }
  | _ => none }
def WordMomentsWrongFalsely : Prop := wordMomentsRow.holds Tryd.pinned (OpenSpec.ofChange wordMomentsWrong)

/-- 'foretelllaw.WordHolds': WHATEVER THE INPUT: true; the input reads as it did. -/
def wordHoldsSpec : ChangeSpec := { name := "wordHolds", fn := fun _ => fun
  | [d1, d2, d3] => { results := [.lit (.bool true)], args := [d1, d2, d3] }
  | _ => none }
def wordHoldsRow : OpenClaim := { program := "ytacdheachjnejaadoor", sum := "9109a7092e1d0a59e24a3ab9351971c3753cb69fdeba1154fb3774194d13fe3e", func := "foretell/foretelllaw.WordHolds", spec := "wordHolds", unfollowed := true, recurses := true, named := ["foretell/polish.parts"], apart := false, laid := [("foretell/polish.parts", laid_foretell_polish_parts)] }
def WordHoldsSaid : Prop := wordHoldsRow.holds Tryd.pinned (OpenSpec.ofChange wordHoldsSpec)

/-- ITS FALSE NEIGHBOUR: 'it returns false'. Refute it at one input. -/
def wordHoldsWrong : ChangeSpec := { name := "wordHolds", fn := fun _ => fun
  | [d1, d2, d3] => { results := [.lit (.bool false)], args := [d1, d2, d3] }
  | _ => none }
def WordHoldsWrongFalsely : Prop := wordHoldsRow.holds Tryd.pinned (OpenSpec.ofChange wordHoldsWrong)

/-- 'foretelllaw.WordClaims': WHATEVER THE INPUT: true; the input reads as it did. -/
def wordClaimsSpec : ChangeSpec := { name := "wordClaims", fn := fun _ => fun
  | [d1, d2, d3] => { results := [.lit (.bool true)], args := [d1, d2, d3] }
  | _ => none }
def wordClaimsRow : OpenClaim := { program := "ytacdheachjnejaadoor", sum := "9109a7092e1d0a59e24a3ab9351971c3753cb69fdeba1154fb3774194d13fe3e", func := "foretell/foretelllaw.WordClaims", spec := "wordClaims", unfollowed := true, recurses := true, named := ["foretell/polish.parts"], apart := false, laid := [("foretell/polish.parts", laid_foretell_polish_parts)] }
def WordClaimsSaid : Prop := wordClaimsRow.holds Tryd.pinned (OpenSpec.ofChange wordClaimsSpec)

/-- ITS FALSE NEIGHBOUR: 'it returns false'. Refute it at one input. -/
def wordClaimsWrong : ChangeSpec := { name := "wordClaims", fn := fun _ => fun
  | [d1, d2, d3] => { results := [.lit (.bool false)], args := [d1, d2, d3] }
  | _ => none }
def WordClaimsWrongFalsely : Prop := wordClaimsRow.holds Tryd.pinned (OpenSpec.ofChange wordClaimsWrong)

/-- 'foretelllaw.ModelChecks': WHATEVER THE INPUT: true; the input reads as it did. -/
def modelChecksSpec : ChangeSpec := { name := "modelChecks", fn := fun _ => fun
  | [d] => { results := [.lit (.bool true)], args := [d] }
  | _ => none }
def modelChecksRow : OpenClaim := { program := "ytacdheachjnejaadoor", sum := "9109a7092e1d0a59e24a3ab9351971c3753cb69fdeba1154fb3774194d13fe3e", func := "foretell/foretelllaw.ModelChecks", spec := "modelChecks", unfollowed := true, recurses := true, named := ["foretell/polish.parts"], apart := false, laid := [("foretell/polish.parts", laid_foretell_polish_parts)] }
def ModelChecksSaid : Prop := modelChecksRow.holds Tryd.pinned (OpenSpec.ofChange modelChecksSpec)

/-- ITS FALSE NEIGHBOUR: 'it returns false'. Refute it at one input. -/
def modelChecksWrong : ChangeSpec := { name := "modelChecks", fn := fun _ => fun
  | [d] => { results := [.lit (.bool false)], args := [d] }
  | _ => none }
def ModelChecksWrongFalsely : Prop := modelChecksRow.holds Tryd.pinned (OpenSpec.ofChange modelChecksWrong)

/-- 'foretelllaw.ModelProps': WHATEVER THE INPUT: true; the input reads as it did. -/
def modelPropsSpec : ChangeSpec := { name := "modelProps", fn := fun _ => fun
  | [d1, d2] => { results := [.lit (.bool true)], args := [d1, d2] }
  | _ => none }
def modelPropsRow : OpenClaim := { program := "ytacdheachjnejaadoor", sum := "9109a7092e1d0a59e24a3ab9351971c3753cb69fdeba1154fb3774194d13fe3e", func := "foretell/foretelllaw.ModelProps", spec := "modelProps", unfollowed := true, recurses := true, named := ["foretell/polish.parts"], apart := false, laid := [("foretell/polish.parts", laid_foretell_polish_parts)] }
def ModelPropsSaid : Prop := modelPropsRow.holds Tryd.pinned (OpenSpec.ofChange modelPropsSpec)

/-- ITS FALSE NEIGHBOUR: 'it returns false'. Refute it at one input. -/
def modelPropsWrong : ChangeSpec := { name := "modelProps", fn := fun _ => fun
  | [d1, d2] => { results := [.lit (.bool false)], args := [d1, d2] }
  | _ => none }
def ModelPropsWrongFalsely : Prop := modelPropsRow.holds Tryd.pinned (OpenSpec.ofChange modelPropsWrong)

/-- 'foretelllaw.ModelCounts': WHATEVER THE INPUT: true; the input reads as it did. -/
def modelCountsSpec : ChangeSpec := { name := "modelCounts", fn := fun _ => fun
  | [d] => { results := [.lit (.bool true)], args := [d] }
  | _ => none }
def modelCountsRow : OpenClaim := { program := "ytacdheachjnejaadoor", sum := "9109a7092e1d0a59e24a3ab9351971c3753cb69fdeba1154fb3774194d13fe3e", func := "foretell/foretelllaw.ModelCounts", spec := "modelCounts", unfollowed := true, recurses := true, named := ["foretell/polish.parts"], apart := false, laid := [("foretell/polish.parts", laid_foretell_polish_parts)] }
def ModelCountsSaid : Prop := modelCountsRow.holds Tryd.pinned (OpenSpec.ofChange modelCountsSpec)

/-- ITS FALSE NEIGHBOUR: 'it returns false'. Refute it at one input. -/
def modelCountsWrong : ChangeSpec := { name := "modelCounts", fn := fun _ => fun
  | [d] => { results := [.lit (.bool false)], args := [d] }
  | _ => none }
def ModelCountsWrongFalsely : Prop := modelCountsRow.holds Tryd.pinned (OpenSpec.ofChange modelCountsWrong)

/-- 'foretelllaw.ModelCodes': WHATEVER THE INPUT: true; the input reads as it did. -/
def modelCodesSpec : ChangeSpec := { name := "modelCodes", fn := fun _ => fun
  | [d1, d2] => { results := [.lit (.bool true)], args := [d1, d2] }
  | _ => none }
def modelCodesRow : OpenClaim := { program := "ytacdheachjnejaadoor", sum := "9109a7092e1d0a59e24a3ab9351971c3753cb69fdeba1154fb3774194d13fe3e", func := "foretell/foretelllaw.ModelCodes", spec := "modelCodes", unfollowed := true, recurses := true, named := ["foretell/polish.parts"], apart := false, laid := [("foretell/polish.parts", laid_foretell_polish_parts)] }
def ModelCodesSaid : Prop := modelCodesRow.holds Tryd.pinned (OpenSpec.ofChange modelCodesSpec)

/-- ITS FALSE NEIGHBOUR: 'it returns false'. Refute it at one input. -/
def modelCodesWrong : ChangeSpec := { name := "modelCodes", fn := fun _ => fun
  | [d1, d2] => { results := [.lit (.bool false)], args := [d1, d2] }
  | _ => none }
def ModelCodesWrongFalsely : Prop := modelCodesRow.holds Tryd.pinned (OpenSpec.ofChange modelCodesWrong)

/-- 'foretelllaw.ModelFirsts': WHATEVER THE INPUT: true; the input reads as it did. -/
def modelFirstsSpec : ChangeSpec := { name := "modelFirsts", fn := fun _ => fun
  | [d] => { results := [.lit (.bool true)], args := [d] }
  | _ => none }
def modelFirstsRow : OpenClaim := { program := "ytacdheachjnejaadoor", sum := "9109a7092e1d0a59e24a3ab9351971c3753cb69fdeba1154fb3774194d13fe3e", func := "foretell/foretelllaw.ModelFirsts", spec := "modelFirsts", unfollowed := true, recurses := true, named := ["foretell/polish.parts"], apart := false, laid := [("foretell/polish.parts", laid_foretell_polish_parts)] }
def ModelFirstsSaid : Prop := modelFirstsRow.holds Tryd.pinned (OpenSpec.ofChange modelFirstsSpec)

/-- ITS FALSE NEIGHBOUR: 'it returns false'. Refute it at one input. -/
def modelFirstsWrong : ChangeSpec := { name := "modelFirsts", fn := fun _ => fun
  | [d] => { results := [.lit (.bool false)], args := [d] }
  | _ => none }
def ModelFirstsWrongFalsely : Prop := modelFirstsRow.holds Tryd.pinned (OpenSpec.ofChange modelFirstsWrong)

/-- 'foretelllaw.ModelValues': WHATEVER THE INPUT: true; the input reads as it did. -/
def modelValuesSpec : ChangeSpec := { name := "modelValues", fn := fun _ => fun
  | [d1, d2] => { results := [.lit (.bool true)], args := [d1, d2] }
  | _ => none }
def modelValuesRow : OpenClaim := { program := "ytacdheachjnejaadoor", sum := "9109a7092e1d0a59e24a3ab9351971c3753cb69fdeba1154fb3774194d13fe3e", func := "foretell/foretelllaw.ModelValues", spec := "modelValues", unfollowed := true, recurses := true, named := ["foretell/polish.parts"], apart := false, laid := [("foretell/polish.parts", laid_foretell_polish_parts)] }
def ModelValuesSaid : Prop := modelValuesRow.holds Tryd.pinned (OpenSpec.ofChange modelValuesSpec)

/-- ITS FALSE NEIGHBOUR: 'it returns false'. Refute it at one input. -/
def modelValuesWrong : ChangeSpec := { name := "modelValues", fn := fun _ => fun
  | [d1, d2] => { results := [.lit (.bool false)], args := [d1, d2] }
  | _ => none }
def ModelValuesWrongFalsely : Prop := modelValuesRow.holds Tryd.pinned (OpenSpec.ofChange modelValuesWrong)

/- THE SECOND FORM. 'bulk': how many values and letters a reading holds, each counted each time it is reached (what is shared counts as often as it is met; a slice's spare places count too). A statement '..UptoSaid' is the law's where the arguments, and the package variables that the reading takes, are together of bulk at most 1048576: NARROWER than '..Said'. Prove '..Said' where nothing that the law and all that it calls make is longer than what came in: it says more and counts as full. Else prove '..UptoSaid'. A law counts once. -/
mutual
def uptoBulk {H : Type} : DataW H → Nat
  | .lit (.string bytes) => bytes.length + 1
  | .lit _ => 1
  | .nil => 1
  | .ptr d => uptoBulk d + 1
  | .slice elems spare => uptoBulkAll elems + uptoBulkAll spare + 1
  | .agg parts => uptoBulkAll parts + 1
  | .iface _ d => uptoBulk d + 1
  | .map entries => uptoBulkEntries entries + 1
  | .held _ => 1
def uptoBulkAll {H : Type} : List (DataW H) → Nat
  | [] => 0
  | d :: r => uptoBulk d + uptoBulkAll r
def uptoBulkEntries {H : Type} : List (Lit × DataW H) → Nat
  | [] => 0
  | x :: r => uptoBulkEntry x + uptoBulkEntries r
def uptoBulkEntry {H : Type} : Lit × DataW H → Nat
  | (.string bytes, d) => bytes.length + uptoBulk d + 1
  | (_, d) => uptoBulk d + 1
 end
def uptoSmall : (H : Type) → List (DataW H) → Bool := fun _ ds => decide (uptoBulkAll ds ≤ 1048576)
def OpenSpec.upto (s : _root_.Go.ChangeSpec) : _root_.Go.OpenSpec := { _root_.Go.OpenSpec.ofChange s with cond := some uptoSmall }

/-- 'foretelllaw.ExprEvals', WHERE WHAT IT READS IS OF BULK AT MOST 1048576: true; the input reads as it did. -/
def exprEvalsUptoRow : OpenClaim := { program := "ytacdheachjnejaadoor", sum := "9109a7092e1d0a59e24a3ab9351971c3753cb69fdeba1154fb3774194d13fe3e", func := "foretell/foretelllaw.ExprEvals", spec := "exprEvals", unfollowed := true, recurses := true, named := ["foretell/polish.parts"], apart := false, laid := [("foretell/polish.parts", laid_foretell_polish_parts)], narrowed := true }
def ExprEvalsUptoSaid : Prop := exprEvalsUptoRow.holds Tryd.pinned (OpenSpec.upto exprEvalsSpec)

/-- 'foretelllaw.WordMoments', WHERE WHAT IT READS IS OF BULK AT MOST 1048576: true; the input reads as it did. -/
def wordMomentsUptoRow : OpenClaim := { program := "ytacdheachjnejaadoor", sum := "9109a7092e1d0a59e24a3ab9351971c3753cb69fdeba1154fb3774194d13fe3e", func := "foretell/foretelllaw.WordMoments", spec := "wordMoments", unfollowed := true, recurses := true, named := ["foretell/polish.parts"], apart := false, laid := [("foretell/polish.parts", laid_foretell_polish_parts)], narrowed := true }
def WordMomentsUptoSaid : Prop := wordMomentsUptoRow.holds Tryd.pinned (OpenSpec.upto wordMomentsSpec)

/-- 'foretelllaw.WordHolds', WHERE WHAT IT READS IS OF BULK AT MOST 1048576: true; the input reads as it did. -/
def wordHoldsUptoRow : OpenClaim := { program := "ytacdheachjnejaadoor", sum := "9109a7092e1d0a59e24a3ab9351971c3753cb69fdeba1154fb3774194d13fe3e", func := "foretell/foretelllaw.WordHolds", spec := "wordHolds", unfollowed := true, recurses := true, named := ["foretell/polish.parts"], apart := false, laid := [("foretell/polish.parts", laid_foretell_polish_parts)], narrowed := true }
def WordHoldsUptoSaid : Prop := wordHoldsUptoRow.holds Tryd.pinned (OpenSpec.upto wordHoldsSpec)

/-- 'foretelllaw.WordClaims', WHERE WHAT IT READS IS OF BULK AT MOST 1048576: true; the input reads as it did. -/
def wordClaimsUptoRow : OpenClaim := { program := "ytacdheachjnejaadoor", sum := "9109a7092e1d0a59e24a3ab9351971c3753cb69fdeba1154fb3774194d13fe3e", func := "foretell/foretelllaw.WordClaims", spec := "wordClaims", unfollowed := true, recurses := true, named := ["foretell/polish.parts"], apart := false, laid := [("foretell/polish.parts", laid_foretell_polish_parts)], narrowed := true }
def WordClaimsUptoSaid : Prop := wordClaimsUptoRow.holds Tryd.pinned (OpenSpec.upto wordClaimsSpec)

/-- 'foretelllaw.ModelChecks', WHERE WHAT IT READS IS OF BULK AT MOST 1048576: true; the input reads as it did. -/
def modelChecksUptoRow : OpenClaim := { program := "ytacdheachjnejaadoor", sum := "9109a7092e1d0a59e24a3ab9351971c3753cb69fdeba1154fb3774194d13fe3e", func := "foretell/foretelllaw.ModelChecks", spec := "modelChecks", unfollowed := true, recurses := true, named := ["foretell/polish.parts"], apart := false, laid := [("foretell/polish.parts", laid_foretell_polish_parts)], narrowed := true }
def ModelChecksUptoSaid : Prop := modelChecksUptoRow.holds Tryd.pinned (OpenSpec.upto modelChecksSpec)

/-- 'foretelllaw.ModelProps', WHERE WHAT IT READS IS OF BULK AT MOST 1048576: true; the input reads as it did. -/
def modelPropsUptoRow : OpenClaim := { program := "ytacdheachjnejaadoor", sum := "9109a7092e1d0a59e24a3ab9351971c3753cb69fdeba1154fb3774194d13fe3e", func := "foretell/foretelllaw.ModelProps", spec := "modelProps", unfollowed := true, recurses := true, named := ["foretell/polish.parts"], apart := false, laid := [("foretell/polish.parts", laid_foretell_polish_parts)], narrowed := true }
def ModelPropsUptoSaid : Prop := modelPropsUptoRow.holds Tryd.pinned (OpenSpec.upto modelPropsSpec)

/-- 'foretelllaw.ModelCounts', WHERE WHAT IT READS IS OF BULK AT MOST 1048576: true; the input reads as it did. -/
def modelCountsUptoRow : OpenClaim := { program := "ytacdheachjnejaadoor", sum := "9109a7092e1d0a59e24a3ab9351971c3753cb69fdeba1154fb3774194d13fe3e", func := "foretell/foretelllaw.ModelCounts", spec := "modelCounts", unfollowed := true, recurses := true, named := ["foretell/polish.parts"], apart := false, laid := [("foretell/polish.parts", laid_foretell_polish_parts)], narrowed := true }
def ModelCountsUptoSaid : Prop := modelCountsUptoRow.holds Tryd.pinned (OpenSpec.upto modelCountsSpec)

/-- 'foretelllaw.ModelCodes', WHERE WHAT IT READS IS OF BULK AT MOST 1048576: true; the input reads as it did. -/
def modelCodesUptoRow : OpenClaim := { program := "ytacdheachjnejaadoor", sum := "9109a7092e1d0a59e24a3ab9351971c3753cb69fdeba1154fb3774194d13fe3e", func := "foretell/foretelllaw.ModelCodes", spec := "modelCodes", unfollowed := true, recurses := true, named := ["foretell/polish.parts"], apart := false, laid := [("foretell/polish.parts", laid_foretell_polish_parts)], narrowed := true }
def ModelCodesUptoSaid : Prop := modelCodesUptoRow.holds Tryd.pinned (OpenSpec.upto modelCodesSpec)

/-- 'foretelllaw.ModelFirsts', WHERE WHAT IT READS IS OF BULK AT MOST 1048576: true; the input reads as it did. -/
def modelFirstsUptoRow : OpenClaim := { program := "ytacdheachjnejaadoor", sum := "9109a7092e1d0a59e24a3ab9351971c3753cb69fdeba1154fb3774194d13fe3e", func := "foretell/foretelllaw.ModelFirsts", spec := "modelFirsts", unfollowed := true, recurses := true, named := ["foretell/polish.parts"], apart := false, laid := [("foretell/polish.parts", laid_foretell_polish_parts)], narrowed := true }
def ModelFirstsUptoSaid : Prop := modelFirstsUptoRow.holds Tryd.pinned (OpenSpec.upto modelFirstsSpec)

/-- 'foretelllaw.ModelValues', WHERE WHAT IT READS IS OF BULK AT MOST 1048576: true; the input reads as it did. -/
def modelValuesUptoRow : OpenClaim := { program := "ytacdheachjnejaadoor", sum := "9109a7092e1d0a59e24a3ab9351971c3753cb69fdeba1154fb3774194d13fe3e", func := "foretell/foretelllaw.ModelValues", spec := "modelValues", unfollowed := true, recurses := true, named := ["foretell/polish.parts"], apart := false, laid := [("foretell/polish.parts", laid_foretell_polish_parts)], narrowed := true }
def ModelValuesUptoSaid : Prop := modelValuesUptoRow.holds Tryd.pinned (OpenSpec.upto modelValuesSpec)

end Rows
end Go.Proofs.YtacdheachjnejaaDoor
