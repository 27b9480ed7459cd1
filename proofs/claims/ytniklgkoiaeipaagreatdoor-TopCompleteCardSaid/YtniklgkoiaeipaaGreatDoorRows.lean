/-
  NARROWER THAN 'FOR EVERY INPUT', by the rows' own cells (each row's printed sentence says how): ProductExplores: laid · VerdictChecks: laid · TopNot: laid · TopAnd: laid · TopOr: laid · TopAlways: laid · TopNow: laid · TopLone: laid · TopSound: laid · TopComplete: laid · TopOneRun: laid.
  DERIVED. THE GIVEN ROWS OF THIS SEAT. 11 by the template 'for every input the law returns true; each argument reads behind the call as it read before'; 0 by the template 'total and deterministic' (their statements: YtniklgkoiaeipaaGreatDoorTotals.lean).
  GIVEN WITH THE SEED: the statements are not yours to turn. If you find one false, say at which input.
  Laid BY PROGRAM, IN A SANDBOX (cutbox-rows.mjs): the forced cells as the released guide's own fill.sh prints them over the translation 9d6dcaf94512f79c… (all of the seat's roots in one cut). By AI agents, Wed Nov 11 2026. No macro, syntax, notation, axiom, sorry.
-/
import Derived.Test.YtniklgkoiaeipaaGreatDoorChecked
import GoSem.Claim
import GoSem.ClaimJoined
import GoSem.ClaimMapViews
import Derived.JoinedTies
import Derived.KernelRfl
namespace Go.Proofs.YtniklgkoiaeipaaGreatDoor
/- THE CELL 'sum', in the pinned program and in every row, IS THE sha256 OF THE DUMP (.gsa) THAT YtniklgkoiaeipaaGreatDoorProg.lean LOADS. Nothing in Lean hashes anything: it is a label: what it is worth is what the hold of that sum in a sandbox is worth. -/
noncomputable def Tryz.pinned : Pinned := { name := "ytniklgkoiaeipaagreatdoor", sum := "9d6dcaf94512f79c3ce04eb220e8248869e8a04a95c01a26833e27668f438ccc", checked := Tryz.checked }
namespace Rows
def none {H : Type} : Left H := { results := [], args := [] }

/- WHAT THE LISTED PACKAGE-LEVEL VARIABLES READ AS WHEN THE CALL BEGINS. Each datum BY PROGRAM (the guide's laid-datum.mjs) off the statement by which the dump's own 'gosem.cut.vars' lays the variable. In a bare row this is a premise. The card (YtniklgkoiaeipaaGreatDoorCards.lean) ties it to the program's text. -/
def laid_foretell_polish_parts {H : Type} : DataW H := .agg [.lit (.int .i64 (-1)), .lit (.int .i64 0), .lit (.int .i64 0), .lit (.int .i64 2), .lit (.int .i64 2), .lit (.int .i64 2), .lit (.int .i64 2), .lit (.int .i64 2), .lit (.int .i64 2), .lit (.int .i64 2), .lit (.int .i64 1), .lit (.int .i64 0), .lit (.int .i64 0), .lit (.int .i64 0), .lit (.int .i64 1), .lit (.int .i64 2), .lit (.int .i64 2), .lit (.int .i64 1), .lit (.int .i64 1)]

/-- 'foretelllaw.ProductExplores': WHATEVER THE INPUT: true; the input reads as it did. -/
def productExploresSpec : ChangeSpec := { name := "productExplores", fn := fun _ => fun
  | [d] => { results := [.lit (.bool true)], args := [d] }
  | _ => none }
def productExploresRow : OpenClaim := { program := "ytniklgkoiaeipaagreatdoor", sum := "9d6dcaf94512f79c3ce04eb220e8248869e8a04a95c01a26833e27668f438ccc", func := "foretell/foretelllaw.ProductExplores", spec := "productExplores", unfollowed := true, recurses := true, named := ["foretell/polish.parts"], plainKeys := false, apart := false, laid := [("foretell/polish.parts", laid_foretell_polish_parts)] }
def ProductExploresSaid : Prop := productExploresRow.holds Tryz.pinned (OpenSpec.ofChange productExploresSpec)

/-- ITS FALSE NEIGHBOUR: 'it returns false'. Refute it at one input. -/
def productExploresWrong : ChangeSpec := { name := "productExplores", fn := fun _ => fun
  | [d] => { results := [.lit (.bool false)], args := [d] }
  | _ => none }
def ProductExploresWrongFalsely : Prop := productExploresRow.holds Tryz.pinned (OpenSpec.ofChange productExploresWrong)

/-- 'foretelllaw.VerdictChecks': WHATEVER THE INPUT: true; the input reads as it did. -/
def verdictChecksSpec : ChangeSpec := { name := "verdictChecks", fn := fun _ => fun
  | [d] => { results := [.lit (.bool true)], args := [d] }
  | _ => none }
def verdictChecksRow : OpenClaim := { program := "ytniklgkoiaeipaagreatdoor", sum := "9d6dcaf94512f79c3ce04eb220e8248869e8a04a95c01a26833e27668f438ccc", func := "foretell/foretelllaw.VerdictChecks", spec := "verdictChecks", unfollowed := true, recurses := true, named := ["foretell/polish.parts"], plainKeys := false, apart := false, laid := [("foretell/polish.parts", laid_foretell_polish_parts)] }
def VerdictChecksSaid : Prop := verdictChecksRow.holds Tryz.pinned (OpenSpec.ofChange verdictChecksSpec)

/-- ITS FALSE NEIGHBOUR: 'it returns false'. Refute it at one input. -/
def verdictChecksWrong : ChangeSpec := { name := "verdictChecks", fn := fun _ => fun
  | [d] => { results := [.lit (.bool false)], args := [d] }
  | _ => none }
def VerdictChecksWrongFalsely : Prop := verdictChecksRow.holds Tryz.pinned (OpenSpec.ofChange verdictChecksWrong)

/-- 'foretelltop.TopNot': WHATEVER THE INPUT: true; the input reads as it did. -/
def topNotSpec : ChangeSpec := { name := "topNot", fn := fun _ => fun
  | [d1, d2] => { results := [.lit (.bool true)], args := [d1, d2] }
  | _ => none }
def topNotRow : OpenClaim := { program := "ytniklgkoiaeipaagreatdoor", sum := "9d6dcaf94512f79c3ce04eb220e8248869e8a04a95c01a26833e27668f438ccc", func := "foretell/foretelltop.TopNot", spec := "topNot", unfollowed := true, recurses := true, named := ["foretell/polish.parts"], plainKeys := false, apart := false, laid := [("foretell/polish.parts", laid_foretell_polish_parts)] }
def TopNotSaid : Prop := topNotRow.holds Tryz.pinned (OpenSpec.ofChange topNotSpec)

/-- ITS FALSE NEIGHBOUR: 'it returns false'. Refute it at one input. -/
def topNotWrong : ChangeSpec := { name := "topNot", fn := fun _ => fun
  | [d1, d2] => { results := [.lit (.bool false)], args := [d1, d2] }
  | _ => none }
def TopNotWrongFalsely : Prop := topNotRow.holds Tryz.pinned (OpenSpec.ofChange topNotWrong)

/-- 'foretelltop.TopAnd': WHATEVER THE INPUT: true; the input reads as it did. -/
def topAndSpec : ChangeSpec := { name := "topAnd", fn := fun _ => fun
  | [d1, d2, d3] => { results := [.lit (.bool true)], args := [d1, d2, d3] }
  | _ => none }
def topAndRow : OpenClaim := { program := "ytniklgkoiaeipaagreatdoor", sum := "9d6dcaf94512f79c3ce04eb220e8248869e8a04a95c01a26833e27668f438ccc", func := "foretell/foretelltop.TopAnd", spec := "topAnd", unfollowed := true, recurses := true, named := ["foretell/polish.parts"], plainKeys := false, apart := false, laid := [("foretell/polish.parts", laid_foretell_polish_parts)] }
def TopAndSaid : Prop := topAndRow.holds Tryz.pinned (OpenSpec.ofChange topAndSpec)

/-- ITS FALSE NEIGHBOUR: 'it returns false'. Refute it at one input. -/
def topAndWrong : ChangeSpec := { name := "topAnd", fn := fun _ => fun
  | [d1, d2, d3] => { results := [.lit (.bool false)], args := [d1, d2, d3] }
  | _ => none }
def TopAndWrongFalsely : Prop := topAndRow.holds Tryz.pinned (OpenSpec.ofChange topAndWrong)

/-- 'foretelltop.TopOr': WHATEVER THE INPUT: true; the input reads as it did. -/
def topOrSpec : ChangeSpec := { name := "topOr", fn := fun _ => fun
  | [d1, d2, d3] => { results := [.lit (.bool true)], args := [d1, d2, d3] }
  | _ => none }
def topOrRow : OpenClaim := { program := "ytniklgkoiaeipaagreatdoor", sum := "9d6dcaf94512f79c3ce04eb220e8248869e8a04a95c01a26833e27668f438ccc", func := "foretell/foretelltop.TopOr", spec := "topOr", unfollowed := true, recurses := true, named := ["foretell/polish.parts"], plainKeys := false, apart := false, laid := [("foretell/polish.parts", laid_foretell_polish_parts)] }
def TopOrSaid : Prop := topOrRow.holds Tryz.pinned (OpenSpec.ofChange topOrSpec)

/-- ITS FALSE NEIGHBOUR: 'it returns false'. Refute it at one input. -/
def topOrWrong : ChangeSpec := { name := "topOr", fn := fun _ => fun
  | [d1, d2, d3] => { results := [.lit (.bool false)], args := [d1, d2, d3] }
  | _ => none }
def TopOrWrongFalsely : Prop := topOrRow.holds Tryz.pinned (OpenSpec.ofChange topOrWrong)

/-- 'foretelltop.TopAlways': WHATEVER THE INPUT: true; the input reads as it did. -/
def topAlwaysSpec : ChangeSpec := { name := "topAlways", fn := fun _ => fun
  | [d1, d2] => { results := [.lit (.bool true)], args := [d1, d2] }
  | _ => none }
def topAlwaysRow : OpenClaim := { program := "ytniklgkoiaeipaagreatdoor", sum := "9d6dcaf94512f79c3ce04eb220e8248869e8a04a95c01a26833e27668f438ccc", func := "foretell/foretelltop.TopAlways", spec := "topAlways", unfollowed := true, recurses := true, named := ["foretell/polish.parts"], plainKeys := false, apart := false, laid := [("foretell/polish.parts", laid_foretell_polish_parts)] }
def TopAlwaysSaid : Prop := topAlwaysRow.holds Tryz.pinned (OpenSpec.ofChange topAlwaysSpec)

/-- ITS FALSE NEIGHBOUR: 'it returns false'. Refute it at one input. -/
def topAlwaysWrong : ChangeSpec := { name := "topAlways", fn := fun _ => fun
  | [d1, d2] => { results := [.lit (.bool false)], args := [d1, d2] }
  | _ => none }
def TopAlwaysWrongFalsely : Prop := topAlwaysRow.holds Tryz.pinned (OpenSpec.ofChange topAlwaysWrong)

/-- 'foretelltop.TopNow': WHATEVER THE INPUT: true; the input reads as it did. -/
def topNowSpec : ChangeSpec := { name := "topNow", fn := fun _ => fun
  | [d1, d2] => { results := [.lit (.bool true)], args := [d1, d2] }
  | _ => none }
def topNowRow : OpenClaim := { program := "ytniklgkoiaeipaagreatdoor", sum := "9d6dcaf94512f79c3ce04eb220e8248869e8a04a95c01a26833e27668f438ccc", func := "foretell/foretelltop.TopNow", spec := "topNow", unfollowed := true, recurses := true, named := ["foretell/polish.parts"], plainKeys := false, apart := false, laid := [("foretell/polish.parts", laid_foretell_polish_parts)] }
def TopNowSaid : Prop := topNowRow.holds Tryz.pinned (OpenSpec.ofChange topNowSpec)

/-- ITS FALSE NEIGHBOUR: 'it returns false'. Refute it at one input. -/
def topNowWrong : ChangeSpec := { name := "topNow", fn := fun _ => fun
  | [d1, d2] => { results := [.lit (.bool false)], args := [d1, d2] }
  | _ => none }
def TopNowWrongFalsely : Prop := topNowRow.holds Tryz.pinned (OpenSpec.ofChange topNowWrong)

/-- 'foretelltop.TopLone': WHATEVER THE INPUT: true; the input reads as it did. -/
def topLoneSpec : ChangeSpec := { name := "topLone", fn := fun _ => fun
  | [d1, d2] => { results := [.lit (.bool true)], args := [d1, d2] }
  | _ => none }
def topLoneRow : OpenClaim := { program := "ytniklgkoiaeipaagreatdoor", sum := "9d6dcaf94512f79c3ce04eb220e8248869e8a04a95c01a26833e27668f438ccc", func := "foretell/foretelltop.TopLone", spec := "topLone", unfollowed := true, recurses := true, named := ["foretell/polish.parts"], plainKeys := false, apart := false, laid := [("foretell/polish.parts", laid_foretell_polish_parts)] }
def TopLoneSaid : Prop := topLoneRow.holds Tryz.pinned (OpenSpec.ofChange topLoneSpec)

/-- ITS FALSE NEIGHBOUR: 'it returns false'. Refute it at one input. -/
def topLoneWrong : ChangeSpec := { name := "topLone", fn := fun _ => fun
  | [d1, d2] => { results := [.lit (.bool false)], args := [d1, d2] }
  | _ => none }
def TopLoneWrongFalsely : Prop := topLoneRow.holds Tryz.pinned (OpenSpec.ofChange topLoneWrong)

/-- 'foretelltop.TopSound': WHATEVER THE INPUT: true; the input reads as it did. -/
def topSoundSpec : ChangeSpec := { name := "topSound", fn := fun _ => fun
  | [d1, d2] => { results := [.lit (.bool true)], args := [d1, d2] }
  | _ => none }
def topSoundRow : OpenClaim := { program := "ytniklgkoiaeipaagreatdoor", sum := "9d6dcaf94512f79c3ce04eb220e8248869e8a04a95c01a26833e27668f438ccc", func := "foretell/foretelltop.TopSound", spec := "topSound", unfollowed := true, recurses := true, named := ["foretell/polish.parts"], plainKeys := false, apart := false, laid := [("foretell/polish.parts", laid_foretell_polish_parts)] }
def TopSoundSaid : Prop := topSoundRow.holds Tryz.pinned (OpenSpec.ofChange topSoundSpec)

/-- ITS FALSE NEIGHBOUR: 'it returns false'. Refute it at one input. -/
def topSoundWrong : ChangeSpec := { name := "topSound", fn := fun _ => fun
  | [d1, d2] => { results := [.lit (.bool false)], args := [d1, d2] }
  | _ => none }
def TopSoundWrongFalsely : Prop := topSoundRow.holds Tryz.pinned (OpenSpec.ofChange topSoundWrong)

/-- 'foretelltop.TopComplete': WHATEVER THE INPUT: true; the input reads as it did. -/
def topCompleteSpec : ChangeSpec := { name := "topComplete", fn := fun _ => fun
  | [d1, d2, d3] => { results := [.lit (.bool true)], args := [d1, d2, d3] }
  | _ => none }
def topCompleteRow : OpenClaim := { program := "ytniklgkoiaeipaagreatdoor", sum := "9d6dcaf94512f79c3ce04eb220e8248869e8a04a95c01a26833e27668f438ccc", func := "foretell/foretelltop.TopComplete", spec := "topComplete", unfollowed := true, recurses := true, named := ["foretell/polish.parts"], plainKeys := false, apart := false, laid := [("foretell/polish.parts", laid_foretell_polish_parts)] }
def TopCompleteSaid : Prop := topCompleteRow.holds Tryz.pinned (OpenSpec.ofChange topCompleteSpec)

/-- ITS FALSE NEIGHBOUR: 'it returns false'. Refute it at one input. -/
def topCompleteWrong : ChangeSpec := { name := "topComplete", fn := fun _ => fun
  | [d1, d2, d3] => { results := [.lit (.bool false)], args := [d1, d2, d3] }
  | _ => none }
def TopCompleteWrongFalsely : Prop := topCompleteRow.holds Tryz.pinned (OpenSpec.ofChange topCompleteWrong)

/-- 'foretelltop.TopOneRun': WHATEVER THE INPUT: true; the input reads as it did. -/
def topOneRunSpec : ChangeSpec := { name := "topOneRun", fn := fun _ => fun
  | [d1, d2] => { results := [.lit (.bool true)], args := [d1, d2] }
  | _ => none }
def topOneRunRow : OpenClaim := { program := "ytniklgkoiaeipaagreatdoor", sum := "9d6dcaf94512f79c3ce04eb220e8248869e8a04a95c01a26833e27668f438ccc", func := "foretell/foretelltop.TopOneRun", spec := "topOneRun", unfollowed := true, recurses := true, named := ["foretell/polish.parts"], plainKeys := false, apart := false, laid := [("foretell/polish.parts", laid_foretell_polish_parts)] }
def TopOneRunSaid : Prop := topOneRunRow.holds Tryz.pinned (OpenSpec.ofChange topOneRunSpec)

/-- ITS FALSE NEIGHBOUR: 'it returns false'. Refute it at one input. -/
def topOneRunWrong : ChangeSpec := { name := "topOneRun", fn := fun _ => fun
  | [d1, d2] => { results := [.lit (.bool false)], args := [d1, d2] }
  | _ => none }
def TopOneRunWrongFalsely : Prop := topOneRunRow.holds Tryz.pinned (OpenSpec.ofChange topOneRunWrong)

/- THE SECOND FORM. 'bulk': how many values and letters a reading holds, each counted each time it is reached (what is shared counts as often as it is met; a slice's spare places count too). A statement '..UptoSaid' is the law's where the arguments, and the package variables that the reading takes, are together of bulk at most 1048576: NARROWER than '..Said'. Prove '..Said' where nothing that the law and all that it calls make is longer than what came in: it says more and counts as full. Else prove '..UptoSaid'. A law counts once. -/
mutual
def uptoBulk {H : Type} : DataW H → Nat
  | .lit (.string bytes) => bytes.length + 1
  | .lit _ => 1
  | .nil => 1
  | .ptr d => uptoBulk d + 1
  | .slice elems spare => uptoBulkAll elems + uptoBulkAll spare + 1
  | .agg parts => uptoBulkAll parts + 1
  | .iface _ d => uptoBulk d + 1
  | .map entries => uptoBulkEntries entries + 1
  | .held _ => 1
def uptoBulkAll {H : Type} : List (DataW H) → Nat
  | [] => 0
  | d :: r => uptoBulk d + uptoBulkAll r
def uptoBulkEntries {H : Type} : List (Lit × DataW H) → Nat
  | [] => 0
  | x :: r => uptoBulkEntry x + uptoBulkEntries r
def uptoBulkEntry {H : Type} : Lit × DataW H → Nat
  | (.string bytes, d) => bytes.length + uptoBulk d + 1
  | (_, d) => uptoBulk d + 1
 end
def uptoSmall : (H : Type) → List (DataW H) → Bool := fun _ ds => decide (uptoBulkAll ds ≤ 1048576)
def OpenSpec.upto (s : _root_.Go.ChangeSpec) : _root_.Go.OpenSpec := { _root_.Go.OpenSpec.ofChange s with cond := some uptoSmall }

/-- 'foretelllaw.ProductExplores', WHERE WHAT IT READS IS OF BULK AT MOST 1048576: true; the input reads as it did. -/
def productExploresUptoRow : OpenClaim := { program := "ytniklgkoiaeipaagreatdoor", sum := "9d6dcaf94512f79c3ce04eb220e8248869e8a04a95c01a26833e27668f438ccc", func := "foretell/foretelllaw.ProductExplores", spec := "productExplores", unfollowed := true, recurses := true, named := ["foretell/polish.parts"], plainKeys := false, apart := false, laid := [("foretell/polish.parts", laid_foretell_polish_parts)], narrowed := true }
def ProductExploresUptoSaid : Prop := productExploresUptoRow.holds Tryz.pinned (OpenSpec.upto productExploresSpec)

/-- 'foretelllaw.VerdictChecks', WHERE WHAT IT READS IS OF BULK AT MOST 1048576: true; the input reads as it did. -/
def verdictChecksUptoRow : OpenClaim := { program := "ytniklgkoiaeipaagreatdoor", sum := "9d6dcaf94512f79c3ce04eb220e8248869e8a04a95c01a26833e27668f438ccc", func := "foretell/foretelllaw.VerdictChecks", spec := "verdictChecks", unfollowed := true, recurses := true, named := ["foretell/polish.parts"], plainKeys := false, apart := false, laid := [("foretell/polish.parts", laid_foretell_polish_parts)], narrowed := true }
def VerdictChecksUptoSaid : Prop := verdictChecksUptoRow.holds Tryz.pinned (OpenSpec.upto verdictChecksSpec)

/-- 'foretelltop.TopNot', WHERE WHAT IT READS IS OF BULK AT MOST 1048576: true; the input reads as it did. -/
def topNotUptoRow : OpenClaim := { program := "ytniklgkoiaeipaagreatdoor", sum := "9d6dcaf94512f79c3ce04eb220e8248869e8a04a95c01a26833e27668f438ccc", func := "foretell/foretelltop.TopNot", spec := "topNot", unfollowed := true, recurses := true, named := ["foretell/polish.parts"], plainKeys := false, apart := false, laid := [("foretell/polish.parts", laid_foretell_polish_parts)], narrowed := true }
def TopNotUptoSaid : Prop := topNotUptoRow.holds Tryz.pinned (OpenSpec.upto topNotSpec)

/-- 'foretelltop.TopAnd', WHERE WHAT IT READS IS OF BULK AT MOST 1048576: true; the input reads as it did. -/
def topAndUptoRow : OpenClaim := { program := "ytniklgkoiaeipaagreatdoor", sum := "9d6dcaf94512f79c3ce04eb220e8248869e8a04a95c01a26833e27668f438ccc", func := "foretell/foretelltop.TopAnd", spec := "topAnd", unfollowed := true, recurses := true, named := ["foretell/polish.parts"], plainKeys := false, apart := false, laid := [("foretell/polish.parts", laid_foretell_polish_parts)], narrowed := true }
def TopAndUptoSaid : Prop := topAndUptoRow.holds Tryz.pinned (OpenSpec.upto topAndSpec)

/-- 'foretelltop.TopOr', WHERE WHAT IT READS IS OF BULK AT MOST 1048576: true; the input reads as it did. -/
def topOrUptoRow : OpenClaim := { program := "ytniklgkoiaeipaagreatdoor", sum := "9d6dcaf94512f79c3ce04eb220e8248869e8a04a95c01a26833e27668f438ccc", func := "foretell/foretelltop.TopOr", spec := "topOr", unfollowed := true, recurses := true, named := ["foretell/polish.parts"], plainKeys := false, apart := false, laid := [("foretell/polish.parts", laid_foretell_polish_parts)], narrowed := true }
def TopOrUptoSaid : Prop := topOrUptoRow.holds Tryz.pinned (OpenSpec.upto topOrSpec)

/-- 'foretelltop.TopAlways', WHERE WHAT IT READS IS OF BULK AT MOST 1048576: true; the input reads as it did. -/
def topAlwaysUptoRow : OpenClaim := { program := "ytniklgkoiaeipaagreatdoor", sum := "9d6dcaf94512f79c3ce04eb220e8248869e8a04a95c01a26833e27668f438ccc", func := "foretell/foretelltop.TopAlways", spec := "topAlways", unfollowed := true, recurses := true, named := ["foretell/polish.parts"], plainKeys := false, apart := false, laid := [("foretell/polish.parts", laid_foretell_polish_parts)], narrowed := true }
def TopAlwaysUptoSaid : Prop := topAlwaysUptoRow.holds Tryz.pinned (OpenSpec.upto topAlwaysSpec)

/-- 'foretelltop.TopNow', WHERE WHAT IT READS IS OF BULK AT MOST 1048576: true; the input reads as it did. -/
def topNowUptoRow : OpenClaim := { program := "ytniklgkoiaeipaagreatdoor", sum := "9d6dcaf94512f79c3ce04eb220e8248869e8a04a95c01a26833e27668f438ccc", func := "foretell/foretelltop.TopNow", spec := "topNow", unfollowed := true, recurses := true, named := ["foretell/polish.parts"], plainKeys := false, apart := false, laid := [("foretell/polish.parts", laid_foretell_polish_parts)], narrowed := true }
def TopNowUptoSaid : Prop := topNowUptoRow.holds Tryz.pinned (OpenSpec.upto topNowSpec)

/-- 'foretelltop.TopLone', WHERE WHAT IT READS IS OF BULK AT MOST 1048576: true; the input reads as it did. -/
def topLoneUptoRow : OpenClaim := { program := "ytniklgkoiaeipaagreatdoor", sum := "9d6dcaf94512f79c3ce04eb220e8248869e8a04a95c01a26833e27668f438ccc", func := "foretell/foretelltop.TopLone", spec := "topLone", unfollowed := true, recurses := true, named := ["foretell/polish.parts"], plainKeys := false, apart := false, laid := [("foretell/polish.parts", laid_foretell_polish_parts)], narrowed := true }
def TopLoneUptoSaid : Prop := topLoneUptoRow.holds Tryz.pinned (OpenSpec.upto topLoneSpec)

/-- 'foretelltop.TopSound', WHERE WHAT IT READS IS OF BULK AT MOST 1048576: true; the input reads as it did. -/
def topSoundUptoRow : OpenClaim := { program := "ytniklgkoiaeipaagreatdoor", sum := "9d6dcaf94512f79c3ce04eb220e8248869e8a04a95c01a26833e27668f438ccc", func := "foretell/foretelltop.TopSound", spec := "topSound", unfollowed := true, recurses := true, named := ["foretell/polish.parts"], plainKeys := false, apart := false, laid := [("foretell/polish.parts", laid_foretell_polish_parts)], narrowed := true }
def TopSoundUptoSaid : Prop := topSoundUptoRow.holds Tryz.pinned (OpenSpec.upto topSoundSpec)

/-- 'foretelltop.TopComplete', WHERE WHAT IT READS IS OF BULK AT MOST 1048576: true; the input reads as it did. -/
def topCompleteUptoRow : OpenClaim := { program := "ytniklgkoiaeipaagreatdoor", sum := "9d6dcaf94512f79c3ce04eb220e8248869e8a04a95c01a26833e27668f438ccc", func := "foretell/foretelltop.TopComplete", spec := "topComplete", unfollowed := true, recurses := true, named := ["foretell/polish.parts"], plainKeys := false, apart := false, laid := [("foretell/polish.parts", laid_foretell_polish_parts)], narrowed := true }
def TopCompleteUptoSaid : Prop := topCompleteUptoRow.holds Tryz.pinned (OpenSpec.upto topCompleteSpec)

/-- 'foretelltop.TopOneRun', WHERE WHAT IT READS IS OF BULK AT MOST 1048576: true; the input reads as it did. -/
def topOneRunUptoRow : OpenClaim := { program := "ytniklgkoiaeipaagreatdoor", sum := "9d6dcaf94512f79c3ce04eb220e8248869e8a04a95c01a26833e27668f438ccc", func := "foretell/foretelltop.TopOneRun", spec := "topOneRun", unfollowed := true, recurses := true, named := ["foretell/polish.parts"], plainKeys := false, apart := false, laid := [("foretell/polish.parts", laid_foretell_polish_parts)], narrowed := true }
def TopOneRunUptoSaid : Prop := topOneRunUptoRow.holds Tryz.pinned (OpenSpec.upto topOneRunSpec)

end Rows
end Go.Proofs.YtniklgkoiaeipaaGreatDoor
