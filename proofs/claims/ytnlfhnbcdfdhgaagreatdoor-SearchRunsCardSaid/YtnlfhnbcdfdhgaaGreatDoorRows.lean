/-
  NARROWER THAN 'FOR EVERY INPUT', by the rows' own cells (each row's printed sentence says how): SearchRuns: laid · SearchBounds: laid · SearchSaved: laid · SearchCrash: laid · SearchAgain: laid · SearchDown: laid · SearchParts: laid · SearchCalm: laid · SearchSame: laid · SearchEnough: laid · SearchTruth: laid.
  DERIVED. THE GIVEN ROWS OF THIS SEAT. 11 by the template 'for every input the law returns true; each argument reads behind the call as it read before'; 0 by the template 'total and deterministic' (their statements: YtnlfhnbcdfdhgaaGreatDoorTotals.lean).
  GIVEN WITH THE SEED: the statements are not yours to turn. If you find one false, say at which input.
  Laid BY PROGRAM, IN A SANDBOX (cutbox-rows.mjs): the forced cells as the released guide's own fill.sh prints them over the translation aad8bb6108ae1971… (all of the seat's roots in one cut). By AI agents, Wed Nov 11 2026. No macro, syntax, notation, axiom, sorry.
-/
import Derived.Test.YtnlfhnbcdfdhgaaGreatDoorChecked
import GoSem.Claim
import GoSem.ClaimJoined
import GoSem.ClaimMapViews
import Derived.JoinedTies
import Derived.KernelRfl
namespace Go.Proofs.YtnlfhnbcdfdhgaaGreatDoor
/- THE CELL 'sum', in the pinned program and in every row, IS THE sha256 OF THE DUMP (.gsa) THAT YtnlfhnbcdfdhgaaGreatDoorProg.lean LOADS. Nothing in Lean hashes anything: it is a label: what it is worth is what the hold of that sum in a sandbox is worth. -/
noncomputable def Tryz.pinned : Pinned := { name := "ytnlfhnbcdfdhgaagreatdoor", sum := "aad8bb6108ae1971b9c493f971b9c24cc8ab7692e924c4fc690185955691a8b8", checked := Tryz.checked }
namespace Rows
def none {H : Type} : Left H := { results := [], args := [] }

/- WHAT THE LISTED PACKAGE-LEVEL VARIABLES READ AS WHEN THE CALL BEGINS. Each datum BY PROGRAM (the guide's laid-datum.mjs) off the statement by which the dump's own 'gosem.cut.vars' lays the variable. In a bare row this is a premise. The card (YtnlfhnbcdfdhgaaGreatDoorCards.lean) ties it to the program's text. -/
def laid_foretell_polish_parts {H : Type} : DataW H := .agg [.lit (.int .i64 (-1)), .lit (.int .i64 0), .lit (.int .i64 0), .lit (.int .i64 2), .lit (.int .i64 2), .lit (.int .i64 2), .lit (.int .i64 2), .lit (.int .i64 2), .lit (.int .i64 2), .lit (.int .i64 2), .lit (.int .i64 1), .lit (.int .i64 0), .lit (.int .i64 0), .lit (.int .i64 0), .lit (.int .i64 1), .lit (.int .i64 2), .lit (.int .i64 2), .lit (.int .i64 1), .lit (.int .i64 1)]

/-- 'foretelllaw.SearchRuns': WHATEVER THE INPUT: true; the input reads as it did. -/
def searchRunsSpec : ChangeSpec := { name := "searchRuns", fn := fun _ => fun
  | [d1, d2] => { results := [.lit (.bool true)], args := [d1, d2] }
  | _ => none }
def searchRunsRow : OpenClaim := { program := "ytnlfhnbcdfdhgaagreatdoor", sum := "aad8bb6108ae1971b9c493f971b9c24cc8ab7692e924c4fc690185955691a8b8", func := "foretell/foretelllaw.SearchRuns", spec := "searchRuns", unfollowed := true, recurses := true, named := ["foretell/polish.parts"], plainKeys := false, apart := false, laid := [("foretell/polish.parts", laid_foretell_polish_parts)] }
def SearchRunsSaid : Prop := searchRunsRow.holds Tryz.pinned (OpenSpec.ofChange searchRunsSpec)

/-- ITS FALSE NEIGHBOUR: 'it returns false'. Refute it at one input. -/
def searchRunsWrong : ChangeSpec := { name := "searchRuns", fn := fun _ => fun
  | [d1, d2] => { results := [.lit (.bool false)], args := [d1, d2] }
  | _ => none }
def SearchRunsWrongFalsely : Prop := searchRunsRow.holds Tryz.pinned (OpenSpec.ofChange searchRunsWrong)

/-- 'foretelltop.SearchBounds': WHATEVER THE INPUT: true; the input reads as it did. -/
def searchBoundsSpec : ChangeSpec := { name := "searchBounds", fn := fun _ => fun
  | [d1, d2, d3] => { results := [.lit (.bool true)], args := [d1, d2, d3] }
  | _ => none }
def searchBoundsRow : OpenClaim := { program := "ytnlfhnbcdfdhgaagreatdoor", sum := "aad8bb6108ae1971b9c493f971b9c24cc8ab7692e924c4fc690185955691a8b8", func := "foretell/foretelltop.SearchBounds", spec := "searchBounds", unfollowed := true, recurses := true, named := ["foretell/polish.parts"], plainKeys := false, apart := false, laid := [("foretell/polish.parts", laid_foretell_polish_parts)] }
def SearchBoundsSaid : Prop := searchBoundsRow.holds Tryz.pinned (OpenSpec.ofChange searchBoundsSpec)

/-- ITS FALSE NEIGHBOUR: 'it returns false'. Refute it at one input. -/
def searchBoundsWrong : ChangeSpec := { name := "searchBounds", fn := fun _ => fun
  | [d1, d2, d3] => { results := [.lit (.bool false)], args := [d1, d2, d3] }
  | _ => none }
def SearchBoundsWrongFalsely : Prop := searchBoundsRow.holds Tryz.pinned (OpenSpec.ofChange searchBoundsWrong)

/-- 'foretelltop.SearchSaved': WHATEVER THE INPUT: true; the input reads as it did. -/
def searchSavedSpec : ChangeSpec := { name := "searchSaved", fn := fun _ => fun
  | [d1, d2, d3] => { results := [.lit (.bool true)], args := [d1, d2, d3] }
  | _ => none }
def searchSavedRow : OpenClaim := { program := "ytnlfhnbcdfdhgaagreatdoor", sum := "aad8bb6108ae1971b9c493f971b9c24cc8ab7692e924c4fc690185955691a8b8", func := "foretell/foretelltop.SearchSaved", spec := "searchSaved", unfollowed := true, recurses := true, named := ["foretell/polish.parts"], plainKeys := false, apart := false, laid := [("foretell/polish.parts", laid_foretell_polish_parts)] }
def SearchSavedSaid : Prop := searchSavedRow.holds Tryz.pinned (OpenSpec.ofChange searchSavedSpec)

/-- ITS FALSE NEIGHBOUR: 'it returns false'. Refute it at one input. -/
def searchSavedWrong : ChangeSpec := { name := "searchSaved", fn := fun _ => fun
  | [d1, d2, d3] => { results := [.lit (.bool false)], args := [d1, d2, d3] }
  | _ => none }
def SearchSavedWrongFalsely : Prop := searchSavedRow.holds Tryz.pinned (OpenSpec.ofChange searchSavedWrong)

/-- 'foretelltop.SearchCrash': WHATEVER THE INPUT: true; the input reads as it did. -/
def searchCrashSpec : ChangeSpec := { name := "searchCrash", fn := fun _ => fun
  | [d1, d2, d3, d4] => { results := [.lit (.bool true)], args := [d1, d2, d3, d4] }
  | _ => none }
def searchCrashRow : OpenClaim := { program := "ytnlfhnbcdfdhgaagreatdoor", sum := "aad8bb6108ae1971b9c493f971b9c24cc8ab7692e924c4fc690185955691a8b8", func := "foretell/foretelltop.SearchCrash", spec := "searchCrash", unfollowed := true, recurses := true, named := ["foretell/polish.parts"], plainKeys := false, apart := false, laid := [("foretell/polish.parts", laid_foretell_polish_parts)] }
def SearchCrashSaid : Prop := searchCrashRow.holds Tryz.pinned (OpenSpec.ofChange searchCrashSpec)

/-- ITS FALSE NEIGHBOUR: 'it returns false'. Refute it at one input. -/
def searchCrashWrong : ChangeSpec := { name := "searchCrash", fn := fun _ => fun
  | [d1, d2, d3, d4] => { results := [.lit (.bool false)], args := [d1, d2, d3, d4] }
  | _ => none }
def SearchCrashWrongFalsely : Prop := searchCrashRow.holds Tryz.pinned (OpenSpec.ofChange searchCrashWrong)

/-- 'foretelltop.SearchAgain': WHATEVER THE INPUT: true; the input reads as it did. -/
def searchAgainSpec : ChangeSpec := { name := "searchAgain", fn := fun _ => fun
  | [d1, d2, d3] => { results := [.lit (.bool true)], args := [d1, d2, d3] }
  | _ => none }
def searchAgainRow : OpenClaim := { program := "ytnlfhnbcdfdhgaagreatdoor", sum := "aad8bb6108ae1971b9c493f971b9c24cc8ab7692e924c4fc690185955691a8b8", func := "foretell/foretelltop.SearchAgain", spec := "searchAgain", unfollowed := true, recurses := true, named := ["foretell/polish.parts"], plainKeys := false, apart := false, laid := [("foretell/polish.parts", laid_foretell_polish_parts)] }
def SearchAgainSaid : Prop := searchAgainRow.holds Tryz.pinned (OpenSpec.ofChange searchAgainSpec)

/-- ITS FALSE NEIGHBOUR: 'it returns false'. Refute it at one input. -/
def searchAgainWrong : ChangeSpec := { name := "searchAgain", fn := fun _ => fun
  | [d1, d2, d3] => { results := [.lit (.bool false)], args := [d1, d2, d3] }
  | _ => none }
def SearchAgainWrongFalsely : Prop := searchAgainRow.holds Tryz.pinned (OpenSpec.ofChange searchAgainWrong)

/-- 'foretelltop.SearchDown': WHATEVER THE INPUT: true; the input reads as it did. -/
def searchDownSpec : ChangeSpec := { name := "searchDown", fn := fun _ => fun
  | [d1, d2, d3, d4] => { results := [.lit (.bool true)], args := [d1, d2, d3, d4] }
  | _ => none }
def searchDownRow : OpenClaim := { program := "ytnlfhnbcdfdhgaagreatdoor", sum := "aad8bb6108ae1971b9c493f971b9c24cc8ab7692e924c4fc690185955691a8b8", func := "foretell/foretelltop.SearchDown", spec := "searchDown", unfollowed := true, recurses := true, named := ["foretell/polish.parts"], plainKeys := false, apart := false, laid := [("foretell/polish.parts", laid_foretell_polish_parts)] }
def SearchDownSaid : Prop := searchDownRow.holds Tryz.pinned (OpenSpec.ofChange searchDownSpec)

/-- ITS FALSE NEIGHBOUR: 'it returns false'. Refute it at one input. -/
def searchDownWrong : ChangeSpec := { name := "searchDown", fn := fun _ => fun
  | [d1, d2, d3, d4] => { results := [.lit (.bool false)], args := [d1, d2, d3, d4] }
  | _ => none }
def SearchDownWrongFalsely : Prop := searchDownRow.holds Tryz.pinned (OpenSpec.ofChange searchDownWrong)

/-- 'foretelltop.SearchParts': WHATEVER THE INPUT: true; the input reads as it did. -/
def searchPartsSpec : ChangeSpec := { name := "searchParts", fn := fun _ => fun
  | [d1, d2, d3, d4, d5] => { results := [.lit (.bool true)], args := [d1, d2, d3, d4, d5] }
  | _ => none }
def searchPartsRow : OpenClaim := { program := "ytnlfhnbcdfdhgaagreatdoor", sum := "aad8bb6108ae1971b9c493f971b9c24cc8ab7692e924c4fc690185955691a8b8", func := "foretell/foretelltop.SearchParts", spec := "searchParts", unfollowed := true, recurses := true, named := ["foretell/polish.parts"], plainKeys := false, apart := false, laid := [("foretell/polish.parts", laid_foretell_polish_parts)] }
def SearchPartsSaid : Prop := searchPartsRow.holds Tryz.pinned (OpenSpec.ofChange searchPartsSpec)

/-- ITS FALSE NEIGHBOUR: 'it returns false'. Refute it at one input. -/
def searchPartsWrong : ChangeSpec := { name := "searchParts", fn := fun _ => fun
  | [d1, d2, d3, d4, d5] => { results := [.lit (.bool false)], args := [d1, d2, d3, d4, d5] }
  | _ => none }
def SearchPartsWrongFalsely : Prop := searchPartsRow.holds Tryz.pinned (OpenSpec.ofChange searchPartsWrong)

/-- 'foretelltop.SearchCalm': WHATEVER THE INPUT: true; the input reads as it did. -/
def searchCalmSpec : ChangeSpec := { name := "searchCalm", fn := fun _ => fun
  | [d1, d2, d3] => { results := [.lit (.bool true)], args := [d1, d2, d3] }
  | _ => none }
def searchCalmRow : OpenClaim := { program := "ytnlfhnbcdfdhgaagreatdoor", sum := "aad8bb6108ae1971b9c493f971b9c24cc8ab7692e924c4fc690185955691a8b8", func := "foretell/foretelltop.SearchCalm", spec := "searchCalm", unfollowed := true, recurses := true, named := ["foretell/polish.parts"], plainKeys := false, apart := false, laid := [("foretell/polish.parts", laid_foretell_polish_parts)] }
def SearchCalmSaid : Prop := searchCalmRow.holds Tryz.pinned (OpenSpec.ofChange searchCalmSpec)

/-- ITS FALSE NEIGHBOUR: 'it returns false'. Refute it at one input. -/
def searchCalmWrong : ChangeSpec := { name := "searchCalm", fn := fun _ => fun
  | [d1, d2, d3] => { results := [.lit (.bool false)], args := [d1, d2, d3] }
  | _ => none }
def SearchCalmWrongFalsely : Prop := searchCalmRow.holds Tryz.pinned (OpenSpec.ofChange searchCalmWrong)

/-- 'foretelltop.SearchSame': WHATEVER THE INPUT: true; the input reads as it did. -/
def searchSameSpec : ChangeSpec := { name := "searchSame", fn := fun _ => fun
  | [d1, d2, d3, d4] => { results := [.lit (.bool true)], args := [d1, d2, d3, d4] }
  | _ => none }
def searchSameRow : OpenClaim := { program := "ytnlfhnbcdfdhgaagreatdoor", sum := "aad8bb6108ae1971b9c493f971b9c24cc8ab7692e924c4fc690185955691a8b8", func := "foretell/foretelltop.SearchSame", spec := "searchSame", unfollowed := true, recurses := true, named := ["foretell/polish.parts"], plainKeys := false, apart := false, laid := [("foretell/polish.parts", laid_foretell_polish_parts)] }
def SearchSameSaid : Prop := searchSameRow.holds Tryz.pinned (OpenSpec.ofChange searchSameSpec)

/-- ITS FALSE NEIGHBOUR: 'it returns false'. Refute it at one input. -/
def searchSameWrong : ChangeSpec := { name := "searchSame", fn := fun _ => fun
  | [d1, d2, d3, d4] => { results := [.lit (.bool false)], args := [d1, d2, d3, d4] }
  | _ => none }
def SearchSameWrongFalsely : Prop := searchSameRow.holds Tryz.pinned (OpenSpec.ofChange searchSameWrong)

/-- 'foretelltop.SearchEnough': WHATEVER THE INPUT: true; the input reads as it did. -/
def searchEnoughSpec : ChangeSpec := { name := "searchEnough", fn := fun _ => fun
  | [d1, d2, d3] => { results := [.lit (.bool true)], args := [d1, d2, d3] }
  | _ => none }
def searchEnoughRow : OpenClaim := { program := "ytnlfhnbcdfdhgaagreatdoor", sum := "aad8bb6108ae1971b9c493f971b9c24cc8ab7692e924c4fc690185955691a8b8", func := "foretell/foretelltop.SearchEnough", spec := "searchEnough", unfollowed := true, recurses := true, named := ["foretell/polish.parts"], plainKeys := false, apart := false, laid := [("foretell/polish.parts", laid_foretell_polish_parts)] }
def SearchEnoughSaid : Prop := searchEnoughRow.holds Tryz.pinned (OpenSpec.ofChange searchEnoughSpec)

/-- ITS FALSE NEIGHBOUR: 'it returns false'. Refute it at one input. -/
def searchEnoughWrong : ChangeSpec := { name := "searchEnough", fn := fun _ => fun
  | [d1, d2, d3] => { results := [.lit (.bool false)], args := [d1, d2, d3] }
  | _ => none }
def SearchEnoughWrongFalsely : Prop := searchEnoughRow.holds Tryz.pinned (OpenSpec.ofChange searchEnoughWrong)

/-- 'foretelltop.SearchTruth': WHATEVER THE INPUT: true; the input reads as it did. -/
def searchTruthSpec : ChangeSpec := { name := "searchTruth", fn := fun _ => fun
  | [d1, d2, d3] => { results := [.lit (.bool true)], args := [d1, d2, d3] }
  | _ => none }
def searchTruthRow : OpenClaim := { program := "ytnlfhnbcdfdhgaagreatdoor", sum := "aad8bb6108ae1971b9c493f971b9c24cc8ab7692e924c4fc690185955691a8b8", func := "foretell/foretelltop.SearchTruth", spec := "searchTruth", unfollowed := true, recurses := true, named := ["foretell/polish.parts"], plainKeys := false, apart := false, laid := [("foretell/polish.parts", laid_foretell_polish_parts)] }
def SearchTruthSaid : Prop := searchTruthRow.holds Tryz.pinned (OpenSpec.ofChange searchTruthSpec)

/-- ITS FALSE NEIGHBOUR: 'it returns false'. Refute it at one input. -/
def searchTruthWrong : ChangeSpec := { name := "searchTruth", fn := fun _ => fun
  | [d1, d2, d3] => { results := [.lit (.bool false)], args := [d1, d2, d3] }
  | _ => none }
def SearchTruthWrongFalsely : Prop := searchTruthRow.holds Tryz.pinned (OpenSpec.ofChange searchTruthWrong)

/- THE SECOND FORM. 'bulk': how many values and letters a reading holds, each counted each time it is reached (what is shared counts as often as it is met; a slice's spare places count too). A statement '..UptoSaid' is the law's where the arguments, and the package variables that the reading takes, are together of bulk at most 1048576: NARROWER than '..Said'. Prove '..Said' where nothing that the law and all that it calls make is longer than what came in: it says more and counts as full. Else prove '..UptoSaid'. A law counts once. -/
mutual
def uptoBulk {H : Type} : DataW H → Nat
  | .lit (.string bytes) => bytes.length + 1
  | .lit _ => 1
  | .nil => 1
  | .ptr d => uptoBulk d + 1
  | .slice elems spare => uptoBulkAll elems + uptoBulkAll spare + 1
  | .agg parts => uptoBulkAll parts + 1
  | .iface _ d => uptoBulk d + 1
  | .map entries => uptoBulkEntries entries + 1
  | .held _ => 1
def uptoBulkAll {H : Type} : List (DataW H) → Nat
  | [] => 0
  | d :: r => uptoBulk d + uptoBulkAll r
def uptoBulkEntries {H : Type} : List (Lit × DataW H) → Nat
  | [] => 0
  | x :: r => uptoBulkEntry x + uptoBulkEntries r
def uptoBulkEntry {H : Type} : Lit × DataW H → Nat
  | (.string bytes, d) => bytes.length + uptoBulk d + 1
  | (_, d) => uptoBulk d + 1
 end
def uptoSmall : (H : Type) → List (DataW H) → Bool := fun _ ds => decide (uptoBulkAll ds ≤ 1048576)
def OpenSpec.upto (s : _root_.Go.ChangeSpec) : _root_.Go.OpenSpec := { _root_.Go.OpenSpec.ofChange s with cond := some uptoSmall }

/-- 'foretelllaw.SearchRuns', WHERE WHAT IT READS IS OF BULK AT MOST 1048576: true; the input reads as it did. -/
def searchRunsUptoRow : OpenClaim := { program := "ytnlfhnbcdfdhgaagreatdoor", sum := "aad8bb6108ae1971b9c493f971b9c24cc8ab7692e924c4fc690185955691a8b8", func := "foretell/foretelllaw.SearchRuns", spec := "searchRuns", unfollowed := true, recurses := true, named := ["foretell/polish.parts"], plainKeys := false, apart := false, laid := [("foretell/polish.parts", laid_foretell_polish_parts)], narrowed := true }
def SearchRunsUptoSaid : Prop := searchRunsUptoRow.holds Tryz.pinned (OpenSpec.upto searchRunsSpec)

/-- 'foretelltop.SearchBounds', WHERE WHAT IT READS IS OF BULK AT MOST 1048576: true; the input reads as it did. -/
def searchBoundsUptoRow : OpenClaim := { program := "ytnlfhnbcdfdhgaagreatdoor", sum := "aad8bb6108ae1971b9c493f971b9c24cc8ab7692e924c4fc690185955691a8b8", func := "foretell/foretelltop.SearchBounds", spec := "searchBounds", unfollowed := true, recurses := true, named := ["foretell/polish.parts"], plainKeys := false, apart := false, laid := [("foretell/polish.parts", laid_foretell_polish_parts)], narrowed := true }
def SearchBoundsUptoSaid : Prop := searchBoundsUptoRow.holds Tryz.pinned (OpenSpec.upto searchBoundsSpec)

/-- 'foretelltop.SearchSaved', WHERE WHAT IT READS IS OF BULK AT MOST 1048576: true; the input reads as it did. -/
def searchSavedUptoRow : OpenClaim := { program := "ytnlfhnbcdfdhgaagreatdoor", sum := "aad8bb6108ae1971b9c493f971b9c24cc8ab7692e924c4fc690185955691a8b8", func := "foretell/foretelltop.SearchSaved", spec := "searchSaved", unfollowed := true, recurses := true, named := ["foretell/polish.parts"], plainKeys := false, apart := false, laid := [("foretell/polish.parts", laid_foretell_polish_parts)], narrowed := true }
def SearchSavedUptoSaid : Prop := searchSavedUptoRow.holds Tryz.pinned (OpenSpec.upto searchSavedSpec)

/-- 'foretelltop.SearchCrash', WHERE WHAT IT READS IS OF BULK AT MOST 1048576: true; the input reads as it did. -/
def searchCrashUptoRow : OpenClaim := { program := "ytnlfhnbcdfdhgaagreatdoor", sum := "aad8bb6108ae1971b9c493f971b9c24cc8ab7692e924c4fc690185955691a8b8", func := "foretell/foretelltop.SearchCrash", spec := "searchCrash", unfollowed := true, recurses := true, named := ["foretell/polish.parts"], plainKeys := false, apart := false, laid := [("foretell/polish.parts", laid_foretell_polish_parts)], narrowed := true }
def SearchCrashUptoSaid : Prop := searchCrashUptoRow.holds Tryz.pinned (OpenSpec.upto searchCrashSpec)

/-- 'foretelltop.SearchAgain', WHERE WHAT IT READS IS OF BULK AT MOST 1048576: true; the input reads as it did. -/
def searchAgainUptoRow : OpenClaim := { program := "ytnlfhnbcdfdhgaagreatdoor", sum := "aad8bb6108ae1971b9c493f971b9c24cc8ab7692e924c4fc690185955691a8b8", func := "foretell/foretelltop.SearchAgain", spec := "searchAgain", unfollowed := true, recurses := true, named := ["foretell/polish.parts"], plainKeys := false, apart := false, laid := [("foretell/polish.parts", laid_foretell_polish_parts)], narrowed := true }
def SearchAgainUptoSaid : Prop := searchAgainUptoRow.holds Tryz.pinned (OpenSpec.upto searchAgainSpec)

/-- 'foretelltop.SearchDown', WHERE WHAT IT READS IS OF BULK AT MOST 1048576: true; the input reads as it did. -/
def searchDownUptoRow : OpenClaim := { program := "ytnlfhnbcdfdhgaagreatdoor", sum := "aad8bb6108ae1971b9c493f971b9c24cc8ab7692e924c4fc690185955691a8b8", func := "foretell/foretelltop.SearchDown", spec := "searchDown", unfollowed := true, recurses := true, named := ["foretell/polish.parts"], plainKeys := false, apart := false, laid := [("foretell/polish.parts", laid_foretell_polish_parts)], narrowed := true }
def SearchDownUptoSaid : Prop := searchDownUptoRow.holds Tryz.pinned (OpenSpec.upto searchDownSpec)

/-- 'foretelltop.SearchParts', WHERE WHAT IT READS IS OF BULK AT MOST 1048576: true; the input reads as it did. -/
def searchPartsUptoRow : OpenClaim := { program := "ytnlfhnbcdfdhgaagreatdoor", sum := "aad8bb6108ae1971b9c493f971b9c24cc8ab7692e924c4fc690185955691a8b8", func := "foretell/foretelltop.SearchParts", spec := "searchParts", unfollowed := true, recurses := true, named := ["foretell/polish.parts"], plainKeys := false, apart := false, laid := [("foretell/polish.parts", laid_foretell_polish_parts)], narrowed := true }
def SearchPartsUptoSaid : Prop := searchPartsUptoRow.holds Tryz.pinned (OpenSpec.upto searchPartsSpec)

/-- 'foretelltop.SearchCalm', WHERE WHAT IT READS IS OF BULK AT MOST 1048576: true; the input reads as it did. -/
def searchCalmUptoRow : OpenClaim := { program := "ytnlfhnbcdfdhgaagreatdoor", sum := "aad8bb6108ae1971b9c493f971b9c24cc8ab7692e924c4fc690185955691a8b8", func := "foretell/foretelltop.SearchCalm", spec := "searchCalm", unfollowed := true, recurses := true, named := ["foretell/polish.parts"], plainKeys := false, apart := false, laid := [("foretell/polish.parts", laid_foretell_polish_parts)], narrowed := true }
def SearchCalmUptoSaid : Prop := searchCalmUptoRow.holds Tryz.pinned (OpenSpec.upto searchCalmSpec)

/-- 'foretelltop.SearchSame', WHERE WHAT IT READS IS OF BULK AT MOST 1048576: true; the input reads as it did. -/
def searchSameUptoRow : OpenClaim := { program := "ytnlfhnbcdfdhgaagreatdoor", sum := "aad8bb6108ae1971b9c493f971b9c24cc8ab7692e924c4fc690185955691a8b8", func := "foretell/foretelltop.SearchSame", spec := "searchSame", unfollowed := true, recurses := true, named := ["foretell/polish.parts"], plainKeys := false, apart := false, laid := [("foretell/polish.parts", laid_foretell_polish_parts)], narrowed := true }
def SearchSameUptoSaid : Prop := searchSameUptoRow.holds Tryz.pinned (OpenSpec.upto searchSameSpec)

/-- 'foretelltop.SearchEnough', WHERE WHAT IT READS IS OF BULK AT MOST 1048576: true; the input reads as it did. -/
def searchEnoughUptoRow : OpenClaim := { program := "ytnlfhnbcdfdhgaagreatdoor", sum := "aad8bb6108ae1971b9c493f971b9c24cc8ab7692e924c4fc690185955691a8b8", func := "foretell/foretelltop.SearchEnough", spec := "searchEnough", unfollowed := true, recurses := true, named := ["foretell/polish.parts"], plainKeys := false, apart := false, laid := [("foretell/polish.parts", laid_foretell_polish_parts)], narrowed := true }
def SearchEnoughUptoSaid : Prop := searchEnoughUptoRow.holds Tryz.pinned (OpenSpec.upto searchEnoughSpec)

/-- 'foretelltop.SearchTruth', WHERE WHAT IT READS IS OF BULK AT MOST 1048576: true; the input reads as it did. -/
def searchTruthUptoRow : OpenClaim := { program := "ytnlfhnbcdfdhgaagreatdoor", sum := "aad8bb6108ae1971b9c493f971b9c24cc8ab7692e924c4fc690185955691a8b8", func := "foretell/foretelltop.SearchTruth", spec := "searchTruth", unfollowed := true, recurses := true, named := ["foretell/polish.parts"], plainKeys := false, apart := false, laid := [("foretell/polish.parts", laid_foretell_polish_parts)], narrowed := true }
def SearchTruthUptoSaid : Prop := searchTruthUptoRow.holds Tryz.pinned (OpenSpec.upto searchTruthSpec)

end Rows
end Go.Proofs.YtnlfhnbcdfdhgaaGreatDoor
