/-
  NARROWER THAN 'FOR EVERY INPUT', by the rows' own cells (each row's printed sentence says how): PolishParts: laid · PolishEnds: laid · PolishSplits: laid · PolishDepths: laid · LogicChecks: laid · LogicAheads: laid · LogicTruths: laid · LogicMeets: laid · LogicFollows: laid · ExprChecks: laid · ExprEvals: laid.
  DERIVED. THE GIVEN ROWS OF THIS SEAT. 11 by the template 'for every input the law returns true; each argument reads behind the call as it read before'; 0 by the template 'total and deterministic' (their statements: YtnhbcnfkjfigoaaDoorTotals.lean).
  GIVEN WITH THE SEED: the statements are not yours to turn. If you find one false, say at which input.
  Laid BY PROGRAM, IN A SANDBOX (cutbox-rows.mjs): the forced cells as the released guide's own fill.sh prints them over the translation a4157c4f9627579c… (all of the seat's roots in one cut). By AI agents, Wed Nov 11 2026. No macro, syntax, notation, axiom, sorry.
-/
import Derived.Test.YtnhbcnfkjfigoaaDoorChecked
import GoSem.Claim
import GoSem.ClaimJoined
import GoSem.ClaimMapViews
import Derived.JoinedTies
import Derived.KernelRfl
namespace Go.Proofs.YtnhbcnfkjfigoaaDoor
/- THE CELL 'sum', in the pinned program and in every row, IS THE sha256 OF THE DUMP (.gsa) THAT YtnhbcnfkjfigoaaDoorProg.lean LOADS. Nothing in Lean hashes anything: it is a label: what it is worth is what the hold of that sum in a sandbox is worth. -/
noncomputable def Tryd.pinned : Pinned := { name := "ytnhbcnfkjfigoaadoor", sum := "a4157c4f9627579ca2e4caf15c55b940aa8d056709e101711a70360d762ed5bc", checked := Tryd.checked }
namespace Rows
def none {H : Type} : Left H := { results := [], args := [] }

/- WHAT THE LISTED PACKAGE-LEVEL VARIABLES READ AS WHEN THE CALL BEGINS. Each datum BY PROGRAM (the guide's laid-datum.mjs) off the statement by which the dump's own 'gosem.cut.vars' lays the variable. In a bare row this is a premise. The card (YtnhbcnfkjfigoaaDoorCards.lean) ties it to the program's text. -/
def laid_foretell_polish_parts {H : Type} : DataW H := .agg [.lit (.int .i64 (-1)), .lit (.int .i64 0), .lit (.int .i64 0), .lit (.int .i64 2), .lit (.int .i64 2), .lit (.int .i64 2), .lit (.int .i64 2), .lit (.int .i64 2), .lit (.int .i64 2), .lit (.int .i64 2), .lit (.int .i64 1), .lit (.int .i64 0), .lit (.int .i64 0), .lit (.int .i64 0), .lit (.int .i64 1), .lit (.int .i64 2), .lit (.int .i64 2), .lit (.int .i64 1), .lit (.int .i64 1)]

/-- 'foretelllaw.PolishParts': WHATEVER THE INPUT: true; the input reads as it did. -/
def polishPartsSpec : ChangeSpec := { name := "polishParts", fn := fun _ => fun
  | [d] => { results := [.lit (.bool true)], args := [d] }
  | _ => none }
def polishPartsRow : OpenClaim := { program := "ytnhbcnfkjfigoaadoor", sum := "a4157c4f9627579ca2e4caf15c55b940aa8d056709e101711a70360d762ed5bc", func := "foretell/foretelllaw.PolishParts", spec := "polishParts", named := ["foretell/polish.parts"], apart := false, laid := [("foretell/polish.parts", laid_foretell_polish_parts)] }
def PolishPartsSaid : Prop := polishPartsRow.holds Tryd.pinned (OpenSpec.ofChange polishPartsSpec)

/-- ITS FALSE NEIGHBOUR: 'it returns false'. Refute it at one input. -/
def polishPartsWrong : ChangeSpec := { name := "polishParts", fn := fun _ => fun
  | [d] => { results := [.lit (.bool false)], args := [d] }
  | _ => none }
def PolishPartsWrongFalsely : Prop := polishPartsRow.holds Tryd.pinned (OpenSpec.ofChange polishPartsWrong)

/-- 'foretelllaw.PolishEnds': WHATEVER THE INPUT: true; the input reads as it did. -/
def polishEndsSpec : ChangeSpec := { name := "polishEnds", fn := fun _ => fun
  | [d] => { results := [.lit (.bool true)], args := [d] }
  | _ => none }
def polishEndsRow : OpenClaim := { program := "ytnhbcnfkjfigoaadoor", sum := "a4157c4f9627579ca2e4caf15c55b940aa8d056709e101711a70360d762ed5bc", func := "foretell/foretelllaw.PolishEnds", spec := "polishEnds", unfollowed := true, recurses := true, named := ["foretell/polish.parts"], apart := false, laid := [("foretell/polish.parts", laid_foretell_polish_parts)] }
def PolishEndsSaid : Prop := polishEndsRow.holds Tryd.pinned (OpenSpec.ofChange polishEndsSpec)

/-- ITS FALSE NEIGHBOUR: 'it returns false'. Refute it at one input. -/
def polishEndsWrong : ChangeSpec := { name := "polishEnds", fn := fun _ => fun
  | [d] => { results := [.lit (.bool false)], args := [d] }
  | _ => none }
def PolishEndsWrongFalsely : Prop := polishEndsRow.holds Tryd.pinned (OpenSpec.ofChange polishEndsWrong)

/-- 'foretelllaw.PolishSplits': WHATEVER THE INPUT: true; the input reads as it did. -/
def polishSplitsSpec : ChangeSpec := { name := "polishSplits", fn := fun _ => fun
  | [d] => { results := [.lit (.bool true)], args := [d] }
  | _ => none }
def polishSplitsRow : OpenClaim := { program := "ytnhbcnfkjfigoaadoor", sum := "a4157c4f9627579ca2e4caf15c55b940aa8d056709e101711a70360d762ed5bc", func := "foretell/foretelllaw.PolishSplits", spec := "polishSplits", unfollowed := true, recurses := true, named := ["foretell/polish.parts"], apart := false, laid := [("foretell/polish.parts", laid_foretell_polish_parts)] }
def PolishSplitsSaid : Prop := polishSplitsRow.holds Tryd.pinned (OpenSpec.ofChange polishSplitsSpec)

/-- ITS FALSE NEIGHBOUR: 'it returns false'. Refute it at one input. -/
def polishSplitsWrong : ChangeSpec := { name := "polishSplits", fn := fun _ => fun
  | [d] => { results := [.lit (.bool false)], args := [d] }
  | _ => none }
def PolishSplitsWrongFalsely : Prop := polishSplitsRow.holds Tryd.pinned (OpenSpec.ofChange polishSplitsWrong)

/-- 'foretelllaw.PolishDepths': WHATEVER THE INPUT: true; the input reads as it did. -/
def polishDepthsSpec : ChangeSpec := { name := "polishDepths", fn := fun _ => fun
  | [d] => { results := [.lit (.bool true)], args := [d] }
  | _ => none }
def polishDepthsRow : OpenClaim := { program := "ytnhbcnfkjfigoaadoor", sum := "a4157c4f9627579ca2e4caf15c55b940aa8d056709e101711a70360d762ed5bc", func := "foretell/foretelllaw.PolishDepths", spec := "polishDepths", unfollowed := true, recurses := true, named := ["foretell/polish.parts"], apart := false, laid := [("foretell/polish.parts", laid_foretell_polish_parts)] }
def PolishDepthsSaid : Prop := polishDepthsRow.holds Tryd.pinned (OpenSpec.ofChange polishDepthsSpec)

/-- ITS FALSE NEIGHBOUR: 'it returns false'. Refute it at one input. -/
def polishDepthsWrong : ChangeSpec := { name := "polishDepths", fn := fun _ => fun
  | [d] => { results := [.lit (.bool false)], args := [d] }
  | _ => none }
def PolishDepthsWrongFalsely : Prop := polishDepthsRow.holds Tryd.pinned (OpenSpec.ofChange polishDepthsWrong)

/-- 'foretelllaw.LogicChecks': WHATEVER THE INPUT: true; the input reads as it did. -/
def logicChecksSpec : ChangeSpec := { name := "logicChecks", fn := fun _ => fun
  | [d1, d2] => { results := [.lit (.bool true)], args := [d1, d2] }
  | _ => none }
def logicChecksRow : OpenClaim := { program := "ytnhbcnfkjfigoaadoor", sum := "a4157c4f9627579ca2e4caf15c55b940aa8d056709e101711a70360d762ed5bc", func := "foretell/foretelllaw.LogicChecks", spec := "logicChecks", unfollowed := true, recurses := true, named := ["foretell/polish.parts"], apart := false, laid := [("foretell/polish.parts", laid_foretell_polish_parts)] }
def LogicChecksSaid : Prop := logicChecksRow.holds Tryd.pinned (OpenSpec.ofChange logicChecksSpec)

/-- ITS FALSE NEIGHBOUR: 'it returns false'. Refute it at one input. -/
def logicChecksWrong : ChangeSpec := { name := "logicChecks", fn := fun _ => fun
  | [d1, d2] => { results := [.lit (.bool false)], args := [d1, d2] }
  | _ => none }
def LogicChecksWrongFalsely : Prop := logicChecksRow.holds Tryd.pinned (OpenSpec.ofChange logicChecksWrong)

/-- 'foretelllaw.LogicAheads': WHATEVER THE INPUT: true; the input reads as it did. -/
def logicAheadsSpec : ChangeSpec := { name := "logicAheads", fn := fun _ => fun
  | [d1, d2] => { results := [.lit (.bool true)], args := [d1, d2] }
  | _ => none }
def logicAheadsRow : OpenClaim := { program := "ytnhbcnfkjfigoaadoor", sum := "a4157c4f9627579ca2e4caf15c55b940aa8d056709e101711a70360d762ed5bc", func := "foretell/foretelllaw.LogicAheads", spec := "logicAheads", unfollowed := true, recurses := true, named := ["foretell/polish.parts"], apart := false, laid := [("foretell/polish.parts", laid_foretell_polish_parts)] }
def LogicAheadsSaid : Prop := logicAheadsRow.holds Tryd.pinned (OpenSpec.ofChange logicAheadsSpec)

/-- ITS FALSE NEIGHBOUR: 'it returns false'. Refute it at one input. -/
def logicAheadsWrong : ChangeSpec := { name := "logicAheads", fn := fun _ => fun
  | [d1, d2] => { results := [.lit (.bool false)], args := [d1, d2] }
  | _ => none }
def LogicAheadsWrongFalsely : Prop := logicAheadsRow.holds Tryd.pinned (OpenSpec.ofChange logicAheadsWrong)

/-- 'foretelllaw.LogicTruths': WHATEVER THE INPUT: true; the input reads as it did. -/
def logicTruthsSpec : ChangeSpec := { name := "logicTruths", fn := fun _ => fun
  | [d1, d2, d3] => { results := [.lit (.bool true)], args := [d1, d2, d3] }
  | _ => none }
def logicTruthsRow : OpenClaim := { program := "ytnhbcnfkjfigoaadoor", sum := "a4157c4f9627579ca2e4caf15c55b940aa8d056709e101711a70360d762ed5bc", func := "foretell/foretelllaw.LogicTruths", spec := "logicTruths", unfollowed := true, recurses := true, named := ["foretell/polish.parts"], apart := false, laid := [("foretell/polish.parts", laid_foretell_polish_parts)] }
def LogicTruthsSaid : Prop := logicTruthsRow.holds Tryd.pinned (OpenSpec.ofChange logicTruthsSpec)

/-- ITS FALSE NEIGHBOUR: 'it returns false'. Refute it at one input. -/
def logicTruthsWrong : ChangeSpec := { name := "logicTruths", fn := fun _ => fun
  | [d1, d2, d3] => { results := [.lit (.bool false)], args := [d1, d2, d3] }
  | _ => none }
def LogicTruthsWrongFalsely : Prop := logicTruthsRow.holds Tryd.pinned (OpenSpec.ofChange logicTruthsWrong)

/-- 'foretelllaw.LogicMeets': WHATEVER THE INPUT: true; the input reads as it did. -/
def logicMeetsSpec : ChangeSpec := { name := "logicMeets", fn := fun _ => fun
  | [d1, d2, d3] => { results := [.lit (.bool true)], args := [d1, d2, d3] }
  | _ => none }
def logicMeetsRow : OpenClaim := { program := "ytnhbcnfkjfigoaadoor", sum := "a4157c4f9627579ca2e4caf15c55b940aa8d056709e101711a70360d762ed5bc", func := "foretell/foretelllaw.LogicMeets", spec := "logicMeets", unfollowed := true, recurses := true, named := ["foretell/polish.parts"], apart := false, laid := [("foretell/polish.parts", laid_foretell_polish_parts)] }
def LogicMeetsSaid : Prop := logicMeetsRow.holds Tryd.pinned (OpenSpec.ofChange logicMeetsSpec)

/-- ITS FALSE NEIGHBOUR: 'it returns false'. Refute it at one input. -/
def logicMeetsWrong : ChangeSpec := { name := "logicMeets", fn := fun _ => fun
  | [d1, d2, d3] => { results := [.lit (.bool false)], args := [d1, d2, d3] }
  | _ => none }
def LogicMeetsWrongFalsely : Prop := logicMeetsRow.holds Tryd.pinned (OpenSpec.ofChange logicMeetsWrong)

/-- 'foretelllaw.LogicFollows': WHATEVER THE INPUT: true; the input reads as it did. -/
def logicFollowsSpec : ChangeSpec := { name := "logicFollows", fn := fun _ => fun
  | [d1, d2, d3, d4, d5] => { results := [.lit (.bool true)], args := [d1, d2, d3, d4, d5] }
  | _ => none }
def logicFollowsRow : OpenClaim := { program := "ytnhbcnfkjfigoaadoor", sum := "a4157c4f9627579ca2e4caf15c55b940aa8d056709e101711a70360d762ed5bc", func := "foretell/foretelllaw.LogicFollows", spec := "logicFollows", unfollowed := true, recurses := true, named := ["foretell/polish.parts"], apart := false, laid := [("foretell/polish.parts", laid_foretell_polish_parts)] }
def LogicFollowsSaid : Prop := logicFollowsRow.holds Tryd.pinned (OpenSpec.ofChange logicFollowsSpec)

/-- ITS FALSE NEIGHBOUR: 'it returns false'. Refute it at one input. -/
def logicFollowsWrong : ChangeSpec := { name := "logicFollows", fn := fun _ => fun
  | [d1, d2, d3, d4, d5] => { results := [.lit (.bool false)], args := [d1, d2, d3, d4, d5] }
  | _ => none }
def LogicFollowsWrongFalsely : Prop := logicFollowsRow.holds Tryd.pinned (OpenSpec.ofChange logicFollowsWrong)

/-- 'foretelllaw.ExprChecks': WHATEVER THE INPUT: true; the input reads as it did. -/
def exprChecksSpec : ChangeSpec := { name := "exprChecks", fn := fun _ => fun
  | [d1, d2] => { results := [.lit (.bool true)], args := [d1, d2] }
  | _ => none }
def exprChecksRow : OpenClaim := { program := "ytnhbcnfkjfigoaadoor", sum := "a4157c4f9627579ca2e4caf15c55b940aa8d056709e101711a70360d762ed5bc", func := "foretell/foretelllaw.ExprChecks", spec := "exprChecks", unfollowed := true, recurses := true, named := ["foretell/polish.parts"], apart := false, laid := [("foretell/polish.parts", laid_foretell_polish_parts)] }
def ExprChecksSaid : Prop := exprChecksRow.holds Tryd.pinned (OpenSpec.ofChange exprChecksSpec)

/-- ITS FALSE NEIGHBOUR: 'it returns false'. Refute it at one input. -/
def exprChecksWrong : ChangeSpec := { name := "exprChecks", fn := fun _ => fun
  | [d1, d2] => { results := [.lit (.bool false)], args := [d1, d2] }
  | _ => none }
def ExprChecksWrongFalsely : Prop := exprChecksRow.holds Tryd.pinned (OpenSpec.ofChange exprChecksWrong)

/-- 'foretelllaw.ExprEvals': WHATEVER THE INPUT: true; the input reads as it did. -/
def exprEvalsSpec : ChangeSpec := { name := "exprEvals", fn := fun _ => fun
  | [d1, d2] => { results := [.lit (.bool true)], args := [d1, d2] }
  | _ => none }
def exprEvalsRow : OpenClaim := { program := "ytnhbcnfkjfigoaadoor", sum := "a4157c4f9627579ca2e4caf15c55b940aa8d056709e101711a70360d762ed5bc", func := "foretell/foretelllaw.ExprEvals", spec := "exprEvals", unfollowed := true, recurses := true, named := ["foretell/polish.parts"], apart := false, laid := [("foretell/polish.parts", laid_foretell_polish_parts)] }
def ExprEvalsSaid : Prop := exprEvalsRow.holds Tryd.pinned (OpenSpec.ofChange exprEvalsSpec)

/-- ITS FALSE NEIGHBOUR: 'it returns false'. Refute it at one input. -/
def exprEvalsWrong : ChangeSpec := { name := "exprEvals", fn := fun _ => fun
  | [d1, d2] => { results := [.lit (.bool false)], args := [d1, d2] }
  | _ => none }
def ExprEvalsWrongFalsely : Prop := exprEvalsRow.holds Tryd.pinned (OpenSpec.ofChange exprEvalsWrong)

/- THE SECOND FORM. 'bulk': how many values and letters a reading holds, each counted each time it is reached (what is shared counts as often as it is met; a slice's spare places count too). A statement '..UptoSaid' is the law's where the arguments, and the package variables that the reading takes, are together of bulk at most 1048576: NARROWER than '..Said'. Prove '..Said' where nothing that the law and all that it calls make is longer than what came in: it says more and counts as full. Else prove '..UptoSaid'. A law counts once. -/
mutual
def uptoBulk {H : Type} : DataW H → Nat
  | .lit (.string bytes) => bytes.length + 1
  | .lit _ => 1
  | .nil => 1
  | .ptr d => uptoBulk d + 1
  | .slice elems spare => uptoBulkAll elems + uptoBulkAll spare + 1
  | .agg parts => uptoBulkAll parts + 1
  | .iface _ d => uptoBulk d + 1
  | .map entries => uptoBulkEntries entries + 1
  | .held _ => 1
def uptoBulkAll {H : Type} : List (DataW H) → Nat
  | [] => 0
  | d :: r => uptoBulk d + uptoBulkAll r
def uptoBulkEntries {H : Type} : List (Lit × DataW H) → Nat
  | [] => 0
  | x :: r => uptoBulkEntry x + uptoBulkEntries r
def uptoBulkEntry {H : Type} : Lit × DataW H → Nat
  | (.string bytes, d) => bytes.length + uptoBulk d + 1
  | (_, d) => uptoBulk d + 1
 end
def uptoSmall : (H : Type) → List (DataW H) → Bool := fun _ ds => decide (uptoBulkAll ds ≤ 1048576)
def OpenSpec.upto (s : _root_.Go.ChangeSpec) : _root_.Go.OpenSpec := { _root_.Go.OpenSpec.ofChange s with cond := some uptoSmall }

/-- 'foretelllaw.PolishParts', WHERE WHAT IT READS IS OF BULK AT MOST 1048576: true; the input reads as it did. -/
def polishPartsUptoRow : OpenClaim := { program := "ytnhbcnfkjfigoaadoor", sum := "a4157c4f9627579ca2e4caf15c55b940aa8d056709e101711a70360d762ed5bc", func := "foretell/foretelllaw.PolishParts", spec := "polishParts", named := ["foretell/polish.parts"], apart := false, laid := [("foretell/polish.parts", laid_foretell_polish_parts)], narrowed := true }
def PolishPartsUptoSaid : Prop := polishPartsUptoRow.holds Tryd.pinned (OpenSpec.upto polishPartsSpec)

/-- 'foretelllaw.PolishEnds', WHERE WHAT IT READS IS OF BULK AT MOST 1048576: true; the input reads as it did. -/
def polishEndsUptoRow : OpenClaim := { program := "ytnhbcnfkjfigoaadoor", sum := "a4157c4f9627579ca2e4caf15c55b940aa8d056709e101711a70360d762ed5bc", func := "foretell/foretelllaw.PolishEnds", spec := "polishEnds", unfollowed := true, recurses := true, named := ["foretell/polish.parts"], apart := false, laid := [("foretell/polish.parts", laid_foretell_polish_parts)], narrowed := true }
def PolishEndsUptoSaid : Prop := polishEndsUptoRow.holds Tryd.pinned (OpenSpec.upto polishEndsSpec)

/-- 'foretelllaw.PolishSplits', WHERE WHAT IT READS IS OF BULK AT MOST 1048576: true; the input reads as it did. -/
def polishSplitsUptoRow : OpenClaim := { program := "ytnhbcnfkjfigoaadoor", sum := "a4157c4f9627579ca2e4caf15c55b940aa8d056709e101711a70360d762ed5bc", func := "foretell/foretelllaw.PolishSplits", spec := "polishSplits", unfollowed := true, recurses := true, named := ["foretell/polish.parts"], apart := false, laid := [("foretell/polish.parts", laid_foretell_polish_parts)], narrowed := true }
def PolishSplitsUptoSaid : Prop := polishSplitsUptoRow.holds Tryd.pinned (OpenSpec.upto polishSplitsSpec)

/-- 'foretelllaw.PolishDepths', WHERE WHAT IT READS IS OF BULK AT MOST 1048576: true; the input reads as it did. -/
def polishDepthsUptoRow : OpenClaim := { program := "ytnhbcnfkjfigoaadoor", sum := "a4157c4f9627579ca2e4caf15c55b940aa8d056709e101711a70360d762ed5bc", func := "foretell/foretelllaw.PolishDepths", spec := "polishDepths", unfollowed := true, recurses := true, named := ["foretell/polish.parts"], apart := false, laid := [("foretell/polish.parts", laid_foretell_polish_parts)], narrowed := true }
def PolishDepthsUptoSaid : Prop := polishDepthsUptoRow.holds Tryd.pinned (OpenSpec.upto polishDepthsSpec)

/-- 'foretelllaw.LogicChecks', WHERE WHAT IT READS IS OF BULK AT MOST 1048576: true; the input reads as it did. -/
def logicChecksUptoRow : OpenClaim := { program := "ytnhbcnfkjfigoaadoor", sum := "a4157c4f9627579ca2e4caf15c55b940aa8d056709e101711a70360d762ed5bc", func := "foretell/foretelllaw.LogicChecks", spec := "logicChecks", unfollowed := true, recurses := true, named := ["foretell/polish.parts"], apart := false, laid := [("foretell/polish.parts", laid_foretell_polish_parts)], narrowed := true }
def LogicChecksUptoSaid : Prop := logicChecksUptoRow.holds Tryd.pinned (OpenSpec.upto logicChecksSpec)

/-- 'foretelllaw.LogicAheads', WHERE WHAT IT READS IS OF BULK AT MOST 1048576: true; the input reads as it did. -/
def logicAheadsUptoRow : OpenClaim := { program := "ytnhbcnfkjfigoaadoor", sum := "a4157c4f9627579ca2e4caf15c55b940aa8d056709e101711a70360d762ed5bc", func := "foretell/foretelllaw.LogicAheads", spec := "logicAheads", unfollowed := true, recurses := true, named := ["foretell/polish.parts"], apart := false, laid := [("foretell/polish.parts", laid_foretell_polish_parts)], narrowed := true }
def LogicAheadsUptoSaid : Prop := logicAheadsUptoRow.holds Tryd.pinned (OpenSpec.upto logicAheadsSpec)

/-- 'foretelllaw.LogicTruths', WHERE WHAT IT READS IS OF BULK AT MOST 1048576: true; the input reads as it did. -/
def logicTruthsUptoRow : OpenClaim := { program := "ytnhbcnfkjfigoaadoor", sum := "a4157c4f9627579ca2e4caf15c55b940aa8d056709e101711a70360d762ed5bc", func := "foretell/foretelllaw.LogicTruths", spec := "logicTruths", unfollowed := true, recurses := true, named := ["foretell/polish.parts"], apart := false, laid := [("foretell/polish.parts", laid_foretell_polish_parts)], narrowed := true }
def LogicTruthsUptoSaid : Prop := logicTruthsUptoRow.holds Tryd.pinned (OpenSpec.upto logicTruthsSpec)

/-- 'foretelllaw.LogicMeets', WHERE WHAT IT READS IS OF BULK AT MOST 1048576: true; the input reads as it did. -/
def logicMeetsUptoRow : OpenClaim := { program := "ytnhbcnfkjfigoaadoor", sum := "a4157c4f9627579ca2e4caf15c55b940aa8d056709e101711a70360d762ed5bc", func := "foretell/foretelllaw.LogicMeets", spec := "logicMeets", unfollowed := true, recurses := true, named := ["foretell/polish.parts"], apart := false, laid := [("foretell/polish.parts", laid_foretell_polish_parts)], narrowed := true }
def LogicMeetsUptoSaid : Prop := logicMeetsUptoRow.holds Tryd.pinned (OpenSpec.upto logicMeetsSpec)

/-- 'foretelllaw.LogicFollows', WHERE WHAT IT READS IS OF BULK AT MOST 1048576: true; the input reads as it did. -/
def logicFollowsUptoRow : OpenClaim := { program := "ytnhbcnfkjfigoaadoor", sum := "a4157c4f9627579ca2e4caf15c55b940aa8d056709e101711a70360d762ed5bc", func := "foretell/foretelllaw.LogicFollows", spec := "logicFollows", unfollowed := true, recurses := true, named := ["foretell/polish.parts"], apart := false, laid := [("foretell/polish.parts", laid_foretell_polish_parts)], narrowed := true }
def LogicFollowsUptoSaid : Prop := logicFollowsUptoRow.holds Tryd.pinned (OpenSpec.upto logicFollowsSpec)

/-- 'foretelllaw.ExprChecks', WHERE WHAT IT READS IS OF BULK AT MOST 1048576: true; the input reads as it did. -/
def exprChecksUptoRow : OpenClaim := { program := "ytnhbcnfkjfigoaadoor", sum := "a4157c4f9627579ca2e4caf15c55b940aa8d056709e101711a70360d762ed5bc", func := "foretell/foretelllaw.ExprChecks", spec := "exprChecks", unfollowed := true, recurses := true, named := ["foretell/polish.parts"], apart := false, laid := [("foretell/polish.parts", laid_foretell_polish_parts)], narrowed := true }
def ExprChecksUptoSaid : Prop := exprChecksUptoRow.holds Tryd.pinned (OpenSpec.upto exprChecksSpec)

/-- 'foretelllaw.ExprEvals', WHERE WHAT IT READS IS OF BULK AT MOST 1048576: true; the input reads as it did. -/
def exprEvalsUptoRow : OpenClaim := { program := "ytnhbcnfkjfigoaadoor", sum := "a4157c4f9627579ca2e4caf15c55b940aa8d056709e101711a70360d762ed5bc", func := "foretell/foretelllaw.ExprEvals", spec := "exprEvals", unfollowed := true, recurses := true, named := ["foretell/polish.parts"], apart := false, laid := [("foretell/polish.parts", laid_foretell_polish_parts)], narrowed := true }
def ExprEvalsUptoSaid : Prop := exprEvalsUptoRow.holds Tryd.pinned (OpenSpec.upto exprEvalsSpec)

end Rows
end Go.Proofs.YtnhbcnfkjfigoaaDoor
