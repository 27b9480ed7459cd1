/- Contracts: scc.Check, foretellref.GraphFault, copies of graphs. -/
import Derived.Test.YtnlfhnbcdfdhgaaT0
import Derived.Test.YtnlfhnbcdfdhgaaG1
namespace Go.Proofs.Ytnlfhnbcdfdhgaa
open Go Go.Av Go.Sp
set_option linter.unusedVariables false
set_option linter.unusedSimpArgs false
set_option maxRecDepth 100000
set_option maxHeartbeats 4000000

abbrev grA (g : Gr) : AV := .agg [.d (opsD g.spots), .int g.init, .d (listsD g.next), .d (intsD g.sets), .int g.many]
theorem pow6n (n : Nat) (h : n ≤ 6) : 1 ≤ (2 : Int) ^ n ∧ (2 : Int) ^ n ≤ 64 := by
 have : n = 0 ∨ n = 1 ∨ n = 2 ∨ n = 3 ∨ n = 4 ∨ n = 5 ∨ n = 6 := by omega
 rcases this with rfl | rfl | rfl | rfl | rfl | rfl | rfl <;> decide
theorem graphF_head {g : Gr} (h : ¬ headG g) : graphF g = 9 := if_neg fun k => h k.1
theorem graphF_spot {g : Gr} {i : Nat} (hi : i < g.spots.length) (h : ¬ spotG g i) : graphF g = 9 := if_neg fun k => h (k.2 i hi)
theorem graphF_ok {g : Gr} (h : okG g) : graphF g = 0 := if_pos h
end Go.Proofs.Ytnlfhnbcdfdhgaa
