/- Contracts: foretellref.GraphFault. -/
import Derived.Test.YtnlfhnbcdfdhgaaV1
namespace Go.Proofs.Ytnlfhnbcdfdhgaa
open Go Go.Av Go.Sp
set_option linter.unusedVariables false
set_option linter.unusedSimpArgs false
set_option maxRecDepth 100000
set_option maxHeartbeats 4000000
end Go.Proofs.Ytnlfhnbcdfdhgaa
