/- Own texts. -/
import Derived.Test.YtnlfhnbcdfdhgaaGreatDoorA41
set_option linter.unusedVariables false
set_option linter.unusedSimpArgs false
set_option maxRecDepth 100000
set_option maxHeartbeats 4000000
namespace Go.Sp
open Go Go.Av
end Go.Sp
