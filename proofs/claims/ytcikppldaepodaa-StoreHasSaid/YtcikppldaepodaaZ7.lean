/- A bundle of this claim's own texts: V1. -/
import Derived.Test.YtcikppldaepodaaZ1
import Derived.Test.YtcikppldaepodaaZ2
namespace Go.Proofs.Ytcikppldaepodaa
open Go Go.Av Go.Sp
set_option linter.unusedVariables false
set_option linter.unusedSimpArgs false
set_option maxRecDepth 100000
set_option maxHeartbeats 4000000

end Go.Proofs.Ytcikppldaepodaa
