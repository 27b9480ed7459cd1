/- A bundle of this claim's own texts: T10. -/
import Derived.Test.YtmamiihpghnmmaaDoorZ8
import Derived.Test.YtmamiihpghnmmaaDoorZ17
namespace Go.Proofs.YtmamiihpghnmmaaDoor
open Go Go.Av Go.Sp
set_option linter.unusedVariables false
set_option linter.unusedSimpArgs false
set_option maxRecDepth 100000
set_option maxHeartbeats 4000000

end Go.Proofs.YtmamiihpghnmmaaDoor
