/- A bundle of this claim's own texts: W5. -/
import Derived.Test.YtniklgkoiaeipaaGreatDoorD35
set_option linter.unusedVariables false
set_option linter.unusedSimpArgs false
set_option maxRecDepth 100000
set_option maxHeartbeats 4000000
namespace Go.Proofs.YtniklgkoiaeipaaGreatDoor
open Go Go.Av Go.Sp

end Go.Proofs.YtniklgkoiaeipaaGreatDoor
