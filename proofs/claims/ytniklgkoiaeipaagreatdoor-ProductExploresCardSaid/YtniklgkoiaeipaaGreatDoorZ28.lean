/- A bundle of this claim's own texts: V1. -/
import Derived.Test.YtniklgkoiaeipaaGreatDoorZ1
import Derived.Test.YtniklgkoiaeipaaGreatDoorZ2
namespace Go.Proofs.YtniklgkoiaeipaaGreatDoor
open Go Go.Av Go.Sp
set_option linter.unusedVariables false
set_option linter.unusedSimpArgs false
set_option maxRecDepth 100000
set_option maxHeartbeats 4000000

abbrev grA (g : Gr) : AV := .agg [.d (opsD g.spots), .int g.init, .d (listsD g.next), .d (intsD g.sets), .int g.many]
end Go.Proofs.YtniklgkoiaeipaaGreatDoor
