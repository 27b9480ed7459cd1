/- Own texts. -/
import Derived.Test.YtnlfhnbcdfdhgaaGreatDoorA40
import Derived.Test.YtnlfhnbcdfdhgaaGreatDoorA42
set_option linter.unusedVariables false
set_option linter.unusedSimpArgs false
set_option maxRecDepth 100000
set_option maxHeartbeats 4000000
namespace Go.Sp
open Go Go.Av
def okM (m : Fo) : Prop := (1 ≤ m.kind ∧ m.kind ≤ 4) ∧ 0 ≤ m.val ∧ m.val ≤ 2147483647
theorem fq {t : Tk} {e : Exp} (he : An t = (some e, 0)) : exG t = ⟨e.spots, (BB t).1.length, e.next, e.sets, (Ac t.formula t.props.length).1.length⟩ := by
 unfold exG; rw [he]
end Go.Sp
