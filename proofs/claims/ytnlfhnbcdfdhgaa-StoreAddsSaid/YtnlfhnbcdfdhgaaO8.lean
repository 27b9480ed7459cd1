/- What a store that is handed in is. -/
import Derived.Test.YtnlfhnbcdfdhgaaO6
import Derived.Test.YtnlfhnbcdfdhgaaCg
import Derived.Test.YtnlfhnbcdfdhgaaTopP
namespace Go.Proofs.Ytnlfhnbcdfdhgaa
open Go Go.Av Go.Sp
set_option linter.unusedVariables false
set_option linter.unusedSimpArgs false
set_option maxRecDepth 100000
set_option maxHeartbeats 4000000
theorem conf_Store {g : Nat} {xs : List D} (h : Conf Try.prog (g + 4) 25 xs) : ∃ s : Sto, xs = [intsD s.loose, listsD s.runs] := by
 obtain ⟨p0, p1, rfl, h0, h1⟩ := conf_struct2_of Try.underlying25 h
 obtain ⟨a, rfl, _⟩ := conf_ints h0
 obtain ⟨b, rfl, _⟩ := conf_lists h1
 exact ⟨⟨a, b⟩, rfl⟩
end Go.Proofs.Ytnlfhnbcdfdhgaa
