/- What an argument of each type is. -/
import Derived.Test.YtnlfhnbcdfdhgaaEl
import Derived.Test.YtnlfhnbcdfdhgaaS1
import Derived.Test.YtnlfhnbcdfdhgaaBr
namespace Go.Proofs.Ytnlfhnbcdfdhgaa
open Go Go.Av Go.Sp
set_option linter.unusedVariables false
set_option linter.unusedSimpArgs false
set_option maxRecDepth 100000
set_option maxHeartbeats 4000000
theorem conf_int {g : Nat} {xs : List D} (h : Conf Try.prog (g + 1) 3 xs) : ∃ n, xs = [.i .i64 n] := by obtain ⟨n, h, _⟩ := conf_int_of Try.underlying3 h; exact ⟨n, h⟩
theorem conf_int64 {g : Nat} {xs : List D} (h : Conf Try.prog (g + 1) 3 xs) : ∃ n, xs = [.i .i64 n] ∧ inI64 n := by
 obtain ⟨n, h, hw⟩ := conf_int_of Try.underlying3 h
 exact ⟨n, h, by simpa [Lit.wf, IntKind.min, IntKind.max, IntKind.signed, IntKind.bits, inI64] using hw⟩
theorem conf_bool {g : Nat} {xs : List D} (h : Conf Try.prog (g + 1) 4 xs) : ∃ b, xs = [.b b] := conf_bool_of Try.underlying4 h
theorem conf_ints {g : Nat} {xs : List D} (h : Conf Try.prog (g + 2) 22 xs) : ∃ l : List Int, xs = [intsD l] ∧ l.length * 8 ≤ 140737488351232 := conf_slice_of Try.underlying22 (by kernel_rfl) (by kernel_rfl) (fun _ h => by obtain ⟨n, h⟩ := conf_int h; exact ⟨n, h⟩) h
end Go.Proofs.Ytnlfhnbcdfdhgaa
