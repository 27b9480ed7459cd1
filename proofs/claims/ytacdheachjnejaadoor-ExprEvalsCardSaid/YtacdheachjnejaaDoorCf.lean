/- What an argument of each type is. -/
import Derived.Test.YtacdheachjnejaaDoorEl
import Derived.Test.YtacdheachjnejaaDoorS1
import Derived.Test.YtacdheachjnejaaDoorBr
namespace Go.Proofs.YtacdheachjnejaaDoor
open Go Go.Av Go.Sp
set_option linter.unusedVariables false
set_option linter.unusedSimpArgs false
set_option maxRecDepth 100000
set_option maxHeartbeats 4000000
theorem conf_int {g : Nat} {xs : List D} (h : Conf Tryd.prog (g + 1) 3 xs) : ∃ n, xs = [.i .i64 n] := by obtain ⟨n, h, _⟩ := conf_int_of Tryd.underlying3 h; exact ⟨n, h⟩
theorem conf_int64 {g : Nat} {xs : List D} (h : Conf Tryd.prog (g + 1) 3 xs) : ∃ n, xs = [.i .i64 n] ∧ inI64 n := by
  obtain ⟨n, h, hw⟩ := conf_int_of Tryd.underlying3 h
  exact ⟨n, h, by simpa [Lit.wf, IntKind.min, IntKind.max, IntKind.signed, IntKind.bits, inI64] using hw⟩
theorem conf_bool {g : Nat} {xs : List D} (h : Conf Tryd.prog (g + 1) 4 xs) : ∃ b, xs = [.b b] := conf_bool_of Tryd.underlying4 h
theorem conf_Op {g : Nat} {xs : List D} (h : Conf Tryd.prog (g + 2) 68 xs) : ∃ o : Fo, xs = o.cells := by
  obtain ⟨p0, p1, rfl, h0, h1⟩ := conf_struct2_of Tryd.underlying68 h
  obtain ⟨a, rfl⟩ := conf_int h0
  obtain ⟨b, rfl⟩ := conf_int h1
  exact ⟨⟨a, b⟩, rfl⟩
theorem conf_ops {g : Nat} {xs : List D} (h : Conf Tryd.prog (g + 3) 22 xs) : ∃ l : List Fo, xs = [opsD l] ∧ l.length * 16 ≤ 140737488351232 := conf_slice_of Tryd.underlying22 (by kernel_rfl) (by kernel_rfl) (fun _ h => conf_Op h) h
theorem conf_terms {g : Nat} {xs : List D} (h : Conf Tryd.prog (g + 4) 53 xs) : ∃ l : List (List Fo), xs = [termsD l] ∧ l.length * 24 ≤ 140737488351232 := conf_slice_of Tryd.underlying53 (by kernel_rfl) (by kernel_rfl) (fun _ h => by obtain ⟨l, h, _⟩ := conf_ops h; exact ⟨l, h⟩) h
theorem conf_ints {g : Nat} {xs : List D} (h : Conf Tryd.prog (g + 2) 23 xs) : ∃ l : List Int, xs = [intsD l] ∧ l.length * 8 ≤ 140737488351232 := conf_slice_of Tryd.underlying23 (by kernel_rfl) (by kernel_rfl) (fun _ h => by obtain ⟨n, h⟩ := conf_int h; exact ⟨n, h⟩) h
theorem conf_bools {g : Nat} {xs : List D} (h : Conf Tryd.prog (g + 2) 35 xs) : ∃ l : List Bool, xs = [boolsD l] ∧ l.length * 1 ≤ 140737488351232 := conf_slice_of Tryd.underlying35 (by kernel_rfl) (by kernel_rfl) (fun _ h => by obtain ⟨n, h⟩ := conf_bool h; exact ⟨n, h⟩) h
theorem conf_byte {g : Nat} {xs : List D} (h : Conf Tryd.prog (g + 1) 5 xs) : ∃ b : UInt8, xs = byteC b := by
  obtain ⟨n, rfl, hw⟩ := conf_int_of Tryd.underlying5 h
  have hw' : 0 ≤ n ∧ n ≤ 255 := by simpa [Lit.wf, IntKind.min, IntKind.max, IntKind.signed, IntKind.bits] using hw
  refine ⟨UInt8.ofNat n.toNat, ?_⟩
  have : (UInt8.ofNat n.toNat).toNat = n.toNat := by rw [UInt8.toNat_ofNat']; omega
  unfold byteC
  rw [this, Int.toNat_of_nonneg hw'.1]
theorem conf_bytes {g : Nat} {xs : List D} (h : Conf Tryd.prog (g + 2) 127 xs) : ∃ l : List UInt8, xs = [bytesD l] ∧ l.length * 1 ≤ 140737488351232 := conf_slice_of Tryd.underlying127 (by kernel_rfl) (by kernel_rfl) (fun _ h => conf_byte h) h
end Go.Proofs.YtacdheachjnejaaDoor
