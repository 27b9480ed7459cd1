/- What an argument of each type is. -/
import Derived.Test.YtmamiihpghnmmaaDoorEl
import Derived.Test.YtmamiihpghnmmaaDoorS1
import Derived.Test.YtmamiihpghnmmaaDoorBr
namespace Go.Proofs.YtmamiihpghnmmaaDoor
open Go Go.Av Go.Sp
set_option linter.unusedVariables false
set_option linter.unusedSimpArgs false
set_option maxRecDepth 100000
set_option maxHeartbeats 4000000
theorem conf_int {g : Nat} {xs : List D} (h : Conf Tryd.prog (g + 1) 3 xs) : ∃ n, xs = [.i .i64 n] := by obtain ⟨n, h, _⟩ := conf_int_of Tryd.underlying3 h; exact ⟨n, h⟩
theorem conf_int64 {g : Nat} {xs : List D} (h : Conf Tryd.prog (g + 1) 3 xs) : ∃ n, xs = [.i .i64 n] ∧ inI64 n := by
  obtain ⟨n, h, hw⟩ := conf_int_of Tryd.underlying3 h
  exact ⟨n, h, by simpa [Lit.wf, IntKind.min, IntKind.max, IntKind.signed, IntKind.bits, inI64] using hw⟩
theorem conf_bool {g : Nat} {xs : List D} (h : Conf Tryd.prog (g + 1) 4 xs) : ∃ b, xs = [.b b] := conf_bool_of Tryd.underlying4 h
theorem conf_Op {g : Nat} {xs : List D} (h : Conf Tryd.prog (g + 2) 96 xs) : ∃ o : Fo, xs = o.cells := by
  obtain ⟨p0, p1, rfl, h0, h1⟩ := conf_struct2_of Tryd.underlying96 h
  obtain ⟨a, rfl⟩ := conf_int h0
  obtain ⟨b, rfl⟩ := conf_int h1
  exact ⟨⟨a, b⟩, rfl⟩
theorem conf_ops {g : Nat} {xs : List D} (h : Conf Tryd.prog (g + 3) 27 xs) : ∃ l : List Fo, xs = [opsD l] ∧ l.length * 16 ≤ 140737488351232 := conf_slice_of Tryd.underlying27 (by kernel_rfl) (by kernel_rfl) (fun _ h => conf_Op h) h
theorem conf_terms {g : Nat} {xs : List D} (h : Conf Tryd.prog (g + 4) 26 xs) : ∃ l : List (List Fo), xs = [termsD l] ∧ l.length * 24 ≤ 140737488351232 := conf_slice_of Tryd.underlying26 (by kernel_rfl) (by kernel_rfl) (fun _ h => by obtain ⟨l, h, _⟩ := conf_ops h; exact ⟨l, h⟩) h
theorem conf_ints {g : Nat} {xs : List D} (h : Conf Tryd.prog (g + 2) 50 xs) : ∃ l : List Int, xs = [intsD l] ∧ l.length * 8 ≤ 140737488351232 := conf_slice_of Tryd.underlying50 (by kernel_rfl) (by kernel_rfl) (fun _ h => by obtain ⟨n, h⟩ := conf_int h; exact ⟨n, h⟩) h
theorem conf_bools {g : Nat} {xs : List D} (h : Conf Tryd.prog (g + 2) 35 xs) : ∃ l : List Bool, xs = [boolsD l] ∧ l.length * 1 ≤ 140737488351232 := conf_slice_of Tryd.underlying35 (by kernel_rfl) (by kernel_rfl) (fun _ h => by obtain ⟨n, h⟩ := conf_bool h; exact ⟨n, h⟩) h
theorem conf_byte {g : Nat} {xs : List D} (h : Conf Tryd.prog (g + 1) 5 xs) : ∃ b : UInt8, xs = byteC b := by
  obtain ⟨n, rfl, hw⟩ := conf_int_of Tryd.underlying5 h
  have hw' : 0 ≤ n ∧ n ≤ 255 := by simpa [Lit.wf, IntKind.min, IntKind.max, IntKind.signed, IntKind.bits] using hw
  refine ⟨UInt8.ofNat n.toNat, ?_⟩
  have : (UInt8.ofNat n.toNat).toNat = n.toNat := by rw [UInt8.toNat_ofNat']; omega
  unfold byteC
  rw [this, Int.toNat_of_nonneg hw'.1]
theorem conf_bytes {g : Nat} {xs : List D} (h : Conf Tryd.prog (g + 2) 153 xs) : ∃ l : List UInt8, xs = [bytesD l] ∧ l.length * 1 ≤ 140737488351232 := conf_slice_of Tryd.underlying153 (by kernel_rfl) (by kernel_rfl) (fun _ h => conf_byte h) h
theorem conf_Spot {g : Nat} {xs : List D} (h : Conf Tryd.prog (g + 2) 84 xs) : ∃ o : Fo, xs = o.cells := by
  obtain ⟨p0, p1, rfl, h0, h1⟩ := conf_struct2_of Tryd.underlying84 h
  obtain ⟨a, rfl⟩ := conf_int h0
  obtain ⟨b, rfl⟩ := conf_int h1
  exact ⟨⟨a, b⟩, rfl⟩
theorem conf_spots {g : Nat} {xs : List D} (h : Conf Tryd.prog (g + 3) 46 xs) : ∃ l : List Fo, xs = [opsD l] ∧ l.length * 16 ≤ 140737488351232 := conf_slice_of Tryd.underlying46 (by kernel_rfl) (by kernel_rfl) (fun _ h => conf_Spot h) h
end Go.Proofs.YtmamiihpghnmmaaDoor
