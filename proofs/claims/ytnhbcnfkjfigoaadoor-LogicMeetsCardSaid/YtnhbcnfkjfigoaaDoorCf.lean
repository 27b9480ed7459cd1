/- What an argument of each type is. -/
import Derived.Test.YtnhbcnfkjfigoaaDoorEl
import Derived.Test.YtnhbcnfkjfigoaaDoorSb
import Derived.Test.YtnhbcnfkjfigoaaDoorBr
namespace Go.Proofs.YtnhbcnfkjfigoaaDoor
open Go Go.Av Go.Sp
theorem conf_int {g : Nat} {xs : List D} (h : Conf Tryd.prog (g + 1) 3 xs) : ∃ n, xs = [.i .i64 n] := by obtain ⟨n, h, _⟩ := conf_int_of Tryd.underlying3 h; exact ⟨n, h⟩
theorem conf_bool {g : Nat} {xs : List D} (h : Conf Tryd.prog (g + 1) 4 xs) : ∃ b, xs = [.b b] := conf_bool_of Tryd.underlying4 h
theorem conf_Op {g : Nat} {xs : List D} (h : Conf Tryd.prog (g + 2) 63 xs) : ∃ o : Fo, xs = o.cells := by
  obtain ⟨p0, p1, rfl, h0, h1⟩ := conf_struct2_of Tryd.underlying63 h
  obtain ⟨a, rfl⟩ := conf_int h0
  obtain ⟨b, rfl⟩ := conf_int h1
  exact ⟨⟨a, b⟩, rfl⟩
theorem conf_ops {g : Nat} {xs : List D} (h : Conf Tryd.prog (g + 3) 26 xs) : ∃ l : List Fo, xs = [opsD l] ∧ l.length * 16 ≤ 140737488351232 := conf_slice_of Tryd.underlying26 (by kernel_rfl) (by kernel_rfl) (fun _ h => conf_Op h) h
theorem conf_terms {g : Nat} {xs : List D} (h : Conf Tryd.prog (g + 4) 34 xs) : ∃ l : List (List Fo), xs = [termsD l] ∧ l.length * 24 ≤ 140737488351232 := conf_slice_of Tryd.underlying34 (by kernel_rfl) (by kernel_rfl) (fun _ h => by obtain ⟨l, h, _⟩ := conf_ops h; exact ⟨l, h⟩) h
theorem conf_ints {g : Nat} {xs : List D} (h : Conf Tryd.prog (g + 2) 28 xs) : ∃ l : List Int, xs = [intsD l] ∧ l.length * 8 ≤ 140737488351232 := conf_slice_of Tryd.underlying28 (by kernel_rfl) (by kernel_rfl) (fun _ h => by obtain ⟨n, h⟩ := conf_int h; exact ⟨n, h⟩) h
theorem conf_bools {g : Nat} {xs : List D} (h : Conf Tryd.prog (g + 2) 42 xs) : ∃ l : List Bool, xs = [boolsD l] ∧ l.length * 1 ≤ 140737488351232 := conf_slice_of Tryd.underlying42 (by kernel_rfl) (by kernel_rfl) (fun _ h => by obtain ⟨n, h⟩ := conf_bool h; exact ⟨n, h⟩) h
end Go.Proofs.YtnhbcnfkjfigoaaDoor
