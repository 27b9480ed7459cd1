/- What this translation says of its types. -/
import Derived.Test.YtnhbcnfkjfigoaaDoorSp
import Derived.Test.YtnhbcnfkjfigoaaDoorProg
namespace Go.Proofs.YtnhbcnfkjfigoaaDoor
open Go Go.Av
theorem el_int : El Tryd.prog 3 (.int .i64 0) 1 8 := by unfold El; kernel_rfl
theorem el_bool : El Tryd.prog 4 (.bool false) 1 1 := by unfold El; kernel_rfl
theorem el_byte : El Tryd.prog 5 (.int .u8 0) 1 1 := by unfold El; kernel_rfl
theorem el_string : El Tryd.prog 9 (.string ByteArray.empty) 1 16 := by unfold El; kernel_rfl
theorem el_Errno : El Tryd.prog 22 (.int .i64 0) 1 8 := by unfold El; kernel_rfl
theorem el_Op : El Tryd.prog 63 (.agg #[.int .i64 0, .int .i64 0]) 2 16 := by unfold El; kernel_rfl
theorem el_ints : El Tryd.prog 28 (.slice none 0 0) 1 24 := by unfold El; kernel_rfl
theorem el_bools : El Tryd.prog 42 (.slice none 0 0) 1 24 := by unfold El; kernel_rfl
theorem el_ops : El Tryd.prog 26 (.slice none 0 0) 1 24 := by unfold El; kernel_rfl
theorem fd_Op0 : Fld Tryd.prog 63 0 0 := by unfold Fld; kernel_rfl
theorem fd_Op1 : Fld Tryd.prog 63 1 1 := by unfold Fld; kernel_rfl
/-- The table of polish. -/
def partsT : List D := [-1, 0, 0, 2, 2, 2, 2, 2, 2, 2, 1, 0, 0, 0, 1, 2, 2, 1, 1].map fun n => D.i .i64 n
def GP : List (Nat × List D) := [(0, partsT)]
theorem GP_mem : (0, partsT) ∈ GP := by simp [GP]
end Go.Proofs.YtnhbcnfkjfigoaaDoor
