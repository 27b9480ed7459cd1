/- What this translation says of its types. -/
import Derived.Test.YtnhbcnfkjfigoaaDoorSp
import Derived.Test.YtnhbcnfkjfigoaaDoorBa
import Derived.Test.YtnhbcnfkjfigoaaDoorProg
namespace Go.Proofs.YtnhbcnfkjfigoaaDoor
open Go Go.Av
theorem el_int : El Tryd.prog 3 (.int .i64 0) 1 8 := by unfold El; kernel_rfl
theorem el_bool : El Tryd.prog 4 (.bool false) 1 1 := by unfold El; kernel_rfl
theorem el_byte : El Tryd.prog 5 (.int .u8 0) 1 1 := by unfold El; kernel_rfl
theorem el_string : El Tryd.prog 9 (.string ByteArray.empty) 1 16 := by unfold El; kernel_rfl
theorem el_Errno : El Tryd.prog 22 (.int .i64 0) 1 8 := by unfold El; kernel_rfl
theorem el_Op : El Tryd.prog 63 (.agg #[.int .i64 0, .int .i64 0]) 2 16 := by unfold El; kernel_rfl
theorem el_ints : El Tryd.prog 28 (.slice none 0 0) 1 24 := by unfold El; kernel_rfl
theorem el_bools : El Tryd.prog 42 (.slice none 0 0) 1 24 := by unfold El; kernel_rfl
theorem el_ops : El Tryd.prog 26 (.slice none 0 0) 1 24 := by unfold El; kernel_rfl
theorem fd_Op0 : Fld Tryd.prog 63 0 0 := by unfold Fld; kernel_rfl
theorem fd_Op1 : Fld Tryd.prog 63 1 1 := by unfold Fld; kernel_rfl
theorem eq2_Op : Eq2 Tryd.prog 63 := ⟨by kernel_rfl, fun a b c d w => by
  have u3 := Tryd.underlying3
  rw [show (10000 : Nat) = 9999 + 1 from rfl, run_equalIn_agg w 9999 63 _ _ (by kernel_rfl) (by kernel_rfl)]
  simp only [Program.fieldsOf, Tryd.underlying63]
  go_simp
  by_cases h1 : a = c <;> by_cases h2 : b = d <;> simp [h1, h2]⟩
theorem mixed : Tryd.prog.follows .mixedOrders = true := by kernel_rfl
theorem nif_Errno : NotIf Tryd.prog 22 := ⟨_, Tryd.underlying22, fun _ h => by cases h⟩
theorem bl_Op : Bl2 Tryd.prog 63 := by unfold Bl2; kernel_rfl
theorem el_reader : El Tryd.prog 59 (.agg #[.slice none 0 0, .slice none 0 0]) 2 48 := by unfold El; kernel_rfl
theorem bl_reader : Bl2 Tryd.prog 59 := by unfold Bl2; kernel_rfl
theorem fd_reader0 : Fld Tryd.prog 59 0 0 := by unfold Fld; kernel_rfl
theorem fd_reader1 : Fld Tryd.prog 59 1 1 := by unfold Fld; kernel_rfl
theorem el_pair : El Tryd.prog 71 (.agg #[.slice none 0 0, .slice none 0 0]) 2 48 := by unfold El; kernel_rfl
theorem bl_pair : Bl2 Tryd.prog 71 := by unfold Bl2; kernel_rfl
theorem fd_pair0 : Fld Tryd.prog 71 0 0 := by unfold Fld; kernel_rfl
theorem fd_pair1 : Fld Tryd.prog 71 1 1 := by unfold Fld; kernel_rfl
theorem el_machine : El Tryd.prog 77 (.agg #[.slice none 0 0, .slice none 0 0]) 2 48 := by unfold El; kernel_rfl
theorem bl_machine : Bl2 Tryd.prog 77 := by unfold Bl2; kernel_rfl
theorem fd_machine0 : Fld Tryd.prog 77 0 0 := by unfold Fld; kernel_rfl
theorem fd_machine1 : Fld Tryd.prog 77 1 1 := by unfold Fld; kernel_rfl
/-- The table of polish. -/
def partsT : List D := [-1, 0, 0, 2, 2, 2, 2, 2, 2, 2, 1, 0, 0, 0, 1, 2, 2, 1, 1].map fun n => D.i .i64 n
def GP : List (Nat × List D) := [(0, partsT)]
theorem GP_mem : (0, partsT) ∈ GP := by simp [GP]
end Go.Proofs.YtnhbcnfkjfigoaaDoor
