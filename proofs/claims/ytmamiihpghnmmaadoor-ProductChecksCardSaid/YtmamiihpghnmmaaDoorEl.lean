/- What this translation says of its types. -/
import Derived.Test.YtmamiihpghnmmaaDoorS1
import Derived.Test.YtmamiihpghnmmaaDoorE4
import Derived.Test.YtmamiihpghnmmaaDoorProg
namespace Go.Proofs.YtmamiihpghnmmaaDoor
open Go Go.Av
set_option linter.unusedVariables false
set_option linter.unusedSimpArgs false
set_option maxRecDepth 100000
set_option maxHeartbeats 4000000
class ElC (P : Program) (t : TypeId) (z : outParam Value) (s b : outParam Nat) : Prop where h : El P t z s b
class FdC (P : Program) (t f : Nat) (o : outParam Nat) : Prop where h : Fld P t f o
class BlC (P : Program) (t : TypeId) : Prop where h : Bl2 P t
class BlsC (P : Program) (t : TypeId) (zs : outParam (List Value)) (pl : outParam (List (Nat × Nat))) : Prop where h : Bls P t zs pl
class EqC (P : Program) (t : TypeId) : Prop where h : Eq2 P t
class NifC (P : Program) (t : TypeId) : Prop where h : NotIf P t
theorem el_int : El Tryd.prog 3 (.int .i64 0) 1 8 := by unfold El; kernel_rfl
instance : ElC Tryd.prog 3 (.int .i64 0) 1 8 := ⟨el_int⟩
theorem el_bool : El Tryd.prog 4 (.bool false) 1 1 := by unfold El; kernel_rfl
instance : ElC Tryd.prog 4 (.bool false) 1 1 := ⟨el_bool⟩
theorem el_byte : El Tryd.prog 5 (.int .u8 0) 1 1 := by unfold El; kernel_rfl
instance : ElC Tryd.prog 5 (.int .u8 0) 1 1 := ⟨el_byte⟩
theorem el_string : El Tryd.prog 9 (.string ByteArray.empty) 1 16 := by unfold El; kernel_rfl
instance : ElC Tryd.prog 9 (.string ByteArray.empty) 1 16 := ⟨el_string⟩
theorem el_Errno : El Tryd.prog 31 (.int .i64 0) 1 8 := by unfold El; kernel_rfl
instance : ElC Tryd.prog 31 (.int .i64 0) 1 8 := ⟨el_Errno⟩
theorem el_unit : El Tryd.prog 86 (.agg #[]) 0 0 := by unfold El; kernel_rfl
instance : ElC Tryd.prog 86 (.agg #[]) 0 0 := ⟨el_unit⟩
theorem bls_unit : Bls Tryd.prog 86 [] [] := by unfold Bls; kernel_rfl
instance : BlsC Tryd.prog 86 [] [] := ⟨bls_unit⟩
theorem el_ints : El Tryd.prog 50 (.slice none 0 0) 1 24 := by unfold El; kernel_rfl
instance : ElC Tryd.prog 50 (.slice none 0 0) 1 24 := ⟨el_ints⟩
theorem el_bools : El Tryd.prog 35 (.slice none 0 0) 1 24 := by unfold El; kernel_rfl
instance : ElC Tryd.prog 35 (.slice none 0 0) 1 24 := ⟨el_bools⟩
theorem el_ops : El Tryd.prog 27 (.slice none 0 0) 1 24 := by unfold El; kernel_rfl
instance : ElC Tryd.prog 27 (.slice none 0 0) 1 24 := ⟨el_ops⟩
theorem el_terms : El Tryd.prog 26 (.slice none 0 0) 1 24 := by unfold El; kernel_rfl
instance : ElC Tryd.prog 26 (.slice none 0 0) 1 24 := ⟨el_terms⟩
theorem el_bytes : El Tryd.prog 153 (.slice none 0 0) 1 24 := by unfold El; kernel_rfl
instance : ElC Tryd.prog 153 (.slice none 0 0) 1 24 := ⟨el_bytes⟩
theorem el_lists : El Tryd.prog 112 (.slice none 0 0) 1 24 := by unfold El; kernel_rfl
instance : ElC Tryd.prog 112 (.slice none 0 0) 1 24 := ⟨el_lists⟩
theorem el_spots : El Tryd.prog 46 (.slice none 0 0) 1 24 := by unfold El; kernel_rfl
instance : ElC Tryd.prog 46 (.slice none 0 0) 1 24 := ⟨el_spots⟩
theorem el_vars : El Tryd.prog 22 (.slice none 0 0) 1 24 := by unfold El; kernel_rfl
instance : ElC Tryd.prog 22 (.slice none 0 0) 1 24 := ⟨el_vars⟩
theorem el_rules : El Tryd.prog 23 (.slice none 0 0) 1 24 := by unfold El; kernel_rfl
instance : ElC Tryd.prog 23 (.slice none 0 0) 1 24 := ⟨el_rules⟩
theorem el_sets : El Tryd.prog 69 (.slice none 0 0) 1 24 := by unfold El; kernel_rfl
instance : ElC Tryd.prog 69 (.slice none 0 0) 1 24 := ⟨el_sets⟩
theorem el_Op : El Tryd.prog 96 (.agg #[.int .i64 0, .int .i64 0]) 2 16 := by unfold El; kernel_rfl
instance : ElC Tryd.prog 96 (.agg #[.int .i64 0, .int .i64 0]) 2 16 := ⟨el_Op⟩
theorem fd_Op0 : Fld Tryd.prog 96 0 0 := by unfold Fld; kernel_rfl
instance : FdC Tryd.prog 96 0 0 := ⟨fd_Op0⟩
theorem fd_Op1 : Fld Tryd.prog 96 1 1 := by unfold Fld; kernel_rfl
instance : FdC Tryd.prog 96 1 1 := ⟨fd_Op1⟩
theorem bls_Op : Bls Tryd.prog 96 [.int .i64 0, .int .i64 0] [(0, 1), (1, 1)] := by unfold Bls; kernel_rfl
instance : BlsC Tryd.prog 96 [.int .i64 0, .int .i64 0] [(0, 1), (1, 1)] := ⟨bls_Op⟩
theorem bl_Op : Bl2 Tryd.prog 96 := by unfold Bl2; kernel_rfl
instance : BlC Tryd.prog 96 := ⟨bl_Op⟩
theorem el_reader : El Tryd.prog 119 (.agg #[.slice none 0 0, .slice none 0 0]) 2 48 := by unfold El; kernel_rfl
instance : ElC Tryd.prog 119 (.agg #[.slice none 0 0, .slice none 0 0]) 2 48 := ⟨el_reader⟩
theorem fd_reader0 : Fld Tryd.prog 119 0 0 := by unfold Fld; kernel_rfl
instance : FdC Tryd.prog 119 0 0 := ⟨fd_reader0⟩
theorem fd_reader1 : Fld Tryd.prog 119 1 1 := by unfold Fld; kernel_rfl
instance : FdC Tryd.prog 119 1 1 := ⟨fd_reader1⟩
theorem bls_reader : Bls Tryd.prog 119 [.slice none 0 0, .slice none 0 0] [(0, 1), (1, 1)] := by unfold Bls; kernel_rfl
instance : BlsC Tryd.prog 119 [.slice none 0 0, .slice none 0 0] [(0, 1), (1, 1)] := ⟨bls_reader⟩
theorem bl_reader : Bl2 Tryd.prog 119 := by unfold Bl2; kernel_rfl
instance : BlC Tryd.prog 119 := ⟨bl_reader⟩
theorem el_machine : El Tryd.prog 102 (.agg #[.slice none 0 0, .slice none 0 0]) 2 48 := by unfold El; kernel_rfl
instance : ElC Tryd.prog 102 (.agg #[.slice none 0 0, .slice none 0 0]) 2 48 := ⟨el_machine⟩
theorem fd_machine0 : Fld Tryd.prog 102 0 0 := by unfold Fld; kernel_rfl
instance : FdC Tryd.prog 102 0 0 := ⟨fd_machine0⟩
theorem fd_machine1 : Fld Tryd.prog 102 1 1 := by unfold Fld; kernel_rfl
instance : FdC Tryd.prog 102 1 1 := ⟨fd_machine1⟩
theorem bls_machine : Bls Tryd.prog 102 [.slice none 0 0, .slice none 0 0] [(0, 1), (1, 1)] := by unfold Bls; kernel_rfl
instance : BlsC Tryd.prog 102 [.slice none 0 0, .slice none 0 0] [(0, 1), (1, 1)] := ⟨bls_machine⟩
theorem bl_machine : Bl2 Tryd.prog 102 := by unfold Bl2; kernel_rfl
instance : BlC Tryd.prog 102 := ⟨bl_machine⟩
theorem el_Spot : El Tryd.prog 84 (.agg #[.int .i64 0, .int .i64 0]) 2 16 := by unfold El; kernel_rfl
instance : ElC Tryd.prog 84 (.agg #[.int .i64 0, .int .i64 0]) 2 16 := ⟨el_Spot⟩
theorem fd_Spot0 : Fld Tryd.prog 84 0 0 := by unfold Fld; kernel_rfl
instance : FdC Tryd.prog 84 0 0 := ⟨fd_Spot0⟩
theorem fd_Spot1 : Fld Tryd.prog 84 1 1 := by unfold Fld; kernel_rfl
instance : FdC Tryd.prog 84 1 1 := ⟨fd_Spot1⟩
theorem bls_Spot : Bls Tryd.prog 84 [.int .i64 0, .int .i64 0] [(0, 1), (1, 1)] := by unfold Bls; kernel_rfl
instance : BlsC Tryd.prog 84 [.int .i64 0, .int .i64 0] [(0, 1), (1, 1)] := ⟨bls_Spot⟩
theorem bl_Spot : Bl2 Tryd.prog 84 := by unfold Bl2; kernel_rfl
instance : BlC Tryd.prog 84 := ⟨bl_Spot⟩
theorem el_Lasso : El Tryd.prog 58 (.agg #[.slice none 0 0, .slice none 0 0]) 2 48 := by unfold El; kernel_rfl
instance : ElC Tryd.prog 58 (.agg #[.slice none 0 0, .slice none 0 0]) 2 48 := ⟨el_Lasso⟩
theorem fd_Lasso0 : Fld Tryd.prog 58 0 0 := by unfold Fld; kernel_rfl
instance : FdC Tryd.prog 58 0 0 := ⟨fd_Lasso0⟩
theorem fd_Lasso1 : Fld Tryd.prog 58 1 1 := by unfold Fld; kernel_rfl
instance : FdC Tryd.prog 58 1 1 := ⟨fd_Lasso1⟩
theorem bls_Lasso : Bls Tryd.prog 58 [.slice none 0 0, .slice none 0 0] [(0, 1), (1, 1)] := by unfold Bls; kernel_rfl
instance : BlsC Tryd.prog 58 [.slice none 0 0, .slice none 0 0] [(0, 1), (1, 1)] := ⟨bls_Lasso⟩
theorem bl_Lasso : Bl2 Tryd.prog 58 := by unfold Bl2; kernel_rfl
instance : BlC Tryd.prog 58 := ⟨bl_Lasso⟩
theorem el_Variable : El Tryd.prog 79 (.agg #[.string ByteArray.empty, .int .i64 0, .int .i64 0, .int .i64 0]) 4 40 := by unfold El; kernel_rfl
instance : ElC Tryd.prog 79 (.agg #[.string ByteArray.empty, .int .i64 0, .int .i64 0, .int .i64 0]) 4 40 := ⟨el_Variable⟩
theorem fd_Variable0 : Fld Tryd.prog 79 0 0 := by unfold Fld; kernel_rfl
instance : FdC Tryd.prog 79 0 0 := ⟨fd_Variable0⟩
theorem fd_Variable1 : Fld Tryd.prog 79 1 1 := by unfold Fld; kernel_rfl
instance : FdC Tryd.prog 79 1 1 := ⟨fd_Variable1⟩
theorem fd_Variable2 : Fld Tryd.prog 79 2 2 := by unfold Fld; kernel_rfl
instance : FdC Tryd.prog 79 2 2 := ⟨fd_Variable2⟩
theorem fd_Variable3 : Fld Tryd.prog 79 3 3 := by unfold Fld; kernel_rfl
instance : FdC Tryd.prog 79 3 3 := ⟨fd_Variable3⟩
theorem bls_Variable : Bls Tryd.prog 79 [.string ByteArray.empty, .int .i64 0, .int .i64 0, .int .i64 0] [(0, 1), (1, 1), (2, 1), (3, 1)] := by unfold Bls; kernel_rfl
instance : BlsC Tryd.prog 79 [.string ByteArray.empty, .int .i64 0, .int .i64 0, .int .i64 0] [(0, 1), (1, 1), (2, 1), (3, 1)] := ⟨bls_Variable⟩
theorem el_Set : El Tryd.prog 73 (.agg #[.int .i64 0, .slice none 0 0]) 2 32 := by unfold El; kernel_rfl
instance : ElC Tryd.prog 73 (.agg #[.int .i64 0, .slice none 0 0]) 2 32 := ⟨el_Set⟩
theorem fd_Set0 : Fld Tryd.prog 73 0 0 := by unfold Fld; kernel_rfl
instance : FdC Tryd.prog 73 0 0 := ⟨fd_Set0⟩
theorem fd_Set1 : Fld Tryd.prog 73 1 1 := by unfold Fld; kernel_rfl
instance : FdC Tryd.prog 73 1 1 := ⟨fd_Set1⟩
theorem bls_Set : Bls Tryd.prog 73 [.int .i64 0, .slice none 0 0] [(0, 1), (1, 1)] := by unfold Bls; kernel_rfl
instance : BlsC Tryd.prog 73 [.int .i64 0, .slice none 0 0] [(0, 1), (1, 1)] := ⟨bls_Set⟩
theorem bl_Set : Bl2 Tryd.prog 73 := by unfold Bl2; kernel_rfl
instance : BlC Tryd.prog 73 := ⟨bl_Set⟩
theorem el_Rule : El Tryd.prog 71 (.agg #[.slice none 0 0, .slice none 0 0]) 2 48 := by unfold El; kernel_rfl
instance : ElC Tryd.prog 71 (.agg #[.slice none 0 0, .slice none 0 0]) 2 48 := ⟨el_Rule⟩
theorem fd_Rule0 : Fld Tryd.prog 71 0 0 := by unfold Fld; kernel_rfl
instance : FdC Tryd.prog 71 0 0 := ⟨fd_Rule0⟩
theorem fd_Rule1 : Fld Tryd.prog 71 1 1 := by unfold Fld; kernel_rfl
instance : FdC Tryd.prog 71 1 1 := ⟨fd_Rule1⟩
theorem bls_Rule : Bls Tryd.prog 71 [.slice none 0 0, .slice none 0 0] [(0, 1), (1, 1)] := by unfold Bls; kernel_rfl
instance : BlsC Tryd.prog 71 [.slice none 0 0, .slice none 0 0] [(0, 1), (1, 1)] := ⟨bls_Rule⟩
theorem bl_Rule : Bl2 Tryd.prog 71 := by unfold Bl2; kernel_rfl
instance : BlC Tryd.prog 71 := ⟨bl_Rule⟩
theorem el_Model : El Tryd.prog 25 (.agg #[.slice none 0 0, .slice none 0 0]) 2 48 := by unfold El; kernel_rfl
instance : ElC Tryd.prog 25 (.agg #[.slice none 0 0, .slice none 0 0]) 2 48 := ⟨el_Model⟩
theorem fd_Model0 : Fld Tryd.prog 25 0 0 := by unfold Fld; kernel_rfl
instance : FdC Tryd.prog 25 0 0 := ⟨fd_Model0⟩
theorem fd_Model1 : Fld Tryd.prog 25 1 1 := by unfold Fld; kernel_rfl
instance : FdC Tryd.prog 25 1 1 := ⟨fd_Model1⟩
theorem bls_Model : Bls Tryd.prog 25 [.slice none 0 0, .slice none 0 0] [(0, 1), (1, 1)] := by unfold Bls; kernel_rfl
instance : BlsC Tryd.prog 25 [.slice none 0 0, .slice none 0 0] [(0, 1), (1, 1)] := ⟨bls_Model⟩
theorem bl_Model : Bl2 Tryd.prog 25 := by unfold Bl2; kernel_rfl
instance : BlC Tryd.prog 25 := ⟨bl_Model⟩
theorem el_Task : El Tryd.prog 29 (.agg #[.slice none 0 0, .slice none 0 0, .slice none 0 0, .slice none 0 0]) 4 96 := by unfold El; kernel_rfl
instance : ElC Tryd.prog 29 (.agg #[.slice none 0 0, .slice none 0 0, .slice none 0 0, .slice none 0 0]) 4 96 := ⟨el_Task⟩
theorem fd_Task0 : Fld Tryd.prog 29 0 0 := by unfold Fld; kernel_rfl
instance : FdC Tryd.prog 29 0 0 := ⟨fd_Task0⟩
theorem fd_Task1 : Fld Tryd.prog 29 1 2 := by unfold Fld; kernel_rfl
instance : FdC Tryd.prog 29 1 2 := ⟨fd_Task1⟩
theorem fd_Task2 : Fld Tryd.prog 29 2 3 := by unfold Fld; kernel_rfl
instance : FdC Tryd.prog 29 2 3 := ⟨fd_Task2⟩
theorem bls_Task : Bls Tryd.prog 29 [.slice none 0 0, .slice none 0 0, .slice none 0 0, .slice none 0 0] [(0, 2), (2, 1), (3, 1)] := by unfold Bls; kernel_rfl
instance : BlsC Tryd.prog 29 [.slice none 0 0, .slice none 0 0, .slice none 0 0, .slice none 0 0] [(0, 2), (2, 1), (3, 1)] := ⟨bls_Task⟩
theorem eq2_Op : Eq2 Tryd.prog 96 := ⟨by kernel_rfl, fun a b c d w => by
  have u3 := Tryd.underlying3
  rw [show (10000 : Nat) = 9999 + 1 from rfl, run_equalIn_agg w 9999 96 _ _ (by kernel_rfl) (by kernel_rfl)]
  simp only [Program.fieldsOf, Tryd.underlying96]
  go_simp
  by_cases h1 : a = c <;> by_cases h2 : b = d <;> simp [h1, h2]⟩
instance : EqC Tryd.prog 96 := ⟨eq2_Op⟩
theorem eq2_Spot : Eq2 Tryd.prog 84 := ⟨by kernel_rfl, fun a b c d w => by
  have u3 := Tryd.underlying3
  rw [show (10000 : Nat) = 9999 + 1 from rfl, run_equalIn_agg w 9999 84 _ _ (by kernel_rfl) (by kernel_rfl)]
  simp only [Program.fieldsOf, Tryd.underlying84]
  go_simp
  by_cases h1 : a = c <;> by_cases h2 : b = d <;> simp [h1, h2]⟩
instance : EqC Tryd.prog 84 := ⟨eq2_Spot⟩
theorem nif_Errno : NotIf Tryd.prog 31 := ⟨_, Tryd.underlying31, fun _ h => by cases h⟩
instance : NifC Tryd.prog 31 := ⟨nif_Errno⟩
theorem mixed : Tryd.prog.follows .mixedOrders = true := by kernel_rfl
/-- The table of polish. -/
def partsT : List D := [-1, 0, 0, 2, 2, 2, 2, 2, 2, 2, 1, 0, 0, 0, 1, 2, 2, 1, 1].map fun n => D.i .i64 n
def GP : List (Nat × List D) := [(0, partsT)]
theorem GP_mem : (0, partsT) ∈ GP := by simp [GP]
end Go.Proofs.YtmamiihpghnmmaaDoor
