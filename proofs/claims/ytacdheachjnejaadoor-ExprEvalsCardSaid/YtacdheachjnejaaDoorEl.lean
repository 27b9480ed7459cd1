/- What this translation says of its types. -/
import Derived.Test.YtacdheachjnejaaDoorS1
import Derived.Test.YtacdheachjnejaaDoorE4
import Derived.Test.YtacdheachjnejaaDoorProg
namespace Go.Proofs.YtacdheachjnejaaDoor
open Go Go.Av
set_option linter.unusedVariables false
set_option linter.unusedSimpArgs false
set_option maxRecDepth 100000
set_option maxHeartbeats 4000000
class ElC (P : Program) (t : TypeId) (z : outParam Value) (s b : outParam Nat) : Prop where h : El P t z s b
class FdC (P : Program) (t f : Nat) (o : outParam Nat) : Prop where h : Fld P t f o
class BlC (P : Program) (t : TypeId) : Prop where h : Bl2 P t
class BlsC (P : Program) (t : TypeId) (zs : outParam (List Value)) (pl : outParam (List (Nat × Nat))) : Prop where h : Bls P t zs pl
class EqC (P : Program) (t : TypeId) : Prop where h : Eq2 P t
class NifC (P : Program) (t : TypeId) : Prop where h : NotIf P t
theorem el_int : El Tryd.prog 3 (.int .i64 0) 1 8 := by unfold El; kernel_rfl
instance : ElC Tryd.prog 3 (.int .i64 0) 1 8 := ⟨el_int⟩
theorem el_bool : El Tryd.prog 4 (.bool false) 1 1 := by unfold El; kernel_rfl
instance : ElC Tryd.prog 4 (.bool false) 1 1 := ⟨el_bool⟩
theorem el_byte : El Tryd.prog 5 (.int .u8 0) 1 1 := by unfold El; kernel_rfl
instance : ElC Tryd.prog 5 (.int .u8 0) 1 1 := ⟨el_byte⟩
theorem el_string : El Tryd.prog 9 (.string ByteArray.empty) 1 16 := by unfold El; kernel_rfl
instance : ElC Tryd.prog 9 (.string ByteArray.empty) 1 16 := ⟨el_string⟩
theorem el_Errno : El Tryd.prog 25 (.int .i64 0) 1 8 := by unfold El; kernel_rfl
instance : ElC Tryd.prog 25 (.int .i64 0) 1 8 := ⟨el_Errno⟩
theorem el_unit : El Tryd.prog 110 (.agg #[]) 0 0 := by unfold El; kernel_rfl
instance : ElC Tryd.prog 110 (.agg #[]) 0 0 := ⟨el_unit⟩
theorem bls_unit : Bls Tryd.prog 110 [] [] := by unfold Bls; kernel_rfl
instance : BlsC Tryd.prog 110 [] [] := ⟨bls_unit⟩
theorem el_ints : El Tryd.prog 23 (.slice none 0 0) 1 24 := by unfold El; kernel_rfl
instance : ElC Tryd.prog 23 (.slice none 0 0) 1 24 := ⟨el_ints⟩
theorem el_bools : El Tryd.prog 35 (.slice none 0 0) 1 24 := by unfold El; kernel_rfl
instance : ElC Tryd.prog 35 (.slice none 0 0) 1 24 := ⟨el_bools⟩
theorem el_ops : El Tryd.prog 22 (.slice none 0 0) 1 24 := by unfold El; kernel_rfl
instance : ElC Tryd.prog 22 (.slice none 0 0) 1 24 := ⟨el_ops⟩
theorem el_terms : El Tryd.prog 53 (.slice none 0 0) 1 24 := by unfold El; kernel_rfl
instance : ElC Tryd.prog 53 (.slice none 0 0) 1 24 := ⟨el_terms⟩
theorem el_bytes : El Tryd.prog 127 (.slice none 0 0) 1 24 := by unfold El; kernel_rfl
instance : ElC Tryd.prog 127 (.slice none 0 0) 1 24 := ⟨el_bytes⟩
theorem el_letters : El Tryd.prog 31 (.slice none 0 0) 1 24 := by unfold El; kernel_rfl
instance : ElC Tryd.prog 31 (.slice none 0 0) 1 24 := ⟨el_letters⟩
theorem el_vars : El Tryd.prog 45 (.slice none 0 0) 1 24 := by unfold El; kernel_rfl
instance : ElC Tryd.prog 45 (.slice none 0 0) 1 24 := ⟨el_vars⟩
theorem el_rules : El Tryd.prog 46 (.slice none 0 0) 1 24 := by unfold El; kernel_rfl
instance : ElC Tryd.prog 46 (.slice none 0 0) 1 24 := ⟨el_rules⟩
theorem el_sets : El Tryd.prog 81 (.slice none 0 0) 1 24 := by unfold El; kernel_rfl
instance : ElC Tryd.prog 81 (.slice none 0 0) 1 24 := ⟨el_sets⟩
theorem el_Op : El Tryd.prog 68 (.agg #[.int .i64 0, .int .i64 0]) 2 16 := by unfold El; kernel_rfl
instance : ElC Tryd.prog 68 (.agg #[.int .i64 0, .int .i64 0]) 2 16 := ⟨el_Op⟩
theorem fd_Op0 : Fld Tryd.prog 68 0 0 := by unfold Fld; kernel_rfl
instance : FdC Tryd.prog 68 0 0 := ⟨fd_Op0⟩
theorem fd_Op1 : Fld Tryd.prog 68 1 1 := by unfold Fld; kernel_rfl
instance : FdC Tryd.prog 68 1 1 := ⟨fd_Op1⟩
theorem bls_Op : Bls Tryd.prog 68 [.int .i64 0, .int .i64 0] [(0, 1), (1, 1)] := by unfold Bls; kernel_rfl
instance : BlsC Tryd.prog 68 [.int .i64 0, .int .i64 0] [(0, 1), (1, 1)] := ⟨bls_Op⟩
theorem bl_Op : Bl2 Tryd.prog 68 := by unfold Bl2; kernel_rfl
instance : BlC Tryd.prog 68 := ⟨bl_Op⟩
theorem el_reader : El Tryd.prog 115 (.agg #[.slice none 0 0, .slice none 0 0]) 2 48 := by unfold El; kernel_rfl
instance : ElC Tryd.prog 115 (.agg #[.slice none 0 0, .slice none 0 0]) 2 48 := ⟨el_reader⟩
theorem fd_reader0 : Fld Tryd.prog 115 0 0 := by unfold Fld; kernel_rfl
instance : FdC Tryd.prog 115 0 0 := ⟨fd_reader0⟩
theorem fd_reader1 : Fld Tryd.prog 115 1 1 := by unfold Fld; kernel_rfl
instance : FdC Tryd.prog 115 1 1 := ⟨fd_reader1⟩
theorem bls_reader : Bls Tryd.prog 115 [.slice none 0 0, .slice none 0 0] [(0, 1), (1, 1)] := by unfold Bls; kernel_rfl
instance : BlsC Tryd.prog 115 [.slice none 0 0, .slice none 0 0] [(0, 1), (1, 1)] := ⟨bls_reader⟩
theorem bl_reader : Bl2 Tryd.prog 115 := by unfold Bl2; kernel_rfl
instance : BlC Tryd.prog 115 := ⟨bl_reader⟩
theorem el_machine : El Tryd.prog 65 (.agg #[.slice none 0 0, .slice none 0 0]) 2 48 := by unfold El; kernel_rfl
instance : ElC Tryd.prog 65 (.agg #[.slice none 0 0, .slice none 0 0]) 2 48 := ⟨el_machine⟩
theorem fd_machine0 : Fld Tryd.prog 65 0 0 := by unfold Fld; kernel_rfl
instance : FdC Tryd.prog 65 0 0 := ⟨fd_machine0⟩
theorem fd_machine1 : Fld Tryd.prog 65 1 1 := by unfold Fld; kernel_rfl
instance : FdC Tryd.prog 65 1 1 := ⟨fd_machine1⟩
theorem bls_machine : Bls Tryd.prog 65 [.slice none 0 0, .slice none 0 0] [(0, 1), (1, 1)] := by unfold Bls; kernel_rfl
instance : BlsC Tryd.prog 65 [.slice none 0 0, .slice none 0 0] [(0, 1), (1, 1)] := ⟨bls_machine⟩
theorem bl_machine : Bl2 Tryd.prog 65 := by unfold Bl2; kernel_rfl
instance : BlC Tryd.prog 65 := ⟨bl_machine⟩
theorem el_Word : El Tryd.prog 33 (.agg #[.slice none 0 0, .slice none 0 0]) 2 48 := by unfold El; kernel_rfl
instance : ElC Tryd.prog 33 (.agg #[.slice none 0 0, .slice none 0 0]) 2 48 := ⟨el_Word⟩
theorem fd_Word0 : Fld Tryd.prog 33 0 0 := by unfold Fld; kernel_rfl
instance : FdC Tryd.prog 33 0 0 := ⟨fd_Word0⟩
theorem fd_Word1 : Fld Tryd.prog 33 1 1 := by unfold Fld; kernel_rfl
instance : FdC Tryd.prog 33 1 1 := ⟨fd_Word1⟩
theorem bls_Word : Bls Tryd.prog 33 [.slice none 0 0, .slice none 0 0] [(0, 1), (1, 1)] := by unfold Bls; kernel_rfl
instance : BlsC Tryd.prog 33 [.slice none 0 0, .slice none 0 0] [(0, 1), (1, 1)] := ⟨bls_Word⟩
theorem bl_Word : Bl2 Tryd.prog 33 := by unfold Bl2; kernel_rfl
instance : BlC Tryd.prog 33 := ⟨bl_Word⟩
theorem el_Variable : El Tryd.prog 89 (.agg #[.string ByteArray.empty, .int .i64 0, .int .i64 0, .int .i64 0]) 4 40 := by unfold El; kernel_rfl
instance : ElC Tryd.prog 89 (.agg #[.string ByteArray.empty, .int .i64 0, .int .i64 0, .int .i64 0]) 4 40 := ⟨el_Variable⟩
theorem fd_Variable0 : Fld Tryd.prog 89 0 0 := by unfold Fld; kernel_rfl
instance : FdC Tryd.prog 89 0 0 := ⟨fd_Variable0⟩
theorem fd_Variable1 : Fld Tryd.prog 89 1 1 := by unfold Fld; kernel_rfl
instance : FdC Tryd.prog 89 1 1 := ⟨fd_Variable1⟩
theorem fd_Variable2 : Fld Tryd.prog 89 2 2 := by unfold Fld; kernel_rfl
instance : FdC Tryd.prog 89 2 2 := ⟨fd_Variable2⟩
theorem fd_Variable3 : Fld Tryd.prog 89 3 3 := by unfold Fld; kernel_rfl
instance : FdC Tryd.prog 89 3 3 := ⟨fd_Variable3⟩
theorem bls_Variable : Bls Tryd.prog 89 [.string ByteArray.empty, .int .i64 0, .int .i64 0, .int .i64 0] [(0, 1), (1, 1), (2, 1), (3, 1)] := by unfold Bls; kernel_rfl
instance : BlsC Tryd.prog 89 [.string ByteArray.empty, .int .i64 0, .int .i64 0, .int .i64 0] [(0, 1), (1, 1), (2, 1), (3, 1)] := ⟨bls_Variable⟩
theorem el_Set : El Tryd.prog 85 (.agg #[.int .i64 0, .slice none 0 0]) 2 32 := by unfold El; kernel_rfl
instance : ElC Tryd.prog 85 (.agg #[.int .i64 0, .slice none 0 0]) 2 32 := ⟨el_Set⟩
theorem fd_Set0 : Fld Tryd.prog 85 0 0 := by unfold Fld; kernel_rfl
instance : FdC Tryd.prog 85 0 0 := ⟨fd_Set0⟩
theorem fd_Set1 : Fld Tryd.prog 85 1 1 := by unfold Fld; kernel_rfl
instance : FdC Tryd.prog 85 1 1 := ⟨fd_Set1⟩
theorem bls_Set : Bls Tryd.prog 85 [.int .i64 0, .slice none 0 0] [(0, 1), (1, 1)] := by unfold Bls; kernel_rfl
instance : BlsC Tryd.prog 85 [.int .i64 0, .slice none 0 0] [(0, 1), (1, 1)] := ⟨bls_Set⟩
theorem bl_Set : Bl2 Tryd.prog 85 := by unfold Bl2; kernel_rfl
instance : BlC Tryd.prog 85 := ⟨bl_Set⟩
theorem el_Rule : El Tryd.prog 83 (.agg #[.slice none 0 0, .slice none 0 0]) 2 48 := by unfold El; kernel_rfl
instance : ElC Tryd.prog 83 (.agg #[.slice none 0 0, .slice none 0 0]) 2 48 := ⟨el_Rule⟩
theorem fd_Rule0 : Fld Tryd.prog 83 0 0 := by unfold Fld; kernel_rfl
instance : FdC Tryd.prog 83 0 0 := ⟨fd_Rule0⟩
theorem fd_Rule1 : Fld Tryd.prog 83 1 1 := by unfold Fld; kernel_rfl
instance : FdC Tryd.prog 83 1 1 := ⟨fd_Rule1⟩
theorem bls_Rule : Bls Tryd.prog 83 [.slice none 0 0, .slice none 0 0] [(0, 1), (1, 1)] := by unfold Bls; kernel_rfl
instance : BlsC Tryd.prog 83 [.slice none 0 0, .slice none 0 0] [(0, 1), (1, 1)] := ⟨bls_Rule⟩
theorem bl_Rule : Bl2 Tryd.prog 83 := by unfold Bl2; kernel_rfl
instance : BlC Tryd.prog 83 := ⟨bl_Rule⟩
theorem el_Model : El Tryd.prog 48 (.agg #[.slice none 0 0, .slice none 0 0]) 2 48 := by unfold El; kernel_rfl
instance : ElC Tryd.prog 48 (.agg #[.slice none 0 0, .slice none 0 0]) 2 48 := ⟨el_Model⟩
theorem fd_Model0 : Fld Tryd.prog 48 0 0 := by unfold Fld; kernel_rfl
instance : FdC Tryd.prog 48 0 0 := ⟨fd_Model0⟩
theorem fd_Model1 : Fld Tryd.prog 48 1 1 := by unfold Fld; kernel_rfl
instance : FdC Tryd.prog 48 1 1 := ⟨fd_Model1⟩
theorem bls_Model : Bls Tryd.prog 48 [.slice none 0 0, .slice none 0 0] [(0, 1), (1, 1)] := by unfold Bls; kernel_rfl
instance : BlsC Tryd.prog 48 [.slice none 0 0, .slice none 0 0] [(0, 1), (1, 1)] := ⟨bls_Model⟩
theorem bl_Model : Bl2 Tryd.prog 48 := by unfold Bl2; kernel_rfl
instance : BlC Tryd.prog 48 := ⟨bl_Model⟩
theorem el_table : El Tryd.prog 76 (.agg #[.slice none 0 0, .slice none 0 0, .slice none 0 0, .int .i64 0, .slice none 0 0]) 5 104 := by unfold El; kernel_rfl
instance : ElC Tryd.prog 76 (.agg #[.slice none 0 0, .slice none 0 0, .slice none 0 0, .int .i64 0, .slice none 0 0]) 5 104 := ⟨el_table⟩
theorem fd_table0 : Fld Tryd.prog 76 0 0 := by unfold Fld; kernel_rfl
instance : FdC Tryd.prog 76 0 0 := ⟨fd_table0⟩
theorem fd_table1 : Fld Tryd.prog 76 1 1 := by unfold Fld; kernel_rfl
instance : FdC Tryd.prog 76 1 1 := ⟨fd_table1⟩
theorem fd_table2 : Fld Tryd.prog 76 2 2 := by unfold Fld; kernel_rfl
instance : FdC Tryd.prog 76 2 2 := ⟨fd_table2⟩
theorem fd_table3 : Fld Tryd.prog 76 3 3 := by unfold Fld; kernel_rfl
instance : FdC Tryd.prog 76 3 3 := ⟨fd_table3⟩
theorem fd_table4 : Fld Tryd.prog 76 4 4 := by unfold Fld; kernel_rfl
instance : FdC Tryd.prog 76 4 4 := ⟨fd_table4⟩
theorem bls_table : Bls Tryd.prog 76 [.slice none 0 0, .slice none 0 0, .slice none 0 0, .int .i64 0, .slice none 0 0] [(0, 1), (1, 1), (2, 1), (3, 1), (4, 1)] := by unfold Bls; kernel_rfl
instance : BlsC Tryd.prog 76 [.slice none 0 0, .slice none 0 0, .slice none 0 0, .int .i64 0, .slice none 0 0] [(0, 1), (1, 1), (2, 1), (3, 1), (4, 1)] := ⟨bls_table⟩
theorem eq2_Op : Eq2 Tryd.prog 68 := ⟨by kernel_rfl, fun a b c d w => by
  have u3 := Tryd.underlying3
  rw [show (10000 : Nat) = 9999 + 1 from rfl, run_equalIn_agg w 9999 68 _ _ (by kernel_rfl) (by kernel_rfl)]
  simp only [Program.fieldsOf, Tryd.underlying68]
  go_simp
  by_cases h1 : a = c <;> by_cases h2 : b = d <;> simp [h1, h2]⟩
instance : EqC Tryd.prog 68 := ⟨eq2_Op⟩
theorem nif_Errno : NotIf Tryd.prog 25 := ⟨_, Tryd.underlying25, fun _ h => by cases h⟩
instance : NifC Tryd.prog 25 := ⟨nif_Errno⟩
theorem mixed : Tryd.prog.follows .mixedOrders = true := by kernel_rfl
/-- The table of polish. -/
def partsT : List D := [-1, 0, 0, 2, 2, 2, 2, 2, 2, 2, 1, 0, 0, 0, 1, 2, 2, 1, 1].map fun n => D.i .i64 n
def GP : List (Nat × List D) := [(0, partsT)]
theorem GP_mem : (0, partsT) ∈ GP := by simp [GP]
end Go.Proofs.YtacdheachjnejaaDoor
