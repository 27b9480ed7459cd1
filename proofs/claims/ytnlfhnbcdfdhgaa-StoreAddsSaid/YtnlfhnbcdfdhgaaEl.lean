/- What this translation says of its types. -/
import Derived.Test.YtnlfhnbcdfdhgaaS1
import Derived.Test.YtnlfhnbcdfdhgaaE4
import Derived.Test.YtnlfhnbcdfdhgaaProg
namespace Go.Proofs.Ytnlfhnbcdfdhgaa
open Go Go.Av
set_option linter.unusedVariables false
set_option linter.unusedSimpArgs false
set_option maxRecDepth 100000
set_option maxHeartbeats 4000000
class ElC (P : Program) (t : TypeId) (z : outParam Value) (s b : outParam Nat) : Prop where h : El P t z s b
class FdC (P : Program) (t f : Nat) (o : outParam Nat) : Prop where h : Fld P t f o
class BlC (P : Program) (t : TypeId) : Prop where h : Bl2 P t
class BlsC (P : Program) (t : TypeId) (zs : outParam (List Value)) (pl : outParam (List (Nat × Nat))) : Prop where h : Bls P t zs pl
class EqC (P : Program) (t : TypeId) : Prop where h : Eq2 P t
class NifC (P : Program) (t : TypeId) : Prop where h : NotIf P t
theorem el_int : El Try.prog 3 (.int .i64 0) 1 8 := by unfold El; kernel_rfl
instance : ElC Try.prog 3 (.int .i64 0) 1 8 := ⟨el_int⟩
theorem el_bool : El Try.prog 4 (.bool false) 1 1 := by unfold El; kernel_rfl
instance : ElC Try.prog 4 (.bool false) 1 1 := ⟨el_bool⟩
theorem el_byte : El Try.prog 5 (.int .u8 0) 1 1 := by unfold El; kernel_rfl
instance : ElC Try.prog 5 (.int .u8 0) 1 1 := ⟨el_byte⟩
theorem el_string : El Try.prog 9 (.string ByteArray.empty) 1 16 := by unfold El; kernel_rfl
instance : ElC Try.prog 9 (.string ByteArray.empty) 1 16 := ⟨el_string⟩
theorem el_Errno : El Try.prog 27 (.int .i64 0) 1 8 := by unfold El; kernel_rfl
instance : ElC Try.prog 27 (.int .i64 0) 1 8 := ⟨el_Errno⟩
theorem el_ints : El Try.prog 22 (.slice none 0 0) 1 24 := by unfold El; kernel_rfl
instance : ElC Try.prog 22 (.slice none 0 0) 1 24 := ⟨el_ints⟩
theorem el_lists : El Try.prog 23 (.slice none 0 0) 1 24 := by unfold El; kernel_rfl
instance : ElC Try.prog 23 (.slice none 0 0) 1 24 := ⟨el_lists⟩
theorem el_Store : El Try.prog 25 (.agg #[.slice none 0 0, .slice none 0 0]) 2 48 := by unfold El; kernel_rfl
instance : ElC Try.prog 25 (.agg #[.slice none 0 0, .slice none 0 0]) 2 48 := ⟨el_Store⟩
theorem fd_Store0 : Fld Try.prog 25 0 0 := by unfold Fld; kernel_rfl
instance : FdC Try.prog 25 0 0 := ⟨fd_Store0⟩
theorem fd_Store1 : Fld Try.prog 25 1 1 := by unfold Fld; kernel_rfl
instance : FdC Try.prog 25 1 1 := ⟨fd_Store1⟩
theorem bls_Store : Bls Try.prog 25 [.slice none 0 0, .slice none 0 0] [(0, 1), (1, 1)] := by unfold Bls; kernel_rfl
instance : BlsC Try.prog 25 [.slice none 0 0, .slice none 0 0] [(0, 1), (1, 1)] := ⟨bls_Store⟩
theorem bl_Store : Bl2 Try.prog 25 := by unfold Bl2; kernel_rfl
instance : BlC Try.prog 25 := ⟨bl_Store⟩
theorem nif_Errno : NotIf Try.prog 27 := ⟨_, Try.underlying27, fun _ h => by cases h⟩
instance : NifC Try.prog 27 := ⟨nif_Errno⟩
theorem mixed : Try.prog.follows .mixedOrders = true := by kernel_rfl
def GP : List (Nat × List D) := []
end Go.Proofs.Ytnlfhnbcdfdhgaa
