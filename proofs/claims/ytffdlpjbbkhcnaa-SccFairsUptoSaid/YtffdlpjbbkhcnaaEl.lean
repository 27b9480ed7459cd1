/- What this translation says of its types. -/
import Derived.Test.YtffdlpjbbkhcnaaS1
import Derived.Test.YtffdlpjbbkhcnaaE4
import Derived.Test.YtffdlpjbbkhcnaaProg
namespace Go.Proofs.Ytffdlpjbbkhcnaa
open Go Go.Av
set_option linter.unusedVariables false
set_option linter.unusedSimpArgs false
set_option maxRecDepth 100000
set_option maxHeartbeats 4000000
class ElC (P : Program) (t : TypeId) (z : outParam Value) (s b : outParam Nat) : Prop where h : El P t z s b
class FdC (P : Program) (t f : Nat) (o : outParam Nat) : Prop where h : Fld P t f o
class BlC (P : Program) (t : TypeId) : Prop where h : Bl2 P t
class BlsC (P : Program) (t : TypeId) (zs : outParam (List Value)) (pl : outParam (List (Nat × Nat))) : Prop where h : Bls P t zs pl
class EqC (P : Program) (t : TypeId) : Prop where h : Eq2 P t
class NifC (P : Program) (t : TypeId) : Prop where h : NotIf P t
theorem el_int : El Try.prog 3 (.int .i64 0) 1 8 := by unfold El; kernel_rfl
instance : ElC Try.prog 3 (.int .i64 0) 1 8 := ⟨el_int⟩
theorem el_bool : El Try.prog 4 (.bool false) 1 1 := by unfold El; kernel_rfl
instance : ElC Try.prog 4 (.bool false) 1 1 := ⟨el_bool⟩
theorem el_byte : El Try.prog 5 (.int .u8 0) 1 1 := by unfold El; kernel_rfl
instance : ElC Try.prog 5 (.int .u8 0) 1 1 := ⟨el_byte⟩
theorem el_string : El Try.prog 9 (.string ByteArray.empty) 1 16 := by unfold El; kernel_rfl
instance : ElC Try.prog 9 (.string ByteArray.empty) 1 16 := ⟨el_string⟩
theorem el_Errno : El Try.prog 29 (.int .i64 0) 1 8 := by unfold El; kernel_rfl
instance : ElC Try.prog 29 (.int .i64 0) 1 8 := ⟨el_Errno⟩
theorem el_ints : El Try.prog 36 (.slice none 0 0) 1 24 := by unfold El; kernel_rfl
instance : ElC Try.prog 36 (.slice none 0 0) 1 24 := ⟨el_ints⟩
theorem el_bools : El Try.prog 54 (.slice none 0 0) 1 24 := by unfold El; kernel_rfl
instance : ElC Try.prog 54 (.slice none 0 0) 1 24 := ⟨el_bools⟩
theorem el_bytes : El Try.prog 22 (.slice none 0 0) 1 24 := by unfold El; kernel_rfl
instance : ElC Try.prog 22 (.slice none 0 0) 1 24 := ⟨el_bytes⟩
theorem el_lists : El Try.prog 40 (.slice none 0 0) 1 24 := by unfold El; kernel_rfl
instance : ElC Try.prog 40 (.slice none 0 0) 1 24 := ⟨el_lists⟩
theorem el_moves : El Try.prog 44 (.slice none 0 0) 1 24 := by unfold El; kernel_rfl
instance : ElC Try.prog 44 (.slice none 0 0) 1 24 := ⟨el_moves⟩
theorem el_spots : El Try.prog 48 (.slice none 0 0) 1 24 := by unfold El; kernel_rfl
instance : ElC Try.prog 48 (.slice none 0 0) 1 24 := ⟨el_spots⟩
theorem el_letters : El Try.prog 64 (.slice none 0 0) 1 24 := by unfold El; kernel_rfl
instance : ElC Try.prog 64 (.slice none 0 0) 1 24 := ⟨el_letters⟩
theorem el_frames : El Try.prog 86 (.slice none 0 0) 1 24 := by unfold El; kernel_rfl
instance : ElC Try.prog 86 (.slice none 0 0) 1 24 := ⟨el_frames⟩
theorem el_Tape : El Try.prog 27 (.agg #[.slice none 0 0, .int .i64 0]) 2 32 := by unfold El; kernel_rfl
instance : ElC Try.prog 27 (.agg #[.slice none 0 0, .int .i64 0]) 2 32 := ⟨el_Tape⟩
theorem fd_Tape0 : Fld Try.prog 27 0 0 := by unfold Fld; kernel_rfl
instance : FdC Try.prog 27 0 0 := ⟨fd_Tape0⟩
theorem fd_Tape1 : Fld Try.prog 27 1 1 := by unfold Fld; kernel_rfl
instance : FdC Try.prog 27 1 1 := ⟨fd_Tape1⟩
theorem bls_Tape : Bls Try.prog 27 [.slice none 0 0, .int .i64 0] [(0, 1), (1, 1)] := by unfold Bls; kernel_rfl
instance : BlsC Try.prog 27 [.slice none 0 0, .int .i64 0] [(0, 1), (1, 1)] := ⟨bls_Tape⟩
theorem bl_Tape : Bl2 Try.prog 27 := by unfold Bl2; kernel_rfl
instance : BlC Try.prog 27 := ⟨bl_Tape⟩
theorem el_Move : El Try.prog 80 (.agg #[.int .i64 0, .int .i64 0]) 2 16 := by unfold El; kernel_rfl
instance : ElC Try.prog 80 (.agg #[.int .i64 0, .int .i64 0]) 2 16 := ⟨el_Move⟩
theorem fd_Move0 : Fld Try.prog 80 0 0 := by unfold Fld; kernel_rfl
instance : FdC Try.prog 80 0 0 := ⟨fd_Move0⟩
theorem fd_Move1 : Fld Try.prog 80 1 1 := by unfold Fld; kernel_rfl
instance : FdC Try.prog 80 1 1 := ⟨fd_Move1⟩
theorem bls_Move : Bls Try.prog 80 [.int .i64 0, .int .i64 0] [(0, 1), (1, 1)] := by unfold Bls; kernel_rfl
instance : BlsC Try.prog 80 [.int .i64 0, .int .i64 0] [(0, 1), (1, 1)] := ⟨bls_Move⟩
theorem bl_Move : Bl2 Try.prog 80 := by unfold Bl2; kernel_rfl
instance : BlC Try.prog 80 := ⟨bl_Move⟩
theorem el_Spot : El Try.prog 99 (.agg #[.int .i64 0, .int .i64 0]) 2 16 := by unfold El; kernel_rfl
instance : ElC Try.prog 99 (.agg #[.int .i64 0, .int .i64 0]) 2 16 := ⟨el_Spot⟩
theorem fd_Spot0 : Fld Try.prog 99 0 0 := by unfold Fld; kernel_rfl
instance : FdC Try.prog 99 0 0 := ⟨fd_Spot0⟩
theorem fd_Spot1 : Fld Try.prog 99 1 1 := by unfold Fld; kernel_rfl
instance : FdC Try.prog 99 1 1 := ⟨fd_Spot1⟩
theorem bls_Spot : Bls Try.prog 99 [.int .i64 0, .int .i64 0] [(0, 1), (1, 1)] := by unfold Bls; kernel_rfl
instance : BlsC Try.prog 99 [.int .i64 0, .int .i64 0] [(0, 1), (1, 1)] := ⟨bls_Spot⟩
theorem bl_Spot : Bl2 Try.prog 99 := by unfold Bl2; kernel_rfl
instance : BlC Try.prog 99 := ⟨bl_Spot⟩
theorem el_Graph : El Try.prog 50 (.agg #[.slice none 0 0, .int .i64 0, .slice none 0 0, .slice none 0 0, .int .i64 0]) 5 88 := by unfold El; kernel_rfl
instance : ElC Try.prog 50 (.agg #[.slice none 0 0, .int .i64 0, .slice none 0 0, .slice none 0 0, .int .i64 0]) 5 88 := ⟨el_Graph⟩
theorem fd_Graph0 : Fld Try.prog 50 0 0 := by unfold Fld; kernel_rfl
instance : FdC Try.prog 50 0 0 := ⟨fd_Graph0⟩
theorem fd_Graph1 : Fld Try.prog 50 1 1 := by unfold Fld; kernel_rfl
instance : FdC Try.prog 50 1 1 := ⟨fd_Graph1⟩
theorem fd_Graph2 : Fld Try.prog 50 2 2 := by unfold Fld; kernel_rfl
instance : FdC Try.prog 50 2 2 := ⟨fd_Graph2⟩
theorem fd_Graph3 : Fld Try.prog 50 3 3 := by unfold Fld; kernel_rfl
instance : FdC Try.prog 50 3 3 := ⟨fd_Graph3⟩
theorem fd_Graph4 : Fld Try.prog 50 4 4 := by unfold Fld; kernel_rfl
instance : FdC Try.prog 50 4 4 := ⟨fd_Graph4⟩
theorem bls_Graph : Bls Try.prog 50 [.slice none 0 0, .int .i64 0, .slice none 0 0, .slice none 0 0, .int .i64 0] [(0, 1), (1, 1), (2, 1), (3, 1), (4, 1)] := by unfold Bls; kernel_rfl
instance : BlsC Try.prog 50 [.slice none 0 0, .int .i64 0, .slice none 0 0, .slice none 0 0, .int .i64 0] [(0, 1), (1, 1), (2, 1), (3, 1), (4, 1)] := ⟨bls_Graph⟩
theorem el_Word : El Try.prog 66 (.agg #[.slice none 0 0, .slice none 0 0]) 2 48 := by unfold El; kernel_rfl
instance : ElC Try.prog 66 (.agg #[.slice none 0 0, .slice none 0 0]) 2 48 := ⟨el_Word⟩
theorem fd_Word0 : Fld Try.prog 66 0 0 := by unfold Fld; kernel_rfl
instance : FdC Try.prog 66 0 0 := ⟨fd_Word0⟩
theorem fd_Word1 : Fld Try.prog 66 1 1 := by unfold Fld; kernel_rfl
instance : FdC Try.prog 66 1 1 := ⟨fd_Word1⟩
theorem bls_Word : Bls Try.prog 66 [.slice none 0 0, .slice none 0 0] [(0, 1), (1, 1)] := by unfold Bls; kernel_rfl
instance : BlsC Try.prog 66 [.slice none 0 0, .slice none 0 0] [(0, 1), (1, 1)] := ⟨bls_Word⟩
theorem bl_Word : Bl2 Try.prog 66 := by unfold Bl2; kernel_rfl
instance : BlC Try.prog 66 := ⟨bl_Word⟩
theorem el_search : El Try.prog 88 (.agg #[.slice none 0 0, .int .i64 0, .slice none 0 0, .slice none 0 0, .int .i64 0, .slice none 0 0, .slice none 0 0, .slice none 0 0, .slice none 0 0, .slice none 0 0, .int .i64 0]) 11 216 := by unfold El; kernel_rfl
instance : ElC Try.prog 88 (.agg #[.slice none 0 0, .int .i64 0, .slice none 0 0, .slice none 0 0, .int .i64 0, .slice none 0 0, .slice none 0 0, .slice none 0 0, .slice none 0 0, .slice none 0 0, .int .i64 0]) 11 216 := ⟨el_search⟩
theorem fd_search0 : Fld Try.prog 88 0 0 := by unfold Fld; kernel_rfl
instance : FdC Try.prog 88 0 0 := ⟨fd_search0⟩
theorem fd_search1 : Fld Try.prog 88 1 5 := by unfold Fld; kernel_rfl
instance : FdC Try.prog 88 1 5 := ⟨fd_search1⟩
theorem fd_search2 : Fld Try.prog 88 2 6 := by unfold Fld; kernel_rfl
instance : FdC Try.prog 88 2 6 := ⟨fd_search2⟩
theorem fd_search3 : Fld Try.prog 88 3 7 := by unfold Fld; kernel_rfl
instance : FdC Try.prog 88 3 7 := ⟨fd_search3⟩
theorem fd_search4 : Fld Try.prog 88 4 8 := by unfold Fld; kernel_rfl
instance : FdC Try.prog 88 4 8 := ⟨fd_search4⟩
theorem fd_search5 : Fld Try.prog 88 5 9 := by unfold Fld; kernel_rfl
instance : FdC Try.prog 88 5 9 := ⟨fd_search5⟩
theorem fd_search6 : Fld Try.prog 88 6 10 := by unfold Fld; kernel_rfl
instance : FdC Try.prog 88 6 10 := ⟨fd_search6⟩
theorem bls_search : Bls Try.prog 88 [.slice none 0 0, .int .i64 0, .slice none 0 0, .slice none 0 0, .int .i64 0, .slice none 0 0, .slice none 0 0, .slice none 0 0, .slice none 0 0, .slice none 0 0, .int .i64 0] [(0, 5), (5, 1), (6, 1), (7, 1), (8, 1), (9, 1), (10, 1)] := by unfold Bls; kernel_rfl
instance : BlsC Try.prog 88 [.slice none 0 0, .int .i64 0, .slice none 0 0, .slice none 0 0, .int .i64 0, .slice none 0 0, .slice none 0 0, .slice none 0 0, .slice none 0 0, .slice none 0 0, .int .i64 0] [(0, 5), (5, 1), (6, 1), (7, 1), (8, 1), (9, 1), (10, 1)] := ⟨bls_search⟩
theorem el_frame : El Try.prog 96 (.agg #[.int .i64 0, .int .i64 0]) 2 16 := by unfold El; kernel_rfl
instance : ElC Try.prog 96 (.agg #[.int .i64 0, .int .i64 0]) 2 16 := ⟨el_frame⟩
theorem fd_frame0 : Fld Try.prog 96 0 0 := by unfold Fld; kernel_rfl
instance : FdC Try.prog 96 0 0 := ⟨fd_frame0⟩
theorem fd_frame1 : Fld Try.prog 96 1 1 := by unfold Fld; kernel_rfl
instance : FdC Try.prog 96 1 1 := ⟨fd_frame1⟩
theorem bls_frame : Bls Try.prog 96 [.int .i64 0, .int .i64 0] [(0, 1), (1, 1)] := by unfold Bls; kernel_rfl
instance : BlsC Try.prog 96 [.int .i64 0, .int .i64 0] [(0, 1), (1, 1)] := ⟨bls_frame⟩
theorem bl_frame : Bl2 Try.prog 96 := by unfold Bl2; kernel_rfl
instance : BlC Try.prog 96 := ⟨bl_frame⟩
theorem eq2_Spot : Eq2 Try.prog 99 := ⟨by kernel_rfl, fun a b c d w => by
  have u3 := Try.underlying3
  rw [show (10000 : Nat) = 9999 + 1 from rfl, run_equalIn_agg w 9999 99 _ _ (by kernel_rfl) (by kernel_rfl)]
  simp only [Program.fieldsOf, Try.underlying99]
  go_simp
  by_cases h1 : a = c <;> by_cases h2 : b = d <;> simp [h1, h2]⟩
instance : EqC Try.prog 99 := ⟨eq2_Spot⟩
theorem eq2_Move : Eq2 Try.prog 80 := ⟨by kernel_rfl, fun a b c d w => by
  have u3 := Try.underlying3
  rw [show (10000 : Nat) = 9999 + 1 from rfl, run_equalIn_agg w 9999 80 _ _ (by kernel_rfl) (by kernel_rfl)]
  simp only [Program.fieldsOf, Try.underlying80]
  go_simp
  by_cases h1 : a = c <;> by_cases h2 : b = d <;> simp [h1, h2]⟩
instance : EqC Try.prog 80 := ⟨eq2_Move⟩
theorem nif_Errno : NotIf Try.prog 29 := ⟨_, Try.underlying29, fun _ h => by cases h⟩
instance : NifC Try.prog 29 := ⟨nif_Errno⟩
theorem mixed : Try.prog.follows .mixedOrders = true := by kernel_rfl
def GP : List (Nat × List D) := []
end Go.Proofs.Ytffdlpjbbkhcnaa
