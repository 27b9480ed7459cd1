/- What this translation says of its types. -/
import Derived.Test.YtacdheachjnejaaS1
import Derived.Test.YtacdheachjnejaaE4
import Derived.Test.YtacdheachjnejaaProg
namespace Go.Proofs.Ytacdheachjnejaa
open Go Go.Av
set_option linter.unusedVariables false
set_option linter.unusedSimpArgs false
set_option maxRecDepth 100000
set_option maxHeartbeats 4000000
class ElC (P : Program) (t : TypeId) (z : outParam Value) (s b : outParam Nat) : Prop where h : El P t z s b
class FdC (P : Program) (t f : Nat) (o : outParam Nat) : Prop where h : Fld P t f o
class BlC (P : Program) (t : TypeId) : Prop where h : Bl2 P t
class BlsC (P : Program) (t : TypeId) (zs : outParam (List Value)) (pl : outParam (List (Nat × Nat))) : Prop where h : Bls P t zs pl
class EqC (P : Program) (t : TypeId) : Prop where h : Eq2 P t
class NifC (P : Program) (t : TypeId) : Prop where h : NotIf P t
theorem el_int : El Try.prog 3 (.int .i64 0) 1 8 := by unfold El; kernel_rfl
instance : ElC Try.prog 3 (.int .i64 0) 1 8 := ⟨el_int⟩
theorem el_bool : El Try.prog 4 (.bool false) 1 1 := by unfold El; kernel_rfl
instance : ElC Try.prog 4 (.bool false) 1 1 := ⟨el_bool⟩
theorem el_byte : El Try.prog 5 (.int .u8 0) 1 1 := by unfold El; kernel_rfl
instance : ElC Try.prog 5 (.int .u8 0) 1 1 := ⟨el_byte⟩
theorem el_string : El Try.prog 9 (.string ByteArray.empty) 1 16 := by unfold El; kernel_rfl
instance : ElC Try.prog 9 (.string ByteArray.empty) 1 16 := ⟨el_string⟩
theorem el_Errno : El Try.prog 22 (.int .i64 0) 1 8 := by unfold El; kernel_rfl
instance : ElC Try.prog 22 (.int .i64 0) 1 8 := ⟨el_Errno⟩
theorem el_ints : El Try.prog 24 (.slice none 0 0) 1 24 := by unfold El; kernel_rfl
instance : ElC Try.prog 24 (.slice none 0 0) 1 24 := ⟨el_ints⟩
theorem el_bools : El Try.prog 49 (.slice none 0 0) 1 24 := by unfold El; kernel_rfl
instance : ElC Try.prog 49 (.slice none 0 0) 1 24 := ⟨el_bools⟩
theorem el_lists : El Try.prog 28 (.slice none 0 0) 1 24 := by unfold El; kernel_rfl
instance : ElC Try.prog 28 (.slice none 0 0) 1 24 := ⟨el_lists⟩
theorem el_spots : El Try.prog 27 (.slice none 0 0) 1 24 := by unfold El; kernel_rfl
instance : ElC Try.prog 27 (.slice none 0 0) 1 24 := ⟨el_spots⟩
theorem el_frames : El Try.prog 58 (.slice none 0 0) 1 24 := by unfold El; kernel_rfl
instance : ElC Try.prog 58 (.slice none 0 0) 1 24 := ⟨el_frames⟩
theorem el_Spot : El Try.prog 65 (.agg #[.int .i64 0, .int .i64 0]) 2 16 := by unfold El; kernel_rfl
instance : ElC Try.prog 65 (.agg #[.int .i64 0, .int .i64 0]) 2 16 := ⟨el_Spot⟩
theorem fd_Spot0 : Fld Try.prog 65 0 0 := by unfold Fld; kernel_rfl
instance : FdC Try.prog 65 0 0 := ⟨fd_Spot0⟩
theorem fd_Spot1 : Fld Try.prog 65 1 1 := by unfold Fld; kernel_rfl
instance : FdC Try.prog 65 1 1 := ⟨fd_Spot1⟩
theorem bls_Spot : Bls Try.prog 65 [.int .i64 0, .int .i64 0] [(0, 1), (1, 1)] := by unfold Bls; kernel_rfl
instance : BlsC Try.prog 65 [.int .i64 0, .int .i64 0] [(0, 1), (1, 1)] := ⟨bls_Spot⟩
theorem bl_Spot : Bl2 Try.prog 65 := by unfold Bl2; kernel_rfl
instance : BlC Try.prog 65 := ⟨bl_Spot⟩
theorem el_Graph : El Try.prog 30 (.agg #[.slice none 0 0, .int .i64 0, .slice none 0 0, .slice none 0 0, .int .i64 0]) 5 88 := by unfold El; kernel_rfl
instance : ElC Try.prog 30 (.agg #[.slice none 0 0, .int .i64 0, .slice none 0 0, .slice none 0 0, .int .i64 0]) 5 88 := ⟨el_Graph⟩
theorem fd_Graph0 : Fld Try.prog 30 0 0 := by unfold Fld; kernel_rfl
instance : FdC Try.prog 30 0 0 := ⟨fd_Graph0⟩
theorem fd_Graph1 : Fld Try.prog 30 1 1 := by unfold Fld; kernel_rfl
instance : FdC Try.prog 30 1 1 := ⟨fd_Graph1⟩
theorem fd_Graph2 : Fld Try.prog 30 2 2 := by unfold Fld; kernel_rfl
instance : FdC Try.prog 30 2 2 := ⟨fd_Graph2⟩
theorem fd_Graph3 : Fld Try.prog 30 3 3 := by unfold Fld; kernel_rfl
instance : FdC Try.prog 30 3 3 := ⟨fd_Graph3⟩
theorem fd_Graph4 : Fld Try.prog 30 4 4 := by unfold Fld; kernel_rfl
instance : FdC Try.prog 30 4 4 := ⟨fd_Graph4⟩
theorem bls_Graph : Bls Try.prog 30 [.slice none 0 0, .int .i64 0, .slice none 0 0, .slice none 0 0, .int .i64 0] [(0, 1), (1, 1), (2, 1), (3, 1), (4, 1)] := by unfold Bls; kernel_rfl
instance : BlsC Try.prog 30 [.slice none 0 0, .int .i64 0, .slice none 0 0, .slice none 0 0, .int .i64 0] [(0, 1), (1, 1), (2, 1), (3, 1), (4, 1)] := ⟨bls_Graph⟩
theorem el_search : El Try.prog 60 (.agg #[.slice none 0 0, .int .i64 0, .slice none 0 0, .slice none 0 0, .int .i64 0, .slice none 0 0, .slice none 0 0, .slice none 0 0, .slice none 0 0, .slice none 0 0, .int .i64 0]) 11 216 := by unfold El; kernel_rfl
instance : ElC Try.prog 60 (.agg #[.slice none 0 0, .int .i64 0, .slice none 0 0, .slice none 0 0, .int .i64 0, .slice none 0 0, .slice none 0 0, .slice none 0 0, .slice none 0 0, .slice none 0 0, .int .i64 0]) 11 216 := ⟨el_search⟩
theorem fd_search0 : Fld Try.prog 60 0 0 := by unfold Fld; kernel_rfl
instance : FdC Try.prog 60 0 0 := ⟨fd_search0⟩
theorem fd_search1 : Fld Try.prog 60 1 5 := by unfold Fld; kernel_rfl
instance : FdC Try.prog 60 1 5 := ⟨fd_search1⟩
theorem fd_search2 : Fld Try.prog 60 2 6 := by unfold Fld; kernel_rfl
instance : FdC Try.prog 60 2 6 := ⟨fd_search2⟩
theorem fd_search3 : Fld Try.prog 60 3 7 := by unfold Fld; kernel_rfl
instance : FdC Try.prog 60 3 7 := ⟨fd_search3⟩
theorem fd_search4 : Fld Try.prog 60 4 8 := by unfold Fld; kernel_rfl
instance : FdC Try.prog 60 4 8 := ⟨fd_search4⟩
theorem fd_search5 : Fld Try.prog 60 5 9 := by unfold Fld; kernel_rfl
instance : FdC Try.prog 60 5 9 := ⟨fd_search5⟩
theorem fd_search6 : Fld Try.prog 60 6 10 := by unfold Fld; kernel_rfl
instance : FdC Try.prog 60 6 10 := ⟨fd_search6⟩
theorem bls_search : Bls Try.prog 60 [.slice none 0 0, .int .i64 0, .slice none 0 0, .slice none 0 0, .int .i64 0, .slice none 0 0, .slice none 0 0, .slice none 0 0, .slice none 0 0, .slice none 0 0, .int .i64 0] [(0, 5), (5, 1), (6, 1), (7, 1), (8, 1), (9, 1), (10, 1)] := by unfold Bls; kernel_rfl
instance : BlsC Try.prog 60 [.slice none 0 0, .int .i64 0, .slice none 0 0, .slice none 0 0, .int .i64 0, .slice none 0 0, .slice none 0 0, .slice none 0 0, .slice none 0 0, .slice none 0 0, .int .i64 0] [(0, 5), (5, 1), (6, 1), (7, 1), (8, 1), (9, 1), (10, 1)] := ⟨bls_search⟩
theorem el_frame : El Try.prog 67 (.agg #[.int .i64 0, .int .i64 0]) 2 16 := by unfold El; kernel_rfl
instance : ElC Try.prog 67 (.agg #[.int .i64 0, .int .i64 0]) 2 16 := ⟨el_frame⟩
theorem fd_frame0 : Fld Try.prog 67 0 0 := by unfold Fld; kernel_rfl
instance : FdC Try.prog 67 0 0 := ⟨fd_frame0⟩
theorem fd_frame1 : Fld Try.prog 67 1 1 := by unfold Fld; kernel_rfl
instance : FdC Try.prog 67 1 1 := ⟨fd_frame1⟩
theorem bls_frame : Bls Try.prog 67 [.int .i64 0, .int .i64 0] [(0, 1), (1, 1)] := by unfold Bls; kernel_rfl
instance : BlsC Try.prog 67 [.int .i64 0, .int .i64 0] [(0, 1), (1, 1)] := ⟨bls_frame⟩
theorem bl_frame : Bl2 Try.prog 67 := by unfold Bl2; kernel_rfl
instance : BlC Try.prog 67 := ⟨bl_frame⟩
theorem el_Lasso : El Try.prog 33 (.agg #[.slice none 0 0, .slice none 0 0]) 2 48 := by unfold El; kernel_rfl
instance : ElC Try.prog 33 (.agg #[.slice none 0 0, .slice none 0 0]) 2 48 := ⟨el_Lasso⟩
theorem fd_Lasso0 : Fld Try.prog 33 0 0 := by unfold Fld; kernel_rfl
instance : FdC Try.prog 33 0 0 := ⟨fd_Lasso0⟩
theorem fd_Lasso1 : Fld Try.prog 33 1 1 := by unfold Fld; kernel_rfl
instance : FdC Try.prog 33 1 1 := ⟨fd_Lasso1⟩
theorem bls_Lasso : Bls Try.prog 33 [.slice none 0 0, .slice none 0 0] [(0, 1), (1, 1)] := by unfold Bls; kernel_rfl
instance : BlsC Try.prog 33 [.slice none 0 0, .slice none 0 0] [(0, 1), (1, 1)] := ⟨bls_Lasso⟩
theorem bl_Lasso : Bl2 Try.prog 33 := by unfold Bl2; kernel_rfl
instance : BlC Try.prog 33 := ⟨bl_Lasso⟩
theorem el_guide : El Try.prog 46 (.agg #[.slice none 0 0, .int .i64 0, .slice none 0 0, .slice none 0 0, .int .i64 0]) 5 88 := by unfold El; kernel_rfl
instance : ElC Try.prog 46 (.agg #[.slice none 0 0, .int .i64 0, .slice none 0 0, .slice none 0 0, .int .i64 0]) 5 88 := ⟨el_guide⟩
theorem fd_guide0 : Fld Try.prog 46 0 0 := by unfold Fld; kernel_rfl
instance : FdC Try.prog 46 0 0 := ⟨fd_guide0⟩
theorem bls_guide : Bls Try.prog 46 [.slice none 0 0, .int .i64 0, .slice none 0 0, .slice none 0 0, .int .i64 0] [(0, 5)] := by unfold Bls; kernel_rfl
instance : BlsC Try.prog 46 [.slice none 0 0, .int .i64 0, .slice none 0 0, .slice none 0 0, .int .i64 0] [(0, 5)] := ⟨bls_guide⟩
theorem eq2_Spot : Eq2 Try.prog 65 := ⟨by kernel_rfl, fun a b c d w => by
  have u3 := Try.underlying3
  rw [show (10000 : Nat) = 9999 + 1 from rfl, run_equalIn_agg w 9999 65 _ _ (by kernel_rfl) (by kernel_rfl)]
  simp only [Program.fieldsOf, Try.underlying65]
  go_simp
  by_cases h1 : a = c <;> by_cases h2 : b = d <;> simp [h1, h2]⟩
instance : EqC Try.prog 65 := ⟨eq2_Spot⟩
theorem nif_Errno : NotIf Try.prog 22 := ⟨_, Try.underlying22, fun _ h => by cases h⟩
instance : NifC Try.prog 22 := ⟨nif_Errno⟩
theorem mixed : Try.prog.follows .mixedOrders = true := by kernel_rfl
def GP : List (Nat × List D) := []
end Go.Proofs.Ytacdheachjnejaa
