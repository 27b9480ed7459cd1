/- A bundle of this claim's own texts: El St T0 E8 Q3 O1 E13. -/
import Derived.Test.YtcikppldaepodaaProg
import Derived.Laws.Cover3
import Derived.Lib.AppendZerosOnto
import Derived.Lib.SliceRun
import Derived.Test.YtcikppldaepodaaZ1
namespace Go.Proofs.Ytcikppldaepodaa
open Go Go.Av
set_option linter.unusedVariables false
set_option linter.unusedSimpArgs false
set_option maxRecDepth 100000
set_option maxHeartbeats 4000000
class ElC (P : Program) (t : TypeId) (z : outParam Value) (s b : outParam Nat) : Prop where h : El P t z s b
class FdC (P : Program) (t f : Nat) (o : outParam Nat) : Prop where h : Fld P t f o
class BlC (P : Program) (t : TypeId) : Prop where h : Bl2 P t
class BlsC (P : Program) (t : TypeId) (zs : outParam (List Value)) (pl : outParam (List (Nat × Nat))) : Prop where h : Bls P t zs pl
class EqC (P : Program) (t : TypeId) : Prop where h : Eq2 P t
class NifC (P : Program) (t : TypeId) : Prop where h : NotIf P t
theorem el_int : El Try.prog 3 (.int .i64 0) 1 8 := by unfold El; kernel_rfl
instance : ElC Try.prog 3 (.int .i64 0) 1 8 := ⟨el_int⟩
theorem el_ints : El Try.prog 24 (.slice none 0 0) 1 24 := by unfold El; kernel_rfl
instance : ElC Try.prog 24 (.slice none 0 0) 1 24 := ⟨el_ints⟩
theorem el_lists : El Try.prog 23 (.slice none 0 0) 1 24 := by unfold El; kernel_rfl
instance : ElC Try.prog 23 (.slice none 0 0) 1 24 := ⟨el_lists⟩
theorem el_Store : El Try.prog 39 (.agg #[.slice none 0 0, .slice none 0 0]) 2 48 := by unfold El; kernel_rfl
instance : ElC Try.prog 39 (.agg #[.slice none 0 0, .slice none 0 0]) 2 48 := ⟨el_Store⟩
theorem fd_Store0 : Fld Try.prog 39 0 0 := by unfold Fld; kernel_rfl
instance : FdC Try.prog 39 0 0 := ⟨fd_Store0⟩
theorem fd_Store1 : Fld Try.prog 39 1 1 := by unfold Fld; kernel_rfl
instance : FdC Try.prog 39 1 1 := ⟨fd_Store1⟩
theorem bls_Store : Bls Try.prog 39 [.slice none 0 0, .slice none 0 0] [(0, 1), (1, 1)] := by unfold Bls; kernel_rfl
instance : BlsC Try.prog 39 [.slice none 0 0, .slice none 0 0] [(0, 1), (1, 1)] := ⟨bls_Store⟩
theorem mixed : Try.prog.follows .mixedOrders = true := by kernel_rfl
def GP : List (Nat × List D) := []
end Go.Proofs.Ytcikppldaepodaa
namespace Go.Av
open Go
set_option linter.unusedVariables false
set_option linter.unusedSimpArgs false
class FlagA : Prop
class FlagH : Prop
theorem useA [FlagA] {p : Prop} (h : p) : p := h
theorem useH [FlagH] {p : Prop} (h : p) : p := h
end Go.Av
namespace Go.Proofs.Ytcikppldaepodaa
open Go Go.Av
set_option linter.unusedVariables false
set_option linter.unusedSimpArgs false
set_option maxRecDepth 100000
set_option maxHeartbeats 4000000

theorem stp {p q : Prop} (hp : p) (h : p → q := by
  repeat1' (apply cmp; (focus (first
   | ((with_reducible apply jstopn); (focus (decide +kernel)))
   | ((refine useA ?_); (first
    | ((with_reducible apply japU1); (focus rfl); (focus rfl); (focus (with_reducible exact ElC.h)); (focus (intro q_; (repeat (first | with_reducible exact Upd.here | with_reducible apply Upd.there)); done)); (focus rfl); (focus rfl); (focus rfl); (focus rfl); (focus (first | omega | (simp only [List.length_map, List.length_range, List.length_append, List.length_cons, List.length_nil, List.length_take, List.length_drop, List.length_set, List.length_replicate]; omega))); (focus (first | omega | (simp only [List.length_map, List.length_range, List.length_append, List.length_cons, List.length_nil, List.length_take, List.length_drop, List.length_set, List.length_replicate]; omega))))
    | ((with_reducible apply japU); (focus rfl); (focus rfl); (focus (with_reducible exact ElC.h)); (focus (intro q_; (repeat (first | with_reducible exact Upd.here | with_reducible apply Upd.there)); done)); (focus rfl); (focus rfl); (focus rfl); (focus rfl); (focus (first | omega | (simp only [List.length_map, List.length_range, List.length_append, List.length_cons, List.length_nil, List.length_take, List.length_drop, List.length_set, List.length_replicate]; omega))); (focus (first | omega | (simp only [List.length_map, List.length_range, List.length_append, List.length_cons, List.length_nil, List.length_take, List.length_drop, List.length_set, List.length_replicate]; omega))))
    | ((with_reducible apply jboxT); (focus rfl); (focus rfl); (focus rfl))
    | ((with_reducible apply jalloc1T); (focus (with_reducible exact ElC.h)); (focus rfl); (focus rfl))
    | ((with_reducible apply jallocN); (focus (with_reducible exact ElC.h)); (focus rfl))
    | ((with_reducible apply jmk_bool); (focus rfl); (focus rfl); (focus (with_reducible exact ElC.h)); (focus omega); (focus omega); (focus rfl))
    | ((with_reducible apply jmk_int); (focus rfl); (focus rfl); (focus (with_reducible exact ElC.h)); (focus omega); (focus omega); (focus rfl))
    | ((with_reducible apply js_um); (focus rfl); (focus ((repeat (first | with_reducible exact Upd.here | with_reducible apply Upd.there)); done)); (focus rfl); (focus rfl); (focus (with_reducible exact ElC.h)); (focus (first | omega | (simp only [List.length_map, List.length_range, List.length_append, List.length_cons, List.length_nil, List.length_take, List.length_drop, List.length_set, List.length_replicate]; omega))))
    | ((with_reducible apply js_uw); (focus rfl); (focus rfl); (focus rfl); (focus (with_reducible exact ElC.h)); (focus rfl); (focus ((repeat (first | with_reducible exact Upd.here | with_reducible apply Upd.there)); done)); (focus rfl))
    | ((with_reducible apply js_ur); (focus rfl); (focus rfl); (focus rfl); (focus (with_reducible exact ElC.h)); (focus ((repeat (first | with_reducible exact Upd.here | with_reducible apply Upd.there)); done)); (focus ((repeat (first | exact SetAR.nil | apply SetAR.put | apply SetAR.skip)); done)))
    | ((with_reducible apply js_us); (focus rfl); (focus rfl); (focus rfl); (focus (with_reducible exact ElC.h)); (focus rfl); (focus ((repeat (first | with_reducible exact Upd.here | with_reducible apply Upd.there)); done)); (focus ((repeat (first | exact SetAR.nil | apply SetAR.put | apply SetAR.skip)); done)))
    | ((with_reducible apply js_inc); (focus rfl); (focus rfl); (focus (with_reducible exact ElC.h)); (focus ((repeat (first | with_reducible exact Upd.here | with_reducible apply Upd.there)); done)); (focus exact fun _ => rfl); (focus rfl); (focus (first | omega | (simp only [List.length_map, List.length_range, List.length_append, List.length_cons, List.length_nil, List.length_take, List.length_drop, List.length_set, List.length_replicate]; omega))))
    | ((with_reducible apply js_row1); (focus rfl); (focus rfl); (focus (with_reducible exact ElC.h)); (focus rfl); (focus ((repeat (first | with_reducible exact Upd.here | with_reducible apply Upd.there)); done)); (focus rfl); (focus exact fun _ => rfl); (focus (first | omega | (simp only [List.length_map, List.length_range, List.length_append, List.length_cons, List.length_nil, List.length_take, List.length_drop, List.length_set, List.length_replicate]; omega))))
    | ((with_reducible apply js_cut); (focus rfl); (focus rfl); (focus rfl); (focus (with_reducible exact ElC.h)); (focus (intro q_; (repeat (first | with_reducible exact Upd.here | with_reducible apply Upd.there)); done)); (focus exact fun _ => rfl); (focus omega); (focus (first | omega | (simp only [List.length_map, List.length_range, List.length_append, List.length_cons, List.length_nil, List.length_take, List.length_drop, List.length_set, List.length_replicate]; omega))); (focus rfl))
    ))
   | ((refine useH ?_); (first
    | (first
     | ((with_reducible apply J_region_HA); (focus exact mixed); (focus rfl); (focus ((repeat ((with_reducible apply Hd.cons); (focus rfl))); exact Hd.nil)); (focus ((repeat (with_reducible apply len_cons)); exact len_nil)); (focus (decide +kernel)))
     | ((with_reducible apply jh_done); (focus (decide +kernel)); (focus ((repeat (with_reducible apply App.cons)); exact App.nil)))
     | ((with_reducible apply jh_pure); (focus rfl); (focus (decide +kernel)); (focus (first
             | (first
               | ((with_reducible apply pu_move); rfl)
               | ((with_reducible apply pu_assign); rfl)
               | ((with_reducible apply pure_extract); rfl; rfl)
               | ((with_reducible apply pure_lss); rfl; rfl)
               | ((with_reducible apply pure_eql); rfl; rfl)
               | ((with_reducible apply pure_neq); rfl; rfl)
               | ((with_reducible apply pure_eql_bool); rfl; rfl; rfl)
               | ((with_reducible apply pure_neq_bool); rfl; rfl; rfl)
               | ((with_reducible apply pure_geq); rfl; rfl)
               )
             | (first
               | ((with_reducible apply pure_gtr); rfl; rfl)
               | ((with_reducible apply pure_leq); rfl; rfl)
               | ((with_reducible apply pure_add); rfl; rfl; (focus (first | (unfold inI64; omega) | (unfold inI64; simp only [Int.reduceToNat, Int.reducePow]; omega) | assumption)))
               | ((with_reducible apply pure_sub); rfl; rfl; (focus (first | (unfold inI64; omega) | (unfold inI64; simp only [Int.reduceToNat, Int.reducePow]; omega) | assumption)))
               | ((with_reducible apply pure_mul); rfl; rfl; (focus (first | (unfold inI64; omega) | (unfold inI64; simp only [Int.reduceToNat, Int.reducePow]; omega) | assumption)))
               | ((with_reducible apply pure_quo); rfl; rfl; omega; omega; omega)
               | ((with_reducible apply pure_rem); rfl; rfl; omega; omega)
               | ((with_reducible apply pure_shl); rfl; rfl; omega; omega; (focus (first | (unfold inI64; omega) | (unfold inI64; simp only [Int.reduceToNat, Int.reducePow]; omega) | assumption)))
               | ((with_reducible apply pure_shr); rfl; rfl; omega; omega)
               )
             | (first
               | ((with_reducible apply pure_shl_u); rfl; rfl; omega; omega; (focus (first | (unfold inI64; omega) | (unfold inI64; simp only [Int.reduceToNat, Int.reducePow]; omega) | assumption)))
               | ((with_reducible apply pure_shr_u); rfl; rfl; omega; omega)
               | ((with_reducible apply pure_and1); rfl; rfl; omega; omega)
               | ((with_reducible apply pure_and); rfl; rfl)
               | ((with_reducible apply pure_or); rfl; rfl)
               | ((with_reducible apply pure_neg); rfl; (focus (first | (unfold inI64; omega) | (unfold inI64; simp only [Int.reduceToNat, Int.reducePow]; omega) | assumption)))
               | ((with_reducible apply pure_eql_string); rfl; rfl)
               | ((with_reducible apply pure_neq_string); rfl; rfl)
               | ((with_reducible apply pu_pick_true); rfl; rfl)
               )
             | (first
               | ((with_reducible apply pu_pick_false); rfl; rfl)
               | ((with_reducible apply pure_not); rfl)
               | ((with_reducible apply pu_len); rfl; rfl)
               | ((with_reducible apply pure_len); rfl; rfl)
               | ((with_reducible apply pu_max); rfl; rfl)
               | ((with_reducible apply pu_min); rfl; rfl)
               | ((with_reducible apply pu_slice_to3); rfl; rfl; rfl; rfl; (focus (with_reducible exact ElC.h)); omega; (focus (first | omega | (simp only [List.length_map, List.length_range, List.length_append, List.length_cons, List.length_nil, List.length_take, List.length_drop, List.length_set, List.length_replicate]; omega))))
               | ((with_reducible apply pure_index1); rfl; (focus rfl); rfl; (focus (with_reducible exact ElC.h)); (focus (first | omega | (simp only [List.length_map, List.length_range, List.length_append, List.length_cons, List.length_nil, List.length_take, List.length_drop, List.length_set, List.length_replicate]; omega))))
               | ((with_reducible apply pure_index); rfl; rfl; rfl; (focus (with_reducible exact ElC.h)); (focus (first | omega | (simp only [List.length_map, List.length_range, List.length_append, List.length_cons, List.length_nil, List.length_take, List.length_drop, List.length_set, List.length_replicate]; omega))))
               | ((with_reducible apply pure_indexI); rfl; rfl; rfl; (focus (with_reducible exact ElC.h)); omega; (focus (first | omega | (simp only [List.length_map, List.length_range, List.length_append, List.length_cons, List.length_nil, List.length_take, List.length_drop, List.length_set, List.length_replicate]; omega))))
               | ((with_reducible apply pu_func2); rfl; rfl)
               )
             | (first
               | ((with_reducible apply pu_func3); rfl; rfl; rfl)
               | ((with_reducible apply pu_slice); rfl; rfl; rfl; rfl; (focus (with_reducible exact ElC.h)); omega; omega; (focus (first | omega | (simp only [List.length_map, List.length_range, List.length_append, List.length_cons, List.length_nil, List.length_take, List.length_drop, List.length_set, List.length_replicate]; omega))))
               | ((with_reducible apply pu_slice_from); rfl; rfl; rfl; (focus (with_reducible exact ElC.h)); omega; (focus (first | omega | (simp only [List.length_map, List.length_range, List.length_append, List.length_cons, List.length_nil, List.length_take, List.length_drop, List.length_set, List.length_replicate]; omega))))
               | ((with_reducible apply pu_slice_to); rfl; rfl; rfl; (focus (with_reducible exact ElC.h)); omega; (focus (first | omega | (simp only [List.length_map, List.length_range, List.length_append, List.length_cons, List.length_nil, List.length_take, List.length_drop, List.length_set, List.length_replicate]; omega))))
               | ((with_reducible apply pu_index_c1); rfl; rfl; rfl; (focus (with_reducible exact ElC.h)); omega)
               | ((with_reducible apply pu_index_ci1); rfl; rfl; rfl; (focus (with_reducible exact ElC.h)); omega; omega)
               | ((with_reducible apply pu_index_cells); rfl; rfl; (focus (with_reducible exact ElC.h)); rfl; omega; omega)
               | ((with_reducible apply pu_index_row); rfl; rfl; rfl; (focus (with_reducible exact ElC.h)); (focus ((repeat (first | exact List.mem_cons_self | apply List.mem_cons_of_mem)); done)); (focus (first | omega | (simp only [List.length_map, List.length_range, List.length_append, List.length_cons, List.length_nil, List.length_take, List.length_drop, List.length_set, List.length_replicate]; omega))))
               | ((with_reducible apply pu_index_rowI); rfl; rfl; rfl; (focus (with_reducible exact ElC.h)); (focus ((repeat (first | exact List.mem_cons_self | apply List.mem_cons_of_mem)); done)); omega; (focus (first | omega | (simp only [List.length_map, List.length_range, List.length_append, List.length_cons, List.length_nil, List.length_take, List.length_drop, List.length_set, List.length_replicate]; omega))))
               | ((with_reducible apply pure_fieldAddr); (focus (with_reducible exact FdC.h)); rfl)
               | ((with_reducible apply pure_load); rfl; rfl)
               | ((with_reducible apply pu_load_row); rfl; rfl; (focus (with_reducible exact ElC.h)); rfl)
               | ((with_reducible apply pu_neq2); (focus (with_reducible exact EqC.h)); rfl; rfl)
               )
             | (first
               | ((with_reducible apply pu_nilCheck); rfl)
               | ((with_reducible apply pu_nilCheck_pd); rfl)
               | ((with_reducible apply pu_field_cells); (focus (with_reducible exact FdC.h)); rfl)
               | ((with_reducible apply pu_load_map); rfl; rfl; (focus ((repeat (first | exact List.mem_cons_self | apply List.mem_cons_of_mem)); done)); (focus (first | omega | (simp only [List.length_map, List.length_range, List.length_append, List.length_cons, List.length_nil, List.length_take, List.length_drop, List.length_set, List.length_replicate]; omega))))
               | ((with_reducible apply pu_load_cells); rfl; rfl; (focus ((repeat (first | exact List.mem_cons_self | apply List.mem_cons_of_mem)); done)); (first | rfl | assumption | ((apply set_ne_get); (focus assumption); (focus (first | omega | exact Nat.ne_of_lt (Nat.lt_succ_self _))))))
               | ((with_reducible apply pu_load_row0); rfl; rfl; (focus ((repeat (first | exact List.mem_cons_self | apply List.mem_cons_of_mem)); done)); (focus exact fun _ => rfl); rfl; (focus (first | omega | (simp only [List.length_map, List.length_range, List.length_append, List.length_cons, List.length_nil, List.length_take, List.length_drop, List.length_set, List.length_replicate]; omega))))
               | ((with_reducible apply pu_load_rowu); rfl; rfl; (focus ((repeat (first | exact List.mem_cons_self | apply List.mem_cons_of_mem)); done)); (focus exact fun _ => rfl); rfl; (focus (first | omega | (simp only [List.length_map, List.length_range, List.length_append, List.length_cons, List.length_nil, List.length_take, List.length_drop, List.length_set, List.length_replicate]; omega))))
               | ((with_reducible apply pu_field_row); (focus (with_reducible exact FdC.h)); rfl)
               | ((with_reducible apply pu_load_cells_agg); rfl; rfl; (focus (with_reducible exact ElC.h)); (focus ((repeat (first | exact List.mem_cons_self | apply List.mem_cons_of_mem)); done)); rfl)
               | ((with_reducible apply pu_iface); (focus (with_reducible exact NifC.h)); rfl)
               | ((with_reducible apply pure_build2); (focus (with_reducible exact BlC.h)); rfl; rfl; rfl; rfl)
               | ((with_reducible apply pu_build); (focus (with_reducible exact BlsC.h)); rfl; rfl; rfl)
               | ((with_reducible apply pu_byte_int); rfl; rfl; rfl)
               )
             | (first
               | ((with_reducible apply pu_int_byte); rfl; rfl; rfl)
               | ((with_reducible apply pu_int_int); rfl; rfl; rfl; (focus (first | (unfold inI64; omega) | (unfold inI64; simp only [Int.reduceToNat, Int.reducePow]; omega) | assumption)))
               | ((with_reducible apply pu_bytes_string); rfl; rfl; rfl; rfl)
               | ((with_reducible apply pu_len_sub); rfl; rfl; (focus ((repeat (first | exact List.mem_cons_self | apply List.mem_cons_of_mem)); done)))
               | ((with_reducible apply pu_slice_cut); rfl; rfl; rfl; (focus (with_reducible exact ElC.h)); (focus ((repeat (first | exact List.mem_cons_self | apply List.mem_cons_of_mem)); done)); omega; (focus (first | omega | (simp only [List.length_map, List.length_range, List.length_append, List.length_cons, List.length_nil, List.length_take, List.length_drop, List.length_set, List.length_replicate]; omega))))
               | ((with_reducible apply pu_index_cut); rfl; rfl; rfl; (focus (with_reducible exact ElC.h)); (focus ((repeat (first | exact List.mem_cons_self | apply List.mem_cons_of_mem)); done)); omega; omega; (focus (first | omega | (simp only [List.length_map, List.length_range, List.length_append, List.length_cons, List.length_nil, List.length_take, List.length_drop, List.length_set, List.length_replicate]; omega))))
               | ((with_reducible apply pu_len_row); rfl; rfl; (focus ((repeat (first | exact List.mem_cons_self | apply List.mem_cons_of_mem)); done)))
               | ((with_reducible apply pu_len_cut); rfl; rfl; (focus ((repeat (first | exact List.mem_cons_self | apply List.mem_cons_of_mem)); done)))
               | ((with_reducible apply pure_len_nil); rfl; rfl)
               | ((with_reducible apply pu_slice_sub); rfl; rfl; rfl; (focus (with_reducible exact ElC.h)); (focus ((repeat (first | exact List.mem_cons_self | apply List.mem_cons_of_mem)); done)); omega; (focus (first | omega | (simp only [List.length_map, List.length_range, List.length_append, List.length_cons, List.length_nil, List.length_take, List.length_drop, List.length_set, List.length_replicate]; omega))))
               | ((with_reducible apply pu_index_sub); rfl; rfl; rfl; (focus (with_reducible exact ElC.h)); (focus ((repeat (first | exact List.mem_cons_self | apply List.mem_cons_of_mem)); done)); (focus (first | omega | (simp only [List.length_map, List.length_range, List.length_append, List.length_cons, List.length_nil, List.length_take, List.length_drop, List.length_set, List.length_replicate]; omega))))
               )
             )); (focus rfl))
     | ((with_reducible apply jh_gy); (focus rfl); (focus rfl); (focus rfl); (focus rfl); (focus rfl); (focus (decide +kernel)); (focus (first
                | (first
                 | ((with_reducible apply pu_move); rfl)
                 | ((with_reducible apply pu_assign); rfl)
                 | ((with_reducible apply pure_extract); rfl; rfl)
                 | ((with_reducible apply pure_lss); rfl; rfl)
                 | ((with_reducible apply pure_eql); rfl; rfl)
                 | ((with_reducible apply pure_neq); rfl; rfl)
                 | ((with_reducible apply pure_eql_bool); rfl; rfl; rfl)
                 | ((with_reducible apply pure_neq_bool); rfl; rfl; rfl)
                 | ((with_reducible apply pure_geq); rfl; rfl)
                 )
                | (first
                 | ((with_reducible apply pure_gtr); rfl; rfl)
                 | ((with_reducible apply pure_leq); rfl; rfl)
                 | ((with_reducible apply pure_add); rfl; rfl; (focus (first | (unfold inI64; omega) | (unfold inI64; simp only [Int.reduceToNat, Int.reducePow]; omega) | assumption)))
                 | ((with_reducible apply pure_sub); rfl; rfl; (focus (first | (unfold inI64; omega) | (unfold inI64; simp only [Int.reduceToNat, Int.reducePow]; omega) | assumption)))
                 | ((with_reducible apply pure_mul); rfl; rfl; (focus (first | (unfold inI64; omega) | (unfold inI64; simp only [Int.reduceToNat, Int.reducePow]; omega) | assumption)))
                 | ((with_reducible apply pure_quo); rfl; rfl; omega; omega; omega)
                 | ((with_reducible apply pure_rem); rfl; rfl; omega; omega)
                 | ((with_reducible apply pure_shl); rfl; rfl; omega; omega; (focus (first | (unfold inI64; omega) | (unfold inI64; simp only [Int.reduceToNat, Int.reducePow]; omega) | assumption)))
                 | ((with_reducible apply pure_shr); rfl; rfl; omega; omega)
                 )
                | (first
                 | ((with_reducible apply pure_shl_u); rfl; rfl; omega; omega; (focus (first | (unfold inI64; omega) | (unfold inI64; simp only [Int.reduceToNat, Int.reducePow]; omega) | assumption)))
                 | ((with_reducible apply pure_shr_u); rfl; rfl; omega; omega)
                 | ((with_reducible apply pure_and1); rfl; rfl; omega; omega)
                 | ((with_reducible apply pure_and); rfl; rfl)
                 | ((with_reducible apply pure_or); rfl; rfl)
                 | ((with_reducible apply pure_neg); rfl; (focus (first | (unfold inI64; omega) | (unfold inI64; simp only [Int.reduceToNat, Int.reducePow]; omega) | assumption)))
                 | ((with_reducible apply pure_eql_string); rfl; rfl)
                 | ((with_reducible apply pure_neq_string); rfl; rfl)
                 | ((with_reducible apply pu_pick_true); rfl; rfl)
                 )
                | (first
                 | ((with_reducible apply pu_pick_false); rfl; rfl)
                 | ((with_reducible apply pure_not); rfl)
                 | ((with_reducible apply pu_len); rfl; rfl)
                 | ((with_reducible apply pure_len); rfl; rfl)
                 | ((with_reducible apply pu_max); rfl; rfl)
                 | ((with_reducible apply pu_min); rfl; rfl)
                 | ((with_reducible apply pu_slice_to3); rfl; rfl; rfl; rfl; (focus (with_reducible exact ElC.h)); omega; (focus (first | omega | (simp only [List.length_map, List.length_range, List.length_append, List.length_cons, List.length_nil, List.length_take, List.length_drop, List.length_set, List.length_replicate]; omega))))
                 | ((with_reducible apply pure_index1); rfl; (focus rfl); rfl; (focus (with_reducible exact ElC.h)); (focus (first | omega | (simp only [List.length_map, List.length_range, List.length_append, List.length_cons, List.length_nil, List.length_take, List.length_drop, List.length_set, List.length_replicate]; omega))))
                 | ((with_reducible apply pure_index); rfl; rfl; rfl; (focus (with_reducible exact ElC.h)); (focus (first | omega | (simp only [List.length_map, List.length_range, List.length_append, List.length_cons, List.length_nil, List.length_take, List.length_drop, List.length_set, List.length_replicate]; omega))))
                 | ((with_reducible apply pure_indexI); rfl; rfl; rfl; (focus (with_reducible exact ElC.h)); omega; (focus (first | omega | (simp only [List.length_map, List.length_range, List.length_append, List.length_cons, List.length_nil, List.length_take, List.length_drop, List.length_set, List.length_replicate]; omega))))
                 | ((with_reducible apply pu_func2); rfl; rfl)
                 )
                | (first
                 | ((with_reducible apply pu_func3); rfl; rfl; rfl)
                 | ((with_reducible apply pu_slice); rfl; rfl; rfl; rfl; (focus (with_reducible exact ElC.h)); omega; omega; (focus (first | omega | (simp only [List.length_map, List.length_range, List.length_append, List.length_cons, List.length_nil, List.length_take, List.length_drop, List.length_set, List.length_replicate]; omega))))
                 | ((with_reducible apply pu_slice_from); rfl; rfl; rfl; (focus (with_reducible exact ElC.h)); omega; (focus (first | omega | (simp only [List.length_map, List.length_range, List.length_append, List.length_cons, List.length_nil, List.length_take, List.length_drop, List.length_set, List.length_replicate]; omega))))
                 | ((with_reducible apply pu_slice_to); rfl; rfl; rfl; (focus (with_reducible exact ElC.h)); omega; (focus (first | omega | (simp only [List.length_map, List.length_range, List.length_append, List.length_cons, List.length_nil, List.length_take, List.length_drop, List.length_set, List.length_replicate]; omega))))
                 | ((with_reducible apply pu_index_c1); rfl; rfl; rfl; (focus (with_reducible exact ElC.h)); omega)
                 | ((with_reducible apply pu_index_ci1); rfl; rfl; rfl; (focus (with_reducible exact ElC.h)); omega; omega)
                 | ((with_reducible apply pu_index_cells); rfl; rfl; (focus (with_reducible exact ElC.h)); rfl; omega; omega)
                 | ((with_reducible apply pu_index_row); rfl; rfl; rfl; (focus (with_reducible exact ElC.h)); (focus ((repeat (first | exact List.mem_cons_self | apply List.mem_cons_of_mem)); done)); (focus (first | omega | (simp only [List.length_map, List.length_range, List.length_append, List.length_cons, List.length_nil, List.length_take, List.length_drop, List.length_set, List.length_replicate]; omega))))
                 | ((with_reducible apply pu_index_rowI); rfl; rfl; rfl; (focus (with_reducible exact ElC.h)); (focus ((repeat (first | exact List.mem_cons_self | apply List.mem_cons_of_mem)); done)); omega; (focus (first | omega | (simp only [List.length_map, List.length_range, List.length_append, List.length_cons, List.length_nil, List.length_take, List.length_drop, List.length_set, List.length_replicate]; omega))))
                 | ((with_reducible apply pure_fieldAddr); (focus (with_reducible exact FdC.h)); rfl)
                 | ((with_reducible apply pure_load); rfl; rfl)
                 | ((with_reducible apply pu_load_row); rfl; rfl; (focus (with_reducible exact ElC.h)); rfl)
                 | ((with_reducible apply pu_neq2); (focus (with_reducible exact EqC.h)); rfl; rfl)
                 )
                | (first
                 | ((with_reducible apply pu_nilCheck); rfl)
                 | ((with_reducible apply pu_nilCheck_pd); rfl)
                 | ((with_reducible apply pu_field_cells); (focus (with_reducible exact FdC.h)); rfl)
                 | ((with_reducible apply pu_load_map); rfl; rfl; (focus ((repeat (first | exact List.mem_cons_self | apply List.mem_cons_of_mem)); done)); (focus (first | omega | (simp only [List.length_map, List.length_range, List.length_append, List.length_cons, List.length_nil, List.length_take, List.length_drop, List.length_set, List.length_replicate]; omega))))
                 | ((with_reducible apply pu_load_cells); rfl; rfl; (focus ((repeat (first | exact List.mem_cons_self | apply List.mem_cons_of_mem)); done)); (first | rfl | assumption | ((apply set_ne_get); (focus assumption); (focus (first | omega | exact Nat.ne_of_lt (Nat.lt_succ_self _))))))
                 | ((with_reducible apply pu_load_row0); rfl; rfl; (focus ((repeat (first | exact List.mem_cons_self | apply List.mem_cons_of_mem)); done)); (focus exact fun _ => rfl); rfl; (focus (first | omega | (simp only [List.length_map, List.length_range, List.length_append, List.length_cons, List.length_nil, List.length_take, List.length_drop, List.length_set, List.length_replicate]; omega))))
                 | ((with_reducible apply pu_load_rowu); rfl; rfl; (focus ((repeat (first | exact List.mem_cons_self | apply List.mem_cons_of_mem)); done)); (focus exact fun _ => rfl); rfl; (focus (first | omega | (simp only [List.length_map, List.length_range, List.length_append, List.length_cons, List.length_nil, List.length_take, List.length_drop, List.length_set, List.length_replicate]; omega))))
                 | ((with_reducible apply pu_field_row); (focus (with_reducible exact FdC.h)); rfl)
                 | ((with_reducible apply pu_load_cells_agg); rfl; rfl; (focus (with_reducible exact ElC.h)); (focus ((repeat (first | exact List.mem_cons_self | apply List.mem_cons_of_mem)); done)); rfl)
                 | ((with_reducible apply pu_iface); (focus (with_reducible exact NifC.h)); rfl)
                 | ((with_reducible apply pure_build2); (focus (with_reducible exact BlC.h)); rfl; rfl; rfl; rfl)
                 | ((with_reducible apply pu_build); (focus (with_reducible exact BlsC.h)); rfl; rfl; rfl)
                 | ((with_reducible apply pu_byte_int); rfl; rfl; rfl)
                 )
                | (first
                 | ((with_reducible apply pu_int_byte); rfl; rfl; rfl)
                 | ((with_reducible apply pu_int_int); rfl; rfl; rfl; (focus (first | (unfold inI64; omega) | (unfold inI64; simp only [Int.reduceToNat, Int.reducePow]; omega) | assumption)))
                 | ((with_reducible apply pu_bytes_string); rfl; rfl; rfl; rfl)
                 | ((with_reducible apply pu_len_sub); rfl; rfl; (focus ((repeat (first | exact List.mem_cons_self | apply List.mem_cons_of_mem)); done)))
                 | ((with_reducible apply pu_slice_cut); rfl; rfl; rfl; (focus (with_reducible exact ElC.h)); (focus ((repeat (first | exact List.mem_cons_self | apply List.mem_cons_of_mem)); done)); omega; (focus (first | omega | (simp only [List.length_map, List.length_range, List.length_append, List.length_cons, List.length_nil, List.length_take, List.length_drop, List.length_set, List.length_replicate]; omega))))
                 | ((with_reducible apply pu_index_cut); rfl; rfl; rfl; (focus (with_reducible exact ElC.h)); (focus ((repeat (first | exact List.mem_cons_self | apply List.mem_cons_of_mem)); done)); omega; omega; (focus (first | omega | (simp only [List.length_map, List.length_range, List.length_append, List.length_cons, List.length_nil, List.length_take, List.length_drop, List.length_set, List.length_replicate]; omega))))
                 | ((with_reducible apply pu_len_row); rfl; rfl; (focus ((repeat (first | exact List.mem_cons_self | apply List.mem_cons_of_mem)); done)))
                 | ((with_reducible apply pu_len_cut); rfl; rfl; (focus ((repeat (first | exact List.mem_cons_self | apply List.mem_cons_of_mem)); done)))
                 | ((with_reducible apply pure_len_nil); rfl; rfl)
                 | ((with_reducible apply pu_slice_sub); rfl; rfl; rfl; (focus (with_reducible exact ElC.h)); (focus ((repeat (first | exact List.mem_cons_self | apply List.mem_cons_of_mem)); done)); omega; (focus (first | omega | (simp only [List.length_map, List.length_range, List.length_append, List.length_cons, List.length_nil, List.length_take, List.length_drop, List.length_set, List.length_replicate]; omega))))
                 | ((with_reducible apply pu_index_sub); rfl; rfl; rfl; (focus (with_reducible exact ElC.h)); (focus ((repeat (first | exact List.mem_cons_self | apply List.mem_cons_of_mem)); done)); (focus (first | omega | (simp only [List.length_map, List.length_range, List.length_append, List.length_cons, List.length_nil, List.length_take, List.length_drop, List.length_set, List.length_replicate]; omega))))
                 )
                )); (focus rfl))
     | ((with_reducible apply jh_gn); (focus rfl); (focus rfl); (focus rfl); (focus rfl); (focus rfl); (focus (decide +kernel)); (focus rfl))
     | ((with_reducible apply jh_gu); (focus rfl); (focus rfl); (focus rfl); (focus rfl); (focus (decide +kernel)); (focus rfl))
     | ((with_reducible apply jh_split); (focus rfl); (focus rfl); (focus rfl); (focus rfl); (focus (decide +kernel)))
     | with_reducible apply jh_skip
     | with_reducible apply jh_wrap
     | ((with_reducible apply jh_end); (focus (decide +kernel)); (focus (decide +kernel)))
     | with_reducible exact jhs_nil
     | ((with_reducible apply jhs_no); (focus (decide +kernel)))
     | ((with_reducible apply jhs_yes); (focus rfl))
     | with_reducible apply jh_nil
     )
    ))
   | (first
     | (first
      | with_reducible exact JL_nil
      | ((with_reducible apply jp); (focus (first
        | (first
          | ((with_reducible apply pu_move); rfl)
          | ((with_reducible apply pu_assign); rfl)
          | ((with_reducible apply pure_extract); rfl; rfl)
          | ((with_reducible apply pure_lss); rfl; rfl)
          | ((with_reducible apply pure_eql); rfl; rfl)
          | ((with_reducible apply pure_neq); rfl; rfl)
          | ((with_reducible apply pure_eql_bool); rfl; rfl; rfl)
          | ((with_reducible apply pure_neq_bool); rfl; rfl; rfl)
          | ((with_reducible apply pure_geq); rfl; rfl)
          )
        | (first
          | ((with_reducible apply pure_gtr); rfl; rfl)
          | ((with_reducible apply pure_leq); rfl; rfl)
          | ((with_reducible apply pure_add); rfl; rfl; (focus (first | (unfold inI64; omega) | (unfold inI64; simp only [Int.reduceToNat, Int.reducePow]; omega) | assumption)))
          | ((with_reducible apply pure_sub); rfl; rfl; (focus (first | (unfold inI64; omega) | (unfold inI64; simp only [Int.reduceToNat, Int.reducePow]; omega) | assumption)))
          | ((with_reducible apply pure_mul); rfl; rfl; (focus (first | (unfold inI64; omega) | (unfold inI64; simp only [Int.reduceToNat, Int.reducePow]; omega) | assumption)))
          | ((with_reducible apply pure_quo); rfl; rfl; omega; omega; omega)
          | ((with_reducible apply pure_rem); rfl; rfl; omega; omega)
          | ((with_reducible apply pure_shl); rfl; rfl; omega; omega; (focus (first | (unfold inI64; omega) | (unfold inI64; simp only [Int.reduceToNat, Int.reducePow]; omega) | assumption)))
          | ((with_reducible apply pure_shr); rfl; rfl; omega; omega)
          )
        | (first
          | ((with_reducible apply pure_shl_u); rfl; rfl; omega; omega; (focus (first | (unfold inI64; omega) | (unfold inI64; simp only [Int.reduceToNat, Int.reducePow]; omega) | assumption)))
          | ((with_reducible apply pure_shr_u); rfl; rfl; omega; omega)
          | ((with_reducible apply pure_and1); rfl; rfl; omega; omega)
          | ((with_reducible apply pure_and); rfl; rfl)
          | ((with_reducible apply pure_or); rfl; rfl)
          | ((with_reducible apply pure_neg); rfl; (focus (first | (unfold inI64; omega) | (unfold inI64; simp only [Int.reduceToNat, Int.reducePow]; omega) | assumption)))
          | ((with_reducible apply pure_eql_string); rfl; rfl)
          | ((with_reducible apply pure_neq_string); rfl; rfl)
          | ((with_reducible apply pu_pick_true); rfl; rfl)
          )
        | (first
          | ((with_reducible apply pu_pick_false); rfl; rfl)
          | ((with_reducible apply pure_not); rfl)
          | ((with_reducible apply pu_len); rfl; rfl)
          | ((with_reducible apply pure_len); rfl; rfl)
          | ((with_reducible apply pu_max); rfl; rfl)
          | ((with_reducible apply pu_min); rfl; rfl)
          | ((with_reducible apply pu_slice_to3); rfl; rfl; rfl; rfl; (focus (with_reducible exact ElC.h)); omega; (focus (first | omega | (simp only [List.length_map, List.length_range, List.length_append, List.length_cons, List.length_nil, List.length_take, List.length_drop, List.length_set, List.length_replicate]; omega))))
          | ((with_reducible apply pure_index1); rfl; (focus rfl); rfl; (focus (with_reducible exact ElC.h)); (focus (first | omega | (simp only [List.length_map, List.length_range, List.length_append, List.length_cons, List.length_nil, List.length_take, List.length_drop, List.length_set, List.length_replicate]; omega))))
          | ((with_reducible apply pure_index); rfl; rfl; rfl; (focus (with_reducible exact ElC.h)); (focus (first | omega | (simp only [List.length_map, List.length_range, List.length_append, List.length_cons, List.length_nil, List.length_take, List.length_drop, List.length_set, List.length_replicate]; omega))))
          | ((with_reducible apply pure_indexI); rfl; rfl; rfl; (focus (with_reducible exact ElC.h)); omega; (focus (first | omega | (simp only [List.length_map, List.length_range, List.length_append, List.length_cons, List.length_nil, List.length_take, List.length_drop, List.length_set, List.length_replicate]; omega))))
          | ((with_reducible apply pu_func2); rfl; rfl)
          )
        | (first
          | ((with_reducible apply pu_func3); rfl; rfl; rfl)
          | ((with_reducible apply pu_slice); rfl; rfl; rfl; rfl; (focus (with_reducible exact ElC.h)); omega; omega; (focus (first | omega | (simp only [List.length_map, List.length_range, List.length_append, List.length_cons, List.length_nil, List.length_take, List.length_drop, List.length_set, List.length_replicate]; omega))))
          | ((with_reducible apply pu_slice_from); rfl; rfl; rfl; (focus (with_reducible exact ElC.h)); omega; (focus (first | omega | (simp only [List.length_map, List.length_range, List.length_append, List.length_cons, List.length_nil, List.length_take, List.length_drop, List.length_set, List.length_replicate]; omega))))
          | ((with_reducible apply pu_slice_to); rfl; rfl; rfl; (focus (with_reducible exact ElC.h)); omega; (focus (first | omega | (simp only [List.length_map, List.length_range, List.length_append, List.length_cons, List.length_nil, List.length_take, List.length_drop, List.length_set, List.length_replicate]; omega))))
          | ((with_reducible apply pu_index_c1); rfl; rfl; rfl; (focus (with_reducible exact ElC.h)); omega)
          | ((with_reducible apply pu_index_ci1); rfl; rfl; rfl; (focus (with_reducible exact ElC.h)); omega; omega)
          | ((with_reducible apply pu_index_cells); rfl; rfl; (focus (with_reducible exact ElC.h)); rfl; omega; omega)
          | ((with_reducible apply pu_index_row); rfl; rfl; rfl; (focus (with_reducible exact ElC.h)); (focus ((repeat (first | exact List.mem_cons_self | apply List.mem_cons_of_mem)); done)); (focus (first | omega | (simp only [List.length_map, List.length_range, List.length_append, List.length_cons, List.length_nil, List.length_take, List.length_drop, List.length_set, List.length_replicate]; omega))))
          | ((with_reducible apply pu_index_rowI); rfl; rfl; rfl; (focus (with_reducible exact ElC.h)); (focus ((repeat (first | exact List.mem_cons_self | apply List.mem_cons_of_mem)); done)); omega; (focus (first | omega | (simp only [List.length_map, List.length_range, List.length_append, List.length_cons, List.length_nil, List.length_take, List.length_drop, List.length_set, List.length_replicate]; omega))))
          | ((with_reducible apply pure_fieldAddr); (focus (with_reducible exact FdC.h)); rfl)
          | ((with_reducible apply pure_load); rfl; rfl)
          | ((with_reducible apply pu_load_row); rfl; rfl; (focus (with_reducible exact ElC.h)); rfl)
          | ((with_reducible apply pu_neq2); (focus (with_reducible exact EqC.h)); rfl; rfl)
          )
        | (first
          | ((with_reducible apply pu_nilCheck); rfl)
          | ((with_reducible apply pu_nilCheck_pd); rfl)
          | ((with_reducible apply pu_field_cells); (focus (with_reducible exact FdC.h)); rfl)
          | ((with_reducible apply pu_load_map); rfl; rfl; (focus ((repeat (first | exact List.mem_cons_self | apply List.mem_cons_of_mem)); done)); (focus (first | omega | (simp only [List.length_map, List.length_range, List.length_append, List.length_cons, List.length_nil, List.length_take, List.length_drop, List.length_set, List.length_replicate]; omega))))
          | ((with_reducible apply pu_load_cells); rfl; rfl; (focus ((repeat (first | exact List.mem_cons_self | apply List.mem_cons_of_mem)); done)); (first | rfl | assumption | ((apply set_ne_get); (focus assumption); (focus (first | omega | exact Nat.ne_of_lt (Nat.lt_succ_self _))))))
          | ((with_reducible apply pu_load_row0); rfl; rfl; (focus ((repeat (first | exact List.mem_cons_self | apply List.mem_cons_of_mem)); done)); (focus exact fun _ => rfl); rfl; (focus (first | omega | (simp only [List.length_map, List.length_range, List.length_append, List.length_cons, List.length_nil, List.length_take, List.length_drop, List.length_set, List.length_replicate]; omega))))
          | ((with_reducible apply pu_load_rowu); rfl; rfl; (focus ((repeat (first | exact List.mem_cons_self | apply List.mem_cons_of_mem)); done)); (focus exact fun _ => rfl); rfl; (focus (first | omega | (simp only [List.length_map, List.length_range, List.length_append, List.length_cons, List.length_nil, List.length_take, List.length_drop, List.length_set, List.length_replicate]; omega))))
          | ((with_reducible apply pu_field_row); (focus (with_reducible exact FdC.h)); rfl)
          | ((with_reducible apply pu_load_cells_agg); rfl; rfl; (focus (with_reducible exact ElC.h)); (focus ((repeat (first | exact List.mem_cons_self | apply List.mem_cons_of_mem)); done)); rfl)
          | ((with_reducible apply pu_iface); (focus (with_reducible exact NifC.h)); rfl)
          | ((with_reducible apply pure_build2); (focus (with_reducible exact BlC.h)); rfl; rfl; rfl; rfl)
          | ((with_reducible apply pu_build); (focus (with_reducible exact BlsC.h)); rfl; rfl; rfl)
          | ((with_reducible apply pu_byte_int); rfl; rfl; rfl)
          )
        | (first
          | ((with_reducible apply pu_int_byte); rfl; rfl; rfl)
          | ((with_reducible apply pu_int_int); rfl; rfl; rfl; (focus (first | (unfold inI64; omega) | (unfold inI64; simp only [Int.reduceToNat, Int.reducePow]; omega) | assumption)))
          | ((with_reducible apply pu_bytes_string); rfl; rfl; rfl; rfl)
          | ((with_reducible apply pu_len_sub); rfl; rfl; (focus ((repeat (first | exact List.mem_cons_self | apply List.mem_cons_of_mem)); done)))
          | ((with_reducible apply pu_slice_cut); rfl; rfl; rfl; (focus (with_reducible exact ElC.h)); (focus ((repeat (first | exact List.mem_cons_self | apply List.mem_cons_of_mem)); done)); omega; (focus (first | omega | (simp only [List.length_map, List.length_range, List.length_append, List.length_cons, List.length_nil, List.length_take, List.length_drop, List.length_set, List.length_replicate]; omega))))
          | ((with_reducible apply pu_index_cut); rfl; rfl; rfl; (focus (with_reducible exact ElC.h)); (focus ((repeat (first | exact List.mem_cons_self | apply List.mem_cons_of_mem)); done)); omega; omega; (focus (first | omega | (simp only [List.length_map, List.length_range, List.length_append, List.length_cons, List.length_nil, List.length_take, List.length_drop, List.length_set, List.length_replicate]; omega))))
          | ((with_reducible apply pu_len_row); rfl; rfl; (focus ((repeat (first | exact List.mem_cons_self | apply List.mem_cons_of_mem)); done)))
          | ((with_reducible apply pu_len_cut); rfl; rfl; (focus ((repeat (first | exact List.mem_cons_self | apply List.mem_cons_of_mem)); done)))
          | ((with_reducible apply pure_len_nil); rfl; rfl)
          | ((with_reducible apply pu_slice_sub); rfl; rfl; rfl; (focus (with_reducible exact ElC.h)); (focus ((repeat (first | exact List.mem_cons_self | apply List.mem_cons_of_mem)); done)); omega; (focus (first | omega | (simp only [List.length_map, List.length_range, List.length_append, List.length_cons, List.length_nil, List.length_take, List.length_drop, List.length_set, List.length_replicate]; omega))))
          | ((with_reducible apply pu_index_sub); rfl; rfl; rfl; (focus (with_reducible exact ElC.h)); (focus ((repeat (first | exact List.mem_cons_self | apply List.mem_cons_of_mem)); done)); (focus (first | omega | (simp only [List.length_map, List.length_range, List.length_append, List.length_cons, List.length_nil, List.length_take, List.length_drop, List.length_set, List.length_replicate]; omega))))
          )
        )); (focus rfl))
      | ((with_reducible apply jgt); (focus rfl); (focus rfl); (focus rfl); (focus rfl); (focus rfl))
      | ((with_reducible apply jgf); (focus rfl); (focus rfl); (focus rfl); (focus rfl); (focus rfl))
      | ((with_reducible apply jgu); (focus rfl); (focus rfl); (focus rfl); (focus rfl))
      | ((with_reducible apply jqu); (focus rfl); (focus rfl); (focus rfl); (focus rfl))
      | with_reducible exact tq_normal
      | with_reducible exact tq_ret
      | with_reducible exact tq_exit
      )
     | (first
      | with_reducible exact tq_panic
      | with_reducible exact bq_normal
      | with_reducible exact bq_ret
      | with_reducible exact bq_exit
      | ((with_reducible apply bq_exit'); (focus decide))
      | with_reducible exact bq_panic
      | ((with_reducible apply jpan); (focus rfl))
      | with_reducible exact J_seq
      | with_reducible exact J_region
      )
     | (first
      | ((with_reducible apply J_region_anyA); (focus exact mixed); (focus rfl); (focus ((repeat (with_reducible apply len_cons)); exact len_nil)); (focus (decide +kernel)))
      )
     | (first
      | ((with_reducible apply (J_region_mix 0)); (focus exact mixed); (focus rfl); (focus ((repeat (with_reducible apply len_cons)); exact len_nil)); (focus (decide +kernel)); (focus ((repeat (with_reducible apply Mix.cons)); exact Mix.nil)))
      | ((with_reducible apply (J_region_mix 1)); (focus exact mixed); (focus rfl); (focus ((repeat (with_reducible apply len_cons)); exact len_nil)); (focus (decide +kernel)); (focus ((repeat (with_reducible apply Mix.cons)); exact Mix.nil)))
      | ((with_reducible apply (J_region_mix 2)); (focus exact mixed); (focus rfl); (focus ((repeat (with_reducible apply len_cons)); exact len_nil)); (focus (decide +kernel)); (focus ((repeat (with_reducible apply Mix.cons)); exact Mix.nil)))
      | ((with_reducible apply (J_region_mix 3)); (focus exact mixed); (focus rfl); (focus ((repeat (with_reducible apply len_cons)); exact len_nil)); (focus (decide +kernel)); (focus ((repeat (with_reducible apply Mix.cons)); exact Mix.nil)))
      | ((with_reducible apply (J_region_mix 4)); (focus exact mixed); (focus rfl); (focus ((repeat (with_reducible apply len_cons)); exact len_nil)); (focus (decide +kernel)); (focus ((repeat (with_reducible apply Mix.cons)); exact Mix.nil)))
      | ((with_reducible apply (J_region_mix 5)); (focus exact mixed); (focus rfl); (focus ((repeat (with_reducible apply len_cons)); exact len_nil)); (focus (decide +kernel)); (focus ((repeat (with_reducible apply Mix.cons)); exact Mix.nil)))
      | ((with_reducible apply (J_region_mix 6)); (focus exact mixed); (focus rfl); (focus ((repeat (with_reducible apply len_cons)); exact len_nil)); (focus (decide +kernel)); (focus ((repeat (with_reducible apply Mix.cons)); exact Mix.nil)))
      | ((with_reducible apply (J_region_mix 7)); (focus exact mixed); (focus rfl); (focus ((repeat (with_reducible apply len_cons)); exact len_nil)); (focus (decide +kernel)); (focus ((repeat (with_reducible apply Mix.cons)); exact Mix.nil)))
      | ((with_reducible apply (J_region_mix 8)); (focus exact mixed); (focus rfl); (focus ((repeat (with_reducible apply len_cons)); exact len_nil)); (focus (decide +kernel)); (focus ((repeat (with_reducible apply Mix.cons)); exact Mix.nil)))
      )
     | (first
      | with_reducible exact J_block
      | ((with_reducible apply J_region_tail); (focus exact mixed); (focus ((repeat (with_reducible apply len_cons)); exact len_nil)); (focus (decide +kernel)))
      | ((with_reducible apply (J_region_tailT 2)); (focus exact mixed); (focus ((repeat (with_reducible apply len_cons)); exact len_nil)); (focus (decide +kernel)))
      | ((with_reducible apply (J_region_tailT 3)); (focus exact mixed); (focus ((repeat (with_reducible apply len_cons)); exact len_nil)); (focus (decide +kernel)))
      | ((with_reducible apply (J_region_tailT 4)); (focus exact mixed); (focus ((repeat (with_reducible apply len_cons)); exact len_nil)); (focus (decide +kernel)))
      | ((with_reducible apply (J_region_tailT 5)); (focus exact mixed); (focus ((repeat (with_reducible apply len_cons)); exact len_nil)); (focus (decide +kernel)))
      | ((with_reducible apply (J_region_tailT 6)); (focus exact mixed); (focus ((repeat (with_reducible apply len_cons)); exact len_nil)); (focus (decide +kernel)))
      | ((with_reducible apply (J_region_tailT 7)); (focus exact mixed); (focus ((repeat (with_reducible apply len_cons)); exact len_nil)); (focus (decide +kernel)))
      | ((with_reducible apply J_region_draw); (focus exact mixed); (focus (decide +kernel)); (focus ((repeat (with_reducible apply len_cons)); exact len_nil)))
      | with_reducible exact JQ_nil
      | ((with_reducible apply jqp); (focus (first
         | (first
           | ((with_reducible apply pu_move); rfl)
           | ((with_reducible apply pu_assign); rfl)
           | ((with_reducible apply pure_extract); rfl; rfl)
           | ((with_reducible apply pure_lss); rfl; rfl)
           | ((with_reducible apply pure_eql); rfl; rfl)
           | ((with_reducible apply pure_neq); rfl; rfl)
           | ((with_reducible apply pure_eql_bool); rfl; rfl; rfl)
           | ((with_reducible apply pure_neq_bool); rfl; rfl; rfl)
           | ((with_reducible apply pure_geq); rfl; rfl)
           )
         | (first
           | ((with_reducible apply pure_gtr); rfl; rfl)
           | ((with_reducible apply pure_leq); rfl; rfl)
           | ((with_reducible apply pure_add); rfl; rfl; (focus (first | (unfold inI64; omega) | (unfold inI64; simp only [Int.reduceToNat, Int.reducePow]; omega) | assumption)))
           | ((with_reducible apply pure_sub); rfl; rfl; (focus (first | (unfold inI64; omega) | (unfold inI64; simp only [Int.reduceToNat, Int.reducePow]; omega) | assumption)))
           | ((with_reducible apply pure_mul); rfl; rfl; (focus (first | (unfold inI64; omega) | (unfold inI64; simp only [Int.reduceToNat, Int.reducePow]; omega) | assumption)))
           | ((with_reducible apply pure_quo); rfl; rfl; omega; omega; omega)
           | ((with_reducible apply pure_rem); rfl; rfl; omega; omega)
           | ((with_reducible apply pure_shl); rfl; rfl; omega; omega; (focus (first | (unfold inI64; omega) | (unfold inI64; simp only [Int.reduceToNat, Int.reducePow]; omega) | assumption)))
           | ((with_reducible apply pure_shr); rfl; rfl; omega; omega)
           )
         | (first
           | ((with_reducible apply pure_shl_u); rfl; rfl; omega; omega; (focus (first | (unfold inI64; omega) | (unfold inI64; simp only [Int.reduceToNat, Int.reducePow]; omega) | assumption)))
           | ((with_reducible apply pure_shr_u); rfl; rfl; omega; omega)
           | ((with_reducible apply pure_and1); rfl; rfl; omega; omega)
           | ((with_reducible apply pure_and); rfl; rfl)
           | ((with_reducible apply pure_or); rfl; rfl)
           | ((with_reducible apply pure_neg); rfl; (focus (first | (unfold inI64; omega) | (unfold inI64; simp only [Int.reduceToNat, Int.reducePow]; omega) | assumption)))
           | ((with_reducible apply pure_eql_string); rfl; rfl)
           | ((with_reducible apply pure_neq_string); rfl; rfl)
           | ((with_reducible apply pu_pick_true); rfl; rfl)
           )
         | (first
           | ((with_reducible apply pu_pick_false); rfl; rfl)
           | ((with_reducible apply pure_not); rfl)
           | ((with_reducible apply pu_len); rfl; rfl)
           | ((with_reducible apply pure_len); rfl; rfl)
           | ((with_reducible apply pu_max); rfl; rfl)
           | ((with_reducible apply pu_min); rfl; rfl)
           | ((with_reducible apply pu_slice_to3); rfl; rfl; rfl; rfl; (focus (with_reducible exact ElC.h)); omega; (focus (first | omega | (simp only [List.length_map, List.length_range, List.length_append, List.length_cons, List.length_nil, List.length_take, List.length_drop, List.length_set, List.length_replicate]; omega))))
           | ((with_reducible apply pure_index1); rfl; (focus rfl); rfl; (focus (with_reducible exact ElC.h)); (focus (first | omega | (simp only [List.length_map, List.length_range, List.length_append, List.length_cons, List.length_nil, List.length_take, List.length_drop, List.length_set, List.length_replicate]; omega))))
           | ((with_reducible apply pure_index); rfl; rfl; rfl; (focus (with_reducible exact ElC.h)); (focus (first | omega | (simp only [List.length_map, List.length_range, List.length_append, List.length_cons, List.length_nil, List.length_take, List.length_drop, List.length_set, List.length_replicate]; omega))))
           | ((with_reducible apply pure_indexI); rfl; rfl; rfl; (focus (with_reducible exact ElC.h)); omega; (focus (first | omega | (simp only [List.length_map, List.length_range, List.length_append, List.length_cons, List.length_nil, List.length_take, List.length_drop, List.length_set, List.length_replicate]; omega))))
           | ((with_reducible apply pu_func2); rfl; rfl)
           )
         | (first
           | ((with_reducible apply pu_func3); rfl; rfl; rfl)
           | ((with_reducible apply pu_slice); rfl; rfl; rfl; rfl; (focus (with_reducible exact ElC.h)); omega; omega; (focus (first | omega | (simp only [List.length_map, List.length_range, List.length_append, List.length_cons, List.length_nil, List.length_take, List.length_drop, List.length_set, List.length_replicate]; omega))))
           | ((with_reducible apply pu_slice_from); rfl; rfl; rfl; (focus (with_reducible exact ElC.h)); omega; (focus (first | omega | (simp only [List.length_map, List.length_range, List.length_append, List.length_cons, List.length_nil, List.length_take, List.length_drop, List.length_set, List.length_replicate]; omega))))
           | ((with_reducible apply pu_slice_to); rfl; rfl; rfl; (focus (with_reducible exact ElC.h)); omega; (focus (first | omega | (simp only [List.length_map, List.length_range, List.length_append, List.length_cons, List.length_nil, List.length_take, List.length_drop, List.length_set, List.length_replicate]; omega))))
           | ((with_reducible apply pu_index_c1); rfl; rfl; rfl; (focus (with_reducible exact ElC.h)); omega)
           | ((with_reducible apply pu_index_ci1); rfl; rfl; rfl; (focus (with_reducible exact ElC.h)); omega; omega)
           | ((with_reducible apply pu_index_cells); rfl; rfl; (focus (with_reducible exact ElC.h)); rfl; omega; omega)
           | ((with_reducible apply pu_index_row); rfl; rfl; rfl; (focus (with_reducible exact ElC.h)); (focus ((repeat (first | exact List.mem_cons_self | apply List.mem_cons_of_mem)); done)); (focus (first | omega | (simp only [List.length_map, List.length_range, List.length_append, List.length_cons, List.length_nil, List.length_take, List.length_drop, List.length_set, List.length_replicate]; omega))))
           | ((with_reducible apply pu_index_rowI); rfl; rfl; rfl; (focus (with_reducible exact ElC.h)); (focus ((repeat (first | exact List.mem_cons_self | apply List.mem_cons_of_mem)); done)); omega; (focus (first | omega | (simp only [List.length_map, List.length_range, List.length_append, List.length_cons, List.length_nil, List.length_take, List.length_drop, List.length_set, List.length_replicate]; omega))))
           | ((with_reducible apply pure_fieldAddr); (focus (with_reducible exact FdC.h)); rfl)
           | ((with_reducible apply pure_load); rfl; rfl)
           | ((with_reducible apply pu_load_row); rfl; rfl; (focus (with_reducible exact ElC.h)); rfl)
           | ((with_reducible apply pu_neq2); (focus (with_reducible exact EqC.h)); rfl; rfl)
           )
         | (first
           | ((with_reducible apply pu_nilCheck); rfl)
           | ((with_reducible apply pu_nilCheck_pd); rfl)
           | ((with_reducible apply pu_field_cells); (focus (with_reducible exact FdC.h)); rfl)
           | ((with_reducible apply pu_load_map); rfl; rfl; (focus ((repeat (first | exact List.mem_cons_self | apply List.mem_cons_of_mem)); done)); (focus (first | omega | (simp only [List.length_map, List.length_range, List.length_append, List.length_cons, List.length_nil, List.length_take, List.length_drop, List.length_set, List.length_replicate]; omega))))
           | ((with_reducible apply pu_load_cells); rfl; rfl; (focus ((repeat (first | exact List.mem_cons_self | apply List.mem_cons_of_mem)); done)); (first | rfl | assumption | ((apply set_ne_get); (focus assumption); (focus (first | omega | exact Nat.ne_of_lt (Nat.lt_succ_self _))))))
           | ((with_reducible apply pu_load_row0); rfl; rfl; (focus ((repeat (first | exact List.mem_cons_self | apply List.mem_cons_of_mem)); done)); (focus exact fun _ => rfl); rfl; (focus (first | omega | (simp only [List.length_map, List.length_range, List.length_append, List.length_cons, List.length_nil, List.length_take, List.length_drop, List.length_set, List.length_replicate]; omega))))
           | ((with_reducible apply pu_load_rowu); rfl; rfl; (focus ((repeat (first | exact List.mem_cons_self | apply List.mem_cons_of_mem)); done)); (focus exact fun _ => rfl); rfl; (focus (first | omega | (simp only [List.length_map, List.length_range, List.length_append, List.length_cons, List.length_nil, List.length_take, List.length_drop, List.length_set, List.length_replicate]; omega))))
           | ((with_reducible apply pu_field_row); (focus (with_reducible exact FdC.h)); rfl)
           | ((with_reducible apply pu_load_cells_agg); rfl; rfl; (focus (with_reducible exact ElC.h)); (focus ((repeat (first | exact List.mem_cons_self | apply List.mem_cons_of_mem)); done)); rfl)
           | ((with_reducible apply pu_iface); (focus (with_reducible exact NifC.h)); rfl)
           | ((with_reducible apply pure_build2); (focus (with_reducible exact BlC.h)); rfl; rfl; rfl; rfl)
           | ((with_reducible apply pu_build); (focus (with_reducible exact BlsC.h)); rfl; rfl; rfl)
           | ((with_reducible apply pu_byte_int); rfl; rfl; rfl)
           )
         | (first
           | ((with_reducible apply pu_int_byte); rfl; rfl; rfl)
           | ((with_reducible apply pu_int_int); rfl; rfl; rfl; (focus (first | (unfold inI64; omega) | (unfold inI64; simp only [Int.reduceToNat, Int.reducePow]; omega) | assumption)))
           | ((with_reducible apply pu_bytes_string); rfl; rfl; rfl; rfl)
           | ((with_reducible apply pu_len_sub); rfl; rfl; (focus ((repeat (first | exact List.mem_cons_self | apply List.mem_cons_of_mem)); done)))
           | ((with_reducible apply pu_slice_cut); rfl; rfl; rfl; (focus (with_reducible exact ElC.h)); (focus ((repeat (first | exact List.mem_cons_self | apply List.mem_cons_of_mem)); done)); omega; (focus (first | omega | (simp only [List.length_map, List.length_range, List.length_append, List.length_cons, List.length_nil, List.length_take, List.length_drop, List.length_set, List.length_replicate]; omega))))
           | ((with_reducible apply pu_index_cut); rfl; rfl; rfl; (focus (with_reducible exact ElC.h)); (focus ((repeat (first | exact List.mem_cons_self | apply List.mem_cons_of_mem)); done)); omega; omega; (focus (first | omega | (simp only [List.length_map, List.length_range, List.length_append, List.length_cons, List.length_nil, List.length_take, List.length_drop, List.length_set, List.length_replicate]; omega))))
           | ((with_reducible apply pu_len_row); rfl; rfl; (focus ((repeat (first | exact List.mem_cons_self | apply List.mem_cons_of_mem)); done)))
           | ((with_reducible apply pu_len_cut); rfl; rfl; (focus ((repeat (first | exact List.mem_cons_self | apply List.mem_cons_of_mem)); done)))
           | ((with_reducible apply pure_len_nil); rfl; rfl)
           | ((with_reducible apply pu_slice_sub); rfl; rfl; rfl; (focus (with_reducible exact ElC.h)); (focus ((repeat (first | exact List.mem_cons_self | apply List.mem_cons_of_mem)); done)); omega; (focus (first | omega | (simp only [List.length_map, List.length_range, List.length_append, List.length_cons, List.length_nil, List.length_take, List.length_drop, List.length_set, List.length_replicate]; omega))))
           | ((with_reducible apply pu_index_sub); rfl; rfl; rfl; (focus (with_reducible exact ElC.h)); (focus ((repeat (first | exact List.mem_cons_self | apply List.mem_cons_of_mem)); done)); (focus (first | omega | (simp only [List.length_map, List.length_range, List.length_append, List.length_cons, List.length_nil, List.length_take, List.length_drop, List.length_set, List.length_replicate]; omega))))
           )
         )); (focus rfl))
      | ((with_reducible apply jqt); (focus rfl); (focus rfl); (focus rfl); (focus rfl); (focus rfl))
      | ((with_reducible apply jqf); (focus rfl); (focus rfl); (focus rfl); (focus rfl); (focus rfl))
      | (first
       | ((with_reducible apply jbuild_byte); (focus rfl); (focus rfl); (focus (with_reducible exact ElC.h)); (focus rfl); (focus rfl))
       | ((with_reducible apply jbuild_int); (focus rfl); (focus rfl); (focus (with_reducible exact ElC.h)); (focus rfl); (focus rfl))
       | ((with_reducible apply jbuild_bool); (focus rfl); (focus rfl); (focus (with_reducible exact ElC.h)); (focus rfl); (focus rfl))
       | ((with_reducible apply jbuild_list); (focus rfl); (focus rfl); (focus (with_reducible exact ElC.h)); (focus rfl); (focus rfl))
       | ((with_reducible apply jbuild_agg); (focus rfl); (focus rfl); (focus (with_reducible exact ElC.h)); (focus rfl); (focus rfl); (focus rfl); (focus rfl); (focus rfl))
       | ((with_reducible apply jbuild_two); (focus rfl); (focus rfl); (focus (with_reducible exact ElC.h)); (focus rfl); (focus rfl)))
      | ((with_reducible apply japp); (focus rfl); (focus rfl); (focus rfl); (focus (with_reducible exact ElC.h)); (focus rfl); (focus rfl); (focus rfl); (focus (first | omega | (simp only [List.length_map, List.length_range, List.length_append, List.length_cons, List.length_nil, List.length_take, List.length_drop, List.length_set, List.length_replicate]; omega))); (focus (first | omega | (simp only [List.length_map, List.length_range, List.length_append, List.length_cons, List.length_nil, List.length_take, List.length_drop, List.length_set, List.length_replicate]; omega))))
      )
     | (first
      | ((with_reducible apply japp_copy); (focus rfl); (focus rfl); (focus rfl); (focus (with_reducible exact ElC.h)); (focus rfl); (focus rfl); (focus rfl); (focus exact fun _ => rfl); (focus (first | omega | (simp only [List.length_map, List.length_range, List.length_append, List.length_cons, List.length_nil, List.length_take, List.length_drop, List.length_set, List.length_replicate]; omega))); (focus (first | omega | (simp only [List.length_map, List.length_range, List.length_append, List.length_cons, List.length_nil, List.length_take, List.length_drop, List.length_set, List.length_replicate]; omega))))
      | with_reducible exact J_skip
      | with_reducible exact J_ret
      | with_reducible exact J_exit
      | ((with_reducible apply jcond); (focus rfl))
      | with_reducible exact cb_true
      | with_reducible exact cb_false
      | with_reducible exact cb_decT
      | with_reducible exact cb_not
      )
     | (first
      | with_reducible exact cb_splitT
      )
     | (first
      | ((with_reducible apply je_q); (focus rfl); (focus (decide +kernel)); (focus (first
            | (first
              | ((with_reducible apply pu_move); rfl)
              | ((with_reducible apply pu_assign); rfl)
              | ((with_reducible apply pure_extract); rfl; rfl)
              | ((with_reducible apply pure_lss); rfl; rfl)
              | ((with_reducible apply pure_eql); rfl; rfl)
              | ((with_reducible apply pure_neq); rfl; rfl)
              | ((with_reducible apply pure_eql_bool); rfl; rfl; rfl)
              | ((with_reducible apply pure_neq_bool); rfl; rfl; rfl)
              | ((with_reducible apply pure_geq); rfl; rfl)
              )
            | (first
              | ((with_reducible apply pure_gtr); rfl; rfl)
              | ((with_reducible apply pure_leq); rfl; rfl)
              | ((with_reducible apply pure_add); rfl; rfl; (focus (first | (unfold inI64; omega) | (unfold inI64; simp only [Int.reduceToNat, Int.reducePow]; omega) | assumption)))
              | ((with_reducible apply pure_sub); rfl; rfl; (focus (first | (unfold inI64; omega) | (unfold inI64; simp only [Int.reduceToNat, Int.reducePow]; omega) | assumption)))
              | ((with_reducible apply pure_mul); rfl; rfl; (focus (first | (unfold inI64; omega) | (unfold inI64; simp only [Int.reduceToNat, Int.reducePow]; omega) | assumption)))
              | ((with_reducible apply pure_quo); rfl; rfl; omega; omega; omega)
              | ((with_reducible apply pure_rem); rfl; rfl; omega; omega)
              | ((with_reducible apply pure_shl); rfl; rfl; omega; omega; (focus (first | (unfold inI64; omega) | (unfold inI64; simp only [Int.reduceToNat, Int.reducePow]; omega) | assumption)))
              | ((with_reducible apply pure_shr); rfl; rfl; omega; omega)
              )
            | (first
              | ((with_reducible apply pure_shl_u); rfl; rfl; omega; omega; (focus (first | (unfold inI64; omega) | (unfold inI64; simp only [Int.reduceToNat, Int.reducePow]; omega) | assumption)))
              | ((with_reducible apply pure_shr_u); rfl; rfl; omega; omega)
              | ((with_reducible apply pure_and1); rfl; rfl; omega; omega)
              | ((with_reducible apply pure_and); rfl; rfl)
              | ((with_reducible apply pure_or); rfl; rfl)
              | ((with_reducible apply pure_neg); rfl; (focus (first | (unfold inI64; omega) | (unfold inI64; simp only [Int.reduceToNat, Int.reducePow]; omega) | assumption)))
              | ((with_reducible apply pure_eql_string); rfl; rfl)
              | ((with_reducible apply pure_neq_string); rfl; rfl)
              | ((with_reducible apply pu_pick_true); rfl; rfl)
              )
            | (first
              | ((with_reducible apply pu_pick_false); rfl; rfl)
              | ((with_reducible apply pure_not); rfl)
              | ((with_reducible apply pu_len); rfl; rfl)
              | ((with_reducible apply pure_len); rfl; rfl)
              | ((with_reducible apply pu_max); rfl; rfl)
              | ((with_reducible apply pu_min); rfl; rfl)
              | ((with_reducible apply pu_slice_to3); rfl; rfl; rfl; rfl; (focus (with_reducible exact ElC.h)); omega; (focus (first | omega | (simp only [List.length_map, List.length_range, List.length_append, List.length_cons, List.length_nil, List.length_take, List.length_drop, List.length_set, List.length_replicate]; omega))))
              | ((with_reducible apply pure_index1); rfl; (focus rfl); rfl; (focus (with_reducible exact ElC.h)); (focus (first | omega | (simp only [List.length_map, List.length_range, List.length_append, List.length_cons, List.length_nil, List.length_take, List.length_drop, List.length_set, List.length_replicate]; omega))))
              | ((with_reducible apply pure_index); rfl; rfl; rfl; (focus (with_reducible exact ElC.h)); (focus (first | omega | (simp only [List.length_map, List.length_range, List.length_append, List.length_cons, List.length_nil, List.length_take, List.length_drop, List.length_set, List.length_replicate]; omega))))
              | ((with_reducible apply pure_indexI); rfl; rfl; rfl; (focus (with_reducible exact ElC.h)); omega; (focus (first | omega | (simp only [List.length_map, List.length_range, List.length_append, List.length_cons, List.length_nil, List.length_take, List.length_drop, List.length_set, List.length_replicate]; omega))))
              | ((with_reducible apply pu_func2); rfl; rfl)
              )
            | (first
              | ((with_reducible apply pu_func3); rfl; rfl; rfl)
              | ((with_reducible apply pu_slice); rfl; rfl; rfl; rfl; (focus (with_reducible exact ElC.h)); omega; omega; (focus (first | omega | (simp only [List.length_map, List.length_range, List.length_append, List.length_cons, List.length_nil, List.length_take, List.length_drop, List.length_set, List.length_replicate]; omega))))
              | ((with_reducible apply pu_slice_from); rfl; rfl; rfl; (focus (with_reducible exact ElC.h)); omega; (focus (first | omega | (simp only [List.length_map, List.length_range, List.length_append, List.length_cons, List.length_nil, List.length_take, List.length_drop, List.length_set, List.length_replicate]; omega))))
              | ((with_reducible apply pu_slice_to); rfl; rfl; rfl; (focus (with_reducible exact ElC.h)); omega; (focus (first | omega | (simp only [List.length_map, List.length_range, List.length_append, List.length_cons, List.length_nil, List.length_take, List.length_drop, List.length_set, List.length_replicate]; omega))))
              | ((with_reducible apply pu_index_c1); rfl; rfl; rfl; (focus (with_reducible exact ElC.h)); omega)
              | ((with_reducible apply pu_index_ci1); rfl; rfl; rfl; (focus (with_reducible exact ElC.h)); omega; omega)
              | ((with_reducible apply pu_index_cells); rfl; rfl; (focus (with_reducible exact ElC.h)); rfl; omega; omega)
              | ((with_reducible apply pu_index_row); rfl; rfl; rfl; (focus (with_reducible exact ElC.h)); (focus ((repeat (first | exact List.mem_cons_self | apply List.mem_cons_of_mem)); done)); (focus (first | omega | (simp only [List.length_map, List.length_range, List.length_append, List.length_cons, List.length_nil, List.length_take, List.length_drop, List.length_set, List.length_replicate]; omega))))
              | ((with_reducible apply pu_index_rowI); rfl; rfl; rfl; (focus (with_reducible exact ElC.h)); (focus ((repeat (first | exact List.mem_cons_self | apply List.mem_cons_of_mem)); done)); omega; (focus (first | omega | (simp only [List.length_map, List.length_range, List.length_append, List.length_cons, List.length_nil, List.length_take, List.length_drop, List.length_set, List.length_replicate]; omega))))
              | ((with_reducible apply pure_fieldAddr); (focus (with_reducible exact FdC.h)); rfl)
              | ((with_reducible apply pure_load); rfl; rfl)
              | ((with_reducible apply pu_load_row); rfl; rfl; (focus (with_reducible exact ElC.h)); rfl)
              | ((with_reducible apply pu_neq2); (focus (with_reducible exact EqC.h)); rfl; rfl)
              )
            | (first
              | ((with_reducible apply pu_nilCheck); rfl)
              | ((with_reducible apply pu_nilCheck_pd); rfl)
              | ((with_reducible apply pu_field_cells); (focus (with_reducible exact FdC.h)); rfl)
              | ((with_reducible apply pu_load_map); rfl; rfl; (focus ((repeat (first | exact List.mem_cons_self | apply List.mem_cons_of_mem)); done)); (focus (first | omega | (simp only [List.length_map, List.length_range, List.length_append, List.length_cons, List.length_nil, List.length_take, List.length_drop, List.length_set, List.length_replicate]; omega))))
              | ((with_reducible apply pu_load_cells); rfl; rfl; (focus ((repeat (first | exact List.mem_cons_self | apply List.mem_cons_of_mem)); done)); (first | rfl | assumption | ((apply set_ne_get); (focus assumption); (focus (first | omega | exact Nat.ne_of_lt (Nat.lt_succ_self _))))))
              | ((with_reducible apply pu_load_row0); rfl; rfl; (focus ((repeat (first | exact List.mem_cons_self | apply List.mem_cons_of_mem)); done)); (focus exact fun _ => rfl); rfl; (focus (first | omega | (simp only [List.length_map, List.length_range, List.length_append, List.length_cons, List.length_nil, List.length_take, List.length_drop, List.length_set, List.length_replicate]; omega))))
              | ((with_reducible apply pu_load_rowu); rfl; rfl; (focus ((repeat (first | exact List.mem_cons_self | apply List.mem_cons_of_mem)); done)); (focus exact fun _ => rfl); rfl; (focus (first | omega | (simp only [List.length_map, List.length_range, List.length_append, List.length_cons, List.length_nil, List.length_take, List.length_drop, List.length_set, List.length_replicate]; omega))))
              | ((with_reducible apply pu_field_row); (focus (with_reducible exact FdC.h)); rfl)
              | ((with_reducible apply pu_load_cells_agg); rfl; rfl; (focus (with_reducible exact ElC.h)); (focus ((repeat (first | exact List.mem_cons_self | apply List.mem_cons_of_mem)); done)); rfl)
              | ((with_reducible apply pu_iface); (focus (with_reducible exact NifC.h)); rfl)
              | ((with_reducible apply pure_build2); (focus (with_reducible exact BlC.h)); rfl; rfl; rfl; rfl)
              | ((with_reducible apply pu_build); (focus (with_reducible exact BlsC.h)); rfl; rfl; rfl)
              | ((with_reducible apply pu_byte_int); rfl; rfl; rfl)
              )
            | (first
              | ((with_reducible apply pu_int_byte); rfl; rfl; rfl)
              | ((with_reducible apply pu_int_int); rfl; rfl; rfl; (focus (first | (unfold inI64; omega) | (unfold inI64; simp only [Int.reduceToNat, Int.reducePow]; omega) | assumption)))
              | ((with_reducible apply pu_bytes_string); rfl; rfl; rfl; rfl)
              | ((with_reducible apply pu_len_sub); rfl; rfl; (focus ((repeat (first | exact List.mem_cons_self | apply List.mem_cons_of_mem)); done)))
              | ((with_reducible apply pu_slice_cut); rfl; rfl; rfl; (focus (with_reducible exact ElC.h)); (focus ((repeat (first | exact List.mem_cons_self | apply List.mem_cons_of_mem)); done)); omega; (focus (first | omega | (simp only [List.length_map, List.length_range, List.length_append, List.length_cons, List.length_nil, List.length_take, List.length_drop, List.length_set, List.length_replicate]; omega))))
              | ((with_reducible apply pu_index_cut); rfl; rfl; rfl; (focus (with_reducible exact ElC.h)); (focus ((repeat (first | exact List.mem_cons_self | apply List.mem_cons_of_mem)); done)); omega; omega; (focus (first | omega | (simp only [List.length_map, List.length_range, List.length_append, List.length_cons, List.length_nil, List.length_take, List.length_drop, List.length_set, List.length_replicate]; omega))))
              | ((with_reducible apply pu_len_row); rfl; rfl; (focus ((repeat (first | exact List.mem_cons_self | apply List.mem_cons_of_mem)); done)))
              | ((with_reducible apply pu_len_cut); rfl; rfl; (focus ((repeat (first | exact List.mem_cons_self | apply List.mem_cons_of_mem)); done)))
              | ((with_reducible apply pure_len_nil); rfl; rfl)
              | ((with_reducible apply pu_slice_sub); rfl; rfl; rfl; (focus (with_reducible exact ElC.h)); (focus ((repeat (first | exact List.mem_cons_self | apply List.mem_cons_of_mem)); done)); omega; (focus (first | omega | (simp only [List.length_map, List.length_range, List.length_append, List.length_cons, List.length_nil, List.length_take, List.length_drop, List.length_set, List.length_replicate]; omega))))
              | ((with_reducible apply pu_index_sub); rfl; rfl; rfl; (focus (with_reducible exact ElC.h)); (focus ((repeat (first | exact List.mem_cons_self | apply List.mem_cons_of_mem)); done)); (focus (first | omega | (simp only [List.length_map, List.length_range, List.length_append, List.length_cons, List.length_nil, List.length_take, List.length_drop, List.length_set, List.length_replicate]; omega))))
              )
            )); (focus rfl))
      | ((with_reducible apply je_qy); (focus rfl); (focus rfl); (focus rfl); (focus rfl); (focus rfl); (focus (decide +kernel)); (focus (first
                 | (first
                  | ((with_reducible apply pu_move); rfl)
                  | ((with_reducible apply pu_assign); rfl)
                  | ((with_reducible apply pure_extract); rfl; rfl)
                  | ((with_reducible apply pure_lss); rfl; rfl)
                  | ((with_reducible apply pure_eql); rfl; rfl)
                  | ((with_reducible apply pure_neq); rfl; rfl)
                  | ((with_reducible apply pure_eql_bool); rfl; rfl; rfl)
                  | ((with_reducible apply pure_neq_bool); rfl; rfl; rfl)
                  | ((with_reducible apply pure_geq); rfl; rfl)
                  )
                 | (first
                  | ((with_reducible apply pure_gtr); rfl; rfl)
                  | ((with_reducible apply pure_leq); rfl; rfl)
                  | ((with_reducible apply pure_add); rfl; rfl; (focus (first | (unfold inI64; omega) | (unfold inI64; simp only [Int.reduceToNat, Int.reducePow]; omega) | assumption)))
                  | ((with_reducible apply pure_sub); rfl; rfl; (focus (first | (unfold inI64; omega) | (unfold inI64; simp only [Int.reduceToNat, Int.reducePow]; omega) | assumption)))
                  | ((with_reducible apply pure_mul); rfl; rfl; (focus (first | (unfold inI64; omega) | (unfold inI64; simp only [Int.reduceToNat, Int.reducePow]; omega) | assumption)))
                  | ((with_reducible apply pure_quo); rfl; rfl; omega; omega; omega)
                  | ((with_reducible apply pure_rem); rfl; rfl; omega; omega)
                  | ((with_reducible apply pure_shl); rfl; rfl; omega; omega; (focus (first | (unfold inI64; omega) | (unfold inI64; simp only [Int.reduceToNat, Int.reducePow]; omega) | assumption)))
                  | ((with_reducible apply pure_shr); rfl; rfl; omega; omega)
                  )
                 | (first
                  | ((with_reducible apply pure_shl_u); rfl; rfl; omega; omega; (focus (first | (unfold inI64; omega) | (unfold inI64; simp only [Int.reduceToNat, Int.reducePow]; omega) | assumption)))
                  | ((with_reducible apply pure_shr_u); rfl; rfl; omega; omega)
                  | ((with_reducible apply pure_and1); rfl; rfl; omega; omega)
                  | ((with_reducible apply pure_and); rfl; rfl)
                  | ((with_reducible apply pure_or); rfl; rfl)
                  | ((with_reducible apply pure_neg); rfl; (focus (first | (unfold inI64; omega) | (unfold inI64; simp only [Int.reduceToNat, Int.reducePow]; omega) | assumption)))
                  | ((with_reducible apply pure_eql_string); rfl; rfl)
                  | ((with_reducible apply pure_neq_string); rfl; rfl)
                  | ((with_reducible apply pu_pick_true); rfl; rfl)
                  )
                 | (first
                  | ((with_reducible apply pu_pick_false); rfl; rfl)
                  | ((with_reducible apply pure_not); rfl)
                  | ((with_reducible apply pu_len); rfl; rfl)
                  | ((with_reducible apply pure_len); rfl; rfl)
                  | ((with_reducible apply pu_max); rfl; rfl)
                  | ((with_reducible apply pu_min); rfl; rfl)
                  | ((with_reducible apply pu_slice_to3); rfl; rfl; rfl; rfl; (focus (with_reducible exact ElC.h)); omega; (focus (first | omega | (simp only [List.length_map, List.length_range, List.length_append, List.length_cons, List.length_nil, List.length_take, List.length_drop, List.length_set, List.length_replicate]; omega))))
                  | ((with_reducible apply pure_index1); rfl; (focus rfl); rfl; (focus (with_reducible exact ElC.h)); (focus (first | omega | (simp only [List.length_map, List.length_range, List.length_append, List.length_cons, List.length_nil, List.length_take, List.length_drop, List.length_set, List.length_replicate]; omega))))
                  | ((with_reducible apply pure_index); rfl; rfl; rfl; (focus (with_reducible exact ElC.h)); (focus (first | omega | (simp only [List.length_map, List.length_range, List.length_append, List.length_cons, List.length_nil, List.length_take, List.length_drop, List.length_set, List.length_replicate]; omega))))
                  | ((with_reducible apply pure_indexI); rfl; rfl; rfl; (focus (with_reducible exact ElC.h)); omega; (focus (first | omega | (simp only [List.length_map, List.length_range, List.length_append, List.length_cons, List.length_nil, List.length_take, List.length_drop, List.length_set, List.length_replicate]; omega))))
                  | ((with_reducible apply pu_func2); rfl; rfl)
                  )
                 | (first
                  | ((with_reducible apply pu_func3); rfl; rfl; rfl)
                  | ((with_reducible apply pu_slice); rfl; rfl; rfl; rfl; (focus (with_reducible exact ElC.h)); omega; omega; (focus (first | omega | (simp only [List.length_map, List.length_range, List.length_append, List.length_cons, List.length_nil, List.length_take, List.length_drop, List.length_set, List.length_replicate]; omega))))
                  | ((with_reducible apply pu_slice_from); rfl; rfl; rfl; (focus (with_reducible exact ElC.h)); omega; (focus (first | omega | (simp only [List.length_map, List.length_range, List.length_append, List.length_cons, List.length_nil, List.length_take, List.length_drop, List.length_set, List.length_replicate]; omega))))
                  | ((with_reducible apply pu_slice_to); rfl; rfl; rfl; (focus (with_reducible exact ElC.h)); omega; (focus (first | omega | (simp only [List.length_map, List.length_range, List.length_append, List.length_cons, List.length_nil, List.length_take, List.length_drop, List.length_set, List.length_replicate]; omega))))
                  | ((with_reducible apply pu_index_c1); rfl; rfl; rfl; (focus (with_reducible exact ElC.h)); omega)
                  | ((with_reducible apply pu_index_ci1); rfl; rfl; rfl; (focus (with_reducible exact ElC.h)); omega; omega)
                  | ((with_reducible apply pu_index_cells); rfl; rfl; (focus (with_reducible exact ElC.h)); rfl; omega; omega)
                  | ((with_reducible apply pu_index_row); rfl; rfl; rfl; (focus (with_reducible exact ElC.h)); (focus ((repeat (first | exact List.mem_cons_self | apply List.mem_cons_of_mem)); done)); (focus (first | omega | (simp only [List.length_map, List.length_range, List.length_append, List.length_cons, List.length_nil, List.length_take, List.length_drop, List.length_set, List.length_replicate]; omega))))
                  | ((with_reducible apply pu_index_rowI); rfl; rfl; rfl; (focus (with_reducible exact ElC.h)); (focus ((repeat (first | exact List.mem_cons_self | apply List.mem_cons_of_mem)); done)); omega; (focus (first | omega | (simp only [List.length_map, List.length_range, List.length_append, List.length_cons, List.length_nil, List.length_take, List.length_drop, List.length_set, List.length_replicate]; omega))))
                  | ((with_reducible apply pure_fieldAddr); (focus (with_reducible exact FdC.h)); rfl)
                  | ((with_reducible apply pure_load); rfl; rfl)
                  | ((with_reducible apply pu_load_row); rfl; rfl; (focus (with_reducible exact ElC.h)); rfl)
                  | ((with_reducible apply pu_neq2); (focus (with_reducible exact EqC.h)); rfl; rfl)
                  )
                 | (first
                  | ((with_reducible apply pu_nilCheck); rfl)
                  | ((with_reducible apply pu_nilCheck_pd); rfl)
                  | ((with_reducible apply pu_field_cells); (focus (with_reducible exact FdC.h)); rfl)
                  | ((with_reducible apply pu_load_map); rfl; rfl; (focus ((repeat (first | exact List.mem_cons_self | apply List.mem_cons_of_mem)); done)); (focus (first | omega | (simp only [List.length_map, List.length_range, List.length_append, List.length_cons, List.length_nil, List.length_take, List.length_drop, List.length_set, List.length_replicate]; omega))))
                  | ((with_reducible apply pu_load_cells); rfl; rfl; (focus ((repeat (first | exact List.mem_cons_self | apply List.mem_cons_of_mem)); done)); (first | rfl | assumption | ((apply set_ne_get); (focus assumption); (focus (first | omega | exact Nat.ne_of_lt (Nat.lt_succ_self _))))))
                  | ((with_reducible apply pu_load_row0); rfl; rfl; (focus ((repeat (first | exact List.mem_cons_self | apply List.mem_cons_of_mem)); done)); (focus exact fun _ => rfl); rfl; (focus (first | omega | (simp only [List.length_map, List.length_range, List.length_append, List.length_cons, List.length_nil, List.length_take, List.length_drop, List.length_set, List.length_replicate]; omega))))
                  | ((with_reducible apply pu_load_rowu); rfl; rfl; (focus ((repeat (first | exact List.mem_cons_self | apply List.mem_cons_of_mem)); done)); (focus exact fun _ => rfl); rfl; (focus (first | omega | (simp only [List.length_map, List.length_range, List.length_append, List.length_cons, List.length_nil, List.length_take, List.length_drop, List.length_set, List.length_replicate]; omega))))
                  | ((with_reducible apply pu_field_row); (focus (with_reducible exact FdC.h)); rfl)
                  | ((with_reducible apply pu_load_cells_agg); rfl; rfl; (focus (with_reducible exact ElC.h)); (focus ((repeat (first | exact List.mem_cons_self | apply List.mem_cons_of_mem)); done)); rfl)
                  | ((with_reducible apply pu_iface); (focus (with_reducible exact NifC.h)); rfl)
                  | ((with_reducible apply pure_build2); (focus (with_reducible exact BlC.h)); rfl; rfl; rfl; rfl)
                  | ((with_reducible apply pu_build); (focus (with_reducible exact BlsC.h)); rfl; rfl; rfl)
                  | ((with_reducible apply pu_byte_int); rfl; rfl; rfl)
                  )
                 | (first
                  | ((with_reducible apply pu_int_byte); rfl; rfl; rfl)
                  | ((with_reducible apply pu_int_int); rfl; rfl; rfl; (focus (first | (unfold inI64; omega) | (unfold inI64; simp only [Int.reduceToNat, Int.reducePow]; omega) | assumption)))
                  | ((with_reducible apply pu_bytes_string); rfl; rfl; rfl; rfl)
                  | ((with_reducible apply pu_len_sub); rfl; rfl; (focus ((repeat (first | exact List.mem_cons_self | apply List.mem_cons_of_mem)); done)))
                  | ((with_reducible apply pu_slice_cut); rfl; rfl; rfl; (focus (with_reducible exact ElC.h)); (focus ((repeat (first | exact List.mem_cons_self | apply List.mem_cons_of_mem)); done)); omega; (focus (first | omega | (simp only [List.length_map, List.length_range, List.length_append, List.length_cons, List.length_nil, List.length_take, List.length_drop, List.length_set, List.length_replicate]; omega))))
                  | ((with_reducible apply pu_index_cut); rfl; rfl; rfl; (focus (with_reducible exact ElC.h)); (focus ((repeat (first | exact List.mem_cons_self | apply List.mem_cons_of_mem)); done)); omega; omega; (focus (first | omega | (simp only [List.length_map, List.length_range, List.length_append, List.length_cons, List.length_nil, List.length_take, List.length_drop, List.length_set, List.length_replicate]; omega))))
                  | ((with_reducible apply pu_len_row); rfl; rfl; (focus ((repeat (first | exact List.mem_cons_self | apply List.mem_cons_of_mem)); done)))
                  | ((with_reducible apply pu_len_cut); rfl; rfl; (focus ((repeat (first | exact List.mem_cons_self | apply List.mem_cons_of_mem)); done)))
                  | ((with_reducible apply pure_len_nil); rfl; rfl)
                  | ((with_reducible apply pu_slice_sub); rfl; rfl; rfl; (focus (with_reducible exact ElC.h)); (focus ((repeat (first | exact List.mem_cons_self | apply List.mem_cons_of_mem)); done)); omega; (focus (first | omega | (simp only [List.length_map, List.length_range, List.length_append, List.length_cons, List.length_nil, List.length_take, List.length_drop, List.length_set, List.length_replicate]; omega))))
                  | ((with_reducible apply pu_index_sub); rfl; rfl; rfl; (focus (with_reducible exact ElC.h)); (focus ((repeat (first | exact List.mem_cons_self | apply List.mem_cons_of_mem)); done)); (focus (first | omega | (simp only [List.length_map, List.length_range, List.length_append, List.length_cons, List.length_nil, List.length_take, List.length_drop, List.length_set, List.length_replicate]; omega))))
                  )
                 )); (focus rfl))
      | ((with_reducible apply je_gt); (focus rfl); (focus rfl); (focus rfl); (focus rfl); (focus rfl); (focus (decide +kernel)); (focus rfl))
      | ((with_reducible apply je_gf); (focus rfl); (focus rfl); (focus rfl); (focus rfl); (focus rfl); (focus (decide +kernel)); (focus rfl))
      | ((with_reducible apply je_gu); (focus rfl); (focus rfl); (focus rfl); (focus rfl); (focus (decide +kernel)); (focus rfl))
      | ((with_reducible apply je_done); (focus (decide +kernel)))
      | ((with_reducible apply je_swap); (focus ((repeat (with_reducible apply Rv.cons)); exact Rv.nil)))
      | ((with_reducible apply je_hold); (focus (decide +kernel)))
      )
     | (first
      | ((with_reducible apply J_region_any); (focus exact mixed); (focus rfl); (focus ((repeat (with_reducible apply len_cons)); exact len_nil)); (focus (decide +kernel)))
      | ((with_reducible apply jxp_done); (focus (decide +kernel)))
      | ((with_reducible apply jxp_move); (focus rfl); (focus (decide +kernel)); (focus rfl); (focus rfl))
      | ((with_reducible apply jxp_assign); (focus rfl); (focus (decide +kernel)); (focus rfl); (focus rfl))
      | ((with_reducible apply jxp_extract); (focus rfl); (focus (decide +kernel)); (focus rfl); (focus rfl); (focus rfl))
      | with_reducible apply jxp_next
      | ((with_reducible apply jxp_end); (focus (decide +kernel)); (focus rfl))
      | with_reducible exact jxs_nil
      | ((with_reducible apply jxs_no); (focus (decide +kernel)))
      | ((with_reducible apply jxs_yesT); (focus rfl))
      | with_reducible apply jxp_nil
      | with_reducible apply jxand
      )
     ))))
  exact fun h => h) : q := h hp
end Go.Proofs.Ytcikppldaepodaa
namespace Go.Proofs.Ytcikppldaepodaa
open Go Go.Av Go.Sp
set_option linter.unusedVariables false
set_option linter.unusedSimpArgs false
set_option maxRecDepth 100000
set_option maxHeartbeats 4000000

theorem cal_In : Cal Try.prog 38 := Cal.of Try.func38 (by kernel_rfl) (by kernel_rfl)
theorem cal_sameInts : Cal Try.prog 18 := Cal.of Try.func18 (by kernel_rfl) (by kernel_rfl)
theorem In (G : List (Nat × List D)) (x a b : Int) : ACr Try.prog G 38 [.int x, .int a, .int b] (.bool (decide (a ≤ x ∧ x ≤ b))) := by
  refine AC_of (ts := [6]) 15 Try.func38 rfl rfl rfl (by simp) fun W I => ?_
  repeat' (first
    | exact True.intro
    | refine stp ?_
    | refine two ?_ ?_
    | (refine imp fun hc => ?_) <;> try (first | contradiction | (exfalso; omega))
    | refine all fun v_ => ?_)
  all_goals
    ((with_reducible apply rq1); rfl; rfl)
    refine ret_eq (congrArg AV.bool ?_)
    (first | rfl | (refine decide_eq_decide.2 ?_; omega) | (refine (decide_eq_true ?_).symm; omega) | (refine (decide_eq_false ?_).symm; omega) | (refine decide_eq_true ?_; omega) | (refine decide_eq_false ?_; omega))
theorem sameInts (G : List (Nat × List D)) (a b : List Int) : ACr Try.prog G 18 [.d (intsD a), .d (intsD b)] (.bool (decide (a = b))) := by
  refine AC_of (ts := [4]) 26 Try.func18 rfl rfl rfl (by simp) fun W I => ?_
  refine jfact (t := 0) rfl fun hl0 => ?_
  refine jfact (t := 1) rfl fun hl1 => ?_
  repeat' (first
    | exact True.intro
    | refine stp ?_
    | refine two ?_ ?_
    | (refine imp fun hc => ?_) <;> try (first | contradiction | (exfalso; omega))
    | refine all fun v_ => ?_)
  · ((with_reducible apply rq1); rfl; rfl)
    refine ret_eq ?_
    rw [decide_eq_false]
    intro e; subst e; omega
  refine J_loop (X := Nat) (fun i => [(0, .d (intsD a)), (1, .d (intsD b)), (5, .int i)]) (fun _ => []) (fun i => i ≤ a.length ∧ a.take i = b.take i) (fun i => a.length - i) 0 ⟨Nat.zero_le _, rfl⟩ ?_ rfl ?_
  · repeat (first
      | exact Env.le_nil _
      | refine Env.le_cons (AV.le_refl _) ?_
      | refine Env.le_cons (AV.le_int rfl (by first | rfl | omega | (dsimp only; omega))) ?_)
  rintro i ⟨h1, h2⟩
  repeat' (first
    | exact True.intro
    | refine stp ?_
    | refine two ?_ ?_
    | (refine imp fun hc => ?_) <;> try (first | contradiction | (exfalso; omega))
    | refine all fun v_ => ?_)
  all_goals first
    | (((with_reducible apply rq1); rfl; rfl)
       refine ret_eq ?_
       rw [decide_eq_false]
       intro e; subst e
       exact hc rfl)
    | (refine ⟨i + 1, ⟨by omega, take_step (by omega) (by omega) h2 ?_⟩, by first | omega | (dsimp only; omega), ?_, rfl⟩
       · simpa using hc
       · repeat (first
           | exact Env.le_nil _
           | refine Env.le_cons (AV.le_refl _) ?_
           | refine Env.le_cons (AV.le_int rfl (by first | rfl | omega | (dsimp only; omega))) ?_))
    | (((with_reducible apply rq1); rfl; rfl)
       refine ret_eq ?_
       rw [decide_eq_true]
       rwa [List.take_of_length_le (by omega), List.take_of_length_le (by omega)] at h2)
end Go.Proofs.Ytcikppldaepodaa
namespace Go.Av
open Go
set_option linter.unusedVariables false
set_option linter.unusedSimpArgs false

section
variable {k : Kx} {Q : Exit → Env → H → Prop} {ρ : Env} {h : H} {ops : Array Oper} {l : List Oper} {d : Nat} {ty : TypeId} {pos : String} {after : Array Edge}
theorem jeq_nil {α : Type} {f : α → List D} {xs : List α} {T T' E : TypeId} {x y : Operand} {sz eb : Nat} (hx : evO ρ x = some (.d (.l sz eb (xs.map f)))) (hy : evO ρ y = some (.val (.slice none 0 0))) (hT : k.P.underlying T = some (.slice E)) (hd : Nat.blt d k.n = true)
    (hj : Two (Imp (xs = []) (JL k ops l Q ((d, .bool true) :: ρ) h)) (JL k ops l Q ((d, .bool false) :: ρ) h)) : JL k ops (⟨some d, .binOp .eql T x y T', ty, pos, after, none⟩ :: l) Q ρ h := by
  refine JL_eff rfl (fun t ht => by cases ht; exact blt hd) fun I a w h1 h2 => ?_
  have ex : Rel w I (.l sz eb (xs.map f)) (a.eval x) := by have := h2.ev x; rw [ev_of_evO hx] at this; exact this
  have ey : a.eval y = .slice none 0 0 := rel_val (h2.ev y) (ev_of_evO hy)
  have key : ∀ (ad : Option Addr) (n c : Nat), a.eval x = .slice ad n c → (execOp a.eval ⟨some d, .binOp .eql T x y T', ty, pos, after, none⟩).run k.P w = .ok (.value (.bool ad.isNone)) w := by
    intro ad n c e
    have r : (binOp .eql T (.slice ad n c) (.slice none 0 0)).run k.P w = .ok (.bool ad.isNone) w := by
      simp only [binOp]
      simp [run_equal_slice_nil w T E ad n c hT]
    simp [execOp, e, ey, eqGuard_at_slice, r]
  have go : ∀ b, (b = true → xs = []) → JL k ops l Q (put ρ (some d) (.bool b)) h := by
    intro b hb
    cases b with
    | true => exact hj.1.get (hb rfl)
    | false => exact hj.2
  generalize hR : xs.map f = R at ex
  generalize hv : a.eval x = v at ex key
  cases ex with
  | nil => exact ⟨_, w, I, .bool true, h, key _ _ _ rfl, h1, h2, rfl, go true fun _ => List.map_eq_nil_iff.1 hR⟩
  | emp => exact ⟨_, w, I, .bool false, h, key _ _ _ rfl, h1, h2, rfl, go false fun h => (by cases h)⟩
  | l => exact ⟨_, w, I, .bool false, h, key _ _ _ rfl, h1, h2, rfl, go false fun h => (by cases h)⟩
end
end Go.Av
namespace Go.Proofs.Ytcikppldaepodaa
open Go Go.Av Go.Sp
set_option linter.unusedVariables false
set_option linter.unusedSimpArgs false
set_option maxRecDepth 100000
set_option maxHeartbeats 4000000
theorem cal_SortI : Cal Try.prog 43 := Cal.of Try.func43 (by kernel_rfl) (by kernel_rfl)
theorem cal_IndexI : Cal Try.prog 64 := Cal.of Try.func64 (by kernel_rfl) (by kernel_rfl)
theorem cal_ContainsI : Cal Try.prog 48 := Cal.of Try.func48 (by kernel_rfl) (by kernel_rfl)
theorem SortI (G : List (Nat × List D)) (q : Sl) (xs : List Int) (hb : xs.length < 4611686018427387904) : AC Try.prog G 43 [.val q.v] [rowE q.v 3 1 intC xs] fun e h => e = .ret (.tup []) ∧ h = [rowE q.v 3 1 intC (sortI xs)] :=
  AC_sortI q xs hb (fun blk cap zs w h1 h2 h3 => Any.slices_Sort_int Try.lays189 blk 0 cap zs w h1 h2 h3) fun w => Any.slices_Sort_int_none Try.lays189 none 0 w
def indexZ (v : Int) : List Int → Nat → Int
  | [], _ => -1
  | x :: l, i => if v = x then i else indexZ v l (i + 1)
theorem indexZ_at (v : Int) (l : List Int) (i : Nat) (h : i < l.length) : indexZ v (l.drop i) i = if v = l[i] then (i : Int) else indexZ v (l.drop (i + 1)) (i + 1) := by
  rw [List.drop_eq_getElem_cons h, indexZ]
theorem indexZ_end (v : Int) (l : List Int) (i : Nat) (h : l.length ≤ i) : indexZ v (l.drop i) i = -1 := by
  rw [List.drop_of_length_le h, indexZ]
theorem indexZ_in (v : Int) : ∀ (l : List Int) (i : Nat), 0 ≤ indexZ v l i ↔ v ∈ l
  | [], i => by simp [indexZ]
  | x :: l, i => by
    rw [indexZ, List.mem_cons]
    by_cases h : v = x
    · rw [if_pos h]; exact ⟨fun _ => .inl h, fun _ => by omega⟩
    · rw [if_neg h, indexZ_in v l (i + 1)]; exact ⟨.inr, fun k => k.resolve_left h⟩
theorem IndexI (G : List (Nat × List D)) (l : List Int) (v : Int) : ACr Try.prog G 64 [.d (intsD l), .int v] (.int (indexZ v l 0)) := by
  refine AC_ofV (ts := [4]) Try.f64.ntmps Try.func64 rfl rfl rfl (by simp [Try.ntmps64]) fun W I => ?_
  refine jfact (t := 0) rfl fun hl => ?_
  all_goals haveI fA_ : FlagA := ⟨⟩
  all_goals haveI fH_ : FlagH := ⟨⟩
  repeat' (first
    | exact True.intro
    | refine stp ?_
    | refine two ?_ ?_
    | refine allc fun c_ => ?_
    | (refine imp fun hc => ?_) <;> try (first | contradiction | (exfalso; omega) | (exfalso; exact absurd (of_dT hc) (by assumption)) | (exfalso; exact of_dF hc (by assumption)))
    | refine all fun v_ => ?_)
  all_goals clear fA_ fH_
  refine J_loopV (X := Nat) (fun i => [(0, .d (intsD l)), (1, .int v), (7, .int l.length), (8, .int i)]) (fun _ => []) (fun i => i ≤ l.length ∧ indexZ v l 0 = indexZ v (l.drop i) i) (fun i => l.length - i) 0 ⟨Nat.zero_le _, rfl⟩ (VS.of_le ?_) ?_
  · repeat (first
      | exact Env.le_nil _
      | refine Env.le_cons (AV.le_refl _) ?_
      | refine Env.le_cons (AV.le_int rfl (by first | rfl | omega | (dsimp only; omega))) ?_)
  rintro i ⟨h1, h2⟩
  by_cases hi : i < l.length
  · rw [indexZ_at v l i hi] at h2
    by_cases hv : v = l[i]
    · rw [if_pos hv] at h2
      all_goals haveI fA_ : FlagA := ⟨⟩
      all_goals haveI fH_ : FlagH := ⟨⟩
      repeat' (first
        | exact True.intro
        | refine stp ?_
        | refine two ?_ ?_
        | refine allc fun c_ => ?_
        | (refine imp fun hc => ?_) <;> try (first | contradiction | (exfalso; omega) | (exfalso; exact absurd (of_dT hc) (by assumption)) | (exfalso; exact of_dF hc (by assumption)))
        | refine all fun v_ => ?_)
      all_goals clear fA_ fH_
      refine retv0 ?_
      ((with_reducible apply rq1); rfl; rfl)
      exact ret_eq (by rw [h2])
    · rw [if_neg hv] at h2
      all_goals haveI fA_ : FlagA := ⟨⟩
      all_goals haveI fH_ : FlagH := ⟨⟩
      repeat' (first
        | exact True.intro
        | refine stp ?_
        | refine two ?_ ?_
        | refine allc fun c_ => ?_
        | (refine imp fun hc => ?_) <;> try (first | contradiction | (exfalso; omega) | (exfalso; exact absurd (of_dT hc) (by assumption)) | (exfalso; exact of_dF hc (by assumption)))
        | refine all fun v_ => ?_)
      all_goals clear fA_ fH_
      refine ⟨i + 1, ⟨by omega, h2⟩, by omega, VS.of_le ?_⟩
      repeat (first
        | exact Env.le_nil _
        | refine Env.le_cons (AV.le_refl _) ?_
        | refine Env.le_cons (AV.le_int rfl (by first | rfl | omega | (dsimp only; omega))) ?_)
  rw [indexZ_end v l i (by omega)] at h2
  all_goals haveI fA_ : FlagA := ⟨⟩
  all_goals haveI fH_ : FlagH := ⟨⟩
  repeat' (first
    | exact True.intro
    | refine stp ?_
    | refine two ?_ ?_
    | refine allc fun c_ => ?_
    | (refine imp fun hc => ?_) <;> try (first | contradiction | (exfalso; omega) | (exfalso; exact absurd (of_dT hc) (by assumption)) | (exfalso; exact of_dF hc (by assumption)))
    | refine all fun v_ => ?_)
  all_goals clear fA_ fH_
  refine retv0 ?_
  ((with_reducible apply rq1); rfl; rfl)
  exact ret_eq (by rw [h2])
theorem ContainsI (G : List (Nat × List D)) (l : List Int) (v : Int) : ACr Try.prog G 48 [.d (intsD l), .int v] (.bool (decide (v ∈ l))) := by
  refine AC_ofV (ts := [4]) Try.f48.ntmps Try.func48 rfl rfl rfl (by simp [Try.ntmps48]) fun W I => ?_
  all_goals haveI fA_ : FlagA := ⟨⟩
  all_goals haveI fH_ : FlagH := ⟨⟩
  repeat' (first
    | ((with_reducible apply call0); (focus rfl); (focus exact cal_IndexI); (focus exact IndexI _ _ _); (focus rfl))
    | ((with_reducible apply je_call0); (focus rfl); (focus (decide +kernel)); (focus rfl); (focus exact cal_IndexI); (focus exact IndexI _ _ _); (focus rfl))
    | exact True.intro
    | refine stp ?_
    | refine two ?_ ?_
    | refine allc fun c_ => ?_
    | (refine imp fun hc => ?_) <;> try (first | contradiction | (exfalso; omega) | (exfalso; exact absurd (of_dT hc) (by assumption)) | (exfalso; exact of_dF hc (by assumption)))
    | refine all fun v_ => ?_)
  all_goals clear fA_ fH_
  refine retv0 ?_
  ((with_reducible apply rq1); rfl; rfl)
  refine ret_eq (congrArg AV.bool ?_)
  exact decide_eq_decide.2 (indexZ_in v l 0)
end Go.Proofs.Ytcikppldaepodaa
namespace Go.Proofs.Ytcikppldaepodaa
open Go Go.Av Go.Sp
set_option linter.unusedVariables false
set_option linter.unusedSimpArgs false
set_option maxRecDepth 100000
set_option maxHeartbeats 4000000
theorem cal_numbersUp : Cal Try.prog 46 := Cal.of Try.func46 (by kernel_rfl) (by kernel_rfl)
theorem cal_numbers : Cal Try.prog 52 := Cal.of Try.func52 (by kernel_rfl) (by kernel_rfl)
theorem cal_keysOf : Cal Try.prog 45 := Cal.of Try.func45 (by kernel_rfl) (by kernel_rfl)
theorem cal_CloneS : Cal Try.prog 39 := Cal.of Try.func39 (by kernel_rfl) (by kernel_rfl)
theorem cal_merge : Cal Try.prog 47 := Cal.of Try.func47 (by kernel_rfl) (by kernel_rfl)
theorem numbersUp (G : List (Nat × List D)) (l : List Int) (hl : l.length ≤ 1000000) : AC Try.prog G 46 [.d (intsD l)] [] fun r h => ∃ q : Sl, r = .ret (.val q.v) ∧ h = [rowE q.v 3 1 intC (sortI l)] := by
  refine AC_ofV (ts := [2]) Try.f46.ntmps Try.func46 rfl rfl rfl (by simp [Try.ntmps46]) fun W I => ?_
  refine jrow (E := 3) (sz := 1) intC ?_
  all_goals haveI fA_ : FlagA := ⟨⟩
  repeat' (first
    | exact True.intro
    | refine stp ?_
    | refine two ?_ ?_
    | (refine imp fun hc => ?_) <;> try (first | contradiction | (exfalso; omega))
    | refine all fun v_ => ?_)
  all_goals clear fA_
  refine J_loopV (X := Nat × Sl) (fun y => [(0, .d (intsD l)), (3, .val y.2.v), (4, .int y.1)]) (fun y => [rowE y.2.v 3 1 intC (sortI (l.take y.1))]) (fun y => y.1 ≤ l.length) (fun y => l.length - y.1) (0, Sl.nil) (Nat.zero_le _) (VS.take (by dsimp only; rw [List.take_zero, show sortI ([] : List Int) = [] by simp [sortI]]; ((repeat (first | exact Take.nil | ((with_reducible apply Take.cons); (focus ((repeat (first | exact Sel.here | with_reducible apply Sel.there)); done))))); done)) ?_) ?_
  · repeat (first
      | exact Env.le_nil _
      | refine Env.le_cons (AV.le_refl _) ?_
      | refine Env.le_cons (AV.le_int rfl (by first | rfl | omega | (dsimp only; omega))) ?_)
  rintro ⟨i, q⟩ hi
  dsimp only at hi ⊢
  have hsl : (sortI (l.take i)).length = i := by rw [sortI_len, List.length_take]; omega
  by_cases hil : i < l.length
  · all_goals haveI fA_ : FlagA := ⟨⟩
    repeat' (first
      | exact True.intro
      | refine stp ?_
      | refine two ?_ ?_
      | (refine imp fun hc => ?_) <;> try (first | contradiction | (exfalso; omega))
      | refine all fun v_ => ?_)
    all_goals clear fA_
    obtain ⟨p, rfl⟩ : ∃ x, x = v_ := ⟨v_, rfl⟩
    refine J_loopV (X := List Int × List Int) (fun y => [(0, .d (intsD l)), (3, .val p.v), (4, .int i), (5, .int y.1.length)]) (fun y => [rowE p.v 3 1 intC (y.1 ++ l[i] :: y.2)]) (fun y => InsI l i l[i] y.1 y.2) (fun y => y.1.length) (sortI (l.take i), []) (InsI.start l i l[i]) (VS.take (by ((repeat (first | exact Take.nil | ((with_reducible apply Take.cons); (focus ((repeat (first | exact Sel.here | with_reducible apply Sel.there)); done))))); done)) ?_) ?_
    · repeat (first
        | exact Env.le_nil _
        | refine Env.le_cons (AV.le_refl _) ?_
        | refine Env.le_cons (AV.le_int rfl (by first | rfl | omega | (dsimp only; omega))) ?_)
    rintro ⟨A, B⟩ hI
    dsimp only at hI ⊢
    have hAB : A.length + B.length = i := by have := congrArg List.length hI.sort; rw [List.length_append] at this; omega
    rcases List.eq_nil_or_concat A with rfl | ⟨A', y, rfl⟩
    · have hd := hI.done hil (fun y h => by cases h)
      all_goals haveI fA_ : FlagA := ⟨⟩
      all_goals haveI fH_ : FlagH := ⟨⟩
      repeat' (first
        | exact True.intro
        | refine stp ?_
        | refine two ?_ ?_
        | refine allc fun c_ => ?_
        | (refine imp fun hc => ?_) <;> try (first | contradiction | (exfalso; omega) | (exfalso; exact absurd (of_dT hc) (by assumption)) | (exfalso; exact of_dF hc (by assumption)))
        | refine all fun v_ => ?_)
      all_goals clear fA_ fH_
      refine ⟨(i + 1, p), by dsimp only; omega, by dsimp only; omega, VS.take (by dsimp only; rw [← hd]; ((repeat (first | exact Take.nil | ((with_reducible apply Take.cons); (focus ((repeat (first | exact Sel.here | with_reducible apply Sel.there)); done))))); done)) ?_⟩
      repeat (first
        | exact Env.le_nil _
        | refine Env.le_cons (AV.le_refl _) ?_
        | refine Env.le_cons (AV.le_int rfl (by first | rfl | omega | (dsimp only; omega))) ?_)
    · rw [List.concat_eq_append] at hI hAB ⊢
      have hAl : (A' ++ [y]).length = A'.length + 1 := by simp
      have hRl : (A' ++ [y] ++ l[i] :: B).length = A'.length + B.length + 2 := by simp; omega
      have g1 : ∀ h : A'.length + 1 < (A' ++ [y] ++ l[i] :: B).length, (A' ++ [y] ++ l[i] :: B)[A'.length + 1]'h = l[i] := fun h => by simp
      have g2 : ∀ h : (((A'.length + 1 : Nat) : Int) - 1).toNat < (A' ++ [y] ++ l[i] :: B).length, (A' ++ [y] ++ l[i] :: B)[(((A'.length + 1 : Nat) : Int) - 1).toNat]'h = y := fun h => by
        have e : (((A'.length + 1 : Nat) : Int) - 1).toNat = A'.length := by omega
        simp only [e]; simp
      rw [hAl] at hAB ⊢
      by_cases hxy : l[i] < y
      · have hlt : (A' ++ [y] ++ l[i] :: B)[A'.length + 1]'(by omega) < (A' ++ [y] ++ l[i] :: B)[(((A'.length + 1 : Nat) : Int) - 1).toNat]'(by omega) := by rw [g1, g2]; exact hxy
        all_goals haveI fA_ : FlagA := ⟨⟩
        all_goals haveI fH_ : FlagH := ⟨⟩
        repeat' (first
          | exact True.intro
          | refine stp ?_
          | refine two ?_ ?_
          | refine allc fun c_ => ?_
          | (refine imp fun hc => ?_) <;> try (first | contradiction | (exfalso; omega) | (exfalso; exact absurd (of_dT hc) (by assumption)) | (exfalso; exact of_dF hc (by assumption)))
          | refine all fun v_ => ?_)
        all_goals clear fA_ fH_
        have e2 : (((A'.length + 1 : Nat) : Int) - 1).toNat = A'.length := by omega
        have esw : ((A' ++ [y] ++ l[i] :: B).set (A'.length + 1) (A' ++ [y] ++ l[i] :: B)[(((A'.length + 1 : Nat) : Int) - 1).toNat]).set (((A'.length + 1 : Nat) : Int) - 1).toNat (A' ++ [y] ++ l[i] :: B)[A'.length + 1] = A' ++ l[i] :: y :: B := by
          rw [g1, g2, e2, mid_swap]
        refine ⟨(A', y :: B), hI.swap hxy, by dsimp only; omega, VS.take (by dsimp only; rw [esw]; ((repeat (first | exact Take.nil | ((with_reducible apply Take.cons); (focus ((repeat (first | exact Sel.here | with_reducible apply Sel.there)); done))))); done)) ?_⟩
        repeat (first
          | exact Env.le_nil _
          | refine Env.le_cons (AV.le_refl _) ?_
          | refine Env.le_cons (AV.le_int rfl (by first | rfl | omega | (dsimp only; omega))) ?_)
      · have hlt : ¬ (A' ++ [y] ++ l[i] :: B)[A'.length + 1]'(by omega) < (A' ++ [y] ++ l[i] :: B)[(((A'.length + 1 : Nat) : Int) - 1).toNat]'(by omega) := by rw [g1, g2]; exact hxy
        have hd := hI.done hil (fun z hz => by simp at hz; omega)
        all_goals haveI fA_ : FlagA := ⟨⟩
        all_goals haveI fH_ : FlagH := ⟨⟩
        repeat' (first
          | exact True.intro
          | refine stp ?_
          | refine two ?_ ?_
          | refine allc fun c_ => ?_
          | (refine imp fun hc => ?_) <;> try (first | contradiction | (exfalso; omega) | (exfalso; exact absurd (of_dT hc) (by assumption)) | (exfalso; exact of_dF hc (by assumption)))
          | refine all fun v_ => ?_)
        all_goals clear fA_ fH_
        refine ⟨(i + 1, p), by dsimp only; omega, by dsimp only; omega, VS.take (by dsimp only; rw [← hd]; ((repeat (first | exact Take.nil | ((with_reducible apply Take.cons); (focus ((repeat (first | exact Sel.here | with_reducible apply Sel.there)); done))))); done)) ?_⟩
        repeat (first
          | exact Env.le_nil _
          | refine Env.le_cons (AV.le_refl _) ?_
          | refine Env.le_cons (AV.le_int rfl (by first | rfl | omega | (dsimp only; omega))) ?_)
  obtain rfl : i = l.length := by omega
  rw [List.take_length]
  all_goals haveI fA_ : FlagA := ⟨⟩
  repeat' (first
    | exact True.intro
    | refine stp ?_
    | refine two ?_ ?_
    | (refine imp fun hc => ?_) <;> try (first | contradiction | (exfalso; omega))
    | refine all fun v_ => ?_)
  all_goals clear fA_
  refine retv (VS.take (hc := [rowE q.v 3 1 intC (sortI l)]) (by ((repeat (first | exact Take.nil | ((with_reducible apply Take.cons); (focus ((repeat (first | exact Sel.here | with_reducible apply Sel.there)); done))))); done)) (Env.le_refl _)) ?_
  ((with_reducible apply rq1); rfl; rfl)
  exact ⟨q, rfl, rfl⟩
theorem numbersUpD (G : List (Nat × List D)) (l : List Int) (hl : l.length ≤ 1000000) : ACr Try.prog G 46 [.d (intsD l)] (.d (intsD (sortI l))) :=
  AC.frz 8 (numbersUp G l hl) rfl (fun _ => rfl) (by rw [sortI_len]; omega)
theorem numbers (G : List (Nat × List D)) (l : List Int) : AC Try.prog G 52 [.d (intsD l)] [] fun r h => ∃ q : Sl, r = .ret (.val q.v) ∧ h = [rowE q.v 3 1 intC l] := by
  refine AC_ofV (ts := [2]) Try.f52.ntmps Try.func52 rfl rfl rfl (by simp [Try.ntmps52]) fun W I => ?_
  refine jfact (t := 0) rfl fun hl => ?_
  refine jrow (E := 3) (sz := 1) intC ?_
  all_goals haveI fA_ : FlagA := ⟨⟩
  repeat' (first
    | exact True.intro
    | refine stp ?_
    | refine two ?_ ?_
    | (refine imp fun hc => ?_) <;> try (first | contradiction | (exfalso; omega))
    | refine all fun v_ => ?_)
  all_goals clear fA_
  refine J_loopV (X := Nat × Sl) (fun y => [(0, .d (intsD l)), (3, .val y.2.v), (4, .int y.1)]) (fun y => [rowE y.2.v 3 1 intC (l.take y.1)]) (fun y => y.1 ≤ l.length) (fun y => l.length - y.1) (0, Sl.nil) (Nat.zero_le _) (VS.take (by ((repeat (first | exact Take.nil | ((with_reducible apply Take.cons); (focus ((repeat (first | exact Sel.here | with_reducible apply Sel.there)); done))))); done)) ?_) ?_
  · repeat (first
      | exact Env.le_nil _
      | refine Env.le_cons (AV.le_refl _) ?_
      | refine Env.le_cons (AV.le_int rfl (by first | rfl | omega | (dsimp only; omega))) ?_)
  rintro ⟨i, q⟩ hi
  dsimp only at hi ⊢
  by_cases hil : i < l.length
  · have et : l.take i ++ [l[i]] = l.take (i + 1) := (List.take_succ_eq_append_getElem hil).symm
    have hlen : (l.take i).length = i := by rw [List.length_take]; omega
    all_goals haveI fA_ : FlagA := ⟨⟩
    repeat' (first
      | exact True.intro
      | refine stp ?_
      | refine two ?_ ?_
      | (refine imp fun hc => ?_) <;> try (first | contradiction | (exfalso; omega))
      | refine all fun v_ => ?_)
    all_goals clear fA_
    refine ⟨(i + 1, v_), by dsimp only; omega, by dsimp only; omega, VS.take (by dsimp only; rw [← et]; ((repeat (first | exact Take.nil | ((with_reducible apply Take.cons); (focus ((repeat (first | exact Sel.here | with_reducible apply Sel.there)); done))))); done)) ?_⟩
    repeat (first
      | exact Env.le_nil _
      | refine Env.le_cons (AV.le_refl _) ?_
      | refine Env.le_cons (AV.le_int rfl (by first | rfl | omega | (dsimp only; omega))) ?_)
  obtain rfl : i = l.length := by omega
  rw [List.take_length]
  all_goals haveI fA_ : FlagA := ⟨⟩
  repeat' (first
    | exact True.intro
    | refine stp ?_
    | refine two ?_ ?_
    | (refine imp fun hc => ?_) <;> try (first | contradiction | (exfalso; omega))
    | refine all fun v_ => ?_)
  all_goals clear fA_
  refine retv (VS.take (hc := [rowE q.v 3 1 intC l]) (by ((repeat (first | exact Take.nil | ((with_reducible apply Take.cons); (focus ((repeat (first | exact Sel.here | with_reducible apply Sel.there)); done))))); done)) (Env.le_refl _)) ?_
  ((with_reducible apply rq1); rfl; rfl)
  exact ⟨q, rfl, rfl⟩
theorem keysOf (G : List (Nat × List D)) (s : Sto) (hl : s.loose.length ≤ 1000000) (hr : s.runs.flatten.length ≤ 1000000) (hR : s.runs.length ≤ 1000000) : ACr Try.prog G 45 [stA s] (.d (intsD (keysL s))) := by
  refine AC_ofV (ts := [2]) Try.f45.ntmps Try.func45 rfl rfl rfl (by simp [Try.ntmps45]) fun W I => ?_
  refine jrow (E := 3) (sz := 1) intC ?_
  all_goals haveI fA_ : FlagA := ⟨⟩
  repeat' (first
    | exact True.intro
    | refine stp ?_
    | refine two ?_ ?_
    | (refine imp fun hc => ?_) <;> try (first | contradiction | (exfalso; omega))
    | refine all fun v_ => ?_)
  all_goals clear fA_
  obtain ⟨bs, rfl⟩ : ∃ x, x = v_ := ⟨v_, rfl⟩
  refine J_loopV (X := Nat × Sl) (fun y => [(1, .val (.pointer (some ⟨bs, 0, none⟩))), (3, .val y.2.v), (4, .int y.1)]) (fun y => [rowE y.2.v 3 1 intC (s.runs.take y.1).flatten, .cells bs 39 [.d (intsD s.loose), .d (listsD s.runs)]]) (fun y => y.1 ≤ s.runs.length) (fun y => s.runs.length - y.1) (0, Sl.nil) (Nat.zero_le _) (VS.take (by ((repeat (first | exact Take.nil | ((with_reducible apply Take.cons); (focus ((repeat (first | exact Sel.here | with_reducible apply Sel.there)); done))))); done)) ?_) ?_
  · repeat (first
      | exact Env.le_nil _
      | refine Env.le_cons (AV.le_refl _) ?_
      | refine Env.le_cons (AV.le_int rfl (by first | rfl | omega | (dsimp only; omega))) ?_)
  rintro ⟨i, q⟩ hi
  dsimp only at hi ⊢
  by_cases hil : i < s.runs.length
  · have hfl := flat_succ s.runs i hil
    have hle := flat_le s.runs (i + 1)
    rw [hfl, List.length_append] at hle
    all_goals haveI fA_ : FlagA := ⟨⟩
    repeat' (first
      | exact True.intro
      | refine stp ?_
      | refine two ?_ ?_
      | (refine imp fun hc => ?_) <;> try (first | contradiction | (exfalso; omega))
      | refine all fun v_ => ?_)
    all_goals clear fA_
    refine J_loopV (X := Nat × Sl) (fun y => [(1, .val (.pointer (some ⟨bs, 0, none⟩))), (3, .val y.2.v), (4, .int i), (5, .int y.1)]) (fun y => [rowE y.2.v 3 1 intC ((s.runs.take i).flatten ++ s.runs[i].take y.1), .cells bs 39 [.d (intsD s.loose), .d (listsD s.runs)]]) (fun y => y.1 ≤ s.runs[i].length) (fun y => s.runs[i].length - y.1) (0, q) (Nat.zero_le _) (VS.take (by dsimp only; rw [List.take_zero, List.append_nil]; ((repeat (first | exact Take.nil | ((with_reducible apply Take.cons); (focus ((repeat (first | exact Sel.here | with_reducible apply Sel.there)); done))))); done)) ?_) ?_
    · repeat (first
        | exact Env.le_nil _
        | refine Env.le_cons (AV.le_refl _) ?_
        | refine Env.le_cons (AV.le_int rfl (by first | rfl | omega | (dsimp only; omega))) ?_)
    rintro ⟨k, p⟩ hk
    dsimp only at hk ⊢
    by_cases hkl : k < s.runs[i].length
    · have et : (s.runs.take i).flatten ++ s.runs[i].take k ++ [s.runs[i][k]] = (s.runs.take i).flatten ++ s.runs[i].take (k + 1) := by rw [List.append_assoc, List.take_succ_eq_append_getElem hkl]
      have hlen : ((s.runs.take i).flatten ++ s.runs[i].take k).length = (s.runs.take i).flatten.length + k := by rw [List.length_append, List.length_take]; omega
      all_goals haveI fA_ : FlagA := ⟨⟩
      repeat' (first
        | exact True.intro
        | refine stp ?_
        | refine two ?_ ?_
        | (refine imp fun hc => ?_) <;> try (first | contradiction | (exfalso; omega))
        | refine all fun v_ => ?_)
      all_goals clear fA_
      refine ⟨(k + 1, v_), by dsimp only; omega, by dsimp only; omega, VS.take (by dsimp only; rw [← et]; ((repeat (first | exact Take.nil | ((with_reducible apply Take.cons); (focus ((repeat (first | exact Sel.here | with_reducible apply Sel.there)); done))))); done)) ?_⟩
      repeat (first
        | exact Env.le_nil _
        | refine Env.le_cons (AV.le_refl _) ?_
        | refine Env.le_cons (AV.le_int rfl (by first | rfl | omega | (dsimp only; omega))) ?_)
    obtain rfl : k = s.runs[i].length := by omega
    rw [List.take_length, ← hfl]
    all_goals haveI fA_ : FlagA := ⟨⟩
    repeat' (first
      | exact True.intro
      | refine stp ?_
      | refine two ?_ ?_
      | (refine imp fun hc => ?_) <;> try (first | contradiction | (exfalso; omega))
      | refine all fun v_ => ?_)
    all_goals clear fA_
    refine ⟨(i + 1, p), by dsimp only; omega, by dsimp only; omega, VS.take (by ((repeat (first | exact Take.nil | ((with_reducible apply Take.cons); (focus ((repeat (first | exact Sel.here | with_reducible apply Sel.there)); done))))); done)) ?_⟩
    repeat (first
      | exact Env.le_nil _
      | refine Env.le_cons (AV.le_refl _) ?_
      | refine Env.le_cons (AV.le_int rfl (by first | rfl | omega | (dsimp only; omega))) ?_)
  obtain rfl : i = s.runs.length := by omega
  rw [List.take_length]
  all_goals haveI fA_ : FlagA := ⟨⟩
  repeat' (first
    | exact True.intro
    | refine stp ?_
    | refine two ?_ ?_
    | (refine imp fun hc => ?_) <;> try (first | contradiction | (exfalso; omega))
    | refine all fun v_ => ?_)
  all_goals clear fA_
  refine J_loopV (X := Nat × Sl) (fun y => [(1, .val (.pointer (some ⟨bs, 0, none⟩))), (3, .val y.2.v), (6, .int y.1)]) (fun y => [rowE y.2.v 3 1 intC (s.runs.flatten ++ s.loose.take y.1), .cells bs 39 [.d (intsD s.loose), .d (listsD s.runs)]]) (fun y => y.1 ≤ s.loose.length) (fun y => s.loose.length - y.1) (0, q) (Nat.zero_le _) (VS.take (by dsimp only; rw [List.take_zero, List.append_nil]; ((repeat (first | exact Take.nil | ((with_reducible apply Take.cons); (focus ((repeat (first | exact Sel.here | with_reducible apply Sel.there)); done))))); done)) ?_) ?_
  · repeat (first
      | exact Env.le_nil _
      | refine Env.le_cons (AV.le_refl _) ?_
      | refine Env.le_cons (AV.le_int rfl (by first | rfl | omega | (dsimp only; omega))) ?_)
  clear q
  rintro ⟨k, q⟩ hk
  dsimp only at hk ⊢
  by_cases hkl : k < s.loose.length
  · have et : s.runs.flatten ++ s.loose.take k ++ [s.loose[k]] = s.runs.flatten ++ s.loose.take (k + 1) := by rw [List.append_assoc, List.take_succ_eq_append_getElem hkl]
    have hlen : (s.runs.flatten ++ s.loose.take k).length = s.runs.flatten.length + k := by rw [List.length_append, List.length_take]; omega
    all_goals haveI fA_ : FlagA := ⟨⟩
    repeat' (first
      | exact True.intro
      | refine stp ?_
      | refine two ?_ ?_
      | (refine imp fun hc => ?_) <;> try (first | contradiction | (exfalso; omega))
      | refine all fun v_ => ?_)
    all_goals clear fA_
    refine ⟨(k + 1, v_), by dsimp only; omega, by dsimp only; omega, VS.take (by dsimp only; rw [← et]; ((repeat (first | exact Take.nil | ((with_reducible apply Take.cons); (focus ((repeat (first | exact Sel.here | with_reducible apply Sel.there)); done))))); done)) ?_⟩
    repeat (first
      | exact Env.le_nil _
      | refine Env.le_cons (AV.le_refl _) ?_
      | refine Env.le_cons (AV.le_int rfl (by first | rfl | omega | (dsimp only; omega))) ?_)
  obtain rfl : k = s.loose.length := by omega
  rw [List.take_length]
  all_goals haveI fA_ : FlagA := ⟨⟩
  repeat' (first
    | exact True.intro
    | refine stp ?_
    | refine two ?_ ?_
    | (refine imp fun hc => ?_) <;> try (first | contradiction | (exfalso; omega))
    | refine all fun v_ => ?_)
  all_goals clear fA_
  refine retv (VS.trans (vfreeze (t := 2) (eb := 8) rfl rfl (fun x => rfl) (by rw [List.length_append]; omega)) (VS.drop (List.nil_sublist _))) ?_
  ((with_reducible apply rq1); rfl; rfl)
  exact ret_eq rfl
theorem CloneS (G : List (Nat × List D)) (xs : List Int) : AC Try.prog G 39 [.d (intsD xs)] [] fun r h => ∃ q : Sl, r = .ret (.val q.v) ∧ h = [rowE q.v 3 1 intC xs] := by
  refine AC_ofV (ts := [2]) Try.f39.ntmps Try.func39 rfl rfl rfl (by simp [Try.ntmps39]) fun W I => ?_
  refine jfact (t := 0) rfl fun hl => ?_
  all_goals haveI fA_ : FlagA := ⟨⟩
  repeat' (first
    | ((with_reducible apply jeq_nil); (focus rfl); (focus rfl); (focus rfl); (focus rfl))
    | ((with_reducible apply (jbuild0S intC)); (focus rfl); (focus (with_reducible exact ElC.h)); (focus rfl))
    | exact True.intro
    | refine stp ?_
    | refine two ?_ ?_
    | (refine imp fun hc => ?_) <;> try (first | contradiction | (exfalso; omega))
    | refine all fun v_ => ?_)
  all_goals clear fA_
  · subst hc
    refine retv (VS.nilrow 3 1) ?_
    ((with_reducible apply rq1); rfl; rfl)
    exact ⟨Sl.nil, rfl, rfl⟩
  · refine retv0 ?_
    ((with_reducible apply rq1); rfl; rfl)
    exact ⟨v_, rfl, rfl⟩
end Go.Proofs.Ytcikppldaepodaa
namespace Go.Av
open Go
set_option linter.unusedVariables false
set_option linter.unusedSimpArgs false
section
variable {k : Kx} {Q : Exit → Env → H → Prop} {ρ : Env} {h : H} {ops : Array Oper} {l : List Oper} {d : Nat} {ty : TypeId} {pos : String} {after : Array Edge}
theorem jmk0 {α : Type} (f : α → List D) {T E : TypeId} {x y : Operand} {n : Nat} {m : Int} {z : Value} {eb : Nat} (hx : evO ρ x = some (.int 0)) (hy : evO ρ y = some (.int m)) (hmn : m = (n : Int)) (hT : k.P.underlying T = some (.slice E)) (hE : El k.P E z 1 eb) (hz1 : z.oneCell' = true)
    (hb : n * eb ≤ 140737488355328) (hm : n ≤ 140737488355328) (hd : Nat.blt d k.n = true)
    (hj : All fun q : Sl => JL k ops l Q ((d, .val q.v) :: ρ) (rowE q.v E 1 f [] :: h)) : JL k ops (⟨some d, .makeSlice T x y, ty, pos, after, none⟩ :: l) Q ρ h := by
  subst hmn
  obtain ⟨i, hi, hz0, hz2, hz3⟩ := hE.get
  refine JL_eff rfl (fun t ht => by cases ht; exact blt hd) fun I a w h1 h2 => ?_
  have e1 := rel_val (h2.ev x) (ev_of_evO hx)
  have e2 := rel_val (h2.ev y) (ev_of_evO hy)
  have hbi : (i.bytes : Int) * (n : Int) ≤ 281474976710656 := by
    rw [hz3]
    have h : ((eb * n : Nat) : Int) ≤ 281474976710656 := by rw [Nat.mul_comm]; omega
    rwa [Int.natCast_mul] at h
  have hrun := run_make (P := k.P) w T E i z hT hi hz0 .i64 .i64 0 (n : Int) (Int.le_refl _) (by omega) hbi (by omega)
  simp only [Int.toNat_natCast, hz2, Nat.mul_one, Int.toNat_zero] at hrun
  have hmc : (madeCells z.cells n).toList.length = n := by simp [madeCells]
  refine ⟨.slice (some ⟨w.heap.size, 0, none⟩) 0 n, w.alloc (.cells (madeCells z.cells n) E), I, .val (Sl.v ⟨some ⟨w.heap.size, 0, none⟩, 0, n⟩), _, ?_, h1.fresh _ (rowE (Sl.v ⟨some ⟨w.heap.size, 0, none⟩, 0, n⟩) E 1 f []) rfl ?_, h2.fresh h1 _, rfl, hj.get ⟨some ⟨w.heap.size, 0, none⟩, 0, n⟩⟩
  · simp [execOp, e1, e2, hrun]
  · refine ⟨[], ⟨by simp, .inr ⟨w.heap.size, n, _, by simp [Sl.v], Nat.zero_le _, heap_alloc_new _ _, by simp, by unfold maxLen; omega, ?_, ?_⟩⟩, ?_⟩
    · simpa using hmc
    · simp
    · trivial
end
end Go.Av
