/- The step of a walk: what each operation does, by the rules. Which of its roads are open is told by what stands in the context: FlagA (memory is made), FlagH (open regions are gone through by what only reads), StopAt n (it stops at an open region that makes memory or calls n times). -/
import Derived.Test.YtnlfhnbcdfdhgaaEl
import Derived.Test.YtnlfhnbcdfdhgaaS1
namespace Go.Av
open Go
set_option linter.unusedVariables false
set_option linter.unusedSimpArgs false
class FlagA : Prop
class FlagH : Prop
class StopAt (n : outParam Nat) : Prop
theorem useA [FlagA] {p : Prop} (h : p) : p := h
theorem useH [FlagH] {p : Prop} (h : p) : p := h
section
variable {k : Kx} {Q : Exit → Env → H → Prop} {ρ : Env} {h : H}
theorem jstopn {n : Nat} [StopAt n] {id : Nat} {l : List Oper} (_hA : Nat.ble n (l.countP fun o => effB o.op) = true) (hj : Stop (J k (.region id l.toArray true) Q ρ h)) : J k (.region id l.toArray true) Q ρ h := hj.get
end
theorem set_ne_get {α : Type} {R : List α} {i j : Nat} {x r : α} (h : R[j]? = some r) (hn : i ≠ j) : (R.set i x)[j]? = some r := by rw [List.getElem?_set_ne hn]; exact h
/-- Whatever the instance. -/
theorem of_dT {p : Prop} {i : Decidable p} (h : @decide p i = true) : p := of_decide_eq_true h
theorem of_dF {p : Prop} {i : Decidable p} (h : @decide p i = false) : ¬ p := of_decide_eq_false h
/-! What closes the small goals of a walk. -/
theorem bndD {p : Prop} (h : p := by (first | omega | (simp only [List.length_map, List.length_range, List.length_append, List.length_cons, List.length_nil, List.length_take, List.length_drop, List.length_set, List.length_replicate]; omega))) : p := h
theorem updD {p : Prop} (h : p := by ((repeat (first | with_reducible exact Upd.here | with_reducible apply Upd.there)); first | done | fail)) : p := h
theorem updqD {p : Prop} (h : p := by (intro q_; (repeat (first | with_reducible exact Upd.here | with_reducible apply Upd.there)); first | done | fail)) : p := h
theorem sarD {p : Prop} (h : p := by ((repeat (first | exact SetAR.nil | apply SetAR.put | apply SetAR.skip)); first | done | fail)) : p := h
theorem memD {p : Prop} (h : p := by ((repeat (first | exact List.mem_cons_self | apply List.mem_cons_of_mem)); first | done | fail)) : p := h
theorem sublD {p : Prop} (h : p := by ((repeat (first | exact List.nil_sublist _ | (with_reducible apply List.Sublist.cons_cons) | apply List.Sublist.cons)); first | done | fail)) : p := h
theorem takedD {p : Prop} (h : p := by ((repeat (first | exact Take.nil | ((with_reducible apply Take.cons); (focus ((repeat (first | exact Sel.here | with_reducible apply Sel.there)); done))))); first | done | fail)) : p := h
theorem leD {p : Prop} (h : p := by
 repeat (first
  | exact Env.le_nil _
  | refine Env.le_cons (AV.le_refl _) ?_
  | refine Env.le_cons (AV.le_int rfl (by first | rfl | omega | (dsimp only; omega))) ?_)
 first | done | fail) : p := h
theorem cx {c q : Prop} (hc : c) (h : c → q := by intro hc; first | contradiction | (exfalso; omega)) : q := h hc
theorem cx1 {c q : Prop} (hc : c) (h : c → q := by intro hc; first | contradiction | (exfalso; omega) | (exfalso; exact absurd (of_dT hc) (by assumption)) | (exfalso; exact of_dF hc (by assumption))) : q := h hc
theorem pureD {p : Prop} (h : p := by
 (first
  | (first
    | ((with_reducible apply pu_move); rfl)
    | ((with_reducible apply pu_assign); rfl)
    | ((with_reducible apply pure_extract); rfl; rfl)
    | ((with_reducible apply pure_lss); rfl; rfl)
    | ((with_reducible apply pure_eql); rfl; rfl)
    | ((with_reducible apply pure_neq); rfl; rfl)
    | ((with_reducible apply pure_eql_bool); rfl; rfl; rfl)
    | ((with_reducible apply pure_neq_bool); rfl; rfl; rfl)
    | ((with_reducible apply pure_geq); rfl; rfl)
    )
  | (first
    | ((with_reducible apply pure_gtr); rfl; rfl)
    | ((with_reducible apply pure_leq); rfl; rfl)
    | ((with_reducible apply pure_add); rfl; rfl; (focus (first | (unfold inI64; omega) | (unfold inI64; simp only [Int.reduceToNat, Int.reducePow]; omega) | assumption)))
    | ((with_reducible apply pure_sub); rfl; rfl; (focus (first | (unfold inI64; omega) | (unfold inI64; simp only [Int.reduceToNat, Int.reducePow]; omega) | assumption)))
    | ((with_reducible apply pure_mul); rfl; rfl; (focus (first | (unfold inI64; omega) | (unfold inI64; simp only [Int.reduceToNat, Int.reducePow]; omega) | assumption)))
    | ((with_reducible apply pure_quo); rfl; rfl; omega; omega; omega)
    | ((with_reducible apply pure_rem); rfl; rfl; omega; omega)
    | ((with_reducible apply pure_shl); rfl; rfl; omega; omega; (focus (first | (unfold inI64; omega) | (unfold inI64; simp only [Int.reduceToNat, Int.reducePow]; omega) | assumption)))
    | ((with_reducible apply pure_shr); rfl; rfl; omega; omega)
    )
  | (first
    | ((with_reducible apply pure_shl_u); rfl; rfl; omega; omega; (focus (first | (unfold inI64; omega) | (unfold inI64; simp only [Int.reduceToNat, Int.reducePow]; omega) | assumption)))
    | ((with_reducible apply pure_shr_u); rfl; rfl; omega; omega)
    | ((with_reducible apply pure_and1); rfl; rfl; omega; omega)
    | ((with_reducible apply pure_and); rfl; rfl)
    | ((with_reducible apply pure_or); rfl; rfl)
    | ((with_reducible apply pure_neg); rfl; (focus (first | (unfold inI64; omega) | (unfold inI64; simp only [Int.reduceToNat, Int.reducePow]; omega) | assumption)))
    | ((with_reducible apply pure_eql_string); rfl; rfl)
    | ((with_reducible apply pure_neq_string); rfl; rfl)
    | ((with_reducible apply pu_pick_true); rfl; rfl)
    )
  | (first
    | ((with_reducible apply pu_pick_false); rfl; rfl)
    | ((with_reducible apply pure_not); rfl)
    | ((with_reducible apply pu_len); rfl; rfl)
    | ((with_reducible apply pure_len); rfl; rfl)
    | ((with_reducible apply pu_max); rfl; rfl)
    | ((with_reducible apply pu_min); rfl; rfl)
    | ((with_reducible apply pu_slice_to3); rfl; rfl; rfl; rfl; (focus (with_reducible exact ElC.h)); omega; (focus exact bndD))
    | ((with_reducible apply pure_index1); rfl; (focus rfl); rfl; (focus (with_reducible exact ElC.h)); (focus exact bndD))
    | ((with_reducible apply pure_index); rfl; rfl; rfl; (focus (with_reducible exact ElC.h)); (focus exact bndD))
    | ((with_reducible apply pure_indexI); rfl; rfl; rfl; (focus (with_reducible exact ElC.h)); omega; (focus exact bndD))
    | ((with_reducible apply pu_func2); rfl; rfl)
    )
  | (first
    | ((with_reducible apply pu_func3); rfl; rfl; rfl)
    | ((with_reducible apply pu_slice); rfl; rfl; rfl; rfl; (focus (with_reducible exact ElC.h)); omega; omega; (focus exact bndD))
    | ((with_reducible apply pu_slice_from); rfl; rfl; rfl; (focus (with_reducible exact ElC.h)); omega; (focus exact bndD))
    | ((with_reducible apply pu_slice_to); rfl; rfl; rfl; (focus (with_reducible exact ElC.h)); omega; (focus exact bndD))
    | ((with_reducible apply pu_index_c1); rfl; rfl; rfl; (focus (with_reducible exact ElC.h)); omega)
    | ((with_reducible apply pu_index_ci1); rfl; rfl; rfl; (focus (with_reducible exact ElC.h)); omega; omega)
    | ((with_reducible apply pu_index_cells); rfl; rfl; (focus (with_reducible exact ElC.h)); rfl; omega; omega)
    | ((with_reducible apply pu_index_row); rfl; rfl; rfl; (focus (with_reducible exact ElC.h)); (focus exact memD); (focus exact bndD))
    | ((with_reducible apply pu_index_rowI); rfl; rfl; rfl; (focus (with_reducible exact ElC.h)); (focus exact memD); omega; (focus exact bndD))
    | ((with_reducible apply pure_fieldAddr); (focus (with_reducible exact FdC.h)); rfl)
    | ((with_reducible apply pure_load); rfl; rfl)
    | ((with_reducible apply pu_load_row); rfl; rfl; (focus (with_reducible exact ElC.h)); rfl)
    | ((with_reducible apply pu_neq2); (focus (with_reducible exact EqC.h)); rfl; rfl)
    )
  | (first
    | ((with_reducible apply pu_nilCheck); rfl)
    | ((with_reducible apply pu_nilCheck_pd); rfl)
    | ((with_reducible apply pu_field_cells); (focus (with_reducible exact FdC.h)); rfl)
    | ((with_reducible apply pu_load_map); rfl; rfl; (focus exact memD); (focus exact bndD))
    | ((with_reducible apply pu_load_cells); rfl; rfl; (focus exact memD); (first | rfl | assumption | ((apply set_ne_get); (focus assumption); (focus (first | omega | exact Nat.ne_of_lt (Nat.lt_succ_self _))))))
    | ((with_reducible apply pu_load_row0); rfl; rfl; (focus exact memD); (focus exact fun _ => rfl); rfl; (focus exact bndD))
    | ((with_reducible apply pu_load_rowu); rfl; rfl; (focus exact memD); (focus exact fun _ => rfl); rfl; (focus exact bndD))
    | ((with_reducible apply pu_field_row); (focus (with_reducible exact FdC.h)); rfl)
    | ((with_reducible apply pu_load_cells_agg); rfl; rfl; (focus (with_reducible exact ElC.h)); (focus exact memD); rfl)
    | ((with_reducible apply pu_iface); (focus (with_reducible exact NifC.h)); rfl)
    | ((with_reducible apply pure_build2); (focus (with_reducible exact BlC.h)); rfl; rfl; rfl; rfl)
    | ((with_reducible apply pu_build); (focus (with_reducible exact BlsC.h)); rfl; rfl; rfl)
    | ((with_reducible apply pu_byte_int); rfl; rfl; rfl)
    )
  | (first
    | ((with_reducible apply pu_int_byte); rfl; rfl; rfl)
    | ((with_reducible apply pu_int_int); rfl; rfl; rfl; (focus (first | (unfold inI64; omega) | (unfold inI64; simp only [Int.reduceToNat, Int.reducePow]; omega) | assumption)))
    | ((with_reducible apply pu_bytes_string); rfl; rfl; rfl; rfl)
    | ((with_reducible apply pu_len_sub); rfl; rfl; (focus exact memD))
    | ((with_reducible apply pu_slice_cut); rfl; rfl; rfl; (focus (with_reducible exact ElC.h)); (focus exact memD); omega; (focus exact bndD))
    | ((with_reducible apply pu_index_cut); rfl; rfl; rfl; (focus (with_reducible exact ElC.h)); (focus exact memD); omega; omega; (focus exact bndD))
    | ((with_reducible apply pu_len_row); rfl; rfl; (focus exact memD))
    | ((with_reducible apply pu_len_cut); rfl; rfl; (focus exact memD))
    | ((with_reducible apply pure_len_nil); rfl; rfl)
    | ((with_reducible apply pu_slice_sub); rfl; rfl; rfl; (focus (with_reducible exact ElC.h)); (focus exact memD); omega; (focus exact bndD))
    | ((with_reducible apply pu_index_sub); rfl; rfl; rfl; (focus (with_reducible exact ElC.h)); (focus exact memD); (focus exact bndD))
    | ((with_reducible apply pu_index_arr); rfl; rfl; rfl; (focus (with_reducible exact ElC.h)); omega; omega)
    )
  )) : p := h
/-! Calls, by what is known of the callee. -/
theorem ca {P C p q : Prop} (k : P) (c : C) (hp : p) (h : P → C → p → q := by
 intro k_ c_
 apply cmp; (focus (first
  | ((with_reducible apply call0); (focus rfl); (focus exact k_); (focus exact c_); (focus rfl))
  | ((with_reducible apply je_call0); (focus rfl); (focus (decide +kernel)); (focus rfl); (focus exact k_); (focus exact c_); (focus rfl))))
 exact fun h => h) : q := h k c hp
theorem cae {P C p q : Prop} (k : P) (c : C) (hp : p) (h : P → C → p → q := by
 intro k_ c_
 apply cmp; (focus (first
  | ((with_reducible apply callE1); (focus rfl); (focus exact k_); (focus exact c_); (focus rfl))
  | ((with_reducible apply je_callE); (focus rfl); (focus (decide +kernel)); (focus rfl); (focus exact k_); (focus exact c_); (focus rfl))))
 exact fun h => h) : q := h k c hp
theorem caq {P C p q : Prop} (k : P) (c : C) (hp : p) (h : P → C → p → q := by
 intro k_ c_
 apply cmp; (focus ((with_reducible apply qcall); (focus rfl); (focus exact k_); (focus exact c_); (focus rfl)))
 exact fun h => h) : q := h k c hp
theorem cag {P C p q : Prop} (k : P) (c : C) (hp : p) (h : P → C → p → q := by
 intro k_ c_
 apply cmp; (focus ((with_reducible apply callG); (focus rfl); (focus exact k_); (focus exact c_); (focus ((repeat (first | with_reducible exact Take.nil | ((with_reducible apply Take.cons); (focus ((repeat (first | with_reducible exact Sel.here | with_reducible apply Sel.there)); done))))); done)); (focus rfl); (focus (intro v_; (repeat (first | exact App.nil | apply App.cons)); done))))
 exact fun h => h) : q := h k c hp
theorem cgv {P C p q : Prop} (k : P) (c : C) (hp : p) (h : P → C → p → q := by
 intro k_ c_
 apply cmp; (focus ((with_reducible apply callGV); (focus rfl); (focus rfl); (focus exact k_); (focus exact c_); (focus ((repeat (first | with_reducible exact Take.nil | ((with_reducible apply Take.cons); (focus ((repeat (first | with_reducible exact Sel.here | with_reducible apply Sel.there)); done))))); done)); (focus rfl); (focus (intro v_; (repeat (first | exact App.nil | apply App.cons)); done))))
 exact fun h => h) : q := h k c hp
end Go.Av
namespace Go.Proofs.Ytnlfhnbcdfdhgaa
open Go Go.Av
set_option linter.unusedVariables false
set_option linter.unusedSimpArgs false
set_option maxRecDepth 100000
set_option maxHeartbeats 4000000

/-- Memory is made. -/
theorem allocF {p q : Prop} (h : p → q := by
 apply cmp; (focus (first
  | ((with_reducible apply jboxT); (focus rfl); (focus rfl); (focus rfl))
  | ((with_reducible apply jalloc1T); (focus (with_reducible exact ElC.h)); (focus rfl); (focus rfl))
  | ((with_reducible apply jallocN); (focus (with_reducible exact ElC.h)); (focus rfl))
  | ((with_reducible apply jmk_bool); (focus rfl); (focus rfl); (focus (with_reducible exact ElC.h)); (focus omega); (focus omega); (focus rfl))
  | ((with_reducible apply jmk_int); (focus rfl); (focus rfl); (focus (with_reducible exact ElC.h)); (focus omega); (focus omega); (focus rfl))
  | ((with_reducible apply js_um); (focus rfl); (focus exact updD); (focus rfl); (focus rfl); (focus (with_reducible exact ElC.h)); (focus exact bndD))
  | ((with_reducible apply js_uw); (focus rfl); (focus rfl); (focus rfl); (focus (with_reducible exact ElC.h)); (focus rfl); (focus exact updD); (focus rfl))
  | ((with_reducible apply js_ur); (focus rfl); (focus rfl); (focus rfl); (focus (with_reducible exact ElC.h)); (focus exact updD); (focus exact sarD))
  | ((with_reducible apply js_us); (focus rfl); (focus rfl); (focus rfl); (focus (with_reducible exact ElC.h)); (focus rfl); (focus exact updD); (focus exact sarD))
  ))
 exact fun h => h) : p → q := h
theorem allocD {p q : Prop} (hp : p) (h : p → q := by exact allocF) : q := h hp
/-- One step of a walk; what is left of it comes first. -/
theorem stp {p q : Prop} (hp : p) (h : p → q := by
 repeat1' (apply cmp; (focus (first
  | ((with_reducible apply jstopn); (focus (decide +kernel)))
  | ((refine useA ?_); (first
   | ((with_reducible apply japU1); (focus rfl); (focus rfl); (focus (with_reducible exact ElC.h)); (focus exact updqD); (focus rfl); (focus rfl); (focus rfl); (focus rfl); (focus exact bndD); (focus exact bndD))
   | ((with_reducible apply japU); (focus rfl); (focus rfl); (focus (with_reducible exact ElC.h)); (focus exact updqD); (focus rfl); (focus rfl); (focus rfl); (focus rfl); (focus exact bndD); (focus exact bndD))
   | exact allocF
   | ((with_reducible apply js_inc); (focus rfl); (focus rfl); (focus (with_reducible exact ElC.h)); (focus exact updD); (focus exact fun _ => rfl); (focus rfl); (focus exact bndD))
   | ((with_reducible apply js_row1); (focus rfl); (focus rfl); (focus (with_reducible exact ElC.h)); (focus rfl); (focus exact updD); (focus rfl); (focus exact fun _ => rfl); (focus exact bndD))
   | ((with_reducible apply js_cut); (focus rfl); (focus rfl); (focus rfl); (focus (with_reducible exact ElC.h)); (focus exact updqD); (focus exact fun _ => rfl); (focus omega); (focus exact bndD); (focus rfl))
   ))
  | ((refine useH ?_); (first
   | (first
    | ((with_reducible apply J_region_HA); (focus exact mixed); (focus rfl); (focus ((repeat ((with_reducible apply Hd.cons); (focus rfl))); exact Hd.nil)); (focus ((repeat (with_reducible apply len_cons)); exact len_nil)); (focus (decide +kernel)))
    | ((with_reducible apply jh_done); (focus (decide +kernel)); (focus ((repeat (with_reducible apply App.cons)); exact App.nil)))
    | ((with_reducible apply jh_pure); (focus rfl); (focus (decide +kernel)); (focus exact pureD); (focus rfl))
    | ((with_reducible apply jh_gy); (focus rfl); (focus rfl); (focus rfl); (focus rfl); (focus rfl); (focus (decide +kernel)); (focus exact pureD); (focus rfl))
    | ((with_reducible apply jh_gn); (focus rfl); (focus rfl); (focus rfl); (focus rfl); (focus rfl); (focus (decide +kernel)); (focus rfl))
    | ((with_reducible apply jh_gu); (focus rfl); (focus rfl); (focus rfl); (focus rfl); (focus (decide +kernel)); (focus rfl))
    | ((with_reducible apply jh_split); (focus rfl); (focus rfl); (focus rfl); (focus rfl); (focus (decide +kernel)))
    | with_reducible apply jh_skip
    | with_reducible apply jh_wrap
    | ((with_reducible apply jh_end); (focus (decide +kernel)); (focus (decide +kernel)))
    | with_reducible exact jhs_nil
    | ((with_reducible apply jhs_no); (focus (decide +kernel)))
    | ((with_reducible apply jhs_yes); (focus rfl))
    | with_reducible apply jh_nil
    )
   ))
  | (first
    | (first
     | with_reducible exact JL_nil
     | ((with_reducible apply jp); (focus exact pureD); (focus rfl))
     | ((with_reducible apply jgt); (focus rfl); (focus rfl); (focus rfl); (focus rfl); (focus rfl))
     | ((with_reducible apply jgf); (focus rfl); (focus rfl); (focus rfl); (focus rfl); (focus rfl))
     | ((with_reducible apply jgu); (focus rfl); (focus rfl); (focus rfl); (focus rfl))
     | ((with_reducible apply jqu); (focus rfl); (focus rfl); (focus rfl); (focus rfl))
     | with_reducible exact tq_normal
     | with_reducible exact tq_ret
     | with_reducible exact tq_exit
     )
    | (first
     | with_reducible exact tq_panic
     | with_reducible exact bq_normal
     | with_reducible exact bq_ret
     | with_reducible exact bq_exit
     | ((with_reducible apply bq_exit'); (focus decide))
     | with_reducible exact bq_panic
     | ((with_reducible apply jpan); (focus rfl))
     | with_reducible exact J_seq
     | with_reducible exact J_region
     )
    | (first
     | ((with_reducible apply J_region_anyA); (focus exact mixed); (focus rfl); (focus ((repeat (with_reducible apply len_cons)); exact len_nil)); (focus (decide +kernel)))
     )
    | (first
     | ((with_reducible apply (J_region_mix 0)); (focus exact mixed); (focus rfl); (focus ((repeat (with_reducible apply len_cons)); exact len_nil)); (focus (decide +kernel)); (focus ((repeat (with_reducible apply Mix.cons)); exact Mix.nil)))
     | ((with_reducible apply (J_region_mix 1)); (focus exact mixed); (focus rfl); (focus ((repeat (with_reducible apply len_cons)); exact len_nil)); (focus (decide +kernel)); (focus ((repeat (with_reducible apply Mix.cons)); exact Mix.nil)))
     | ((with_reducible apply (J_region_mix 2)); (focus exact mixed); (focus rfl); (focus ((repeat (with_reducible apply len_cons)); exact len_nil)); (focus (decide +kernel)); (focus ((repeat (with_reducible apply Mix.cons)); exact Mix.nil)))
     | ((with_reducible apply (J_region_mix 3)); (focus exact mixed); (focus rfl); (focus ((repeat (with_reducible apply len_cons)); exact len_nil)); (focus (decide +kernel)); (focus ((repeat (with_reducible apply Mix.cons)); exact Mix.nil)))
     | ((with_reducible apply (J_region_mix 4)); (focus exact mixed); (focus rfl); (focus ((repeat (with_reducible apply len_cons)); exact len_nil)); (focus (decide +kernel)); (focus ((repeat (with_reducible apply Mix.cons)); exact Mix.nil)))
     | ((with_reducible apply (J_region_mix 5)); (focus exact mixed); (focus rfl); (focus ((repeat (with_reducible apply len_cons)); exact len_nil)); (focus (decide +kernel)); (focus ((repeat (with_reducible apply Mix.cons)); exact Mix.nil)))
     | ((with_reducible apply (J_region_mix 6)); (focus exact mixed); (focus rfl); (focus ((repeat (with_reducible apply len_cons)); exact len_nil)); (focus (decide +kernel)); (focus ((repeat (with_reducible apply Mix.cons)); exact Mix.nil)))
     | ((with_reducible apply (J_region_mix 7)); (focus exact mixed); (focus rfl); (focus ((repeat (with_reducible apply len_cons)); exact len_nil)); (focus (decide +kernel)); (focus ((repeat (with_reducible apply Mix.cons)); exact Mix.nil)))
     | ((with_reducible apply (J_region_mix 8)); (focus exact mixed); (focus rfl); (focus ((repeat (with_reducible apply len_cons)); exact len_nil)); (focus (decide +kernel)); (focus ((repeat (with_reducible apply Mix.cons)); exact Mix.nil)))
     )
    | (first
     | with_reducible exact J_block
     | ((with_reducible apply J_region_tail); (focus exact mixed); (focus ((repeat (with_reducible apply len_cons)); exact len_nil)); (focus (decide +kernel)))
     | ((with_reducible apply (J_region_tailT 2)); (focus exact mixed); (focus ((repeat (with_reducible apply len_cons)); exact len_nil)); (focus (decide +kernel)))
     | ((with_reducible apply (J_region_tailT 3)); (focus exact mixed); (focus ((repeat (with_reducible apply len_cons)); exact len_nil)); (focus (decide +kernel)))
     | ((with_reducible apply (J_region_tailT 4)); (focus exact mixed); (focus ((repeat (with_reducible apply len_cons)); exact len_nil)); (focus (decide +kernel)))
     | ((with_reducible apply (J_region_tailT 5)); (focus exact mixed); (focus ((repeat (with_reducible apply len_cons)); exact len_nil)); (focus (decide +kernel)))
     | ((with_reducible apply (J_region_tailT 6)); (focus exact mixed); (focus ((repeat (with_reducible apply len_cons)); exact len_nil)); (focus (decide +kernel)))
     | ((with_reducible apply (J_region_tailT 7)); (focus exact mixed); (focus ((repeat (with_reducible apply len_cons)); exact len_nil)); (focus (decide +kernel)))
     | ((with_reducible apply J_region_draw); (focus exact mixed); (focus (decide +kernel)); (focus ((repeat (with_reducible apply len_cons)); exact len_nil)))
     | with_reducible exact JQ_nil
     | ((with_reducible apply jqp); (focus exact pureD); (focus rfl))
     | ((with_reducible apply jqt); (focus rfl); (focus rfl); (focus rfl); (focus rfl); (focus rfl))
     | ((with_reducible apply jqf); (focus rfl); (focus rfl); (focus rfl); (focus rfl); (focus rfl))
     | (first
      | ((with_reducible apply jbuild_byte); (focus rfl); (focus rfl); (focus (with_reducible exact ElC.h)); (focus rfl); (focus rfl))
      | ((with_reducible apply jbuild_int); (focus rfl); (focus rfl); (focus (with_reducible exact ElC.h)); (focus rfl); (focus rfl))
      | ((with_reducible apply jbuild_bool); (focus rfl); (focus rfl); (focus (with_reducible exact ElC.h)); (focus rfl); (focus rfl))
      | ((with_reducible apply jbuild_list); (focus rfl); (focus rfl); (focus (with_reducible exact ElC.h)); (focus rfl); (focus rfl))
      | ((with_reducible apply jbuild_agg); (focus rfl); (focus rfl); (focus (with_reducible exact ElC.h)); (focus rfl); (focus rfl); (focus rfl); (focus rfl); (focus rfl))
      | ((with_reducible apply jbuild_two); (focus rfl); (focus rfl); (focus (with_reducible exact ElC.h)); (focus rfl); (focus rfl)))
     | ((with_reducible apply japp); (focus rfl); (focus rfl); (focus rfl); (focus (with_reducible exact ElC.h)); (focus rfl); (focus rfl); (focus rfl); (focus exact bndD); (focus exact bndD))
     )
    | (first
     | ((with_reducible apply japp_copy); (focus rfl); (focus rfl); (focus rfl); (focus (with_reducible exact ElC.h)); (focus rfl); (focus rfl); (focus rfl); (focus exact fun _ => rfl); (focus exact bndD); (focus exact bndD))
     | with_reducible exact J_skip
     | with_reducible exact J_ret
     | with_reducible exact J_exit
     | ((with_reducible apply jcond); (focus rfl))
     | with_reducible exact cb_true
     | with_reducible exact cb_false
     | with_reducible exact cb_decT
     | with_reducible exact cb_not
     )
    | (first
     | with_reducible exact cb_splitT
     )
    | (first
     | ((with_reducible apply je_q); (focus rfl); (focus (decide +kernel)); (focus exact pureD); (focus rfl))
     | ((with_reducible apply je_qy); (focus rfl); (focus rfl); (focus rfl); (focus rfl); (focus rfl); (focus (decide +kernel)); (focus exact pureD); (focus rfl))
     | ((with_reducible apply je_gt); (focus rfl); (focus rfl); (focus rfl); (focus rfl); (focus rfl); (focus (decide +kernel)); (focus rfl))
     | ((with_reducible apply je_gf); (focus rfl); (focus rfl); (focus rfl); (focus rfl); (focus rfl); (focus (decide +kernel)); (focus rfl))
     | ((with_reducible apply je_gu); (focus rfl); (focus rfl); (focus rfl); (focus rfl); (focus (decide +kernel)); (focus rfl))
     | ((with_reducible apply je_done); (focus (decide +kernel)))
     | ((with_reducible apply je_swap); (focus ((repeat (with_reducible apply Rv.cons)); exact Rv.nil)))
     | ((with_reducible apply je_hold); (focus (decide +kernel)))
     )
    | (first
     | ((with_reducible apply J_region_any); (focus exact mixed); (focus rfl); (focus ((repeat (with_reducible apply len_cons)); exact len_nil)); (focus (decide +kernel)))
     | ((with_reducible apply jxp_done); (focus (decide +kernel)))
     | ((with_reducible apply jxp_move); (focus rfl); (focus (decide +kernel)); (focus rfl); (focus rfl))
     | ((with_reducible apply jxp_assign); (focus rfl); (focus (decide +kernel)); (focus rfl); (focus rfl))
     | ((with_reducible apply jxp_extract); (focus rfl); (focus (decide +kernel)); (focus rfl); (focus rfl); (focus rfl))
     | with_reducible apply jxp_next
     | ((with_reducible apply jxp_end); (focus (decide +kernel)); (focus rfl))
     | with_reducible exact jxs_nil
     | ((with_reducible apply jxs_no); (focus (decide +kernel)))
     | ((with_reducible apply jxs_yesT); (focus rfl))
     | with_reducible apply jxp_nil
     | with_reducible apply jxand
     )
    ))))
 exact fun h => h) : q := h hp
end Go.Proofs.Ytnlfhnbcdfdhgaa
