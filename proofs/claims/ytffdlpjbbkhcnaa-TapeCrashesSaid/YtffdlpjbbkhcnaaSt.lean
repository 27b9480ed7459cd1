/- The step of a walk: what each operation does, by the rules. -/
import Derived.Test.YtffdlpjbbkhcnaaEl
import Derived.Test.YtffdlpjbbkhcnaaSb
namespace Go.Proofs.Ytffdlpjbbkhcnaa
open Go Go.Av
set_option maxRecDepth 100000

/-- One step of a walk; what is left of it comes first. -/
theorem stp {p q : Prop} (hp : p) (h : p → q := by
  repeat1' (apply cmp; (focus (first
                                | (first
                                  | with_reducible exact JL_nil
                                  | ((with_reducible apply jp); (focus (first
                                                                         | (first
                                                                           | ((with_reducible apply pu_move); rfl)
                                                                           | ((with_reducible apply pu_assign); rfl)
                                                                           | ((with_reducible apply pure_extract); rfl; rfl)
                                                                           | ((with_reducible apply pure_lss); rfl; rfl)
                                                                           | ((with_reducible apply pure_eql); rfl; rfl)
                                                                           | ((with_reducible apply pure_neq); rfl; rfl)
                                                                           | ((with_reducible apply pure_eql_bool); rfl; rfl; rfl)
                                                                           | ((with_reducible apply pure_neq_bool); rfl; rfl; rfl)
                                                                           | ((with_reducible apply pure_geq); rfl; rfl)
                                                                           )
                                                                         | (first
                                                                           | ((with_reducible apply pure_gtr); rfl; rfl)
                                                                           | ((with_reducible apply pure_leq); rfl; rfl)
                                                                           | ((with_reducible apply pure_add); rfl; rfl; (focus (first | (unfold inI64; omega) | assumption)))
                                                                           | ((with_reducible apply pure_sub); rfl; rfl; (focus (first | (unfold inI64; omega) | assumption)))
                                                                           | ((with_reducible apply pure_mul); rfl; rfl; (focus (first | (unfold inI64; omega) | assumption)))
                                                                           | ((with_reducible apply pure_quo); rfl; rfl; omega; omega; omega)
                                                                           | ((with_reducible apply pure_rem); rfl; rfl; omega; omega)
                                                                           | ((with_reducible apply pure_shl); rfl; rfl; omega; omega; (focus (first | (unfold inI64; omega) | assumption)))
                                                                           | ((with_reducible apply pure_shr); rfl; rfl; omega; omega)
                                                                           )
                                                                         | (first
                                                                           | ((with_reducible apply pure_shl_u); rfl; rfl; omega; omega; (focus (first | (unfold inI64; omega) | assumption)))
                                                                           | ((with_reducible apply pure_shr_u); rfl; rfl; omega; omega)
                                                                           | ((with_reducible apply pure_and1); rfl; rfl; omega; omega)
                                                                           | ((with_reducible apply pure_and); rfl; rfl)
                                                                           | ((with_reducible apply pure_or); rfl; rfl)
                                                                           | ((with_reducible apply pure_neg); rfl; (focus (first | (unfold inI64; omega) | assumption)))
                                                                           | ((with_reducible apply pure_eql_string); rfl; rfl)
                                                                           | ((with_reducible apply pure_neq_string); rfl; rfl)
                                                                           | ((with_reducible apply pu_pick_true); rfl; rfl)
                                                                           )
                                                                         | (first
                                                                           | ((with_reducible apply pu_pick_false); rfl; rfl)
                                                                           | ((with_reducible apply pure_not); rfl)
                                                                           | ((with_reducible apply pu_len); rfl; rfl)
                                                                           | ((with_reducible apply pure_len); rfl; rfl)
                                                                           | ((with_reducible apply pu_max); rfl; rfl)
                                                                           | ((with_reducible apply pu_min); rfl; rfl)
                                                                           | ((with_reducible apply pu_slice_to3); rfl; rfl; rfl; rfl; (focus (with_reducible exact ElC.h)); omega; (focus (first | omega | (simp only [List.length_map, List.length_range, List.length_append, List.length_cons, List.length_nil, List.length_take, List.length_drop, List.length_set, List.length_replicate]; omega))))
                                                                           | ((with_reducible apply pure_index1); rfl; (focus rfl); rfl; (focus (with_reducible exact ElC.h)); (focus (first | omega | (simp only [List.length_map, List.length_range, List.length_append, List.length_cons, List.length_nil, List.length_take, List.length_drop, List.length_set, List.length_replicate]; omega))))
                                                                           | ((with_reducible apply pure_index); rfl; rfl; rfl; (focus (with_reducible exact ElC.h)); (focus (first | omega | (simp only [List.length_map, List.length_range, List.length_append, List.length_cons, List.length_nil, List.length_take, List.length_drop, List.length_set, List.length_replicate]; omega))))
                                                                           | ((with_reducible apply pure_indexI); rfl; rfl; rfl; (focus (with_reducible exact ElC.h)); omega; (focus (first | omega | (simp only [List.length_map, List.length_range, List.length_append, List.length_cons, List.length_nil, List.length_take, List.length_drop, List.length_set, List.length_replicate]; omega))))
                                                                           | ((with_reducible apply pu_func2); rfl; rfl)
                                                                           )
                                                                         | (first
                                                                           | ((with_reducible apply pu_func3); rfl; rfl; rfl)
                                                                           | ((with_reducible apply pu_slice); rfl; rfl; rfl; rfl; (focus (with_reducible exact ElC.h)); omega; omega; (focus (first | omega | (simp only [List.length_map, List.length_range, List.length_append, List.length_cons, List.length_nil, List.length_take, List.length_drop, List.length_set, List.length_replicate]; omega))))
                                                                           | ((with_reducible apply pu_slice_from); rfl; rfl; rfl; (focus (with_reducible exact ElC.h)); omega; (focus (first | omega | (simp only [List.length_map, List.length_range, List.length_append, List.length_cons, List.length_nil, List.length_take, List.length_drop, List.length_set, List.length_replicate]; omega))))
                                                                           | ((with_reducible apply pu_slice_to); rfl; rfl; rfl; (focus (with_reducible exact ElC.h)); omega; (focus (first | omega | (simp only [List.length_map, List.length_range, List.length_append, List.length_cons, List.length_nil, List.length_take, List.length_drop, List.length_set, List.length_replicate]; omega))))
                                                                           | ((with_reducible apply pu_index_cells); rfl; rfl; (focus (with_reducible exact ElC.h)); rfl; omega; omega)
                                                                           | ((with_reducible apply pure_fieldAddr); (focus (with_reducible exact FdC.h)); rfl)
                                                                           | ((with_reducible apply pure_load); rfl; rfl)
                                                                           | ((with_reducible apply pu_load_row); rfl; rfl; (focus (with_reducible exact ElC.h)); rfl)
                                                                           | ((with_reducible apply pu_neq2); (focus (with_reducible exact EqC.h)); rfl; rfl)
                                                                           )
                                                                         | (first
                                                                           | ((with_reducible apply pu_nilCheck); rfl)
                                                                           | ((with_reducible apply pu_nilCheck_pd); rfl)
                                                                           | ((with_reducible apply pu_field_cells); (focus (with_reducible exact FdC.h)); rfl)
                                                                           | ((with_reducible apply pu_load_cells); rfl; rfl; (focus (first
                                                                                                                                       | exact List.mem_cons_self
                                                                                                                                       | exact List.mem_cons_of_mem _ List.mem_cons_self
                                                                                                                                       | exact List.mem_cons_of_mem _ (List.mem_cons_of_mem _ List.mem_cons_self)
                                                                                                                                       | exact List.mem_cons_of_mem _ (List.mem_cons_of_mem _ (List.mem_cons_of_mem _ List.mem_cons_self)))); rfl)
                                                                           | ((with_reducible apply pu_load_cells_agg); rfl; rfl; (focus (with_reducible exact ElC.h)); (focus (first
                                                                                                                                                                                 | exact List.mem_cons_self
                                                                                                                                                                                 | exact List.mem_cons_of_mem _ List.mem_cons_self
                                                                                                                                                                                 | exact List.mem_cons_of_mem _ (List.mem_cons_of_mem _ List.mem_cons_self)
                                                                                                                                                                                 | exact List.mem_cons_of_mem _ (List.mem_cons_of_mem _ (List.mem_cons_of_mem _ List.mem_cons_self)))); rfl)
                                                                           | ((with_reducible apply pu_iface); (focus (with_reducible exact NifC.h)); rfl)
                                                                           | ((with_reducible apply pure_build2); (focus (with_reducible exact BlC.h)); rfl; rfl; rfl; rfl)
                                                                           | ((with_reducible apply pu_build); (focus (with_reducible exact BlsC.h)); rfl; rfl; rfl)
                                                                           | ((with_reducible apply pu_byte_int); rfl; rfl; rfl)
                                                                           )
                                                                         | (first
                                                                           | ((with_reducible apply pu_int_byte); rfl; rfl; rfl)
                                                                           | ((with_reducible apply pu_int_int); rfl; rfl; rfl; (focus (first | (unfold inI64; omega) | assumption)))
                                                                           | ((with_reducible apply pu_bytes_string); rfl; rfl; rfl; rfl)
                                                                           | ((with_reducible apply pu_len_row); rfl; rfl; (focus (first
                                                                                                                                    | exact List.mem_cons_self
                                                                                                                                    | exact List.mem_cons_of_mem _ List.mem_cons_self
                                                                                                                                    | exact List.mem_cons_of_mem _ (List.mem_cons_of_mem _ List.mem_cons_self)
                                                                                                                                    | exact List.mem_cons_of_mem _ (List.mem_cons_of_mem _ (List.mem_cons_of_mem _ List.mem_cons_self)))))
                                                                           )
                                                                         )); (focus rfl))
                                  | ((with_reducible apply jgt); (focus rfl); (focus rfl); (focus rfl); (focus rfl); (focus rfl))
                                  | ((with_reducible apply jgf); (focus rfl); (focus rfl); (focus rfl); (focus rfl); (focus rfl))
                                  | ((with_reducible apply jgu); (focus rfl); (focus rfl); (focus rfl); (focus rfl))
                                  | ((with_reducible apply jqu); (focus rfl); (focus rfl); (focus rfl); (focus rfl))
                                  | with_reducible exact tq_normal
                                  | with_reducible exact tq_ret
                                  | with_reducible exact tq_exit
                                  )
                                | (first
                                  | with_reducible exact tq_panic
                                  | with_reducible exact bq_normal
                                  | with_reducible exact bq_ret
                                  | with_reducible exact bq_exit
                                  | ((with_reducible apply bq_exit'); (focus decide))
                                  | with_reducible exact bq_panic
                                  | ((with_reducible apply jpan); (focus rfl))
                                  | with_reducible exact J_seq
                                  | with_reducible exact J_region
                                  )
                                | (first
                                  | ((with_reducible apply (J_region_mix 0)); (focus exact mixed); (focus rfl); (focus ((repeat (with_reducible apply len_cons)); exact len_nil)); (focus (decide +kernel)); (focus ((repeat (with_reducible apply Mix.cons)); exact Mix.nil)))
                                  | ((with_reducible apply (J_region_mix 1)); (focus exact mixed); (focus rfl); (focus ((repeat (with_reducible apply len_cons)); exact len_nil)); (focus (decide +kernel)); (focus ((repeat (with_reducible apply Mix.cons)); exact Mix.nil)))
                                  | ((with_reducible apply (J_region_mix 2)); (focus exact mixed); (focus rfl); (focus ((repeat (with_reducible apply len_cons)); exact len_nil)); (focus (decide +kernel)); (focus ((repeat (with_reducible apply Mix.cons)); exact Mix.nil)))
                                  | ((with_reducible apply (J_region_mix 3)); (focus exact mixed); (focus rfl); (focus ((repeat (with_reducible apply len_cons)); exact len_nil)); (focus (decide +kernel)); (focus ((repeat (with_reducible apply Mix.cons)); exact Mix.nil)))
                                  | ((with_reducible apply (J_region_mix 4)); (focus exact mixed); (focus rfl); (focus ((repeat (with_reducible apply len_cons)); exact len_nil)); (focus (decide +kernel)); (focus ((repeat (with_reducible apply Mix.cons)); exact Mix.nil)))
                                  | ((with_reducible apply (J_region_mix 5)); (focus exact mixed); (focus rfl); (focus ((repeat (with_reducible apply len_cons)); exact len_nil)); (focus (decide +kernel)); (focus ((repeat (with_reducible apply Mix.cons)); exact Mix.nil)))
                                  | ((with_reducible apply (J_region_mix 6)); (focus exact mixed); (focus rfl); (focus ((repeat (with_reducible apply len_cons)); exact len_nil)); (focus (decide +kernel)); (focus ((repeat (with_reducible apply Mix.cons)); exact Mix.nil)))
                                  | ((with_reducible apply (J_region_mix 7)); (focus exact mixed); (focus rfl); (focus ((repeat (with_reducible apply len_cons)); exact len_nil)); (focus (decide +kernel)); (focus ((repeat (with_reducible apply Mix.cons)); exact Mix.nil)))
                                  | ((with_reducible apply (J_region_mix 8)); (focus exact mixed); (focus rfl); (focus ((repeat (with_reducible apply len_cons)); exact len_nil)); (focus (decide +kernel)); (focus ((repeat (with_reducible apply Mix.cons)); exact Mix.nil)))
                                  )
                                | (first
                                  | with_reducible exact J_block
                                  | ((with_reducible apply J_region_tail); (focus exact mixed); (focus ((repeat (with_reducible apply len_cons)); exact len_nil)); (focus kernel_rfl))
                                  | ((with_reducible apply J_region_draw); (focus exact mixed); (focus kernel_rfl); (focus ((repeat (with_reducible apply len_cons)); exact len_nil)))
                                  | with_reducible exact JQ_nil
                                  | ((with_reducible apply jqp); (focus (first
                                                                          | (first
                                                                            | ((with_reducible apply pu_move); rfl)
                                                                            | ((with_reducible apply pu_assign); rfl)
                                                                            | ((with_reducible apply pure_extract); rfl; rfl)
                                                                            | ((with_reducible apply pure_lss); rfl; rfl)
                                                                            | ((with_reducible apply pure_eql); rfl; rfl)
                                                                            | ((with_reducible apply pure_neq); rfl; rfl)
                                                                            | ((with_reducible apply pure_eql_bool); rfl; rfl; rfl)
                                                                            | ((with_reducible apply pure_neq_bool); rfl; rfl; rfl)
                                                                            | ((with_reducible apply pure_geq); rfl; rfl)
                                                                            )
                                                                          | (first
                                                                            | ((with_reducible apply pure_gtr); rfl; rfl)
                                                                            | ((with_reducible apply pure_leq); rfl; rfl)
                                                                            | ((with_reducible apply pure_add); rfl; rfl; (focus (first | (unfold inI64; omega) | assumption)))
                                                                            | ((with_reducible apply pure_sub); rfl; rfl; (focus (first | (unfold inI64; omega) | assumption)))
                                                                            | ((with_reducible apply pure_mul); rfl; rfl; (focus (first | (unfold inI64; omega) | assumption)))
                                                                            | ((with_reducible apply pure_quo); rfl; rfl; omega; omega; omega)
                                                                            | ((with_reducible apply pure_rem); rfl; rfl; omega; omega)
                                                                            | ((with_reducible apply pure_shl); rfl; rfl; omega; omega; (focus (first | (unfold inI64; omega) | assumption)))
                                                                            | ((with_reducible apply pure_shr); rfl; rfl; omega; omega)
                                                                            )
                                                                          | (first
                                                                            | ((with_reducible apply pure_shl_u); rfl; rfl; omega; omega; (focus (first | (unfold inI64; omega) | assumption)))
                                                                            | ((with_reducible apply pure_shr_u); rfl; rfl; omega; omega)
                                                                            | ((with_reducible apply pure_and1); rfl; rfl; omega; omega)
                                                                            | ((with_reducible apply pure_and); rfl; rfl)
                                                                            | ((with_reducible apply pure_or); rfl; rfl)
                                                                            | ((with_reducible apply pure_neg); rfl; (focus (first | (unfold inI64; omega) | assumption)))
                                                                            | ((with_reducible apply pure_eql_string); rfl; rfl)
                                                                            | ((with_reducible apply pure_neq_string); rfl; rfl)
                                                                            | ((with_reducible apply pu_pick_true); rfl; rfl)
                                                                            )
                                                                          | (first
                                                                            | ((with_reducible apply pu_pick_false); rfl; rfl)
                                                                            | ((with_reducible apply pure_not); rfl)
                                                                            | ((with_reducible apply pu_len); rfl; rfl)
                                                                            | ((with_reducible apply pure_len); rfl; rfl)
                                                                            | ((with_reducible apply pu_max); rfl; rfl)
                                                                            | ((with_reducible apply pu_min); rfl; rfl)
                                                                            | ((with_reducible apply pu_slice_to3); rfl; rfl; rfl; rfl; (focus (with_reducible exact ElC.h)); omega; (focus (first | omega | (simp only [List.length_map, List.length_range, List.length_append, List.length_cons, List.length_nil, List.length_take, List.length_drop, List.length_set, List.length_replicate]; omega))))
                                                                            | ((with_reducible apply pure_index1); rfl; (focus rfl); rfl; (focus (with_reducible exact ElC.h)); (focus (first | omega | (simp only [List.length_map, List.length_range, List.length_append, List.length_cons, List.length_nil, List.length_take, List.length_drop, List.length_set, List.length_replicate]; omega))))
                                                                            | ((with_reducible apply pure_index); rfl; rfl; rfl; (focus (with_reducible exact ElC.h)); (focus (first | omega | (simp only [List.length_map, List.length_range, List.length_append, List.length_cons, List.length_nil, List.length_take, List.length_drop, List.length_set, List.length_replicate]; omega))))
                                                                            | ((with_reducible apply pure_indexI); rfl; rfl; rfl; (focus (with_reducible exact ElC.h)); omega; (focus (first | omega | (simp only [List.length_map, List.length_range, List.length_append, List.length_cons, List.length_nil, List.length_take, List.length_drop, List.length_set, List.length_replicate]; omega))))
                                                                            | ((with_reducible apply pu_func2); rfl; rfl)
                                                                            )
                                                                          | (first
                                                                            | ((with_reducible apply pu_func3); rfl; rfl; rfl)
                                                                            | ((with_reducible apply pu_slice); rfl; rfl; rfl; rfl; (focus (with_reducible exact ElC.h)); omega; omega; (focus (first | omega | (simp only [List.length_map, List.length_range, List.length_append, List.length_cons, List.length_nil, List.length_take, List.length_drop, List.length_set, List.length_replicate]; omega))))
                                                                            | ((with_reducible apply pu_slice_from); rfl; rfl; rfl; (focus (with_reducible exact ElC.h)); omega; (focus (first | omega | (simp only [List.length_map, List.length_range, List.length_append, List.length_cons, List.length_nil, List.length_take, List.length_drop, List.length_set, List.length_replicate]; omega))))
                                                                            | ((with_reducible apply pu_slice_to); rfl; rfl; rfl; (focus (with_reducible exact ElC.h)); omega; (focus (first | omega | (simp only [List.length_map, List.length_range, List.length_append, List.length_cons, List.length_nil, List.length_take, List.length_drop, List.length_set, List.length_replicate]; omega))))
                                                                            | ((with_reducible apply pu_index_cells); rfl; rfl; (focus (with_reducible exact ElC.h)); rfl; omega; omega)
                                                                            | ((with_reducible apply pure_fieldAddr); (focus (with_reducible exact FdC.h)); rfl)
                                                                            | ((with_reducible apply pure_load); rfl; rfl)
                                                                            | ((with_reducible apply pu_load_row); rfl; rfl; (focus (with_reducible exact ElC.h)); rfl)
                                                                            | ((with_reducible apply pu_neq2); (focus (with_reducible exact EqC.h)); rfl; rfl)
                                                                            )
                                                                          | (first
                                                                            | ((with_reducible apply pu_nilCheck); rfl)
                                                                            | ((with_reducible apply pu_nilCheck_pd); rfl)
                                                                            | ((with_reducible apply pu_field_cells); (focus (with_reducible exact FdC.h)); rfl)
                                                                            | ((with_reducible apply pu_load_cells); rfl; rfl; (focus (first
                                                                                                                                        | exact List.mem_cons_self
                                                                                                                                        | exact List.mem_cons_of_mem _ List.mem_cons_self
                                                                                                                                        | exact List.mem_cons_of_mem _ (List.mem_cons_of_mem _ List.mem_cons_self)
                                                                                                                                        | exact List.mem_cons_of_mem _ (List.mem_cons_of_mem _ (List.mem_cons_of_mem _ List.mem_cons_self)))); rfl)
                                                                            | ((with_reducible apply pu_load_cells_agg); rfl; rfl; (focus (with_reducible exact ElC.h)); (focus (first
                                                                                                                                                                                  | exact List.mem_cons_self
                                                                                                                                                                                  | exact List.mem_cons_of_mem _ List.mem_cons_self
                                                                                                                                                                                  | exact List.mem_cons_of_mem _ (List.mem_cons_of_mem _ List.mem_cons_self)
                                                                                                                                                                                  | exact List.mem_cons_of_mem _ (List.mem_cons_of_mem _ (List.mem_cons_of_mem _ List.mem_cons_self)))); rfl)
                                                                            | ((with_reducible apply pu_iface); (focus (with_reducible exact NifC.h)); rfl)
                                                                            | ((with_reducible apply pure_build2); (focus (with_reducible exact BlC.h)); rfl; rfl; rfl; rfl)
                                                                            | ((with_reducible apply pu_build); (focus (with_reducible exact BlsC.h)); rfl; rfl; rfl)
                                                                            | ((with_reducible apply pu_byte_int); rfl; rfl; rfl)
                                                                            )
                                                                          | (first
                                                                            | ((with_reducible apply pu_int_byte); rfl; rfl; rfl)
                                                                            | ((with_reducible apply pu_int_int); rfl; rfl; rfl; (focus (first | (unfold inI64; omega) | assumption)))
                                                                            | ((with_reducible apply pu_bytes_string); rfl; rfl; rfl; rfl)
                                                                            | ((with_reducible apply pu_len_row); rfl; rfl; (focus (first
                                                                                                                                     | exact List.mem_cons_self
                                                                                                                                     | exact List.mem_cons_of_mem _ List.mem_cons_self
                                                                                                                                     | exact List.mem_cons_of_mem _ (List.mem_cons_of_mem _ List.mem_cons_self)
                                                                                                                                     | exact List.mem_cons_of_mem _ (List.mem_cons_of_mem _ (List.mem_cons_of_mem _ List.mem_cons_self)))))
                                                                            )
                                                                          )); (focus rfl))
                                  | ((with_reducible apply jqt); (focus rfl); (focus rfl); (focus rfl); (focus rfl); (focus rfl))
                                  | ((with_reducible apply jqf); (focus rfl); (focus rfl); (focus rfl); (focus rfl); (focus rfl))
                                  | (first
                                      | ((with_reducible apply jbuild_byte); (focus rfl); (focus rfl); (focus (with_reducible exact ElC.h)); (focus rfl); (focus rfl))
                                      | ((with_reducible apply jbuild_int); (focus rfl); (focus rfl); (focus (with_reducible exact ElC.h)); (focus rfl); (focus rfl))
                                      | ((with_reducible apply jbuild_bool); (focus rfl); (focus rfl); (focus (with_reducible exact ElC.h)); (focus rfl); (focus rfl))
                                      | ((with_reducible apply jbuild_list); (focus rfl); (focus rfl); (focus (with_reducible exact ElC.h)); (focus rfl); (focus rfl))
                                      | ((with_reducible apply jbuild_agg); (focus rfl); (focus rfl); (focus (with_reducible exact ElC.h)); (focus rfl); (focus rfl); (focus rfl); (focus rfl); (focus rfl))
                                      | ((with_reducible apply jbuild_two); (focus rfl); (focus rfl); (focus (with_reducible exact ElC.h)); (focus rfl); (focus rfl)))
                                  | ((with_reducible apply japp); (focus rfl); (focus rfl); (focus rfl); (focus (with_reducible exact ElC.h)); (focus rfl); (focus rfl); (focus rfl); (focus (first | omega | (simp only [List.length_map, List.length_range, List.length_append, List.length_cons, List.length_nil, List.length_take, List.length_drop, List.length_set, List.length_replicate]; omega))); (focus (first | omega | (simp only [List.length_map, List.length_range, List.length_append, List.length_cons, List.length_nil, List.length_take, List.length_drop, List.length_set, List.length_replicate]; omega))))
                                  )
                                | (first
                                  | ((with_reducible apply japp_copy); (focus rfl); (focus rfl); (focus rfl); (focus (with_reducible exact ElC.h)); (focus rfl); (focus rfl); (focus rfl); (focus exact fun _ => rfl); (focus (first | omega | (simp only [List.length_map, List.length_range, List.length_append, List.length_cons, List.length_nil, List.length_take, List.length_drop, List.length_set, List.length_replicate]; omega))); (focus (first | omega | (simp only [List.length_map, List.length_range, List.length_append, List.length_cons, List.length_nil, List.length_take, List.length_drop, List.length_set, List.length_replicate]; omega))))
                                  | with_reducible exact J_skip
                                  | with_reducible exact J_ret
                                  | with_reducible exact J_exit
                                  | ((with_reducible apply jcond); (focus rfl))
                                  | with_reducible exact cb_true
                                  | with_reducible exact cb_false
                                  | with_reducible exact cb_decT
                                  | with_reducible exact cb_not
                                  )
                                | (first
                                  | with_reducible exact cb_splitT
                                  )
                                | (first
                                  | ((with_reducible apply je_q); (focus rfl); (focus (decide +kernel)); (focus (first
                                                                                                                  | (first
                                                                                                                    | ((with_reducible apply pu_move); rfl)
                                                                                                                    | ((with_reducible apply pu_assign); rfl)
                                                                                                                    | ((with_reducible apply pure_extract); rfl; rfl)
                                                                                                                    | ((with_reducible apply pure_lss); rfl; rfl)
                                                                                                                    | ((with_reducible apply pure_eql); rfl; rfl)
                                                                                                                    | ((with_reducible apply pure_neq); rfl; rfl)
                                                                                                                    | ((with_reducible apply pure_eql_bool); rfl; rfl; rfl)
                                                                                                                    | ((with_reducible apply pure_neq_bool); rfl; rfl; rfl)
                                                                                                                    | ((with_reducible apply pure_geq); rfl; rfl)
                                                                                                                    )
                                                                                                                  | (first
                                                                                                                    | ((with_reducible apply pure_gtr); rfl; rfl)
                                                                                                                    | ((with_reducible apply pure_leq); rfl; rfl)
                                                                                                                    | ((with_reducible apply pure_add); rfl; rfl; (focus (first | (unfold inI64; omega) | assumption)))
                                                                                                                    | ((with_reducible apply pure_sub); rfl; rfl; (focus (first | (unfold inI64; omega) | assumption)))
                                                                                                                    | ((with_reducible apply pure_mul); rfl; rfl; (focus (first | (unfold inI64; omega) | assumption)))
                                                                                                                    | ((with_reducible apply pure_quo); rfl; rfl; omega; omega; omega)
                                                                                                                    | ((with_reducible apply pure_rem); rfl; rfl; omega; omega)
                                                                                                                    | ((with_reducible apply pure_shl); rfl; rfl; omega; omega; (focus (first | (unfold inI64; omega) | assumption)))
                                                                                                                    | ((with_reducible apply pure_shr); rfl; rfl; omega; omega)
                                                                                                                    )
                                                                                                                  | (first
                                                                                                                    | ((with_reducible apply pure_shl_u); rfl; rfl; omega; omega; (focus (first | (unfold inI64; omega) | assumption)))
                                                                                                                    | ((with_reducible apply pure_shr_u); rfl; rfl; omega; omega)
                                                                                                                    | ((with_reducible apply pure_and1); rfl; rfl; omega; omega)
                                                                                                                    | ((with_reducible apply pure_and); rfl; rfl)
                                                                                                                    | ((with_reducible apply pure_or); rfl; rfl)
                                                                                                                    | ((with_reducible apply pure_neg); rfl; (focus (first | (unfold inI64; omega) | assumption)))
                                                                                                                    | ((with_reducible apply pure_eql_string); rfl; rfl)
                                                                                                                    | ((with_reducible apply pure_neq_string); rfl; rfl)
                                                                                                                    | ((with_reducible apply pu_pick_true); rfl; rfl)
                                                                                                                    )
                                                                                                                  | (first
                                                                                                                    | ((with_reducible apply pu_pick_false); rfl; rfl)
                                                                                                                    | ((with_reducible apply pure_not); rfl)
                                                                                                                    | ((with_reducible apply pu_len); rfl; rfl)
                                                                                                                    | ((with_reducible apply pure_len); rfl; rfl)
                                                                                                                    | ((with_reducible apply pu_max); rfl; rfl)
                                                                                                                    | ((with_reducible apply pu_min); rfl; rfl)
                                                                                                                    | ((with_reducible apply pu_slice_to3); rfl; rfl; rfl; rfl; (focus (with_reducible exact ElC.h)); omega; (focus (first | omega | (simp only [List.length_map, List.length_range, List.length_append, List.length_cons, List.length_nil, List.length_take, List.length_drop, List.length_set, List.length_replicate]; omega))))
                                                                                                                    | ((with_reducible apply pure_index1); rfl; (focus rfl); rfl; (focus (with_reducible exact ElC.h)); (focus (first | omega | (simp only [List.length_map, List.length_range, List.length_append, List.length_cons, List.length_nil, List.length_take, List.length_drop, List.length_set, List.length_replicate]; omega))))
                                                                                                                    | ((with_reducible apply pure_index); rfl; rfl; rfl; (focus (with_reducible exact ElC.h)); (focus (first | omega | (simp only [List.length_map, List.length_range, List.length_append, List.length_cons, List.length_nil, List.length_take, List.length_drop, List.length_set, List.length_replicate]; omega))))
                                                                                                                    | ((with_reducible apply pure_indexI); rfl; rfl; rfl; (focus (with_reducible exact ElC.h)); omega; (focus (first | omega | (simp only [List.length_map, List.length_range, List.length_append, List.length_cons, List.length_nil, List.length_take, List.length_drop, List.length_set, List.length_replicate]; omega))))
                                                                                                                    | ((with_reducible apply pu_func2); rfl; rfl)
                                                                                                                    )
                                                                                                                  | (first
                                                                                                                    | ((with_reducible apply pu_func3); rfl; rfl; rfl)
                                                                                                                    | ((with_reducible apply pu_slice); rfl; rfl; rfl; rfl; (focus (with_reducible exact ElC.h)); omega; omega; (focus (first | omega | (simp only [List.length_map, List.length_range, List.length_append, List.length_cons, List.length_nil, List.length_take, List.length_drop, List.length_set, List.length_replicate]; omega))))
                                                                                                                    | ((with_reducible apply pu_slice_from); rfl; rfl; rfl; (focus (with_reducible exact ElC.h)); omega; (focus (first | omega | (simp only [List.length_map, List.length_range, List.length_append, List.length_cons, List.length_nil, List.length_take, List.length_drop, List.length_set, List.length_replicate]; omega))))
                                                                                                                    | ((with_reducible apply pu_slice_to); rfl; rfl; rfl; (focus (with_reducible exact ElC.h)); omega; (focus (first | omega | (simp only [List.length_map, List.length_range, List.length_append, List.length_cons, List.length_nil, List.length_take, List.length_drop, List.length_set, List.length_replicate]; omega))))
                                                                                                                    | ((with_reducible apply pu_index_cells); rfl; rfl; (focus (with_reducible exact ElC.h)); rfl; omega; omega)
                                                                                                                    | ((with_reducible apply pure_fieldAddr); (focus (with_reducible exact FdC.h)); rfl)
                                                                                                                    | ((with_reducible apply pure_load); rfl; rfl)
                                                                                                                    | ((with_reducible apply pu_load_row); rfl; rfl; (focus (with_reducible exact ElC.h)); rfl)
                                                                                                                    | ((with_reducible apply pu_neq2); (focus (with_reducible exact EqC.h)); rfl; rfl)
                                                                                                                    )
                                                                                                                  | (first
                                                                                                                    | ((with_reducible apply pu_nilCheck); rfl)
                                                                                                                    | ((with_reducible apply pu_nilCheck_pd); rfl)
                                                                                                                    | ((with_reducible apply pu_field_cells); (focus (with_reducible exact FdC.h)); rfl)
                                                                                                                    | ((with_reducible apply pu_load_cells); rfl; rfl; (focus (first
                                                                                                                                                                                | exact List.mem_cons_self
                                                                                                                                                                                | exact List.mem_cons_of_mem _ List.mem_cons_self
                                                                                                                                                                                | exact List.mem_cons_of_mem _ (List.mem_cons_of_mem _ List.mem_cons_self)
                                                                                                                                                                                | exact List.mem_cons_of_mem _ (List.mem_cons_of_mem _ (List.mem_cons_of_mem _ List.mem_cons_self)))); rfl)
                                                                                                                    | ((with_reducible apply pu_load_cells_agg); rfl; rfl; (focus (with_reducible exact ElC.h)); (focus (first
                                                                                                                                                                                                                          | exact List.mem_cons_self
                                                                                                                                                                                                                          | exact List.mem_cons_of_mem _ List.mem_cons_self
                                                                                                                                                                                                                          | exact List.mem_cons_of_mem _ (List.mem_cons_of_mem _ List.mem_cons_self)
                                                                                                                                                                                                                          | exact List.mem_cons_of_mem _ (List.mem_cons_of_mem _ (List.mem_cons_of_mem _ List.mem_cons_self)))); rfl)
                                                                                                                    | ((with_reducible apply pu_iface); (focus (with_reducible exact NifC.h)); rfl)
                                                                                                                    | ((with_reducible apply pure_build2); (focus (with_reducible exact BlC.h)); rfl; rfl; rfl; rfl)
                                                                                                                    | ((with_reducible apply pu_build); (focus (with_reducible exact BlsC.h)); rfl; rfl; rfl)
                                                                                                                    | ((with_reducible apply pu_byte_int); rfl; rfl; rfl)
                                                                                                                    )
                                                                                                                  | (first
                                                                                                                    | ((with_reducible apply pu_int_byte); rfl; rfl; rfl)
                                                                                                                    | ((with_reducible apply pu_int_int); rfl; rfl; rfl; (focus (first | (unfold inI64; omega) | assumption)))
                                                                                                                    | ((with_reducible apply pu_bytes_string); rfl; rfl; rfl; rfl)
                                                                                                                    | ((with_reducible apply pu_len_row); rfl; rfl; (focus (first
                                                                                                                                                                             | exact List.mem_cons_self
                                                                                                                                                                             | exact List.mem_cons_of_mem _ List.mem_cons_self
                                                                                                                                                                             | exact List.mem_cons_of_mem _ (List.mem_cons_of_mem _ List.mem_cons_self)
                                                                                                                                                                             | exact List.mem_cons_of_mem _ (List.mem_cons_of_mem _ (List.mem_cons_of_mem _ List.mem_cons_self)))))
                                                                                                                    )
                                                                                                                  )); (focus rfl))
                                  | ((with_reducible apply je_qy); (focus rfl); (focus rfl); (focus rfl); (focus rfl); (focus rfl); (focus (decide +kernel)); (focus (first
                                                                                                                                                                       | (first
                                                                                                                                                                         | ((with_reducible apply pu_move); rfl)
                                                                                                                                                                         | ((with_reducible apply pu_assign); rfl)
                                                                                                                                                                         | ((with_reducible apply pure_extract); rfl; rfl)
                                                                                                                                                                         | ((with_reducible apply pure_lss); rfl; rfl)
                                                                                                                                                                         | ((with_reducible apply pure_eql); rfl; rfl)
                                                                                                                                                                         | ((with_reducible apply pure_neq); rfl; rfl)
                                                                                                                                                                         | ((with_reducible apply pure_eql_bool); rfl; rfl; rfl)
                                                                                                                                                                         | ((with_reducible apply pure_neq_bool); rfl; rfl; rfl)
                                                                                                                                                                         | ((with_reducible apply pure_geq); rfl; rfl)
                                                                                                                                                                         )
                                                                                                                                                                       | (first
                                                                                                                                                                         | ((with_reducible apply pure_gtr); rfl; rfl)
                                                                                                                                                                         | ((with_reducible apply pure_leq); rfl; rfl)
                                                                                                                                                                         | ((with_reducible apply pure_add); rfl; rfl; (focus (first | (unfold inI64; omega) | assumption)))
                                                                                                                                                                         | ((with_reducible apply pure_sub); rfl; rfl; (focus (first | (unfold inI64; omega) | assumption)))
                                                                                                                                                                         | ((with_reducible apply pure_mul); rfl; rfl; (focus (first | (unfold inI64; omega) | assumption)))
                                                                                                                                                                         | ((with_reducible apply pure_quo); rfl; rfl; omega; omega; omega)
                                                                                                                                                                         | ((with_reducible apply pure_rem); rfl; rfl; omega; omega)
                                                                                                                                                                         | ((with_reducible apply pure_shl); rfl; rfl; omega; omega; (focus (first | (unfold inI64; omega) | assumption)))
                                                                                                                                                                         | ((with_reducible apply pure_shr); rfl; rfl; omega; omega)
                                                                                                                                                                         )
                                                                                                                                                                       | (first
                                                                                                                                                                         | ((with_reducible apply pure_shl_u); rfl; rfl; omega; omega; (focus (first | (unfold inI64; omega) | assumption)))
                                                                                                                                                                         | ((with_reducible apply pure_shr_u); rfl; rfl; omega; omega)
                                                                                                                                                                         | ((with_reducible apply pure_and1); rfl; rfl; omega; omega)
                                                                                                                                                                         | ((with_reducible apply pure_and); rfl; rfl)
                                                                                                                                                                         | ((with_reducible apply pure_or); rfl; rfl)
                                                                                                                                                                         | ((with_reducible apply pure_neg); rfl; (focus (first | (unfold inI64; omega) | assumption)))
                                                                                                                                                                         | ((with_reducible apply pure_eql_string); rfl; rfl)
                                                                                                                                                                         | ((with_reducible apply pure_neq_string); rfl; rfl)
                                                                                                                                                                         | ((with_reducible apply pu_pick_true); rfl; rfl)
                                                                                                                                                                         )
                                                                                                                                                                       | (first
                                                                                                                                                                         | ((with_reducible apply pu_pick_false); rfl; rfl)
                                                                                                                                                                         | ((with_reducible apply pure_not); rfl)
                                                                                                                                                                         | ((with_reducible apply pu_len); rfl; rfl)
                                                                                                                                                                         | ((with_reducible apply pure_len); rfl; rfl)
                                                                                                                                                                         | ((with_reducible apply pu_max); rfl; rfl)
                                                                                                                                                                         | ((with_reducible apply pu_min); rfl; rfl)
                                                                                                                                                                         | ((with_reducible apply pu_slice_to3); rfl; rfl; rfl; rfl; (focus (with_reducible exact ElC.h)); omega; (focus (first | omega | (simp only [List.length_map, List.length_range, List.length_append, List.length_cons, List.length_nil, List.length_take, List.length_drop, List.length_set, List.length_replicate]; omega))))
                                                                                                                                                                         | ((with_reducible apply pure_index1); rfl; (focus rfl); rfl; (focus (with_reducible exact ElC.h)); (focus (first | omega | (simp only [List.length_map, List.length_range, List.length_append, List.length_cons, List.length_nil, List.length_take, List.length_drop, List.length_set, List.length_replicate]; omega))))
                                                                                                                                                                         | ((with_reducible apply pure_index); rfl; rfl; rfl; (focus (with_reducible exact ElC.h)); (focus (first | omega | (simp only [List.length_map, List.length_range, List.length_append, List.length_cons, List.length_nil, List.length_take, List.length_drop, List.length_set, List.length_replicate]; omega))))
                                                                                                                                                                         | ((with_reducible apply pure_indexI); rfl; rfl; rfl; (focus (with_reducible exact ElC.h)); omega; (focus (first | omega | (simp only [List.length_map, List.length_range, List.length_append, List.length_cons, List.length_nil, List.length_take, List.length_drop, List.length_set, List.length_replicate]; omega))))
                                                                                                                                                                         | ((with_reducible apply pu_func2); rfl; rfl)
                                                                                                                                                                         )
                                                                                                                                                                       | (first
                                                                                                                                                                         | ((with_reducible apply pu_func3); rfl; rfl; rfl)
                                                                                                                                                                         | ((with_reducible apply pu_slice); rfl; rfl; rfl; rfl; (focus (with_reducible exact ElC.h)); omega; omega; (focus (first | omega | (simp only [List.length_map, List.length_range, List.length_append, List.length_cons, List.length_nil, List.length_take, List.length_drop, List.length_set, List.length_replicate]; omega))))
                                                                                                                                                                         | ((with_reducible apply pu_slice_from); rfl; rfl; rfl; (focus (with_reducible exact ElC.h)); omega; (focus (first | omega | (simp only [List.length_map, List.length_range, List.length_append, List.length_cons, List.length_nil, List.length_take, List.length_drop, List.length_set, List.length_replicate]; omega))))
                                                                                                                                                                         | ((with_reducible apply pu_slice_to); rfl; rfl; rfl; (focus (with_reducible exact ElC.h)); omega; (focus (first | omega | (simp only [List.length_map, List.length_range, List.length_append, List.length_cons, List.length_nil, List.length_take, List.length_drop, List.length_set, List.length_replicate]; omega))))
                                                                                                                                                                         | ((with_reducible apply pu_index_cells); rfl; rfl; (focus (with_reducible exact ElC.h)); rfl; omega; omega)
                                                                                                                                                                         | ((with_reducible apply pure_fieldAddr); (focus (with_reducible exact FdC.h)); rfl)
                                                                                                                                                                         | ((with_reducible apply pure_load); rfl; rfl)
                                                                                                                                                                         | ((with_reducible apply pu_load_row); rfl; rfl; (focus (with_reducible exact ElC.h)); rfl)
                                                                                                                                                                         | ((with_reducible apply pu_neq2); (focus (with_reducible exact EqC.h)); rfl; rfl)
                                                                                                                                                                         )
                                                                                                                                                                       | (first
                                                                                                                                                                         | ((with_reducible apply pu_nilCheck); rfl)
                                                                                                                                                                         | ((with_reducible apply pu_nilCheck_pd); rfl)
                                                                                                                                                                         | ((with_reducible apply pu_field_cells); (focus (with_reducible exact FdC.h)); rfl)
                                                                                                                                                                         | ((with_reducible apply pu_load_cells); rfl; rfl; (focus (first
                                                                                                                                                                                                                                     | exact List.mem_cons_self
                                                                                                                                                                                                                                     | exact List.mem_cons_of_mem _ List.mem_cons_self
                                                                                                                                                                                                                                     | exact List.mem_cons_of_mem _ (List.mem_cons_of_mem _ List.mem_cons_self)
                                                                                                                                                                                                                                     | exact List.mem_cons_of_mem _ (List.mem_cons_of_mem _ (List.mem_cons_of_mem _ List.mem_cons_self)))); rfl)
                                                                                                                                                                         | ((with_reducible apply pu_load_cells_agg); rfl; rfl; (focus (with_reducible exact ElC.h)); (focus (first
                                                                                                                                                                                                                                                                               | exact List.mem_cons_self
                                                                                                                                                                                                                                                                               | exact List.mem_cons_of_mem _ List.mem_cons_self
                                                                                                                                                                                                                                                                               | exact List.mem_cons_of_mem _ (List.mem_cons_of_mem _ List.mem_cons_self)
                                                                                                                                                                                                                                                                               | exact List.mem_cons_of_mem _ (List.mem_cons_of_mem _ (List.mem_cons_of_mem _ List.mem_cons_self)))); rfl)
                                                                                                                                                                         | ((with_reducible apply pu_iface); (focus (with_reducible exact NifC.h)); rfl)
                                                                                                                                                                         | ((with_reducible apply pure_build2); (focus (with_reducible exact BlC.h)); rfl; rfl; rfl; rfl)
                                                                                                                                                                         | ((with_reducible apply pu_build); (focus (with_reducible exact BlsC.h)); rfl; rfl; rfl)
                                                                                                                                                                         | ((with_reducible apply pu_byte_int); rfl; rfl; rfl)
                                                                                                                                                                         )
                                                                                                                                                                       | (first
                                                                                                                                                                         | ((with_reducible apply pu_int_byte); rfl; rfl; rfl)
                                                                                                                                                                         | ((with_reducible apply pu_int_int); rfl; rfl; rfl; (focus (first | (unfold inI64; omega) | assumption)))
                                                                                                                                                                         | ((with_reducible apply pu_bytes_string); rfl; rfl; rfl; rfl)
                                                                                                                                                                         | ((with_reducible apply pu_len_row); rfl; rfl; (focus (first
                                                                                                                                                                                                                                  | exact List.mem_cons_self
                                                                                                                                                                                                                                  | exact List.mem_cons_of_mem _ List.mem_cons_self
                                                                                                                                                                                                                                  | exact List.mem_cons_of_mem _ (List.mem_cons_of_mem _ List.mem_cons_self)
                                                                                                                                                                                                                                  | exact List.mem_cons_of_mem _ (List.mem_cons_of_mem _ (List.mem_cons_of_mem _ List.mem_cons_self)))))
                                                                                                                                                                         )
                                                                                                                                                                       )); (focus rfl))
                                  | ((with_reducible apply je_gt); (focus rfl); (focus rfl); (focus rfl); (focus rfl); (focus rfl); (focus (decide +kernel)); (focus rfl))
                                  | ((with_reducible apply je_gf); (focus rfl); (focus rfl); (focus rfl); (focus rfl); (focus rfl); (focus (decide +kernel)); (focus rfl))
                                  | ((with_reducible apply je_gu); (focus rfl); (focus rfl); (focus rfl); (focus rfl); (focus (decide +kernel)); (focus rfl))
                                  | ((with_reducible apply je_done); (focus (decide +kernel)))
                                  | ((with_reducible apply je_swap); (focus ((repeat (with_reducible apply Rv.cons)); exact Rv.nil)))
                                  | ((with_reducible apply je_hold); (focus (decide +kernel)))
                                  )
                                )))
  exact fun h => h) : q := h hp
/-- The same, with variables that the walk makes. -/
theorem stpa {p q : Prop} (hp : p) (h : p → q := by
  repeat1' (apply cmp; (focus (first
    | ((with_reducible apply japO0); (focus rfl); (focus rfl); (focus rfl); (focus (with_reducible exact ElC.h)); (focus rfl); (focus rfl); (focus rfl); (focus (first | omega | (simp only [List.length_map, List.length_range, List.length_append, List.length_cons, List.length_nil, List.length_take, List.length_drop, List.length_set, List.length_replicate]; omega))); (focus (first | omega | (simp only [List.length_map, List.length_range, List.length_append, List.length_cons, List.length_nil, List.length_take, List.length_drop, List.length_set, List.length_replicate]; omega))))
    | ((with_reducible apply japO1); (focus rfl); (focus rfl); (focus rfl); (focus (with_reducible exact ElC.h)); (focus rfl); (focus rfl); (focus rfl); (focus (first | omega | (simp only [List.length_map, List.length_range, List.length_append, List.length_cons, List.length_nil, List.length_take, List.length_drop, List.length_set, List.length_replicate]; omega))); (focus (first | omega | (simp only [List.length_map, List.length_range, List.length_append, List.length_cons, List.length_nil, List.length_take, List.length_drop, List.length_set, List.length_replicate]; omega))))
    | ((with_reducible apply japO2); (focus rfl); (focus rfl); (focus rfl); (focus (with_reducible exact ElC.h)); (focus rfl); (focus rfl); (focus rfl); (focus (first | omega | (simp only [List.length_map, List.length_range, List.length_append, List.length_cons, List.length_nil, List.length_take, List.length_drop, List.length_set, List.length_replicate]; omega))); (focus (first | omega | (simp only [List.length_map, List.length_range, List.length_append, List.length_cons, List.length_nil, List.length_take, List.length_drop, List.length_set, List.length_replicate]; omega))))
    | ((with_reducible apply japS0); (focus rfl); (focus rfl); (focus rfl); (focus (with_reducible exact ElC.h)); (focus rfl); (focus rfl); (focus rfl); (focus (first | omega | (simp only [List.length_map, List.length_range, List.length_append, List.length_cons, List.length_nil, List.length_take, List.length_drop, List.length_set, List.length_replicate]; omega))); (focus (first | omega | (simp only [List.length_map, List.length_range, List.length_append, List.length_cons, List.length_nil, List.length_take, List.length_drop, List.length_set, List.length_replicate]; omega))))
    | ((with_reducible apply japS1); (focus rfl); (focus rfl); (focus rfl); (focus (with_reducible exact ElC.h)); (focus rfl); (focus rfl); (focus rfl); (focus (first | omega | (simp only [List.length_map, List.length_range, List.length_append, List.length_cons, List.length_nil, List.length_take, List.length_drop, List.length_set, List.length_replicate]; omega))); (focus (first | omega | (simp only [List.length_map, List.length_range, List.length_append, List.length_cons, List.length_nil, List.length_take, List.length_drop, List.length_set, List.length_replicate]; omega))))
    | ((with_reducible apply japS2); (focus rfl); (focus rfl); (focus rfl); (focus (with_reducible exact ElC.h)); (focus rfl); (focus rfl); (focus rfl); (focus (first | omega | (simp only [List.length_map, List.length_range, List.length_append, List.length_cons, List.length_nil, List.length_take, List.length_drop, List.length_set, List.length_replicate]; omega))); (focus (first | omega | (simp only [List.length_map, List.length_range, List.length_append, List.length_cons, List.length_nil, List.length_take, List.length_drop, List.length_set, List.length_replicate]; omega))))
    | ((with_reducible apply japS3); (focus rfl); (focus rfl); (focus rfl); (focus (with_reducible exact ElC.h)); (focus rfl); (focus rfl); (focus rfl); (focus (first | omega | (simp only [List.length_map, List.length_range, List.length_append, List.length_cons, List.length_nil, List.length_take, List.length_drop, List.length_set, List.length_replicate]; omega))); (focus (first | omega | (simp only [List.length_map, List.length_range, List.length_append, List.length_cons, List.length_nil, List.length_take, List.length_drop, List.length_set, List.length_replicate]; omega))))
    | ((with_reducible apply jboxT); (focus rfl); (focus rfl); (focus rfl))
    | ((with_reducible apply jalloc1T); (focus (with_reducible exact ElC.h)); (focus rfl); (focus rfl))
    | ((with_reducible apply jallocN); (focus (with_reducible exact ElC.h)); (focus rfl))
    | ((with_reducible apply js_all); (focus rfl); (focus rfl); (focus rfl); (focus (with_reducible exact ElC.h)); (focus rfl); (focus rfl))
    | ((with_reducible apply js_head); (focus rfl); (focus rfl); (focus rfl); (focus (with_reducible exact ElC.h)))
    | ((with_reducible apply jmk_bool); (focus rfl); (focus rfl); (focus (with_reducible exact ElC.h)); (focus omega); (focus omega); (focus rfl))
    | ((with_reducible apply jmk_int); (focus rfl); (focus rfl); (focus (with_reducible exact ElC.h)); (focus omega); (focus omega); (focus rfl))
    | ((with_reducible apply js_map0); (focus rfl); (focus rfl); (focus rfl); (focus (with_reducible exact ElC.h)); (focus (first | omega | (simp only [List.length_map, List.length_range, List.length_append, List.length_cons, List.length_nil, List.length_take, List.length_drop, List.length_set, List.length_replicate]; omega))))
    | ((with_reducible apply js_map1); (focus rfl); (focus rfl); (focus rfl); (focus (with_reducible exact ElC.h)); (focus (first | omega | (simp only [List.length_map, List.length_range, List.length_append, List.length_cons, List.length_nil, List.length_take, List.length_drop, List.length_set, List.length_replicate]; omega))))
    | ((with_reducible apply js_map2); (focus rfl); (focus rfl); (focus rfl); (focus (with_reducible exact ElC.h)); (focus (first | omega | (simp only [List.length_map, List.length_range, List.length_append, List.length_cons, List.length_nil, List.length_take, List.length_drop, List.length_set, List.length_replicate]; omega))))
    | ((with_reducible apply js_map3); (focus rfl); (focus rfl); (focus rfl); (focus (with_reducible exact ElC.h)); (focus (first | omega | (simp only [List.length_map, List.length_range, List.length_append, List.length_cons, List.length_nil, List.length_take, List.length_drop, List.length_set, List.length_replicate]; omega))))
    | ((with_reducible apply js_one1); (focus rfl); (focus rfl); (focus rfl); (focus (with_reducible exact ElC.h)))
    | ((with_reducible apply js_one2); (focus rfl); (focus rfl); (focus rfl); (focus (with_reducible exact ElC.h)))
    | ((with_reducible apply js_one3); (focus rfl); (focus rfl); (focus rfl); (focus (with_reducible exact ElC.h)))
    | ((with_reducible apply japp1); (focus rfl); (focus rfl); (focus rfl); (focus (with_reducible exact ElC.h)); (focus rfl); (focus rfl); (focus rfl); (focus (first | omega | (simp only [List.length_map, List.length_range, List.length_append, List.length_cons, List.length_nil, List.length_take, List.length_drop, List.length_set, List.length_replicate]; omega))); (focus (first | omega | (simp only [List.length_map, List.length_range, List.length_append, List.length_cons, List.length_nil, List.length_take, List.length_drop, List.length_set, List.length_replicate]; omega))))
    | ((with_reducible apply js_w0); (focus rfl); (focus rfl); (focus rfl); (focus (with_reducible exact ElC.h)); (focus rfl); (focus rfl))
    | ((with_reducible apply js_w1); (focus rfl); (focus rfl); (focus rfl); (focus (with_reducible exact ElC.h)); (focus rfl); (focus rfl))
    | ((with_reducible apply js_w2); (focus rfl); (focus rfl); (focus rfl); (focus (with_reducible exact ElC.h)); (focus rfl); (focus rfl))
    | ((with_reducible apply js_w3); (focus rfl); (focus rfl); (focus rfl); (focus (with_reducible exact ElC.h)); (focus rfl); (focus rfl))
    | ((with_reducible apply js_w4); (focus rfl); (focus rfl); (focus rfl); (focus (with_reducible exact ElC.h)); (focus rfl); (focus rfl))
    | ((with_reducible apply js_w5); (focus rfl); (focus rfl); (focus rfl); (focus (with_reducible exact ElC.h)); (focus rfl); (focus rfl))
    | ((with_reducible apply js_s0); (focus rfl); (focus rfl); (focus rfl); (focus (with_reducible exact ElC.h)); (focus (first | omega | (simp only [List.length_map, List.length_range, List.length_append, List.length_cons, List.length_nil, List.length_take, List.length_drop, List.length_set, List.length_replicate]; omega))))
    | ((with_reducible apply js_s1); (focus rfl); (focus rfl); (focus rfl); (focus (with_reducible exact ElC.h)); (focus (first | omega | (simp only [List.length_map, List.length_range, List.length_append, List.length_cons, List.length_nil, List.length_take, List.length_drop, List.length_set, List.length_replicate]; omega))))
    | ((with_reducible apply js_s2); (focus rfl); (focus rfl); (focus rfl); (focus (with_reducible exact ElC.h)); (focus (first | omega | (simp only [List.length_map, List.length_range, List.length_append, List.length_cons, List.length_nil, List.length_take, List.length_drop, List.length_set, List.length_replicate]; omega))))
    | ((with_reducible apply js_s3); (focus rfl); (focus rfl); (focus rfl); (focus (with_reducible exact ElC.h)); (focus (first | omega | (simp only [List.length_map, List.length_range, List.length_append, List.length_cons, List.length_nil, List.length_take, List.length_drop, List.length_set, List.length_replicate]; omega))))
    | ((with_reducible apply js_s4); (focus rfl); (focus rfl); (focus rfl); (focus (with_reducible exact ElC.h)); (focus (first | omega | (simp only [List.length_map, List.length_range, List.length_append, List.length_cons, List.length_nil, List.length_take, List.length_drop, List.length_set, List.length_replicate]; omega))))
    | ((with_reducible apply js_s5); (focus rfl); (focus rfl); (focus rfl); (focus (with_reducible exact ElC.h)); (focus (first | omega | (simp only [List.length_map, List.length_range, List.length_append, List.length_cons, List.length_nil, List.length_take, List.length_drop, List.length_set, List.length_replicate]; omega))))
    | (first
        | (first
          | with_reducible exact JL_nil
          | ((with_reducible apply jp); (focus (first
                                                 | (first
                                                   | ((with_reducible apply pu_move); rfl)
                                                   | ((with_reducible apply pu_assign); rfl)
                                                   | ((with_reducible apply pure_extract); rfl; rfl)
                                                   | ((with_reducible apply pure_lss); rfl; rfl)
                                                   | ((with_reducible apply pure_eql); rfl; rfl)
                                                   | ((with_reducible apply pure_neq); rfl; rfl)
                                                   | ((with_reducible apply pure_eql_bool); rfl; rfl; rfl)
                                                   | ((with_reducible apply pure_neq_bool); rfl; rfl; rfl)
                                                   | ((with_reducible apply pure_geq); rfl; rfl)
                                                   )
                                                 | (first
                                                   | ((with_reducible apply pure_gtr); rfl; rfl)
                                                   | ((with_reducible apply pure_leq); rfl; rfl)
                                                   | ((with_reducible apply pure_add); rfl; rfl; (focus (first | (unfold inI64; omega) | assumption)))
                                                   | ((with_reducible apply pure_sub); rfl; rfl; (focus (first | (unfold inI64; omega) | assumption)))
                                                   | ((with_reducible apply pure_mul); rfl; rfl; (focus (first | (unfold inI64; omega) | assumption)))
                                                   | ((with_reducible apply pure_quo); rfl; rfl; omega; omega; omega)
                                                   | ((with_reducible apply pure_rem); rfl; rfl; omega; omega)
                                                   | ((with_reducible apply pure_shl); rfl; rfl; omega; omega; (focus (first | (unfold inI64; omega) | assumption)))
                                                   | ((with_reducible apply pure_shr); rfl; rfl; omega; omega)
                                                   )
                                                 | (first
                                                   | ((with_reducible apply pure_shl_u); rfl; rfl; omega; omega; (focus (first | (unfold inI64; omega) | assumption)))
                                                   | ((with_reducible apply pure_shr_u); rfl; rfl; omega; omega)
                                                   | ((with_reducible apply pure_and1); rfl; rfl; omega; omega)
                                                   | ((with_reducible apply pure_and); rfl; rfl)
                                                   | ((with_reducible apply pure_or); rfl; rfl)
                                                   | ((with_reducible apply pure_neg); rfl; (focus (first | (unfold inI64; omega) | assumption)))
                                                   | ((with_reducible apply pure_eql_string); rfl; rfl)
                                                   | ((with_reducible apply pure_neq_string); rfl; rfl)
                                                   | ((with_reducible apply pu_pick_true); rfl; rfl)
                                                   )
                                                 | (first
                                                   | ((with_reducible apply pu_pick_false); rfl; rfl)
                                                   | ((with_reducible apply pure_not); rfl)
                                                   | ((with_reducible apply pu_len); rfl; rfl)
                                                   | ((with_reducible apply pure_len); rfl; rfl)
                                                   | ((with_reducible apply pu_max); rfl; rfl)
                                                   | ((with_reducible apply pu_min); rfl; rfl)
                                                   | ((with_reducible apply pu_slice_to3); rfl; rfl; rfl; rfl; (focus (with_reducible exact ElC.h)); omega; (focus (first | omega | (simp only [List.length_map, List.length_range, List.length_append, List.length_cons, List.length_nil, List.length_take, List.length_drop, List.length_set, List.length_replicate]; omega))))
                                                   | ((with_reducible apply pure_index1); rfl; (focus rfl); rfl; (focus (with_reducible exact ElC.h)); (focus (first | omega | (simp only [List.length_map, List.length_range, List.length_append, List.length_cons, List.length_nil, List.length_take, List.length_drop, List.length_set, List.length_replicate]; omega))))
                                                   | ((with_reducible apply pure_index); rfl; rfl; rfl; (focus (with_reducible exact ElC.h)); (focus (first | omega | (simp only [List.length_map, List.length_range, List.length_append, List.length_cons, List.length_nil, List.length_take, List.length_drop, List.length_set, List.length_replicate]; omega))))
                                                   | ((with_reducible apply pure_indexI); rfl; rfl; rfl; (focus (with_reducible exact ElC.h)); omega; (focus (first | omega | (simp only [List.length_map, List.length_range, List.length_append, List.length_cons, List.length_nil, List.length_take, List.length_drop, List.length_set, List.length_replicate]; omega))))
                                                   | ((with_reducible apply pu_func2); rfl; rfl)
                                                   )
                                                 | (first
                                                   | ((with_reducible apply pu_func3); rfl; rfl; rfl)
                                                   | ((with_reducible apply pu_slice); rfl; rfl; rfl; rfl; (focus (with_reducible exact ElC.h)); omega; omega; (focus (first | omega | (simp only [List.length_map, List.length_range, List.length_append, List.length_cons, List.length_nil, List.length_take, List.length_drop, List.length_set, List.length_replicate]; omega))))
                                                   | ((with_reducible apply pu_slice_from); rfl; rfl; rfl; (focus (with_reducible exact ElC.h)); omega; (focus (first | omega | (simp only [List.length_map, List.length_range, List.length_append, List.length_cons, List.length_nil, List.length_take, List.length_drop, List.length_set, List.length_replicate]; omega))))
                                                   | ((with_reducible apply pu_slice_to); rfl; rfl; rfl; (focus (with_reducible exact ElC.h)); omega; (focus (first | omega | (simp only [List.length_map, List.length_range, List.length_append, List.length_cons, List.length_nil, List.length_take, List.length_drop, List.length_set, List.length_replicate]; omega))))
                                                   | ((with_reducible apply pu_index_cells); rfl; rfl; (focus (with_reducible exact ElC.h)); rfl; omega; omega)
                                                   | ((with_reducible apply pure_fieldAddr); (focus (with_reducible exact FdC.h)); rfl)
                                                   | ((with_reducible apply pure_load); rfl; rfl)
                                                   | ((with_reducible apply pu_load_row); rfl; rfl; (focus (with_reducible exact ElC.h)); rfl)
                                                   | ((with_reducible apply pu_neq2); (focus (with_reducible exact EqC.h)); rfl; rfl)
                                                   )
                                                 | (first
                                                   | ((with_reducible apply pu_nilCheck); rfl)
                                                   | ((with_reducible apply pu_nilCheck_pd); rfl)
                                                   | ((with_reducible apply pu_field_cells); (focus (with_reducible exact FdC.h)); rfl)
                                                   | ((with_reducible apply pu_load_cells); rfl; rfl; (focus (first
                                                                                                               | exact List.mem_cons_self
                                                                                                               | exact List.mem_cons_of_mem _ List.mem_cons_self
                                                                                                               | exact List.mem_cons_of_mem _ (List.mem_cons_of_mem _ List.mem_cons_self)
                                                                                                               | exact List.mem_cons_of_mem _ (List.mem_cons_of_mem _ (List.mem_cons_of_mem _ List.mem_cons_self)))); rfl)
                                                   | ((with_reducible apply pu_load_cells_agg); rfl; rfl; (focus (with_reducible exact ElC.h)); (focus (first
                                                                                                                                                         | exact List.mem_cons_self
                                                                                                                                                         | exact List.mem_cons_of_mem _ List.mem_cons_self
                                                                                                                                                         | exact List.mem_cons_of_mem _ (List.mem_cons_of_mem _ List.mem_cons_self)
                                                                                                                                                         | exact List.mem_cons_of_mem _ (List.mem_cons_of_mem _ (List.mem_cons_of_mem _ List.mem_cons_self)))); rfl)
                                                   | ((with_reducible apply pu_iface); (focus (with_reducible exact NifC.h)); rfl)
                                                   | ((with_reducible apply pure_build2); (focus (with_reducible exact BlC.h)); rfl; rfl; rfl; rfl)
                                                   | ((with_reducible apply pu_build); (focus (with_reducible exact BlsC.h)); rfl; rfl; rfl)
                                                   | ((with_reducible apply pu_byte_int); rfl; rfl; rfl)
                                                   )
                                                 | (first
                                                   | ((with_reducible apply pu_int_byte); rfl; rfl; rfl)
                                                   | ((with_reducible apply pu_int_int); rfl; rfl; rfl; (focus (first | (unfold inI64; omega) | assumption)))
                                                   | ((with_reducible apply pu_bytes_string); rfl; rfl; rfl; rfl)
                                                   | ((with_reducible apply pu_len_row); rfl; rfl; (focus (first
                                                                                                            | exact List.mem_cons_self
                                                                                                            | exact List.mem_cons_of_mem _ List.mem_cons_self
                                                                                                            | exact List.mem_cons_of_mem _ (List.mem_cons_of_mem _ List.mem_cons_self)
                                                                                                            | exact List.mem_cons_of_mem _ (List.mem_cons_of_mem _ (List.mem_cons_of_mem _ List.mem_cons_self)))))
                                                   )
                                                 )); (focus rfl))
          | ((with_reducible apply jgt); (focus rfl); (focus rfl); (focus rfl); (focus rfl); (focus rfl))
          | ((with_reducible apply jgf); (focus rfl); (focus rfl); (focus rfl); (focus rfl); (focus rfl))
          | ((with_reducible apply jgu); (focus rfl); (focus rfl); (focus rfl); (focus rfl))
          | ((with_reducible apply jqu); (focus rfl); (focus rfl); (focus rfl); (focus rfl))
          | with_reducible exact tq_normal
          | with_reducible exact tq_ret
          | with_reducible exact tq_exit
          )
        | (first
          | with_reducible exact tq_panic
          | with_reducible exact bq_normal
          | with_reducible exact bq_ret
          | with_reducible exact bq_exit
          | ((with_reducible apply bq_exit'); (focus decide))
          | with_reducible exact bq_panic
          | ((with_reducible apply jpan); (focus rfl))
          | with_reducible exact J_seq
          | with_reducible exact J_region
          )
        | (first
          | ((with_reducible apply (J_region_mix 0)); (focus exact mixed); (focus rfl); (focus ((repeat (with_reducible apply len_cons)); exact len_nil)); (focus (decide +kernel)); (focus ((repeat (with_reducible apply Mix.cons)); exact Mix.nil)))
          | ((with_reducible apply (J_region_mix 1)); (focus exact mixed); (focus rfl); (focus ((repeat (with_reducible apply len_cons)); exact len_nil)); (focus (decide +kernel)); (focus ((repeat (with_reducible apply Mix.cons)); exact Mix.nil)))
          | ((with_reducible apply (J_region_mix 2)); (focus exact mixed); (focus rfl); (focus ((repeat (with_reducible apply len_cons)); exact len_nil)); (focus (decide +kernel)); (focus ((repeat (with_reducible apply Mix.cons)); exact Mix.nil)))
          | ((with_reducible apply (J_region_mix 3)); (focus exact mixed); (focus rfl); (focus ((repeat (with_reducible apply len_cons)); exact len_nil)); (focus (decide +kernel)); (focus ((repeat (with_reducible apply Mix.cons)); exact Mix.nil)))
          | ((with_reducible apply (J_region_mix 4)); (focus exact mixed); (focus rfl); (focus ((repeat (with_reducible apply len_cons)); exact len_nil)); (focus (decide +kernel)); (focus ((repeat (with_reducible apply Mix.cons)); exact Mix.nil)))
          | ((with_reducible apply (J_region_mix 5)); (focus exact mixed); (focus rfl); (focus ((repeat (with_reducible apply len_cons)); exact len_nil)); (focus (decide +kernel)); (focus ((repeat (with_reducible apply Mix.cons)); exact Mix.nil)))
          | ((with_reducible apply (J_region_mix 6)); (focus exact mixed); (focus rfl); (focus ((repeat (with_reducible apply len_cons)); exact len_nil)); (focus (decide +kernel)); (focus ((repeat (with_reducible apply Mix.cons)); exact Mix.nil)))
          | ((with_reducible apply (J_region_mix 7)); (focus exact mixed); (focus rfl); (focus ((repeat (with_reducible apply len_cons)); exact len_nil)); (focus (decide +kernel)); (focus ((repeat (with_reducible apply Mix.cons)); exact Mix.nil)))
          | ((with_reducible apply (J_region_mix 8)); (focus exact mixed); (focus rfl); (focus ((repeat (with_reducible apply len_cons)); exact len_nil)); (focus (decide +kernel)); (focus ((repeat (with_reducible apply Mix.cons)); exact Mix.nil)))
          )
        | (first
          | with_reducible exact J_block
          | ((with_reducible apply J_region_tail); (focus exact mixed); (focus ((repeat (with_reducible apply len_cons)); exact len_nil)); (focus kernel_rfl))
          | ((with_reducible apply J_region_draw); (focus exact mixed); (focus kernel_rfl); (focus ((repeat (with_reducible apply len_cons)); exact len_nil)))
          | with_reducible exact JQ_nil
          | ((with_reducible apply jqp); (focus (first
                                                  | (first
                                                    | ((with_reducible apply pu_move); rfl)
                                                    | ((with_reducible apply pu_assign); rfl)
                                                    | ((with_reducible apply pure_extract); rfl; rfl)
                                                    | ((with_reducible apply pure_lss); rfl; rfl)
                                                    | ((with_reducible apply pure_eql); rfl; rfl)
                                                    | ((with_reducible apply pure_neq); rfl; rfl)
                                                    | ((with_reducible apply pure_eql_bool); rfl; rfl; rfl)
                                                    | ((with_reducible apply pure_neq_bool); rfl; rfl; rfl)
                                                    | ((with_reducible apply pure_geq); rfl; rfl)
                                                    )
                                                  | (first
                                                    | ((with_reducible apply pure_gtr); rfl; rfl)
                                                    | ((with_reducible apply pure_leq); rfl; rfl)
                                                    | ((with_reducible apply pure_add); rfl; rfl; (focus (first | (unfold inI64; omega) | assumption)))
                                                    | ((with_reducible apply pure_sub); rfl; rfl; (focus (first | (unfold inI64; omega) | assumption)))
                                                    | ((with_reducible apply pure_mul); rfl; rfl; (focus (first | (unfold inI64; omega) | assumption)))
                                                    | ((with_reducible apply pure_quo); rfl; rfl; omega; omega; omega)
                                                    | ((with_reducible apply pure_rem); rfl; rfl; omega; omega)
                                                    | ((with_reducible apply pure_shl); rfl; rfl; omega; omega; (focus (first | (unfold inI64; omega) | assumption)))
                                                    | ((with_reducible apply pure_shr); rfl; rfl; omega; omega)
                                                    )
                                                  | (first
                                                    | ((with_reducible apply pure_shl_u); rfl; rfl; omega; omega; (focus (first | (unfold inI64; omega) | assumption)))
                                                    | ((with_reducible apply pure_shr_u); rfl; rfl; omega; omega)
                                                    | ((with_reducible apply pure_and1); rfl; rfl; omega; omega)
                                                    | ((with_reducible apply pure_and); rfl; rfl)
                                                    | ((with_reducible apply pure_or); rfl; rfl)
                                                    | ((with_reducible apply pure_neg); rfl; (focus (first | (unfold inI64; omega) | assumption)))
                                                    | ((with_reducible apply pure_eql_string); rfl; rfl)
                                                    | ((with_reducible apply pure_neq_string); rfl; rfl)
                                                    | ((with_reducible apply pu_pick_true); rfl; rfl)
                                                    )
                                                  | (first
                                                    | ((with_reducible apply pu_pick_false); rfl; rfl)
                                                    | ((with_reducible apply pure_not); rfl)
                                                    | ((with_reducible apply pu_len); rfl; rfl)
                                                    | ((with_reducible apply pure_len); rfl; rfl)
                                                    | ((with_reducible apply pu_max); rfl; rfl)
                                                    | ((with_reducible apply pu_min); rfl; rfl)
                                                    | ((with_reducible apply pu_slice_to3); rfl; rfl; rfl; rfl; (focus (with_reducible exact ElC.h)); omega; (focus (first | omega | (simp only [List.length_map, List.length_range, List.length_append, List.length_cons, List.length_nil, List.length_take, List.length_drop, List.length_set, List.length_replicate]; omega))))
                                                    | ((with_reducible apply pure_index1); rfl; (focus rfl); rfl; (focus (with_reducible exact ElC.h)); (focus (first | omega | (simp only [List.length_map, List.length_range, List.length_append, List.length_cons, List.length_nil, List.length_take, List.length_drop, List.length_set, List.length_replicate]; omega))))
                                                    | ((with_reducible apply pure_index); rfl; rfl; rfl; (focus (with_reducible exact ElC.h)); (focus (first | omega | (simp only [List.length_map, List.length_range, List.length_append, List.length_cons, List.length_nil, List.length_take, List.length_drop, List.length_set, List.length_replicate]; omega))))
                                                    | ((with_reducible apply pure_indexI); rfl; rfl; rfl; (focus (with_reducible exact ElC.h)); omega; (focus (first | omega | (simp only [List.length_map, List.length_range, List.length_append, List.length_cons, List.length_nil, List.length_take, List.length_drop, List.length_set, List.length_replicate]; omega))))
                                                    | ((with_reducible apply pu_func2); rfl; rfl)
                                                    )
                                                  | (first
                                                    | ((with_reducible apply pu_func3); rfl; rfl; rfl)
                                                    | ((with_reducible apply pu_slice); rfl; rfl; rfl; rfl; (focus (with_reducible exact ElC.h)); omega; omega; (focus (first | omega | (simp only [List.length_map, List.length_range, List.length_append, List.length_cons, List.length_nil, List.length_take, List.length_drop, List.length_set, List.length_replicate]; omega))))
                                                    | ((with_reducible apply pu_slice_from); rfl; rfl; rfl; (focus (with_reducible exact ElC.h)); omega; (focus (first | omega | (simp only [List.length_map, List.length_range, List.length_append, List.length_cons, List.length_nil, List.length_take, List.length_drop, List.length_set, List.length_replicate]; omega))))
                                                    | ((with_reducible apply pu_slice_to); rfl; rfl; rfl; (focus (with_reducible exact ElC.h)); omega; (focus (first | omega | (simp only [List.length_map, List.length_range, List.length_append, List.length_cons, List.length_nil, List.length_take, List.length_drop, List.length_set, List.length_replicate]; omega))))
                                                    | ((with_reducible apply pu_index_cells); rfl; rfl; (focus (with_reducible exact ElC.h)); rfl; omega; omega)
                                                    | ((with_reducible apply pure_fieldAddr); (focus (with_reducible exact FdC.h)); rfl)
                                                    | ((with_reducible apply pure_load); rfl; rfl)
                                                    | ((with_reducible apply pu_load_row); rfl; rfl; (focus (with_reducible exact ElC.h)); rfl)
                                                    | ((with_reducible apply pu_neq2); (focus (with_reducible exact EqC.h)); rfl; rfl)
                                                    )
                                                  | (first
                                                    | ((with_reducible apply pu_nilCheck); rfl)
                                                    | ((with_reducible apply pu_nilCheck_pd); rfl)
                                                    | ((with_reducible apply pu_field_cells); (focus (with_reducible exact FdC.h)); rfl)
                                                    | ((with_reducible apply pu_load_cells); rfl; rfl; (focus (first
                                                                                                                | exact List.mem_cons_self
                                                                                                                | exact List.mem_cons_of_mem _ List.mem_cons_self
                                                                                                                | exact List.mem_cons_of_mem _ (List.mem_cons_of_mem _ List.mem_cons_self)
                                                                                                                | exact List.mem_cons_of_mem _ (List.mem_cons_of_mem _ (List.mem_cons_of_mem _ List.mem_cons_self)))); rfl)
                                                    | ((with_reducible apply pu_load_cells_agg); rfl; rfl; (focus (with_reducible exact ElC.h)); (focus (first
                                                                                                                                                          | exact List.mem_cons_self
                                                                                                                                                          | exact List.mem_cons_of_mem _ List.mem_cons_self
                                                                                                                                                          | exact List.mem_cons_of_mem _ (List.mem_cons_of_mem _ List.mem_cons_self)
                                                                                                                                                          | exact List.mem_cons_of_mem _ (List.mem_cons_of_mem _ (List.mem_cons_of_mem _ List.mem_cons_self)))); rfl)
                                                    | ((with_reducible apply pu_iface); (focus (with_reducible exact NifC.h)); rfl)
                                                    | ((with_reducible apply pure_build2); (focus (with_reducible exact BlC.h)); rfl; rfl; rfl; rfl)
                                                    | ((with_reducible apply pu_build); (focus (with_reducible exact BlsC.h)); rfl; rfl; rfl)
                                                    | ((with_reducible apply pu_byte_int); rfl; rfl; rfl)
                                                    )
                                                  | (first
                                                    | ((with_reducible apply pu_int_byte); rfl; rfl; rfl)
                                                    | ((with_reducible apply pu_int_int); rfl; rfl; rfl; (focus (first | (unfold inI64; omega) | assumption)))
                                                    | ((with_reducible apply pu_bytes_string); rfl; rfl; rfl; rfl)
                                                    | ((with_reducible apply pu_len_row); rfl; rfl; (focus (first
                                                                                                             | exact List.mem_cons_self
                                                                                                             | exact List.mem_cons_of_mem _ List.mem_cons_self
                                                                                                             | exact List.mem_cons_of_mem _ (List.mem_cons_of_mem _ List.mem_cons_self)
                                                                                                             | exact List.mem_cons_of_mem _ (List.mem_cons_of_mem _ (List.mem_cons_of_mem _ List.mem_cons_self)))))
                                                    )
                                                  )); (focus rfl))
          | ((with_reducible apply jqt); (focus rfl); (focus rfl); (focus rfl); (focus rfl); (focus rfl))
          | ((with_reducible apply jqf); (focus rfl); (focus rfl); (focus rfl); (focus rfl); (focus rfl))
          | (first
              | ((with_reducible apply jbuild_byte); (focus rfl); (focus rfl); (focus (with_reducible exact ElC.h)); (focus rfl); (focus rfl))
              | ((with_reducible apply jbuild_int); (focus rfl); (focus rfl); (focus (with_reducible exact ElC.h)); (focus rfl); (focus rfl))
              | ((with_reducible apply jbuild_bool); (focus rfl); (focus rfl); (focus (with_reducible exact ElC.h)); (focus rfl); (focus rfl))
              | ((with_reducible apply jbuild_list); (focus rfl); (focus rfl); (focus (with_reducible exact ElC.h)); (focus rfl); (focus rfl))
              | ((with_reducible apply jbuild_agg); (focus rfl); (focus rfl); (focus (with_reducible exact ElC.h)); (focus rfl); (focus rfl); (focus rfl); (focus rfl); (focus rfl))
              | ((with_reducible apply jbuild_two); (focus rfl); (focus rfl); (focus (with_reducible exact ElC.h)); (focus rfl); (focus rfl)))
          | ((with_reducible apply japp); (focus rfl); (focus rfl); (focus rfl); (focus (with_reducible exact ElC.h)); (focus rfl); (focus rfl); (focus rfl); (focus (first | omega | (simp only [List.length_map, List.length_range, List.length_append, List.length_cons, List.length_nil, List.length_take, List.length_drop, List.length_set, List.length_replicate]; omega))); (focus (first | omega | (simp only [List.length_map, List.length_range, List.length_append, List.length_cons, List.length_nil, List.length_take, List.length_drop, List.length_set, List.length_replicate]; omega))))
          )
        | (first
          | ((with_reducible apply japp_copy); (focus rfl); (focus rfl); (focus rfl); (focus (with_reducible exact ElC.h)); (focus rfl); (focus rfl); (focus rfl); (focus exact fun _ => rfl); (focus (first | omega | (simp only [List.length_map, List.length_range, List.length_append, List.length_cons, List.length_nil, List.length_take, List.length_drop, List.length_set, List.length_replicate]; omega))); (focus (first | omega | (simp only [List.length_map, List.length_range, List.length_append, List.length_cons, List.length_nil, List.length_take, List.length_drop, List.length_set, List.length_replicate]; omega))))
          | with_reducible exact J_skip
          | with_reducible exact J_ret
          | with_reducible exact J_exit
          | ((with_reducible apply jcond); (focus rfl))
          | with_reducible exact cb_true
          | with_reducible exact cb_false
          | with_reducible exact cb_decT
          | with_reducible exact cb_not
          )
        | (first
          | with_reducible exact cb_splitT
          )
        | (first
          | ((with_reducible apply je_q); (focus rfl); (focus (decide +kernel)); (focus (first
                                                                                          | (first
                                                                                            | ((with_reducible apply pu_move); rfl)
                                                                                            | ((with_reducible apply pu_assign); rfl)
                                                                                            | ((with_reducible apply pure_extract); rfl; rfl)
                                                                                            | ((with_reducible apply pure_lss); rfl; rfl)
                                                                                            | ((with_reducible apply pure_eql); rfl; rfl)
                                                                                            | ((with_reducible apply pure_neq); rfl; rfl)
                                                                                            | ((with_reducible apply pure_eql_bool); rfl; rfl; rfl)
                                                                                            | ((with_reducible apply pure_neq_bool); rfl; rfl; rfl)
                                                                                            | ((with_reducible apply pure_geq); rfl; rfl)
                                                                                            )
                                                                                          | (first
                                                                                            | ((with_reducible apply pure_gtr); rfl; rfl)
                                                                                            | ((with_reducible apply pure_leq); rfl; rfl)
                                                                                            | ((with_reducible apply pure_add); rfl; rfl; (focus (first | (unfold inI64; omega) | assumption)))
                                                                                            | ((with_reducible apply pure_sub); rfl; rfl; (focus (first | (unfold inI64; omega) | assumption)))
                                                                                            | ((with_reducible apply pure_mul); rfl; rfl; (focus (first | (unfold inI64; omega) | assumption)))
                                                                                            | ((with_reducible apply pure_quo); rfl; rfl; omega; omega; omega)
                                                                                            | ((with_reducible apply pure_rem); rfl; rfl; omega; omega)
                                                                                            | ((with_reducible apply pure_shl); rfl; rfl; omega; omega; (focus (first | (unfold inI64; omega) | assumption)))
                                                                                            | ((with_reducible apply pure_shr); rfl; rfl; omega; omega)
                                                                                            )
                                                                                          | (first
                                                                                            | ((with_reducible apply pure_shl_u); rfl; rfl; omega; omega; (focus (first | (unfold inI64; omega) | assumption)))
                                                                                            | ((with_reducible apply pure_shr_u); rfl; rfl; omega; omega)
                                                                                            | ((with_reducible apply pure_and1); rfl; rfl; omega; omega)
                                                                                            | ((with_reducible apply pure_and); rfl; rfl)
                                                                                            | ((with_reducible apply pure_or); rfl; rfl)
                                                                                            | ((with_reducible apply pure_neg); rfl; (focus (first | (unfold inI64; omega) | assumption)))
                                                                                            | ((with_reducible apply pure_eql_string); rfl; rfl)
                                                                                            | ((with_reducible apply pure_neq_string); rfl; rfl)
                                                                                            | ((with_reducible apply pu_pick_true); rfl; rfl)
                                                                                            )
                                                                                          | (first
                                                                                            | ((with_reducible apply pu_pick_false); rfl; rfl)
                                                                                            | ((with_reducible apply pure_not); rfl)
                                                                                            | ((with_reducible apply pu_len); rfl; rfl)
                                                                                            | ((with_reducible apply pure_len); rfl; rfl)
                                                                                            | ((with_reducible apply pu_max); rfl; rfl)
                                                                                            | ((with_reducible apply pu_min); rfl; rfl)
                                                                                            | ((with_reducible apply pu_slice_to3); rfl; rfl; rfl; rfl; (focus (with_reducible exact ElC.h)); omega; (focus (first | omega | (simp only [List.length_map, List.length_range, List.length_append, List.length_cons, List.length_nil, List.length_take, List.length_drop, List.length_set, List.length_replicate]; omega))))
                                                                                            | ((with_reducible apply pure_index1); rfl; (focus rfl); rfl; (focus (with_reducible exact ElC.h)); (focus (first | omega | (simp only [List.length_map, List.length_range, List.length_append, List.length_cons, List.length_nil, List.length_take, List.length_drop, List.length_set, List.length_replicate]; omega))))
                                                                                            | ((with_reducible apply pure_index); rfl; rfl; rfl; (focus (with_reducible exact ElC.h)); (focus (first | omega | (simp only [List.length_map, List.length_range, List.length_append, List.length_cons, List.length_nil, List.length_take, List.length_drop, List.length_set, List.length_replicate]; omega))))
                                                                                            | ((with_reducible apply pure_indexI); rfl; rfl; rfl; (focus (with_reducible exact ElC.h)); omega; (focus (first | omega | (simp only [List.length_map, List.length_range, List.length_append, List.length_cons, List.length_nil, List.length_take, List.length_drop, List.length_set, List.length_replicate]; omega))))
                                                                                            | ((with_reducible apply pu_func2); rfl; rfl)
                                                                                            )
                                                                                          | (first
                                                                                            | ((with_reducible apply pu_func3); rfl; rfl; rfl)
                                                                                            | ((with_reducible apply pu_slice); rfl; rfl; rfl; rfl; (focus (with_reducible exact ElC.h)); omega; omega; (focus (first | omega | (simp only [List.length_map, List.length_range, List.length_append, List.length_cons, List.length_nil, List.length_take, List.length_drop, List.length_set, List.length_replicate]; omega))))
                                                                                            | ((with_reducible apply pu_slice_from); rfl; rfl; rfl; (focus (with_reducible exact ElC.h)); omega; (focus (first | omega | (simp only [List.length_map, List.length_range, List.length_append, List.length_cons, List.length_nil, List.length_take, List.length_drop, List.length_set, List.length_replicate]; omega))))
                                                                                            | ((with_reducible apply pu_slice_to); rfl; rfl; rfl; (focus (with_reducible exact ElC.h)); omega; (focus (first | omega | (simp only [List.length_map, List.length_range, List.length_append, List.length_cons, List.length_nil, List.length_take, List.length_drop, List.length_set, List.length_replicate]; omega))))
                                                                                            | ((with_reducible apply pu_index_cells); rfl; rfl; (focus (with_reducible exact ElC.h)); rfl; omega; omega)
                                                                                            | ((with_reducible apply pure_fieldAddr); (focus (with_reducible exact FdC.h)); rfl)
                                                                                            | ((with_reducible apply pure_load); rfl; rfl)
                                                                                            | ((with_reducible apply pu_load_row); rfl; rfl; (focus (with_reducible exact ElC.h)); rfl)
                                                                                            | ((with_reducible apply pu_neq2); (focus (with_reducible exact EqC.h)); rfl; rfl)
                                                                                            )
                                                                                          | (first
                                                                                            | ((with_reducible apply pu_nilCheck); rfl)
                                                                                            | ((with_reducible apply pu_nilCheck_pd); rfl)
                                                                                            | ((with_reducible apply pu_field_cells); (focus (with_reducible exact FdC.h)); rfl)
                                                                                            | ((with_reducible apply pu_load_cells); rfl; rfl; (focus (first
                                                                                                                                                        | exact List.mem_cons_self
                                                                                                                                                        | exact List.mem_cons_of_mem _ List.mem_cons_self
                                                                                                                                                        | exact List.mem_cons_of_mem _ (List.mem_cons_of_mem _ List.mem_cons_self)
                                                                                                                                                        | exact List.mem_cons_of_mem _ (List.mem_cons_of_mem _ (List.mem_cons_of_mem _ List.mem_cons_self)))); rfl)
                                                                                            | ((with_reducible apply pu_load_cells_agg); rfl; rfl; (focus (with_reducible exact ElC.h)); (focus (first
                                                                                                                                                                                                  | exact List.mem_cons_self
                                                                                                                                                                                                  | exact List.mem_cons_of_mem _ List.mem_cons_self
                                                                                                                                                                                                  | exact List.mem_cons_of_mem _ (List.mem_cons_of_mem _ List.mem_cons_self)
                                                                                                                                                                                                  | exact List.mem_cons_of_mem _ (List.mem_cons_of_mem _ (List.mem_cons_of_mem _ List.mem_cons_self)))); rfl)
                                                                                            | ((with_reducible apply pu_iface); (focus (with_reducible exact NifC.h)); rfl)
                                                                                            | ((with_reducible apply pure_build2); (focus (with_reducible exact BlC.h)); rfl; rfl; rfl; rfl)
                                                                                            | ((with_reducible apply pu_build); (focus (with_reducible exact BlsC.h)); rfl; rfl; rfl)
                                                                                            | ((with_reducible apply pu_byte_int); rfl; rfl; rfl)
                                                                                            )
                                                                                          | (first
                                                                                            | ((with_reducible apply pu_int_byte); rfl; rfl; rfl)
                                                                                            | ((with_reducible apply pu_int_int); rfl; rfl; rfl; (focus (first | (unfold inI64; omega) | assumption)))
                                                                                            | ((with_reducible apply pu_bytes_string); rfl; rfl; rfl; rfl)
                                                                                            | ((with_reducible apply pu_len_row); rfl; rfl; (focus (first
                                                                                                                                                     | exact List.mem_cons_self
                                                                                                                                                     | exact List.mem_cons_of_mem _ List.mem_cons_self
                                                                                                                                                     | exact List.mem_cons_of_mem _ (List.mem_cons_of_mem _ List.mem_cons_self)
                                                                                                                                                     | exact List.mem_cons_of_mem _ (List.mem_cons_of_mem _ (List.mem_cons_of_mem _ List.mem_cons_self)))))
                                                                                            )
                                                                                          )); (focus rfl))
          | ((with_reducible apply je_qy); (focus rfl); (focus rfl); (focus rfl); (focus rfl); (focus rfl); (focus (decide +kernel)); (focus (first
                                                                                                                                               | (first
                                                                                                                                                 | ((with_reducible apply pu_move); rfl)
                                                                                                                                                 | ((with_reducible apply pu_assign); rfl)
                                                                                                                                                 | ((with_reducible apply pure_extract); rfl; rfl)
                                                                                                                                                 | ((with_reducible apply pure_lss); rfl; rfl)
                                                                                                                                                 | ((with_reducible apply pure_eql); rfl; rfl)
                                                                                                                                                 | ((with_reducible apply pure_neq); rfl; rfl)
                                                                                                                                                 | ((with_reducible apply pure_eql_bool); rfl; rfl; rfl)
                                                                                                                                                 | ((with_reducible apply pure_neq_bool); rfl; rfl; rfl)
                                                                                                                                                 | ((with_reducible apply pure_geq); rfl; rfl)
                                                                                                                                                 )
                                                                                                                                               | (first
                                                                                                                                                 | ((with_reducible apply pure_gtr); rfl; rfl)
                                                                                                                                                 | ((with_reducible apply pure_leq); rfl; rfl)
                                                                                                                                                 | ((with_reducible apply pure_add); rfl; rfl; (focus (first | (unfold inI64; omega) | assumption)))
                                                                                                                                                 | ((with_reducible apply pure_sub); rfl; rfl; (focus (first | (unfold inI64; omega) | assumption)))
                                                                                                                                                 | ((with_reducible apply pure_mul); rfl; rfl; (focus (first | (unfold inI64; omega) | assumption)))
                                                                                                                                                 | ((with_reducible apply pure_quo); rfl; rfl; omega; omega; omega)
                                                                                                                                                 | ((with_reducible apply pure_rem); rfl; rfl; omega; omega)
                                                                                                                                                 | ((with_reducible apply pure_shl); rfl; rfl; omega; omega; (focus (first | (unfold inI64; omega) | assumption)))
                                                                                                                                                 | ((with_reducible apply pure_shr); rfl; rfl; omega; omega)
                                                                                                                                                 )
                                                                                                                                               | (first
                                                                                                                                                 | ((with_reducible apply pure_shl_u); rfl; rfl; omega; omega; (focus (first | (unfold inI64; omega) | assumption)))
                                                                                                                                                 | ((with_reducible apply pure_shr_u); rfl; rfl; omega; omega)
                                                                                                                                                 | ((with_reducible apply pure_and1); rfl; rfl; omega; omega)
                                                                                                                                                 | ((with_reducible apply pure_and); rfl; rfl)
                                                                                                                                                 | ((with_reducible apply pure_or); rfl; rfl)
                                                                                                                                                 | ((with_reducible apply pure_neg); rfl; (focus (first | (unfold inI64; omega) | assumption)))
                                                                                                                                                 | ((with_reducible apply pure_eql_string); rfl; rfl)
                                                                                                                                                 | ((with_reducible apply pure_neq_string); rfl; rfl)
                                                                                                                                                 | ((with_reducible apply pu_pick_true); rfl; rfl)
                                                                                                                                                 )
                                                                                                                                               | (first
                                                                                                                                                 | ((with_reducible apply pu_pick_false); rfl; rfl)
                                                                                                                                                 | ((with_reducible apply pure_not); rfl)
                                                                                                                                                 | ((with_reducible apply pu_len); rfl; rfl)
                                                                                                                                                 | ((with_reducible apply pure_len); rfl; rfl)
                                                                                                                                                 | ((with_reducible apply pu_max); rfl; rfl)
                                                                                                                                                 | ((with_reducible apply pu_min); rfl; rfl)
                                                                                                                                                 | ((with_reducible apply pu_slice_to3); rfl; rfl; rfl; rfl; (focus (with_reducible exact ElC.h)); omega; (focus (first | omega | (simp only [List.length_map, List.length_range, List.length_append, List.length_cons, List.length_nil, List.length_take, List.length_drop, List.length_set, List.length_replicate]; omega))))
                                                                                                                                                 | ((with_reducible apply pure_index1); rfl; (focus rfl); rfl; (focus (with_reducible exact ElC.h)); (focus (first | omega | (simp only [List.length_map, List.length_range, List.length_append, List.length_cons, List.length_nil, List.length_take, List.length_drop, List.length_set, List.length_replicate]; omega))))
                                                                                                                                                 | ((with_reducible apply pure_index); rfl; rfl; rfl; (focus (with_reducible exact ElC.h)); (focus (first | omega | (simp only [List.length_map, List.length_range, List.length_append, List.length_cons, List.length_nil, List.length_take, List.length_drop, List.length_set, List.length_replicate]; omega))))
                                                                                                                                                 | ((with_reducible apply pure_indexI); rfl; rfl; rfl; (focus (with_reducible exact ElC.h)); omega; (focus (first | omega | (simp only [List.length_map, List.length_range, List.length_append, List.length_cons, List.length_nil, List.length_take, List.length_drop, List.length_set, List.length_replicate]; omega))))
                                                                                                                                                 | ((with_reducible apply pu_func2); rfl; rfl)
                                                                                                                                                 )
                                                                                                                                               | (first
                                                                                                                                                 | ((with_reducible apply pu_func3); rfl; rfl; rfl)
                                                                                                                                                 | ((with_reducible apply pu_slice); rfl; rfl; rfl; rfl; (focus (with_reducible exact ElC.h)); omega; omega; (focus (first | omega | (simp only [List.length_map, List.length_range, List.length_append, List.length_cons, List.length_nil, List.length_take, List.length_drop, List.length_set, List.length_replicate]; omega))))
                                                                                                                                                 | ((with_reducible apply pu_slice_from); rfl; rfl; rfl; (focus (with_reducible exact ElC.h)); omega; (focus (first | omega | (simp only [List.length_map, List.length_range, List.length_append, List.length_cons, List.length_nil, List.length_take, List.length_drop, List.length_set, List.length_replicate]; omega))))
                                                                                                                                                 | ((with_reducible apply pu_slice_to); rfl; rfl; rfl; (focus (with_reducible exact ElC.h)); omega; (focus (first | omega | (simp only [List.length_map, List.length_range, List.length_append, List.length_cons, List.length_nil, List.length_take, List.length_drop, List.length_set, List.length_replicate]; omega))))
                                                                                                                                                 | ((with_reducible apply pu_index_cells); rfl; rfl; (focus (with_reducible exact ElC.h)); rfl; omega; omega)
                                                                                                                                                 | ((with_reducible apply pure_fieldAddr); (focus (with_reducible exact FdC.h)); rfl)
                                                                                                                                                 | ((with_reducible apply pure_load); rfl; rfl)
                                                                                                                                                 | ((with_reducible apply pu_load_row); rfl; rfl; (focus (with_reducible exact ElC.h)); rfl)
                                                                                                                                                 | ((with_reducible apply pu_neq2); (focus (with_reducible exact EqC.h)); rfl; rfl)
                                                                                                                                                 )
                                                                                                                                               | (first
                                                                                                                                                 | ((with_reducible apply pu_nilCheck); rfl)
                                                                                                                                                 | ((with_reducible apply pu_nilCheck_pd); rfl)
                                                                                                                                                 | ((with_reducible apply pu_field_cells); (focus (with_reducible exact FdC.h)); rfl)
                                                                                                                                                 | ((with_reducible apply pu_load_cells); rfl; rfl; (focus (first
                                                                                                                                                                                                             | exact List.mem_cons_self
                                                                                                                                                                                                             | exact List.mem_cons_of_mem _ List.mem_cons_self
                                                                                                                                                                                                             | exact List.mem_cons_of_mem _ (List.mem_cons_of_mem _ List.mem_cons_self)
                                                                                                                                                                                                             | exact List.mem_cons_of_mem _ (List.mem_cons_of_mem _ (List.mem_cons_of_mem _ List.mem_cons_self)))); rfl)
                                                                                                                                                 | ((with_reducible apply pu_load_cells_agg); rfl; rfl; (focus (with_reducible exact ElC.h)); (focus (first
                                                                                                                                                                                                                                                       | exact List.mem_cons_self
                                                                                                                                                                                                                                                       | exact List.mem_cons_of_mem _ List.mem_cons_self
                                                                                                                                                                                                                                                       | exact List.mem_cons_of_mem _ (List.mem_cons_of_mem _ List.mem_cons_self)
                                                                                                                                                                                                                                                       | exact List.mem_cons_of_mem _ (List.mem_cons_of_mem _ (List.mem_cons_of_mem _ List.mem_cons_self)))); rfl)
                                                                                                                                                 | ((with_reducible apply pu_iface); (focus (with_reducible exact NifC.h)); rfl)
                                                                                                                                                 | ((with_reducible apply pure_build2); (focus (with_reducible exact BlC.h)); rfl; rfl; rfl; rfl)
                                                                                                                                                 | ((with_reducible apply pu_build); (focus (with_reducible exact BlsC.h)); rfl; rfl; rfl)
                                                                                                                                                 | ((with_reducible apply pu_byte_int); rfl; rfl; rfl)
                                                                                                                                                 )
                                                                                                                                               | (first
                                                                                                                                                 | ((with_reducible apply pu_int_byte); rfl; rfl; rfl)
                                                                                                                                                 | ((with_reducible apply pu_int_int); rfl; rfl; rfl; (focus (first | (unfold inI64; omega) | assumption)))
                                                                                                                                                 | ((with_reducible apply pu_bytes_string); rfl; rfl; rfl; rfl)
                                                                                                                                                 | ((with_reducible apply pu_len_row); rfl; rfl; (focus (first
                                                                                                                                                                                                          | exact List.mem_cons_self
                                                                                                                                                                                                          | exact List.mem_cons_of_mem _ List.mem_cons_self
                                                                                                                                                                                                          | exact List.mem_cons_of_mem _ (List.mem_cons_of_mem _ List.mem_cons_self)
                                                                                                                                                                                                          | exact List.mem_cons_of_mem _ (List.mem_cons_of_mem _ (List.mem_cons_of_mem _ List.mem_cons_self)))))
                                                                                                                                                 )
                                                                                                                                               )); (focus rfl))
          | ((with_reducible apply je_gt); (focus rfl); (focus rfl); (focus rfl); (focus rfl); (focus rfl); (focus (decide +kernel)); (focus rfl))
          | ((with_reducible apply je_gf); (focus rfl); (focus rfl); (focus rfl); (focus rfl); (focus rfl); (focus (decide +kernel)); (focus rfl))
          | ((with_reducible apply je_gu); (focus rfl); (focus rfl); (focus rfl); (focus rfl); (focus (decide +kernel)); (focus rfl))
          | ((with_reducible apply je_done); (focus (decide +kernel)))
          | ((with_reducible apply je_swap); (focus ((repeat (with_reducible apply Rv.cons)); exact Rv.nil)))
          | ((with_reducible apply je_hold); (focus (decide +kernel)))
          )
        ))))
  exact fun h => h) : q := h hp
end Go.Proofs.Ytffdlpjbbkhcnaa
