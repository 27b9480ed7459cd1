/- The step of a walk: what each operation does, by the rules. -/
import Derived.Test.YtffdlpjbbkhcnaaEl
import Derived.Test.YtffdlpjbbkhcnaaSb
namespace Go.Proofs.Ytffdlpjbbkhcnaa
open Go Go.Av
set_option maxRecDepth 100000

/-- One step of a walk; what is left of it comes first. -/
theorem stp {p q : Prop} (hp : p) (h : p → q := by
  repeat1' (apply cmp; (focus (first
                                | (first
                                  | with_reducible exact JL_nil
                                  | ((with_reducible apply jp); (focus (first
                                                                         | (first
                                                                           | ((with_reducible apply pu_move); rfl)
                                                                           | ((with_reducible apply pu_assign); rfl)
                                                                           | ((with_reducible apply pure_extract); rfl; rfl)
                                                                           | ((with_reducible apply pure_lss); rfl; rfl)
                                                                           | ((with_reducible apply pure_eql); rfl; rfl)
                                                                           | ((with_reducible apply pure_neq); rfl; rfl)
                                                                           | ((with_reducible apply pure_eql_bool); rfl; rfl; rfl)
                                                                           | ((with_reducible apply pure_neq_bool); rfl; rfl; rfl)
                                                                           | ((with_reducible apply pure_geq); rfl; rfl)
                                                                           )
                                                                         | (first
                                                                           | ((with_reducible apply pure_gtr); rfl; rfl)
                                                                           | ((with_reducible apply pure_leq); rfl; rfl)
                                                                           | ((with_reducible apply pure_add); rfl; rfl; (focus (first | (unfold inI64; omega) | assumption)))
                                                                           | ((with_reducible apply pure_sub); rfl; rfl; (focus (first | (unfold inI64; omega) | assumption)))
                                                                           | ((with_reducible apply pure_mul); rfl; rfl; (focus (first | (unfold inI64; omega) | assumption)))
                                                                           | ((with_reducible apply pure_quo); rfl; rfl; omega; omega; omega)
                                                                           | ((with_reducible apply pure_rem); rfl; rfl; omega; omega)
                                                                           | ((with_reducible apply pure_shl); rfl; rfl; omega; omega; (focus (first | (unfold inI64; omega) | assumption)))
                                                                           | ((with_reducible apply pure_shr); rfl; rfl; omega; omega)
                                                                           )
                                                                         | (first
                                                                           | ((with_reducible apply pure_shl_u); rfl; rfl; omega; omega; (focus (first | (unfold inI64; omega) | assumption)))
                                                                           | ((with_reducible apply pure_shr_u); rfl; rfl; omega; omega)
                                                                           | ((with_reducible apply pure_and1); rfl; rfl; omega; omega)
                                                                           | ((with_reducible apply pure_and); rfl; rfl)
                                                                           | ((with_reducible apply pure_or); rfl; rfl)
                                                                           | ((with_reducible apply pure_neg); rfl; (focus (first | (unfold inI64; omega) | assumption)))
                                                                           | ((with_reducible apply pure_eql_string); rfl; rfl)
                                                                           | ((with_reducible apply pure_neq_string); rfl; rfl)
                                                                           | ((with_reducible apply pu_pick_true); rfl; rfl)
                                                                           )
                                                                         | (first
                                                                           | ((with_reducible apply pu_pick_false); rfl; rfl)
                                                                           | ((with_reducible apply pure_not); rfl)
                                                                           | ((with_reducible apply pu_len); rfl; rfl)
                                                                           | ((with_reducible apply pure_len); rfl; rfl)
                                                                           | ((with_reducible apply pu_max); rfl; rfl)
                                                                           | ((with_reducible apply pure_index1); rfl; (focus rfl); rfl; (focus (with_reducible first
                                                                                                                                                  | exact el_int
                                                                                                                                                  | exact el_bool
                                                                                                                                                  | exact el_byte
                                                                                                                                                  | exact el_string
                                                                                                                                                  | exact el_Errno
                                                                                                                                                  | exact el_ints
                                                                                                                                                  | exact el_bools
                                                                                                                                                  | exact el_bytes
                                                                                                                                                  | exact el_lists
                                                                                                                                                  | exact el_moves
                                                                                                                                                  | exact el_spots
                                                                                                                                                  | exact el_letters
                                                                                                                                                  | exact el_frames
                                                                                                                                                  | exact el_Tape
                                                                                                                                                  | exact el_Move
                                                                                                                                                  | exact el_Spot
                                                                                                                                                  | exact el_Graph
                                                                                                                                                  | exact el_Word
                                                                                                                                                  | exact el_search
                                                                                                                                                  | exact el_frame
                                                                                                                                                  | fail
                                                                                                                                                  )); (focus (first | omega | (simp only [List.length_map, List.length_range, List.length_append, List.length_cons, List.length_nil]; omega) | (simp only [List.length_map, List.length_range, List.length_append, List.length_cons, List.length_nil, List.length_take, List.length_drop]; omega))))
                                                                           | ((with_reducible apply pure_index); rfl; rfl; rfl; (focus (with_reducible first
                                                                                                                                         | exact el_int
                                                                                                                                         | exact el_bool
                                                                                                                                         | exact el_byte
                                                                                                                                         | exact el_string
                                                                                                                                         | exact el_Errno
                                                                                                                                         | exact el_ints
                                                                                                                                         | exact el_bools
                                                                                                                                         | exact el_bytes
                                                                                                                                         | exact el_lists
                                                                                                                                         | exact el_moves
                                                                                                                                         | exact el_spots
                                                                                                                                         | exact el_letters
                                                                                                                                         | exact el_frames
                                                                                                                                         | exact el_Tape
                                                                                                                                         | exact el_Move
                                                                                                                                         | exact el_Spot
                                                                                                                                         | exact el_Graph
                                                                                                                                         | exact el_Word
                                                                                                                                         | exact el_search
                                                                                                                                         | exact el_frame
                                                                                                                                         | fail
                                                                                                                                         )); (focus (first | omega | (simp only [List.length_map, List.length_range, List.length_append, List.length_cons, List.length_nil]; omega) | (simp only [List.length_map, List.length_range, List.length_append, List.length_cons, List.length_nil, List.length_take, List.length_drop]; omega))))
                                                                           | ((with_reducible apply pure_indexI); rfl; rfl; rfl; (focus (with_reducible first
                                                                                                                                          | exact el_int
                                                                                                                                          | exact el_bool
                                                                                                                                          | exact el_byte
                                                                                                                                          | exact el_string
                                                                                                                                          | exact el_Errno
                                                                                                                                          | exact el_ints
                                                                                                                                          | exact el_bools
                                                                                                                                          | exact el_bytes
                                                                                                                                          | exact el_lists
                                                                                                                                          | exact el_moves
                                                                                                                                          | exact el_spots
                                                                                                                                          | exact el_letters
                                                                                                                                          | exact el_frames
                                                                                                                                          | exact el_Tape
                                                                                                                                          | exact el_Move
                                                                                                                                          | exact el_Spot
                                                                                                                                          | exact el_Graph
                                                                                                                                          | exact el_Word
                                                                                                                                          | exact el_search
                                                                                                                                          | exact el_frame
                                                                                                                                          | fail
                                                                                                                                          )); omega; (focus (first | omega | (simp only [List.length_map, List.length_range, List.length_append, List.length_cons, List.length_nil]; omega) | (simp only [List.length_map, List.length_range, List.length_append, List.length_cons, List.length_nil, List.length_take, List.length_drop]; omega))))
                                                                           | ((with_reducible apply pu_func2); rfl; rfl)
                                                                           )
                                                                         | (first
                                                                           | ((with_reducible apply pu_func3); rfl; rfl; rfl)
                                                                           | ((with_reducible apply pu_slice); rfl; rfl; rfl; rfl; (focus (with_reducible first
                                                                                                                                            | exact el_int
                                                                                                                                            | exact el_bool
                                                                                                                                            | exact el_byte
                                                                                                                                            | exact el_string
                                                                                                                                            | exact el_Errno
                                                                                                                                            | exact el_ints
                                                                                                                                            | exact el_bools
                                                                                                                                            | exact el_bytes
                                                                                                                                            | exact el_lists
                                                                                                                                            | exact el_moves
                                                                                                                                            | exact el_spots
                                                                                                                                            | exact el_letters
                                                                                                                                            | exact el_frames
                                                                                                                                            | exact el_Tape
                                                                                                                                            | exact el_Move
                                                                                                                                            | exact el_Spot
                                                                                                                                            | exact el_Graph
                                                                                                                                            | exact el_Word
                                                                                                                                            | exact el_search
                                                                                                                                            | exact el_frame
                                                                                                                                            | fail
                                                                                                                                            )); omega; omega; (focus (first | omega | (simp only [List.length_map, List.length_range, List.length_append, List.length_cons, List.length_nil]; omega) | (simp only [List.length_map, List.length_range, List.length_append, List.length_cons, List.length_nil, List.length_take, List.length_drop]; omega))))
                                                                           | ((with_reducible apply pu_slice_from); rfl; rfl; rfl; (focus (with_reducible first
                                                                                                                                            | exact el_int
                                                                                                                                            | exact el_bool
                                                                                                                                            | exact el_byte
                                                                                                                                            | exact el_string
                                                                                                                                            | exact el_Errno
                                                                                                                                            | exact el_ints
                                                                                                                                            | exact el_bools
                                                                                                                                            | exact el_bytes
                                                                                                                                            | exact el_lists
                                                                                                                                            | exact el_moves
                                                                                                                                            | exact el_spots
                                                                                                                                            | exact el_letters
                                                                                                                                            | exact el_frames
                                                                                                                                            | exact el_Tape
                                                                                                                                            | exact el_Move
                                                                                                                                            | exact el_Spot
                                                                                                                                            | exact el_Graph
                                                                                                                                            | exact el_Word
                                                                                                                                            | exact el_search
                                                                                                                                            | exact el_frame
                                                                                                                                            | fail
                                                                                                                                            )); omega; (focus (first | omega | (simp only [List.length_map, List.length_range, List.length_append, List.length_cons, List.length_nil]; omega) | (simp only [List.length_map, List.length_range, List.length_append, List.length_cons, List.length_nil, List.length_take, List.length_drop]; omega))))
                                                                           | ((with_reducible apply pu_slice_to); rfl; rfl; rfl; (focus (with_reducible first
                                                                                                                                          | exact el_int
                                                                                                                                          | exact el_bool
                                                                                                                                          | exact el_byte
                                                                                                                                          | exact el_string
                                                                                                                                          | exact el_Errno
                                                                                                                                          | exact el_ints
                                                                                                                                          | exact el_bools
                                                                                                                                          | exact el_bytes
                                                                                                                                          | exact el_lists
                                                                                                                                          | exact el_moves
                                                                                                                                          | exact el_spots
                                                                                                                                          | exact el_letters
                                                                                                                                          | exact el_frames
                                                                                                                                          | exact el_Tape
                                                                                                                                          | exact el_Move
                                                                                                                                          | exact el_Spot
                                                                                                                                          | exact el_Graph
                                                                                                                                          | exact el_Word
                                                                                                                                          | exact el_search
                                                                                                                                          | exact el_frame
                                                                                                                                          | fail
                                                                                                                                          )); omega; (focus (first | omega | (simp only [List.length_map, List.length_range, List.length_append, List.length_cons, List.length_nil]; omega) | (simp only [List.length_map, List.length_range, List.length_append, List.length_cons, List.length_nil, List.length_take, List.length_drop]; omega))))
                                                                           | ((with_reducible apply pu_index_cells); rfl; rfl; (focus (with_reducible first
                                                                                                                                        | exact el_int
                                                                                                                                        | exact el_bool
                                                                                                                                        | exact el_byte
                                                                                                                                        | exact el_string
                                                                                                                                        | exact el_Errno
                                                                                                                                        | exact el_ints
                                                                                                                                        | exact el_bools
                                                                                                                                        | exact el_bytes
                                                                                                                                        | exact el_lists
                                                                                                                                        | exact el_moves
                                                                                                                                        | exact el_spots
                                                                                                                                        | exact el_letters
                                                                                                                                        | exact el_frames
                                                                                                                                        | exact el_Tape
                                                                                                                                        | exact el_Move
                                                                                                                                        | exact el_Spot
                                                                                                                                        | exact el_Graph
                                                                                                                                        | exact el_Word
                                                                                                                                        | exact el_search
                                                                                                                                        | exact el_frame
                                                                                                                                        | fail
                                                                                                                                        )); rfl; omega; omega)
                                                                           | ((with_reducible apply pure_fieldAddr); (focus (with_reducible first
                                                                                                                              | exact fd_Tape0
                                                                                                                              | exact fd_Tape1
                                                                                                                              | exact fd_Move0
                                                                                                                              | exact fd_Move1
                                                                                                                              | exact fd_Spot0
                                                                                                                              | exact fd_Spot1
                                                                                                                              | exact fd_Graph0
                                                                                                                              | exact fd_Graph1
                                                                                                                              | exact fd_Graph2
                                                                                                                              | exact fd_Graph3
                                                                                                                              | exact fd_Graph4
                                                                                                                              | exact fd_Word0
                                                                                                                              | exact fd_Word1
                                                                                                                              | exact fd_search0
                                                                                                                              | exact fd_search1
                                                                                                                              | exact fd_search2
                                                                                                                              | exact fd_search3
                                                                                                                              | exact fd_search4
                                                                                                                              | exact fd_search5
                                                                                                                              | exact fd_search6
                                                                                                                              | exact fd_frame0
                                                                                                                              | exact fd_frame1
                                                                                                                              | fail
                                                                                                                              )); rfl)
                                                                           | ((with_reducible apply pure_load); rfl; rfl)
                                                                           | ((with_reducible apply pu_load_row); rfl; rfl; (focus (with_reducible first
                                                                                                                                     | exact el_int
                                                                                                                                     | exact el_bool
                                                                                                                                     | exact el_byte
                                                                                                                                     | exact el_string
                                                                                                                                     | exact el_Errno
                                                                                                                                     | exact el_ints
                                                                                                                                     | exact el_bools
                                                                                                                                     | exact el_bytes
                                                                                                                                     | exact el_lists
                                                                                                                                     | exact el_moves
                                                                                                                                     | exact el_spots
                                                                                                                                     | exact el_letters
                                                                                                                                     | exact el_frames
                                                                                                                                     | exact el_Tape
                                                                                                                                     | exact el_Move
                                                                                                                                     | exact el_Spot
                                                                                                                                     | exact el_Graph
                                                                                                                                     | exact el_Word
                                                                                                                                     | exact el_search
                                                                                                                                     | exact el_frame
                                                                                                                                     | fail
                                                                                                                                     )); rfl)
                                                                           | ((with_reducible apply pu_neq2); (focus (with_reducible first
                                                                                                                       | exact eq2_Spot
                                                                                                                       | exact eq2_Move
                                                                                                                       | fail
                                                                                                                       )); rfl; rfl)
                                                                           )
                                                                         | (first
                                                                           | ((with_reducible apply pu_nilCheck); rfl)
                                                                           | ((with_reducible apply pu_nilCheck_pd); rfl)
                                                                           | ((with_reducible apply pu_field_cells); (focus (with_reducible first
                                                                                                                              | exact fd_Tape0
                                                                                                                              | exact fd_Tape1
                                                                                                                              | exact fd_Move0
                                                                                                                              | exact fd_Move1
                                                                                                                              | exact fd_Spot0
                                                                                                                              | exact fd_Spot1
                                                                                                                              | exact fd_Graph0
                                                                                                                              | exact fd_Graph1
                                                                                                                              | exact fd_Graph2
                                                                                                                              | exact fd_Graph3
                                                                                                                              | exact fd_Graph4
                                                                                                                              | exact fd_Word0
                                                                                                                              | exact fd_Word1
                                                                                                                              | exact fd_search0
                                                                                                                              | exact fd_search1
                                                                                                                              | exact fd_search2
                                                                                                                              | exact fd_search3
                                                                                                                              | exact fd_search4
                                                                                                                              | exact fd_search5
                                                                                                                              | exact fd_search6
                                                                                                                              | exact fd_frame0
                                                                                                                              | exact fd_frame1
                                                                                                                              | fail
                                                                                                                              )); rfl)
                                                                           | ((with_reducible apply pu_load_cells); rfl; rfl; (focus (first
                                                                                                                                       | exact List.mem_cons_self
                                                                                                                                       | exact List.mem_cons_of_mem _ List.mem_cons_self
                                                                                                                                       | exact List.mem_cons_of_mem _ (List.mem_cons_of_mem _ List.mem_cons_self)
                                                                                                                                       | exact List.mem_cons_of_mem _ (List.mem_cons_of_mem _ (List.mem_cons_of_mem _ List.mem_cons_self)))); rfl)
                                                                           | ((with_reducible apply pu_load_cells_agg); rfl; rfl; (focus (with_reducible first
                                                                                                                                           | exact el_int
                                                                                                                                           | exact el_bool
                                                                                                                                           | exact el_byte
                                                                                                                                           | exact el_string
                                                                                                                                           | exact el_Errno
                                                                                                                                           | exact el_ints
                                                                                                                                           | exact el_bools
                                                                                                                                           | exact el_bytes
                                                                                                                                           | exact el_lists
                                                                                                                                           | exact el_moves
                                                                                                                                           | exact el_spots
                                                                                                                                           | exact el_letters
                                                                                                                                           | exact el_frames
                                                                                                                                           | exact el_Tape
                                                                                                                                           | exact el_Move
                                                                                                                                           | exact el_Spot
                                                                                                                                           | exact el_Graph
                                                                                                                                           | exact el_Word
                                                                                                                                           | exact el_search
                                                                                                                                           | exact el_frame
                                                                                                                                           | fail
                                                                                                                                           )); (focus (first
                                                                                                                                                        | exact List.mem_cons_self
                                                                                                                                                        | exact List.mem_cons_of_mem _ List.mem_cons_self
                                                                                                                                                        | exact List.mem_cons_of_mem _ (List.mem_cons_of_mem _ List.mem_cons_self)
                                                                                                                                                        | exact List.mem_cons_of_mem _ (List.mem_cons_of_mem _ (List.mem_cons_of_mem _ List.mem_cons_self)))); rfl)
                                                                           | ((with_reducible apply pu_iface); (focus (with_reducible first
                                                                                                                        | exact nif_Errno
                                                                                                                        | fail
                                                                                                                        )); rfl)
                                                                           | ((with_reducible apply pure_build2); (focus (with_reducible first
                                                                                                                           | exact bl_Tape
                                                                                                                           | exact bl_Move
                                                                                                                           | exact bl_Spot
                                                                                                                           | exact bl_Word
                                                                                                                           | exact bl_frame
                                                                                                                           | fail
                                                                                                                           )); rfl; rfl; rfl; rfl)
                                                                           | ((with_reducible apply pu_build); (focus (with_reducible first
                                                                                                                        | exact bls_Tape
                                                                                                                        | exact bls_Move
                                                                                                                        | exact bls_Spot
                                                                                                                        | exact bls_Graph
                                                                                                                        | exact bls_Word
                                                                                                                        | exact bls_search
                                                                                                                        | exact bls_frame
                                                                                                                        | fail
                                                                                                                        )); rfl; rfl; rfl)
                                                                           | ((with_reducible apply pu_byte_int); rfl; rfl; rfl)
                                                                           )
                                                                         | (first
                                                                           | ((with_reducible apply pu_int_byte); rfl; rfl; rfl)
                                                                           | ((with_reducible apply pu_int_int); rfl; rfl; rfl; (focus (first | (unfold inI64; omega) | assumption)))
                                                                           | ((with_reducible apply pu_bytes_string); rfl; rfl; rfl; rfl)
                                                                           | ((with_reducible apply pu_len_row); rfl; rfl; (focus (first
                                                                                                                                    | exact List.mem_cons_self
                                                                                                                                    | exact List.mem_cons_of_mem _ List.mem_cons_self
                                                                                                                                    | exact List.mem_cons_of_mem _ (List.mem_cons_of_mem _ List.mem_cons_self)
                                                                                                                                    | exact List.mem_cons_of_mem _ (List.mem_cons_of_mem _ (List.mem_cons_of_mem _ List.mem_cons_self)))))
                                                                           )
                                                                         )); (focus rfl))
                                  | ((with_reducible apply jgt); (focus rfl); (focus rfl); (focus rfl); (focus rfl); (focus rfl))
                                  | ((with_reducible apply jgf); (focus rfl); (focus rfl); (focus rfl); (focus rfl); (focus rfl))
                                  | ((with_reducible apply jgu); (focus rfl); (focus rfl); (focus rfl); (focus rfl))
                                  | ((with_reducible apply jqu); (focus rfl); (focus rfl); (focus rfl); (focus rfl))
                                  | with_reducible exact tq_normal
                                  | with_reducible exact tq_ret
                                  | with_reducible exact tq_exit
                                  )
                                | (first
                                  | with_reducible exact tq_panic
                                  | with_reducible exact bq_normal
                                  | with_reducible exact bq_ret
                                  | with_reducible exact bq_exit
                                  | ((with_reducible apply bq_exit'); (focus decide))
                                  | with_reducible exact bq_panic
                                  | ((with_reducible apply jpan); (focus rfl))
                                  | with_reducible exact J_seq
                                  | with_reducible exact J_region
                                  )
                                | (first
                                  | with_reducible exact J_block
                                  | ((with_reducible apply J_region_tail); (focus exact mixed); (focus ((repeat (with_reducible apply len_cons)); exact len_nil)); (focus kernel_rfl))
                                  | ((with_reducible apply J_region_draw); (focus exact mixed); (focus kernel_rfl); (focus ((repeat (with_reducible apply len_cons)); exact len_nil)))
                                  | with_reducible exact JQ_nil
                                  | ((with_reducible apply jqp); (focus (first
                                                                          | (first
                                                                            | ((with_reducible apply pu_move); rfl)
                                                                            | ((with_reducible apply pu_assign); rfl)
                                                                            | ((with_reducible apply pure_extract); rfl; rfl)
                                                                            | ((with_reducible apply pure_lss); rfl; rfl)
                                                                            | ((with_reducible apply pure_eql); rfl; rfl)
                                                                            | ((with_reducible apply pure_neq); rfl; rfl)
                                                                            | ((with_reducible apply pure_eql_bool); rfl; rfl; rfl)
                                                                            | ((with_reducible apply pure_neq_bool); rfl; rfl; rfl)
                                                                            | ((with_reducible apply pure_geq); rfl; rfl)
                                                                            )
                                                                          | (first
                                                                            | ((with_reducible apply pure_gtr); rfl; rfl)
                                                                            | ((with_reducible apply pure_leq); rfl; rfl)
                                                                            | ((with_reducible apply pure_add); rfl; rfl; (focus (first | (unfold inI64; omega) | assumption)))
                                                                            | ((with_reducible apply pure_sub); rfl; rfl; (focus (first | (unfold inI64; omega) | assumption)))
                                                                            | ((with_reducible apply pure_mul); rfl; rfl; (focus (first | (unfold inI64; omega) | assumption)))
                                                                            | ((with_reducible apply pure_quo); rfl; rfl; omega; omega; omega)
                                                                            | ((with_reducible apply pure_rem); rfl; rfl; omega; omega)
                                                                            | ((with_reducible apply pure_shl); rfl; rfl; omega; omega; (focus (first | (unfold inI64; omega) | assumption)))
                                                                            | ((with_reducible apply pure_shr); rfl; rfl; omega; omega)
                                                                            )
                                                                          | (first
                                                                            | ((with_reducible apply pure_shl_u); rfl; rfl; omega; omega; (focus (first | (unfold inI64; omega) | assumption)))
                                                                            | ((with_reducible apply pure_shr_u); rfl; rfl; omega; omega)
                                                                            | ((with_reducible apply pure_and1); rfl; rfl; omega; omega)
                                                                            | ((with_reducible apply pure_and); rfl; rfl)
                                                                            | ((with_reducible apply pure_or); rfl; rfl)
                                                                            | ((with_reducible apply pure_neg); rfl; (focus (first | (unfold inI64; omega) | assumption)))
                                                                            | ((with_reducible apply pure_eql_string); rfl; rfl)
                                                                            | ((with_reducible apply pure_neq_string); rfl; rfl)
                                                                            | ((with_reducible apply pu_pick_true); rfl; rfl)
                                                                            )
                                                                          | (first
                                                                            | ((with_reducible apply pu_pick_false); rfl; rfl)
                                                                            | ((with_reducible apply pure_not); rfl)
                                                                            | ((with_reducible apply pu_len); rfl; rfl)
                                                                            | ((with_reducible apply pure_len); rfl; rfl)
                                                                            | ((with_reducible apply pu_max); rfl; rfl)
                                                                            | ((with_reducible apply pure_index1); rfl; (focus rfl); rfl; (focus (with_reducible first
                                                                                                                                                   | exact el_int
                                                                                                                                                   | exact el_bool
                                                                                                                                                   | exact el_byte
                                                                                                                                                   | exact el_string
                                                                                                                                                   | exact el_Errno
                                                                                                                                                   | exact el_ints
                                                                                                                                                   | exact el_bools
                                                                                                                                                   | exact el_bytes
                                                                                                                                                   | exact el_lists
                                                                                                                                                   | exact el_moves
                                                                                                                                                   | exact el_spots
                                                                                                                                                   | exact el_letters
                                                                                                                                                   | exact el_frames
                                                                                                                                                   | exact el_Tape
                                                                                                                                                   | exact el_Move
                                                                                                                                                   | exact el_Spot
                                                                                                                                                   | exact el_Graph
                                                                                                                                                   | exact el_Word
                                                                                                                                                   | exact el_search
                                                                                                                                                   | exact el_frame
                                                                                                                                                   | fail
                                                                                                                                                   )); (focus (first | omega | (simp only [List.length_map, List.length_range, List.length_append, List.length_cons, List.length_nil]; omega) | (simp only [List.length_map, List.length_range, List.length_append, List.length_cons, List.length_nil, List.length_take, List.length_drop]; omega))))
                                                                            | ((with_reducible apply pure_index); rfl; rfl; rfl; (focus (with_reducible first
                                                                                                                                          | exact el_int
                                                                                                                                          | exact el_bool
                                                                                                                                          | exact el_byte
                                                                                                                                          | exact el_string
                                                                                                                                          | exact el_Errno
                                                                                                                                          | exact el_ints
                                                                                                                                          | exact el_bools
                                                                                                                                          | exact el_bytes
                                                                                                                                          | exact el_lists
                                                                                                                                          | exact el_moves
                                                                                                                                          | exact el_spots
                                                                                                                                          | exact el_letters
                                                                                                                                          | exact el_frames
                                                                                                                                          | exact el_Tape
                                                                                                                                          | exact el_Move
                                                                                                                                          | exact el_Spot
                                                                                                                                          | exact el_Graph
                                                                                                                                          | exact el_Word
                                                                                                                                          | exact el_search
                                                                                                                                          | exact el_frame
                                                                                                                                          | fail
                                                                                                                                          )); (focus (first | omega | (simp only [List.length_map, List.length_range, List.length_append, List.length_cons, List.length_nil]; omega) | (simp only [List.length_map, List.length_range, List.length_append, List.length_cons, List.length_nil, List.length_take, List.length_drop]; omega))))
                                                                            | ((with_reducible apply pure_indexI); rfl; rfl; rfl; (focus (with_reducible first
                                                                                                                                           | exact el_int
                                                                                                                                           | exact el_bool
                                                                                                                                           | exact el_byte
                                                                                                                                           | exact el_string
                                                                                                                                           | exact el_Errno
                                                                                                                                           | exact el_ints
                                                                                                                                           | exact el_bools
                                                                                                                                           | exact el_bytes
                                                                                                                                           | exact el_lists
                                                                                                                                           | exact el_moves
                                                                                                                                           | exact el_spots
                                                                                                                                           | exact el_letters
                                                                                                                                           | exact el_frames
                                                                                                                                           | exact el_Tape
                                                                                                                                           | exact el_Move
                                                                                                                                           | exact el_Spot
                                                                                                                                           | exact el_Graph
                                                                                                                                           | exact el_Word
                                                                                                                                           | exact el_search
                                                                                                                                           | exact el_frame
                                                                                                                                           | fail
                                                                                                                                           )); omega; (focus (first | omega | (simp only [List.length_map, List.length_range, List.length_append, List.length_cons, List.length_nil]; omega) | (simp only [List.length_map, List.length_range, List.length_append, List.length_cons, List.length_nil, List.length_take, List.length_drop]; omega))))
                                                                            | ((with_reducible apply pu_func2); rfl; rfl)
                                                                            )
                                                                          | (first
                                                                            | ((with_reducible apply pu_func3); rfl; rfl; rfl)
                                                                            | ((with_reducible apply pu_slice); rfl; rfl; rfl; rfl; (focus (with_reducible first
                                                                                                                                             | exact el_int
                                                                                                                                             | exact el_bool
                                                                                                                                             | exact el_byte
                                                                                                                                             | exact el_string
                                                                                                                                             | exact el_Errno
                                                                                                                                             | exact el_ints
                                                                                                                                             | exact el_bools
                                                                                                                                             | exact el_bytes
                                                                                                                                             | exact el_lists
                                                                                                                                             | exact el_moves
                                                                                                                                             | exact el_spots
                                                                                                                                             | exact el_letters
                                                                                                                                             | exact el_frames
                                                                                                                                             | exact el_Tape
                                                                                                                                             | exact el_Move
                                                                                                                                             | exact el_Spot
                                                                                                                                             | exact el_Graph
                                                                                                                                             | exact el_Word
                                                                                                                                             | exact el_search
                                                                                                                                             | exact el_frame
                                                                                                                                             | fail
                                                                                                                                             )); omega; omega; (focus (first | omega | (simp only [List.length_map, List.length_range, List.length_append, List.length_cons, List.length_nil]; omega) | (simp only [List.length_map, List.length_range, List.length_append, List.length_cons, List.length_nil, List.length_take, List.length_drop]; omega))))
                                                                            | ((with_reducible apply pu_slice_from); rfl; rfl; rfl; (focus (with_reducible first
                                                                                                                                             | exact el_int
                                                                                                                                             | exact el_bool
                                                                                                                                             | exact el_byte
                                                                                                                                             | exact el_string
                                                                                                                                             | exact el_Errno
                                                                                                                                             | exact el_ints
                                                                                                                                             | exact el_bools
                                                                                                                                             | exact el_bytes
                                                                                                                                             | exact el_lists
                                                                                                                                             | exact el_moves
                                                                                                                                             | exact el_spots
                                                                                                                                             | exact el_letters
                                                                                                                                             | exact el_frames
                                                                                                                                             | exact el_Tape
                                                                                                                                             | exact el_Move
                                                                                                                                             | exact el_Spot
                                                                                                                                             | exact el_Graph
                                                                                                                                             | exact el_Word
                                                                                                                                             | exact el_search
                                                                                                                                             | exact el_frame
                                                                                                                                             | fail
                                                                                                                                             )); omega; (focus (first | omega | (simp only [List.length_map, List.length_range, List.length_append, List.length_cons, List.length_nil]; omega) | (simp only [List.length_map, List.length_range, List.length_append, List.length_cons, List.length_nil, List.length_take, List.length_drop]; omega))))
                                                                            | ((with_reducible apply pu_slice_to); rfl; rfl; rfl; (focus (with_reducible first
                                                                                                                                           | exact el_int
                                                                                                                                           | exact el_bool
                                                                                                                                           | exact el_byte
                                                                                                                                           | exact el_string
                                                                                                                                           | exact el_Errno
                                                                                                                                           | exact el_ints
                                                                                                                                           | exact el_bools
                                                                                                                                           | exact el_bytes
                                                                                                                                           | exact el_lists
                                                                                                                                           | exact el_moves
                                                                                                                                           | exact el_spots
                                                                                                                                           | exact el_letters
                                                                                                                                           | exact el_frames
                                                                                                                                           | exact el_Tape
                                                                                                                                           | exact el_Move
                                                                                                                                           | exact el_Spot
                                                                                                                                           | exact el_Graph
                                                                                                                                           | exact el_Word
                                                                                                                                           | exact el_search
                                                                                                                                           | exact el_frame
                                                                                                                                           | fail
                                                                                                                                           )); omega; (focus (first | omega | (simp only [List.length_map, List.length_range, List.length_append, List.length_cons, List.length_nil]; omega) | (simp only [List.length_map, List.length_range, List.length_append, List.length_cons, List.length_nil, List.length_take, List.length_drop]; omega))))
                                                                            | ((with_reducible apply pu_index_cells); rfl; rfl; (focus (with_reducible first
                                                                                                                                         | exact el_int
                                                                                                                                         | exact el_bool
                                                                                                                                         | exact el_byte
                                                                                                                                         | exact el_string
                                                                                                                                         | exact el_Errno
                                                                                                                                         | exact el_ints
                                                                                                                                         | exact el_bools
                                                                                                                                         | exact el_bytes
                                                                                                                                         | exact el_lists
                                                                                                                                         | exact el_moves
                                                                                                                                         | exact el_spots
                                                                                                                                         | exact el_letters
                                                                                                                                         | exact el_frames
                                                                                                                                         | exact el_Tape
                                                                                                                                         | exact el_Move
                                                                                                                                         | exact el_Spot
                                                                                                                                         | exact el_Graph
                                                                                                                                         | exact el_Word
                                                                                                                                         | exact el_search
                                                                                                                                         | exact el_frame
                                                                                                                                         | fail
                                                                                                                                         )); rfl; omega; omega)
                                                                            | ((with_reducible apply pure_fieldAddr); (focus (with_reducible first
                                                                                                                               | exact fd_Tape0
                                                                                                                               | exact fd_Tape1
                                                                                                                               | exact fd_Move0
                                                                                                                               | exact fd_Move1
                                                                                                                               | exact fd_Spot0
                                                                                                                               | exact fd_Spot1
                                                                                                                               | exact fd_Graph0
                                                                                                                               | exact fd_Graph1
                                                                                                                               | exact fd_Graph2
                                                                                                                               | exact fd_Graph3
                                                                                                                               | exact fd_Graph4
                                                                                                                               | exact fd_Word0
                                                                                                                               | exact fd_Word1
                                                                                                                               | exact fd_search0
                                                                                                                               | exact fd_search1
                                                                                                                               | exact fd_search2
                                                                                                                               | exact fd_search3
                                                                                                                               | exact fd_search4
                                                                                                                               | exact fd_search5
                                                                                                                               | exact fd_search6
                                                                                                                               | exact fd_frame0
                                                                                                                               | exact fd_frame1
                                                                                                                               | fail
                                                                                                                               )); rfl)
                                                                            | ((with_reducible apply pure_load); rfl; rfl)
                                                                            | ((with_reducible apply pu_load_row); rfl; rfl; (focus (with_reducible first
                                                                                                                                      | exact el_int
                                                                                                                                      | exact el_bool
                                                                                                                                      | exact el_byte
                                                                                                                                      | exact el_string
                                                                                                                                      | exact el_Errno
                                                                                                                                      | exact el_ints
                                                                                                                                      | exact el_bools
                                                                                                                                      | exact el_bytes
                                                                                                                                      | exact el_lists
                                                                                                                                      | exact el_moves
                                                                                                                                      | exact el_spots
                                                                                                                                      | exact el_letters
                                                                                                                                      | exact el_frames
                                                                                                                                      | exact el_Tape
                                                                                                                                      | exact el_Move
                                                                                                                                      | exact el_Spot
                                                                                                                                      | exact el_Graph
                                                                                                                                      | exact el_Word
                                                                                                                                      | exact el_search
                                                                                                                                      | exact el_frame
                                                                                                                                      | fail
                                                                                                                                      )); rfl)
                                                                            | ((with_reducible apply pu_neq2); (focus (with_reducible first
                                                                                                                        | exact eq2_Spot
                                                                                                                        | exact eq2_Move
                                                                                                                        | fail
                                                                                                                        )); rfl; rfl)
                                                                            )
                                                                          | (first
                                                                            | ((with_reducible apply pu_nilCheck); rfl)
                                                                            | ((with_reducible apply pu_nilCheck_pd); rfl)
                                                                            | ((with_reducible apply pu_field_cells); (focus (with_reducible first
                                                                                                                               | exact fd_Tape0
                                                                                                                               | exact fd_Tape1
                                                                                                                               | exact fd_Move0
                                                                                                                               | exact fd_Move1
                                                                                                                               | exact fd_Spot0
                                                                                                                               | exact fd_Spot1
                                                                                                                               | exact fd_Graph0
                                                                                                                               | exact fd_Graph1
                                                                                                                               | exact fd_Graph2
                                                                                                                               | exact fd_Graph3
                                                                                                                               | exact fd_Graph4
                                                                                                                               | exact fd_Word0
                                                                                                                               | exact fd_Word1
                                                                                                                               | exact fd_search0
                                                                                                                               | exact fd_search1
                                                                                                                               | exact fd_search2
                                                                                                                               | exact fd_search3
                                                                                                                               | exact fd_search4
                                                                                                                               | exact fd_search5
                                                                                                                               | exact fd_search6
                                                                                                                               | exact fd_frame0
                                                                                                                               | exact fd_frame1
                                                                                                                               | fail
                                                                                                                               )); rfl)
                                                                            | ((with_reducible apply pu_load_cells); rfl; rfl; (focus (first
                                                                                                                                        | exact List.mem_cons_self
                                                                                                                                        | exact List.mem_cons_of_mem _ List.mem_cons_self
                                                                                                                                        | exact List.mem_cons_of_mem _ (List.mem_cons_of_mem _ List.mem_cons_self)
                                                                                                                                        | exact List.mem_cons_of_mem _ (List.mem_cons_of_mem _ (List.mem_cons_of_mem _ List.mem_cons_self)))); rfl)
                                                                            | ((with_reducible apply pu_load_cells_agg); rfl; rfl; (focus (with_reducible first
                                                                                                                                            | exact el_int
                                                                                                                                            | exact el_bool
                                                                                                                                            | exact el_byte
                                                                                                                                            | exact el_string
                                                                                                                                            | exact el_Errno
                                                                                                                                            | exact el_ints
                                                                                                                                            | exact el_bools
                                                                                                                                            | exact el_bytes
                                                                                                                                            | exact el_lists
                                                                                                                                            | exact el_moves
                                                                                                                                            | exact el_spots
                                                                                                                                            | exact el_letters
                                                                                                                                            | exact el_frames
                                                                                                                                            | exact el_Tape
                                                                                                                                            | exact el_Move
                                                                                                                                            | exact el_Spot
                                                                                                                                            | exact el_Graph
                                                                                                                                            | exact el_Word
                                                                                                                                            | exact el_search
                                                                                                                                            | exact el_frame
                                                                                                                                            | fail
                                                                                                                                            )); (focus (first
                                                                                                                                                         | exact List.mem_cons_self
                                                                                                                                                         | exact List.mem_cons_of_mem _ List.mem_cons_self
                                                                                                                                                         | exact List.mem_cons_of_mem _ (List.mem_cons_of_mem _ List.mem_cons_self)
                                                                                                                                                         | exact List.mem_cons_of_mem _ (List.mem_cons_of_mem _ (List.mem_cons_of_mem _ List.mem_cons_self)))); rfl)
                                                                            | ((with_reducible apply pu_iface); (focus (with_reducible first
                                                                                                                         | exact nif_Errno
                                                                                                                         | fail
                                                                                                                         )); rfl)
                                                                            | ((with_reducible apply pure_build2); (focus (with_reducible first
                                                                                                                            | exact bl_Tape
                                                                                                                            | exact bl_Move
                                                                                                                            | exact bl_Spot
                                                                                                                            | exact bl_Word
                                                                                                                            | exact bl_frame
                                                                                                                            | fail
                                                                                                                            )); rfl; rfl; rfl; rfl)
                                                                            | ((with_reducible apply pu_build); (focus (with_reducible first
                                                                                                                         | exact bls_Tape
                                                                                                                         | exact bls_Move
                                                                                                                         | exact bls_Spot
                                                                                                                         | exact bls_Graph
                                                                                                                         | exact bls_Word
                                                                                                                         | exact bls_search
                                                                                                                         | exact bls_frame
                                                                                                                         | fail
                                                                                                                         )); rfl; rfl; rfl)
                                                                            | ((with_reducible apply pu_byte_int); rfl; rfl; rfl)
                                                                            )
                                                                          | (first
                                                                            | ((with_reducible apply pu_int_byte); rfl; rfl; rfl)
                                                                            | ((with_reducible apply pu_int_int); rfl; rfl; rfl; (focus (first | (unfold inI64; omega) | assumption)))
                                                                            | ((with_reducible apply pu_bytes_string); rfl; rfl; rfl; rfl)
                                                                            | ((with_reducible apply pu_len_row); rfl; rfl; (focus (first
                                                                                                                                     | exact List.mem_cons_self
                                                                                                                                     | exact List.mem_cons_of_mem _ List.mem_cons_self
                                                                                                                                     | exact List.mem_cons_of_mem _ (List.mem_cons_of_mem _ List.mem_cons_self)
                                                                                                                                     | exact List.mem_cons_of_mem _ (List.mem_cons_of_mem _ (List.mem_cons_of_mem _ List.mem_cons_self)))))
                                                                            )
                                                                          )); (focus rfl))
                                  | ((with_reducible apply jqt); (focus rfl); (focus rfl); (focus rfl); (focus rfl); (focus rfl))
                                  | ((with_reducible apply jqf); (focus rfl); (focus rfl); (focus rfl); (focus rfl); (focus rfl))
                                  | (first
                                      | ((with_reducible apply jbuild_int); (focus rfl); (focus rfl); (focus (with_reducible first
                                                                                                               | exact el_int
                                                                                                               | exact el_bool
                                                                                                               | exact el_byte
                                                                                                               | exact el_string
                                                                                                               | exact el_Errno
                                                                                                               | exact el_ints
                                                                                                               | exact el_bools
                                                                                                               | exact el_bytes
                                                                                                               | exact el_lists
                                                                                                               | exact el_moves
                                                                                                               | exact el_spots
                                                                                                               | exact el_letters
                                                                                                               | exact el_frames
                                                                                                               | exact el_Tape
                                                                                                               | exact el_Move
                                                                                                               | exact el_Spot
                                                                                                               | exact el_Graph
                                                                                                               | exact el_Word
                                                                                                               | exact el_search
                                                                                                               | exact el_frame
                                                                                                               | fail
                                                                                                               )); (focus rfl); (focus rfl))
                                      | ((with_reducible apply jbuild_bool); (focus rfl); (focus rfl); (focus (with_reducible first
                                                                                                                | exact el_int
                                                                                                                | exact el_bool
                                                                                                                | exact el_byte
                                                                                                                | exact el_string
                                                                                                                | exact el_Errno
                                                                                                                | exact el_ints
                                                                                                                | exact el_bools
                                                                                                                | exact el_bytes
                                                                                                                | exact el_lists
                                                                                                                | exact el_moves
                                                                                                                | exact el_spots
                                                                                                                | exact el_letters
                                                                                                                | exact el_frames
                                                                                                                | exact el_Tape
                                                                                                                | exact el_Move
                                                                                                                | exact el_Spot
                                                                                                                | exact el_Graph
                                                                                                                | exact el_Word
                                                                                                                | exact el_search
                                                                                                                | exact el_frame
                                                                                                                | fail
                                                                                                                )); (focus rfl); (focus rfl))
                                      | ((with_reducible apply jbuild_list); (focus rfl); (focus rfl); (focus (with_reducible first
                                                                                                                | exact el_int
                                                                                                                | exact el_bool
                                                                                                                | exact el_byte
                                                                                                                | exact el_string
                                                                                                                | exact el_Errno
                                                                                                                | exact el_ints
                                                                                                                | exact el_bools
                                                                                                                | exact el_bytes
                                                                                                                | exact el_lists
                                                                                                                | exact el_moves
                                                                                                                | exact el_spots
                                                                                                                | exact el_letters
                                                                                                                | exact el_frames
                                                                                                                | exact el_Tape
                                                                                                                | exact el_Move
                                                                                                                | exact el_Spot
                                                                                                                | exact el_Graph
                                                                                                                | exact el_Word
                                                                                                                | exact el_search
                                                                                                                | exact el_frame
                                                                                                                | fail
                                                                                                                )); (focus rfl); (focus rfl))
                                      | ((with_reducible apply jbuild_agg); (focus rfl); (focus rfl); (focus (with_reducible first
                                                                                                               | exact el_int
                                                                                                               | exact el_bool
                                                                                                               | exact el_byte
                                                                                                               | exact el_string
                                                                                                               | exact el_Errno
                                                                                                               | exact el_ints
                                                                                                               | exact el_bools
                                                                                                               | exact el_bytes
                                                                                                               | exact el_lists
                                                                                                               | exact el_moves
                                                                                                               | exact el_spots
                                                                                                               | exact el_letters
                                                                                                               | exact el_frames
                                                                                                               | exact el_Tape
                                                                                                               | exact el_Move
                                                                                                               | exact el_Spot
                                                                                                               | exact el_Graph
                                                                                                               | exact el_Word
                                                                                                               | exact el_search
                                                                                                               | exact el_frame
                                                                                                               | fail
                                                                                                               )); (focus rfl); (focus rfl); (focus rfl); (focus rfl); (focus rfl))
                                      | ((with_reducible apply jbuild_two); (focus rfl); (focus rfl); (focus (with_reducible first
                                                                                                               | exact el_int
                                                                                                               | exact el_bool
                                                                                                               | exact el_byte
                                                                                                               | exact el_string
                                                                                                               | exact el_Errno
                                                                                                               | exact el_ints
                                                                                                               | exact el_bools
                                                                                                               | exact el_bytes
                                                                                                               | exact el_lists
                                                                                                               | exact el_moves
                                                                                                               | exact el_spots
                                                                                                               | exact el_letters
                                                                                                               | exact el_frames
                                                                                                               | exact el_Tape
                                                                                                               | exact el_Move
                                                                                                               | exact el_Spot
                                                                                                               | exact el_Graph
                                                                                                               | exact el_Word
                                                                                                               | exact el_search
                                                                                                               | exact el_frame
                                                                                                               | fail
                                                                                                               )); (focus rfl); (focus rfl)))
                                  | ((with_reducible apply japp); (focus rfl); (focus rfl); (focus rfl); (focus (with_reducible first
                                                                                                                  | exact el_int
                                                                                                                  | exact el_bool
                                                                                                                  | exact el_byte
                                                                                                                  | exact el_string
                                                                                                                  | exact el_Errno
                                                                                                                  | exact el_ints
                                                                                                                  | exact el_bools
                                                                                                                  | exact el_bytes
                                                                                                                  | exact el_lists
                                                                                                                  | exact el_moves
                                                                                                                  | exact el_spots
                                                                                                                  | exact el_letters
                                                                                                                  | exact el_frames
                                                                                                                  | exact el_Tape
                                                                                                                  | exact el_Move
                                                                                                                  | exact el_Spot
                                                                                                                  | exact el_Graph
                                                                                                                  | exact el_Word
                                                                                                                  | exact el_search
                                                                                                                  | exact el_frame
                                                                                                                  | fail
                                                                                                                  )); (focus rfl); (focus rfl); (focus rfl); (focus (first | omega | (simp only [List.length_map, List.length_range, List.length_append, List.length_cons, List.length_nil]; omega) | (simp only [List.length_map, List.length_range, List.length_append, List.length_cons, List.length_nil, List.length_take, List.length_drop]; omega))); (focus (first | omega | (simp only [List.length_map, List.length_range, List.length_append, List.length_cons, List.length_nil]; omega) | (simp only [List.length_map, List.length_range, List.length_append, List.length_cons, List.length_nil, List.length_take, List.length_drop]; omega))))
                                  )
                                | (first
                                  | ((with_reducible apply japp_copy); (focus rfl); (focus rfl); (focus rfl); (focus (with_reducible first
                                                                                                                       | exact el_int
                                                                                                                       | exact el_bool
                                                                                                                       | exact el_byte
                                                                                                                       | exact el_string
                                                                                                                       | exact el_Errno
                                                                                                                       | exact el_ints
                                                                                                                       | exact el_bools
                                                                                                                       | exact el_bytes
                                                                                                                       | exact el_lists
                                                                                                                       | exact el_moves
                                                                                                                       | exact el_spots
                                                                                                                       | exact el_letters
                                                                                                                       | exact el_frames
                                                                                                                       | exact el_Tape
                                                                                                                       | exact el_Move
                                                                                                                       | exact el_Spot
                                                                                                                       | exact el_Graph
                                                                                                                       | exact el_Word
                                                                                                                       | exact el_search
                                                                                                                       | exact el_frame
                                                                                                                       | fail
                                                                                                                       )); (focus rfl); (focus rfl); (focus rfl); (focus exact fun _ => rfl); (focus (first | omega | (simp only [List.length_map, List.length_range, List.length_append, List.length_cons, List.length_nil]; omega) | (simp only [List.length_map, List.length_range, List.length_append, List.length_cons, List.length_nil, List.length_take, List.length_drop]; omega))); (focus (first | omega | (simp only [List.length_map, List.length_range, List.length_append, List.length_cons, List.length_nil]; omega) | (simp only [List.length_map, List.length_range, List.length_append, List.length_cons, List.length_nil, List.length_take, List.length_drop]; omega))))
                                  | with_reducible exact J_skip
                                  | with_reducible exact J_ret
                                  | with_reducible exact J_exit
                                  | ((with_reducible apply jcond); (focus rfl))
                                  | with_reducible exact cb_true
                                  | with_reducible exact cb_false
                                  | with_reducible exact cb_decT
                                  | with_reducible exact cb_not
                                  )
                                | (first
                                  | with_reducible exact cb_splitT
                                  )
                                )))
  exact fun h => h) : q := h hp
/-- The same, with variables that the walk makes. -/
theorem stpa {p q : Prop} (hp : p) (h : p → q := by
  repeat1' (apply cmp; (focus (first
    | ((with_reducible apply jboxT); (focus rfl); (focus rfl); (focus rfl))
    | ((with_reducible apply jalloc1T); (focus (with_reducible first
                                                 | exact el_int
                                                 | exact el_bool
                                                 | exact el_byte
                                                 | exact el_string
                                                 | exact el_Errno
                                                 | exact el_ints
                                                 | exact el_bools
                                                 | exact el_bytes
                                                 | exact el_lists
                                                 | exact el_moves
                                                 | exact el_spots
                                                 | exact el_letters
                                                 | exact el_frames
                                                 | exact el_Tape
                                                 | exact el_Move
                                                 | exact el_Spot
                                                 | exact el_Graph
                                                 | exact el_Word
                                                 | exact el_search
                                                 | exact el_frame
                                                 | fail
                                                 )); (focus rfl); (focus rfl))
    | ((with_reducible apply jallocN); (focus (with_reducible first
                                                | exact el_int
                                                | exact el_bool
                                                | exact el_byte
                                                | exact el_string
                                                | exact el_Errno
                                                | exact el_ints
                                                | exact el_bools
                                                | exact el_bytes
                                                | exact el_lists
                                                | exact el_moves
                                                | exact el_spots
                                                | exact el_letters
                                                | exact el_frames
                                                | exact el_Tape
                                                | exact el_Move
                                                | exact el_Spot
                                                | exact el_Graph
                                                | exact el_Word
                                                | exact el_search
                                                | exact el_frame
                                                | fail
                                                )); (focus rfl))
    | ((with_reducible apply js_all); (focus rfl); (focus rfl); (focus rfl); (focus (with_reducible first
                                                                                      | exact el_int
                                                                                      | exact el_bool
                                                                                      | exact el_byte
                                                                                      | exact el_string
                                                                                      | exact el_Errno
                                                                                      | exact el_ints
                                                                                      | exact el_bools
                                                                                      | exact el_bytes
                                                                                      | exact el_lists
                                                                                      | exact el_moves
                                                                                      | exact el_spots
                                                                                      | exact el_letters
                                                                                      | exact el_frames
                                                                                      | exact el_Tape
                                                                                      | exact el_Move
                                                                                      | exact el_Spot
                                                                                      | exact el_Graph
                                                                                      | exact el_Word
                                                                                      | exact el_search
                                                                                      | exact el_frame
                                                                                      | fail
                                                                                      )); (focus rfl); (focus rfl))
    | ((with_reducible apply js_head); (focus rfl); (focus rfl); (focus rfl); (focus (with_reducible first
                                                                                       | exact el_int
                                                                                       | exact el_bool
                                                                                       | exact el_byte
                                                                                       | exact el_string
                                                                                       | exact el_Errno
                                                                                       | exact el_ints
                                                                                       | exact el_bools
                                                                                       | exact el_bytes
                                                                                       | exact el_lists
                                                                                       | exact el_moves
                                                                                       | exact el_spots
                                                                                       | exact el_letters
                                                                                       | exact el_frames
                                                                                       | exact el_Tape
                                                                                       | exact el_Move
                                                                                       | exact el_Spot
                                                                                       | exact el_Graph
                                                                                       | exact el_Word
                                                                                       | exact el_search
                                                                                       | exact el_frame
                                                                                       | fail
                                                                                       )))
    | ((with_reducible apply jmk_bool); (focus rfl); (focus rfl); (focus (with_reducible first
                                                                           | exact el_int
                                                                           | exact el_bool
                                                                           | exact el_byte
                                                                           | exact el_string
                                                                           | exact el_Errno
                                                                           | exact el_ints
                                                                           | exact el_bools
                                                                           | exact el_bytes
                                                                           | exact el_lists
                                                                           | exact el_moves
                                                                           | exact el_spots
                                                                           | exact el_letters
                                                                           | exact el_frames
                                                                           | exact el_Tape
                                                                           | exact el_Move
                                                                           | exact el_Spot
                                                                           | exact el_Graph
                                                                           | exact el_Word
                                                                           | exact el_search
                                                                           | exact el_frame
                                                                           | fail
                                                                           )); (focus omega); (focus omega); (focus rfl))
    | ((with_reducible apply jmk_int); (focus rfl); (focus rfl); (focus (with_reducible first
                                                                          | exact el_int
                                                                          | exact el_bool
                                                                          | exact el_byte
                                                                          | exact el_string
                                                                          | exact el_Errno
                                                                          | exact el_ints
                                                                          | exact el_bools
                                                                          | exact el_bytes
                                                                          | exact el_lists
                                                                          | exact el_moves
                                                                          | exact el_spots
                                                                          | exact el_letters
                                                                          | exact el_frames
                                                                          | exact el_Tape
                                                                          | exact el_Move
                                                                          | exact el_Spot
                                                                          | exact el_Graph
                                                                          | exact el_Word
                                                                          | exact el_search
                                                                          | exact el_frame
                                                                          | fail
                                                                          )); (focus omega); (focus omega); (focus rfl))
    | ((with_reducible apply js_map0); (focus rfl); (focus rfl); (focus rfl); (focus (with_reducible first
                                                                                       | exact el_int
                                                                                       | exact el_bool
                                                                                       | exact el_byte
                                                                                       | exact el_string
                                                                                       | exact el_Errno
                                                                                       | exact el_ints
                                                                                       | exact el_bools
                                                                                       | exact el_bytes
                                                                                       | exact el_lists
                                                                                       | exact el_moves
                                                                                       | exact el_spots
                                                                                       | exact el_letters
                                                                                       | exact el_frames
                                                                                       | exact el_Tape
                                                                                       | exact el_Move
                                                                                       | exact el_Spot
                                                                                       | exact el_Graph
                                                                                       | exact el_Word
                                                                                       | exact el_search
                                                                                       | exact el_frame
                                                                                       | fail
                                                                                       )); (focus (first | omega | (simp only [List.length_map, List.length_range, List.length_append, List.length_cons, List.length_nil]; omega) | (simp only [List.length_map, List.length_range, List.length_append, List.length_cons, List.length_nil, List.length_take, List.length_drop]; omega))))
    | ((with_reducible apply js_map1); (focus rfl); (focus rfl); (focus rfl); (focus (with_reducible first
                                                                                       | exact el_int
                                                                                       | exact el_bool
                                                                                       | exact el_byte
                                                                                       | exact el_string
                                                                                       | exact el_Errno
                                                                                       | exact el_ints
                                                                                       | exact el_bools
                                                                                       | exact el_bytes
                                                                                       | exact el_lists
                                                                                       | exact el_moves
                                                                                       | exact el_spots
                                                                                       | exact el_letters
                                                                                       | exact el_frames
                                                                                       | exact el_Tape
                                                                                       | exact el_Move
                                                                                       | exact el_Spot
                                                                                       | exact el_Graph
                                                                                       | exact el_Word
                                                                                       | exact el_search
                                                                                       | exact el_frame
                                                                                       | fail
                                                                                       )); (focus (first | omega | (simp only [List.length_map, List.length_range, List.length_append, List.length_cons, List.length_nil]; omega) | (simp only [List.length_map, List.length_range, List.length_append, List.length_cons, List.length_nil, List.length_take, List.length_drop]; omega))))
    | ((with_reducible apply js_map2); (focus rfl); (focus rfl); (focus rfl); (focus (with_reducible first
                                                                                       | exact el_int
                                                                                       | exact el_bool
                                                                                       | exact el_byte
                                                                                       | exact el_string
                                                                                       | exact el_Errno
                                                                                       | exact el_ints
                                                                                       | exact el_bools
                                                                                       | exact el_bytes
                                                                                       | exact el_lists
                                                                                       | exact el_moves
                                                                                       | exact el_spots
                                                                                       | exact el_letters
                                                                                       | exact el_frames
                                                                                       | exact el_Tape
                                                                                       | exact el_Move
                                                                                       | exact el_Spot
                                                                                       | exact el_Graph
                                                                                       | exact el_Word
                                                                                       | exact el_search
                                                                                       | exact el_frame
                                                                                       | fail
                                                                                       )); (focus (first | omega | (simp only [List.length_map, List.length_range, List.length_append, List.length_cons, List.length_nil]; omega) | (simp only [List.length_map, List.length_range, List.length_append, List.length_cons, List.length_nil, List.length_take, List.length_drop]; omega))))
    | ((with_reducible apply js_map3); (focus rfl); (focus rfl); (focus rfl); (focus (with_reducible first
                                                                                       | exact el_int
                                                                                       | exact el_bool
                                                                                       | exact el_byte
                                                                                       | exact el_string
                                                                                       | exact el_Errno
                                                                                       | exact el_ints
                                                                                       | exact el_bools
                                                                                       | exact el_bytes
                                                                                       | exact el_lists
                                                                                       | exact el_moves
                                                                                       | exact el_spots
                                                                                       | exact el_letters
                                                                                       | exact el_frames
                                                                                       | exact el_Tape
                                                                                       | exact el_Move
                                                                                       | exact el_Spot
                                                                                       | exact el_Graph
                                                                                       | exact el_Word
                                                                                       | exact el_search
                                                                                       | exact el_frame
                                                                                       | fail
                                                                                       )); (focus (first | omega | (simp only [List.length_map, List.length_range, List.length_append, List.length_cons, List.length_nil]; omega) | (simp only [List.length_map, List.length_range, List.length_append, List.length_cons, List.length_nil, List.length_take, List.length_drop]; omega))))
    | ((with_reducible apply js_one1); (focus rfl); (focus rfl); (focus rfl); (focus (with_reducible first
                                                                                       | exact el_int
                                                                                       | exact el_bool
                                                                                       | exact el_byte
                                                                                       | exact el_string
                                                                                       | exact el_Errno
                                                                                       | exact el_ints
                                                                                       | exact el_bools
                                                                                       | exact el_bytes
                                                                                       | exact el_lists
                                                                                       | exact el_moves
                                                                                       | exact el_spots
                                                                                       | exact el_letters
                                                                                       | exact el_frames
                                                                                       | exact el_Tape
                                                                                       | exact el_Move
                                                                                       | exact el_Spot
                                                                                       | exact el_Graph
                                                                                       | exact el_Word
                                                                                       | exact el_search
                                                                                       | exact el_frame
                                                                                       | fail
                                                                                       )))
    | ((with_reducible apply js_one2); (focus rfl); (focus rfl); (focus rfl); (focus (with_reducible first
                                                                                       | exact el_int
                                                                                       | exact el_bool
                                                                                       | exact el_byte
                                                                                       | exact el_string
                                                                                       | exact el_Errno
                                                                                       | exact el_ints
                                                                                       | exact el_bools
                                                                                       | exact el_bytes
                                                                                       | exact el_lists
                                                                                       | exact el_moves
                                                                                       | exact el_spots
                                                                                       | exact el_letters
                                                                                       | exact el_frames
                                                                                       | exact el_Tape
                                                                                       | exact el_Move
                                                                                       | exact el_Spot
                                                                                       | exact el_Graph
                                                                                       | exact el_Word
                                                                                       | exact el_search
                                                                                       | exact el_frame
                                                                                       | fail
                                                                                       )))
    | ((with_reducible apply js_one3); (focus rfl); (focus rfl); (focus rfl); (focus (with_reducible first
                                                                                       | exact el_int
                                                                                       | exact el_bool
                                                                                       | exact el_byte
                                                                                       | exact el_string
                                                                                       | exact el_Errno
                                                                                       | exact el_ints
                                                                                       | exact el_bools
                                                                                       | exact el_bytes
                                                                                       | exact el_lists
                                                                                       | exact el_moves
                                                                                       | exact el_spots
                                                                                       | exact el_letters
                                                                                       | exact el_frames
                                                                                       | exact el_Tape
                                                                                       | exact el_Move
                                                                                       | exact el_Spot
                                                                                       | exact el_Graph
                                                                                       | exact el_Word
                                                                                       | exact el_search
                                                                                       | exact el_frame
                                                                                       | fail
                                                                                       )))
    | ((with_reducible apply japp1); (focus rfl); (focus rfl); (focus rfl); (focus (with_reducible first
                                                                                     | exact el_int
                                                                                     | exact el_bool
                                                                                     | exact el_byte
                                                                                     | exact el_string
                                                                                     | exact el_Errno
                                                                                     | exact el_ints
                                                                                     | exact el_bools
                                                                                     | exact el_bytes
                                                                                     | exact el_lists
                                                                                     | exact el_moves
                                                                                     | exact el_spots
                                                                                     | exact el_letters
                                                                                     | exact el_frames
                                                                                     | exact el_Tape
                                                                                     | exact el_Move
                                                                                     | exact el_Spot
                                                                                     | exact el_Graph
                                                                                     | exact el_Word
                                                                                     | exact el_search
                                                                                     | exact el_frame
                                                                                     | fail
                                                                                     )); (focus rfl); (focus rfl); (focus rfl); (focus (first | omega | (simp only [List.length_map, List.length_range, List.length_append, List.length_cons, List.length_nil]; omega) | (simp only [List.length_map, List.length_range, List.length_append, List.length_cons, List.length_nil, List.length_take, List.length_drop]; omega))); (focus (first | omega | (simp only [List.length_map, List.length_range, List.length_append, List.length_cons, List.length_nil]; omega) | (simp only [List.length_map, List.length_range, List.length_append, List.length_cons, List.length_nil, List.length_take, List.length_drop]; omega))))
    | (first
        | (first
          | with_reducible exact JL_nil
          | ((with_reducible apply jp); (focus (first
                                                 | (first
                                                   | ((with_reducible apply pu_move); rfl)
                                                   | ((with_reducible apply pu_assign); rfl)
                                                   | ((with_reducible apply pure_extract); rfl; rfl)
                                                   | ((with_reducible apply pure_lss); rfl; rfl)
                                                   | ((with_reducible apply pure_eql); rfl; rfl)
                                                   | ((with_reducible apply pure_neq); rfl; rfl)
                                                   | ((with_reducible apply pure_eql_bool); rfl; rfl; rfl)
                                                   | ((with_reducible apply pure_neq_bool); rfl; rfl; rfl)
                                                   | ((with_reducible apply pure_geq); rfl; rfl)
                                                   )
                                                 | (first
                                                   | ((with_reducible apply pure_gtr); rfl; rfl)
                                                   | ((with_reducible apply pure_leq); rfl; rfl)
                                                   | ((with_reducible apply pure_add); rfl; rfl; (focus (first | (unfold inI64; omega) | assumption)))
                                                   | ((with_reducible apply pure_sub); rfl; rfl; (focus (first | (unfold inI64; omega) | assumption)))
                                                   | ((with_reducible apply pure_mul); rfl; rfl; (focus (first | (unfold inI64; omega) | assumption)))
                                                   | ((with_reducible apply pure_quo); rfl; rfl; omega; omega; omega)
                                                   | ((with_reducible apply pure_rem); rfl; rfl; omega; omega)
                                                   | ((with_reducible apply pure_shl); rfl; rfl; omega; omega; (focus (first | (unfold inI64; omega) | assumption)))
                                                   | ((with_reducible apply pure_shr); rfl; rfl; omega; omega)
                                                   )
                                                 | (first
                                                   | ((with_reducible apply pure_shl_u); rfl; rfl; omega; omega; (focus (first | (unfold inI64; omega) | assumption)))
                                                   | ((with_reducible apply pure_shr_u); rfl; rfl; omega; omega)
                                                   | ((with_reducible apply pure_and1); rfl; rfl; omega; omega)
                                                   | ((with_reducible apply pure_and); rfl; rfl)
                                                   | ((with_reducible apply pure_or); rfl; rfl)
                                                   | ((with_reducible apply pure_neg); rfl; (focus (first | (unfold inI64; omega) | assumption)))
                                                   | ((with_reducible apply pure_eql_string); rfl; rfl)
                                                   | ((with_reducible apply pure_neq_string); rfl; rfl)
                                                   | ((with_reducible apply pu_pick_true); rfl; rfl)
                                                   )
                                                 | (first
                                                   | ((with_reducible apply pu_pick_false); rfl; rfl)
                                                   | ((with_reducible apply pure_not); rfl)
                                                   | ((with_reducible apply pu_len); rfl; rfl)
                                                   | ((with_reducible apply pure_len); rfl; rfl)
                                                   | ((with_reducible apply pu_max); rfl; rfl)
                                                   | ((with_reducible apply pure_index1); rfl; (focus rfl); rfl; (focus (with_reducible first
                                                                                                                          | exact el_int
                                                                                                                          | exact el_bool
                                                                                                                          | exact el_byte
                                                                                                                          | exact el_string
                                                                                                                          | exact el_Errno
                                                                                                                          | exact el_ints
                                                                                                                          | exact el_bools
                                                                                                                          | exact el_bytes
                                                                                                                          | exact el_lists
                                                                                                                          | exact el_moves
                                                                                                                          | exact el_spots
                                                                                                                          | exact el_letters
                                                                                                                          | exact el_frames
                                                                                                                          | exact el_Tape
                                                                                                                          | exact el_Move
                                                                                                                          | exact el_Spot
                                                                                                                          | exact el_Graph
                                                                                                                          | exact el_Word
                                                                                                                          | exact el_search
                                                                                                                          | exact el_frame
                                                                                                                          | fail
                                                                                                                          )); (focus (first | omega | (simp only [List.length_map, List.length_range, List.length_append, List.length_cons, List.length_nil]; omega) | (simp only [List.length_map, List.length_range, List.length_append, List.length_cons, List.length_nil, List.length_take, List.length_drop]; omega))))
                                                   | ((with_reducible apply pure_index); rfl; rfl; rfl; (focus (with_reducible first
                                                                                                                 | exact el_int
                                                                                                                 | exact el_bool
                                                                                                                 | exact el_byte
                                                                                                                 | exact el_string
                                                                                                                 | exact el_Errno
                                                                                                                 | exact el_ints
                                                                                                                 | exact el_bools
                                                                                                                 | exact el_bytes
                                                                                                                 | exact el_lists
                                                                                                                 | exact el_moves
                                                                                                                 | exact el_spots
                                                                                                                 | exact el_letters
                                                                                                                 | exact el_frames
                                                                                                                 | exact el_Tape
                                                                                                                 | exact el_Move
                                                                                                                 | exact el_Spot
                                                                                                                 | exact el_Graph
                                                                                                                 | exact el_Word
                                                                                                                 | exact el_search
                                                                                                                 | exact el_frame
                                                                                                                 | fail
                                                                                                                 )); (focus (first | omega | (simp only [List.length_map, List.length_range, List.length_append, List.length_cons, List.length_nil]; omega) | (simp only [List.length_map, List.length_range, List.length_append, List.length_cons, List.length_nil, List.length_take, List.length_drop]; omega))))
                                                   | ((with_reducible apply pure_indexI); rfl; rfl; rfl; (focus (with_reducible first
                                                                                                                  | exact el_int
                                                                                                                  | exact el_bool
                                                                                                                  | exact el_byte
                                                                                                                  | exact el_string
                                                                                                                  | exact el_Errno
                                                                                                                  | exact el_ints
                                                                                                                  | exact el_bools
                                                                                                                  | exact el_bytes
                                                                                                                  | exact el_lists
                                                                                                                  | exact el_moves
                                                                                                                  | exact el_spots
                                                                                                                  | exact el_letters
                                                                                                                  | exact el_frames
                                                                                                                  | exact el_Tape
                                                                                                                  | exact el_Move
                                                                                                                  | exact el_Spot
                                                                                                                  | exact el_Graph
                                                                                                                  | exact el_Word
                                                                                                                  | exact el_search
                                                                                                                  | exact el_frame
                                                                                                                  | fail
                                                                                                                  )); omega; (focus (first | omega | (simp only [List.length_map, List.length_range, List.length_append, List.length_cons, List.length_nil]; omega) | (simp only [List.length_map, List.length_range, List.length_append, List.length_cons, List.length_nil, List.length_take, List.length_drop]; omega))))
                                                   | ((with_reducible apply pu_func2); rfl; rfl)
                                                   )
                                                 | (first
                                                   | ((with_reducible apply pu_func3); rfl; rfl; rfl)
                                                   | ((with_reducible apply pu_slice); rfl; rfl; rfl; rfl; (focus (with_reducible first
                                                                                                                    | exact el_int
                                                                                                                    | exact el_bool
                                                                                                                    | exact el_byte
                                                                                                                    | exact el_string
                                                                                                                    | exact el_Errno
                                                                                                                    | exact el_ints
                                                                                                                    | exact el_bools
                                                                                                                    | exact el_bytes
                                                                                                                    | exact el_lists
                                                                                                                    | exact el_moves
                                                                                                                    | exact el_spots
                                                                                                                    | exact el_letters
                                                                                                                    | exact el_frames
                                                                                                                    | exact el_Tape
                                                                                                                    | exact el_Move
                                                                                                                    | exact el_Spot
                                                                                                                    | exact el_Graph
                                                                                                                    | exact el_Word
                                                                                                                    | exact el_search
                                                                                                                    | exact el_frame
                                                                                                                    | fail
                                                                                                                    )); omega; omega; (focus (first | omega | (simp only [List.length_map, List.length_range, List.length_append, List.length_cons, List.length_nil]; omega) | (simp only [List.length_map, List.length_range, List.length_append, List.length_cons, List.length_nil, List.length_take, List.length_drop]; omega))))
                                                   | ((with_reducible apply pu_slice_from); rfl; rfl; rfl; (focus (with_reducible first
                                                                                                                    | exact el_int
                                                                                                                    | exact el_bool
                                                                                                                    | exact el_byte
                                                                                                                    | exact el_string
                                                                                                                    | exact el_Errno
                                                                                                                    | exact el_ints
                                                                                                                    | exact el_bools
                                                                                                                    | exact el_bytes
                                                                                                                    | exact el_lists
                                                                                                                    | exact el_moves
                                                                                                                    | exact el_spots
                                                                                                                    | exact el_letters
                                                                                                                    | exact el_frames
                                                                                                                    | exact el_Tape
                                                                                                                    | exact el_Move
                                                                                                                    | exact el_Spot
                                                                                                                    | exact el_Graph
                                                                                                                    | exact el_Word
                                                                                                                    | exact el_search
                                                                                                                    | exact el_frame
                                                                                                                    | fail
                                                                                                                    )); omega; (focus (first | omega | (simp only [List.length_map, List.length_range, List.length_append, List.length_cons, List.length_nil]; omega) | (simp only [List.length_map, List.length_range, List.length_append, List.length_cons, List.length_nil, List.length_take, List.length_drop]; omega))))
                                                   | ((with_reducible apply pu_slice_to); rfl; rfl; rfl; (focus (with_reducible first
                                                                                                                  | exact el_int
                                                                                                                  | exact el_bool
                                                                                                                  | exact el_byte
                                                                                                                  | exact el_string
                                                                                                                  | exact el_Errno
                                                                                                                  | exact el_ints
                                                                                                                  | exact el_bools
                                                                                                                  | exact el_bytes
                                                                                                                  | exact el_lists
                                                                                                                  | exact el_moves
                                                                                                                  | exact el_spots
                                                                                                                  | exact el_letters
                                                                                                                  | exact el_frames
                                                                                                                  | exact el_Tape
                                                                                                                  | exact el_Move
                                                                                                                  | exact el_Spot
                                                                                                                  | exact el_Graph
                                                                                                                  | exact el_Word
                                                                                                                  | exact el_search
                                                                                                                  | exact el_frame
                                                                                                                  | fail
                                                                                                                  )); omega; (focus (first | omega | (simp only [List.length_map, List.length_range, List.length_append, List.length_cons, List.length_nil]; omega) | (simp only [List.length_map, List.length_range, List.length_append, List.length_cons, List.length_nil, List.length_take, List.length_drop]; omega))))
                                                   | ((with_reducible apply pu_index_cells); rfl; rfl; (focus (with_reducible first
                                                                                                                | exact el_int
                                                                                                                | exact el_bool
                                                                                                                | exact el_byte
                                                                                                                | exact el_string
                                                                                                                | exact el_Errno
                                                                                                                | exact el_ints
                                                                                                                | exact el_bools
                                                                                                                | exact el_bytes
                                                                                                                | exact el_lists
                                                                                                                | exact el_moves
                                                                                                                | exact el_spots
                                                                                                                | exact el_letters
                                                                                                                | exact el_frames
                                                                                                                | exact el_Tape
                                                                                                                | exact el_Move
                                                                                                                | exact el_Spot
                                                                                                                | exact el_Graph
                                                                                                                | exact el_Word
                                                                                                                | exact el_search
                                                                                                                | exact el_frame
                                                                                                                | fail
                                                                                                                )); rfl; omega; omega)
                                                   | ((with_reducible apply pure_fieldAddr); (focus (with_reducible first
                                                                                                      | exact fd_Tape0
                                                                                                      | exact fd_Tape1
                                                                                                      | exact fd_Move0
                                                                                                      | exact fd_Move1
                                                                                                      | exact fd_Spot0
                                                                                                      | exact fd_Spot1
                                                                                                      | exact fd_Graph0
                                                                                                      | exact fd_Graph1
                                                                                                      | exact fd_Graph2
                                                                                                      | exact fd_Graph3
                                                                                                      | exact fd_Graph4
                                                                                                      | exact fd_Word0
                                                                                                      | exact fd_Word1
                                                                                                      | exact fd_search0
                                                                                                      | exact fd_search1
                                                                                                      | exact fd_search2
                                                                                                      | exact fd_search3
                                                                                                      | exact fd_search4
                                                                                                      | exact fd_search5
                                                                                                      | exact fd_search6
                                                                                                      | exact fd_frame0
                                                                                                      | exact fd_frame1
                                                                                                      | fail
                                                                                                      )); rfl)
                                                   | ((with_reducible apply pure_load); rfl; rfl)
                                                   | ((with_reducible apply pu_load_row); rfl; rfl; (focus (with_reducible first
                                                                                                             | exact el_int
                                                                                                             | exact el_bool
                                                                                                             | exact el_byte
                                                                                                             | exact el_string
                                                                                                             | exact el_Errno
                                                                                                             | exact el_ints
                                                                                                             | exact el_bools
                                                                                                             | exact el_bytes
                                                                                                             | exact el_lists
                                                                                                             | exact el_moves
                                                                                                             | exact el_spots
                                                                                                             | exact el_letters
                                                                                                             | exact el_frames
                                                                                                             | exact el_Tape
                                                                                                             | exact el_Move
                                                                                                             | exact el_Spot
                                                                                                             | exact el_Graph
                                                                                                             | exact el_Word
                                                                                                             | exact el_search
                                                                                                             | exact el_frame
                                                                                                             | fail
                                                                                                             )); rfl)
                                                   | ((with_reducible apply pu_neq2); (focus (with_reducible first
                                                                                               | exact eq2_Spot
                                                                                               | exact eq2_Move
                                                                                               | fail
                                                                                               )); rfl; rfl)
                                                   )
                                                 | (first
                                                   | ((with_reducible apply pu_nilCheck); rfl)
                                                   | ((with_reducible apply pu_nilCheck_pd); rfl)
                                                   | ((with_reducible apply pu_field_cells); (focus (with_reducible first
                                                                                                      | exact fd_Tape0
                                                                                                      | exact fd_Tape1
                                                                                                      | exact fd_Move0
                                                                                                      | exact fd_Move1
                                                                                                      | exact fd_Spot0
                                                                                                      | exact fd_Spot1
                                                                                                      | exact fd_Graph0
                                                                                                      | exact fd_Graph1
                                                                                                      | exact fd_Graph2
                                                                                                      | exact fd_Graph3
                                                                                                      | exact fd_Graph4
                                                                                                      | exact fd_Word0
                                                                                                      | exact fd_Word1
                                                                                                      | exact fd_search0
                                                                                                      | exact fd_search1
                                                                                                      | exact fd_search2
                                                                                                      | exact fd_search3
                                                                                                      | exact fd_search4
                                                                                                      | exact fd_search5
                                                                                                      | exact fd_search6
                                                                                                      | exact fd_frame0
                                                                                                      | exact fd_frame1
                                                                                                      | fail
                                                                                                      )); rfl)
                                                   | ((with_reducible apply pu_load_cells); rfl; rfl; (focus (first
                                                                                                               | exact List.mem_cons_self
                                                                                                               | exact List.mem_cons_of_mem _ List.mem_cons_self
                                                                                                               | exact List.mem_cons_of_mem _ (List.mem_cons_of_mem _ List.mem_cons_self)
                                                                                                               | exact List.mem_cons_of_mem _ (List.mem_cons_of_mem _ (List.mem_cons_of_mem _ List.mem_cons_self)))); rfl)
                                                   | ((with_reducible apply pu_load_cells_agg); rfl; rfl; (focus (with_reducible first
                                                                                                                   | exact el_int
                                                                                                                   | exact el_bool
                                                                                                                   | exact el_byte
                                                                                                                   | exact el_string
                                                                                                                   | exact el_Errno
                                                                                                                   | exact el_ints
                                                                                                                   | exact el_bools
                                                                                                                   | exact el_bytes
                                                                                                                   | exact el_lists
                                                                                                                   | exact el_moves
                                                                                                                   | exact el_spots
                                                                                                                   | exact el_letters
                                                                                                                   | exact el_frames
                                                                                                                   | exact el_Tape
                                                                                                                   | exact el_Move
                                                                                                                   | exact el_Spot
                                                                                                                   | exact el_Graph
                                                                                                                   | exact el_Word
                                                                                                                   | exact el_search
                                                                                                                   | exact el_frame
                                                                                                                   | fail
                                                                                                                   )); (focus (first
                                                                                                                                | exact List.mem_cons_self
                                                                                                                                | exact List.mem_cons_of_mem _ List.mem_cons_self
                                                                                                                                | exact List.mem_cons_of_mem _ (List.mem_cons_of_mem _ List.mem_cons_self)
                                                                                                                                | exact List.mem_cons_of_mem _ (List.mem_cons_of_mem _ (List.mem_cons_of_mem _ List.mem_cons_self)))); rfl)
                                                   | ((with_reducible apply pu_iface); (focus (with_reducible first
                                                                                                | exact nif_Errno
                                                                                                | fail
                                                                                                )); rfl)
                                                   | ((with_reducible apply pure_build2); (focus (with_reducible first
                                                                                                   | exact bl_Tape
                                                                                                   | exact bl_Move
                                                                                                   | exact bl_Spot
                                                                                                   | exact bl_Word
                                                                                                   | exact bl_frame
                                                                                                   | fail
                                                                                                   )); rfl; rfl; rfl; rfl)
                                                   | ((with_reducible apply pu_build); (focus (with_reducible first
                                                                                                | exact bls_Tape
                                                                                                | exact bls_Move
                                                                                                | exact bls_Spot
                                                                                                | exact bls_Graph
                                                                                                | exact bls_Word
                                                                                                | exact bls_search
                                                                                                | exact bls_frame
                                                                                                | fail
                                                                                                )); rfl; rfl; rfl)
                                                   | ((with_reducible apply pu_byte_int); rfl; rfl; rfl)
                                                   )
                                                 | (first
                                                   | ((with_reducible apply pu_int_byte); rfl; rfl; rfl)
                                                   | ((with_reducible apply pu_int_int); rfl; rfl; rfl; (focus (first | (unfold inI64; omega) | assumption)))
                                                   | ((with_reducible apply pu_bytes_string); rfl; rfl; rfl; rfl)
                                                   | ((with_reducible apply pu_len_row); rfl; rfl; (focus (first
                                                                                                            | exact List.mem_cons_self
                                                                                                            | exact List.mem_cons_of_mem _ List.mem_cons_self
                                                                                                            | exact List.mem_cons_of_mem _ (List.mem_cons_of_mem _ List.mem_cons_self)
                                                                                                            | exact List.mem_cons_of_mem _ (List.mem_cons_of_mem _ (List.mem_cons_of_mem _ List.mem_cons_self)))))
                                                   )
                                                 )); (focus rfl))
          | ((with_reducible apply jgt); (focus rfl); (focus rfl); (focus rfl); (focus rfl); (focus rfl))
          | ((with_reducible apply jgf); (focus rfl); (focus rfl); (focus rfl); (focus rfl); (focus rfl))
          | ((with_reducible apply jgu); (focus rfl); (focus rfl); (focus rfl); (focus rfl))
          | ((with_reducible apply jqu); (focus rfl); (focus rfl); (focus rfl); (focus rfl))
          | with_reducible exact tq_normal
          | with_reducible exact tq_ret
          | with_reducible exact tq_exit
          )
        | (first
          | with_reducible exact tq_panic
          | with_reducible exact bq_normal
          | with_reducible exact bq_ret
          | with_reducible exact bq_exit
          | ((with_reducible apply bq_exit'); (focus decide))
          | with_reducible exact bq_panic
          | ((with_reducible apply jpan); (focus rfl))
          | with_reducible exact J_seq
          | with_reducible exact J_region
          )
        | (first
          | with_reducible exact J_block
          | ((with_reducible apply J_region_tail); (focus exact mixed); (focus ((repeat (with_reducible apply len_cons)); exact len_nil)); (focus kernel_rfl))
          | ((with_reducible apply J_region_draw); (focus exact mixed); (focus kernel_rfl); (focus ((repeat (with_reducible apply len_cons)); exact len_nil)))
          | with_reducible exact JQ_nil
          | ((with_reducible apply jqp); (focus (first
                                                  | (first
                                                    | ((with_reducible apply pu_move); rfl)
                                                    | ((with_reducible apply pu_assign); rfl)
                                                    | ((with_reducible apply pure_extract); rfl; rfl)
                                                    | ((with_reducible apply pure_lss); rfl; rfl)
                                                    | ((with_reducible apply pure_eql); rfl; rfl)
                                                    | ((with_reducible apply pure_neq); rfl; rfl)
                                                    | ((with_reducible apply pure_eql_bool); rfl; rfl; rfl)
                                                    | ((with_reducible apply pure_neq_bool); rfl; rfl; rfl)
                                                    | ((with_reducible apply pure_geq); rfl; rfl)
                                                    )
                                                  | (first
                                                    | ((with_reducible apply pure_gtr); rfl; rfl)
                                                    | ((with_reducible apply pure_leq); rfl; rfl)
                                                    | ((with_reducible apply pure_add); rfl; rfl; (focus (first | (unfold inI64; omega) | assumption)))
                                                    | ((with_reducible apply pure_sub); rfl; rfl; (focus (first | (unfold inI64; omega) | assumption)))
                                                    | ((with_reducible apply pure_mul); rfl; rfl; (focus (first | (unfold inI64; omega) | assumption)))
                                                    | ((with_reducible apply pure_quo); rfl; rfl; omega; omega; omega)
                                                    | ((with_reducible apply pure_rem); rfl; rfl; omega; omega)
                                                    | ((with_reducible apply pure_shl); rfl; rfl; omega; omega; (focus (first | (unfold inI64; omega) | assumption)))
                                                    | ((with_reducible apply pure_shr); rfl; rfl; omega; omega)
                                                    )
                                                  | (first
                                                    | ((with_reducible apply pure_shl_u); rfl; rfl; omega; omega; (focus (first | (unfold inI64; omega) | assumption)))
                                                    | ((with_reducible apply pure_shr_u); rfl; rfl; omega; omega)
                                                    | ((with_reducible apply pure_and1); rfl; rfl; omega; omega)
                                                    | ((with_reducible apply pure_and); rfl; rfl)
                                                    | ((with_reducible apply pure_or); rfl; rfl)
                                                    | ((with_reducible apply pure_neg); rfl; (focus (first | (unfold inI64; omega) | assumption)))
                                                    | ((with_reducible apply pure_eql_string); rfl; rfl)
                                                    | ((with_reducible apply pure_neq_string); rfl; rfl)
                                                    | ((with_reducible apply pu_pick_true); rfl; rfl)
                                                    )
                                                  | (first
                                                    | ((with_reducible apply pu_pick_false); rfl; rfl)
                                                    | ((with_reducible apply pure_not); rfl)
                                                    | ((with_reducible apply pu_len); rfl; rfl)
                                                    | ((with_reducible apply pure_len); rfl; rfl)
                                                    | ((with_reducible apply pu_max); rfl; rfl)
                                                    | ((with_reducible apply pure_index1); rfl; (focus rfl); rfl; (focus (with_reducible first
                                                                                                                           | exact el_int
                                                                                                                           | exact el_bool
                                                                                                                           | exact el_byte
                                                                                                                           | exact el_string
                                                                                                                           | exact el_Errno
                                                                                                                           | exact el_ints
                                                                                                                           | exact el_bools
                                                                                                                           | exact el_bytes
                                                                                                                           | exact el_lists
                                                                                                                           | exact el_moves
                                                                                                                           | exact el_spots
                                                                                                                           | exact el_letters
                                                                                                                           | exact el_frames
                                                                                                                           | exact el_Tape
                                                                                                                           | exact el_Move
                                                                                                                           | exact el_Spot
                                                                                                                           | exact el_Graph
                                                                                                                           | exact el_Word
                                                                                                                           | exact el_search
                                                                                                                           | exact el_frame
                                                                                                                           | fail
                                                                                                                           )); (focus (first | omega | (simp only [List.length_map, List.length_range, List.length_append, List.length_cons, List.length_nil]; omega) | (simp only [List.length_map, List.length_range, List.length_append, List.length_cons, List.length_nil, List.length_take, List.length_drop]; omega))))
                                                    | ((with_reducible apply pure_index); rfl; rfl; rfl; (focus (with_reducible first
                                                                                                                  | exact el_int
                                                                                                                  | exact el_bool
                                                                                                                  | exact el_byte
                                                                                                                  | exact el_string
                                                                                                                  | exact el_Errno
                                                                                                                  | exact el_ints
                                                                                                                  | exact el_bools
                                                                                                                  | exact el_bytes
                                                                                                                  | exact el_lists
                                                                                                                  | exact el_moves
                                                                                                                  | exact el_spots
                                                                                                                  | exact el_letters
                                                                                                                  | exact el_frames
                                                                                                                  | exact el_Tape
                                                                                                                  | exact el_Move
                                                                                                                  | exact el_Spot
                                                                                                                  | exact el_Graph
                                                                                                                  | exact el_Word
                                                                                                                  | exact el_search
                                                                                                                  | exact el_frame
                                                                                                                  | fail
                                                                                                                  )); (focus (first | omega | (simp only [List.length_map, List.length_range, List.length_append, List.length_cons, List.length_nil]; omega) | (simp only [List.length_map, List.length_range, List.length_append, List.length_cons, List.length_nil, List.length_take, List.length_drop]; omega))))
                                                    | ((with_reducible apply pure_indexI); rfl; rfl; rfl; (focus (with_reducible first
                                                                                                                   | exact el_int
                                                                                                                   | exact el_bool
                                                                                                                   | exact el_byte
                                                                                                                   | exact el_string
                                                                                                                   | exact el_Errno
                                                                                                                   | exact el_ints
                                                                                                                   | exact el_bools
                                                                                                                   | exact el_bytes
                                                                                                                   | exact el_lists
                                                                                                                   | exact el_moves
                                                                                                                   | exact el_spots
                                                                                                                   | exact el_letters
                                                                                                                   | exact el_frames
                                                                                                                   | exact el_Tape
                                                                                                                   | exact el_Move
                                                                                                                   | exact el_Spot
                                                                                                                   | exact el_Graph
                                                                                                                   | exact el_Word
                                                                                                                   | exact el_search
                                                                                                                   | exact el_frame
                                                                                                                   | fail
                                                                                                                   )); omega; (focus (first | omega | (simp only [List.length_map, List.length_range, List.length_append, List.length_cons, List.length_nil]; omega) | (simp only [List.length_map, List.length_range, List.length_append, List.length_cons, List.length_nil, List.length_take, List.length_drop]; omega))))
                                                    | ((with_reducible apply pu_func2); rfl; rfl)
                                                    )
                                                  | (first
                                                    | ((with_reducible apply pu_func3); rfl; rfl; rfl)
                                                    | ((with_reducible apply pu_slice); rfl; rfl; rfl; rfl; (focus (with_reducible first
                                                                                                                     | exact el_int
                                                                                                                     | exact el_bool
                                                                                                                     | exact el_byte
                                                                                                                     | exact el_string
                                                                                                                     | exact el_Errno
                                                                                                                     | exact el_ints
                                                                                                                     | exact el_bools
                                                                                                                     | exact el_bytes
                                                                                                                     | exact el_lists
                                                                                                                     | exact el_moves
                                                                                                                     | exact el_spots
                                                                                                                     | exact el_letters
                                                                                                                     | exact el_frames
                                                                                                                     | exact el_Tape
                                                                                                                     | exact el_Move
                                                                                                                     | exact el_Spot
                                                                                                                     | exact el_Graph
                                                                                                                     | exact el_Word
                                                                                                                     | exact el_search
                                                                                                                     | exact el_frame
                                                                                                                     | fail
                                                                                                                     )); omega; omega; (focus (first | omega | (simp only [List.length_map, List.length_range, List.length_append, List.length_cons, List.length_nil]; omega) | (simp only [List.length_map, List.length_range, List.length_append, List.length_cons, List.length_nil, List.length_take, List.length_drop]; omega))))
                                                    | ((with_reducible apply pu_slice_from); rfl; rfl; rfl; (focus (with_reducible first
                                                                                                                     | exact el_int
                                                                                                                     | exact el_bool
                                                                                                                     | exact el_byte
                                                                                                                     | exact el_string
                                                                                                                     | exact el_Errno
                                                                                                                     | exact el_ints
                                                                                                                     | exact el_bools
                                                                                                                     | exact el_bytes
                                                                                                                     | exact el_lists
                                                                                                                     | exact el_moves
                                                                                                                     | exact el_spots
                                                                                                                     | exact el_letters
                                                                                                                     | exact el_frames
                                                                                                                     | exact el_Tape
                                                                                                                     | exact el_Move
                                                                                                                     | exact el_Spot
                                                                                                                     | exact el_Graph
                                                                                                                     | exact el_Word
                                                                                                                     | exact el_search
                                                                                                                     | exact el_frame
                                                                                                                     | fail
                                                                                                                     )); omega; (focus (first | omega | (simp only [List.length_map, List.length_range, List.length_append, List.length_cons, List.length_nil]; omega) | (simp only [List.length_map, List.length_range, List.length_append, List.length_cons, List.length_nil, List.length_take, List.length_drop]; omega))))
                                                    | ((with_reducible apply pu_slice_to); rfl; rfl; rfl; (focus (with_reducible first
                                                                                                                   | exact el_int
                                                                                                                   | exact el_bool
                                                                                                                   | exact el_byte
                                                                                                                   | exact el_string
                                                                                                                   | exact el_Errno
                                                                                                                   | exact el_ints
                                                                                                                   | exact el_bools
                                                                                                                   | exact el_bytes
                                                                                                                   | exact el_lists
                                                                                                                   | exact el_moves
                                                                                                                   | exact el_spots
                                                                                                                   | exact el_letters
                                                                                                                   | exact el_frames
                                                                                                                   | exact el_Tape
                                                                                                                   | exact el_Move
                                                                                                                   | exact el_Spot
                                                                                                                   | exact el_Graph
                                                                                                                   | exact el_Word
                                                                                                                   | exact el_search
                                                                                                                   | exact el_frame
                                                                                                                   | fail
                                                                                                                   )); omega; (focus (first | omega | (simp only [List.length_map, List.length_range, List.length_append, List.length_cons, List.length_nil]; omega) | (simp only [List.length_map, List.length_range, List.length_append, List.length_cons, List.length_nil, List.length_take, List.length_drop]; omega))))
                                                    | ((with_reducible apply pu_index_cells); rfl; rfl; (focus (with_reducible first
                                                                                                                 | exact el_int
                                                                                                                 | exact el_bool
                                                                                                                 | exact el_byte
                                                                                                                 | exact el_string
                                                                                                                 | exact el_Errno
                                                                                                                 | exact el_ints
                                                                                                                 | exact el_bools
                                                                                                                 | exact el_bytes
                                                                                                                 | exact el_lists
                                                                                                                 | exact el_moves
                                                                                                                 | exact el_spots
                                                                                                                 | exact el_letters
                                                                                                                 | exact el_frames
                                                                                                                 | exact el_Tape
                                                                                                                 | exact el_Move
                                                                                                                 | exact el_Spot
                                                                                                                 | exact el_Graph
                                                                                                                 | exact el_Word
                                                                                                                 | exact el_search
                                                                                                                 | exact el_frame
                                                                                                                 | fail
                                                                                                                 )); rfl; omega; omega)
                                                    | ((with_reducible apply pure_fieldAddr); (focus (with_reducible first
                                                                                                       | exact fd_Tape0
                                                                                                       | exact fd_Tape1
                                                                                                       | exact fd_Move0
                                                                                                       | exact fd_Move1
                                                                                                       | exact fd_Spot0
                                                                                                       | exact fd_Spot1
                                                                                                       | exact fd_Graph0
                                                                                                       | exact fd_Graph1
                                                                                                       | exact fd_Graph2
                                                                                                       | exact fd_Graph3
                                                                                                       | exact fd_Graph4
                                                                                                       | exact fd_Word0
                                                                                                       | exact fd_Word1
                                                                                                       | exact fd_search0
                                                                                                       | exact fd_search1
                                                                                                       | exact fd_search2
                                                                                                       | exact fd_search3
                                                                                                       | exact fd_search4
                                                                                                       | exact fd_search5
                                                                                                       | exact fd_search6
                                                                                                       | exact fd_frame0
                                                                                                       | exact fd_frame1
                                                                                                       | fail
                                                                                                       )); rfl)
                                                    | ((with_reducible apply pure_load); rfl; rfl)
                                                    | ((with_reducible apply pu_load_row); rfl; rfl; (focus (with_reducible first
                                                                                                              | exact el_int
                                                                                                              | exact el_bool
                                                                                                              | exact el_byte
                                                                                                              | exact el_string
                                                                                                              | exact el_Errno
                                                                                                              | exact el_ints
                                                                                                              | exact el_bools
                                                                                                              | exact el_bytes
                                                                                                              | exact el_lists
                                                                                                              | exact el_moves
                                                                                                              | exact el_spots
                                                                                                              | exact el_letters
                                                                                                              | exact el_frames
                                                                                                              | exact el_Tape
                                                                                                              | exact el_Move
                                                                                                              | exact el_Spot
                                                                                                              | exact el_Graph
                                                                                                              | exact el_Word
                                                                                                              | exact el_search
                                                                                                              | exact el_frame
                                                                                                              | fail
                                                                                                              )); rfl)
                                                    | ((with_reducible apply pu_neq2); (focus (with_reducible first
                                                                                                | exact eq2_Spot
                                                                                                | exact eq2_Move
                                                                                                | fail
                                                                                                )); rfl; rfl)
                                                    )
                                                  | (first
                                                    | ((with_reducible apply pu_nilCheck); rfl)
                                                    | ((with_reducible apply pu_nilCheck_pd); rfl)
                                                    | ((with_reducible apply pu_field_cells); (focus (with_reducible first
                                                                                                       | exact fd_Tape0
                                                                                                       | exact fd_Tape1
                                                                                                       | exact fd_Move0
                                                                                                       | exact fd_Move1
                                                                                                       | exact fd_Spot0
                                                                                                       | exact fd_Spot1
                                                                                                       | exact fd_Graph0
                                                                                                       | exact fd_Graph1
                                                                                                       | exact fd_Graph2
                                                                                                       | exact fd_Graph3
                                                                                                       | exact fd_Graph4
                                                                                                       | exact fd_Word0
                                                                                                       | exact fd_Word1
                                                                                                       | exact fd_search0
                                                                                                       | exact fd_search1
                                                                                                       | exact fd_search2
                                                                                                       | exact fd_search3
                                                                                                       | exact fd_search4
                                                                                                       | exact fd_search5
                                                                                                       | exact fd_search6
                                                                                                       | exact fd_frame0
                                                                                                       | exact fd_frame1
                                                                                                       | fail
                                                                                                       )); rfl)
                                                    | ((with_reducible apply pu_load_cells); rfl; rfl; (focus (first
                                                                                                                | exact List.mem_cons_self
                                                                                                                | exact List.mem_cons_of_mem _ List.mem_cons_self
                                                                                                                | exact List.mem_cons_of_mem _ (List.mem_cons_of_mem _ List.mem_cons_self)
                                                                                                                | exact List.mem_cons_of_mem _ (List.mem_cons_of_mem _ (List.mem_cons_of_mem _ List.mem_cons_self)))); rfl)
                                                    | ((with_reducible apply pu_load_cells_agg); rfl; rfl; (focus (with_reducible first
                                                                                                                    | exact el_int
                                                                                                                    | exact el_bool
                                                                                                                    | exact el_byte
                                                                                                                    | exact el_string
                                                                                                                    | exact el_Errno
                                                                                                                    | exact el_ints
                                                                                                                    | exact el_bools
                                                                                                                    | exact el_bytes
                                                                                                                    | exact el_lists
                                                                                                                    | exact el_moves
                                                                                                                    | exact el_spots
                                                                                                                    | exact el_letters
                                                                                                                    | exact el_frames
                                                                                                                    | exact el_Tape
                                                                                                                    | exact el_Move
                                                                                                                    | exact el_Spot
                                                                                                                    | exact el_Graph
                                                                                                                    | exact el_Word
                                                                                                                    | exact el_search
                                                                                                                    | exact el_frame
                                                                                                                    | fail
                                                                                                                    )); (focus (first
                                                                                                                                 | exact List.mem_cons_self
                                                                                                                                 | exact List.mem_cons_of_mem _ List.mem_cons_self
                                                                                                                                 | exact List.mem_cons_of_mem _ (List.mem_cons_of_mem _ List.mem_cons_self)
                                                                                                                                 | exact List.mem_cons_of_mem _ (List.mem_cons_of_mem _ (List.mem_cons_of_mem _ List.mem_cons_self)))); rfl)
                                                    | ((with_reducible apply pu_iface); (focus (with_reducible first
                                                                                                 | exact nif_Errno
                                                                                                 | fail
                                                                                                 )); rfl)
                                                    | ((with_reducible apply pure_build2); (focus (with_reducible first
                                                                                                    | exact bl_Tape
                                                                                                    | exact bl_Move
                                                                                                    | exact bl_Spot
                                                                                                    | exact bl_Word
                                                                                                    | exact bl_frame
                                                                                                    | fail
                                                                                                    )); rfl; rfl; rfl; rfl)
                                                    | ((with_reducible apply pu_build); (focus (with_reducible first
                                                                                                 | exact bls_Tape
                                                                                                 | exact bls_Move
                                                                                                 | exact bls_Spot
                                                                                                 | exact bls_Graph
                                                                                                 | exact bls_Word
                                                                                                 | exact bls_search
                                                                                                 | exact bls_frame
                                                                                                 | fail
                                                                                                 )); rfl; rfl; rfl)
                                                    | ((with_reducible apply pu_byte_int); rfl; rfl; rfl)
                                                    )
                                                  | (first
                                                    | ((with_reducible apply pu_int_byte); rfl; rfl; rfl)
                                                    | ((with_reducible apply pu_int_int); rfl; rfl; rfl; (focus (first | (unfold inI64; omega) | assumption)))
                                                    | ((with_reducible apply pu_bytes_string); rfl; rfl; rfl; rfl)
                                                    | ((with_reducible apply pu_len_row); rfl; rfl; (focus (first
                                                                                                             | exact List.mem_cons_self
                                                                                                             | exact List.mem_cons_of_mem _ List.mem_cons_self
                                                                                                             | exact List.mem_cons_of_mem _ (List.mem_cons_of_mem _ List.mem_cons_self)
                                                                                                             | exact List.mem_cons_of_mem _ (List.mem_cons_of_mem _ (List.mem_cons_of_mem _ List.mem_cons_self)))))
                                                    )
                                                  )); (focus rfl))
          | ((with_reducible apply jqt); (focus rfl); (focus rfl); (focus rfl); (focus rfl); (focus rfl))
          | ((with_reducible apply jqf); (focus rfl); (focus rfl); (focus rfl); (focus rfl); (focus rfl))
          | (first
              | ((with_reducible apply jbuild_int); (focus rfl); (focus rfl); (focus (with_reducible first
                                                                                       | exact el_int
                                                                                       | exact el_bool
                                                                                       | exact el_byte
                                                                                       | exact el_string
                                                                                       | exact el_Errno
                                                                                       | exact el_ints
                                                                                       | exact el_bools
                                                                                       | exact el_bytes
                                                                                       | exact el_lists
                                                                                       | exact el_moves
                                                                                       | exact el_spots
                                                                                       | exact el_letters
                                                                                       | exact el_frames
                                                                                       | exact el_Tape
                                                                                       | exact el_Move
                                                                                       | exact el_Spot
                                                                                       | exact el_Graph
                                                                                       | exact el_Word
                                                                                       | exact el_search
                                                                                       | exact el_frame
                                                                                       | fail
                                                                                       )); (focus rfl); (focus rfl))
              | ((with_reducible apply jbuild_bool); (focus rfl); (focus rfl); (focus (with_reducible first
                                                                                        | exact el_int
                                                                                        | exact el_bool
                                                                                        | exact el_byte
                                                                                        | exact el_string
                                                                                        | exact el_Errno
                                                                                        | exact el_ints
                                                                                        | exact el_bools
                                                                                        | exact el_bytes
                                                                                        | exact el_lists
                                                                                        | exact el_moves
                                                                                        | exact el_spots
                                                                                        | exact el_letters
                                                                                        | exact el_frames
                                                                                        | exact el_Tape
                                                                                        | exact el_Move
                                                                                        | exact el_Spot
                                                                                        | exact el_Graph
                                                                                        | exact el_Word
                                                                                        | exact el_search
                                                                                        | exact el_frame
                                                                                        | fail
                                                                                        )); (focus rfl); (focus rfl))
              | ((with_reducible apply jbuild_list); (focus rfl); (focus rfl); (focus (with_reducible first
                                                                                        | exact el_int
                                                                                        | exact el_bool
                                                                                        | exact el_byte
                                                                                        | exact el_string
                                                                                        | exact el_Errno
                                                                                        | exact el_ints
                                                                                        | exact el_bools
                                                                                        | exact el_bytes
                                                                                        | exact el_lists
                                                                                        | exact el_moves
                                                                                        | exact el_spots
                                                                                        | exact el_letters
                                                                                        | exact el_frames
                                                                                        | exact el_Tape
                                                                                        | exact el_Move
                                                                                        | exact el_Spot
                                                                                        | exact el_Graph
                                                                                        | exact el_Word
                                                                                        | exact el_search
                                                                                        | exact el_frame
                                                                                        | fail
                                                                                        )); (focus rfl); (focus rfl))
              | ((with_reducible apply jbuild_agg); (focus rfl); (focus rfl); (focus (with_reducible first
                                                                                       | exact el_int
                                                                                       | exact el_bool
                                                                                       | exact el_byte
                                                                                       | exact el_string
                                                                                       | exact el_Errno
                                                                                       | exact el_ints
                                                                                       | exact el_bools
                                                                                       | exact el_bytes
                                                                                       | exact el_lists
                                                                                       | exact el_moves
                                                                                       | exact el_spots
                                                                                       | exact el_letters
                                                                                       | exact el_frames
                                                                                       | exact el_Tape
                                                                                       | exact el_Move
                                                                                       | exact el_Spot
                                                                                       | exact el_Graph
                                                                                       | exact el_Word
                                                                                       | exact el_search
                                                                                       | exact el_frame
                                                                                       | fail
                                                                                       )); (focus rfl); (focus rfl); (focus rfl); (focus rfl); (focus rfl))
              | ((with_reducible apply jbuild_two); (focus rfl); (focus rfl); (focus (with_reducible first
                                                                                       | exact el_int
                                                                                       | exact el_bool
                                                                                       | exact el_byte
                                                                                       | exact el_string
                                                                                       | exact el_Errno
                                                                                       | exact el_ints
                                                                                       | exact el_bools
                                                                                       | exact el_bytes
                                                                                       | exact el_lists
                                                                                       | exact el_moves
                                                                                       | exact el_spots
                                                                                       | exact el_letters
                                                                                       | exact el_frames
                                                                                       | exact el_Tape
                                                                                       | exact el_Move
                                                                                       | exact el_Spot
                                                                                       | exact el_Graph
                                                                                       | exact el_Word
                                                                                       | exact el_search
                                                                                       | exact el_frame
                                                                                       | fail
                                                                                       )); (focus rfl); (focus rfl)))
          | ((with_reducible apply japp); (focus rfl); (focus rfl); (focus rfl); (focus (with_reducible first
                                                                                          | exact el_int
                                                                                          | exact el_bool
                                                                                          | exact el_byte
                                                                                          | exact el_string
                                                                                          | exact el_Errno
                                                                                          | exact el_ints
                                                                                          | exact el_bools
                                                                                          | exact el_bytes
                                                                                          | exact el_lists
                                                                                          | exact el_moves
                                                                                          | exact el_spots
                                                                                          | exact el_letters
                                                                                          | exact el_frames
                                                                                          | exact el_Tape
                                                                                          | exact el_Move
                                                                                          | exact el_Spot
                                                                                          | exact el_Graph
                                                                                          | exact el_Word
                                                                                          | exact el_search
                                                                                          | exact el_frame
                                                                                          | fail
                                                                                          )); (focus rfl); (focus rfl); (focus rfl); (focus (first | omega | (simp only [List.length_map, List.length_range, List.length_append, List.length_cons, List.length_nil]; omega) | (simp only [List.length_map, List.length_range, List.length_append, List.length_cons, List.length_nil, List.length_take, List.length_drop]; omega))); (focus (first | omega | (simp only [List.length_map, List.length_range, List.length_append, List.length_cons, List.length_nil]; omega) | (simp only [List.length_map, List.length_range, List.length_append, List.length_cons, List.length_nil, List.length_take, List.length_drop]; omega))))
          )
        | (first
          | ((with_reducible apply japp_copy); (focus rfl); (focus rfl); (focus rfl); (focus (with_reducible first
                                                                                               | exact el_int
                                                                                               | exact el_bool
                                                                                               | exact el_byte
                                                                                               | exact el_string
                                                                                               | exact el_Errno
                                                                                               | exact el_ints
                                                                                               | exact el_bools
                                                                                               | exact el_bytes
                                                                                               | exact el_lists
                                                                                               | exact el_moves
                                                                                               | exact el_spots
                                                                                               | exact el_letters
                                                                                               | exact el_frames
                                                                                               | exact el_Tape
                                                                                               | exact el_Move
                                                                                               | exact el_Spot
                                                                                               | exact el_Graph
                                                                                               | exact el_Word
                                                                                               | exact el_search
                                                                                               | exact el_frame
                                                                                               | fail
                                                                                               )); (focus rfl); (focus rfl); (focus rfl); (focus exact fun _ => rfl); (focus (first | omega | (simp only [List.length_map, List.length_range, List.length_append, List.length_cons, List.length_nil]; omega) | (simp only [List.length_map, List.length_range, List.length_append, List.length_cons, List.length_nil, List.length_take, List.length_drop]; omega))); (focus (first | omega | (simp only [List.length_map, List.length_range, List.length_append, List.length_cons, List.length_nil]; omega) | (simp only [List.length_map, List.length_range, List.length_append, List.length_cons, List.length_nil, List.length_take, List.length_drop]; omega))))
          | with_reducible exact J_skip
          | with_reducible exact J_ret
          | with_reducible exact J_exit
          | ((with_reducible apply jcond); (focus rfl))
          | with_reducible exact cb_true
          | with_reducible exact cb_false
          | with_reducible exact cb_decT
          | with_reducible exact cb_not
          )
        | (first
          | with_reducible exact cb_splitT
          )
        ))))
  exact fun h => h) : q := h hp
end Go.Proofs.Ytffdlpjbbkhcnaa
