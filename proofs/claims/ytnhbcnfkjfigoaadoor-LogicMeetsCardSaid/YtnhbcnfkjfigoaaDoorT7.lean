/- Contracts: logic.Ahead; foretellref.AheadOf. -/
import Derived.Test.YtnhbcnfkjfigoaaDoorT6
namespace Go.Proofs.YtnhbcnfkjfigoaaDoor
open Go Go.Av Go.Sp

theorem cal_Ahead : Cal Tryd.prog 28 := Cal.of Tryd.func28 (by kernel_rfl) (by kernel_rfl)
theorem cal_AheadOf : Cal Tryd.prog 29 := Cal.of Tryd.func29 (by kernel_rfl) (by kernel_rfl)

theorem Ahead ( l : List Fo) (props : Int) : ACr Tryd.prog GP 28 [.d (opsD l), .int props] (.tup [.d (intsD (aheadsOf l props).1), .int (aheadsOf l props).2]) := by
  refine AC_ofV (ts := [4, 5]) 32 Tryd.func28 rfl rfl rfl (by simp) fun W I => ?_
  refine jfact (t := 0) rfl fun hl => ?_
  repeat' (first
    | ((with_reducible apply call0); (focus rfl); (focus exact cal_Check); (focus exact Check _ _); (focus rfl))
    | ((with_reducible apply call0); (focus rfl); (focus exact cal_ahead); (focus exact ahead _ _); (focus rfl))
    | ((with_reducible apply jboxT); (focus rfl); (focus rfl); (focus rfl))
    | ((with_reducible apply jalloc1T); (focus (with_reducible first
                                                 | exact el_int
                                                 | exact el_bool
                                                 | exact el_byte
                                                 | exact el_string
                                                 | exact el_Errno
                                                 | exact el_Op
                                                 | exact el_ints
                                                 | exact el_bools
                                                 | exact el_ops
                                                 )); (focus rfl); (focus rfl))
    | ((with_reducible apply jallocN); (focus (with_reducible first
                                                | exact el_int
                                                | exact el_bool
                                                | exact el_byte
                                                | exact el_string
                                                | exact el_Errno
                                                | exact el_Op
                                                | exact el_ints
                                                | exact el_bools
                                                | exact el_ops
                                                )); (focus rfl))
    | ((with_reducible apply js_all); (focus rfl); (focus rfl); (focus rfl); (focus (with_reducible first
                                                                                      | exact el_int
                                                                                      | exact el_bool
                                                                                      | exact el_byte
                                                                                      | exact el_string
                                                                                      | exact el_Errno
                                                                                      | exact el_Op
                                                                                      | exact el_ints
                                                                                      | exact el_bools
                                                                                      | exact el_ops
                                                                                      )); (focus rfl); (focus rfl))
    | ((with_reducible apply js_head); (focus rfl); (focus rfl); (focus rfl); (focus (with_reducible first
                                                                                       | exact el_int
                                                                                       | exact el_bool
                                                                                       | exact el_byte
                                                                                       | exact el_string
                                                                                       | exact el_Errno
                                                                                       | exact el_Op
                                                                                       | exact el_ints
                                                                                       | exact el_bools
                                                                                       | exact el_ops
                                                                                       )))
    | ((with_reducible apply jmk_bool); (focus rfl); (focus rfl); (focus (with_reducible first
                                                                           | exact el_int
                                                                           | exact el_bool
                                                                           | exact el_byte
                                                                           | exact el_string
                                                                           | exact el_Errno
                                                                           | exact el_Op
                                                                           | exact el_ints
                                                                           | exact el_bools
                                                                           | exact el_ops
                                                                           )); (focus omega); (focus omega); (focus rfl))
    | ((with_reducible apply jmk_int); (focus rfl); (focus rfl); (focus (with_reducible first
                                                                          | exact el_int
                                                                          | exact el_bool
                                                                          | exact el_byte
                                                                          | exact el_string
                                                                          | exact el_Errno
                                                                          | exact el_Op
                                                                          | exact el_ints
                                                                          | exact el_bools
                                                                          | exact el_ops
                                                                          )); (focus omega); (focus omega); (focus rfl))
    | ((with_reducible apply js_map0); (focus rfl); (focus rfl); (focus rfl); (focus (with_reducible first
                                                                                       | exact el_int
                                                                                       | exact el_bool
                                                                                       | exact el_byte
                                                                                       | exact el_string
                                                                                       | exact el_Errno
                                                                                       | exact el_Op
                                                                                       | exact el_ints
                                                                                       | exact el_bools
                                                                                       | exact el_ops
                                                                                       )); (focus (first | omega | (simp only [List.length_map, List.length_range, List.length_append, List.length_cons, List.length_nil]; omega) | (simp only [List.length_map, List.length_range, List.length_append, List.length_cons, List.length_nil, List.length_take, List.length_drop]; omega))))
    | ((with_reducible apply js_map1); (focus rfl); (focus rfl); (focus rfl); (focus (with_reducible first
                                                                                       | exact el_int
                                                                                       | exact el_bool
                                                                                       | exact el_byte
                                                                                       | exact el_string
                                                                                       | exact el_Errno
                                                                                       | exact el_Op
                                                                                       | exact el_ints
                                                                                       | exact el_bools
                                                                                       | exact el_ops
                                                                                       )); (focus (first | omega | (simp only [List.length_map, List.length_range, List.length_append, List.length_cons, List.length_nil]; omega) | (simp only [List.length_map, List.length_range, List.length_append, List.length_cons, List.length_nil, List.length_take, List.length_drop]; omega))))
    | ((with_reducible apply js_map2); (focus rfl); (focus rfl); (focus rfl); (focus (with_reducible first
                                                                                       | exact el_int
                                                                                       | exact el_bool
                                                                                       | exact el_byte
                                                                                       | exact el_string
                                                                                       | exact el_Errno
                                                                                       | exact el_Op
                                                                                       | exact el_ints
                                                                                       | exact el_bools
                                                                                       | exact el_ops
                                                                                       )); (focus (first | omega | (simp only [List.length_map, List.length_range, List.length_append, List.length_cons, List.length_nil]; omega) | (simp only [List.length_map, List.length_range, List.length_append, List.length_cons, List.length_nil, List.length_take, List.length_drop]; omega))))
    | ((with_reducible apply js_map3); (focus rfl); (focus rfl); (focus rfl); (focus (with_reducible first
                                                                                       | exact el_int
                                                                                       | exact el_bool
                                                                                       | exact el_byte
                                                                                       | exact el_string
                                                                                       | exact el_Errno
                                                                                       | exact el_Op
                                                                                       | exact el_ints
                                                                                       | exact el_bools
                                                                                       | exact el_ops
                                                                                       )); (focus (first | omega | (simp only [List.length_map, List.length_range, List.length_append, List.length_cons, List.length_nil]; omega) | (simp only [List.length_map, List.length_range, List.length_append, List.length_cons, List.length_nil, List.length_take, List.length_drop]; omega))))
    | ((with_reducible apply js_one1); (focus rfl); (focus rfl); (focus rfl); (focus (with_reducible first
                                                                                       | exact el_int
                                                                                       | exact el_bool
                                                                                       | exact el_byte
                                                                                       | exact el_string
                                                                                       | exact el_Errno
                                                                                       | exact el_Op
                                                                                       | exact el_ints
                                                                                       | exact el_bools
                                                                                       | exact el_ops
                                                                                       )))
    | ((with_reducible apply js_one2); (focus rfl); (focus rfl); (focus rfl); (focus (with_reducible first
                                                                                       | exact el_int
                                                                                       | exact el_bool
                                                                                       | exact el_byte
                                                                                       | exact el_string
                                                                                       | exact el_Errno
                                                                                       | exact el_Op
                                                                                       | exact el_ints
                                                                                       | exact el_bools
                                                                                       | exact el_ops
                                                                                       )))
    | ((with_reducible apply js_one3); (focus rfl); (focus rfl); (focus rfl); (focus (with_reducible first
                                                                                       | exact el_int
                                                                                       | exact el_bool
                                                                                       | exact el_byte
                                                                                       | exact el_string
                                                                                       | exact el_Errno
                                                                                       | exact el_Op
                                                                                       | exact el_ints
                                                                                       | exact el_bools
                                                                                       | exact el_ops
                                                                                       )))
    | ((with_reducible apply japp1); (focus rfl); (focus rfl); (focus rfl); (focus (with_reducible first
                                                                                     | exact el_int
                                                                                     | exact el_bool
                                                                                     | exact el_byte
                                                                                     | exact el_string
                                                                                     | exact el_Errno
                                                                                     | exact el_Op
                                                                                     | exact el_ints
                                                                                     | exact el_bools
                                                                                     | exact el_ops
                                                                                     )); (focus rfl); (focus rfl); (focus rfl); (focus (first | omega | (simp only [List.length_map, List.length_range, List.length_append, List.length_cons, List.length_nil]; omega) | (simp only [List.length_map, List.length_range, List.length_append, List.length_cons, List.length_nil, List.length_take, List.length_drop]; omega))); (focus (first | omega | (simp only [List.length_map, List.length_range, List.length_append, List.length_cons, List.length_nil]; omega) | (simp only [List.length_map, List.length_range, List.length_append, List.length_cons, List.length_nil, List.length_take, List.length_drop]; omega))))
    | refine stp ?_
    | refine two ?_ ?_
    | (refine imp fun hc => ?_) <;> try (first | contradiction | (exfalso; omega))
    | refine all fun v_ => ?_)
  · refine retv (vnil (t := 4) 1 8 rfl) ?_
    ((with_reducible apply rq2); rfl; rfl; rfl)
    refine ret_eq ?_
    rw [aheadsOf, if_pos hc]; rfl
  have hs : aheadsOf l props = (aheadL l 0, 0) := by rw [aheadsOf, if_neg hc]
  refine jrow (E := 3) (sz := 1) intC ?_
  refine J_loopV (X := Nat × Value × List Int) (fun y => [(0, .d (opsD l)), (7, .val y.2.1), (16, .d (opsD l)), (17, .int l.length), (18, .int y.1)]) (fun y => [rowE y.2.1 3 1 intC y.2.2]) (fun y => y.1 ≤ l.length ∧ y.2.2.length ≤ y.1 ∧ aheadL l 0 = y.2.2 ++ aheadL (l.drop y.1) y.1) (fun y => l.length - y.1) (0, .slice none 0 0, []) ⟨Nat.zero_le _, Nat.le_refl _, rfl⟩ (VS.of_le ?_) ?_
  · repeat (first
      | exact Env.le_nil _
      | refine Env.le_cons (AV.le_refl _) ?_
      | refine Env.le_cons (AV.le_int rfl (by first | rfl | omega | (dsimp only; omega))) ?_)
  rintro ⟨i, v, out⟩ ⟨k1, k2, k3⟩
  dsimp only at k1 k2 k3 ⊢
  by_cases hi : i < l.length
  · rw [aheadL_at l i hi] at k3
    repeat' (first
      | ((with_reducible apply call0); (focus rfl); (focus exact cal_Check); (focus exact Check _ _); (focus rfl))
      | ((with_reducible apply call0); (focus rfl); (focus exact cal_ahead); (focus exact ahead _ _); (focus rfl))
      | ((with_reducible apply jboxT); (focus rfl); (focus rfl); (focus rfl))
      | ((with_reducible apply jalloc1T); (focus (with_reducible first
                                                   | exact el_int
                                                   | exact el_bool
                                                   | exact el_byte
                                                   | exact el_string
                                                   | exact el_Errno
                                                   | exact el_Op
                                                   | exact el_ints
                                                   | exact el_bools
                                                   | exact el_ops
                                                   )); (focus rfl); (focus rfl))
      | ((with_reducible apply jallocN); (focus (with_reducible first
                                                  | exact el_int
                                                  | exact el_bool
                                                  | exact el_byte
                                                  | exact el_string
                                                  | exact el_Errno
                                                  | exact el_Op
                                                  | exact el_ints
                                                  | exact el_bools
                                                  | exact el_ops
                                                  )); (focus rfl))
      | ((with_reducible apply js_all); (focus rfl); (focus rfl); (focus rfl); (focus (with_reducible first
                                                                                        | exact el_int
                                                                                        | exact el_bool
                                                                                        | exact el_byte
                                                                                        | exact el_string
                                                                                        | exact el_Errno
                                                                                        | exact el_Op
                                                                                        | exact el_ints
                                                                                        | exact el_bools
                                                                                        | exact el_ops
                                                                                        )); (focus rfl); (focus rfl))
      | ((with_reducible apply js_head); (focus rfl); (focus rfl); (focus rfl); (focus (with_reducible first
                                                                                         | exact el_int
                                                                                         | exact el_bool
                                                                                         | exact el_byte
                                                                                         | exact el_string
                                                                                         | exact el_Errno
                                                                                         | exact el_Op
                                                                                         | exact el_ints
                                                                                         | exact el_bools
                                                                                         | exact el_ops
                                                                                         )))
      | ((with_reducible apply jmk_bool); (focus rfl); (focus rfl); (focus (with_reducible first
                                                                             | exact el_int
                                                                             | exact el_bool
                                                                             | exact el_byte
                                                                             | exact el_string
                                                                             | exact el_Errno
                                                                             | exact el_Op
                                                                             | exact el_ints
                                                                             | exact el_bools
                                                                             | exact el_ops
                                                                             )); (focus omega); (focus omega); (focus rfl))
      | ((with_reducible apply jmk_int); (focus rfl); (focus rfl); (focus (with_reducible first
                                                                            | exact el_int
                                                                            | exact el_bool
                                                                            | exact el_byte
                                                                            | exact el_string
                                                                            | exact el_Errno
                                                                            | exact el_Op
                                                                            | exact el_ints
                                                                            | exact el_bools
                                                                            | exact el_ops
                                                                            )); (focus omega); (focus omega); (focus rfl))
      | ((with_reducible apply js_map0); (focus rfl); (focus rfl); (focus rfl); (focus (with_reducible first
                                                                                         | exact el_int
                                                                                         | exact el_bool
                                                                                         | exact el_byte
                                                                                         | exact el_string
                                                                                         | exact el_Errno
                                                                                         | exact el_Op
                                                                                         | exact el_ints
                                                                                         | exact el_bools
                                                                                         | exact el_ops
                                                                                         )); (focus (first | omega | (simp only [List.length_map, List.length_range, List.length_append, List.length_cons, List.length_nil]; omega) | (simp only [List.length_map, List.length_range, List.length_append, List.length_cons, List.length_nil, List.length_take, List.length_drop]; omega))))
      | ((with_reducible apply js_map1); (focus rfl); (focus rfl); (focus rfl); (focus (with_reducible first
                                                                                         | exact el_int
                                                                                         | exact el_bool
                                                                                         | exact el_byte
                                                                                         | exact el_string
                                                                                         | exact el_Errno
                                                                                         | exact el_Op
                                                                                         | exact el_ints
                                                                                         | exact el_bools
                                                                                         | exact el_ops
                                                                                         )); (focus (first | omega | (simp only [List.length_map, List.length_range, List.length_append, List.length_cons, List.length_nil]; omega) | (simp only [List.length_map, List.length_range, List.length_append, List.length_cons, List.length_nil, List.length_take, List.length_drop]; omega))))
      | ((with_reducible apply js_map2); (focus rfl); (focus rfl); (focus rfl); (focus (with_reducible first
                                                                                         | exact el_int
                                                                                         | exact el_bool
                                                                                         | exact el_byte
                                                                                         | exact el_string
                                                                                         | exact el_Errno
                                                                                         | exact el_Op
                                                                                         | exact el_ints
                                                                                         | exact el_bools
                                                                                         | exact el_ops
                                                                                         )); (focus (first | omega | (simp only [List.length_map, List.length_range, List.length_append, List.length_cons, List.length_nil]; omega) | (simp only [List.length_map, List.length_range, List.length_append, List.length_cons, List.length_nil, List.length_take, List.length_drop]; omega))))
      | ((with_reducible apply js_map3); (focus rfl); (focus rfl); (focus rfl); (focus (with_reducible first
                                                                                         | exact el_int
                                                                                         | exact el_bool
                                                                                         | exact el_byte
                                                                                         | exact el_string
                                                                                         | exact el_Errno
                                                                                         | exact el_Op
                                                                                         | exact el_ints
                                                                                         | exact el_bools
                                                                                         | exact el_ops
                                                                                         )); (focus (first | omega | (simp only [List.length_map, List.length_range, List.length_append, List.length_cons, List.length_nil]; omega) | (simp only [List.length_map, List.length_range, List.length_append, List.length_cons, List.length_nil, List.length_take, List.length_drop]; omega))))
      | ((with_reducible apply js_one1); (focus rfl); (focus rfl); (focus rfl); (focus (with_reducible first
                                                                                         | exact el_int
                                                                                         | exact el_bool
                                                                                         | exact el_byte
                                                                                         | exact el_string
                                                                                         | exact el_Errno
                                                                                         | exact el_Op
                                                                                         | exact el_ints
                                                                                         | exact el_bools
                                                                                         | exact el_ops
                                                                                         )))
      | ((with_reducible apply js_one2); (focus rfl); (focus rfl); (focus rfl); (focus (with_reducible first
                                                                                         | exact el_int
                                                                                         | exact el_bool
                                                                                         | exact el_byte
                                                                                         | exact el_string
                                                                                         | exact el_Errno
                                                                                         | exact el_Op
                                                                                         | exact el_ints
                                                                                         | exact el_bools
                                                                                         | exact el_ops
                                                                                         )))
      | ((with_reducible apply js_one3); (focus rfl); (focus rfl); (focus rfl); (focus (with_reducible first
                                                                                         | exact el_int
                                                                                         | exact el_bool
                                                                                         | exact el_byte
                                                                                         | exact el_string
                                                                                         | exact el_Errno
                                                                                         | exact el_Op
                                                                                         | exact el_ints
                                                                                         | exact el_bools
                                                                                         | exact el_ops
                                                                                         )))
      | ((with_reducible apply japp1); (focus rfl); (focus rfl); (focus rfl); (focus (with_reducible first
                                                                                       | exact el_int
                                                                                       | exact el_bool
                                                                                       | exact el_byte
                                                                                       | exact el_string
                                                                                       | exact el_Errno
                                                                                       | exact el_Op
                                                                                       | exact el_ints
                                                                                       | exact el_bools
                                                                                       | exact el_ops
                                                                                       )); (focus rfl); (focus rfl); (focus rfl); (focus (first | omega | (simp only [List.length_map, List.length_range, List.length_append, List.length_cons, List.length_nil]; omega) | (simp only [List.length_map, List.length_range, List.length_append, List.length_cons, List.length_nil, List.length_take, List.length_drop]; omega))); (focus (first | omega | (simp only [List.length_map, List.length_range, List.length_append, List.length_cons, List.length_nil]; omega) | (simp only [List.length_map, List.length_range, List.length_append, List.length_cons, List.length_nil, List.length_take, List.length_drop]; omega))))
      | refine stp ?_
      | refine two ?_ ?_
      | (refine imp fun hc => ?_) <;> try (first | contradiction | (exfalso; omega))
      | refine all fun v_ => ?_)
    · rw [if_pos hc] at k3
      refine ⟨(i + 1, v_, out ++ [(i : Int)]), ⟨by dsimp only; omega, by simp; omega, by simpa using k3⟩, by dsimp only; omega, vle (List.sublist_cons_self _ _) ?_⟩
      repeat (first
        | exact Env.le_nil _
        | refine Env.le_cons (AV.le_refl _) ?_
        | refine Env.le_cons (AV.le_int rfl (by first | rfl | omega | (dsimp only; omega))) ?_)
    · rw [if_neg hc] at k3
      refine ⟨(i + 1, v, out), ⟨by dsimp only; omega, by dsimp only; omega, k3⟩, by dsimp only; omega, vle (List.sublist_cons_self _ _) ?_⟩
      repeat (first
        | exact Env.le_nil _
        | refine Env.le_cons (AV.le_refl _) ?_
        | refine Env.le_cons (AV.le_int rfl (by first | rfl | omega | (dsimp only; omega))) ?_)
  · rw [aheadL_end l i (by omega), List.append_nil] at k3
    repeat' (first
      | ((with_reducible apply call0); (focus rfl); (focus exact cal_Check); (focus exact Check _ _); (focus rfl))
      | ((with_reducible apply call0); (focus rfl); (focus exact cal_ahead); (focus exact ahead _ _); (focus rfl))
      | ((with_reducible apply jboxT); (focus rfl); (focus rfl); (focus rfl))
      | ((with_reducible apply jalloc1T); (focus (with_reducible first
                                                   | exact el_int
                                                   | exact el_bool
                                                   | exact el_byte
                                                   | exact el_string
                                                   | exact el_Errno
                                                   | exact el_Op
                                                   | exact el_ints
                                                   | exact el_bools
                                                   | exact el_ops
                                                   )); (focus rfl); (focus rfl))
      | ((with_reducible apply jallocN); (focus (with_reducible first
                                                  | exact el_int
                                                  | exact el_bool
                                                  | exact el_byte
                                                  | exact el_string
                                                  | exact el_Errno
                                                  | exact el_Op
                                                  | exact el_ints
                                                  | exact el_bools
                                                  | exact el_ops
                                                  )); (focus rfl))
      | ((with_reducible apply js_all); (focus rfl); (focus rfl); (focus rfl); (focus (with_reducible first
                                                                                        | exact el_int
                                                                                        | exact el_bool
                                                                                        | exact el_byte
                                                                                        | exact el_string
                                                                                        | exact el_Errno
                                                                                        | exact el_Op
                                                                                        | exact el_ints
                                                                                        | exact el_bools
                                                                                        | exact el_ops
                                                                                        )); (focus rfl); (focus rfl))
      | ((with_reducible apply js_head); (focus rfl); (focus rfl); (focus rfl); (focus (with_reducible first
                                                                                         | exact el_int
                                                                                         | exact el_bool
                                                                                         | exact el_byte
                                                                                         | exact el_string
                                                                                         | exact el_Errno
                                                                                         | exact el_Op
                                                                                         | exact el_ints
                                                                                         | exact el_bools
                                                                                         | exact el_ops
                                                                                         )))
      | ((with_reducible apply jmk_bool); (focus rfl); (focus rfl); (focus (with_reducible first
                                                                             | exact el_int
                                                                             | exact el_bool
                                                                             | exact el_byte
                                                                             | exact el_string
                                                                             | exact el_Errno
                                                                             | exact el_Op
                                                                             | exact el_ints
                                                                             | exact el_bools
                                                                             | exact el_ops
                                                                             )); (focus omega); (focus omega); (focus rfl))
      | ((with_reducible apply jmk_int); (focus rfl); (focus rfl); (focus (with_reducible first
                                                                            | exact el_int
                                                                            | exact el_bool
                                                                            | exact el_byte
                                                                            | exact el_string
                                                                            | exact el_Errno
                                                                            | exact el_Op
                                                                            | exact el_ints
                                                                            | exact el_bools
                                                                            | exact el_ops
                                                                            )); (focus omega); (focus omega); (focus rfl))
      | ((with_reducible apply js_map0); (focus rfl); (focus rfl); (focus rfl); (focus (with_reducible first
                                                                                         | exact el_int
                                                                                         | exact el_bool
                                                                                         | exact el_byte
                                                                                         | exact el_string
                                                                                         | exact el_Errno
                                                                                         | exact el_Op
                                                                                         | exact el_ints
                                                                                         | exact el_bools
                                                                                         | exact el_ops
                                                                                         )); (focus (first | omega | (simp only [List.length_map, List.length_range, List.length_append, List.length_cons, List.length_nil]; omega) | (simp only [List.length_map, List.length_range, List.length_append, List.length_cons, List.length_nil, List.length_take, List.length_drop]; omega))))
      | ((with_reducible apply js_map1); (focus rfl); (focus rfl); (focus rfl); (focus (with_reducible first
                                                                                         | exact el_int
                                                                                         | exact el_bool
                                                                                         | exact el_byte
                                                                                         | exact el_string
                                                                                         | exact el_Errno
                                                                                         | exact el_Op
                                                                                         | exact el_ints
                                                                                         | exact el_bools
                                                                                         | exact el_ops
                                                                                         )); (focus (first | omega | (simp only [List.length_map, List.length_range, List.length_append, List.length_cons, List.length_nil]; omega) | (simp only [List.length_map, List.length_range, List.length_append, List.length_cons, List.length_nil, List.length_take, List.length_drop]; omega))))
      | ((with_reducible apply js_map2); (focus rfl); (focus rfl); (focus rfl); (focus (with_reducible first
                                                                                         | exact el_int
                                                                                         | exact el_bool
                                                                                         | exact el_byte
                                                                                         | exact el_string
                                                                                         | exact el_Errno
                                                                                         | exact el_Op
                                                                                         | exact el_ints
                                                                                         | exact el_bools
                                                                                         | exact el_ops
                                                                                         )); (focus (first | omega | (simp only [List.length_map, List.length_range, List.length_append, List.length_cons, List.length_nil]; omega) | (simp only [List.length_map, List.length_range, List.length_append, List.length_cons, List.length_nil, List.length_take, List.length_drop]; omega))))
      | ((with_reducible apply js_map3); (focus rfl); (focus rfl); (focus rfl); (focus (with_reducible first
                                                                                         | exact el_int
                                                                                         | exact el_bool
                                                                                         | exact el_byte
                                                                                         | exact el_string
                                                                                         | exact el_Errno
                                                                                         | exact el_Op
                                                                                         | exact el_ints
                                                                                         | exact el_bools
                                                                                         | exact el_ops
                                                                                         )); (focus (first | omega | (simp only [List.length_map, List.length_range, List.length_append, List.length_cons, List.length_nil]; omega) | (simp only [List.length_map, List.length_range, List.length_append, List.length_cons, List.length_nil, List.length_take, List.length_drop]; omega))))
      | ((with_reducible apply js_one1); (focus rfl); (focus rfl); (focus rfl); (focus (with_reducible first
                                                                                         | exact el_int
                                                                                         | exact el_bool
                                                                                         | exact el_byte
                                                                                         | exact el_string
                                                                                         | exact el_Errno
                                                                                         | exact el_Op
                                                                                         | exact el_ints
                                                                                         | exact el_bools
                                                                                         | exact el_ops
                                                                                         )))
      | ((with_reducible apply js_one2); (focus rfl); (focus rfl); (focus rfl); (focus (with_reducible first
                                                                                         | exact el_int
                                                                                         | exact el_bool
                                                                                         | exact el_byte
                                                                                         | exact el_string
                                                                                         | exact el_Errno
                                                                                         | exact el_Op
                                                                                         | exact el_ints
                                                                                         | exact el_bools
                                                                                         | exact el_ops
                                                                                         )))
      | ((with_reducible apply js_one3); (focus rfl); (focus rfl); (focus rfl); (focus (with_reducible first
                                                                                         | exact el_int
                                                                                         | exact el_bool
                                                                                         | exact el_byte
                                                                                         | exact el_string
                                                                                         | exact el_Errno
                                                                                         | exact el_Op
                                                                                         | exact el_ints
                                                                                         | exact el_bools
                                                                                         | exact el_ops
                                                                                         )))
      | ((with_reducible apply japp1); (focus rfl); (focus rfl); (focus rfl); (focus (with_reducible first
                                                                                       | exact el_int
                                                                                       | exact el_bool
                                                                                       | exact el_byte
                                                                                       | exact el_string
                                                                                       | exact el_Errno
                                                                                       | exact el_Op
                                                                                       | exact el_ints
                                                                                       | exact el_bools
                                                                                       | exact el_ops
                                                                                       )); (focus rfl); (focus rfl); (focus rfl); (focus (first | omega | (simp only [List.length_map, List.length_range, List.length_append, List.length_cons, List.length_nil]; omega) | (simp only [List.length_map, List.length_range, List.length_append, List.length_cons, List.length_nil, List.length_take, List.length_drop]; omega))); (focus (first | omega | (simp only [List.length_map, List.length_range, List.length_append, List.length_cons, List.length_nil]; omega) | (simp only [List.length_map, List.length_range, List.length_append, List.length_cons, List.length_nil, List.length_take, List.length_drop]; omega))))
      | refine stp ?_
      | refine two ?_ ?_
      | (refine imp fun hc => ?_) <;> try (first | contradiction | (exfalso; omega))
      | refine all fun v_ => ?_)
    refine retv (vfreeze (t := 4) (eb := 8) rfl rfl (fun x => rfl) (by omega)) ?_
    ((with_reducible apply rq2); rfl; rfl; rfl)
    refine ret_eq ?_
    rw [hs, k3]

theorem AheadOf (G : List (Nat × List D)) ( l : List Fo) (props : Int) : ACr Tryd.prog G 29 [.d (opsD l), .int props] (.tup [.d (intsD (aheadsOf l props).1), .int (aheadsOf l props).2]) := by
  refine AC_ofV (ts := [4, 5]) 32 Tryd.func29 rfl rfl rfl (by simp) fun W I => ?_
  refine jfact (t := 0) rfl fun hl => ?_
  repeat' (first
    | ((with_reducible apply call0); (focus rfl); (focus exact cal_FormulaFault); (focus exact FormulaFault _ _ _); (focus rfl))
    | ((with_reducible apply call0); (focus rfl); (focus exact cal_looksAhead); (focus exact looksAhead _ _); (focus rfl))
    | refine stp ?_
    | refine two ?_ ?_
    | (refine imp fun hc => ?_) <;> try (first | contradiction | (exfalso; omega))
    | refine all fun v_ => ?_)
  · refine retv (vnil (t := 4) 1 8 rfl) ?_
    ((with_reducible apply rq2); rfl; rfl; rfl)
    refine ret_eq ?_
    rw [aheadsOf, if_pos hc]; rfl
  have hs : aheadsOf l props = (aheadL l 0, 0) := by rw [aheadsOf, if_neg hc]
  refine jrow (E := 3) (sz := 1) intC ?_
  refine J_loopV (X := Nat × Value × List Int) (fun y => [(0, .d (opsD l)), (7, .val y.2.1), (8, .int y.1)]) (fun y => [rowE y.2.1 3 1 intC y.2.2]) (fun y => y.1 ≤ l.length ∧ y.2.2.length ≤ y.1 ∧ aheadL l 0 = y.2.2 ++ aheadL (l.drop y.1) y.1) (fun y => l.length - y.1) (0, .slice none 0 0, []) ⟨Nat.zero_le _, Nat.le_refl _, rfl⟩ (VS.of_le ?_) ?_
  · repeat (first
      | exact Env.le_nil _
      | refine Env.le_cons (AV.le_refl _) ?_
      | refine Env.le_cons (AV.le_int rfl (by first | rfl | omega | (dsimp only; omega))) ?_)
  rintro ⟨i, v, out⟩ ⟨k1, k2, k3⟩
  dsimp only at k1 k2 k3 ⊢
  by_cases hi : i < l.length
  · rw [aheadL_at l i hi] at k3
    repeat' (first
      | ((with_reducible apply call0); (focus rfl); (focus exact cal_FormulaFault); (focus exact FormulaFault _ _ _); (focus rfl))
      | ((with_reducible apply call0); (focus rfl); (focus exact cal_looksAhead); (focus exact looksAhead _ _); (focus rfl))
      | refine stp ?_
      | refine two ?_ ?_
      | (refine imp fun hc => ?_) <;> try (first | contradiction | (exfalso; omega))
      | refine all fun v_ => ?_)
    · rw [if_pos hc] at k3
      refine ⟨(i + 1, v_, out ++ [(i : Int)]), ⟨by dsimp only; omega, by simp; omega, by simpa using k3⟩, by dsimp only; omega, vle (List.Sublist.refl _) ?_⟩
      repeat (first
        | exact Env.le_nil _
        | refine Env.le_cons (AV.le_refl _) ?_
        | refine Env.le_cons (AV.le_int rfl (by first | rfl | omega | (dsimp only; omega))) ?_)
    · rw [if_neg hc] at k3
      refine ⟨(i + 1, v, out), ⟨by dsimp only; omega, by dsimp only; omega, k3⟩, by dsimp only; omega, vle (List.Sublist.refl _) ?_⟩
      repeat (first
        | exact Env.le_nil _
        | refine Env.le_cons (AV.le_refl _) ?_
        | refine Env.le_cons (AV.le_int rfl (by first | rfl | omega | (dsimp only; omega))) ?_)
  · rw [aheadL_end l i (by omega), List.append_nil] at k3
    repeat' (first
      | ((with_reducible apply call0); (focus rfl); (focus exact cal_FormulaFault); (focus exact FormulaFault _ _ _); (focus rfl))
      | ((with_reducible apply call0); (focus rfl); (focus exact cal_looksAhead); (focus exact looksAhead _ _); (focus rfl))
      | refine stp ?_
      | refine two ?_ ?_
      | (refine imp fun hc => ?_) <;> try (first | contradiction | (exfalso; omega))
      | refine all fun v_ => ?_)
    refine retv (vfreeze (t := 4) (eb := 8) rfl rfl (fun x => rfl) (by omega)) ?_
    ((with_reducible apply rq2); rfl; rfl; rfl)
    refine ret_eq ?_
    rw [hs, k3]
end Go.Proofs.YtnhbcnfkjfigoaaDoor
