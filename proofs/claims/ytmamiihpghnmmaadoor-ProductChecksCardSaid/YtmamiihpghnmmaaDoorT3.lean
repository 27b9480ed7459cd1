/- Contracts: copies, comparisons, foretellref.EndsOf. -/
import Derived.Test.YtmamiihpghnmmaaDoorT2
import Derived.Test.YtmamiihpghnmmaaDoorT0
namespace Go.Proofs.YtmamiihpghnmmaaDoor
open Go Go.Av Go.Sp
set_option linter.unusedVariables false
set_option linter.unusedSimpArgs false
set_option maxRecDepth 100000
set_option maxHeartbeats 4000000

theorem cal_EndsOf : Cal Tryd.prog 67 := Cal.of Tryd.func67 (by kernel_rfl) (by kernel_rfl)

theorem EndsOf (G : List (Nat × List D)) (l : List Fo) : ACr Tryd.prog G 67 [.d (opsD l)] (.tup [.d (intsD (endsOf l).1), .int (endsOf l).2]) := by
  refine AC_ofV (ts := [2, 3]) 42 Tryd.func67 rfl rfl rfl (by simp) fun W I => ?_
  repeat' (first
    | ((with_reducible apply call0); (focus rfl); (focus exact cal_endOf); (focus exact endOf _ _ _ (by omega) (by omega)); (focus rfl))
    | ((with_reducible apply je_call0); (focus rfl); (focus (decide +kernel)); (focus rfl); (focus exact cal_endOf); (focus exact endOf _ _ _ (by omega) (by omega)); (focus rfl))
    | exact True.intro
    | refine stp ?_
    | refine two ?_ ?_
    | (refine imp fun hc => ?_) <;> try (first | contradiction | (exfalso; omega))
    | refine all fun v_ => ?_)
  · refine retv (vnil (t := 2) 1 8 rfl) ?_
    ((with_reducible apply rq2); rfl; rfl; rfl)
    refine ret_eq ?_
    rw [endsOf, if_pos (by omega)]; rfl
  · refine retv (vnil (t := 2) 1 8 rfl) ?_
    ((with_reducible apply rq2); rfl; rfl; rfl)
    refine ret_eq ?_
    rw [endsOf, if_neg (by omega), if_pos (by assumption)]; rfl
  · refine retv (vnil (t := 2) 1 8 rfl) ?_
    ((with_reducible apply rq2); rfl; rfl; rfl)
    refine ret_eq ?_
    rw [endsOf, if_neg (by omega), if_neg (by assumption), if_pos (by assumption)]; rfl
  have h60 : ¬ 60 < l.length := by omega
  refine jrow (E := 3) (sz := 1) intC ?_
  refine J_loop (X := Nat × Value) (fun y => [(0, .d (opsD l)), (6, .val y.2), (7, .int y.1)]) (fun y => [rowE y.2 3 1 intC ((List.range y.1).map fun i : Nat => (Sp.endOf l i).1)]) (fun y => y.1 ≤ l.length) (fun y => l.length - y.1) (0, .slice none 0 0) (Nat.zero_le _) ?_ rfl ?_
  · repeat (first
      | exact Env.le_nil _
      | refine Env.le_cons (AV.le_refl _) ?_
      | refine Env.le_cons (AV.le_int rfl (by first | rfl | omega | (dsimp only; omega))) ?_)
  rintro ⟨i, v⟩ h1
  dsimp only at h1 ⊢
  have hlen : ((List.range i).map fun i : Nat => (Sp.endOf l i).1).length = i := by simp
  repeat' (first
    | ((with_reducible apply call0); (focus rfl); (focus exact cal_endOf); (focus exact endOf _ _ _ (by omega) (by omega)); (focus rfl))
    | ((with_reducible apply je_call0); (focus rfl); (focus (decide +kernel)); (focus rfl); (focus exact cal_endOf); (focus exact endOf _ _ _ (by omega) (by omega)); (focus rfl))
    | exact True.intro
    | refine stp ?_
    | refine two ?_ ?_
    | (refine imp fun hc => ?_) <;> try (first | contradiction | (exfalso; omega))
    | refine all fun v_ => ?_)
  · refine ⟨(i + 1, v_), by dsimp only; omega, by dsimp only; omega, ?_, ?_⟩
    · repeat (first
        | exact Env.le_nil _
        | refine Env.le_cons (AV.le_refl _) ?_
        | refine Env.le_cons (AV.le_int rfl (by first | rfl | omega | (dsimp only; omega))) ?_)
    · dsimp only
      rw [List.range_succ, List.map_append]; rfl
  · refine retv (vfreeze (t := 2) (eb := 8) rfl rfl (fun x => rfl) (by rw [hlen]; omega)) ?_
    ((with_reducible apply rq2); rfl; rfl; rfl)
    refine ret_eq ?_
    have : i = l.length := by omega
    rw [endsOf, if_neg h60, if_neg (by assumption), if_neg (by assumption), this]
end Go.Proofs.YtmamiihpghnmmaaDoor
