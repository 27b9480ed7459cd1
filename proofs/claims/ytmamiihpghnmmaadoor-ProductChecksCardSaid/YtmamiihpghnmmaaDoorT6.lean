/- Contracts: logic.ahead, fits, Check; foretellref.In, looksAhead, FormulaFault. -/
import Derived.Test.YtmamiihpghnmmaaDoorT3
import Derived.Test.YtmamiihpghnmmaaDoorSd
namespace Go.Proofs.YtmamiihpghnmmaaDoor
open Go Go.Av Go.Sp
set_option linter.unusedVariables false
set_option linter.unusedSimpArgs false
set_option maxRecDepth 100000
set_option maxHeartbeats 4000000

theorem cal_ahead : Cal Tryd.prog 64 := Cal.of Tryd.func64 (by kernel_rfl) (by kernel_rfl)
theorem cal_fits : Cal Tryd.prog 63 := Cal.of Tryd.func63 (by kernel_rfl) (by kernel_rfl)
theorem cal_Check : Cal Tryd.prog 35 := Cal.of Tryd.func35 (by kernel_rfl) (by kernel_rfl)
theorem cal_looksAhead : Cal Tryd.prog 68 := Cal.of Tryd.func68 (by kernel_rfl) (by kernel_rfl)
theorem cal_FormulaFault : Cal Tryd.prog 37 := Cal.of Tryd.func37 (by kernel_rfl) (by kernel_rfl)
theorem ahead (G : List (Nat × List D)) (x : Int) : ACr Tryd.prog G 64 [.int x] (.bool (decide (aheadP x))) := by
  refine AC_of (ts := [2]) 9 Tryd.func64 rfl rfl rfl (by simp) fun W I => ?_
  repeat' (first
    | exact True.intro
    | refine stp ?_
    | refine two ?_ ?_
    | (refine imp fun hc => ?_) <;> try (first | contradiction | (exfalso; omega))
    | refine all fun v_ => ?_)
  all_goals
    ((with_reducible apply rq1); rfl; rfl)
    refine ret_eq (congrArg AV.bool ?_)
    (first | rfl | (refine decide_eq_decide.2 ?_; omega) | (refine (decide_eq_true ?_).symm; omega) | (refine (decide_eq_false ?_).symm; omega) | (refine decide_eq_true ?_; omega) | (refine decide_eq_false ?_; omega))
theorem looksAhead (G : List (Nat × List D)) (x : Int) : ACr Tryd.prog G 68 [.int x] (.bool (decide (aheadP x))) := by
  refine AC_of (ts := [2]) 5 Tryd.func68 rfl rfl rfl (by simp) fun W I => ?_
  repeat' (first
    | ((with_reducible apply call0); (focus rfl); (focus exact cal_In); (focus exact In _ _ _ _); (focus rfl))
    | ((with_reducible apply je_call0); (focus rfl); (focus (decide +kernel)); (focus rfl); (focus exact cal_In); (focus exact In _ _ _ _); (focus rfl))
    | exact True.intro
    | refine stp ?_
    | refine two ?_ ?_
    | (refine imp fun hc => ?_) <;> try (first | contradiction | (exfalso; omega))
    | refine all fun v_ => ?_)
  ((with_reducible apply rq1); rfl; rfl)
  exact ret_eq rfl

theorem fits (G : List (Nat × List D)) (a b props : Int) : ACr Tryd.prog G 63 [.agg [.int a, .int b], .int props] (.int (fitsZ a b props)) := by
  refine AC_ofV (ts := [4]) 34 Tryd.func63 rfl rfl rfl (by simp) fun W I => ?_
  repeat' (first
    | ((with_reducible apply jboxT); (focus rfl); (focus rfl); (focus rfl))
    | ((with_reducible apply jalloc1T); (focus (with_reducible exact ElC.h)); (focus rfl); (focus rfl))
    | ((with_reducible apply jallocN); (focus (with_reducible exact ElC.h)); (focus rfl))
    | ((with_reducible apply jmk_bool); (focus rfl); (focus rfl); (focus (with_reducible exact ElC.h)); (focus omega); (focus omega); (focus rfl))
    | ((with_reducible apply jmk_int); (focus rfl); (focus rfl); (focus (with_reducible exact ElC.h)); (focus omega); (focus omega); (focus rfl))
    | ((with_reducible apply js_um); (focus rfl); (focus ((repeat (first | with_reducible exact Upd.here | with_reducible apply Upd.there)); done)); (focus rfl); (focus rfl); (focus (with_reducible exact ElC.h)); (focus (first | omega | (simp only [List.length_map, List.length_range, List.length_append, List.length_cons, List.length_nil, List.length_take, List.length_drop, List.length_set, List.length_replicate]; omega))))
    | ((with_reducible apply js_uw); (focus rfl); (focus rfl); (focus rfl); (focus (with_reducible exact ElC.h)); (focus rfl); (focus ((repeat (first | with_reducible exact Upd.here | with_reducible apply Upd.there)); done)); (focus rfl))
    | ((with_reducible apply js_ur); (focus rfl); (focus rfl); (focus rfl); (focus (with_reducible exact ElC.h)); (focus ((repeat (first | with_reducible exact Upd.here | with_reducible apply Upd.there)); done)); (focus ((repeat (first | exact SetAR.nil | apply SetAR.put | apply SetAR.skip)); done)))
    | ((with_reducible apply js_us); (focus rfl); (focus rfl); (focus rfl); (focus (with_reducible exact ElC.h)); (focus rfl); (focus ((repeat (first | with_reducible exact Upd.here | with_reducible apply Upd.there)); done)); (focus ((repeat (first | exact SetAR.nil | apply SetAR.put | apply SetAR.skip)); done)))
    | exact True.intro
    | refine stp ?_
    | refine two ?_ ?_
    | (refine imp fun hc => ?_) <;> try (first | contradiction | (exfalso; omega))
    | refine all fun v_ => ?_)
  all_goals
    refine retv (VS.drop (List.nil_sublist _)) ?_
    ((with_reducible apply rq1); rfl; rfl)
    refine ret_eq (congrArg AV.int ?_)
    unfold fitsZ
    first
      | (rw [if_pos (by omega)])
      | (rw [if_neg (by omega), if_pos (by omega)])
      | (rw [if_neg (by omega), if_neg (by omega)])

theorem Check (l : List Fo) (props : Int) : ACr Tryd.prog GP 35 [.d (opsD l), .int props] (.int (formF l props)) := by
  refine AC_ofV (ts := [4]) 45 Tryd.func35 rfl rfl rfl (by simp) fun W I => ?_
  refine jfact (t := 0) rfl fun hl => ?_
  repeat' (first
    | ((with_reducible apply call0); (focus rfl); (focus exact cal_Ends); (focus exact Ends _); (focus rfl))
    | ((with_reducible apply je_call0); (focus rfl); (focus (decide +kernel)); (focus rfl); (focus exact cal_Ends); (focus exact Ends _); (focus rfl))
    | ((with_reducible apply call0); (focus rfl); (focus exact cal_fits); (focus exact fits _ _ _ _); (focus rfl))
    | ((with_reducible apply je_call0); (focus rfl); (focus (decide +kernel)); (focus rfl); (focus exact cal_fits); (focus exact fits _ _ _ _); (focus rfl))
    | ((with_reducible apply call0); (focus rfl); (focus exact cal_ahead); (focus exact ahead _ _); (focus rfl))
    | ((with_reducible apply je_call0); (focus rfl); (focus (decide +kernel)); (focus rfl); (focus exact cal_ahead); (focus exact ahead _ _); (focus rfl))
    | ((with_reducible apply jboxT); (focus rfl); (focus rfl); (focus rfl))
    | ((with_reducible apply jalloc1T); (focus (with_reducible exact ElC.h)); (focus rfl); (focus rfl))
    | ((with_reducible apply jallocN); (focus (with_reducible exact ElC.h)); (focus rfl))
    | ((with_reducible apply jmk_bool); (focus rfl); (focus rfl); (focus (with_reducible exact ElC.h)); (focus omega); (focus omega); (focus rfl))
    | ((with_reducible apply jmk_int); (focus rfl); (focus rfl); (focus (with_reducible exact ElC.h)); (focus omega); (focus omega); (focus rfl))
    | ((with_reducible apply js_um); (focus rfl); (focus ((repeat (first | with_reducible exact Upd.here | with_reducible apply Upd.there)); done)); (focus rfl); (focus rfl); (focus (with_reducible exact ElC.h)); (focus (first | omega | (simp only [List.length_map, List.length_range, List.length_append, List.length_cons, List.length_nil, List.length_take, List.length_drop, List.length_set, List.length_replicate]; omega))))
    | ((with_reducible apply js_uw); (focus rfl); (focus rfl); (focus rfl); (focus (with_reducible exact ElC.h)); (focus rfl); (focus ((repeat (first | with_reducible exact Upd.here | with_reducible apply Upd.there)); done)); (focus rfl))
    | ((with_reducible apply js_ur); (focus rfl); (focus rfl); (focus rfl); (focus (with_reducible exact ElC.h)); (focus ((repeat (first | with_reducible exact Upd.here | with_reducible apply Upd.there)); done)); (focus ((repeat (first | exact SetAR.nil | apply SetAR.put | apply SetAR.skip)); done)))
    | ((with_reducible apply js_us); (focus rfl); (focus rfl); (focus rfl); (focus (with_reducible exact ElC.h)); (focus rfl); (focus ((repeat (first | with_reducible exact Upd.here | with_reducible apply Upd.there)); done)); (focus ((repeat (first | exact SetAR.nil | apply SetAR.put | apply SetAR.skip)); done)))
    | exact True.intro
    | refine stp ?_
    | refine two ?_ ?_
    | (refine imp fun hc => ?_) <;> try (first | contradiction | (exfalso; omega))
    | refine all fun v_ => ?_)
  all_goals try (
    refine retv0 ?_
    ((with_reducible apply rq1); rfl; rfl)
    refine ret_eq (congrArg AV.int ?_)
    unfold formF
    first
      | (rw [if_pos (by omega)])
      | (rw [if_neg (by omega), if_pos (by assumption)]))
  have hs : formF l props = formE l props 0 := by
    unfold formF
    rw [if_neg (by omega), if_neg (by assumption)]
  refine J_loopV (X := Nat × Nat) (fun y => [(1, .int props), (25, .d (opsD l)), (26, .int l.length), (27, .int y.1), (7, .int y.2)]) (fun _ => []) (fun y => y.1 ≤ l.length ∧ y.2 ≤ y.1 ∧ formF l props = formE (l.drop y.1) props y.2) (fun y => l.length - y.1) (0, 0) ⟨Nat.zero_le _, Nat.le_refl _, hs⟩ (VS.of_le ?_) ?_
  · repeat (first
      | exact Env.le_nil _
      | refine Env.le_cons (AV.le_refl _) ?_
      | refine Env.le_cons (AV.le_int rfl (by first | rfl | omega | (dsimp only; omega))) ?_)
  rintro ⟨i, n⟩ ⟨k1, k2, k3⟩
  dsimp only at k1 k2 k3 ⊢
  by_cases hi : i < l.length
  · rw [formE_at l i hi] at k3
    repeat' (first
      | ((with_reducible apply call0); (focus rfl); (focus exact cal_Ends); (focus exact Ends _); (focus rfl))
      | ((with_reducible apply je_call0); (focus rfl); (focus (decide +kernel)); (focus rfl); (focus exact cal_Ends); (focus exact Ends _); (focus rfl))
      | ((with_reducible apply call0); (focus rfl); (focus exact cal_fits); (focus exact fits _ _ _ _); (focus rfl))
      | ((with_reducible apply je_call0); (focus rfl); (focus (decide +kernel)); (focus rfl); (focus exact cal_fits); (focus exact fits _ _ _ _); (focus rfl))
      | ((with_reducible apply call0); (focus rfl); (focus exact cal_ahead); (focus exact ahead _ _); (focus rfl))
      | ((with_reducible apply je_call0); (focus rfl); (focus (decide +kernel)); (focus rfl); (focus exact cal_ahead); (focus exact ahead _ _); (focus rfl))
      | ((with_reducible apply jboxT); (focus rfl); (focus rfl); (focus rfl))
      | ((with_reducible apply jalloc1T); (focus (with_reducible exact ElC.h)); (focus rfl); (focus rfl))
      | ((with_reducible apply jallocN); (focus (with_reducible exact ElC.h)); (focus rfl))
      | ((with_reducible apply jmk_bool); (focus rfl); (focus rfl); (focus (with_reducible exact ElC.h)); (focus omega); (focus omega); (focus rfl))
      | ((with_reducible apply jmk_int); (focus rfl); (focus rfl); (focus (with_reducible exact ElC.h)); (focus omega); (focus omega); (focus rfl))
      | ((with_reducible apply js_um); (focus rfl); (focus ((repeat (first | with_reducible exact Upd.here | with_reducible apply Upd.there)); done)); (focus rfl); (focus rfl); (focus (with_reducible exact ElC.h)); (focus (first | omega | (simp only [List.length_map, List.length_range, List.length_append, List.length_cons, List.length_nil, List.length_take, List.length_drop, List.length_set, List.length_replicate]; omega))))
      | ((with_reducible apply js_uw); (focus rfl); (focus rfl); (focus rfl); (focus (with_reducible exact ElC.h)); (focus rfl); (focus ((repeat (first | with_reducible exact Upd.here | with_reducible apply Upd.there)); done)); (focus rfl))
      | ((with_reducible apply js_ur); (focus rfl); (focus rfl); (focus rfl); (focus (with_reducible exact ElC.h)); (focus ((repeat (first | with_reducible exact Upd.here | with_reducible apply Upd.there)); done)); (focus ((repeat (first | exact SetAR.nil | apply SetAR.put | apply SetAR.skip)); done)))
      | ((with_reducible apply js_us); (focus rfl); (focus rfl); (focus rfl); (focus (with_reducible exact ElC.h)); (focus rfl); (focus ((repeat (first | with_reducible exact Upd.here | with_reducible apply Upd.there)); done)); (focus ((repeat (first | exact SetAR.nil | apply SetAR.put | apply SetAR.skip)); done)))
      | exact True.intro
      | refine stp ?_
      | refine two ?_ ?_
      | (refine imp fun hc => ?_) <;> try (first | contradiction | (exfalso; omega))
      | refine all fun v_ => ?_)
    · refine retv (VS.drop (List.nil_sublist _)) ?_
      ((with_reducible apply rq1); rfl; rfl)
      refine ret_eq (congrArg AV.int ?_)
      rw [k3, if_pos hc]
    all_goals rw [if_neg (by assumption)] at k3
    · rw [if_pos hc] at k3
      refine ⟨(i + 1, n + 1), ⟨by dsimp only; omega, by dsimp only; omega, k3⟩, by dsimp only; omega, vle (List.nil_sublist _) ?_⟩
      repeat (first
        | exact Env.le_nil _
        | refine Env.le_cons (AV.le_refl _) ?_
        | refine Env.le_cons (AV.le_int rfl (by first | rfl | omega | (dsimp only; omega))) ?_)
    · rw [if_neg hc] at k3
      refine ⟨(i + 1, n), ⟨by dsimp only; omega, by dsimp only; omega, k3⟩, by dsimp only; omega, vle (List.nil_sublist _) ?_⟩
      repeat (first
        | exact Env.le_nil _
        | refine Env.le_cons (AV.le_refl _) ?_
        | refine Env.le_cons (AV.le_int rfl (by first | rfl | omega | (dsimp only; omega))) ?_)
  · rw [formE_end l i (by omega)] at k3
    repeat' (first
      | ((with_reducible apply call0); (focus rfl); (focus exact cal_Ends); (focus exact Ends _); (focus rfl))
      | ((with_reducible apply je_call0); (focus rfl); (focus (decide +kernel)); (focus rfl); (focus exact cal_Ends); (focus exact Ends _); (focus rfl))
      | ((with_reducible apply call0); (focus rfl); (focus exact cal_fits); (focus exact fits _ _ _ _); (focus rfl))
      | ((with_reducible apply je_call0); (focus rfl); (focus (decide +kernel)); (focus rfl); (focus exact cal_fits); (focus exact fits _ _ _ _); (focus rfl))
      | ((with_reducible apply call0); (focus rfl); (focus exact cal_ahead); (focus exact ahead _ _); (focus rfl))
      | ((with_reducible apply je_call0); (focus rfl); (focus (decide +kernel)); (focus rfl); (focus exact cal_ahead); (focus exact ahead _ _); (focus rfl))
      | ((with_reducible apply jboxT); (focus rfl); (focus rfl); (focus rfl))
      | ((with_reducible apply jalloc1T); (focus (with_reducible exact ElC.h)); (focus rfl); (focus rfl))
      | ((with_reducible apply jallocN); (focus (with_reducible exact ElC.h)); (focus rfl))
      | ((with_reducible apply jmk_bool); (focus rfl); (focus rfl); (focus (with_reducible exact ElC.h)); (focus omega); (focus omega); (focus rfl))
      | ((with_reducible apply jmk_int); (focus rfl); (focus rfl); (focus (with_reducible exact ElC.h)); (focus omega); (focus omega); (focus rfl))
      | ((with_reducible apply js_um); (focus rfl); (focus ((repeat (first | with_reducible exact Upd.here | with_reducible apply Upd.there)); done)); (focus rfl); (focus rfl); (focus (with_reducible exact ElC.h)); (focus (first | omega | (simp only [List.length_map, List.length_range, List.length_append, List.length_cons, List.length_nil, List.length_take, List.length_drop, List.length_set, List.length_replicate]; omega))))
      | ((with_reducible apply js_uw); (focus rfl); (focus rfl); (focus rfl); (focus (with_reducible exact ElC.h)); (focus rfl); (focus ((repeat (first | with_reducible exact Upd.here | with_reducible apply Upd.there)); done)); (focus rfl))
      | ((with_reducible apply js_ur); (focus rfl); (focus rfl); (focus rfl); (focus (with_reducible exact ElC.h)); (focus ((repeat (first | with_reducible exact Upd.here | with_reducible apply Upd.there)); done)); (focus ((repeat (first | exact SetAR.nil | apply SetAR.put | apply SetAR.skip)); done)))
      | ((with_reducible apply js_us); (focus rfl); (focus rfl); (focus rfl); (focus (with_reducible exact ElC.h)); (focus rfl); (focus ((repeat (first | with_reducible exact Upd.here | with_reducible apply Upd.there)); done)); (focus ((repeat (first | exact SetAR.nil | apply SetAR.put | apply SetAR.skip)); done)))
      | exact True.intro
      | refine stp ?_
      | refine two ?_ ?_
      | (refine imp fun hc => ?_) <;> try (first | contradiction | (exfalso; omega))
      | refine all fun v_ => ?_)
    all_goals
      refine retv0 ?_
      ((with_reducible apply rq1); rfl; rfl)
      refine ret_eq (congrArg AV.int ?_)
      rw [k3]
      first
        | rw [if_pos (by omega)]
        | rw [if_neg (by omega)]

theorem FormulaFault (G : List (Nat × List D)) (l : List Fo) (props : Int) : ACr Tryd.prog G 37 [.d (opsD l), .int props] (.int (formF l props)) := by
  refine AC_ofV (ts := [4]) 59 Tryd.func37 rfl rfl rfl (by simp) fun W I => ?_
  refine jfact (t := 0) rfl fun hl => ?_
  repeat' (first
    | ((with_reducible apply call0); (focus rfl); (focus exact cal_EndsOf); (focus exact EndsOf _ _); (focus rfl))
    | ((with_reducible apply je_call0); (focus rfl); (focus (decide +kernel)); (focus rfl); (focus exact cal_EndsOf); (focus exact EndsOf _ _); (focus rfl))
    | ((with_reducible apply call0); (focus rfl); (focus exact cal_In); (focus exact In _ _ _ _); (focus rfl))
    | ((with_reducible apply je_call0); (focus rfl); (focus (decide +kernel)); (focus rfl); (focus exact cal_In); (focus exact In _ _ _ _); (focus rfl))
    | ((with_reducible apply call0); (focus rfl); (focus exact cal_looksAhead); (focus exact looksAhead _ _); (focus rfl))
    | ((with_reducible apply je_call0); (focus rfl); (focus (decide +kernel)); (focus rfl); (focus exact cal_looksAhead); (focus exact looksAhead _ _); (focus rfl))
    | exact True.intro
    | refine stp ?_
    | refine two ?_ ?_
    | (refine imp fun hc => ?_) <;> try (first | contradiction | (exfalso; omega))
    | refine all fun v_ => ?_)
  all_goals try (
    refine retv0 ?_
    ((with_reducible apply rq1); rfl; rfl)
    refine ret_eq (congrArg AV.int ?_)
    unfold formF
    first
      | (rw [if_pos (by omega)])
      | (rw [if_neg (by omega), if_pos (by assumption)]))
  have hs : formF l props = formE l props 0 := by
    unfold formF
    rw [if_neg (by omega), if_neg (by assumption)]
  refine J_loopV (X := Nat × Nat) (fun y => [(0, .d (opsD l)), (1, .int props), (8, .int y.1), (7, .int y.2)]) (fun _ => []) (fun y => y.1 ≤ l.length ∧ y.2 ≤ y.1 ∧ formF l props = formE (l.drop y.1) props y.2) (fun y => l.length - y.1) (0, 0) ⟨Nat.zero_le _, Nat.le_refl _, hs⟩ (VS.of_le ?_) ?_
  · repeat (first
      | exact Env.le_nil _
      | refine Env.le_cons (AV.le_refl _) ?_
      | refine Env.le_cons (AV.le_int rfl (by first | rfl | omega | (dsimp only; omega))) ?_)
  rintro ⟨i, n⟩ ⟨k1, k2, k3⟩
  dsimp only at k1 k2 k3 ⊢
  by_cases hi : i < l.length
  · rw [formE_at l i hi] at k3
    unfold fitsZ at k3
    repeat' (first
      | ((with_reducible apply call0); (focus rfl); (focus exact cal_EndsOf); (focus exact EndsOf _ _); (focus rfl))
      | ((with_reducible apply je_call0); (focus rfl); (focus (decide +kernel)); (focus rfl); (focus exact cal_EndsOf); (focus exact EndsOf _ _); (focus rfl))
      | ((with_reducible apply call0); (focus rfl); (focus exact cal_In); (focus exact In _ _ _ _); (focus rfl))
      | ((with_reducible apply je_call0); (focus rfl); (focus (decide +kernel)); (focus rfl); (focus exact cal_In); (focus exact In _ _ _ _); (focus rfl))
      | ((with_reducible apply call0); (focus rfl); (focus exact cal_looksAhead); (focus exact looksAhead _ _); (focus rfl))
      | ((with_reducible apply je_call0); (focus rfl); (focus (decide +kernel)); (focus rfl); (focus exact cal_looksAhead); (focus exact looksAhead _ _); (focus rfl))
      | exact True.intro
      | refine stp ?_
      | refine two ?_ ?_
      | (refine imp fun hc => ?_) <;> try (first | contradiction | (exfalso; omega))
      | refine all fun v_ => ?_)
    all_goals first
      | (refine retv0 ?_
         ((with_reducible apply rq1); rfl; rfl)
         refine ret_eq (congrArg AV.int ?_)
         rw [k3]
         first
           | (rw [if_pos (by rw [if_pos (by omega)]; decide), if_pos (by omega)])
           | (rw [if_pos (by rw [if_neg (by omega), if_pos (by omega)]; decide), if_neg (by omega), if_pos (by omega)]))
      | (rw [if_neg (by rw [if_neg (by omega), if_neg (by omega)]; decide)] at k3
         first
           | (rw [if_pos (by assumption)] at k3
              refine ⟨(i + 1, n + 1), ⟨by dsimp only; omega, by dsimp only; omega, k3⟩, by dsimp only; omega, VS.of_le ?_⟩
              repeat (first
                | exact Env.le_nil _
                | refine Env.le_cons (AV.le_refl _) ?_
                | refine Env.le_cons (AV.le_int rfl (by first | rfl | omega | (dsimp only; omega))) ?_))
           | (rw [if_neg (by assumption)] at k3
              refine ⟨(i + 1, n), ⟨by dsimp only; omega, by dsimp only; omega, k3⟩, by dsimp only; omega, VS.of_le ?_⟩
              repeat (first
                | exact Env.le_nil _
                | refine Env.le_cons (AV.le_refl _) ?_
                | refine Env.le_cons (AV.le_int rfl (by first | rfl | omega | (dsimp only; omega))) ?_)))
  · rw [formE_end l i (by omega)] at k3
    repeat' (first
      | ((with_reducible apply call0); (focus rfl); (focus exact cal_EndsOf); (focus exact EndsOf _ _); (focus rfl))
      | ((with_reducible apply je_call0); (focus rfl); (focus (decide +kernel)); (focus rfl); (focus exact cal_EndsOf); (focus exact EndsOf _ _); (focus rfl))
      | ((with_reducible apply call0); (focus rfl); (focus exact cal_In); (focus exact In _ _ _ _); (focus rfl))
      | ((with_reducible apply je_call0); (focus rfl); (focus (decide +kernel)); (focus rfl); (focus exact cal_In); (focus exact In _ _ _ _); (focus rfl))
      | ((with_reducible apply call0); (focus rfl); (focus exact cal_looksAhead); (focus exact looksAhead _ _); (focus rfl))
      | ((with_reducible apply je_call0); (focus rfl); (focus (decide +kernel)); (focus rfl); (focus exact cal_looksAhead); (focus exact looksAhead _ _); (focus rfl))
      | exact True.intro
      | refine stp ?_
      | refine two ?_ ?_
      | (refine imp fun hc => ?_) <;> try (first | contradiction | (exfalso; omega))
      | refine all fun v_ => ?_)
    all_goals
      refine retv0 ?_
      ((with_reducible apply rq1); rfl; rfl)
      refine ret_eq (congrArg AV.int ?_)
      rw [k3]
      first
        | rw [if_pos (by omega)]
        | rw [if_neg (by omega)]
end Go.Proofs.YtmamiihpghnmmaaDoor
