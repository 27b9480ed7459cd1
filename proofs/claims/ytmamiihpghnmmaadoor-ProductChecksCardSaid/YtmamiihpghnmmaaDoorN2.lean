/- Contracts: tasks: their copies and comparisons; product.Check, foretellref.TaskFault. -/
import Derived.Test.YtmamiihpghnmmaaDoorM4
import Derived.Test.YtmamiihpghnmmaaDoorM5
import Derived.Test.YtmamiihpghnmmaaDoorT4
import Derived.Test.YtmamiihpghnmmaaDoorT7
namespace Go.Sp
open Go Go.Av
set_option linter.unusedVariables false
set_option linter.unusedSimpArgs false
/-- A task. -/
structure Tk where
  model : Md
  props : List (List Fo)
  formula : List Fo
def Tk.cells (t : Tk) : List D := [varsD t.model.vars, rulesD t.model.rules, termsD t.props, opsD t.formula]
abbrev tkA (t : Tk) : AV := .agg [.d (varsD t.model.vars), .d (rulesD t.model.rules), .d (termsD t.props), .d (opsD t.formula)]
/-- P7.1. -/
noncomputable def taskF (t : Tk) : Int := if propsF t.model t.props ≠ 0 then propsF t.model t.props else formF t.formula t.props.length
end Go.Sp
namespace Go.Proofs.YtmamiihpghnmmaaDoor
open Go Go.Av Go.Sp
set_option linter.unusedVariables false
set_option linter.unusedSimpArgs false
set_option maxRecDepth 100000
set_option maxHeartbeats 4000000
theorem cal_terms : Cal Tryd.prog 16 := Cal.of Tryd.func16 (by kernel_rfl) (by kernel_rfl)
theorem cal_tasks : Cal Tryd.prog 10 := Cal.of Tryd.func10 (by kernel_rfl) (by kernel_rfl)
theorem cal_sameTask : Cal Tryd.prog 13 := Cal.of Tryd.func13 (by kernel_rfl) (by kernel_rfl)
theorem cal_PCheck : Cal Tryd.prog 11 := Cal.of Tryd.func11 (by kernel_rfl) (by kernel_rfl)
theorem cal_TaskFault : Cal Tryd.prog 12 := Cal.of Tryd.func12 (by kernel_rfl) (by kernel_rfl)
theorem conf_Task {g : Nat} {xs : List D} (h : Conf Tryd.prog (g + 9) 29 xs) : ∃ t : Tk, xs = t.cells := by
  obtain ⟨p0, p1, p2, rfl, h0, h1, h2⟩ := conf_struct3_of Tryd.underlying29 h
  obtain ⟨m, rfl⟩ := conf_Model h0
  obtain ⟨ps, rfl, _⟩ := conf_terms h1
  obtain ⟨f, rfl, _⟩ := conf_ops h2
  exact ⟨⟨m, ps, f⟩, rfl⟩
/-- A copy, list by list. -/
theorem terms (G : List (Nat × List D)) (a : List (List Fo)) : ACr Tryd.prog G 16 [.d (termsD a)] (.d (termsD a)) := by
  refine AC_ofV (ts := [2]) Tryd.f16.ntmps Tryd.func16 rfl rfl rfl (by simp [Tryd.ntmps16]) fun W I => ?_
  refine jfact (t := 0) rfl fun hl => ?_
  all_goals haveI fA_ : FlagA := ⟨⟩
  repeat' (first
    | ((with_reducible apply call0); (focus rfl); (focus exact cal_ops); (focus exact opsU _ _); (focus rfl))
    | ((with_reducible apply je_call0); (focus rfl); (focus (decide +kernel)); (focus rfl); (focus exact cal_ops); (focus exact opsU _ _); (focus rfl))
    | exact True.intro
    | refine stp ?_
    | refine two ?_ ?_
    | (refine imp fun hc => ?_) <;> try (first | contradiction | (exfalso; omega))
    | refine all fun v_ => ?_)
  all_goals clear fA_
  refine jrow (E := 27) (sz := 1) termC ?_
  refine J_loop (X := Nat × Sl) (fun y => [(0, .d (termsD a)), (3, .val y.2.v), (4, .int y.1)]) (fun y => [rowE y.2.v 27 1 termC (a.take y.1)]) (fun y => y.1 ≤ a.length) (fun y => a.length - y.1) (0, Sl.nil) (Nat.zero_le _) ?_ rfl ?_
  · repeat (first
      | exact Env.le_nil _
      | refine Env.le_cons (AV.le_refl _) ?_
      | refine Env.le_cons (AV.le_int rfl (by first | rfl | omega | (dsimp only; omega))) ?_)
  rintro ⟨i, v⟩ h1
  dsimp only at h1 ⊢
  have hlen : (a.take i).length = i := by rw [List.length_take]; omega
  all_goals haveI fA_ : FlagA := ⟨⟩
  repeat' (first
    | ((with_reducible apply call0); (focus rfl); (focus exact cal_ops); (focus exact opsU _ _); (focus rfl))
    | ((with_reducible apply je_call0); (focus rfl); (focus (decide +kernel)); (focus rfl); (focus exact cal_ops); (focus exact opsU _ _); (focus rfl))
    | exact True.intro
    | refine stp ?_
    | refine two ?_ ?_
    | (refine imp fun hc => ?_) <;> try (first | contradiction | (exfalso; omega))
    | refine all fun v_ => ?_)
  all_goals clear fA_
  · refine ⟨(i + 1, v_), by dsimp only; omega, by dsimp only; omega, ?_, ?_⟩
    · repeat (first
        | exact Env.le_nil _
        | refine Env.le_cons (AV.le_refl _) ?_
        | refine Env.le_cons (AV.le_int rfl (by first | rfl | omega | (dsimp only; omega))) ?_)
    · dsimp only
      rw [List.take_succ_eq_append_getElem (by omega)]
  · refine retv (vfreeze (t := 2) (eb := 24) rfl rfl (fun x => rfl) (by rw [hlen]; omega)) ?_
    ((with_reducible apply rq1); rfl; rfl)
    refine ret_eq ?_
    rw [List.take_of_length_le (by omega)]
theorem tasks (G : List (Nat × List D)) (t : Tk) : ACr Tryd.prog G 10 [tkA t] (tkA t) := by
  refine AC_ofR (rs := [.cell 2 29]) Tryd.f10.ntmps Tryd.func10 rfl rfl rfl (by simp [Tryd.ntmps10]) fun W I => ?_
  all_goals haveI fA_ : FlagA := ⟨⟩
  all_goals haveI fH_ : FlagH := ⟨⟩
  repeat' (first
    | ((with_reducible apply call0); (focus rfl); (focus exact cal_models); (focus exact models _ _); (focus rfl))
    | ((with_reducible apply je_call0); (focus rfl); (focus (decide +kernel)); (focus rfl); (focus exact cal_models); (focus exact models _ _); (focus rfl))
    | ((with_reducible apply call0); (focus rfl); (focus exact cal_terms); (focus exact terms _ _); (focus rfl))
    | ((with_reducible apply je_call0); (focus rfl); (focus (decide +kernel)); (focus rfl); (focus exact cal_terms); (focus exact terms _ _); (focus rfl))
    | ((with_reducible apply call0); (focus rfl); (focus exact cal_ops); (focus exact opsU _ _); (focus rfl))
    | ((with_reducible apply je_call0); (focus rfl); (focus (decide +kernel)); (focus rfl); (focus exact cal_ops); (focus exact opsU _ _); (focus rfl))
    | exact True.intro
    | refine stp ?_
    | refine two ?_ ?_
    | refine allc fun c_ => ?_
    | (refine imp fun hc => ?_) <;> try (first | contradiction | (exfalso; omega) | (exfalso; exact absurd (of_dT hc) (by assumption)) | (exfalso; exact of_dF hc (by assumption)))
    | refine all fun v_ => ?_)
  all_goals clear fA_ fH_
  exact retr0 (xs := [tkA t]) ⟨rv_agg rfl (by (with_reducible exact ElC.h)) rfl (by ((repeat (first | exact List.mem_cons_self | apply List.mem_cons_of_mem)); done)) rfl, trivial⟩ rfl (h' := []) (List.nil_sublist _) (ret_eq rfl)
theorem sameTask (G : List (Nat × List D)) (t : Tk) : ACr Tryd.prog G 13 [tkA t, tkA t] (.bool true) := by
  have e2 := ACr_true (sameTerms G t.props t.props) rfl
  have e3 := ACr_true (sameOps G t.formula t.formula) rfl
  refine AC_ofV (ts := [4]) Tryd.f13.ntmps Tryd.func13 rfl rfl rfl (by simp [Tryd.ntmps13]) fun W I => ?_
  all_goals haveI fA_ : FlagA := ⟨⟩
  all_goals haveI fH_ : FlagH := ⟨⟩
  repeat' (first
    | ((with_reducible apply call0); (focus rfl); (focus exact cal_sameModel); (focus exact sameModel _ _); (focus rfl))
    | ((with_reducible apply je_call0); (focus rfl); (focus (decide +kernel)); (focus rfl); (focus exact cal_sameModel); (focus exact sameModel _ _); (focus rfl))
    | ((with_reducible apply call0); (focus rfl); (focus exact cal_sameTerms); (focus exact e2); (focus rfl))
    | ((with_reducible apply je_call0); (focus rfl); (focus (decide +kernel)); (focus rfl); (focus exact cal_sameTerms); (focus exact e2); (focus rfl))
    | ((with_reducible apply call0); (focus rfl); (focus exact cal_sameOps); (focus exact e3); (focus rfl))
    | ((with_reducible apply je_call0); (focus rfl); (focus (decide +kernel)); (focus rfl); (focus exact cal_sameOps); (focus exact e3); (focus rfl))
    | exact True.intro
    | refine stp ?_
    | refine two ?_ ?_
    | refine allc fun c_ => ?_
    | (refine imp fun hc => ?_) <;> try (first | contradiction | (exfalso; omega) | (exfalso; exact absurd (of_dT hc) (by assumption)) | (exfalso; exact of_dF hc (by assumption)))
    | refine all fun v_ => ?_)
  all_goals clear fA_ fH_
  all_goals
    refine retv (VS.drop (List.nil_sublist _)) ?_
    ((with_reducible apply rq1); rfl; rfl)
    exact ret_eq rfl
theorem PCheck  (t : Tk) : ACr Tryd.prog GP 11 [tkA t] (.int (taskF t)) := by
  have hP := Props t.model t.props
  have hC := Check t.formula t.props.length
  unfold taskF
  generalize propsF t.model t.props = e1 at hP ⊢
  generalize formF t.formula t.props.length = e2 at hC ⊢
  refine AC_ofV (ts := [2]) Tryd.f11.ntmps Tryd.func11 rfl rfl rfl (by simp [Tryd.ntmps11]) fun W I => ?_
  by_cases h1 : e1 ≠ 0
  · all_goals haveI fA_ : FlagA := ⟨⟩
    all_goals haveI fH_ : FlagH := ⟨⟩
    repeat' (first
      | ((with_reducible apply call0); (focus rfl); (focus exact cal_Props); (focus exact hP); (focus rfl))
      | ((with_reducible apply je_call0); (focus rfl); (focus (decide +kernel)); (focus rfl); (focus exact cal_Props); (focus exact hP); (focus rfl))
      | ((with_reducible apply call0); (focus rfl); (focus exact cal_Check); (focus exact hC); (focus rfl))
      | ((with_reducible apply je_call0); (focus rfl); (focus (decide +kernel)); (focus rfl); (focus exact cal_Check); (focus exact hC); (focus rfl))
      | exact True.intro
      | refine stp ?_
      | refine two ?_ ?_
      | refine allc fun c_ => ?_
      | (refine imp fun hc => ?_) <;> try (first | contradiction | (exfalso; omega) | (exfalso; exact absurd (of_dT hc) (by assumption)) | (exfalso; exact of_dF hc (by assumption)))
      | refine all fun v_ => ?_)
    all_goals clear fA_ fH_
    refine retv (VS.drop (List.nil_sublist _)) ?_
    ((with_reducible apply rq1); rfl; rfl)
    exact ret_eq (by rw [if_pos h1])
  · all_goals haveI fA_ : FlagA := ⟨⟩
    all_goals haveI fH_ : FlagH := ⟨⟩
    repeat' (first
      | ((with_reducible apply call0); (focus rfl); (focus exact cal_Props); (focus exact hP); (focus rfl))
      | ((with_reducible apply je_call0); (focus rfl); (focus (decide +kernel)); (focus rfl); (focus exact cal_Props); (focus exact hP); (focus rfl))
      | ((with_reducible apply call0); (focus rfl); (focus exact cal_Check); (focus exact hC); (focus rfl))
      | ((with_reducible apply je_call0); (focus rfl); (focus (decide +kernel)); (focus rfl); (focus exact cal_Check); (focus exact hC); (focus rfl))
      | exact True.intro
      | refine stp ?_
      | refine two ?_ ?_
      | refine allc fun c_ => ?_
      | (refine imp fun hc => ?_) <;> try (first | contradiction | (exfalso; omega) | (exfalso; exact absurd (of_dT hc) (by assumption)) | (exfalso; exact of_dF hc (by assumption)))
      | refine all fun v_ => ?_)
    all_goals clear fA_ fH_
    refine retv (VS.drop (List.nil_sublist _)) ?_
    ((with_reducible apply rq1); rfl; rfl)
    exact ret_eq (by rw [if_neg h1])
theorem TaskFault (G : List (Nat × List D)) (t : Tk) : ACr Tryd.prog G 12 [tkA t] (.int (taskF t)) := by
  have hP := PropsFault G t.model t.props
  have hC := FormulaFault G t.formula t.props.length
  unfold taskF
  generalize propsF t.model t.props = e1 at hP ⊢
  generalize formF t.formula t.props.length = e2 at hC ⊢
  refine AC_ofV (ts := [2]) Tryd.f12.ntmps Tryd.func12 rfl rfl rfl (by simp [Tryd.ntmps12]) fun W I => ?_
  by_cases h1 : e1 ≠ 0
  · all_goals haveI fA_ : FlagA := ⟨⟩
    all_goals haveI fH_ : FlagH := ⟨⟩
    repeat' (first
      | ((with_reducible apply call0); (focus rfl); (focus exact cal_PropsFault); (focus exact hP); (focus rfl))
      | ((with_reducible apply je_call0); (focus rfl); (focus (decide +kernel)); (focus rfl); (focus exact cal_PropsFault); (focus exact hP); (focus rfl))
      | ((with_reducible apply call0); (focus rfl); (focus exact cal_FormulaFault); (focus exact hC); (focus rfl))
      | ((with_reducible apply je_call0); (focus rfl); (focus (decide +kernel)); (focus rfl); (focus exact cal_FormulaFault); (focus exact hC); (focus rfl))
      | exact True.intro
      | refine stp ?_
      | refine two ?_ ?_
      | refine allc fun c_ => ?_
      | (refine imp fun hc => ?_) <;> try (first | contradiction | (exfalso; omega) | (exfalso; exact absurd (of_dT hc) (by assumption)) | (exfalso; exact of_dF hc (by assumption)))
      | refine all fun v_ => ?_)
    all_goals clear fA_ fH_
    refine retv (VS.drop (List.nil_sublist _)) ?_
    ((with_reducible apply rq1); rfl; rfl)
    exact ret_eq (by rw [if_pos h1])
  · all_goals haveI fA_ : FlagA := ⟨⟩
    all_goals haveI fH_ : FlagH := ⟨⟩
    repeat' (first
      | ((with_reducible apply call0); (focus rfl); (focus exact cal_PropsFault); (focus exact hP); (focus rfl))
      | ((with_reducible apply je_call0); (focus rfl); (focus (decide +kernel)); (focus rfl); (focus exact cal_PropsFault); (focus exact hP); (focus rfl))
      | ((with_reducible apply call0); (focus rfl); (focus exact cal_FormulaFault); (focus exact hC); (focus rfl))
      | ((with_reducible apply je_call0); (focus rfl); (focus (decide +kernel)); (focus rfl); (focus exact cal_FormulaFault); (focus exact hC); (focus rfl))
      | exact True.intro
      | refine stp ?_
      | refine two ?_ ?_
      | refine allc fun c_ => ?_
      | (refine imp fun hc => ?_) <;> try (first | contradiction | (exfalso; omega) | (exfalso; exact absurd (of_dT hc) (by assumption)) | (exfalso; exact of_dF hc (by assumption)))
      | refine all fun v_ => ?_)
    all_goals clear fA_ fH_
    refine retv (VS.drop (List.nil_sublist _)) ?_
    ((with_reducible apply rq1); rfl; rfl)
    exact ret_eq (by rw [if_neg h1])
end Go.Proofs.YtmamiihpghnmmaaDoor
