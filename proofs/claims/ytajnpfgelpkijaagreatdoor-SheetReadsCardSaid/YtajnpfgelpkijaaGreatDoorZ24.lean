/- A bundle of this claim's own texts: T7 N2. -/
import Derived.Test.YtajnpfgelpkijaaGreatDoorZ2
import Derived.Test.YtajnpfgelpkijaaGreatDoorZ3
import Derived.Test.YtajnpfgelpkijaaGreatDoorZ4
import Derived.Test.YtajnpfgelpkijaaGreatDoorZ7
import Derived.Test.YtajnpfgelpkijaaGreatDoorZ10
import Derived.Test.YtajnpfgelpkijaaGreatDoorZ23
set_option linter.unusedVariables false
set_option linter.unusedSimpArgs false
set_option maxRecDepth 100000
set_option maxHeartbeats 4000000
namespace Go.Proofs.YtajnpfgelpkijaaGreatDoor
open Go Go.Av Go.Sp

theorem cal_sameTask : Cal Tryz.prog 7 := Cal.of Tryz.func7 (by kernel_rfl) (by kernel_rfl)
theorem cal_PCheck : Cal Tryz.prog 27 := Cal.of Tryz.func27 (by kernel_rfl) (by kernel_rfl)
theorem cal_TaskFault : Cal Tryz.prog 20 := Cal.of Tryz.func20 (by kernel_rfl) (by kernel_rfl)
theorem sameTask (G : List (Nat × List D)) (t : Tk) : ACr Tryz.prog G 7 [tkA t, tkA t] (.bool true) := by
 have e2 := ACr_true (sameTerms G t.props t.props) rfl
 have e3 := ACr_true (sameOps G t.formula t.formula) rfl
 refine AC_ofV (ts := [4]) Tryz.f7.ntmps Tryz.func7 rfl rfl rfl (by simp [Tryz.ntmps7]) fun W I => ?_
 repeat' (first
  | refine ca cal_sameModel (sameModel _ _) ?_
  | refine ca cal_sameTerms (e2) ?_
  | refine ca cal_sameOps (e3) ?_
  | exact True.intro | refine stpH ?_ | refine two ?_ ?_ | refine allc fun c_ => ?_
  | (refine imp fun hc => ?_) <;> try exact cx1 hc
  | refine all fun v_ => ?_)
 all_goals
  refine retv (VS.drop (List.nil_sublist _)) ?_
  ((with_reducible apply rq1); rfl; rfl)
  exact ret_eq rfl
theorem PCheck  (t : Tk) : ACr Tryz.prog GP 27 [tkA t] (.int (taskF t)) := by
 have hP := Props t.model t.props
 have hC := Check t.formula t.props.length
 unfold taskF
 generalize propsF t.model t.props = e1 at hP ⊢
 generalize formF t.formula t.props.length = e2 at hC ⊢
 refine AC_ofV (ts := [2]) Tryz.f27.ntmps Tryz.func27 rfl rfl rfl (by simp [Tryz.ntmps27]) fun W I => ?_
 by_cases h1 : e1 ≠ 0
 · repeat' (first
    | refine ca cal_Props (hP) ?_
    | refine ca cal_Check (hC) ?_
    | exact True.intro | refine stpH ?_ | refine two ?_ ?_ | refine allc fun c_ => ?_
    | (refine imp fun hc => ?_) <;> try exact cx1 hc
    | refine all fun v_ => ?_)
   refine retv (VS.drop (List.nil_sublist _)) ?_
   ((with_reducible apply rq1); rfl; rfl)
   exact ret_eq (by rw [if_pos h1])
 · repeat' (first
    | refine ca cal_Props (hP) ?_
    | refine ca cal_Check (hC) ?_
    | exact True.intro | refine stpH ?_ | refine two ?_ ?_ | refine allc fun c_ => ?_
    | (refine imp fun hc => ?_) <;> try exact cx1 hc
    | refine all fun v_ => ?_)
   refine retv (VS.drop (List.nil_sublist _)) ?_
   ((with_reducible apply rq1); rfl; rfl)
   exact ret_eq (by rw [if_neg h1])
theorem TaskFault (G : List (Nat × List D)) (t : Tk) : ACr Tryz.prog G 20 [tkA t] (.int (taskF t)) := by
 have hP := PropsFault G t.model t.props
 have hC := FormulaFault G t.formula t.props.length
 unfold taskF
 generalize propsF t.model t.props = e1 at hP ⊢
 generalize formF t.formula t.props.length = e2 at hC ⊢
 refine AC_ofV (ts := [2]) Tryz.f20.ntmps Tryz.func20 rfl rfl rfl (by simp [Tryz.ntmps20]) fun W I => ?_
 by_cases h1 : e1 ≠ 0
 · repeat' (first
    | refine ca cal_PropsFault (hP) ?_
    | refine ca cal_FormulaFault (hC) ?_
    | exact True.intro | refine stpH ?_ | refine two ?_ ?_ | refine allc fun c_ => ?_
    | (refine imp fun hc => ?_) <;> try exact cx1 hc
    | refine all fun v_ => ?_)
   refine retv (VS.drop (List.nil_sublist _)) ?_
   ((with_reducible apply rq1); rfl; rfl)
   exact ret_eq (by rw [if_pos h1])
 · repeat' (first
    | refine ca cal_PropsFault (hP) ?_
    | refine ca cal_FormulaFault (hC) ?_
    | exact True.intro | refine stpH ?_ | refine two ?_ ?_ | refine allc fun c_ => ?_
    | (refine imp fun hc => ?_) <;> try exact cx1 hc
    | refine all fun v_ => ?_)
   refine retv (VS.drop (List.nil_sublist _)) ?_
   ((with_reducible apply rq1); rfl; rfl)
   exact ret_eq (by rw [if_neg h1])
end Go.Proofs.YtajnpfgelpkijaaGreatDoor
