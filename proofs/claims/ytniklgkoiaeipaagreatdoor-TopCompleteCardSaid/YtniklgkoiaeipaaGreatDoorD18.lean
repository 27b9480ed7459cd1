/- A bundle of this claim's own texts: M4 N2 M7. -/
import Derived.Test.YtniklgkoiaeipaaGreatDoorD8
import Derived.Test.YtniklgkoiaeipaaGreatDoorD10
import Derived.Test.YtniklgkoiaeipaaGreatDoorD13
import Derived.Test.YtniklgkoiaeipaaGreatDoorD14
import Derived.Test.YtniklgkoiaeipaaGreatDoorD17
set_option linter.unusedVariables false
set_option linter.unusedSimpArgs false
set_option maxRecDepth 100000
set_option maxHeartbeats 4000000
namespace Go.Proofs.YtniklgkoiaeipaaGreatDoor
open Go Go.Av Go.Sp

end Go.Proofs.YtniklgkoiaeipaaGreatDoor
namespace Go.Sp
open Go Go.Av
structure Tk where
 model : Md
 props : List (List Fo)
 formula : List Fo
abbrev tkA (t : Tk) : AV := .agg [.d (varsD t.model.vars), .d (rulesD t.model.rules), .d (termsD t.props), .d (opsD t.formula)]
noncomputable def taskF (t : Tk) : Int := if propsF t.model t.props ≠ 0 then propsF t.model t.props else formF t.formula t.props.length
end Go.Sp
namespace Go.Proofs.YtniklgkoiaeipaaGreatDoor
open Go Go.Av Go.Sp
theorem armXN2_4 {p q : Prop} (hp : p) (h : p → q := by
 apply cmp; (focus (first
  | ((with_reducible apply call0); (focus rfl); (focus exact cal_Props); (focus exact hP); (focus rfl))
  | ((with_reducible apply je_call0); (focus rfl); (focus (decide +kernel)); (focus rfl); (focus exact cal_Props); (focus exact hP); (focus rfl))
  | ((with_reducible apply call0); (focus rfl); (focus exact cal_Check); (focus exact hC); (focus rfl))
  | ((with_reducible apply je_call0); (focus rfl); (focus (decide +kernel)); (focus rfl); (focus exact cal_Check); (focus exact hC); (focus rfl))
  ))
 exact fun h => h) : q := h hp
theorem PCheck  (t : Tk) : ACr Tryz.prog GP 80 [tkA t] (.int (taskF t)) := by
 have hP := Props t.model t.props
 have hC := Check t.formula t.props.length
 unfold taskF
 generalize propsF t.model t.props = e1 at hP ⊢
 generalize formF t.formula t.props.length = e2 at hC ⊢
 refine AC_ofV (ts := [2]) Tryz.f80.ntmps Tryz.func80 rfl rfl rfl (by simp [Tryz.ntmps80]) fun W I => ?_
 by_cases h1 : e1 ≠ 0
 · repeat' (first
    | refine armXN2_4 ?_
    | exact True.intro | refine stpH ?_ | refine two ?_ ?_ | refine allc fun c_ => ?_
    | (refine imp fun hc => ?_) <;> try exact cx1 hc
    | refine all fun v_ => ?_)
   refine retv (VS.drop (List.nil_sublist _)) ?_
   ((with_reducible apply rq1); rfl; rfl)
   exact ret_eq (by rw [if_pos h1])
 · repeat' (first
    | refine armXN2_4 ?_
    | exact True.intro | refine stpH ?_ | refine two ?_ ?_ | refine allc fun c_ => ?_
    | (refine imp fun hc => ?_) <;> try exact cx1 hc
    | refine all fun v_ => ?_)
   refine retv (VS.drop (List.nil_sublist _)) ?_
   ((with_reducible apply rq1); rfl; rfl)
   exact ret_eq (by rw [if_neg h1])
end Go.Proofs.YtniklgkoiaeipaaGreatDoor
namespace Go.Sp
open Go Go.Av
def inits (m : Md) : List Int := m.vars.map Vr.init
end Go.Sp
namespace Go.Proofs.YtniklgkoiaeipaaGreatDoor
open Go Go.Av Go.Sp

theorem cal_First : Cal Tryz.prog 36 := Cal.of Tryz.func36 (by kernel_rfl) (by kernel_rfl)
theorem armXM7_1 {p q : Prop} (hp : p) (h : p → q := by
 apply cmp; (focus (first
  | ((with_reducible apply call0); (focus rfl); (focus exact cal_Code); (focus exact Code _ _); (focus rfl))
  | ((with_reducible apply je_call0); (focus rfl); (focus (decide +kernel)); (focus rfl); (focus exact cal_Code); (focus exact Code _ _); (focus rfl))
  ))
 exact fun h => h) : q := h hp
theorem First (m : Md) : ACr Tryz.prog GP 36 [mdA m] (.tup [.int (codeF m (inits m)).1, .int (codeF m (inits m)).2]) := by
 refine AC.factI (f := Vr.cells) (xs := m.vars) (.agg .here) fun hlv => ?_
 refine AC_ofV (ts := [2, 3]) Tryz.f36.ntmps Tryz.func36 rfl rfl rfl (by simp [Tryz.ntmps36]) fun W I => ?_
 have hin : (inits m).length = m.vars.length := by simp [inits]
 repeat' (first
  | exact True.intro | refine stpH ?_ | refine two ?_ ?_ | refine allc fun c_ => ?_
  | (refine imp fun hc => ?_) <;> try exact cx1 hc
  | refine all fun v_ => ?_)
 obtain ⟨bm, rfl⟩ : ∃ x, x = v_ := ⟨v_, rfl⟩
 refine jrow (E := 3) (sz := 1) intC ?_
 refine J_loopV (X := Nat × Sl) (fun y => [(1, .val (.pointer (some ⟨bm, 0, none⟩))), (4, .val y.2.v), (8, .d (varsD m.vars)), (9, .int m.vars.length), (10, .int y.1)]) (fun y => [rowE y.2.v 3 1 intC ((inits m).take y.1), .cells bm 25 [.d (varsD m.vars), .d (rulesD m.rules)]]) (fun y => y.1 ≤ m.vars.length) (fun y => m.vars.length - y.1) (0, Sl.nil) (Nat.zero_le _) (VS.of_le ?_) ?_
 · exact leD
 rintro ⟨i, q⟩ h1
 dsimp only at h1 ⊢
 have hlen : ((inits m).take i).length = i := by rw [List.length_take]; omega
 by_cases hi : i < m.vars.length
 · have et : (inits m).take i ++ [m.vars[i].init] = (inits m).take (i + 1) := by rw [List.take_succ_eq_append_getElem (by omega)]; simp [inits]
   repeat' (first
    | exact True.intro | refine stpH ?_ | refine two ?_ ?_ | refine allc fun c_ => ?_
    | (refine imp fun hc => ?_) <;> try exact cx1 hc
    | refine all fun v_ => ?_)
   refine ⟨(i + 1, v_), by dsimp only; omega, by dsimp only; omega, ?_⟩
   dsimp only
   rw [← et]
   refine VS.take (by exact takedD) ?_
   exact leD
 obtain rfl : i = m.vars.length := by omega
 rw [List.take_of_length_le (by omega)]
 refine J_vs (vdat (h1 := []) (h' := [.cells bm 25 [.d (varsD m.vars), .d (rulesD m.rules)]]) 8 rfl rfl (fun _ => rfl) (by omega) (CvE.cons (t := 4) rfl .here (CvE.refl _ _ _)) (CvH.refl _)) ?_
 repeat' (first
  | refine armXM7_1 ?_
  | exact True.intro | refine stpH ?_ | refine two ?_ ?_ | refine allc fun c_ => ?_
  | (refine imp fun hc => ?_) <;> try exact cx1 hc
  | refine all fun v_ => ?_)
 refine retv (VS.drop (List.nil_sublist _)) ?_
 ((with_reducible apply rq2); rfl; rfl; rfl)
 exact ret_eq rfl
end Go.Proofs.YtniklgkoiaeipaaGreatDoor
