/- A bundle of this claim's own texts: M5. -/
import Derived.Test.YtajnpfgelpkijaaGreatDoorZ9
import Derived.Test.YtajnpfgelpkijaaGreatDoorZ10
set_option linter.unusedVariables false
set_option linter.unusedSimpArgs false
set_option maxRecDepth 100000
set_option maxHeartbeats 4000000
namespace Go.Proofs.YtajnpfgelpkijaaGreatDoor
open Go Go.Av Go.Sp

theorem cal_Props : Cal Tryz.prog 52 := Cal.of Tryz.func52 (by kernel_rfl) (by kernel_rfl)
theorem cal_PropsFault : Cal Tryz.prog 45 := Cal.of Tryz.func45 (by kernel_rfl) (by kernel_rfl)
theorem Props (m : Md) (l : List (List Fo)) : ACr Tryz.prog GP 52 [mdA m, .d (termsD l)] (.int (propsF m l)) := by
 refine AC_ofV (ts := [4]) Tryz.f52.ntmps Tryz.func52 rfl rfl rfl (by simp [Tryz.ntmps52]) fun W I => ?_
 by_cases c1 : modelF m ≠ 0
 · repeat' (first
    | refine ca cal_MdCheck (MdCheck _) ?_
    | refine ca cal_kind (kind _ _ _) ?_
    | exact True.intro | refine stpH ?_ | refine two ?_ ?_ | refine allc fun c_ => ?_
    | (refine imp fun hc => ?_) <;> try exact cx1 hc
    | refine all fun v_ => ?_)
   refine retv (VS.drop (List.nil_sublist _)) ?_
   ((with_reducible apply rq1); rfl; rfl)
   exact ret_eq (by rw [propsF, if_pos c1])
 by_cases c2 : 6 < l.length
 · repeat' (first
    | refine ca cal_MdCheck (MdCheck _) ?_
    | refine ca cal_kind (kind _ _ _) ?_
    | exact True.intro | refine stpH ?_ | refine two ?_ ?_ | refine allc fun c_ => ?_
    | (refine imp fun hc => ?_) <;> try exact cx1 hc
    | refine all fun v_ => ?_)
   refine retv (VS.drop (List.nil_sublist _)) ?_
   ((with_reducible apply rq1); rfl; rfl)
   exact ret_eq (by rw [propsF, if_neg c1, if_pos c2])
 have hF : propsF m l = propsE m.vars.length l := by rw [propsF, if_neg c1, if_neg c2]
 repeat' (first
  | refine ca cal_MdCheck (MdCheck _) ?_
  | refine ca cal_kind (kind _ _ _) ?_
  | exact True.intro | refine stpH ?_ | refine two ?_ ?_ | refine allc fun c_ => ?_
  | (refine imp fun hc => ?_) <;> try exact cx1 hc
  | refine all fun v_ => ?_)
 refine J_loopV (X := Nat) (fun i => [(2, .val (.pointer (some ⟨v_, 0, none⟩))), (17, .d (termsD l)), (18, .int l.length), (19, .int i)]) (fun _ => [.cells v_ 25 [.d (varsD m.vars), .d (rulesD m.rules)]]) (fun i => i ≤ l.length ∧ propsF m l = propsE m.vars.length (l.drop i)) (fun i => l.length - i) 0 ⟨Nat.zero_le _, hF⟩ (VS.of_le ?_) ?_
 · exact leD
 rintro i ⟨h1, h4⟩
 by_cases hi : ¬ i < l.length
 · rw [propsE_end _ _ i (by omega)] at h4
   repeat' (first
    | refine ca cal_MdCheck (MdCheck _) ?_
    | refine ca cal_kind (kind _ _ _) ?_
    | exact True.intro | refine stpH ?_ | refine two ?_ ?_ | refine allc fun c_ => ?_
    | (refine imp fun hc => ?_) <;> try exact cx1 hc
    | refine all fun v_ => ?_)
   refine retv (VS.drop (List.nil_sublist _)) ?_
   ((with_reducible apply rq1); rfl; rfl)
   exact ret_eq (by rw [h4])
 replace hi := Decidable.not_not.1 hi
 rw [propsE_at _ _ i hi] at h4
 by_cases c3 : kindF l[i] m.vars.length true ≠ 0
 · rw [if_pos c3] at h4
   repeat' (first
    | refine ca cal_MdCheck (MdCheck _) ?_
    | refine ca cal_kind (kind _ _ _) ?_
    | exact True.intro | refine stpH ?_ | refine two ?_ ?_ | refine allc fun c_ => ?_
    | (refine imp fun hc => ?_) <;> try exact cx1 hc
    | refine all fun v_ => ?_)
   refine retv (VS.drop (List.nil_sublist _)) ?_
   ((with_reducible apply rq1); rfl; rfl)
   exact ret_eq (by rw [h4])
 rw [if_neg c3] at h4
 repeat' (first
  | refine ca cal_MdCheck (MdCheck _) ?_
  | refine ca cal_kind (kind _ _ _) ?_
  | exact True.intro | refine stpH ?_ | refine two ?_ ?_ | refine allc fun c_ => ?_
  | (refine imp fun hc => ?_) <;> try exact cx1 hc
  | refine all fun v_ => ?_)
 refine ⟨i + 1, ⟨by omega, h4⟩, by omega, VS.take (by exact takeD) ?_⟩
 exact leD
theorem PropsFault (G : List (Nat × List D)) (m : Md) (l : List (List Fo)) : ACr Tryz.prog G 45 [mdA m, .d (termsD l)] (.int (propsF m l)) := by
 refine AC.factI (f := termC) (xs := l) (.there .here) fun hlt => ?_
 refine AC_ofV (ts := [4]) Tryz.f45.ntmps Tryz.func45 rfl rfl rfl (by simp [Tryz.ntmps45]) fun W I => ?_
 by_cases c1 : modelF m ≠ 0
 · repeat' (first
    | refine ca cal_ModelFault (ModelFault _ _) ?_
    | refine ca cal_kindFault (kindFault _ _ _ _) ?_
    | exact True.intro | refine stpH ?_ | refine two ?_ ?_ | refine allc fun c_ => ?_
    | (refine imp fun hc => ?_) <;> try exact cx1 hc
    | refine all fun v_ => ?_)
   refine J_loopV (X := Nat × Int) (fun y => [(1, .d (termsD l)), (2, .val (.pointer (some ⟨v_, 0, none⟩))), (5, .int y.2), (6, .int y.1)]) (fun _ => [.cells v_ 25 [.d (varsD m.vars), .d (rulesD m.rules)]]) (fun y => y.1 ≤ l.length ∧ propsF m l = (if y.2 ≠ 0 then y.2 else propsE m.vars.length (l.drop y.1))) (fun y => l.length - y.1) (0, modelF m) ⟨Nat.zero_le _, by rw [if_pos c1, propsF, if_pos c1]⟩ (VS.of_le ?_) ?_
   · exact leD
   rintro ⟨i, e⟩ ⟨h1, h4⟩
   dsimp only at h1 h4 ⊢
   by_cases he : e ≠ 0
   · rw [if_pos he] at h4
     repeat' (first
      | refine ca cal_ModelFault (ModelFault _ _) ?_
      | refine ca cal_kindFault (kindFault _ _ _ _) ?_
      | exact True.intro | refine stpH ?_ | refine two ?_ ?_ | refine allc fun c_ => ?_
      | (refine imp fun hc => ?_) <;> try exact cx1 hc
      | refine all fun v_ => ?_)
     all_goals
      refine retv (VS.drop (List.nil_sublist _)) ?_
      ((with_reducible apply rq1); rfl; rfl)
      exact ret_eq (by rw [h4])
   rw [if_neg he] at h4
   obtain rfl : e = 0 := Decidable.not_not.1 he
   by_cases hi : ¬ i < l.length
   · rw [propsE_end _ _ i (by omega)] at h4
     repeat' (first
      | refine ca cal_ModelFault (ModelFault _ _) ?_
      | refine ca cal_kindFault (kindFault _ _ _ _) ?_
      | exact True.intro | refine stpH ?_ | refine two ?_ ?_ | refine allc fun c_ => ?_
      | (refine imp fun hc => ?_) <;> try exact cx1 hc
      | refine all fun v_ => ?_)
     refine retv (VS.drop (List.nil_sublist _)) ?_
     ((with_reducible apply rq1); rfl; rfl)
     exact ret_eq (by rw [h4])
   replace hi := Decidable.not_not.1 hi
   rw [propsE_at _ _ i hi] at h4
   repeat' (first
    | refine ca cal_ModelFault (ModelFault _ _) ?_
    | refine ca cal_kindFault (kindFault _ _ _ _) ?_
    | exact True.intro | refine stpH ?_ | refine two ?_ ?_ | refine allc fun c_ => ?_
    | (refine imp fun hc => ?_) <;> try exact cx1 hc
    | refine all fun v_ => ?_)
   refine ⟨(i + 1, kindF l[i] m.vars.length true), ⟨by dsimp only; omega, h4⟩, by dsimp only; omega, VS.take (by exact takedD) ?_⟩
   exact leD
 by_cases c2 : 6 < l.length
 · repeat' (first
    | refine ca cal_ModelFault (ModelFault _ _) ?_
    | refine ca cal_kindFault (kindFault _ _ _ _) ?_
    | exact True.intro | refine stpH ?_ | refine two ?_ ?_ | refine allc fun c_ => ?_
    | (refine imp fun hc => ?_) <;> try exact cx1 hc
    | refine all fun v_ => ?_)
   refine J_loopV (X := Nat × Int) (fun y => [(1, .d (termsD l)), (2, .val (.pointer (some ⟨v_, 0, none⟩))), (5, .int y.2), (6, .int y.1)]) (fun _ => [.cells v_ 25 [.d (varsD m.vars), .d (rulesD m.rules)]]) (fun y => y.1 ≤ l.length ∧ propsF m l = (if y.2 ≠ 0 then y.2 else propsE m.vars.length (l.drop y.1))) (fun y => l.length - y.1) (0, 1) ⟨Nat.zero_le _, by rw [if_pos (by decide), propsF, if_neg c1, if_pos c2]⟩ (VS.of_le ?_) ?_
   · exact leD
   rintro ⟨i, e⟩ ⟨h1, h4⟩
   dsimp only at h1 h4 ⊢
   by_cases he : e ≠ 0
   · rw [if_pos he] at h4
     repeat' (first
      | refine ca cal_ModelFault (ModelFault _ _) ?_
      | refine ca cal_kindFault (kindFault _ _ _ _) ?_
      | exact True.intro | refine stpH ?_ | refine two ?_ ?_ | refine allc fun c_ => ?_
      | (refine imp fun hc => ?_) <;> try exact cx1 hc
      | refine all fun v_ => ?_)
     all_goals
      refine retv (VS.drop (List.nil_sublist _)) ?_
      ((with_reducible apply rq1); rfl; rfl)
      exact ret_eq (by rw [h4])
   rw [if_neg he] at h4
   obtain rfl : e = 0 := Decidable.not_not.1 he
   by_cases hi : ¬ i < l.length
   · rw [propsE_end _ _ i (by omega)] at h4
     repeat' (first
      | refine ca cal_ModelFault (ModelFault _ _) ?_
      | refine ca cal_kindFault (kindFault _ _ _ _) ?_
      | exact True.intro | refine stpH ?_ | refine two ?_ ?_ | refine allc fun c_ => ?_
      | (refine imp fun hc => ?_) <;> try exact cx1 hc
      | refine all fun v_ => ?_)
     refine retv (VS.drop (List.nil_sublist _)) ?_
     ((with_reducible apply rq1); rfl; rfl)
     exact ret_eq (by rw [h4])
   replace hi := Decidable.not_not.1 hi
   rw [propsE_at _ _ i hi] at h4
   repeat' (first
    | refine ca cal_ModelFault (ModelFault _ _) ?_
    | refine ca cal_kindFault (kindFault _ _ _ _) ?_
    | exact True.intro | refine stpH ?_ | refine two ?_ ?_ | refine allc fun c_ => ?_
    | (refine imp fun hc => ?_) <;> try exact cx1 hc
    | refine all fun v_ => ?_)
   refine ⟨(i + 1, kindF l[i] m.vars.length true), ⟨by dsimp only; omega, h4⟩, by dsimp only; omega, VS.take (by exact takedD) ?_⟩
   exact leD
 repeat' (first
  | refine ca cal_ModelFault (ModelFault _ _) ?_
  | refine ca cal_kindFault (kindFault _ _ _ _) ?_
  | exact True.intro | refine stpH ?_ | refine two ?_ ?_ | refine allc fun c_ => ?_
  | (refine imp fun hc => ?_) <;> try exact cx1 hc
  | refine all fun v_ => ?_)
 refine J_loopV (X := Nat × Int) (fun y => [(1, .d (termsD l)), (2, .val (.pointer (some ⟨v_, 0, none⟩))), (5, .int y.2), (6, .int y.1)]) (fun _ => [.cells v_ 25 [.d (varsD m.vars), .d (rulesD m.rules)]]) (fun y => y.1 ≤ l.length ∧ propsF m l = (if y.2 ≠ 0 then y.2 else propsE m.vars.length (l.drop y.1))) (fun y => l.length - y.1) (0, 0) ⟨Nat.zero_le _, by rw [if_neg (by decide), propsF, if_neg c1, if_neg c2]; rfl⟩ (VS.of_le ?_) ?_
 · exact leD
 rintro ⟨i, e⟩ ⟨h1, h4⟩
 dsimp only at h1 h4 ⊢
 by_cases he : e ≠ 0
 · rw [if_pos he] at h4
   repeat' (first
    | refine ca cal_ModelFault (ModelFault _ _) ?_
    | refine ca cal_kindFault (kindFault _ _ _ _) ?_
    | exact True.intro | refine stpH ?_ | refine two ?_ ?_ | refine allc fun c_ => ?_
    | (refine imp fun hc => ?_) <;> try exact cx1 hc
    | refine all fun v_ => ?_)
   all_goals
    refine retv (VS.drop (List.nil_sublist _)) ?_
    ((with_reducible apply rq1); rfl; rfl)
    exact ret_eq (by rw [h4])
 rw [if_neg he] at h4
 obtain rfl : e = 0 := Decidable.not_not.1 he
 by_cases hi : ¬ i < l.length
 · rw [propsE_end _ _ i (by omega)] at h4
   repeat' (first
    | refine ca cal_ModelFault (ModelFault _ _) ?_
    | refine ca cal_kindFault (kindFault _ _ _ _) ?_
    | exact True.intro | refine stpH ?_ | refine two ?_ ?_ | refine allc fun c_ => ?_
    | (refine imp fun hc => ?_) <;> try exact cx1 hc
    | refine all fun v_ => ?_)
   refine retv (VS.drop (List.nil_sublist _)) ?_
   ((with_reducible apply rq1); rfl; rfl)
   exact ret_eq (by rw [h4])
 replace hi := Decidable.not_not.1 hi
 rw [propsE_at _ _ i hi] at h4
 repeat' (first
  | refine ca cal_ModelFault (ModelFault _ _) ?_
  | refine ca cal_kindFault (kindFault _ _ _ _) ?_
  | exact True.intro | refine stpH ?_ | refine two ?_ ?_ | refine allc fun c_ => ?_
  | (refine imp fun hc => ?_) <;> try exact cx1 hc
  | refine all fun v_ => ?_)
 refine ⟨(i + 1, kindF l[i] m.vars.length true), ⟨by dsimp only; omega, h4⟩, by dsimp only; omega, VS.take (by exact takedD) ?_⟩
 exact leD
end Go.Proofs.YtajnpfgelpkijaaGreatDoor
