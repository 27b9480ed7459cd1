/- Contracts: model.Props, Count; foretellref.PropsFault, behindVar, StateCount. -/
import Derived.Test.YtmamiihpghnmmaaDoorM3
import Derived.Test.YtmamiihpghnmmaaDoorG4
namespace Go.Proofs.YtmamiihpghnmmaaDoor
open Go Go.Av Go.Sp
set_option linter.unusedVariables false
set_option linter.unusedSimpArgs false
set_option maxRecDepth 100000
set_option maxHeartbeats 4000000

theorem cal_Props : Cal Tryd.prog 34 := Cal.of Tryd.func34 (by kernel_rfl) (by kernel_rfl)
theorem cal_PropsFault : Cal Tryd.prog 36 := Cal.of Tryd.func36 (by kernel_rfl) (by kernel_rfl)
theorem cal_Count : Cal Tryd.prog 57 := Cal.of Tryd.func57 (by kernel_rfl) (by kernel_rfl)
theorem cal_behindVar : Cal Tryd.prog 73 := Cal.of Tryd.func73 (by kernel_rfl) (by kernel_rfl)
theorem cal_StateCount : Cal Tryd.prog 55 := Cal.of Tryd.func55 (by kernel_rfl) (by kernel_rfl)
theorem Props (m : Md) (l : List (List Fo)) : ACr Tryd.prog GP 34 [mdA m, .d (termsD l)] (.int (propsF m l)) := by
  refine AC_ofV (ts := [4]) Tryd.f34.ntmps Tryd.func34 rfl rfl rfl (by simp [Tryd.ntmps34]) fun W I => ?_
  by_cases c1 : modelF m ≠ 0
  · all_goals haveI fA_ : FlagA := ⟨⟩
    all_goals haveI fH_ : FlagH := ⟨⟩
    repeat' (first
      | ((with_reducible apply call0); (focus rfl); (focus exact cal_MdCheck); (focus exact MdCheck _); (focus rfl))
      | ((with_reducible apply je_call0); (focus rfl); (focus (decide +kernel)); (focus rfl); (focus exact cal_MdCheck); (focus exact MdCheck _); (focus rfl))
      | ((with_reducible apply call0); (focus rfl); (focus exact cal_kind); (focus exact kind _ _ _); (focus rfl))
      | ((with_reducible apply je_call0); (focus rfl); (focus (decide +kernel)); (focus rfl); (focus exact cal_kind); (focus exact kind _ _ _); (focus rfl))
      | exact True.intro
      | refine stp ?_
      | refine two ?_ ?_
      | refine allc fun c_ => ?_
      | (refine imp fun hc => ?_) <;> try (first | contradiction | (exfalso; omega) | (exfalso; exact absurd (of_dT hc) (by assumption)) | (exfalso; exact of_dF hc (by assumption)))
      | refine all fun v_ => ?_)
    all_goals clear fA_ fH_
    refine retv (VS.drop (List.nil_sublist _)) ?_
    ((with_reducible apply rq1); rfl; rfl)
    exact ret_eq (by rw [propsF, if_pos c1])
  by_cases c2 : 6 < l.length
  · all_goals haveI fA_ : FlagA := ⟨⟩
    all_goals haveI fH_ : FlagH := ⟨⟩
    repeat' (first
      | ((with_reducible apply call0); (focus rfl); (focus exact cal_MdCheck); (focus exact MdCheck _); (focus rfl))
      | ((with_reducible apply je_call0); (focus rfl); (focus (decide +kernel)); (focus rfl); (focus exact cal_MdCheck); (focus exact MdCheck _); (focus rfl))
      | ((with_reducible apply call0); (focus rfl); (focus exact cal_kind); (focus exact kind _ _ _); (focus rfl))
      | ((with_reducible apply je_call0); (focus rfl); (focus (decide +kernel)); (focus rfl); (focus exact cal_kind); (focus exact kind _ _ _); (focus rfl))
      | exact True.intro
      | refine stp ?_
      | refine two ?_ ?_
      | refine allc fun c_ => ?_
      | (refine imp fun hc => ?_) <;> try (first | contradiction | (exfalso; omega) | (exfalso; exact absurd (of_dT hc) (by assumption)) | (exfalso; exact of_dF hc (by assumption)))
      | refine all fun v_ => ?_)
    all_goals clear fA_ fH_
    refine retv (VS.drop (List.nil_sublist _)) ?_
    ((with_reducible apply rq1); rfl; rfl)
    exact ret_eq (by rw [propsF, if_neg c1, if_pos c2])
  have hF : propsF m l = propsE m.vars.length l := by rw [propsF, if_neg c1, if_neg c2]
  all_goals haveI fA_ : FlagA := ⟨⟩
  all_goals haveI fH_ : FlagH := ⟨⟩
  repeat' (first
    | ((with_reducible apply call0); (focus rfl); (focus exact cal_MdCheck); (focus exact MdCheck _); (focus rfl))
    | ((with_reducible apply je_call0); (focus rfl); (focus (decide +kernel)); (focus rfl); (focus exact cal_MdCheck); (focus exact MdCheck _); (focus rfl))
    | ((with_reducible apply call0); (focus rfl); (focus exact cal_kind); (focus exact kind _ _ _); (focus rfl))
    | ((with_reducible apply je_call0); (focus rfl); (focus (decide +kernel)); (focus rfl); (focus exact cal_kind); (focus exact kind _ _ _); (focus rfl))
    | exact True.intro
    | refine stp ?_
    | refine two ?_ ?_
    | refine allc fun c_ => ?_
    | (refine imp fun hc => ?_) <;> try (first | contradiction | (exfalso; omega) | (exfalso; exact absurd (of_dT hc) (by assumption)) | (exfalso; exact of_dF hc (by assumption)))
    | refine all fun v_ => ?_)
  all_goals clear fA_ fH_
  refine J_loopV (X := Nat) (fun i => [(2, .val (.pointer (some ⟨v_, 0, none⟩))), (17, .d (termsD l)), (18, .int l.length), (19, .int i)]) (fun _ => [.cells v_ 25 [.d (varsD m.vars), .d (rulesD m.rules)]]) (fun i => i ≤ l.length ∧ propsF m l = propsE m.vars.length (l.drop i)) (fun i => l.length - i) 0 ⟨Nat.zero_le _, hF⟩ (VS.of_le ?_) ?_
  · repeat (first
      | exact Env.le_nil _
      | refine Env.le_cons (AV.le_refl _) ?_
      | refine Env.le_cons (AV.le_int rfl (by first | rfl | omega | (dsimp only; omega))) ?_)
  rintro i ⟨h1, h4⟩
  by_cases hi : ¬ i < l.length
  · rw [propsE_end _ _ i (by omega)] at h4
    all_goals haveI fA_ : FlagA := ⟨⟩
    all_goals haveI fH_ : FlagH := ⟨⟩
    repeat' (first
      | ((with_reducible apply call0); (focus rfl); (focus exact cal_MdCheck); (focus exact MdCheck _); (focus rfl))
      | ((with_reducible apply je_call0); (focus rfl); (focus (decide +kernel)); (focus rfl); (focus exact cal_MdCheck); (focus exact MdCheck _); (focus rfl))
      | ((with_reducible apply call0); (focus rfl); (focus exact cal_kind); (focus exact kind _ _ _); (focus rfl))
      | ((with_reducible apply je_call0); (focus rfl); (focus (decide +kernel)); (focus rfl); (focus exact cal_kind); (focus exact kind _ _ _); (focus rfl))
      | exact True.intro
      | refine stp ?_
      | refine two ?_ ?_
      | refine allc fun c_ => ?_
      | (refine imp fun hc => ?_) <;> try (first | contradiction | (exfalso; omega) | (exfalso; exact absurd (of_dT hc) (by assumption)) | (exfalso; exact of_dF hc (by assumption)))
      | refine all fun v_ => ?_)
    all_goals clear fA_ fH_
    refine retv (VS.drop (List.nil_sublist _)) ?_
    ((with_reducible apply rq1); rfl; rfl)
    exact ret_eq (by rw [h4])
  replace hi := Decidable.not_not.1 hi
  rw [propsE_at _ _ i hi] at h4
  by_cases c3 : kindF l[i] m.vars.length true ≠ 0
  · rw [if_pos c3] at h4
    all_goals haveI fA_ : FlagA := ⟨⟩
    all_goals haveI fH_ : FlagH := ⟨⟩
    repeat' (first
      | ((with_reducible apply call0); (focus rfl); (focus exact cal_MdCheck); (focus exact MdCheck _); (focus rfl))
      | ((with_reducible apply je_call0); (focus rfl); (focus (decide +kernel)); (focus rfl); (focus exact cal_MdCheck); (focus exact MdCheck _); (focus rfl))
      | ((with_reducible apply call0); (focus rfl); (focus exact cal_kind); (focus exact kind _ _ _); (focus rfl))
      | ((with_reducible apply je_call0); (focus rfl); (focus (decide +kernel)); (focus rfl); (focus exact cal_kind); (focus exact kind _ _ _); (focus rfl))
      | exact True.intro
      | refine stp ?_
      | refine two ?_ ?_
      | refine allc fun c_ => ?_
      | (refine imp fun hc => ?_) <;> try (first | contradiction | (exfalso; omega) | (exfalso; exact absurd (of_dT hc) (by assumption)) | (exfalso; exact of_dF hc (by assumption)))
      | refine all fun v_ => ?_)
    all_goals clear fA_ fH_
    refine retv (VS.drop (List.nil_sublist _)) ?_
    ((with_reducible apply rq1); rfl; rfl)
    exact ret_eq (by rw [h4])
  rw [if_neg c3] at h4
  all_goals haveI fA_ : FlagA := ⟨⟩
  all_goals haveI fH_ : FlagH := ⟨⟩
  repeat' (first
    | ((with_reducible apply call0); (focus rfl); (focus exact cal_MdCheck); (focus exact MdCheck _); (focus rfl))
    | ((with_reducible apply je_call0); (focus rfl); (focus (decide +kernel)); (focus rfl); (focus exact cal_MdCheck); (focus exact MdCheck _); (focus rfl))
    | ((with_reducible apply call0); (focus rfl); (focus exact cal_kind); (focus exact kind _ _ _); (focus rfl))
    | ((with_reducible apply je_call0); (focus rfl); (focus (decide +kernel)); (focus rfl); (focus exact cal_kind); (focus exact kind _ _ _); (focus rfl))
    | exact True.intro
    | refine stp ?_
    | refine two ?_ ?_
    | refine allc fun c_ => ?_
    | (refine imp fun hc => ?_) <;> try (first | contradiction | (exfalso; omega) | (exfalso; exact absurd (of_dT hc) (by assumption)) | (exfalso; exact of_dF hc (by assumption)))
    | refine all fun v_ => ?_)
  all_goals clear fA_ fH_
  refine ⟨i + 1, ⟨by omega, h4⟩, by omega, VS.take (by ((repeat (first | with_reducible exact Take.nil | ((with_reducible apply Take.cons); (focus ((repeat (first | with_reducible exact Sel.here | with_reducible apply Sel.there)); done))))); done)) ?_⟩
  repeat (first
    | exact Env.le_nil _
    | refine Env.le_cons (AV.le_refl _) ?_
    | refine Env.le_cons (AV.le_int rfl (by first | rfl | omega | (dsimp only; omega))) ?_)
theorem PropsFault (G : List (Nat × List D)) (m : Md) (l : List (List Fo)) : ACr Tryd.prog G 36 [mdA m, .d (termsD l)] (.int (propsF m l)) := by
  refine AC.factI (f := termC) (xs := l) (.there .here) fun hlt => ?_
  refine AC_ofV (ts := [4]) Tryd.f36.ntmps Tryd.func36 rfl rfl rfl (by simp [Tryd.ntmps36]) fun W I => ?_
  by_cases c1 : modelF m ≠ 0
  · all_goals haveI fA_ : FlagA := ⟨⟩
    all_goals haveI fH_ : FlagH := ⟨⟩
    repeat' (first
      | ((with_reducible apply call0); (focus rfl); (focus exact cal_ModelFault); (focus exact ModelFault _ _); (focus rfl))
      | ((with_reducible apply je_call0); (focus rfl); (focus (decide +kernel)); (focus rfl); (focus exact cal_ModelFault); (focus exact ModelFault _ _); (focus rfl))
      | ((with_reducible apply call0); (focus rfl); (focus exact cal_kindFault); (focus exact kindFault _ _ _ _); (focus rfl))
      | ((with_reducible apply je_call0); (focus rfl); (focus (decide +kernel)); (focus rfl); (focus exact cal_kindFault); (focus exact kindFault _ _ _ _); (focus rfl))
      | exact True.intro
      | refine stp ?_
      | refine two ?_ ?_
      | refine allc fun c_ => ?_
      | (refine imp fun hc => ?_) <;> try (first | contradiction | (exfalso; omega) | (exfalso; exact absurd (of_dT hc) (by assumption)) | (exfalso; exact of_dF hc (by assumption)))
      | refine all fun v_ => ?_)
    all_goals clear fA_ fH_
    refine J_loopV (X := Nat × Int) (fun y => [(1, .d (termsD l)), (2, .val (.pointer (some ⟨v_, 0, none⟩))), (5, .int y.2), (6, .int y.1)]) (fun _ => [.cells v_ 25 [.d (varsD m.vars), .d (rulesD m.rules)]]) (fun y => y.1 ≤ l.length ∧ propsF m l = (if y.2 ≠ 0 then y.2 else propsE m.vars.length (l.drop y.1))) (fun y => l.length - y.1) (0, modelF m) ⟨Nat.zero_le _, by rw [if_pos c1, propsF, if_pos c1]⟩ (VS.of_le ?_) ?_
    · repeat (first
        | exact Env.le_nil _
        | refine Env.le_cons (AV.le_refl _) ?_
        | refine Env.le_cons (AV.le_int rfl (by first | rfl | omega | (dsimp only; omega))) ?_)
    rintro ⟨i, e⟩ ⟨h1, h4⟩
    dsimp only at h1 h4 ⊢
    by_cases he : e ≠ 0
    · rw [if_pos he] at h4
      all_goals haveI fA_ : FlagA := ⟨⟩
      all_goals haveI fH_ : FlagH := ⟨⟩
      repeat' (first
        | ((with_reducible apply call0); (focus rfl); (focus exact cal_ModelFault); (focus exact ModelFault _ _); (focus rfl))
        | ((with_reducible apply je_call0); (focus rfl); (focus (decide +kernel)); (focus rfl); (focus exact cal_ModelFault); (focus exact ModelFault _ _); (focus rfl))
        | ((with_reducible apply call0); (focus rfl); (focus exact cal_kindFault); (focus exact kindFault _ _ _ _); (focus rfl))
        | ((with_reducible apply je_call0); (focus rfl); (focus (decide +kernel)); (focus rfl); (focus exact cal_kindFault); (focus exact kindFault _ _ _ _); (focus rfl))
        | exact True.intro
        | refine stp ?_
        | refine two ?_ ?_
        | refine allc fun c_ => ?_
        | (refine imp fun hc => ?_) <;> try (first | contradiction | (exfalso; omega) | (exfalso; exact absurd (of_dT hc) (by assumption)) | (exfalso; exact of_dF hc (by assumption)))
        | refine all fun v_ => ?_)
      all_goals clear fA_ fH_
      all_goals
        refine retv (VS.drop (List.nil_sublist _)) ?_
        ((with_reducible apply rq1); rfl; rfl)
        exact ret_eq (by rw [h4])
    rw [if_neg he] at h4
    obtain rfl : e = 0 := Decidable.not_not.1 he
    by_cases hi : ¬ i < l.length
    · rw [propsE_end _ _ i (by omega)] at h4
      all_goals haveI fA_ : FlagA := ⟨⟩
      all_goals haveI fH_ : FlagH := ⟨⟩
      repeat' (first
        | ((with_reducible apply call0); (focus rfl); (focus exact cal_ModelFault); (focus exact ModelFault _ _); (focus rfl))
        | ((with_reducible apply je_call0); (focus rfl); (focus (decide +kernel)); (focus rfl); (focus exact cal_ModelFault); (focus exact ModelFault _ _); (focus rfl))
        | ((with_reducible apply call0); (focus rfl); (focus exact cal_kindFault); (focus exact kindFault _ _ _ _); (focus rfl))
        | ((with_reducible apply je_call0); (focus rfl); (focus (decide +kernel)); (focus rfl); (focus exact cal_kindFault); (focus exact kindFault _ _ _ _); (focus rfl))
        | exact True.intro
        | refine stp ?_
        | refine two ?_ ?_
        | refine allc fun c_ => ?_
        | (refine imp fun hc => ?_) <;> try (first | contradiction | (exfalso; omega) | (exfalso; exact absurd (of_dT hc) (by assumption)) | (exfalso; exact of_dF hc (by assumption)))
        | refine all fun v_ => ?_)
      all_goals clear fA_ fH_
      refine retv (VS.drop (List.nil_sublist _)) ?_
      ((with_reducible apply rq1); rfl; rfl)
      exact ret_eq (by rw [h4])
    replace hi := Decidable.not_not.1 hi
    rw [propsE_at _ _ i hi] at h4
    all_goals haveI fA_ : FlagA := ⟨⟩
    all_goals haveI fH_ : FlagH := ⟨⟩
    repeat' (first
      | ((with_reducible apply call0); (focus rfl); (focus exact cal_ModelFault); (focus exact ModelFault _ _); (focus rfl))
      | ((with_reducible apply je_call0); (focus rfl); (focus (decide +kernel)); (focus rfl); (focus exact cal_ModelFault); (focus exact ModelFault _ _); (focus rfl))
      | ((with_reducible apply call0); (focus rfl); (focus exact cal_kindFault); (focus exact kindFault _ _ _ _); (focus rfl))
      | ((with_reducible apply je_call0); (focus rfl); (focus (decide +kernel)); (focus rfl); (focus exact cal_kindFault); (focus exact kindFault _ _ _ _); (focus rfl))
      | exact True.intro
      | refine stp ?_
      | refine two ?_ ?_
      | refine allc fun c_ => ?_
      | (refine imp fun hc => ?_) <;> try (first | contradiction | (exfalso; omega) | (exfalso; exact absurd (of_dT hc) (by assumption)) | (exfalso; exact of_dF hc (by assumption)))
      | refine all fun v_ => ?_)
    all_goals clear fA_ fH_
    refine ⟨(i + 1, kindF l[i] m.vars.length true), ⟨by dsimp only; omega, h4⟩, by dsimp only; omega, VS.take (by ((repeat (first | exact Take.nil | ((with_reducible apply Take.cons); (focus ((repeat (first | exact Sel.here | with_reducible apply Sel.there)); done))))); done)) ?_⟩
    repeat (first
      | exact Env.le_nil _
      | refine Env.le_cons (AV.le_refl _) ?_
      | refine Env.le_cons (AV.le_int rfl (by first | rfl | omega | (dsimp only; omega))) ?_)
  by_cases c2 : 6 < l.length
  · all_goals haveI fA_ : FlagA := ⟨⟩
    all_goals haveI fH_ : FlagH := ⟨⟩
    repeat' (first
      | ((with_reducible apply call0); (focus rfl); (focus exact cal_ModelFault); (focus exact ModelFault _ _); (focus rfl))
      | ((with_reducible apply je_call0); (focus rfl); (focus (decide +kernel)); (focus rfl); (focus exact cal_ModelFault); (focus exact ModelFault _ _); (focus rfl))
      | ((with_reducible apply call0); (focus rfl); (focus exact cal_kindFault); (focus exact kindFault _ _ _ _); (focus rfl))
      | ((with_reducible apply je_call0); (focus rfl); (focus (decide +kernel)); (focus rfl); (focus exact cal_kindFault); (focus exact kindFault _ _ _ _); (focus rfl))
      | exact True.intro
      | refine stp ?_
      | refine two ?_ ?_
      | refine allc fun c_ => ?_
      | (refine imp fun hc => ?_) <;> try (first | contradiction | (exfalso; omega) | (exfalso; exact absurd (of_dT hc) (by assumption)) | (exfalso; exact of_dF hc (by assumption)))
      | refine all fun v_ => ?_)
    all_goals clear fA_ fH_
    refine J_loopV (X := Nat × Int) (fun y => [(1, .d (termsD l)), (2, .val (.pointer (some ⟨v_, 0, none⟩))), (5, .int y.2), (6, .int y.1)]) (fun _ => [.cells v_ 25 [.d (varsD m.vars), .d (rulesD m.rules)]]) (fun y => y.1 ≤ l.length ∧ propsF m l = (if y.2 ≠ 0 then y.2 else propsE m.vars.length (l.drop y.1))) (fun y => l.length - y.1) (0, 1) ⟨Nat.zero_le _, by rw [if_pos (by decide), propsF, if_neg c1, if_pos c2]⟩ (VS.of_le ?_) ?_
    · repeat (first
        | exact Env.le_nil _
        | refine Env.le_cons (AV.le_refl _) ?_
        | refine Env.le_cons (AV.le_int rfl (by first | rfl | omega | (dsimp only; omega))) ?_)
    rintro ⟨i, e⟩ ⟨h1, h4⟩
    dsimp only at h1 h4 ⊢
    by_cases he : e ≠ 0
    · rw [if_pos he] at h4
      all_goals haveI fA_ : FlagA := ⟨⟩
      all_goals haveI fH_ : FlagH := ⟨⟩
      repeat' (first
        | ((with_reducible apply call0); (focus rfl); (focus exact cal_ModelFault); (focus exact ModelFault _ _); (focus rfl))
        | ((with_reducible apply je_call0); (focus rfl); (focus (decide +kernel)); (focus rfl); (focus exact cal_ModelFault); (focus exact ModelFault _ _); (focus rfl))
        | ((with_reducible apply call0); (focus rfl); (focus exact cal_kindFault); (focus exact kindFault _ _ _ _); (focus rfl))
        | ((with_reducible apply je_call0); (focus rfl); (focus (decide +kernel)); (focus rfl); (focus exact cal_kindFault); (focus exact kindFault _ _ _ _); (focus rfl))
        | exact True.intro
        | refine stp ?_
        | refine two ?_ ?_
        | refine allc fun c_ => ?_
        | (refine imp fun hc => ?_) <;> try (first | contradiction | (exfalso; omega) | (exfalso; exact absurd (of_dT hc) (by assumption)) | (exfalso; exact of_dF hc (by assumption)))
        | refine all fun v_ => ?_)
      all_goals clear fA_ fH_
      all_goals
        refine retv (VS.drop (List.nil_sublist _)) ?_
        ((with_reducible apply rq1); rfl; rfl)
        exact ret_eq (by rw [h4])
    rw [if_neg he] at h4
    obtain rfl : e = 0 := Decidable.not_not.1 he
    by_cases hi : ¬ i < l.length
    · rw [propsE_end _ _ i (by omega)] at h4
      all_goals haveI fA_ : FlagA := ⟨⟩
      all_goals haveI fH_ : FlagH := ⟨⟩
      repeat' (first
        | ((with_reducible apply call0); (focus rfl); (focus exact cal_ModelFault); (focus exact ModelFault _ _); (focus rfl))
        | ((with_reducible apply je_call0); (focus rfl); (focus (decide +kernel)); (focus rfl); (focus exact cal_ModelFault); (focus exact ModelFault _ _); (focus rfl))
        | ((with_reducible apply call0); (focus rfl); (focus exact cal_kindFault); (focus exact kindFault _ _ _ _); (focus rfl))
        | ((with_reducible apply je_call0); (focus rfl); (focus (decide +kernel)); (focus rfl); (focus exact cal_kindFault); (focus exact kindFault _ _ _ _); (focus rfl))
        | exact True.intro
        | refine stp ?_
        | refine two ?_ ?_
        | refine allc fun c_ => ?_
        | (refine imp fun hc => ?_) <;> try (first | contradiction | (exfalso; omega) | (exfalso; exact absurd (of_dT hc) (by assumption)) | (exfalso; exact of_dF hc (by assumption)))
        | refine all fun v_ => ?_)
      all_goals clear fA_ fH_
      refine retv (VS.drop (List.nil_sublist _)) ?_
      ((with_reducible apply rq1); rfl; rfl)
      exact ret_eq (by rw [h4])
    replace hi := Decidable.not_not.1 hi
    rw [propsE_at _ _ i hi] at h4
    all_goals haveI fA_ : FlagA := ⟨⟩
    all_goals haveI fH_ : FlagH := ⟨⟩
    repeat' (first
      | ((with_reducible apply call0); (focus rfl); (focus exact cal_ModelFault); (focus exact ModelFault _ _); (focus rfl))
      | ((with_reducible apply je_call0); (focus rfl); (focus (decide +kernel)); (focus rfl); (focus exact cal_ModelFault); (focus exact ModelFault _ _); (focus rfl))
      | ((with_reducible apply call0); (focus rfl); (focus exact cal_kindFault); (focus exact kindFault _ _ _ _); (focus rfl))
      | ((with_reducible apply je_call0); (focus rfl); (focus (decide +kernel)); (focus rfl); (focus exact cal_kindFault); (focus exact kindFault _ _ _ _); (focus rfl))
      | exact True.intro
      | refine stp ?_
      | refine two ?_ ?_
      | refine allc fun c_ => ?_
      | (refine imp fun hc => ?_) <;> try (first | contradiction | (exfalso; omega) | (exfalso; exact absurd (of_dT hc) (by assumption)) | (exfalso; exact of_dF hc (by assumption)))
      | refine all fun v_ => ?_)
    all_goals clear fA_ fH_
    refine ⟨(i + 1, kindF l[i] m.vars.length true), ⟨by dsimp only; omega, h4⟩, by dsimp only; omega, VS.take (by ((repeat (first | exact Take.nil | ((with_reducible apply Take.cons); (focus ((repeat (first | exact Sel.here | with_reducible apply Sel.there)); done))))); done)) ?_⟩
    repeat (first
      | exact Env.le_nil _
      | refine Env.le_cons (AV.le_refl _) ?_
      | refine Env.le_cons (AV.le_int rfl (by first | rfl | omega | (dsimp only; omega))) ?_)
  all_goals haveI fA_ : FlagA := ⟨⟩
  all_goals haveI fH_ : FlagH := ⟨⟩
  repeat' (first
    | ((with_reducible apply call0); (focus rfl); (focus exact cal_ModelFault); (focus exact ModelFault _ _); (focus rfl))
    | ((with_reducible apply je_call0); (focus rfl); (focus (decide +kernel)); (focus rfl); (focus exact cal_ModelFault); (focus exact ModelFault _ _); (focus rfl))
    | ((with_reducible apply call0); (focus rfl); (focus exact cal_kindFault); (focus exact kindFault _ _ _ _); (focus rfl))
    | ((with_reducible apply je_call0); (focus rfl); (focus (decide +kernel)); (focus rfl); (focus exact cal_kindFault); (focus exact kindFault _ _ _ _); (focus rfl))
    | exact True.intro
    | refine stp ?_
    | refine two ?_ ?_
    | refine allc fun c_ => ?_
    | (refine imp fun hc => ?_) <;> try (first | contradiction | (exfalso; omega) | (exfalso; exact absurd (of_dT hc) (by assumption)) | (exfalso; exact of_dF hc (by assumption)))
    | refine all fun v_ => ?_)
  all_goals clear fA_ fH_
  refine J_loopV (X := Nat × Int) (fun y => [(1, .d (termsD l)), (2, .val (.pointer (some ⟨v_, 0, none⟩))), (5, .int y.2), (6, .int y.1)]) (fun _ => [.cells v_ 25 [.d (varsD m.vars), .d (rulesD m.rules)]]) (fun y => y.1 ≤ l.length ∧ propsF m l = (if y.2 ≠ 0 then y.2 else propsE m.vars.length (l.drop y.1))) (fun y => l.length - y.1) (0, 0) ⟨Nat.zero_le _, by rw [if_neg (by decide), propsF, if_neg c1, if_neg c2]; rfl⟩ (VS.of_le ?_) ?_
  · repeat (first
      | exact Env.le_nil _
      | refine Env.le_cons (AV.le_refl _) ?_
      | refine Env.le_cons (AV.le_int rfl (by first | rfl | omega | (dsimp only; omega))) ?_)
  rintro ⟨i, e⟩ ⟨h1, h4⟩
  dsimp only at h1 h4 ⊢
  by_cases he : e ≠ 0
  · rw [if_pos he] at h4
    all_goals haveI fA_ : FlagA := ⟨⟩
    all_goals haveI fH_ : FlagH := ⟨⟩
    repeat' (first
      | ((with_reducible apply call0); (focus rfl); (focus exact cal_ModelFault); (focus exact ModelFault _ _); (focus rfl))
      | ((with_reducible apply je_call0); (focus rfl); (focus (decide +kernel)); (focus rfl); (focus exact cal_ModelFault); (focus exact ModelFault _ _); (focus rfl))
      | ((with_reducible apply call0); (focus rfl); (focus exact cal_kindFault); (focus exact kindFault _ _ _ _); (focus rfl))
      | ((with_reducible apply je_call0); (focus rfl); (focus (decide +kernel)); (focus rfl); (focus exact cal_kindFault); (focus exact kindFault _ _ _ _); (focus rfl))
      | exact True.intro
      | refine stp ?_
      | refine two ?_ ?_
      | refine allc fun c_ => ?_
      | (refine imp fun hc => ?_) <;> try (first | contradiction | (exfalso; omega) | (exfalso; exact absurd (of_dT hc) (by assumption)) | (exfalso; exact of_dF hc (by assumption)))
      | refine all fun v_ => ?_)
    all_goals clear fA_ fH_
    all_goals
      refine retv (VS.drop (List.nil_sublist _)) ?_
      ((with_reducible apply rq1); rfl; rfl)
      exact ret_eq (by rw [h4])
  rw [if_neg he] at h4
  obtain rfl : e = 0 := Decidable.not_not.1 he
  by_cases hi : ¬ i < l.length
  · rw [propsE_end _ _ i (by omega)] at h4
    all_goals haveI fA_ : FlagA := ⟨⟩
    all_goals haveI fH_ : FlagH := ⟨⟩
    repeat' (first
      | ((with_reducible apply call0); (focus rfl); (focus exact cal_ModelFault); (focus exact ModelFault _ _); (focus rfl))
      | ((with_reducible apply je_call0); (focus rfl); (focus (decide +kernel)); (focus rfl); (focus exact cal_ModelFault); (focus exact ModelFault _ _); (focus rfl))
      | ((with_reducible apply call0); (focus rfl); (focus exact cal_kindFault); (focus exact kindFault _ _ _ _); (focus rfl))
      | ((with_reducible apply je_call0); (focus rfl); (focus (decide +kernel)); (focus rfl); (focus exact cal_kindFault); (focus exact kindFault _ _ _ _); (focus rfl))
      | exact True.intro
      | refine stp ?_
      | refine two ?_ ?_
      | refine allc fun c_ => ?_
      | (refine imp fun hc => ?_) <;> try (first | contradiction | (exfalso; omega) | (exfalso; exact absurd (of_dT hc) (by assumption)) | (exfalso; exact of_dF hc (by assumption)))
      | refine all fun v_ => ?_)
    all_goals clear fA_ fH_
    refine retv (VS.drop (List.nil_sublist _)) ?_
    ((with_reducible apply rq1); rfl; rfl)
    exact ret_eq (by rw [h4])
  replace hi := Decidable.not_not.1 hi
  rw [propsE_at _ _ i hi] at h4
  all_goals haveI fA_ : FlagA := ⟨⟩
  all_goals haveI fH_ : FlagH := ⟨⟩
  repeat' (first
    | ((with_reducible apply call0); (focus rfl); (focus exact cal_ModelFault); (focus exact ModelFault _ _); (focus rfl))
    | ((with_reducible apply je_call0); (focus rfl); (focus (decide +kernel)); (focus rfl); (focus exact cal_ModelFault); (focus exact ModelFault _ _); (focus rfl))
    | ((with_reducible apply call0); (focus rfl); (focus exact cal_kindFault); (focus exact kindFault _ _ _ _); (focus rfl))
    | ((with_reducible apply je_call0); (focus rfl); (focus (decide +kernel)); (focus rfl); (focus exact cal_kindFault); (focus exact kindFault _ _ _ _); (focus rfl))
    | exact True.intro
    | refine stp ?_
    | refine two ?_ ?_
    | refine allc fun c_ => ?_
    | (refine imp fun hc => ?_) <;> try (first | contradiction | (exfalso; omega) | (exfalso; exact absurd (of_dT hc) (by assumption)) | (exfalso; exact of_dF hc (by assumption)))
    | refine all fun v_ => ?_)
  all_goals clear fA_ fH_
  refine ⟨(i + 1, kindF l[i] m.vars.length true), ⟨by dsimp only; omega, h4⟩, by dsimp only; omega, VS.take (by ((repeat (first | exact Take.nil | ((with_reducible apply Take.cons); (focus ((repeat (first | exact Sel.here | with_reducible apply Sel.there)); done))))); done)) ?_⟩
  repeat (first
    | exact Env.le_nil _
    | refine Env.le_cons (AV.le_refl _) ?_
    | refine Env.le_cons (AV.le_int rfl (by first | rfl | omega | (dsimp only; omega))) ?_)
theorem Count (m : Md) : ACr Tryd.prog GP 57 [mdA m] (.tup [.int (countF m).1, .int (countF m).2]) := by
  refine AC_ofV (ts := [2, 3]) Tryd.f57.ntmps Tryd.func57 rfl rfl rfl (by simp [Tryd.ntmps57]) fun W I => ?_
  by_cases c1 : modelF m ≠ 0
  · all_goals haveI fA_ : FlagA := ⟨⟩
    all_goals haveI fH_ : FlagH := ⟨⟩
    repeat' (first
      | ((with_reducible apply call0); (focus rfl); (focus exact cal_MdCheck); (focus exact MdCheck _); (focus rfl))
      | ((with_reducible apply je_call0); (focus rfl); (focus (decide +kernel)); (focus rfl); (focus exact cal_MdCheck); (focus exact MdCheck _); (focus rfl))
      | exact True.intro
      | refine stp ?_
      | refine two ?_ ?_
      | refine allc fun c_ => ?_
      | (refine imp fun hc => ?_) <;> try (first | contradiction | (exfalso; omega) | (exfalso; exact absurd (of_dT hc) (by assumption)) | (exfalso; exact of_dF hc (by assumption)))
      | refine all fun v_ => ?_)
    all_goals clear fA_ fH_
    refine retv (VS.drop (List.nil_sublist _)) ?_
    ((with_reducible apply rq2); rfl; rfl; rfl)
    exact ret_eq (by rw [countF, if_pos c1])
  have hv := modelF_vars (show modelF m = 0 by omega)
  have g := goodV hv
  have hl6 := varsF_len hv
  all_goals haveI fA_ : FlagA := ⟨⟩
  all_goals haveI fH_ : FlagH := ⟨⟩
  repeat' (first
    | ((with_reducible apply call0); (focus rfl); (focus exact cal_MdCheck); (focus exact MdCheck _); (focus rfl))
    | ((with_reducible apply je_call0); (focus rfl); (focus (decide +kernel)); (focus rfl); (focus exact cal_MdCheck); (focus exact MdCheck _); (focus rfl))
    | exact True.intro
    | refine stp ?_
    | refine two ?_ ?_
    | refine allc fun c_ => ?_
    | (refine imp fun hc => ?_) <;> try (first | contradiction | (exfalso; omega) | (exfalso; exact absurd (of_dT hc) (by assumption)) | (exfalso; exact of_dF hc (by assumption)))
    | refine all fun v_ => ?_)
  all_goals clear fA_ fH_
  refine J_loopV (X := Nat) (fun i => [(5, .int (prodV (m.vars.take i))), (14, .d (varsD m.vars)), (15, .int m.vars.length), (16, .int i)]) (fun _ => []) (fun i => i ≤ m.vars.length) (fun i => m.vars.length - i) 0 (Nat.zero_le _) (VS.trans (VS.drop (List.nil_sublist _)) (VS.of_le ?_)) ?_
  · repeat (first
      | exact Env.le_nil _
      | refine Env.le_cons (AV.le_refl _) ?_
      | refine Env.le_cons (AV.le_int rfl (by first | rfl | omega | (dsimp only; omega))) ?_)
  rintro i h1
  by_cases hi : ¬ i < m.vars.length
  · obtain rfl : i = m.vars.length := by omega
    all_goals haveI fA_ : FlagA := ⟨⟩
    all_goals haveI fH_ : FlagH := ⟨⟩
    repeat' (first
      | ((with_reducible apply call0); (focus rfl); (focus exact cal_MdCheck); (focus exact MdCheck _); (focus rfl))
      | ((with_reducible apply je_call0); (focus rfl); (focus (decide +kernel)); (focus rfl); (focus exact cal_MdCheck); (focus exact MdCheck _); (focus rfl))
      | exact True.intro
      | refine stp ?_
      | refine two ?_ ?_
      | refine allc fun c_ => ?_
      | (refine imp fun hc => ?_) <;> try (first | contradiction | (exfalso; omega) | (exfalso; exact absurd (of_dT hc) (by assumption)) | (exfalso; exact of_dF hc (by assumption)))
      | refine all fun v_ => ?_)
    all_goals clear fA_ fH_
    refine retv (VS.drop (List.nil_sublist _)) ?_
    ((with_reducible apply rq2); rfl; rfl; rfl)
    exact ret_eq (by rw [countF, if_neg c1, List.take_length])
  replace hi := Decidable.not_not.1 hi
  have e := prodV_take_succ m.vars i hi
  have b1 := g.take i
  have b2 := g.take (i + 1)
  have b3 := g.range _ (List.getElem_mem hi)
  obtain ⟨d1, d2, d3, d4, d5⟩ := b3
  rw [e] at b2
  have hsp : spanV m.vars[i] = m.vars[i].high - m.vars[i].low + 1 := rfl
  rw [hsp] at b2 e
  have hin : inI64 (prodV (m.vars.take i) * (m.vars[i].high - m.vars[i].low + 1)) := ⟨by omega, by omega⟩
  all_goals haveI fA_ : FlagA := ⟨⟩
  all_goals haveI fH_ : FlagH := ⟨⟩
  repeat' (first
    | ((with_reducible apply call0); (focus rfl); (focus exact cal_MdCheck); (focus exact MdCheck _); (focus rfl))
    | ((with_reducible apply je_call0); (focus rfl); (focus (decide +kernel)); (focus rfl); (focus exact cal_MdCheck); (focus exact MdCheck _); (focus rfl))
    | exact True.intro
    | refine stp ?_
    | refine two ?_ ?_
    | refine allc fun c_ => ?_
    | (refine imp fun hc => ?_) <;> try (first | contradiction | (exfalso; omega) | (exfalso; exact absurd (of_dT hc) (by assumption)) | (exfalso; exact of_dF hc (by assumption)))
    | refine all fun v_ => ?_)
  all_goals clear fA_ fH_
  refine ⟨i + 1, by omega, by omega, ?_⟩
  rw [e]
  refine VS.trans (VS.drop (List.nil_sublist _)) (VS.of_le ?_)
  repeat (first
    | exact Env.le_nil _
    | refine Env.le_cons (AV.le_refl _) ?_
    | refine Env.le_cons (AV.le_int rfl (by first | rfl | omega | (dsimp only; omega))) ?_)
theorem behindVar (G : List (Nat × List D)) (m : Md) (g : GoodV m.vars) (hl : m.vars.length ≤ 6) (a : Nat) (ha : a ≤ m.vars.length) (x : Int) (hx : x + 1 = a) : ACr Tryd.prog G 73 [mdA m, .int x] (.int (prodV (m.vars.drop a))) := by
  refine AC_ofV (ts := [4]) Tryd.f73.ntmps Tryd.func73 rfl rfl rfl (by simp [Tryd.ntmps73]) fun W I => ?_
  all_goals haveI fA_ : FlagA := ⟨⟩
  all_goals haveI fH_ : FlagH := ⟨⟩
  repeat' (first
    | exact True.intro
    | refine stp ?_
    | refine two ?_ ?_
    | refine allc fun c_ => ?_
    | (refine imp fun hc => ?_) <;> try (first | contradiction | (exfalso; omega) | (exfalso; exact absurd (of_dT hc) (by assumption)) | (exfalso; exact of_dF hc (by assumption)))
    | refine all fun v_ => ?_)
  all_goals clear fA_ fH_
  refine J_loopV (X := Nat) (fun k => [(2, .val (.pointer (some ⟨v_, 0, none⟩))), (5, .int (prodR m.vars a k)), (6, .int k)]) (fun _ => [.cells v_ 25 [.d (varsD m.vars), .d (rulesD m.rules)]]) (fun k => a ≤ k ∧ k ≤ m.vars.length) (fun k => m.vars.length - k) a ⟨Nat.le_refl _, ha⟩ ?_ ?_
  · rw [prodR_start]
    refine VS.of_le ?_
    repeat (first
      | exact Env.le_nil _
      | refine Env.le_cons (AV.le_refl _) ?_
      | refine Env.le_cons (AV.le_int rfl (by first | rfl | omega | (dsimp only; omega))) ?_)
  rintro k ⟨h0, h1⟩
  by_cases hk : ¬ k < m.vars.length
  · obtain rfl : k = m.vars.length := by omega
    all_goals haveI fA_ : FlagA := ⟨⟩
    all_goals haveI fH_ : FlagH := ⟨⟩
    repeat' (first
      | exact True.intro
      | refine stp ?_
      | refine two ?_ ?_
      | refine allc fun c_ => ?_
      | (refine imp fun hc => ?_) <;> try (first | contradiction | (exfalso; omega) | (exfalso; exact absurd (of_dT hc) (by assumption)) | (exfalso; exact of_dF hc (by assumption)))
      | refine all fun v_ => ?_)
    all_goals clear fA_ fH_
    refine retv (VS.drop (List.nil_sublist _)) ?_
    ((with_reducible apply rq1); rfl; rfl)
    exact ret_eq (by rw [prodR_end])
  replace hk := Decidable.not_not.1 hk
  have e := prodR_succ m.vars a k h0 hk
  have b1 := g.R a k
  have b2 := g.R a (k + 1)
  obtain ⟨d1, d2, d3, d4, d5⟩ := g.range _ (List.getElem_mem hk)
  rw [e] at b2
  have hsp : spanV m.vars[k] = m.vars[k].high - m.vars[k].low + 1 := rfl
  rw [hsp] at b2 e
  have hin : inI64 (prodR m.vars a k * (m.vars[k].high - m.vars[k].low + 1)) := ⟨by omega, by omega⟩
  all_goals haveI fA_ : FlagA := ⟨⟩
  all_goals haveI fH_ : FlagH := ⟨⟩
  repeat' (first
    | exact True.intro
    | refine stp ?_
    | refine two ?_ ?_
    | refine allc fun c_ => ?_
    | (refine imp fun hc => ?_) <;> try (first | contradiction | (exfalso; omega) | (exfalso; exact absurd (of_dT hc) (by assumption)) | (exfalso; exact of_dF hc (by assumption)))
    | refine all fun v_ => ?_)
  all_goals clear fA_ fH_
  refine ⟨k + 1, ⟨by omega, by omega⟩, by omega, ?_⟩
  rw [e]
  refine VS.of_le ?_
  repeat (first
    | exact Env.le_nil _
    | refine Env.le_cons (AV.le_refl _) ?_
    | refine Env.le_cons (AV.le_int rfl (by first | rfl | omega | (dsimp only; omega))) ?_)
theorem StateCount (G : List (Nat × List D)) (m : Md) : ACr Tryd.prog G 55 [mdA m] (.tup [.int (countF m).1, .int (countF m).2]) := by
  refine AC_ofV (ts := [2, 3]) Tryd.f55.ntmps Tryd.func55 rfl rfl rfl (by simp [Tryd.ntmps55]) fun W I => ?_
  by_cases c1 : modelF m ≠ 0
  · all_goals haveI fA_ : FlagA := ⟨⟩
    all_goals haveI fH_ : FlagH := ⟨⟩
    repeat' (first
      | ((with_reducible apply call0); (focus rfl); (focus exact cal_ModelFault); (focus exact ModelFault _ _); (focus rfl))
      | ((with_reducible apply je_call0); (focus rfl); (focus (decide +kernel)); (focus rfl); (focus exact cal_ModelFault); (focus exact ModelFault _ _); (focus rfl))
      | exact True.intro
      | refine stp ?_
      | refine two ?_ ?_
      | refine allc fun c_ => ?_
      | (refine imp fun hc => ?_) <;> try (first | contradiction | (exfalso; omega) | (exfalso; exact absurd (of_dT hc) (by assumption)) | (exfalso; exact of_dF hc (by assumption)))
      | refine all fun v_ => ?_)
    all_goals clear fA_ fH_
    refine retv (VS.drop (List.nil_sublist _)) ?_
    ((with_reducible apply rq2); rfl; rfl; rfl)
    exact ret_eq (by rw [countF, if_pos c1])
  have hv := modelF_vars (show modelF m = 0 by omega)
  have E := behindVar G m (goodV hv) (varsF_len hv) 0 (Nat.zero_le _) (-1) (by decide)
  all_goals haveI fA_ : FlagA := ⟨⟩
  all_goals haveI fH_ : FlagH := ⟨⟩
  repeat' (first
    | ((with_reducible apply call0); (focus rfl); (focus exact cal_ModelFault); (focus exact ModelFault _ _); (focus rfl))
    | ((with_reducible apply je_call0); (focus rfl); (focus (decide +kernel)); (focus rfl); (focus exact cal_ModelFault); (focus exact ModelFault _ _); (focus rfl))
    | ((with_reducible apply call0); (focus rfl); (focus exact cal_behindVar); (focus exact E); (focus rfl))
    | ((with_reducible apply je_call0); (focus rfl); (focus (decide +kernel)); (focus rfl); (focus exact cal_behindVar); (focus exact E); (focus rfl))
    | exact True.intro
    | refine stp ?_
    | refine two ?_ ?_
    | refine allc fun c_ => ?_
    | (refine imp fun hc => ?_) <;> try (first | contradiction | (exfalso; omega) | (exfalso; exact absurd (of_dT hc) (by assumption)) | (exfalso; exact of_dF hc (by assumption)))
    | refine all fun v_ => ?_)
  all_goals clear fA_ fH_
  refine retv (VS.drop (List.nil_sublist _)) ?_
  ((with_reducible apply rq2); rfl; rfl; rfl)
  exact ret_eq (by rw [countF, if_neg c1, List.drop_zero])
end Go.Proofs.YtmamiihpghnmmaaDoor
