/- Contracts: model.Code; foretellref.CodeOf. -/
import Derived.Test.YtacdheachjnejaaDoorM5
import Derived.Test.YtacdheachjnejaaDoorG5
namespace Go.Proofs.YtacdheachjnejaaDoor
open Go Go.Av Go.Sp
set_option linter.unusedVariables false
set_option linter.unusedSimpArgs false
set_option maxRecDepth 100000
set_option maxHeartbeats 4000000

theorem cal_Code : Cal Tryd.prog 36 := Cal.of Tryd.func36 (by kernel_rfl) (by kernel_rfl)
theorem cal_CodeOf : Cal Tryd.prog 37 := Cal.of Tryd.func37 (by kernel_rfl) (by kernel_rfl)
theorem Code (m : Md) (xs : List Int) : ACr Tryd.prog GP 36 [mdA m, .d (intsD xs)] (.tup [.int (codeF m xs).1, .int (codeF m xs).2]) := by
  refine AC.factI (f := intC) (xs := xs) (.there .here) fun hlx => ?_
  refine AC_ofV (ts := [4, 5]) Tryd.f36.ntmps Tryd.func36 rfl rfl rfl (by simp [Tryd.ntmps36]) fun W I => ?_
  by_cases c1 : modelF m ≠ 0
  · repeat' (first
      | ((with_reducible apply call0); (focus rfl); (focus exact cal_MdCheck); (focus exact MdCheck _); (focus rfl))
      | ((with_reducible apply je_call0); (focus rfl); (focus (decide +kernel)); (focus rfl); (focus exact cal_MdCheck); (focus exact MdCheck _); (focus rfl))
      | exact True.intro
      | refine stph ?_
      | refine two ?_ ?_
      | refine allc fun c_ => ?_
      | (refine imp fun hc => ?_) <;> try (first | contradiction | (exfalso; omega) | (exfalso; exact absurd (of_dT hc) (by assumption)) | (exfalso; exact of_dF hc (by assumption)))
      | refine all fun v_ => ?_)
    refine retv (VS.drop (List.nil_sublist _)) ?_
    ((with_reducible apply rq2); rfl; rfl; rfl)
    exact ret_eq (by rw [codeF, if_pos c1])
  have hv := modelF_vars (show modelF m = 0 by omega)
  have g := goodV hv
  have hl6 := varsF_len hv
  by_cases c2 : xs.length ≠ m.vars.length
  · repeat' (first
      | ((with_reducible apply call0); (focus rfl); (focus exact cal_MdCheck); (focus exact MdCheck _); (focus rfl))
      | ((with_reducible apply je_call0); (focus rfl); (focus (decide +kernel)); (focus rfl); (focus exact cal_MdCheck); (focus exact MdCheck _); (focus rfl))
      | exact True.intro
      | refine stph ?_
      | refine two ?_ ?_
      | refine allc fun c_ => ?_
      | (refine imp fun hc => ?_) <;> try (first | contradiction | (exfalso; omega) | (exfalso; exact absurd (of_dT hc) (by assumption)) | (exfalso; exact of_dF hc (by assumption)))
      | refine all fun v_ => ?_)
    refine retv (VS.drop (List.nil_sublist _)) ?_
    ((with_reducible apply rq2); rfl; rfl; rfl)
    exact ret_eq (by rw [codeF, if_neg c1, if_pos c2])
  have hF : codeF m xs = codeE 0 m.vars xs := by rw [codeF, if_neg c1, if_neg c2]
  have hxl : xs.length = m.vars.length := Decidable.not_not.1 c2
  clear c2
  repeat' (first
    | ((with_reducible apply call0); (focus rfl); (focus exact cal_MdCheck); (focus exact MdCheck _); (focus rfl))
    | ((with_reducible apply je_call0); (focus rfl); (focus (decide +kernel)); (focus rfl); (focus exact cal_MdCheck); (focus exact MdCheck _); (focus rfl))
    | exact True.intro
    | refine stph ?_
    | refine two ?_ ?_
    | refine allc fun c_ => ?_
    | (refine imp fun hc => ?_) <;> try (first | contradiction | (exfalso; omega) | (exfalso; exact absurd (of_dT hc) (by assumption)) | (exfalso; exact of_dF hc (by assumption)))
    | refine all fun v_ => ?_)
  refine J_loopV (X := Nat × Int) (fun y => [(1, .d (intsD xs)), (7, .int y.2), (22, .d (varsD m.vars)), (23, .int m.vars.length), (24, .int y.1)]) (fun _ => []) (fun y => y.1 ≤ m.vars.length ∧ 0 ≤ y.2 ∧ y.2 + 1 ≤ prodV (m.vars.take y.1) ∧ codeF m xs = codeE y.2 (m.vars.drop y.1) (xs.drop y.1)) (fun y => m.vars.length - y.1) (0, 0) ⟨Nat.zero_le _, by decide, by simp [prodV], hF⟩ (VS.trans (VS.drop (List.nil_sublist _)) (VS.of_le ?_)) ?_
  · repeat (first
      | exact Env.le_nil _
      | refine Env.le_cons (AV.le_refl _) ?_
      | refine Env.le_cons (AV.le_int rfl (by first | rfl | omega | (dsimp only; omega))) ?_)
  rintro ⟨i, n⟩ ⟨h1, h2, h3, h4⟩
  dsimp only at h1 h2 h3 h4 ⊢
  by_cases hi : ¬ i < m.vars.length
  · rw [codeE_end _ _ _ _ (by omega)] at h4
    repeat' (first
      | ((with_reducible apply call0); (focus rfl); (focus exact cal_MdCheck); (focus exact MdCheck _); (focus rfl))
      | ((with_reducible apply je_call0); (focus rfl); (focus (decide +kernel)); (focus rfl); (focus exact cal_MdCheck); (focus exact MdCheck _); (focus rfl))
      | exact True.intro
      | refine stph ?_
      | refine two ?_ ?_
      | refine allc fun c_ => ?_
      | (refine imp fun hc => ?_) <;> try (first | contradiction | (exfalso; omega) | (exfalso; exact absurd (of_dT hc) (by assumption)) | (exfalso; exact of_dF hc (by assumption)))
      | refine all fun v_ => ?_)
    refine retv (VS.drop (List.nil_sublist _)) ?_
    ((with_reducible apply rq2); rfl; rfl; rfl)
    exact ret_eq (by rw [h4])
  replace hi := Decidable.not_not.1 hi
  have hi' : i < xs.length := by omega
  rw [codeE_at _ _ _ _ hi hi'] at h4
  obtain ⟨d1, d2, d3, d4, d5⟩ := g.range _ (List.getElem_mem hi)
  by_cases cl : xs[i] < m.vars[i].low
  · rw [if_neg (by omega)] at h4
    repeat' (first
      | ((with_reducible apply call0); (focus rfl); (focus exact cal_MdCheck); (focus exact MdCheck _); (focus rfl))
      | ((with_reducible apply je_call0); (focus rfl); (focus (decide +kernel)); (focus rfl); (focus exact cal_MdCheck); (focus exact MdCheck _); (focus rfl))
      | exact True.intro
      | refine stph ?_
      | refine two ?_ ?_
      | refine allc fun c_ => ?_
      | (refine imp fun hc => ?_) <;> try (first | contradiction | (exfalso; omega) | (exfalso; exact absurd (of_dT hc) (by assumption)) | (exfalso; exact of_dF hc (by assumption)))
      | refine all fun v_ => ?_)
    all_goals
      refine retv (VS.drop (List.nil_sublist _)) ?_
      ((with_reducible apply rq2); rfl; rfl; rfl)
      exact ret_eq (by rw [h4])
  by_cases ch : m.vars[i].high < xs[i]
  · rw [if_neg (by omega)] at h4
    repeat' (first
      | ((with_reducible apply call0); (focus rfl); (focus exact cal_MdCheck); (focus exact MdCheck _); (focus rfl))
      | ((with_reducible apply je_call0); (focus rfl); (focus (decide +kernel)); (focus rfl); (focus exact cal_MdCheck); (focus exact MdCheck _); (focus rfl))
      | exact True.intro
      | refine stph ?_
      | refine two ?_ ?_
      | refine allc fun c_ => ?_
      | (refine imp fun hc => ?_) <;> try (first | contradiction | (exfalso; omega) | (exfalso; exact absurd (of_dT hc) (by assumption)) | (exfalso; exact of_dF hc (by assumption)))
      | refine all fun v_ => ?_)
    all_goals
      refine retv (VS.drop (List.nil_sublist _)) ?_
      ((with_reducible apply rq2); rfl; rfl; rfl)
      exact ret_eq (by rw [h4])
  rw [if_pos (by omega)] at h4
  have hsp : spanV m.vars[i] = m.vars[i].high - m.vars[i].low + 1 := rfl
  obtain ⟨s1, s2, s3⟩ := horner_step (s := spanV m.vars[i]) (d := xs[i] - m.vars[i].low) h2 h3 (by omega) (by omega)
  rw [← prodV_take_succ m.vars i hi] at s3
  have b2 := (g.take (i + 1)).2.1
  rw [hsp] at s1 s2 s3 h4
  have hin : inI64 (n * (m.vars[i].high - m.vars[i].low + 1)) := ⟨by omega, by omega⟩
  repeat' (first
    | ((with_reducible apply call0); (focus rfl); (focus exact cal_MdCheck); (focus exact MdCheck _); (focus rfl))
    | ((with_reducible apply je_call0); (focus rfl); (focus (decide +kernel)); (focus rfl); (focus exact cal_MdCheck); (focus exact MdCheck _); (focus rfl))
    | exact True.intro
    | refine stph ?_
    | refine two ?_ ?_
    | refine allc fun c_ => ?_
    | (refine imp fun hc => ?_) <;> try (first | contradiction | (exfalso; omega) | (exfalso; exact absurd (of_dT hc) (by assumption)) | (exfalso; exact of_dF hc (by assumption)))
    | refine all fun v_ => ?_)
  refine ⟨(i + 1, n * (m.vars[i].high - m.vars[i].low + 1) + (xs[i] - m.vars[i].low)), ⟨by dsimp only; omega, s2, s3, h4⟩, by dsimp only; omega, ?_⟩
  dsimp only
  rw [show n * (m.vars[i].high - m.vars[i].low + 1) + (xs[i] - m.vars[i].low) = n * (m.vars[i].high - m.vars[i].low + 1) + xs[i] - m.vars[i].low by omega]
  refine VS.trans (VS.drop (List.nil_sublist _)) (VS.of_le ?_)
  repeat (first
    | exact Env.le_nil _
    | refine Env.le_cons (AV.le_refl _) ?_
    | refine Env.le_cons (AV.le_int rfl (by first | rfl | omega | (dsimp only; omega))) ?_)
theorem CodeOf (G : List (Nat × List D)) (m : Md) (xs : List Int) : ACr Tryd.prog G 37 [mdA m, .d (intsD xs)] (.tup [.int (codeF m xs).1, .int (codeF m xs).2]) := by
  refine AC.factI (f := intC) (xs := xs) (.there .here) fun hlx => ?_
  refine AC_ofV (ts := [4, 5]) Tryd.f37.ntmps Tryd.func37 rfl rfl rfl (by simp [Tryd.ntmps37]) fun W I => ?_
  by_cases c1 : modelF m ≠ 0
  · repeat' (first
      | ((with_reducible apply call0); (focus rfl); (focus exact cal_ModelFault); (focus exact ModelFault _ _); (focus rfl))
      | ((with_reducible apply je_call0); (focus rfl); (focus (decide +kernel)); (focus rfl); (focus exact cal_ModelFault); (focus exact ModelFault _ _); (focus rfl))
      | ((with_reducible apply call0); (focus rfl); (focus exact cal_In); (focus exact In _ _ _ _); (focus rfl))
      | ((with_reducible apply je_call0); (focus rfl); (focus (decide +kernel)); (focus rfl); (focus exact cal_In); (focus exact In _ _ _ _); (focus rfl))
      | exact True.intro
      | refine stph ?_
      | refine two ?_ ?_
      | refine allc fun c_ => ?_
      | (refine imp fun hc => ?_) <;> try (first | contradiction | (exfalso; omega) | (exfalso; exact absurd (of_dT hc) (by assumption)) | (exfalso; exact of_dF hc (by assumption)))
      | refine all fun v_ => ?_)
    refine retv (VS.drop (List.nil_sublist _)) ?_
    ((with_reducible apply rq2); rfl; rfl; rfl)
    exact ret_eq (by rw [codeF, if_pos c1])
  have hv := modelF_vars (show modelF m = 0 by omega)
  have g := goodV hv
  have hl6 := varsF_len hv
  by_cases c2 : xs.length ≠ m.vars.length
  · repeat' (first
      | ((with_reducible apply call0); (focus rfl); (focus exact cal_ModelFault); (focus exact ModelFault _ _); (focus rfl))
      | ((with_reducible apply je_call0); (focus rfl); (focus (decide +kernel)); (focus rfl); (focus exact cal_ModelFault); (focus exact ModelFault _ _); (focus rfl))
      | ((with_reducible apply call0); (focus rfl); (focus exact cal_In); (focus exact In _ _ _ _); (focus rfl))
      | ((with_reducible apply je_call0); (focus rfl); (focus (decide +kernel)); (focus rfl); (focus exact cal_In); (focus exact In _ _ _ _); (focus rfl))
      | exact True.intro
      | refine stph ?_
      | refine two ?_ ?_
      | refine allc fun c_ => ?_
      | (refine imp fun hc => ?_) <;> try (first | contradiction | (exfalso; omega) | (exfalso; exact absurd (of_dT hc) (by assumption)) | (exfalso; exact of_dF hc (by assumption)))
      | refine all fun v_ => ?_)
    refine retv (VS.drop (List.nil_sublist _)) ?_
    ((with_reducible apply rq2); rfl; rfl; rfl)
    exact ret_eq (by rw [codeF, if_neg c1, if_pos c2])
  have hxl : xs.length = m.vars.length := Decidable.not_not.1 c2
  have hF := codeF_T m xs (by omega) hxl
  clear c2
  repeat' (first
    | ((with_reducible apply call0); (focus rfl); (focus exact cal_ModelFault); (focus exact ModelFault _ _); (focus rfl))
    | ((with_reducible apply je_call0); (focus rfl); (focus (decide +kernel)); (focus rfl); (focus exact cal_ModelFault); (focus exact ModelFault _ _); (focus rfl))
    | ((with_reducible apply call0); (focus rfl); (focus exact cal_In); (focus exact In _ _ _ _); (focus rfl))
    | ((with_reducible apply je_call0); (focus rfl); (focus (decide +kernel)); (focus rfl); (focus exact cal_In); (focus exact In _ _ _ _); (focus rfl))
    | exact True.intro
    | refine stph ?_
    | refine two ?_ ?_
    | refine allc fun c_ => ?_
    | (refine imp fun hc => ?_) <;> try (first | contradiction | (exfalso; omega) | (exfalso; exact absurd (of_dT hc) (by assumption)) | (exfalso; exact of_dF hc (by assumption)))
    | refine all fun v_ => ?_)
  refine J_loopV (X := Nat × Int) (fun y => [(1, .d (intsD xs)), (2, .val (.pointer (some ⟨v_, 0, none⟩))), (7, .int y.2), (8, .int y.1)]) (fun _ => [.cells v_ 48 [.d (varsD m.vars), .d (rulesD m.rules)]]) (fun y => y.1 ≤ m.vars.length ∧ 0 ≤ y.2 ∧ y.2 + prodV (m.vars.drop y.1) ≤ prodV m.vars ∧ codeF m xs = codeT y.2 (m.vars.drop y.1) (xs.drop y.1)) (fun y => m.vars.length - y.1) (0, 0) ⟨Nat.zero_le _, by decide, by simp, hF⟩ (VS.of_le ?_) ?_
  · repeat (first
      | exact Env.le_nil _
      | refine Env.le_cons (AV.le_refl _) ?_
      | refine Env.le_cons (AV.le_int rfl (by first | rfl | omega | (dsimp only; omega))) ?_)
  rintro ⟨i, n⟩ ⟨h1, h2, h3, h4⟩
  dsimp only at h1 h2 h3 h4 ⊢
  by_cases hi : ¬ i < m.vars.length
  · rw [codeT_end _ _ _ _ (by omega)] at h4
    repeat' (first
      | ((with_reducible apply call0); (focus rfl); (focus exact cal_ModelFault); (focus exact ModelFault _ _); (focus rfl))
      | ((with_reducible apply je_call0); (focus rfl); (focus (decide +kernel)); (focus rfl); (focus exact cal_ModelFault); (focus exact ModelFault _ _); (focus rfl))
      | ((with_reducible apply call0); (focus rfl); (focus exact cal_In); (focus exact In _ _ _ _); (focus rfl))
      | ((with_reducible apply je_call0); (focus rfl); (focus (decide +kernel)); (focus rfl); (focus exact cal_In); (focus exact In _ _ _ _); (focus rfl))
      | exact True.intro
      | refine stph ?_
      | refine two ?_ ?_
      | refine allc fun c_ => ?_
      | (refine imp fun hc => ?_) <;> try (first | contradiction | (exfalso; omega) | (exfalso; exact absurd (of_dT hc) (by assumption)) | (exfalso; exact of_dF hc (by assumption)))
      | refine all fun v_ => ?_)
    refine retv (VS.drop (List.nil_sublist _)) ?_
    ((with_reducible apply rq2); rfl; rfl; rfl)
    exact ret_eq (by rw [h4])
  replace hi := Decidable.not_not.1 hi
  have hi' : i < xs.length := by omega
  rw [codeT_at _ _ _ _ hi hi'] at h4
  obtain ⟨d1, d2, d3, d4, d5⟩ := g.range _ (List.getElem_mem hi)
  by_cases cl : ¬ (m.vars[i].low ≤ xs[i] ∧ xs[i] ≤ m.vars[i].high)
  · rw [if_neg cl] at h4
    have e1 : decide (m.vars[i].low ≤ xs[i] ∧ xs[i] ≤ m.vars[i].high) = false := decide_eq_false cl
    have e2 := In G xs[i] m.vars[i].low m.vars[i].high
    rw [e1] at e2
    repeat' (first
      | ((with_reducible apply call0); (focus rfl); (focus exact cal_In); (focus exact e2); (focus rfl))
      | ((with_reducible apply je_call0); (focus rfl); (focus (decide +kernel)); (focus rfl); (focus exact cal_In); (focus exact e2); (focus rfl))
      | ((with_reducible apply qcall); (focus rfl); (focus exact cal_In); (focus exact e2); (focus rfl))
      | exact True.intro
      | refine stph ?_
      | refine two ?_ ?_
      | refine allc fun c_ => ?_
      | (refine imp fun hc => ?_) <;> try (first | contradiction | (exfalso; omega) | (exfalso; exact absurd (of_dT hc) (by assumption)) | (exfalso; exact of_dF hc (by assumption)))
      | refine all fun v_ => ?_)
    all_goals
      refine retv (VS.drop (List.nil_sublist _)) ?_
      ((with_reducible apply rq2); rfl; rfl; rfl)
      exact ret_eq (by rw [h4])
  replace cl := Decidable.not_not.1 cl
  rw [if_pos cl] at h4
  have e1 : decide (m.vars[i].low ≤ xs[i] ∧ xs[i] ≤ m.vars[i].high) = true := decide_eq_true cl
  have e2 := In G xs[i] m.vars[i].low m.vars[i].high
  rw [e1] at e2
  have hsp : spanV m.vars[i] = m.vars[i].high - m.vars[i].low + 1 := rfl
  rw [prodV_drop _ _ hi] at h3
  have hq := (g.take (i + 1)).2.2
  obtain ⟨s1, s2, s3⟩ := sum_step (d := xs[i] - m.vars[i].low) h2 h3 hq.1 (by omega) (by omega)
  have ha := g.all
  have e3 := behindVar G m g hl6 (i + 1) (by omega) i (by omega)
  have hin : inI64 ((xs[i] - m.vars[i].low) * prodV (m.vars.drop (i + 1))) := ⟨by omega, by omega⟩
  repeat' (first
    | ((with_reducible apply call0); (focus rfl); (focus exact cal_In); (focus exact e2); (focus rfl))
    | ((with_reducible apply je_call0); (focus rfl); (focus (decide +kernel)); (focus rfl); (focus exact cal_In); (focus exact e2); (focus rfl))
    | ((with_reducible apply qcall); (focus rfl); (focus exact cal_In); (focus exact e2); (focus rfl))
    | ((with_reducible apply call0); (focus rfl); (focus exact cal_behindVar); (focus exact e3); (focus rfl))
    | ((with_reducible apply je_call0); (focus rfl); (focus (decide +kernel)); (focus rfl); (focus exact cal_behindVar); (focus exact e3); (focus rfl))
    | ((with_reducible apply qcall); (focus rfl); (focus exact cal_behindVar); (focus exact e3); (focus rfl))
    | exact True.intro
    | refine stph ?_
    | refine two ?_ ?_
    | refine allc fun c_ => ?_
    | (refine imp fun hc => ?_) <;> try (first | contradiction | (exfalso; omega) | (exfalso; exact absurd (of_dT hc) (by assumption)) | (exfalso; exact of_dF hc (by assumption)))
    | refine all fun v_ => ?_)
  refine ⟨(i + 1, n + (xs[i] - m.vars[i].low) * prodV (m.vars.drop (i + 1))), ⟨by dsimp only; omega, s2, s3, h4⟩, by dsimp only; omega, VS.of_le ?_⟩
  repeat (first
    | exact Env.le_nil _
    | refine Env.le_cons (AV.le_refl _) ?_
    | refine Env.le_cons (AV.le_int rfl (by first | rfl | omega | (dsimp only; omega))) ?_)
end Go.Proofs.YtacdheachjnejaaDoor
