/- A bundle of this claim's own texts: M6 G6. -/
import Derived.Test.YtcikppldaepodaaGreatDoorZ9
import Derived.Test.YtcikppldaepodaaGreatDoorZ10
namespace Go.Proofs.YtcikppldaepodaaGreatDoor
open Go Go.Av Go.Sp
set_option linter.unusedVariables false
set_option linter.unusedSimpArgs false
set_option maxRecDepth 100000
set_option maxHeartbeats 4000000

theorem cal_Code : Cal Tryz.prog 142 := Cal.of Tryz.func142 (by kernel_rfl) (by kernel_rfl)
theorem cal_CodeOf : Cal Tryz.prog 113 := Cal.of Tryz.func113 (by kernel_rfl) (by kernel_rfl)
theorem Code (m : Md) (xs : List Int) : ACr Tryz.prog GP 142 [mdA m, .d (intsD xs)] (.tup [.int (codeF m xs).1, .int (codeF m xs).2]) := by
  refine AC.factI (f := intC) (xs := xs) (.there .here) fun hlx => ?_
  refine AC_ofV (ts := [4, 5]) Tryz.f142.ntmps Tryz.func142 rfl rfl rfl (by simp [Tryz.ntmps142]) fun W I => ?_
  by_cases c1 : modelF m ≠ 0
  · all_goals haveI fA_ : FlagA := ⟨⟩
    all_goals haveI fH_ : FlagH := ⟨⟩
    repeat' (first
      | ((with_reducible apply call0); (focus rfl); (focus exact cal_MdCheck); (focus exact MdCheck _); (focus rfl))
      | ((with_reducible apply je_call0); (focus rfl); (focus (decide +kernel)); (focus rfl); (focus exact cal_MdCheck); (focus exact MdCheck _); (focus rfl))
      | exact True.intro
      | refine stp ?_
      | refine two ?_ ?_
      | refine allc fun c_ => ?_
      | (refine imp fun hc => ?_) <;> try (first | contradiction | (exfalso; omega) | (exfalso; exact absurd (of_dT hc) (by assumption)) | (exfalso; exact of_dF hc (by assumption)))
      | refine all fun v_ => ?_)
    all_goals clear fA_ fH_
    refine retv (VS.drop (List.nil_sublist _)) ?_
    ((with_reducible apply rq2); rfl; rfl; rfl)
    exact ret_eq (by rw [codeF, if_pos c1])
  have hv := modelF_vars (show modelF m = 0 by omega)
  have g := goodV hv
  have hl6 := varsF_len hv
  by_cases c2 : xs.length ≠ m.vars.length
  · all_goals haveI fA_ : FlagA := ⟨⟩
    all_goals haveI fH_ : FlagH := ⟨⟩
    repeat' (first
      | ((with_reducible apply call0); (focus rfl); (focus exact cal_MdCheck); (focus exact MdCheck _); (focus rfl))
      | ((with_reducible apply je_call0); (focus rfl); (focus (decide +kernel)); (focus rfl); (focus exact cal_MdCheck); (focus exact MdCheck _); (focus rfl))
      | exact True.intro
      | refine stp ?_
      | refine two ?_ ?_
      | refine allc fun c_ => ?_
      | (refine imp fun hc => ?_) <;> try (first | contradiction | (exfalso; omega) | (exfalso; exact absurd (of_dT hc) (by assumption)) | (exfalso; exact of_dF hc (by assumption)))
      | refine all fun v_ => ?_)
    all_goals clear fA_ fH_
    refine retv (VS.drop (List.nil_sublist _)) ?_
    ((with_reducible apply rq2); rfl; rfl; rfl)
    exact ret_eq (by rw [codeF, if_neg c1, if_pos c2])
  have hF : codeF m xs = codeE 0 m.vars xs := by rw [codeF, if_neg c1, if_neg c2]
  have hxl : xs.length = m.vars.length := Decidable.not_not.1 c2
  clear c2
  all_goals haveI fA_ : FlagA := ⟨⟩
  all_goals haveI fH_ : FlagH := ⟨⟩
  repeat' (first
    | ((with_reducible apply call0); (focus rfl); (focus exact cal_MdCheck); (focus exact MdCheck _); (focus rfl))
    | ((with_reducible apply je_call0); (focus rfl); (focus (decide +kernel)); (focus rfl); (focus exact cal_MdCheck); (focus exact MdCheck _); (focus rfl))
    | exact True.intro
    | refine stp ?_
    | refine two ?_ ?_
    | refine allc fun c_ => ?_
    | (refine imp fun hc => ?_) <;> try (first | contradiction | (exfalso; omega) | (exfalso; exact absurd (of_dT hc) (by assumption)) | (exfalso; exact of_dF hc (by assumption)))
    | refine all fun v_ => ?_)
  all_goals clear fA_ fH_
  refine J_loopV (X := Nat × Int) (fun y => [(1, .d (intsD xs)), (7, .int y.2), (22, .d (varsD m.vars)), (23, .int m.vars.length), (24, .int y.1)]) (fun _ => []) (fun y => y.1 ≤ m.vars.length ∧ 0 ≤ y.2 ∧ y.2 + 1 ≤ prodV (m.vars.take y.1) ∧ codeF m xs = codeE y.2 (m.vars.drop y.1) (xs.drop y.1)) (fun y => m.vars.length - y.1) (0, 0) ⟨Nat.zero_le _, by decide, by simp [prodV], hF⟩ (VS.trans (VS.drop (List.nil_sublist _)) (VS.of_le ?_)) ?_
  · repeat (first
      | exact Env.le_nil _
      | refine Env.le_cons (AV.le_refl _) ?_
      | refine Env.le_cons (AV.le_int rfl (by first | rfl | omega | (dsimp only; omega))) ?_)
  rintro ⟨i, n⟩ ⟨h1, h2, h3, h4⟩
  dsimp only at h1 h2 h3 h4 ⊢
  by_cases hi : ¬ i < m.vars.length
  · rw [codeE_end _ _ _ _ (by omega)] at h4
    all_goals haveI fA_ : FlagA := ⟨⟩
    all_goals haveI fH_ : FlagH := ⟨⟩
    repeat' (first
      | ((with_reducible apply call0); (focus rfl); (focus exact cal_MdCheck); (focus exact MdCheck _); (focus rfl))
      | ((with_reducible apply je_call0); (focus rfl); (focus (decide +kernel)); (focus rfl); (focus exact cal_MdCheck); (focus exact MdCheck _); (focus rfl))
      | exact True.intro
      | refine stp ?_
      | refine two ?_ ?_
      | refine allc fun c_ => ?_
      | (refine imp fun hc => ?_) <;> try (first | contradiction | (exfalso; omega) | (exfalso; exact absurd (of_dT hc) (by assumption)) | (exfalso; exact of_dF hc (by assumption)))
      | refine all fun v_ => ?_)
    all_goals clear fA_ fH_
    refine retv (VS.drop (List.nil_sublist _)) ?_
    ((with_reducible apply rq2); rfl; rfl; rfl)
    exact ret_eq (by rw [h4])
  replace hi := Decidable.not_not.1 hi
  have hi' : i < xs.length := by omega
  rw [codeE_at _ _ _ _ hi hi'] at h4
  obtain ⟨d1, d2, d3, d4, d5⟩ := g.range _ (List.getElem_mem hi)
  by_cases cl : xs[i] < m.vars[i].low
  · rw [if_neg (by omega)] at h4
    all_goals haveI fA_ : FlagA := ⟨⟩
    all_goals haveI fH_ : FlagH := ⟨⟩
    repeat' (first
      | ((with_reducible apply call0); (focus rfl); (focus exact cal_MdCheck); (focus exact MdCheck _); (focus rfl))
      | ((with_reducible apply je_call0); (focus rfl); (focus (decide +kernel)); (focus rfl); (focus exact cal_MdCheck); (focus exact MdCheck _); (focus rfl))
      | exact True.intro
      | refine stp ?_
      | refine two ?_ ?_
      | refine allc fun c_ => ?_
      | (refine imp fun hc => ?_) <;> try (first | contradiction | (exfalso; omega) | (exfalso; exact absurd (of_dT hc) (by assumption)) | (exfalso; exact of_dF hc (by assumption)))
      | refine all fun v_ => ?_)
    all_goals clear fA_ fH_
    all_goals
      refine retv (VS.drop (List.nil_sublist _)) ?_
      ((with_reducible apply rq2); rfl; rfl; rfl)
      exact ret_eq (by rw [h4])
  by_cases ch : m.vars[i].high < xs[i]
  · rw [if_neg (by omega)] at h4
    all_goals haveI fA_ : FlagA := ⟨⟩
    all_goals haveI fH_ : FlagH := ⟨⟩
    repeat' (first
      | ((with_reducible apply call0); (focus rfl); (focus exact cal_MdCheck); (focus exact MdCheck _); (focus rfl))
      | ((with_reducible apply je_call0); (focus rfl); (focus (decide +kernel)); (focus rfl); (focus exact cal_MdCheck); (focus exact MdCheck _); (focus rfl))
      | exact True.intro
      | refine stp ?_
      | refine two ?_ ?_
      | refine allc fun c_ => ?_
      | (refine imp fun hc => ?_) <;> try (first | contradiction | (exfalso; omega) | (exfalso; exact absurd (of_dT hc) (by assumption)) | (exfalso; exact of_dF hc (by assumption)))
      | refine all fun v_ => ?_)
    all_goals clear fA_ fH_
    all_goals
      refine retv (VS.drop (List.nil_sublist _)) ?_
      ((with_reducible apply rq2); rfl; rfl; rfl)
      exact ret_eq (by rw [h4])
  rw [if_pos (by omega)] at h4
  have hsp : spanV m.vars[i] = m.vars[i].high - m.vars[i].low + 1 := rfl
  obtain ⟨s1, s2, s3⟩ := horner_step (s := spanV m.vars[i]) (d := xs[i] - m.vars[i].low) h2 h3 (by omega) (by omega)
  rw [← prodV_take_succ m.vars i hi] at s3
  have b2 := (g.take (i + 1)).2.1
  rw [hsp] at s1 s2 s3 h4
  have hin : inI64 (n * (m.vars[i].high - m.vars[i].low + 1)) := ⟨by omega, by omega⟩
  all_goals haveI fA_ : FlagA := ⟨⟩
  all_goals haveI fH_ : FlagH := ⟨⟩
  repeat' (first
    | ((with_reducible apply call0); (focus rfl); (focus exact cal_MdCheck); (focus exact MdCheck _); (focus rfl))
    | ((with_reducible apply je_call0); (focus rfl); (focus (decide +kernel)); (focus rfl); (focus exact cal_MdCheck); (focus exact MdCheck _); (focus rfl))
    | exact True.intro
    | refine stp ?_
    | refine two ?_ ?_
    | refine allc fun c_ => ?_
    | (refine imp fun hc => ?_) <;> try (first | contradiction | (exfalso; omega) | (exfalso; exact absurd (of_dT hc) (by assumption)) | (exfalso; exact of_dF hc (by assumption)))
    | refine all fun v_ => ?_)
  all_goals clear fA_ fH_
  refine ⟨(i + 1, n * (m.vars[i].high - m.vars[i].low + 1) + (xs[i] - m.vars[i].low)), ⟨by dsimp only; omega, s2, s3, h4⟩, by dsimp only; omega, ?_⟩
  dsimp only
  rw [show n * (m.vars[i].high - m.vars[i].low + 1) + (xs[i] - m.vars[i].low) = n * (m.vars[i].high - m.vars[i].low + 1) + xs[i] - m.vars[i].low by omega]
  refine VS.trans (VS.drop (List.nil_sublist _)) (VS.of_le ?_)
  repeat (first
    | exact Env.le_nil _
    | refine Env.le_cons (AV.le_refl _) ?_
    | refine Env.le_cons (AV.le_int rfl (by first | rfl | omega | (dsimp only; omega))) ?_)
theorem CodeOf (G : List (Nat × List D)) (m : Md) (xs : List Int) : ACr Tryz.prog G 113 [mdA m, .d (intsD xs)] (.tup [.int (codeF m xs).1, .int (codeF m xs).2]) := by
  refine AC.factI (f := intC) (xs := xs) (.there .here) fun hlx => ?_
  refine AC_ofV (ts := [4, 5]) Tryz.f113.ntmps Tryz.func113 rfl rfl rfl (by simp [Tryz.ntmps113]) fun W I => ?_
  by_cases c1 : modelF m ≠ 0
  · all_goals haveI fA_ : FlagA := ⟨⟩
    all_goals haveI fH_ : FlagH := ⟨⟩
    repeat' (first
      | ((with_reducible apply call0); (focus rfl); (focus exact cal_ModelFault); (focus exact ModelFault _ _); (focus rfl))
      | ((with_reducible apply je_call0); (focus rfl); (focus (decide +kernel)); (focus rfl); (focus exact cal_ModelFault); (focus exact ModelFault _ _); (focus rfl))
      | ((with_reducible apply call0); (focus rfl); (focus exact cal_In); (focus exact In _ _ _ _); (focus rfl))
      | ((with_reducible apply je_call0); (focus rfl); (focus (decide +kernel)); (focus rfl); (focus exact cal_In); (focus exact In _ _ _ _); (focus rfl))
      | exact True.intro
      | refine stp ?_
      | refine two ?_ ?_
      | refine allc fun c_ => ?_
      | (refine imp fun hc => ?_) <;> try (first | contradiction | (exfalso; omega) | (exfalso; exact absurd (of_dT hc) (by assumption)) | (exfalso; exact of_dF hc (by assumption)))
      | refine all fun v_ => ?_)
    all_goals clear fA_ fH_
    refine retv (VS.drop (List.nil_sublist _)) ?_
    ((with_reducible apply rq2); rfl; rfl; rfl)
    exact ret_eq (by rw [codeF, if_pos c1])
  have hv := modelF_vars (show modelF m = 0 by omega)
  have g := goodV hv
  have hl6 := varsF_len hv
  by_cases c2 : xs.length ≠ m.vars.length
  · all_goals haveI fA_ : FlagA := ⟨⟩
    all_goals haveI fH_ : FlagH := ⟨⟩
    repeat' (first
      | ((with_reducible apply call0); (focus rfl); (focus exact cal_ModelFault); (focus exact ModelFault _ _); (focus rfl))
      | ((with_reducible apply je_call0); (focus rfl); (focus (decide +kernel)); (focus rfl); (focus exact cal_ModelFault); (focus exact ModelFault _ _); (focus rfl))
      | ((with_reducible apply call0); (focus rfl); (focus exact cal_In); (focus exact In _ _ _ _); (focus rfl))
      | ((with_reducible apply je_call0); (focus rfl); (focus (decide +kernel)); (focus rfl); (focus exact cal_In); (focus exact In _ _ _ _); (focus rfl))
      | exact True.intro
      | refine stp ?_
      | refine two ?_ ?_
      | refine allc fun c_ => ?_
      | (refine imp fun hc => ?_) <;> try (first | contradiction | (exfalso; omega) | (exfalso; exact absurd (of_dT hc) (by assumption)) | (exfalso; exact of_dF hc (by assumption)))
      | refine all fun v_ => ?_)
    all_goals clear fA_ fH_
    refine retv (VS.drop (List.nil_sublist _)) ?_
    ((with_reducible apply rq2); rfl; rfl; rfl)
    exact ret_eq (by rw [codeF, if_neg c1, if_pos c2])
  have hxl : xs.length = m.vars.length := Decidable.not_not.1 c2
  have hF := codeF_T m xs (by omega) hxl
  clear c2
  all_goals haveI fA_ : FlagA := ⟨⟩
  all_goals haveI fH_ : FlagH := ⟨⟩
  repeat' (first
    | ((with_reducible apply call0); (focus rfl); (focus exact cal_ModelFault); (focus exact ModelFault _ _); (focus rfl))
    | ((with_reducible apply je_call0); (focus rfl); (focus (decide +kernel)); (focus rfl); (focus exact cal_ModelFault); (focus exact ModelFault _ _); (focus rfl))
    | ((with_reducible apply call0); (focus rfl); (focus exact cal_In); (focus exact In _ _ _ _); (focus rfl))
    | ((with_reducible apply je_call0); (focus rfl); (focus (decide +kernel)); (focus rfl); (focus exact cal_In); (focus exact In _ _ _ _); (focus rfl))
    | exact True.intro
    | refine stp ?_
    | refine two ?_ ?_
    | refine allc fun c_ => ?_
    | (refine imp fun hc => ?_) <;> try (first | contradiction | (exfalso; omega) | (exfalso; exact absurd (of_dT hc) (by assumption)) | (exfalso; exact of_dF hc (by assumption)))
    | refine all fun v_ => ?_)
  all_goals clear fA_ fH_
  refine J_loopV (X := Nat × Int) (fun y => [(1, .d (intsD xs)), (2, .val (.pointer (some ⟨v_, 0, none⟩))), (7, .int y.2), (8, .int y.1)]) (fun _ => [.cells v_ 25 [.d (varsD m.vars), .d (rulesD m.rules)]]) (fun y => y.1 ≤ m.vars.length ∧ 0 ≤ y.2 ∧ y.2 + prodV (m.vars.drop y.1) ≤ prodV m.vars ∧ codeF m xs = codeT y.2 (m.vars.drop y.1) (xs.drop y.1)) (fun y => m.vars.length - y.1) (0, 0) ⟨Nat.zero_le _, by decide, by simp, hF⟩ (VS.of_le ?_) ?_
  · repeat (first
      | exact Env.le_nil _
      | refine Env.le_cons (AV.le_refl _) ?_
      | refine Env.le_cons (AV.le_int rfl (by first | rfl | omega | (dsimp only; omega))) ?_)
  rintro ⟨i, n⟩ ⟨h1, h2, h3, h4⟩
  dsimp only at h1 h2 h3 h4 ⊢
  by_cases hi : ¬ i < m.vars.length
  · rw [codeT_end _ _ _ _ (by omega)] at h4
    all_goals haveI fA_ : FlagA := ⟨⟩
    all_goals haveI fH_ : FlagH := ⟨⟩
    repeat' (first
      | ((with_reducible apply call0); (focus rfl); (focus exact cal_ModelFault); (focus exact ModelFault _ _); (focus rfl))
      | ((with_reducible apply je_call0); (focus rfl); (focus (decide +kernel)); (focus rfl); (focus exact cal_ModelFault); (focus exact ModelFault _ _); (focus rfl))
      | ((with_reducible apply call0); (focus rfl); (focus exact cal_In); (focus exact In _ _ _ _); (focus rfl))
      | ((with_reducible apply je_call0); (focus rfl); (focus (decide +kernel)); (focus rfl); (focus exact cal_In); (focus exact In _ _ _ _); (focus rfl))
      | exact True.intro
      | refine stp ?_
      | refine two ?_ ?_
      | refine allc fun c_ => ?_
      | (refine imp fun hc => ?_) <;> try (first | contradiction | (exfalso; omega) | (exfalso; exact absurd (of_dT hc) (by assumption)) | (exfalso; exact of_dF hc (by assumption)))
      | refine all fun v_ => ?_)
    all_goals clear fA_ fH_
    refine retv (VS.drop (List.nil_sublist _)) ?_
    ((with_reducible apply rq2); rfl; rfl; rfl)
    exact ret_eq (by rw [h4])
  replace hi := Decidable.not_not.1 hi
  have hi' : i < xs.length := by omega
  rw [codeT_at _ _ _ _ hi hi'] at h4
  obtain ⟨d1, d2, d3, d4, d5⟩ := g.range _ (List.getElem_mem hi)
  by_cases cl : ¬ (m.vars[i].low ≤ xs[i] ∧ xs[i] ≤ m.vars[i].high)
  · rw [if_neg cl] at h4
    have e1 : decide (m.vars[i].low ≤ xs[i] ∧ xs[i] ≤ m.vars[i].high) = false := decide_eq_false cl
    have e2 := In G xs[i] m.vars[i].low m.vars[i].high
    rw [e1] at e2
    all_goals haveI fA_ : FlagA := ⟨⟩
    all_goals haveI fH_ : FlagH := ⟨⟩
    repeat' (first
      | ((with_reducible apply call0); (focus rfl); (focus exact cal_In); (focus exact e2); (focus rfl))
      | ((with_reducible apply je_call0); (focus rfl); (focus (decide +kernel)); (focus rfl); (focus exact cal_In); (focus exact e2); (focus rfl))
      | ((with_reducible apply qcall); (focus rfl); (focus exact cal_In); (focus exact e2); (focus rfl))
      | exact True.intro
      | refine stp ?_
      | refine two ?_ ?_
      | refine allc fun c_ => ?_
      | (refine imp fun hc => ?_) <;> try (first | contradiction | (exfalso; omega) | (exfalso; exact absurd (of_dT hc) (by assumption)) | (exfalso; exact of_dF hc (by assumption)))
      | refine all fun v_ => ?_)
    all_goals clear fA_ fH_
    all_goals
      refine retv (VS.drop (List.nil_sublist _)) ?_
      ((with_reducible apply rq2); rfl; rfl; rfl)
      exact ret_eq (by rw [h4])
  replace cl := Decidable.not_not.1 cl
  rw [if_pos cl] at h4
  have e1 : decide (m.vars[i].low ≤ xs[i] ∧ xs[i] ≤ m.vars[i].high) = true := decide_eq_true cl
  have e2 := In G xs[i] m.vars[i].low m.vars[i].high
  rw [e1] at e2
  have hsp : spanV m.vars[i] = m.vars[i].high - m.vars[i].low + 1 := rfl
  rw [prodV_drop _ _ hi] at h3
  have hq := (g.take (i + 1)).2.2
  obtain ⟨s1, s2, s3⟩ := sum_step (d := xs[i] - m.vars[i].low) h2 h3 hq.1 (by omega) (by omega)
  have ha := g.all
  have e3 := behindVar G m g hl6 (i + 1) (by omega) i (by omega)
  have hin : inI64 ((xs[i] - m.vars[i].low) * prodV (m.vars.drop (i + 1))) := ⟨by omega, by omega⟩
  all_goals haveI fA_ : FlagA := ⟨⟩
  all_goals haveI fH_ : FlagH := ⟨⟩
  repeat' (first
    | ((with_reducible apply call0); (focus rfl); (focus exact cal_In); (focus exact e2); (focus rfl))
    | ((with_reducible apply je_call0); (focus rfl); (focus (decide +kernel)); (focus rfl); (focus exact cal_In); (focus exact e2); (focus rfl))
    | ((with_reducible apply qcall); (focus rfl); (focus exact cal_In); (focus exact e2); (focus rfl))
    | ((with_reducible apply call0); (focus rfl); (focus exact cal_behindVar); (focus exact e3); (focus rfl))
    | ((with_reducible apply je_call0); (focus rfl); (focus (decide +kernel)); (focus rfl); (focus exact cal_behindVar); (focus exact e3); (focus rfl))
    | ((with_reducible apply qcall); (focus rfl); (focus exact cal_behindVar); (focus exact e3); (focus rfl))
    | exact True.intro
    | refine stp ?_
    | refine two ?_ ?_
    | refine allc fun c_ => ?_
    | (refine imp fun hc => ?_) <;> try (first | contradiction | (exfalso; omega) | (exfalso; exact absurd (of_dT hc) (by assumption)) | (exfalso; exact of_dF hc (by assumption)))
    | refine all fun v_ => ?_)
  all_goals clear fA_ fH_
  refine ⟨(i + 1, n + (xs[i] - m.vars[i].low) * prodV (m.vars.drop (i + 1))), ⟨by dsimp only; omega, s2, s3, h4⟩, by dsimp only; omega, VS.of_le ?_⟩
  repeat (first
    | exact Env.le_nil _
    | refine Env.le_cons (AV.le_refl _) ?_
    | refine Env.le_cons (AV.le_int rfl (by first | rfl | omega | (dsimp only; omega))) ?_)
end Go.Proofs.YtcikppldaepodaaGreatDoor
namespace Go.Sp
open Go Go.Av
set_option linter.unusedVariables false
set_option linter.unusedSimpArgs false

def valsT : List Vr → Int → List Int
  | [], _ => []
  | v :: l, c => (v.low + c / prodV l) :: valsT l (c % prodV l)
theorem valsT_length : ∀ (l : List Vr) (c : Int), (valsT l c).length = l.length
  | [], _ => rfl
  | _ :: l, c => by simp [valsT, valsT_length l]
theorem valsT_at (l : List Vr) (i : Nat) (c : Int) (h : i < l.length) : valsT (l.drop i) c = (l[i].low + c / prodV (l.drop (i + 1))) :: valsT (l.drop (i + 1)) (c % prodV (l.drop (i + 1))) := by
  rw [List.drop_eq_getElem_cons h, valsT]
theorem dig_eq (c q s t : Int) (hq : 0 < q) : (c % (t * (s * q))) / q % s = c / q % s := by
  have e : c % (t * (s * q)) = c + (-(t * (c / (t * (s * q)))) * s) * q := by
    rw [Int.emod_def, show t * (s * q) * (c / (t * (s * q))) = t * (c / (t * (s * q))) * s * q by
      rw [Int.mul_assoc t (s * q), Int.mul_comm (s * q), ← Int.mul_assoc, ← Int.mul_assoc]]
    rw [Int.neg_mul, Int.neg_mul]
    omega
  rw [e, Int.add_mul_ediv_right _ _ (by omega), Int.add_mul_emod_self_right]
theorem valsT_get : ∀ (l : List Vr) (c : Int) (i : Nat) (_ : ∀ v ∈ l, 1 ≤ spanV v) (_ : 0 ≤ c) (_ : c < prodV l) (h : i < l.length) (h' : i < (valsT l c).length), (valsT l c)[i] = l[i].low + c / prodV (l.drop (i + 1)) % spanV l[i]
  | [], _, _, _, _, _, h, _ => by simp at h
  | v :: l, c, 0, hs, h0, hc, _, _ => by
    have hp := prodV_pos fun w hw => hs w (List.mem_cons_of_mem v hw)
    simp only [valsT, List.getElem_cons_zero, List.drop_succ_cons, List.drop_zero]
    rw [Int.emod_eq_of_lt (Int.ediv_nonneg h0 (by omega)) (Int.ediv_lt_of_lt_mul (by omega) hc)]
  | v :: l, c, i + 1, hs, h0, hc, h, h' => by
    have hl : ∀ w ∈ l, 1 ≤ spanV w := fun w hw => hs w (List.mem_cons_of_mem v hw)
    have hp := prodV_pos hl
    have hi : i < l.length := by simpa using h
    have hq := prodV_pos fun w hw => hl w (List.mem_of_mem_drop (i := i + 1) hw)
    have e : prodV l = prodV (l.take i) * (spanV l[i] * prodV (l.drop (i + 1))) := by
      rw [← prodV_drop l i hi, ← prodV_append, List.take_append_drop]
    simp only [valsT, List.getElem_cons_succ, List.drop_succ_cons]
    rw [valsT_get l _ i hl (Int.emod_nonneg _ (by omega)) (Int.emod_lt_of_pos _ (by omega)) hi, e, dig_eq _ _ _ _ (by omega)]
noncomputable def valsF (m : Md) (c : Int) : List Int × Int := if modelF m ≠ 0 then ([], modelF m) else if 0 ≤ c ∧ c < prodV m.vars then (valsT m.vars c, 0) else ([], 9)
theorem quo_quo (c q s : Int) (hq : 0 ≤ q) : c / q / s = c / (s * q) := by rw [Int.ediv_ediv, if_neg (by omega), Int.sub_zero, Int.mul_comm]
def fillV (V : List Int) (k : Nat) : List Int := List.replicate k 0 ++ V.drop k
theorem fillV_length (V : List Int) (k : Nat) (h : k ≤ V.length) : (fillV V k).length = V.length := by simp [fillV]; omega
theorem fillV_set (V : List Int) (k : Nat) (h : k < V.length) : (fillV V (k + 1)).set k V[k] = fillV V k := by
  unfold fillV
  rw [List.replicate_succ', List.append_assoc, List.set_append_right _ _ (by simp), List.drop_eq_getElem_cons h]
  simp
end Go.Sp
