/- A bundle of this claim's own texts: G4 M5. -/
import Derived.Test.YtajnpfgelpkijaaDoorZ5
import Derived.Test.YtajnpfgelpkijaaDoorZ9
set_option linter.unusedVariables false
set_option linter.unusedSimpArgs false
set_option maxRecDepth 100000
set_option maxHeartbeats 4000000
namespace Go.Sp
open Go Go.Av

noncomputable def propsE (vars : Int) : List (List Fo) → Int
 | [] => 0
 | p :: l => if kindF p vars true ≠ 0 then kindF p vars true else propsE vars l
theorem propsE_at (vars : Int) (l : List (List Fo)) (i : Nat) (h : i < l.length) : propsE vars (l.drop i) = if kindF l[i] vars true ≠ 0 then kindF l[i] vars true else propsE vars (l.drop (i + 1)) := by
 rw [List.drop_eq_getElem_cons h, propsE]
theorem propsE_end (vars : Int) (l : List (List Fo)) (i : Nat) (h : l.length ≤ i) : propsE vars (l.drop i) = 0 := by rw [List.drop_of_length_le h, propsE]
noncomputable def propsF (m : Md) (l : List (List Fo)) : Int := if modelF m ≠ 0 then modelF m else if 6 < l.length then 1 else propsE m.vars.length l

theorem modelF_vars {m : Md} (h : modelF m = 0) : varsF m.vars = 0 := by
 unfold modelF at h
 by_cases c : varsF m.vars ≠ 0
 · rw [if_pos c] at h; exact absurd h c
 · omega
end Go.Sp
namespace Go.Proofs.YtajnpfgelpkijaaDoor
open Go Go.Av Go.Sp

theorem cal_Props : Cal Tryd.prog 23 := Cal.of Tryd.func23 (by kernel_rfl) (by kernel_rfl)
theorem cal_PropsFault : Cal Tryd.prog 27 := Cal.of Tryd.func27 (by kernel_rfl) (by kernel_rfl)
theorem Props (m : Md) (l : List (List Fo)) : ACr Tryd.prog GP 23 [mdA m, .d (termsD l)] (.int (propsF m l)) := by
 refine AC_ofV (ts := [4]) Tryd.f23.ntmps Tryd.func23 rfl rfl rfl (by simp [Tryd.ntmps23]) fun W I => ?_
 by_cases c1 : modelF m ≠ 0
 · repeat' (first
    | refine ca cal_MdCheck (MdCheck _) ?_
    | refine ca cal_kind (kind _ _ _) ?_
    | exact True.intro | refine stpH ?_ | refine two ?_ ?_ | refine allc fun c_ => ?_
    | (refine imp fun hc => ?_) <;> try exact cx1 hc
    | refine all fun v_ => ?_)
   refine retv (VS.drop (List.nil_sublist _)) ?_
   ((with_reducible apply rq1); rfl; rfl)
   exact ret_eq (by rw [propsF, if_pos c1])
 by_cases c2 : 6 < l.length
 · repeat' (first
    | refine ca cal_MdCheck (MdCheck _) ?_
    | refine ca cal_kind (kind _ _ _) ?_
    | exact True.intro | refine stpH ?_ | refine two ?_ ?_ | refine allc fun c_ => ?_
    | (refine imp fun hc => ?_) <;> try exact cx1 hc
    | refine all fun v_ => ?_)
   refine retv (VS.drop (List.nil_sublist _)) ?_
   ((with_reducible apply rq1); rfl; rfl)
   exact ret_eq (by rw [propsF, if_neg c1, if_pos c2])
 have hF : propsF m l = propsE m.vars.length l := by rw [propsF, if_neg c1, if_neg c2]
 repeat' (first
  | refine ca cal_MdCheck (MdCheck _) ?_
  | refine ca cal_kind (kind _ _ _) ?_
  | exact True.intro | refine stpH ?_ | refine two ?_ ?_ | refine allc fun c_ => ?_
  | (refine imp fun hc => ?_) <;> try exact cx1 hc
  | refine all fun v_ => ?_)
 refine J_loopV (X := Nat) (fun i => [(2, .val (.pointer (some ⟨v_, 0, none⟩))), (17, .d (termsD l)), (18, .int l.length), (19, .int i)]) (fun _ => [.cells v_ 25 [.d (varsD m.vars), .d (rulesD m.rules)]]) (fun i => i ≤ l.length ∧ propsF m l = propsE m.vars.length (l.drop i)) (fun i => l.length - i) 0 ⟨Nat.zero_le _, hF⟩ (VS.of_le ?_) ?_
 · exact leD
 rintro i ⟨h1, h4⟩
 by_cases hi : ¬ i < l.length
 · rw [propsE_end _ _ i (by omega)] at h4
   repeat' (first
    | refine ca cal_MdCheck (MdCheck _) ?_
    | refine ca cal_kind (kind _ _ _) ?_
    | exact True.intro | refine stpH ?_ | refine two ?_ ?_ | refine allc fun c_ => ?_
    | (refine imp fun hc => ?_) <;> try exact cx1 hc
    | refine all fun v_ => ?_)
   refine retv (VS.drop (List.nil_sublist _)) ?_
   ((with_reducible apply rq1); rfl; rfl)
   exact ret_eq (by rw [h4])
 replace hi := Decidable.not_not.1 hi
 rw [propsE_at _ _ i hi] at h4
 by_cases c3 : kindF l[i] m.vars.length true ≠ 0
 · rw [if_pos c3] at h4
   repeat' (first
    | refine ca cal_MdCheck (MdCheck _) ?_
    | refine ca cal_kind (kind _ _ _) ?_
    | exact True.intro | refine stpH ?_ | refine two ?_ ?_ | refine allc fun c_ => ?_
    | (refine imp fun hc => ?_) <;> try exact cx1 hc
    | refine all fun v_ => ?_)
   refine retv (VS.drop (List.nil_sublist _)) ?_
   ((with_reducible apply rq1); rfl; rfl)
   exact ret_eq (by rw [h4])
 rw [if_neg c3] at h4
 repeat' (first
  | refine ca cal_MdCheck (MdCheck _) ?_
  | refine ca cal_kind (kind _ _ _) ?_
  | exact True.intro | refine stpH ?_ | refine two ?_ ?_ | refine allc fun c_ => ?_
  | (refine imp fun hc => ?_) <;> try exact cx1 hc
  | refine all fun v_ => ?_)
 refine ⟨i + 1, ⟨by omega, h4⟩, by omega, VS.take (by exact takeD) ?_⟩
 exact leD
theorem PropsFault (G : List (Nat × List D)) (m : Md) (l : List (List Fo)) : ACr Tryd.prog G 27 [mdA m, .d (termsD l)] (.int (propsF m l)) := by
 refine AC.factI (f := termC) (xs := l) (.there .here) fun hlt => ?_
 refine AC_ofV (ts := [4]) Tryd.f27.ntmps Tryd.func27 rfl rfl rfl (by simp [Tryd.ntmps27]) fun W I => ?_
 by_cases c1 : modelF m ≠ 0
 · repeat' (first
    | refine ca cal_ModelFault (ModelFault _ _) ?_
    | refine ca cal_kindFault (kindFault _ _ _ _) ?_
    | exact True.intro | refine stpH ?_ | refine two ?_ ?_ | refine allc fun c_ => ?_
    | (refine imp fun hc => ?_) <;> try exact cx1 hc
    | refine all fun v_ => ?_)
   refine J_loopV (X := Nat × Int) (fun y => [(1, .d (termsD l)), (2, .val (.pointer (some ⟨v_, 0, none⟩))), (5, .int y.2), (6, .int y.1)]) (fun _ => [.cells v_ 25 [.d (varsD m.vars), .d (rulesD m.rules)]]) (fun y => y.1 ≤ l.length ∧ propsF m l = (if y.2 ≠ 0 then y.2 else propsE m.vars.length (l.drop y.1))) (fun y => l.length - y.1) (0, modelF m) ⟨Nat.zero_le _, by rw [if_pos c1, propsF, if_pos c1]⟩ (VS.of_le ?_) ?_
   · exact leD
   rintro ⟨i, e⟩ ⟨h1, h4⟩
   dsimp only at h1 h4 ⊢
   by_cases he : e ≠ 0
   · rw [if_pos he] at h4
     repeat' (first
      | refine ca cal_ModelFault (ModelFault _ _) ?_
      | refine ca cal_kindFault (kindFault _ _ _ _) ?_
      | exact True.intro | refine stpH ?_ | refine two ?_ ?_ | refine allc fun c_ => ?_
      | (refine imp fun hc => ?_) <;> try exact cx1 hc
      | refine all fun v_ => ?_)
     all_goals
      refine retv (VS.drop (List.nil_sublist _)) ?_
      ((with_reducible apply rq1); rfl; rfl)
      exact ret_eq (by rw [h4])
   rw [if_neg he] at h4
   obtain rfl : e = 0 := Decidable.not_not.1 he
   by_cases hi : ¬ i < l.length
   · rw [propsE_end _ _ i (by omega)] at h4
     repeat' (first
      | refine ca cal_ModelFault (ModelFault _ _) ?_
      | refine ca cal_kindFault (kindFault _ _ _ _) ?_
      | exact True.intro | refine stpH ?_ | refine two ?_ ?_ | refine allc fun c_ => ?_
      | (refine imp fun hc => ?_) <;> try exact cx1 hc
      | refine all fun v_ => ?_)
     refine retv (VS.drop (List.nil_sublist _)) ?_
     ((with_reducible apply rq1); rfl; rfl)
     exact ret_eq (by rw [h4])
   replace hi := Decidable.not_not.1 hi
   rw [propsE_at _ _ i hi] at h4
   repeat' (first
    | refine ca cal_ModelFault (ModelFault _ _) ?_
    | refine ca cal_kindFault (kindFault _ _ _ _) ?_
    | exact True.intro | refine stpH ?_ | refine two ?_ ?_ | refine allc fun c_ => ?_
    | (refine imp fun hc => ?_) <;> try exact cx1 hc
    | refine all fun v_ => ?_)
   refine ⟨(i + 1, kindF l[i] m.vars.length true), ⟨by dsimp only; omega, h4⟩, by dsimp only; omega, VS.take (by exact takedD) ?_⟩
   exact leD
 by_cases c2 : 6 < l.length
 · repeat' (first
    | refine ca cal_ModelFault (ModelFault _ _) ?_
    | refine ca cal_kindFault (kindFault _ _ _ _) ?_
    | exact True.intro | refine stpH ?_ | refine two ?_ ?_ | refine allc fun c_ => ?_
    | (refine imp fun hc => ?_) <;> try exact cx1 hc
    | refine all fun v_ => ?_)
   refine J_loopV (X := Nat × Int) (fun y => [(1, .d (termsD l)), (2, .val (.pointer (some ⟨v_, 0, none⟩))), (5, .int y.2), (6, .int y.1)]) (fun _ => [.cells v_ 25 [.d (varsD m.vars), .d (rulesD m.rules)]]) (fun y => y.1 ≤ l.length ∧ propsF m l = (if y.2 ≠ 0 then y.2 else propsE m.vars.length (l.drop y.1))) (fun y => l.length - y.1) (0, 1) ⟨Nat.zero_le _, by rw [if_pos (by decide), propsF, if_neg c1, if_pos c2]⟩ (VS.of_le ?_) ?_
   · exact leD
   rintro ⟨i, e⟩ ⟨h1, h4⟩
   dsimp only at h1 h4 ⊢
   by_cases he : e ≠ 0
   · rw [if_pos he] at h4
     repeat' (first
      | refine ca cal_ModelFault (ModelFault _ _) ?_
      | refine ca cal_kindFault (kindFault _ _ _ _) ?_
      | exact True.intro | refine stpH ?_ | refine two ?_ ?_ | refine allc fun c_ => ?_
      | (refine imp fun hc => ?_) <;> try exact cx1 hc
      | refine all fun v_ => ?_)
     all_goals
      refine retv (VS.drop (List.nil_sublist _)) ?_
      ((with_reducible apply rq1); rfl; rfl)
      exact ret_eq (by rw [h4])
   rw [if_neg he] at h4
   obtain rfl : e = 0 := Decidable.not_not.1 he
   by_cases hi : ¬ i < l.length
   · rw [propsE_end _ _ i (by omega)] at h4
     repeat' (first
      | refine ca cal_ModelFault (ModelFault _ _) ?_
      | refine ca cal_kindFault (kindFault _ _ _ _) ?_
      | exact True.intro | refine stpH ?_ | refine two ?_ ?_ | refine allc fun c_ => ?_
      | (refine imp fun hc => ?_) <;> try exact cx1 hc
      | refine all fun v_ => ?_)
     refine retv (VS.drop (List.nil_sublist _)) ?_
     ((with_reducible apply rq1); rfl; rfl)
     exact ret_eq (by rw [h4])
   replace hi := Decidable.not_not.1 hi
   rw [propsE_at _ _ i hi] at h4
   repeat' (first
    | refine ca cal_ModelFault (ModelFault _ _) ?_
    | refine ca cal_kindFault (kindFault _ _ _ _) ?_
    | exact True.intro | refine stpH ?_ | refine two ?_ ?_ | refine allc fun c_ => ?_
    | (refine imp fun hc => ?_) <;> try exact cx1 hc
    | refine all fun v_ => ?_)
   refine ⟨(i + 1, kindF l[i] m.vars.length true), ⟨by dsimp only; omega, h4⟩, by dsimp only; omega, VS.take (by exact takedD) ?_⟩
   exact leD
 repeat' (first
  | refine ca cal_ModelFault (ModelFault _ _) ?_
  | refine ca cal_kindFault (kindFault _ _ _ _) ?_
  | exact True.intro | refine stpH ?_ | refine two ?_ ?_ | refine allc fun c_ => ?_
  | (refine imp fun hc => ?_) <;> try exact cx1 hc
  | refine all fun v_ => ?_)
 refine J_loopV (X := Nat × Int) (fun y => [(1, .d (termsD l)), (2, .val (.pointer (some ⟨v_, 0, none⟩))), (5, .int y.2), (6, .int y.1)]) (fun _ => [.cells v_ 25 [.d (varsD m.vars), .d (rulesD m.rules)]]) (fun y => y.1 ≤ l.length ∧ propsF m l = (if y.2 ≠ 0 then y.2 else propsE m.vars.length (l.drop y.1))) (fun y => l.length - y.1) (0, 0) ⟨Nat.zero_le _, by rw [if_neg (by decide), propsF, if_neg c1, if_neg c2]; rfl⟩ (VS.of_le ?_) ?_
 · exact leD
 rintro ⟨i, e⟩ ⟨h1, h4⟩
 dsimp only at h1 h4 ⊢
 by_cases he : e ≠ 0
 · rw [if_pos he] at h4
   repeat' (first
    | refine ca cal_ModelFault (ModelFault _ _) ?_
    | refine ca cal_kindFault (kindFault _ _ _ _) ?_
    | exact True.intro | refine stpH ?_ | refine two ?_ ?_ | refine allc fun c_ => ?_
    | (refine imp fun hc => ?_) <;> try exact cx1 hc
    | refine all fun v_ => ?_)
   all_goals
    refine retv (VS.drop (List.nil_sublist _)) ?_
    ((with_reducible apply rq1); rfl; rfl)
    exact ret_eq (by rw [h4])
 rw [if_neg he] at h4
 obtain rfl : e = 0 := Decidable.not_not.1 he
 by_cases hi : ¬ i < l.length
 · rw [propsE_end _ _ i (by omega)] at h4
   repeat' (first
    | refine ca cal_ModelFault (ModelFault _ _) ?_
    | refine ca cal_kindFault (kindFault _ _ _ _) ?_
    | exact True.intro | refine stpH ?_ | refine two ?_ ?_ | refine allc fun c_ => ?_
    | (refine imp fun hc => ?_) <;> try exact cx1 hc
    | refine all fun v_ => ?_)
   refine retv (VS.drop (List.nil_sublist _)) ?_
   ((with_reducible apply rq1); rfl; rfl)
   exact ret_eq (by rw [h4])
 replace hi := Decidable.not_not.1 hi
 rw [propsE_at _ _ i hi] at h4
 repeat' (first
  | refine ca cal_ModelFault (ModelFault _ _) ?_
  | refine ca cal_kindFault (kindFault _ _ _ _) ?_
  | exact True.intro | refine stpH ?_ | refine two ?_ ?_ | refine allc fun c_ => ?_
  | (refine imp fun hc => ?_) <;> try exact cx1 hc
  | refine all fun v_ => ?_)
 refine ⟨(i + 1, kindF l[i] m.vars.length true), ⟨by dsimp only; omega, h4⟩, by dsimp only; omega, VS.take (by exact takedD) ?_⟩
 exact leD
end Go.Proofs.YtajnpfgelpkijaaDoor
