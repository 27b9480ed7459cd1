/- A bundle of this claim's own texts: T7 N2 G5 M6 G6 M8 E11 Sf. -/
import Derived.Test.YtcikppldaepodaaGreatDoorZ2
import Derived.Test.YtcikppldaepodaaGreatDoorZ3
import Derived.Test.YtcikppldaepodaaGreatDoorZ4
import Derived.Test.YtcikppldaepodaaGreatDoorZ5
import Derived.Test.YtcikppldaepodaaGreatDoorZ8
namespace Go.Proofs.YtcikppldaepodaaGreatDoor
open Go Go.Av Go.Sp
set_option linter.unusedVariables false
set_option linter.unusedSimpArgs false
set_option maxRecDepth 100000
set_option maxHeartbeats 4000000

end Go.Proofs.YtcikppldaepodaaGreatDoor
namespace Go.Sp
open Go Go.Av
set_option linter.unusedVariables false
set_option linter.unusedSimpArgs false
structure Tk where
  model : Md
  props : List (List Fo)
  formula : List Fo
def Tk.cells (t : Tk) : List D := [varsD t.model.vars, rulesD t.model.rules, termsD t.props, opsD t.formula]
abbrev tkA (t : Tk) : AV := .agg [.d (varsD t.model.vars), .d (rulesD t.model.rules), .d (termsD t.props), .d (opsD t.formula)]
noncomputable def taskF (t : Tk) : Int := if propsF t.model t.props ≠ 0 then propsF t.model t.props else formF t.formula t.props.length
end Go.Sp
namespace Go.Proofs.YtcikppldaepodaaGreatDoor
open Go Go.Av Go.Sp
set_option linter.unusedVariables false
set_option linter.unusedSimpArgs false
set_option maxRecDepth 100000
set_option maxHeartbeats 4000000
theorem cal_terms : Cal Tryz.prog 30 := Cal.of Tryz.func30 (by kernel_rfl) (by kernel_rfl)
theorem cal_tasks : Cal Tryz.prog 9 := Cal.of Tryz.func9 (by kernel_rfl) (by kernel_rfl)
theorem cal_PCheck : Cal Tryz.prog 25 := Cal.of Tryz.func25 (by kernel_rfl) (by kernel_rfl)
theorem cal_TaskFault : Cal Tryz.prog 32 := Cal.of Tryz.func32 (by kernel_rfl) (by kernel_rfl)
theorem conf_Task {g : Nat} {xs : List D} (h : Conf Tryz.prog (g + 9) 29 xs) : ∃ t : Tk, xs = t.cells := by
  obtain ⟨p0, p1, p2, rfl, h0, h1, h2⟩ := conf_struct3_of Tryz.underlying29 h
  obtain ⟨m, rfl⟩ := conf_Model h0
  obtain ⟨ps, rfl, _⟩ := conf_terms h1
  obtain ⟨f, rfl, _⟩ := conf_ops h2
  exact ⟨⟨m, ps, f⟩, rfl⟩
theorem terms (G : List (Nat × List D)) (a : List (List Fo)) : ACr Tryz.prog G 30 [.d (termsD a)] (.d (termsD a)) := by
  refine AC_ofV (ts := [2]) Tryz.f30.ntmps Tryz.func30 rfl rfl rfl (by simp [Tryz.ntmps30]) fun W I => ?_
  refine jfact (t := 0) rfl fun hl => ?_
  all_goals haveI fA_ : FlagA := ⟨⟩
  repeat' (first
    | ((with_reducible apply call0); (focus rfl); (focus exact cal_ops); (focus exact opsU _ _); (focus rfl))
    | ((with_reducible apply je_call0); (focus rfl); (focus (decide +kernel)); (focus rfl); (focus exact cal_ops); (focus exact opsU _ _); (focus rfl))
    | exact True.intro
    | refine stp ?_
    | refine two ?_ ?_
    | (refine imp fun hc => ?_) <;> try (first | contradiction | (exfalso; omega))
    | refine all fun v_ => ?_)
  all_goals clear fA_
  refine jrow (E := 27) (sz := 1) termC ?_
  refine J_loop (X := Nat × Sl) (fun y => [(0, .d (termsD a)), (3, .val y.2.v), (4, .int y.1)]) (fun y => [rowE y.2.v 27 1 termC (a.take y.1)]) (fun y => y.1 ≤ a.length) (fun y => a.length - y.1) (0, Sl.nil) (Nat.zero_le _) ?_ rfl ?_
  · repeat (first
      | exact Env.le_nil _
      | refine Env.le_cons (AV.le_refl _) ?_
      | refine Env.le_cons (AV.le_int rfl (by first | rfl | omega | (dsimp only; omega))) ?_)
  rintro ⟨i, v⟩ h1
  dsimp only at h1 ⊢
  have hlen : (a.take i).length = i := by rw [List.length_take]; omega
  all_goals haveI fA_ : FlagA := ⟨⟩
  repeat' (first
    | ((with_reducible apply call0); (focus rfl); (focus exact cal_ops); (focus exact opsU _ _); (focus rfl))
    | ((with_reducible apply je_call0); (focus rfl); (focus (decide +kernel)); (focus rfl); (focus exact cal_ops); (focus exact opsU _ _); (focus rfl))
    | exact True.intro
    | refine stp ?_
    | refine two ?_ ?_
    | (refine imp fun hc => ?_) <;> try (first | contradiction | (exfalso; omega))
    | refine all fun v_ => ?_)
  all_goals clear fA_
  · refine ⟨(i + 1, v_), by dsimp only; omega, by dsimp only; omega, ?_, ?_⟩
    · repeat (first
        | exact Env.le_nil _
        | refine Env.le_cons (AV.le_refl _) ?_
        | refine Env.le_cons (AV.le_int rfl (by first | rfl | omega | (dsimp only; omega))) ?_)
    · dsimp only
      rw [List.take_succ_eq_append_getElem (by omega)]
  · refine retv (vfreeze (t := 2) (eb := 24) rfl rfl (fun x => rfl) (by rw [hlen]; omega)) ?_
    ((with_reducible apply rq1); rfl; rfl)
    refine ret_eq ?_
    rw [List.take_of_length_le (by omega)]
theorem tasks (G : List (Nat × List D)) (t : Tk) : ACr Tryz.prog G 9 [tkA t] (tkA t) := by
  refine AC_ofR (rs := [.cell 2 29]) Tryz.f9.ntmps Tryz.func9 rfl rfl rfl (by simp [Tryz.ntmps9]) fun W I => ?_
  all_goals haveI fA_ : FlagA := ⟨⟩
  all_goals haveI fH_ : FlagH := ⟨⟩
  repeat' (first
    | ((with_reducible apply call0); (focus rfl); (focus exact cal_models); (focus exact models _ _); (focus rfl))
    | ((with_reducible apply je_call0); (focus rfl); (focus (decide +kernel)); (focus rfl); (focus exact cal_models); (focus exact models _ _); (focus rfl))
    | ((with_reducible apply call0); (focus rfl); (focus exact cal_terms); (focus exact terms _ _); (focus rfl))
    | ((with_reducible apply je_call0); (focus rfl); (focus (decide +kernel)); (focus rfl); (focus exact cal_terms); (focus exact terms _ _); (focus rfl))
    | ((with_reducible apply call0); (focus rfl); (focus exact cal_ops); (focus exact opsU _ _); (focus rfl))
    | ((with_reducible apply je_call0); (focus rfl); (focus (decide +kernel)); (focus rfl); (focus exact cal_ops); (focus exact opsU _ _); (focus rfl))
    | exact True.intro
    | refine stp ?_
    | refine two ?_ ?_
    | refine allc fun c_ => ?_
    | (refine imp fun hc => ?_) <;> try (first | contradiction | (exfalso; omega) | (exfalso; exact absurd (of_dT hc) (by assumption)) | (exfalso; exact of_dF hc (by assumption)))
    | refine all fun v_ => ?_)
  all_goals clear fA_ fH_
  exact retr0 (xs := [tkA t]) ⟨rv_agg rfl (by (with_reducible exact ElC.h)) rfl (by ((repeat (first | exact List.mem_cons_self | apply List.mem_cons_of_mem)); done)) rfl, trivial⟩ rfl (h' := []) (List.nil_sublist _) (ret_eq rfl)
theorem PCheck  (t : Tk) : ACr Tryz.prog GP 25 [tkA t] (.int (taskF t)) := by
  have hP := Props t.model t.props
  have hC := Check t.formula t.props.length
  unfold taskF
  generalize propsF t.model t.props = e1 at hP ⊢
  generalize formF t.formula t.props.length = e2 at hC ⊢
  refine AC_ofV (ts := [2]) Tryz.f25.ntmps Tryz.func25 rfl rfl rfl (by simp [Tryz.ntmps25]) fun W I => ?_
  by_cases h1 : e1 ≠ 0
  · all_goals haveI fA_ : FlagA := ⟨⟩
    all_goals haveI fH_ : FlagH := ⟨⟩
    repeat' (first
      | ((with_reducible apply call0); (focus rfl); (focus exact cal_Props); (focus exact hP); (focus rfl))
      | ((with_reducible apply je_call0); (focus rfl); (focus (decide +kernel)); (focus rfl); (focus exact cal_Props); (focus exact hP); (focus rfl))
      | ((with_reducible apply call0); (focus rfl); (focus exact cal_Check); (focus exact hC); (focus rfl))
      | ((with_reducible apply je_call0); (focus rfl); (focus (decide +kernel)); (focus rfl); (focus exact cal_Check); (focus exact hC); (focus rfl))
      | exact True.intro
      | refine stp ?_
      | refine two ?_ ?_
      | refine allc fun c_ => ?_
      | (refine imp fun hc => ?_) <;> try (first | contradiction | (exfalso; omega) | (exfalso; exact absurd (of_dT hc) (by assumption)) | (exfalso; exact of_dF hc (by assumption)))
      | refine all fun v_ => ?_)
    all_goals clear fA_ fH_
    refine retv (VS.drop (List.nil_sublist _)) ?_
    ((with_reducible apply rq1); rfl; rfl)
    exact ret_eq (by rw [if_pos h1])
  · all_goals haveI fA_ : FlagA := ⟨⟩
    all_goals haveI fH_ : FlagH := ⟨⟩
    repeat' (first
      | ((with_reducible apply call0); (focus rfl); (focus exact cal_Props); (focus exact hP); (focus rfl))
      | ((with_reducible apply je_call0); (focus rfl); (focus (decide +kernel)); (focus rfl); (focus exact cal_Props); (focus exact hP); (focus rfl))
      | ((with_reducible apply call0); (focus rfl); (focus exact cal_Check); (focus exact hC); (focus rfl))
      | ((with_reducible apply je_call0); (focus rfl); (focus (decide +kernel)); (focus rfl); (focus exact cal_Check); (focus exact hC); (focus rfl))
      | exact True.intro
      | refine stp ?_
      | refine two ?_ ?_
      | refine allc fun c_ => ?_
      | (refine imp fun hc => ?_) <;> try (first | contradiction | (exfalso; omega) | (exfalso; exact absurd (of_dT hc) (by assumption)) | (exfalso; exact of_dF hc (by assumption)))
      | refine all fun v_ => ?_)
    all_goals clear fA_ fH_
    refine retv (VS.drop (List.nil_sublist _)) ?_
    ((with_reducible apply rq1); rfl; rfl)
    exact ret_eq (by rw [if_neg h1])
theorem TaskFault (G : List (Nat × List D)) (t : Tk) : ACr Tryz.prog G 32 [tkA t] (.int (taskF t)) := by
  have hP := PropsFault G t.model t.props
  have hC := FormulaFault G t.formula t.props.length
  unfold taskF
  generalize propsF t.model t.props = e1 at hP ⊢
  generalize formF t.formula t.props.length = e2 at hC ⊢
  refine AC_ofV (ts := [2]) Tryz.f32.ntmps Tryz.func32 rfl rfl rfl (by simp [Tryz.ntmps32]) fun W I => ?_
  by_cases h1 : e1 ≠ 0
  · all_goals haveI fA_ : FlagA := ⟨⟩
    all_goals haveI fH_ : FlagH := ⟨⟩
    repeat' (first
      | ((with_reducible apply call0); (focus rfl); (focus exact cal_PropsFault); (focus exact hP); (focus rfl))
      | ((with_reducible apply je_call0); (focus rfl); (focus (decide +kernel)); (focus rfl); (focus exact cal_PropsFault); (focus exact hP); (focus rfl))
      | ((with_reducible apply call0); (focus rfl); (focus exact cal_FormulaFault); (focus exact hC); (focus rfl))
      | ((with_reducible apply je_call0); (focus rfl); (focus (decide +kernel)); (focus rfl); (focus exact cal_FormulaFault); (focus exact hC); (focus rfl))
      | exact True.intro
      | refine stp ?_
      | refine two ?_ ?_
      | refine allc fun c_ => ?_
      | (refine imp fun hc => ?_) <;> try (first | contradiction | (exfalso; omega) | (exfalso; exact absurd (of_dT hc) (by assumption)) | (exfalso; exact of_dF hc (by assumption)))
      | refine all fun v_ => ?_)
    all_goals clear fA_ fH_
    refine retv (VS.drop (List.nil_sublist _)) ?_
    ((with_reducible apply rq1); rfl; rfl)
    exact ret_eq (by rw [if_pos h1])
  · all_goals haveI fA_ : FlagA := ⟨⟩
    all_goals haveI fH_ : FlagH := ⟨⟩
    repeat' (first
      | ((with_reducible apply call0); (focus rfl); (focus exact cal_PropsFault); (focus exact hP); (focus rfl))
      | ((with_reducible apply je_call0); (focus rfl); (focus (decide +kernel)); (focus rfl); (focus exact cal_PropsFault); (focus exact hP); (focus rfl))
      | ((with_reducible apply call0); (focus rfl); (focus exact cal_FormulaFault); (focus exact hC); (focus rfl))
      | ((with_reducible apply je_call0); (focus rfl); (focus (decide +kernel)); (focus rfl); (focus exact cal_FormulaFault); (focus exact hC); (focus rfl))
      | exact True.intro
      | refine stp ?_
      | refine two ?_ ?_
      | refine allc fun c_ => ?_
      | (refine imp fun hc => ?_) <;> try (first | contradiction | (exfalso; omega) | (exfalso; exact absurd (of_dT hc) (by assumption)) | (exfalso; exact of_dF hc (by assumption)))
      | refine all fun v_ => ?_)
    all_goals clear fA_ fH_
    refine retv (VS.drop (List.nil_sublist _)) ?_
    ((with_reducible apply rq1); rfl; rfl)
    exact ret_eq (by rw [if_neg h1])
end Go.Proofs.YtcikppldaepodaaGreatDoor
namespace Go.Sp
open Go Go.Av
set_option linter.unusedVariables false
set_option linter.unusedSimpArgs false

def codeE (n : Int) : List Vr → List Int → Int × Int
  | v :: l, x :: xs => if v.low ≤ x ∧ x ≤ v.high then codeE (n * spanV v + (x - v.low)) l xs else (0, 9)
  | _, _ => (n, 0)
def codeT (n : Int) : List Vr → List Int → Int × Int
  | v :: l, x :: xs => if v.low ≤ x ∧ x ≤ v.high then codeT (n + (x - v.low) * prodV l) l xs else (0, 9)
  | _, _ => (n, 0)
theorem codeE_eq : ∀ (l : List Vr) (xs : List Int) (n : Int), xs.length = l.length → codeE n l xs = codeT (n * prodV l) l xs
  | [], [], n, _ => by simp [codeE, codeT, prodV]
  | [], _ :: _, _, h => by simp at h
  | _ :: _, [], _, h => by simp at h
  | v :: l, x :: xs, n, h => by
    simp only [codeE, codeT]
    by_cases c : v.low ≤ x ∧ x ≤ v.high
    · rw [if_pos c, if_pos c, codeE_eq l xs _ (by simpa using h), prodV, Int.add_mul, Int.mul_assoc]
    · rw [if_neg c, if_neg c]
theorem codeE_at (n : Int) (l : List Vr) (xs : List Int) (i : Nat) (h : i < l.length) (h' : i < xs.length) : codeE n (l.drop i) (xs.drop i) = if l[i].low ≤ xs[i] ∧ xs[i] ≤ l[i].high then codeE (n * spanV l[i] + (xs[i] - l[i].low)) (l.drop (i + 1)) (xs.drop (i + 1)) else (0, 9) := by
  rw [List.drop_eq_getElem_cons h, List.drop_eq_getElem_cons h', codeE]
theorem codeT_at (n : Int) (l : List Vr) (xs : List Int) (i : Nat) (h : i < l.length) (h' : i < xs.length) : codeT n (l.drop i) (xs.drop i) = if l[i].low ≤ xs[i] ∧ xs[i] ≤ l[i].high then codeT (n + (xs[i] - l[i].low) * prodV (l.drop (i + 1))) (l.drop (i + 1)) (xs.drop (i + 1)) else (0, 9) := by
  rw [List.drop_eq_getElem_cons h, List.drop_eq_getElem_cons h', codeT]
theorem codeE_end (n : Int) (l : List Vr) (xs : List Int) (i : Nat) (h : l.length ≤ i) : codeE n (l.drop i) (xs.drop i) = (n, 0) := by rw [List.drop_of_length_le h]; cases xs.drop i <;> rfl
theorem codeT_end (n : Int) (l : List Vr) (xs : List Int) (i : Nat) (h : l.length ≤ i) : codeT n (l.drop i) (xs.drop i) = (n, 0) := by rw [List.drop_of_length_le h]; cases xs.drop i <;> rfl
noncomputable def codeF (m : Md) (xs : List Int) : Int × Int := if modelF m ≠ 0 then (0, modelF m) else if xs.length ≠ m.vars.length then (0, 9) else codeE 0 m.vars xs
theorem codeF_T (m : Md) (xs : List Int) (h : modelF m = 0) (h' : xs.length = m.vars.length) : codeF m xs = codeT 0 m.vars xs := by
  rw [codeF, if_neg (by omega), if_neg (by omega), codeE_eq _ _ _ h', Int.zero_mul]
theorem prodV_drop (l : List Vr) (i : Nat) (h : i < l.length) : prodV (l.drop i) = spanV l[i] * prodV (l.drop (i + 1)) := by
  rw [List.drop_eq_getElem_cons h, prodV]
theorem horner_step {n p s d : Int} (h0 : 0 ≤ n) (h1 : n + 1 ≤ p) (hd0 : 0 ≤ d) (hd : d < s) : 0 ≤ n * s ∧ 0 ≤ n * s + d ∧ n * s + d + 1 ≤ p * s := by
  have a1 : 0 ≤ n * s := Int.mul_nonneg h0 (by omega)
  have a2 : (n + 1) * s ≤ p * s := Int.mul_le_mul_of_nonneg_right h1 (by omega)
  rw [Int.add_mul, Int.one_mul] at a2
  omega
theorem sum_step {n p q s d : Int} (h0 : 0 ≤ n) (h1 : n + s * q ≤ p) (hq : 1 ≤ q) (hd0 : 0 ≤ d) (hd : d < s) : 0 ≤ d * q ∧ 0 ≤ n + d * q ∧ n + d * q + q ≤ p := by
  have a1 : 0 ≤ d * q := Int.mul_nonneg hd0 (by omega)
  have a2 : (d + 1) * q ≤ s * q := Int.mul_le_mul_of_nonneg_right (by omega) (by omega)
  rw [Int.add_mul, Int.one_mul] at a2
  omega
end Go.Sp
namespace Go.Proofs.YtcikppldaepodaaGreatDoor
open Go Go.Av Go.Sp
set_option linter.unusedVariables false
set_option linter.unusedSimpArgs false
set_option maxRecDepth 100000
set_option maxHeartbeats 4000000

theorem cal_Code : Cal Tryz.prog 142 := Cal.of Tryz.func142 (by kernel_rfl) (by kernel_rfl)
theorem cal_CodeOf : Cal Tryz.prog 113 := Cal.of Tryz.func113 (by kernel_rfl) (by kernel_rfl)
theorem Code (m : Md) (xs : List Int) : ACr Tryz.prog GP 142 [mdA m, .d (intsD xs)] (.tup [.int (codeF m xs).1, .int (codeF m xs).2]) := by
  refine AC.factI (f := intC) (xs := xs) (.there .here) fun hlx => ?_
  refine AC_ofV (ts := [4, 5]) Tryz.f142.ntmps Tryz.func142 rfl rfl rfl (by simp [Tryz.ntmps142]) fun W I => ?_
  by_cases c1 : modelF m ≠ 0
  · all_goals haveI fA_ : FlagA := ⟨⟩
    all_goals haveI fH_ : FlagH := ⟨⟩
    repeat' (first
      | ((with_reducible apply call0); (focus rfl); (focus exact cal_MdCheck); (focus exact MdCheck _); (focus rfl))
      | ((with_reducible apply je_call0); (focus rfl); (focus (decide +kernel)); (focus rfl); (focus exact cal_MdCheck); (focus exact MdCheck _); (focus rfl))
      | exact True.intro
      | refine stp ?_
      | refine two ?_ ?_
      | refine allc fun c_ => ?_
      | (refine imp fun hc => ?_) <;> try (first | contradiction | (exfalso; omega) | (exfalso; exact absurd (of_dT hc) (by assumption)) | (exfalso; exact of_dF hc (by assumption)))
      | refine all fun v_ => ?_)
    all_goals clear fA_ fH_
    refine retv (VS.drop (List.nil_sublist _)) ?_
    ((with_reducible apply rq2); rfl; rfl; rfl)
    exact ret_eq (by rw [codeF, if_pos c1])
  have hv := modelF_vars (show modelF m = 0 by omega)
  have g := goodV hv
  have hl6 := varsF_len hv
  by_cases c2 : xs.length ≠ m.vars.length
  · all_goals haveI fA_ : FlagA := ⟨⟩
    all_goals haveI fH_ : FlagH := ⟨⟩
    repeat' (first
      | ((with_reducible apply call0); (focus rfl); (focus exact cal_MdCheck); (focus exact MdCheck _); (focus rfl))
      | ((with_reducible apply je_call0); (focus rfl); (focus (decide +kernel)); (focus rfl); (focus exact cal_MdCheck); (focus exact MdCheck _); (focus rfl))
      | exact True.intro
      | refine stp ?_
      | refine two ?_ ?_
      | refine allc fun c_ => ?_
      | (refine imp fun hc => ?_) <;> try (first | contradiction | (exfalso; omega) | (exfalso; exact absurd (of_dT hc) (by assumption)) | (exfalso; exact of_dF hc (by assumption)))
      | refine all fun v_ => ?_)
    all_goals clear fA_ fH_
    refine retv (VS.drop (List.nil_sublist _)) ?_
    ((with_reducible apply rq2); rfl; rfl; rfl)
    exact ret_eq (by rw [codeF, if_neg c1, if_pos c2])
  have hF : codeF m xs = codeE 0 m.vars xs := by rw [codeF, if_neg c1, if_neg c2]
  have hxl : xs.length = m.vars.length := Decidable.not_not.1 c2
  clear c2
  all_goals haveI fA_ : FlagA := ⟨⟩
  all_goals haveI fH_ : FlagH := ⟨⟩
  repeat' (first
    | ((with_reducible apply call0); (focus rfl); (focus exact cal_MdCheck); (focus exact MdCheck _); (focus rfl))
    | ((with_reducible apply je_call0); (focus rfl); (focus (decide +kernel)); (focus rfl); (focus exact cal_MdCheck); (focus exact MdCheck _); (focus rfl))
    | exact True.intro
    | refine stp ?_
    | refine two ?_ ?_
    | refine allc fun c_ => ?_
    | (refine imp fun hc => ?_) <;> try (first | contradiction | (exfalso; omega) | (exfalso; exact absurd (of_dT hc) (by assumption)) | (exfalso; exact of_dF hc (by assumption)))
    | refine all fun v_ => ?_)
  all_goals clear fA_ fH_
  refine J_loopV (X := Nat × Int) (fun y => [(1, .d (intsD xs)), (7, .int y.2), (22, .d (varsD m.vars)), (23, .int m.vars.length), (24, .int y.1)]) (fun _ => []) (fun y => y.1 ≤ m.vars.length ∧ 0 ≤ y.2 ∧ y.2 + 1 ≤ prodV (m.vars.take y.1) ∧ codeF m xs = codeE y.2 (m.vars.drop y.1) (xs.drop y.1)) (fun y => m.vars.length - y.1) (0, 0) ⟨Nat.zero_le _, by decide, by simp [prodV], hF⟩ (VS.trans (VS.drop (List.nil_sublist _)) (VS.of_le ?_)) ?_
  · repeat (first
      | exact Env.le_nil _
      | refine Env.le_cons (AV.le_refl _) ?_
      | refine Env.le_cons (AV.le_int rfl (by first | rfl | omega | (dsimp only; omega))) ?_)
  rintro ⟨i, n⟩ ⟨h1, h2, h3, h4⟩
  dsimp only at h1 h2 h3 h4 ⊢
  by_cases hi : ¬ i < m.vars.length
  · rw [codeE_end _ _ _ _ (by omega)] at h4
    all_goals haveI fA_ : FlagA := ⟨⟩
    all_goals haveI fH_ : FlagH := ⟨⟩
    repeat' (first
      | ((with_reducible apply call0); (focus rfl); (focus exact cal_MdCheck); (focus exact MdCheck _); (focus rfl))
      | ((with_reducible apply je_call0); (focus rfl); (focus (decide +kernel)); (focus rfl); (focus exact cal_MdCheck); (focus exact MdCheck _); (focus rfl))
      | exact True.intro
      | refine stp ?_
      | refine two ?_ ?_
      | refine allc fun c_ => ?_
      | (refine imp fun hc => ?_) <;> try (first | contradiction | (exfalso; omega) | (exfalso; exact absurd (of_dT hc) (by assumption)) | (exfalso; exact of_dF hc (by assumption)))
      | refine all fun v_ => ?_)
    all_goals clear fA_ fH_
    refine retv (VS.drop (List.nil_sublist _)) ?_
    ((with_reducible apply rq2); rfl; rfl; rfl)
    exact ret_eq (by rw [h4])
  replace hi := Decidable.not_not.1 hi
  have hi' : i < xs.length := by omega
  rw [codeE_at _ _ _ _ hi hi'] at h4
  obtain ⟨d1, d2, d3, d4, d5⟩ := g.range _ (List.getElem_mem hi)
  by_cases cl : xs[i] < m.vars[i].low
  · rw [if_neg (by omega)] at h4
    all_goals haveI fA_ : FlagA := ⟨⟩
    all_goals haveI fH_ : FlagH := ⟨⟩
    repeat' (first
      | ((with_reducible apply call0); (focus rfl); (focus exact cal_MdCheck); (focus exact MdCheck _); (focus rfl))
      | ((with_reducible apply je_call0); (focus rfl); (focus (decide +kernel)); (focus rfl); (focus exact cal_MdCheck); (focus exact MdCheck _); (focus rfl))
      | exact True.intro
      | refine stp ?_
      | refine two ?_ ?_
      | refine allc fun c_ => ?_
      | (refine imp fun hc => ?_) <;> try (first | contradiction | (exfalso; omega) | (exfalso; exact absurd (of_dT hc) (by assumption)) | (exfalso; exact of_dF hc (by assumption)))
      | refine all fun v_ => ?_)
    all_goals clear fA_ fH_
    all_goals
      refine retv (VS.drop (List.nil_sublist _)) ?_
      ((with_reducible apply rq2); rfl; rfl; rfl)
      exact ret_eq (by rw [h4])
  by_cases ch : m.vars[i].high < xs[i]
  · rw [if_neg (by omega)] at h4
    all_goals haveI fA_ : FlagA := ⟨⟩
    all_goals haveI fH_ : FlagH := ⟨⟩
    repeat' (first
      | ((with_reducible apply call0); (focus rfl); (focus exact cal_MdCheck); (focus exact MdCheck _); (focus rfl))
      | ((with_reducible apply je_call0); (focus rfl); (focus (decide +kernel)); (focus rfl); (focus exact cal_MdCheck); (focus exact MdCheck _); (focus rfl))
      | exact True.intro
      | refine stp ?_
      | refine two ?_ ?_
      | refine allc fun c_ => ?_
      | (refine imp fun hc => ?_) <;> try (first | contradiction | (exfalso; omega) | (exfalso; exact absurd (of_dT hc) (by assumption)) | (exfalso; exact of_dF hc (by assumption)))
      | refine all fun v_ => ?_)
    all_goals clear fA_ fH_
    all_goals
      refine retv (VS.drop (List.nil_sublist _)) ?_
      ((with_reducible apply rq2); rfl; rfl; rfl)
      exact ret_eq (by rw [h4])
  rw [if_pos (by omega)] at h4
  have hsp : spanV m.vars[i] = m.vars[i].high - m.vars[i].low + 1 := rfl
  obtain ⟨s1, s2, s3⟩ := horner_step (s := spanV m.vars[i]) (d := xs[i] - m.vars[i].low) h2 h3 (by omega) (by omega)
  rw [← prodV_take_succ m.vars i hi] at s3
  have b2 := (g.take (i + 1)).2.1
  rw [hsp] at s1 s2 s3 h4
  have hin : inI64 (n * (m.vars[i].high - m.vars[i].low + 1)) := ⟨by omega, by omega⟩
  all_goals haveI fA_ : FlagA := ⟨⟩
  all_goals haveI fH_ : FlagH := ⟨⟩
  repeat' (first
    | ((with_reducible apply call0); (focus rfl); (focus exact cal_MdCheck); (focus exact MdCheck _); (focus rfl))
    | ((with_reducible apply je_call0); (focus rfl); (focus (decide +kernel)); (focus rfl); (focus exact cal_MdCheck); (focus exact MdCheck _); (focus rfl))
    | exact True.intro
    | refine stp ?_
    | refine two ?_ ?_
    | refine allc fun c_ => ?_
    | (refine imp fun hc => ?_) <;> try (first | contradiction | (exfalso; omega) | (exfalso; exact absurd (of_dT hc) (by assumption)) | (exfalso; exact of_dF hc (by assumption)))
    | refine all fun v_ => ?_)
  all_goals clear fA_ fH_
  refine ⟨(i + 1, n * (m.vars[i].high - m.vars[i].low + 1) + (xs[i] - m.vars[i].low)), ⟨by dsimp only; omega, s2, s3, h4⟩, by dsimp only; omega, ?_⟩
  dsimp only
  rw [show n * (m.vars[i].high - m.vars[i].low + 1) + (xs[i] - m.vars[i].low) = n * (m.vars[i].high - m.vars[i].low + 1) + xs[i] - m.vars[i].low by omega]
  refine VS.trans (VS.drop (List.nil_sublist _)) (VS.of_le ?_)
  repeat (first
    | exact Env.le_nil _
    | refine Env.le_cons (AV.le_refl _) ?_
    | refine Env.le_cons (AV.le_int rfl (by first | rfl | omega | (dsimp only; omega))) ?_)
theorem CodeOf (G : List (Nat × List D)) (m : Md) (xs : List Int) : ACr Tryz.prog G 113 [mdA m, .d (intsD xs)] (.tup [.int (codeF m xs).1, .int (codeF m xs).2]) := by
  refine AC.factI (f := intC) (xs := xs) (.there .here) fun hlx => ?_
  refine AC_ofV (ts := [4, 5]) Tryz.f113.ntmps Tryz.func113 rfl rfl rfl (by simp [Tryz.ntmps113]) fun W I => ?_
  by_cases c1 : modelF m ≠ 0
  · all_goals haveI fA_ : FlagA := ⟨⟩
    all_goals haveI fH_ : FlagH := ⟨⟩
    repeat' (first
      | ((with_reducible apply call0); (focus rfl); (focus exact cal_ModelFault); (focus exact ModelFault _ _); (focus rfl))
      | ((with_reducible apply je_call0); (focus rfl); (focus (decide +kernel)); (focus rfl); (focus exact cal_ModelFault); (focus exact ModelFault _ _); (focus rfl))
      | ((with_reducible apply call0); (focus rfl); (focus exact cal_In); (focus exact In _ _ _ _); (focus rfl))
      | ((with_reducible apply je_call0); (focus rfl); (focus (decide +kernel)); (focus rfl); (focus exact cal_In); (focus exact In _ _ _ _); (focus rfl))
      | exact True.intro
      | refine stp ?_
      | refine two ?_ ?_
      | refine allc fun c_ => ?_
      | (refine imp fun hc => ?_) <;> try (first | contradiction | (exfalso; omega) | (exfalso; exact absurd (of_dT hc) (by assumption)) | (exfalso; exact of_dF hc (by assumption)))
      | refine all fun v_ => ?_)
    all_goals clear fA_ fH_
    refine retv (VS.drop (List.nil_sublist _)) ?_
    ((with_reducible apply rq2); rfl; rfl; rfl)
    exact ret_eq (by rw [codeF, if_pos c1])
  have hv := modelF_vars (show modelF m = 0 by omega)
  have g := goodV hv
  have hl6 := varsF_len hv
  by_cases c2 : xs.length ≠ m.vars.length
  · all_goals haveI fA_ : FlagA := ⟨⟩
    all_goals haveI fH_ : FlagH := ⟨⟩
    repeat' (first
      | ((with_reducible apply call0); (focus rfl); (focus exact cal_ModelFault); (focus exact ModelFault _ _); (focus rfl))
      | ((with_reducible apply je_call0); (focus rfl); (focus (decide +kernel)); (focus rfl); (focus exact cal_ModelFault); (focus exact ModelFault _ _); (focus rfl))
      | ((with_reducible apply call0); (focus rfl); (focus exact cal_In); (focus exact In _ _ _ _); (focus rfl))
      | ((with_reducible apply je_call0); (focus rfl); (focus (decide +kernel)); (focus rfl); (focus exact cal_In); (focus exact In _ _ _ _); (focus rfl))
      | exact True.intro
      | refine stp ?_
      | refine two ?_ ?_
      | refine allc fun c_ => ?_
      | (refine imp fun hc => ?_) <;> try (first | contradiction | (exfalso; omega) | (exfalso; exact absurd (of_dT hc) (by assumption)) | (exfalso; exact of_dF hc (by assumption)))
      | refine all fun v_ => ?_)
    all_goals clear fA_ fH_
    refine retv (VS.drop (List.nil_sublist _)) ?_
    ((with_reducible apply rq2); rfl; rfl; rfl)
    exact ret_eq (by rw [codeF, if_neg c1, if_pos c2])
  have hxl : xs.length = m.vars.length := Decidable.not_not.1 c2
  have hF := codeF_T m xs (by omega) hxl
  clear c2
  all_goals haveI fA_ : FlagA := ⟨⟩
  all_goals haveI fH_ : FlagH := ⟨⟩
  repeat' (first
    | ((with_reducible apply call0); (focus rfl); (focus exact cal_ModelFault); (focus exact ModelFault _ _); (focus rfl))
    | ((with_reducible apply je_call0); (focus rfl); (focus (decide +kernel)); (focus rfl); (focus exact cal_ModelFault); (focus exact ModelFault _ _); (focus rfl))
    | ((with_reducible apply call0); (focus rfl); (focus exact cal_In); (focus exact In _ _ _ _); (focus rfl))
    | ((with_reducible apply je_call0); (focus rfl); (focus (decide +kernel)); (focus rfl); (focus exact cal_In); (focus exact In _ _ _ _); (focus rfl))
    | exact True.intro
    | refine stp ?_
    | refine two ?_ ?_
    | refine allc fun c_ => ?_
    | (refine imp fun hc => ?_) <;> try (first | contradiction | (exfalso; omega) | (exfalso; exact absurd (of_dT hc) (by assumption)) | (exfalso; exact of_dF hc (by assumption)))
    | refine all fun v_ => ?_)
  all_goals clear fA_ fH_
  refine J_loopV (X := Nat × Int) (fun y => [(1, .d (intsD xs)), (2, .val (.pointer (some ⟨v_, 0, none⟩))), (7, .int y.2), (8, .int y.1)]) (fun _ => [.cells v_ 25 [.d (varsD m.vars), .d (rulesD m.rules)]]) (fun y => y.1 ≤ m.vars.length ∧ 0 ≤ y.2 ∧ y.2 + prodV (m.vars.drop y.1) ≤ prodV m.vars ∧ codeF m xs = codeT y.2 (m.vars.drop y.1) (xs.drop y.1)) (fun y => m.vars.length - y.1) (0, 0) ⟨Nat.zero_le _, by decide, by simp, hF⟩ (VS.of_le ?_) ?_
  · repeat (first
      | exact Env.le_nil _
      | refine Env.le_cons (AV.le_refl _) ?_
      | refine Env.le_cons (AV.le_int rfl (by first | rfl | omega | (dsimp only; omega))) ?_)
  rintro ⟨i, n⟩ ⟨h1, h2, h3, h4⟩
  dsimp only at h1 h2 h3 h4 ⊢
  by_cases hi : ¬ i < m.vars.length
  · rw [codeT_end _ _ _ _ (by omega)] at h4
    all_goals haveI fA_ : FlagA := ⟨⟩
    all_goals haveI fH_ : FlagH := ⟨⟩
    repeat' (first
      | ((with_reducible apply call0); (focus rfl); (focus exact cal_ModelFault); (focus exact ModelFault _ _); (focus rfl))
      | ((with_reducible apply je_call0); (focus rfl); (focus (decide +kernel)); (focus rfl); (focus exact cal_ModelFault); (focus exact ModelFault _ _); (focus rfl))
      | ((with_reducible apply call0); (focus rfl); (focus exact cal_In); (focus exact In _ _ _ _); (focus rfl))
      | ((with_reducible apply je_call0); (focus rfl); (focus (decide +kernel)); (focus rfl); (focus exact cal_In); (focus exact In _ _ _ _); (focus rfl))
      | exact True.intro
      | refine stp ?_
      | refine two ?_ ?_
      | refine allc fun c_ => ?_
      | (refine imp fun hc => ?_) <;> try (first | contradiction | (exfalso; omega) | (exfalso; exact absurd (of_dT hc) (by assumption)) | (exfalso; exact of_dF hc (by assumption)))
      | refine all fun v_ => ?_)
    all_goals clear fA_ fH_
    refine retv (VS.drop (List.nil_sublist _)) ?_
    ((with_reducible apply rq2); rfl; rfl; rfl)
    exact ret_eq (by rw [h4])
  replace hi := Decidable.not_not.1 hi
  have hi' : i < xs.length := by omega
  rw [codeT_at _ _ _ _ hi hi'] at h4
  obtain ⟨d1, d2, d3, d4, d5⟩ := g.range _ (List.getElem_mem hi)
  by_cases cl : ¬ (m.vars[i].low ≤ xs[i] ∧ xs[i] ≤ m.vars[i].high)
  · rw [if_neg cl] at h4
    have e1 : decide (m.vars[i].low ≤ xs[i] ∧ xs[i] ≤ m.vars[i].high) = false := decide_eq_false cl
    have e2 := In G xs[i] m.vars[i].low m.vars[i].high
    rw [e1] at e2
    all_goals haveI fA_ : FlagA := ⟨⟩
    all_goals haveI fH_ : FlagH := ⟨⟩
    repeat' (first
      | ((with_reducible apply call0); (focus rfl); (focus exact cal_In); (focus exact e2); (focus rfl))
      | ((with_reducible apply je_call0); (focus rfl); (focus (decide +kernel)); (focus rfl); (focus exact cal_In); (focus exact e2); (focus rfl))
      | ((with_reducible apply qcall); (focus rfl); (focus exact cal_In); (focus exact e2); (focus rfl))
      | exact True.intro
      | refine stp ?_
      | refine two ?_ ?_
      | refine allc fun c_ => ?_
      | (refine imp fun hc => ?_) <;> try (first | contradiction | (exfalso; omega) | (exfalso; exact absurd (of_dT hc) (by assumption)) | (exfalso; exact of_dF hc (by assumption)))
      | refine all fun v_ => ?_)
    all_goals clear fA_ fH_
    all_goals
      refine retv (VS.drop (List.nil_sublist _)) ?_
      ((with_reducible apply rq2); rfl; rfl; rfl)
      exact ret_eq (by rw [h4])
  replace cl := Decidable.not_not.1 cl
  rw [if_pos cl] at h4
  have e1 : decide (m.vars[i].low ≤ xs[i] ∧ xs[i] ≤ m.vars[i].high) = true := decide_eq_true cl
  have e2 := In G xs[i] m.vars[i].low m.vars[i].high
  rw [e1] at e2
  have hsp : spanV m.vars[i] = m.vars[i].high - m.vars[i].low + 1 := rfl
  rw [prodV_drop _ _ hi] at h3
  have hq := (g.take (i + 1)).2.2
  obtain ⟨s1, s2, s3⟩ := sum_step (d := xs[i] - m.vars[i].low) h2 h3 hq.1 (by omega) (by omega)
  have ha := g.all
  have e3 := behindVar G m g hl6 (i + 1) (by omega) i (by omega)
  have hin : inI64 ((xs[i] - m.vars[i].low) * prodV (m.vars.drop (i + 1))) := ⟨by omega, by omega⟩
  all_goals haveI fA_ : FlagA := ⟨⟩
  all_goals haveI fH_ : FlagH := ⟨⟩
  repeat' (first
    | ((with_reducible apply call0); (focus rfl); (focus exact cal_In); (focus exact e2); (focus rfl))
    | ((with_reducible apply je_call0); (focus rfl); (focus (decide +kernel)); (focus rfl); (focus exact cal_In); (focus exact e2); (focus rfl))
    | ((with_reducible apply qcall); (focus rfl); (focus exact cal_In); (focus exact e2); (focus rfl))
    | ((with_reducible apply call0); (focus rfl); (focus exact cal_behindVar); (focus exact e3); (focus rfl))
    | ((with_reducible apply je_call0); (focus rfl); (focus (decide +kernel)); (focus rfl); (focus exact cal_behindVar); (focus exact e3); (focus rfl))
    | ((with_reducible apply qcall); (focus rfl); (focus exact cal_behindVar); (focus exact e3); (focus rfl))
    | exact True.intro
    | refine stp ?_
    | refine two ?_ ?_
    | refine allc fun c_ => ?_
    | (refine imp fun hc => ?_) <;> try (first | contradiction | (exfalso; omega) | (exfalso; exact absurd (of_dT hc) (by assumption)) | (exfalso; exact of_dF hc (by assumption)))
    | refine all fun v_ => ?_)
  all_goals clear fA_ fH_
  refine ⟨(i + 1, n + (xs[i] - m.vars[i].low) * prodV (m.vars.drop (i + 1))), ⟨by dsimp only; omega, s2, s3, h4⟩, by dsimp only; omega, VS.of_le ?_⟩
  repeat (first
    | exact Env.le_nil _
    | refine Env.le_cons (AV.le_refl _) ?_
    | refine Env.le_cons (AV.le_int rfl (by first | rfl | omega | (dsimp only; omega))) ?_)
end Go.Proofs.YtcikppldaepodaaGreatDoor
namespace Go.Sp
open Go Go.Av
set_option linter.unusedVariables false
set_option linter.unusedSimpArgs false

def valsT : List Vr → Int → List Int
  | [], _ => []
  | v :: l, c => (v.low + c / prodV l) :: valsT l (c % prodV l)
theorem valsT_length : ∀ (l : List Vr) (c : Int), (valsT l c).length = l.length
  | [], _ => rfl
  | _ :: l, c => by simp [valsT, valsT_length l]
theorem valsT_at (l : List Vr) (i : Nat) (c : Int) (h : i < l.length) : valsT (l.drop i) c = (l[i].low + c / prodV (l.drop (i + 1))) :: valsT (l.drop (i + 1)) (c % prodV (l.drop (i + 1))) := by
  rw [List.drop_eq_getElem_cons h, valsT]
theorem dig_eq (c q s t : Int) (hq : 0 < q) : (c % (t * (s * q))) / q % s = c / q % s := by
  have e : c % (t * (s * q)) = c + (-(t * (c / (t * (s * q)))) * s) * q := by
    rw [Int.emod_def, show t * (s * q) * (c / (t * (s * q))) = t * (c / (t * (s * q))) * s * q by
      rw [Int.mul_assoc t (s * q), Int.mul_comm (s * q), ← Int.mul_assoc, ← Int.mul_assoc]]
    rw [Int.neg_mul, Int.neg_mul]
    omega
  rw [e, Int.add_mul_ediv_right _ _ (by omega), Int.add_mul_emod_self_right]
theorem valsT_get : ∀ (l : List Vr) (c : Int) (i : Nat) (_ : ∀ v ∈ l, 1 ≤ spanV v) (_ : 0 ≤ c) (_ : c < prodV l) (h : i < l.length) (h' : i < (valsT l c).length), (valsT l c)[i] = l[i].low + c / prodV (l.drop (i + 1)) % spanV l[i]
  | [], _, _, _, _, _, h, _ => by simp at h
  | v :: l, c, 0, hs, h0, hc, _, _ => by
    have hp := prodV_pos fun w hw => hs w (List.mem_cons_of_mem v hw)
    simp only [valsT, List.getElem_cons_zero, List.drop_succ_cons, List.drop_zero]
    rw [Int.emod_eq_of_lt (Int.ediv_nonneg h0 (by omega)) (Int.ediv_lt_of_lt_mul (by omega) hc)]
  | v :: l, c, i + 1, hs, h0, hc, h, h' => by
    have hl : ∀ w ∈ l, 1 ≤ spanV w := fun w hw => hs w (List.mem_cons_of_mem v hw)
    have hp := prodV_pos hl
    have hi : i < l.length := by simpa using h
    have hq := prodV_pos fun w hw => hl w (List.mem_of_mem_drop (i := i + 1) hw)
    have e : prodV l = prodV (l.take i) * (spanV l[i] * prodV (l.drop (i + 1))) := by
      rw [← prodV_drop l i hi, ← prodV_append, List.take_append_drop]
    simp only [valsT, List.getElem_cons_succ, List.drop_succ_cons]
    rw [valsT_get l _ i hl (Int.emod_nonneg _ (by omega)) (Int.emod_lt_of_pos _ (by omega)) hi, e, dig_eq _ _ _ _ (by omega)]
noncomputable def valsF (m : Md) (c : Int) : List Int × Int := if modelF m ≠ 0 then ([], modelF m) else if 0 ≤ c ∧ c < prodV m.vars then (valsT m.vars c, 0) else ([], 9)
theorem quo_quo (c q s : Int) (hq : 0 ≤ q) : c / q / s = c / (s * q) := by rw [Int.ediv_ediv, if_neg (by omega), Int.sub_zero, Int.mul_comm]
def fillV (V : List Int) (k : Nat) : List Int := List.replicate k 0 ++ V.drop k
theorem fillV_length (V : List Int) (k : Nat) (h : k ≤ V.length) : (fillV V k).length = V.length := by simp [fillV]; omega
theorem fillV_set (V : List Int) (k : Nat) (h : k < V.length) : (fillV V (k + 1)).set k V[k] = fillV V k := by
  unfold fillV
  rw [List.replicate_succ', List.append_assoc, List.set_append_right _ _ (by simp), List.drop_eq_getElem_cons h]
  simp
end Go.Sp
namespace Go.Proofs.YtcikppldaepodaaGreatDoor
open Go Go.Av Go.Sp
set_option linter.unusedVariables false
set_option linter.unusedSimpArgs false
set_option maxRecDepth 100000
set_option maxHeartbeats 4000000

theorem cal_Values : Cal Tryz.prog 92 := Cal.of Tryz.func92 (by kernel_rfl) (by kernel_rfl)
theorem cal_ValuesOf : Cal Tryz.prog 86 := Cal.of Tryz.func86 (by kernel_rfl) (by kernel_rfl)
theorem Values (m : Md) (code : Int) : ACr Tryz.prog GP 92 [mdA m, .int code] (.tup [.d (intsD (valsF m code).1), .int (valsF m code).2]) := by
  refine AC_ofV (ts := [4, 5]) Tryz.f92.ntmps Tryz.func92 rfl rfl rfl (by simp [Tryz.ntmps92]) fun W I => ?_
  have ec := Count m
  by_cases c1 : modelF m ≠ 0
  · rw [countF, if_pos c1] at ec
    dsimp only at ec
    all_goals haveI fA_ : FlagA := ⟨⟩
    all_goals haveI fH_ : FlagH := ⟨⟩
    repeat' (first
      | ((with_reducible apply call0); (focus rfl); (focus exact cal_Count); (focus exact ec); (focus rfl))
      | ((with_reducible apply je_call0); (focus rfl); (focus (decide +kernel)); (focus rfl); (focus exact cal_Count); (focus exact ec); (focus rfl))
      | exact True.intro
      | refine stp ?_
      | refine two ?_ ?_
      | refine allc fun c_ => ?_
      | (refine imp fun hc => ?_) <;> try (first | contradiction | (exfalso; omega) | (exfalso; exact absurd (of_dT hc) (by assumption)) | (exfalso; exact of_dF hc (by assumption)))
      | refine all fun v_ => ?_)
    all_goals clear fA_ fH_
    refine retv (VS.trans (VS.drop (List.nil_sublist _)) (vnil (t := 4) 1 8 rfl)) ?_
    ((with_reducible apply rq2); rfl; rfl; rfl)
    exact ret_eq (by rw [valsF, if_pos c1]; rfl)
  have hv := modelF_vars (show modelF m = 0 by omega)
  have g := goodV hv
  have hl6 := varsF_len hv
  have hall := g.all
  rw [countF, if_neg c1] at ec
  dsimp only at ec
  by_cases c2 : ¬ (0 ≤ code ∧ code < prodV m.vars)
  · all_goals haveI fA_ : FlagA := ⟨⟩
    all_goals haveI fH_ : FlagH := ⟨⟩
    repeat' (first
      | ((with_reducible apply call0); (focus rfl); (focus exact cal_Count); (focus exact ec); (focus rfl))
      | ((with_reducible apply je_call0); (focus rfl); (focus (decide +kernel)); (focus rfl); (focus exact cal_Count); (focus exact ec); (focus rfl))
      | exact True.intro
      | refine stp ?_
      | refine two ?_ ?_
      | refine allc fun c_ => ?_
      | (refine imp fun hc => ?_) <;> try (first | contradiction | (exfalso; omega) | (exfalso; exact absurd (of_dT hc) (by assumption)) | (exfalso; exact of_dF hc (by assumption)))
      | refine all fun v_ => ?_)
    all_goals clear fA_ fH_
    all_goals
      refine retv (VS.trans (VS.drop (List.nil_sublist _)) (vnil (t := 4) 1 8 rfl)) ?_
      ((with_reducible apply rq2); rfl; rfl; rfl)
      exact ret_eq (by rw [valsF, if_neg c1, if_neg c2]; rfl)
  replace c2 := Decidable.not_not.1 c2
  have hF : valsF m code = (valsT m.vars code, 0) := by rw [valsF, if_neg c1, if_pos c2]
  have hVl := valsT_length m.vars code
  all_goals haveI fA_ : FlagA := ⟨⟩
  all_goals haveI fH_ : FlagH := ⟨⟩
  repeat' (first
    | ((with_reducible apply call0); (focus rfl); (focus exact cal_Count); (focus exact ec); (focus rfl))
    | ((with_reducible apply je_call0); (focus rfl); (focus (decide +kernel)); (focus rfl); (focus exact cal_Count); (focus exact ec); (focus rfl))
    | exact True.intro
    | refine stp ?_
    | refine two ?_ ?_
    | refine allc fun c_ => ?_
    | (refine imp fun hc => ?_) <;> try (first | contradiction | (exfalso; omega) | (exfalso; exact absurd (of_dT hc) (by assumption)) | (exfalso; exact of_dF hc (by assumption)))
    | refine all fun v_ => ?_)
  all_goals clear fA_ fH_
  obtain ⟨bo, rfl⟩ : ∃ x, x = v_ := ⟨v_, rfl⟩
  obtain ⟨bm, rfl⟩ : ∃ x, x = v_ := ⟨v_, rfl⟩
  have e0 : code / prodV (m.vars.drop m.vars.length) = code := by simp [prodV]
  have e1 : fillV (valsT m.vars code) m.vars.length = List.replicate m.vars.length 0 := by simp [fillV, hVl]
  refine J_loopV (X := Nat) (fun k => [(1, .int (code / prodV (m.vars.drop k))), (2, .val (.pointer (some ⟨bm, 0, none⟩))), (8, .val (.slice (some ⟨bo, 0, none⟩) m.vars.length m.vars.length)), (9, .int ((k : Int) - 1))]) (fun k => [.cells bo 3 ((fillV (valsT m.vars code) k).map AV.int), .cells bm 25 [.d (varsD m.vars), .d (rulesD m.rules)]]) (fun k => k ≤ m.vars.length) (fun k => k) m.vars.length (Nat.le_refl _) ?_ ?_
  · rw [e0, e1]
    refine VS.of_le ?_
    repeat (first
      | exact Env.le_nil _
      | refine Env.le_cons (AV.le_refl _) ?_
      | refine Env.le_cons (AV.le_int rfl (by first | rfl | omega | (dsimp only; omega))) ?_)
  rintro k h1
  have hfl := fillV_length (valsT m.vars code) k (by omega)
  by_cases hk : k = 0
  · subst hk
    all_goals haveI fA_ : FlagA := ⟨⟩
    all_goals haveI fH_ : FlagH := ⟨⟩
    repeat' (first
      | ((with_reducible apply call0); (focus rfl); (focus exact cal_Count); (focus exact ec); (focus rfl))
      | ((with_reducible apply je_call0); (focus rfl); (focus (decide +kernel)); (focus rfl); (focus exact cal_Count); (focus exact ec); (focus rfl))
      | exact True.intro
      | refine stp ?_
      | refine two ?_ ?_
      | refine allc fun c_ => ?_
      | (refine imp fun hc => ?_) <;> try (first | contradiction | (exfalso; omega) | (exfalso; exact absurd (of_dT hc) (by assumption)) | (exfalso; exact of_dF hc (by assumption)))
      | refine all fun v_ => ?_)
    all_goals clear fA_ fH_
    refine retv (VS.trans (VS.drop (h' := [.cells bo 3 ((fillV (valsT m.vars code) 0).map AV.int)]) (by (repeat (first | exact List.nil_sublist _ | (with_reducible apply List.Sublist.cons_cons) | apply List.Sublist.cons)))) (vfz (t := 4) (f := intC) (h1 := []) 1 8 rfl rfl rfl (ints_flat (fillV (valsT m.vars code) 0)) (by omega) (fun _ => rfl) (by omega) (by omega))) ?_
    ((with_reducible apply rq2); rfl; rfl; rfl)
    exact ret_eq (by rw [hF]; simp [fillV] <;> rfl)
  obtain ⟨j, rfl⟩ : ∃ j, k = j + 1 := ⟨k - 1, by omega⟩
  have hj : j < m.vars.length := by omega
  have ej : (((j + 1 : Nat) : Int) - 1) = (j : Int) := by omega
  rw [ej]
  obtain ⟨d1, d2, d3, d4, d5⟩ := g.range _ (List.getElem_mem hj)
  have hq := (g.take (j + 1)).2.2
  have hsp : spanV m.vars[j] = m.vars[j].high - m.vars[j].low + 1 := rfl
  have q0 : 0 ≤ code / prodV (m.vars.drop (j + 1)) := Int.ediv_nonneg c2.1 (by omega)
  have q1 : code / prodV (m.vars.drop (j + 1)) ≤ code := Int.ediv_le_self _ c2.1
  have hn : code / prodV (m.vars.drop (j + 1)) / (m.vars[j].high - m.vars[j].low + 1) = code / prodV (m.vars.drop j) := by rw [quo_quo _ _ _ (by omega), prodV_drop _ _ hj, hsp]
  have hV := valsT_get m.vars code j (fun v hv => (g.span v hv).1) c2.1 c2.2 hj (by omega)
  have hset := fillV_set (valsT m.vars code) j (by omega)
  rw [hV, hsp] at hset
  generalize code / prodV (m.vars.drop (j + 1)) = c at *
  have m0 := Int.emod_nonneg c (show m.vars[j].high - m.vars[j].low + 1 ≠ 0 by omega)
  have m1 := Int.emod_lt_of_pos c (show 0 < m.vars[j].high - m.vars[j].low + 1 by omega)
  all_goals haveI fA_ : FlagA := ⟨⟩
  all_goals haveI fH_ : FlagH := ⟨⟩
  repeat' (first
    | ((with_reducible apply call0); (focus rfl); (focus exact cal_Count); (focus exact ec); (focus rfl))
    | ((with_reducible apply je_call0); (focus rfl); (focus (decide +kernel)); (focus rfl); (focus exact cal_Count); (focus exact ec); (focus rfl))
    | exact True.intro
    | refine stp ?_
    | refine two ?_ ?_
    | refine allc fun c_ => ?_
    | (refine imp fun hc => ?_) <;> try (first | contradiction | (exfalso; omega) | (exfalso; exact absurd (of_dT hc) (by assumption)) | (exfalso; exact of_dF hc (by assumption)))
    | refine all fun v_ => ?_)
  all_goals clear fA_ fH_
  refine ⟨j, by omega, by omega, ?_⟩
  rw [← hn, ← hset]
  refine VS.take (by ((repeat (first | exact Take.nil | ((with_reducible apply Take.cons); (focus ((repeat (first | exact Sel.here | with_reducible apply Sel.there)); done))))); done)) ?_
  repeat (first
    | exact Env.le_nil _
    | refine Env.le_cons (AV.le_refl _) ?_
    | refine Env.le_cons (AV.le_int rfl (by first | rfl | omega | (dsimp only; omega))) ?_)
theorem ValuesOf (G : List (Nat × List D)) (m : Md) (code : Int) : ACr Tryz.prog G 86 [mdA m, .int code] (.tup [.d (intsD (valsF m code).1), .int (valsF m code).2]) := by
  refine AC_ofV (ts := [4, 5]) Tryz.f86.ntmps Tryz.func86 rfl rfl rfl (by simp [Tryz.ntmps86]) fun W I => ?_
  have ec := StateCount G m
  by_cases c1 : modelF m ≠ 0
  · rw [countF, if_pos c1] at ec
    dsimp only at ec
    all_goals haveI fA_ : FlagA := ⟨⟩
    all_goals haveI fH_ : FlagH := ⟨⟩
    repeat' (first
      | ((with_reducible apply call0); (focus rfl); (focus exact cal_StateCount); (focus exact ec); (focus rfl))
      | ((with_reducible apply je_call0); (focus rfl); (focus (decide +kernel)); (focus rfl); (focus exact cal_StateCount); (focus exact ec); (focus rfl))
      | ((with_reducible apply call0); (focus rfl); (focus exact cal_In); (focus exact In _ _ _ _); (focus rfl))
      | ((with_reducible apply je_call0); (focus rfl); (focus (decide +kernel)); (focus rfl); (focus exact cal_In); (focus exact In _ _ _ _); (focus rfl))
      | ((with_reducible apply call0); (focus rfl); (focus exact cal_behindVar); (focus exact e3); (focus rfl))
      | ((with_reducible apply je_call0); (focus rfl); (focus (decide +kernel)); (focus rfl); (focus exact cal_behindVar); (focus exact e3); (focus rfl))
      | exact True.intro
      | refine stp ?_
      | refine two ?_ ?_
      | refine allc fun c_ => ?_
      | (refine imp fun hc => ?_) <;> try (first | contradiction | (exfalso; omega) | (exfalso; exact absurd (of_dT hc) (by assumption)) | (exfalso; exact of_dF hc (by assumption)))
      | refine all fun v_ => ?_)
    all_goals clear fA_ fH_
    refine retv (VS.trans (VS.drop (List.nil_sublist _)) (vnil (t := 4) 1 8 rfl)) ?_
    ((with_reducible apply rq2); rfl; rfl; rfl)
    exact ret_eq (by rw [valsF, if_pos c1]; rfl)
  have hv := modelF_vars (show modelF m = 0 by omega)
  have g := goodV hv
  have hl6 := varsF_len hv
  have hall := g.all
  have hp1 := (g.take 0).2.2.1
  rw [List.drop_zero] at hp1
  rw [countF, if_neg c1] at ec
  dsimp only at ec
  by_cases c2 : ¬ (0 ≤ code ∧ code < prodV m.vars)
  · all_goals haveI fA_ : FlagA := ⟨⟩
    all_goals haveI fH_ : FlagH := ⟨⟩
    repeat' (first
      | ((with_reducible apply call0); (focus rfl); (focus exact cal_StateCount); (focus exact ec); (focus rfl))
      | ((with_reducible apply je_call0); (focus rfl); (focus (decide +kernel)); (focus rfl); (focus exact cal_StateCount); (focus exact ec); (focus rfl))
      | ((with_reducible apply call0); (focus rfl); (focus exact cal_In); (focus exact In _ _ _ _); (focus rfl))
      | ((with_reducible apply je_call0); (focus rfl); (focus (decide +kernel)); (focus rfl); (focus exact cal_In); (focus exact In _ _ _ _); (focus rfl))
      | ((with_reducible apply call0); (focus rfl); (focus exact cal_behindVar); (focus exact e3); (focus rfl))
      | ((with_reducible apply je_call0); (focus rfl); (focus (decide +kernel)); (focus rfl); (focus exact cal_behindVar); (focus exact e3); (focus rfl))
      | exact True.intro
      | refine stp ?_
      | refine two ?_ ?_
      | refine allc fun c_ => ?_
      | (refine imp fun hc => ?_) <;> try (first | contradiction | (exfalso; omega) | (exfalso; exact absurd (of_dT hc) (by assumption)) | (exfalso; exact of_dF hc (by assumption)))
      | refine all fun v_ => ?_)
    all_goals clear fA_ fH_
    all_goals
      refine retv (VS.trans (VS.drop (List.nil_sublist _)) (vnil (t := 4) 1 8 rfl)) ?_
      ((with_reducible apply rq2); rfl; rfl; rfl)
      exact ret_eq (by rw [valsF, if_neg c1, if_neg c2]; rfl)
  replace c2 := Decidable.not_not.1 c2
  have hF : valsF m code = (valsT m.vars code, 0) := by rw [valsF, if_neg c1, if_pos c2]
  have hVl := valsT_length m.vars code
  all_goals haveI fA_ : FlagA := ⟨⟩
  all_goals haveI fH_ : FlagH := ⟨⟩
  repeat' (first
    | ((with_reducible apply call0); (focus rfl); (focus exact cal_StateCount); (focus exact ec); (focus rfl))
    | ((with_reducible apply je_call0); (focus rfl); (focus (decide +kernel)); (focus rfl); (focus exact cal_StateCount); (focus exact ec); (focus rfl))
    | ((with_reducible apply call0); (focus rfl); (focus exact cal_In); (focus exact In _ _ _ _); (focus rfl))
    | ((with_reducible apply je_call0); (focus rfl); (focus (decide +kernel)); (focus rfl); (focus exact cal_In); (focus exact In _ _ _ _); (focus rfl))
    | ((with_reducible apply call0); (focus rfl); (focus exact cal_behindVar); (focus exact e3); (focus rfl))
    | ((with_reducible apply je_call0); (focus rfl); (focus (decide +kernel)); (focus rfl); (focus exact cal_behindVar); (focus exact e3); (focus rfl))
    | exact True.intro
    | refine stp ?_
    | refine two ?_ ?_
    | refine allc fun c_ => ?_
    | (refine imp fun hc => ?_) <;> try (first | contradiction | (exfalso; omega) | (exfalso; exact absurd (of_dT hc) (by assumption)) | (exfalso; exact of_dF hc (by assumption)))
    | refine all fun v_ => ?_)
  all_goals clear fA_ fH_
  obtain ⟨bm, rfl⟩ : ∃ x, x = v_ := ⟨v_, rfl⟩
  refine jrow (E := 3) (sz := 1) intC ?_
  refine J_loopV (X := Nat × Int × List Int × Sl) (fun y => [(1, .int y.2.1), (2, .val (.pointer (some ⟨bm, 0, none⟩))), (8, .val y.2.2.2.v), (9, .int y.1)]) (fun y => [rowE y.2.2.2.v 3 1 intC y.2.2.1, .cells bm 25 [.d (varsD m.vars), .d (rulesD m.rules)]]) (fun y => y.1 ≤ m.vars.length ∧ 0 ≤ y.2.1 ∧ y.2.1 ≤ 4096 ∧ y.2.2.1.length = y.1 ∧ y.2.2.1 ++ valsT (m.vars.drop y.1) y.2.1 = valsT m.vars code) (fun y => m.vars.length - y.1) (0, code, [], Sl.nil) ⟨Nat.zero_le _, c2.1, by dsimp only; omega, rfl, rfl⟩ (VS.of_le ?_) ?_
  · repeat (first
      | exact Env.le_nil _
      | refine Env.le_cons (AV.le_refl _) ?_
      | refine Env.le_cons (AV.le_int rfl (by first | rfl | omega | (dsimp only; omega))) ?_)
  rintro ⟨i, c, acc, q⟩ ⟨h1, h2, h3, h4, h5⟩
  dsimp only at h1 h2 h3 h4 h5 ⊢
  by_cases hi : i < m.vars.length
  · rw [valsT_at _ _ _ hi] at h5
    obtain ⟨d1, d2, d3, d4, d5⟩ := g.range _ (List.getElem_mem hi)
    have hq := (g.take (i + 1)).2.2
    have e3 := behindVar G m g hl6 (i + 1) (by omega) i (by omega)
    generalize prodV (m.vars.drop (i + 1)) = b at *
    have q0 : 0 ≤ c / b := Int.ediv_nonneg h2 (by omega)
    have q1 : c / b ≤ c := Int.ediv_le_self _ h2
    have m0 := Int.emod_nonneg c (show b ≠ 0 by omega)
    have m1 := Int.emod_lt_of_pos c (show 0 < b by omega)
    all_goals haveI fA_ : FlagA := ⟨⟩
    all_goals haveI fH_ : FlagH := ⟨⟩
    all_goals haveI fS_ : StopAt 2 := ⟨⟩
    repeat' (first
      | ((with_reducible apply call0); (focus rfl); (focus exact cal_StateCount); (focus exact ec); (focus rfl))
      | ((with_reducible apply je_call0); (focus rfl); (focus (decide +kernel)); (focus rfl); (focus exact cal_StateCount); (focus exact ec); (focus rfl))
      | ((with_reducible apply call0); (focus rfl); (focus exact cal_In); (focus exact In _ _ _ _); (focus rfl))
      | ((with_reducible apply je_call0); (focus rfl); (focus (decide +kernel)); (focus rfl); (focus exact cal_In); (focus exact In _ _ _ _); (focus rfl))
      | ((with_reducible apply call0); (focus rfl); (focus exact cal_behindVar); (focus exact e3); (focus rfl))
      | ((with_reducible apply je_call0); (focus rfl); (focus (decide +kernel)); (focus rfl); (focus exact cal_behindVar); (focus exact e3); (focus rfl))
      | exact True.intro
      | refine stp ?_
      | refine two ?_ ?_
      | refine allc fun c_ => ?_
      | (refine imp fun hc => ?_) <;> try (first | contradiction | (exfalso; omega))
      | refine all fun v_ => ?_)
    all_goals clear fA_ fH_ fS_
    refine ⟨?_⟩
    refine J_region_HB [rowE q.v 3 1 intC acc] mixed rfl (by (repeat ((with_reducible apply Hd.cons); (focus rfl))); exact Hd.nil) (by (repeat (with_reducible apply len_cons)); exact len_nil) (by decide +kernel) (by ((repeat (first | with_reducible exact Take.nil | ((with_reducible apply Take.cons); (focus ((repeat (first | with_reducible exact Sel.here | with_reducible apply Sel.there)); done))))); done)) ?_
    all_goals haveI fA_ : FlagA := ⟨⟩
    all_goals haveI fH_ : FlagH := ⟨⟩
    repeat' (first
      | ((with_reducible apply call0); (focus rfl); (focus exact cal_StateCount); (focus exact ec); (focus rfl))
      | ((with_reducible apply je_call0); (focus rfl); (focus (decide +kernel)); (focus rfl); (focus exact cal_StateCount); (focus exact ec); (focus rfl))
      | ((with_reducible apply call0); (focus rfl); (focus exact cal_In); (focus exact In _ _ _ _); (focus rfl))
      | ((with_reducible apply je_call0); (focus rfl); (focus (decide +kernel)); (focus rfl); (focus exact cal_In); (focus exact In _ _ _ _); (focus rfl))
      | ((with_reducible apply call0); (focus rfl); (focus exact cal_behindVar); (focus exact e3); (focus rfl))
      | ((with_reducible apply je_call0); (focus rfl); (focus (decide +kernel)); (focus rfl); (focus exact cal_behindVar); (focus exact e3); (focus rfl))
      | exact True.intro
      | refine stp ?_
      | refine two ?_ ?_
      | refine allc fun c_ => ?_
      | (refine imp fun hc => ?_) <;> try (first | contradiction | (exfalso; omega) | (exfalso; exact absurd (of_dT hc) (by assumption)) | (exfalso; exact of_dF hc (by assumption)))
      | refine all fun v_ => ?_)
    all_goals clear fA_ fH_
    refine ⟨(i + 1, c % b, acc ++ [m.vars[i].low + c / b], v_), ⟨by dsimp only; omega, m0, by dsimp only; omega, by simp [h4], by simpa using h5⟩, by dsimp only; omega, ?_⟩
    refine VS.take (by ((repeat (first | exact Take.nil | ((with_reducible apply Take.cons); (focus ((repeat (first | exact Sel.here | with_reducible apply Sel.there)); done))))); done)) ?_
    repeat (first
      | exact Env.le_nil _
      | refine Env.le_cons (AV.le_refl _) ?_
      | refine Env.le_cons (AV.le_int rfl (by first | rfl | omega | (dsimp only; omega))) ?_)
  obtain rfl : i = m.vars.length := by omega
  rw [List.drop_length, valsT, List.append_nil] at h5
  subst h5
  all_goals haveI fA_ : FlagA := ⟨⟩
  all_goals haveI fH_ : FlagH := ⟨⟩
  repeat' (first
    | ((with_reducible apply call0); (focus rfl); (focus exact cal_StateCount); (focus exact ec); (focus rfl))
    | ((with_reducible apply je_call0); (focus rfl); (focus (decide +kernel)); (focus rfl); (focus exact cal_StateCount); (focus exact ec); (focus rfl))
    | ((with_reducible apply call0); (focus rfl); (focus exact cal_In); (focus exact In _ _ _ _); (focus rfl))
    | ((with_reducible apply je_call0); (focus rfl); (focus (decide +kernel)); (focus rfl); (focus exact cal_In); (focus exact In _ _ _ _); (focus rfl))
    | ((with_reducible apply call0); (focus rfl); (focus exact cal_behindVar); (focus exact e3); (focus rfl))
    | ((with_reducible apply je_call0); (focus rfl); (focus (decide +kernel)); (focus rfl); (focus exact cal_behindVar); (focus exact e3); (focus rfl))
    | exact True.intro
    | refine stp ?_
    | refine two ?_ ?_
    | refine allc fun c_ => ?_
    | (refine imp fun hc => ?_) <;> try (first | contradiction | (exfalso; omega) | (exfalso; exact absurd (of_dT hc) (by assumption)) | (exfalso; exact of_dF hc (by assumption)))
    | refine all fun v_ => ?_)
  all_goals clear fA_ fH_
  refine retv (VS.trans (vfreeze (t := 4) (eb := 8) rfl rfl (fun x => rfl) (by omega)) (VS.drop (List.nil_sublist _))) ?_
  ((with_reducible apply rq2); rfl; rfl; rfl)
  exact ret_eq (by rw [hF])
end Go.Proofs.YtcikppldaepodaaGreatDoor
namespace Go.Av
open Go Go.Instr
set_option linter.unusedVariables false
set_option linter.unusedSimpArgs false
section
variable {P : Program} {G : List (Nat × List D)} {ρ : Env} {h : H} {dst : Option Tmp} {ty : TypeId} {pos : String} {after : Array Edge} {g : Option (Nat × Bool)}
theorem pu_lookM1 {α β : Type} [DecidableEq α] {kd : TypeDesc} {kv : α → Value} {vv : β → Value} (K : KeyK kd kv) {T KT ET : TypeId} {x y : Operand} {b : Nat} {ps : List (α × β)} {a : α}
    (hx : evO ρ x = some (.val (.map (some b)))) (hy : evO ρ y = some (.val (kv a))) (hT : P.underlying T = some (.map KT ET)) (hK : P.underlying KT = some kd) (hm : Ent.raw b (mapO (entL kv vv ps)) ∈ h) {c : β} (hc : getM ps a = some c) :
    Pure P G ⟨dst, .lookup T x y false, ty, pos, after, g⟩ ρ h (.val (vv c)) := by
  intro cx I n ac w _ hok hs
  have e1 := rel_val (hs.ev x) (ev_of_evO hx)
  have e2 := rel_val (hs.ev y) (ev_of_evO hy)
  have hb : w.heap[b]? = some (mapO (entL kv vv ps)) := hok.ent _ hm
  refine ⟨vv c, rfl, fun w' hw' => ?_⟩
  have hb' : w'.heap[b]? = some (mapO (entL kv vv ps)) := (hw'.own b (mem_blks hm rfl)).trans hb
  have hobj : (getObj b).run P w' = .ok (.map (mapEs (entL kv vv ps) 0).toArray (entL kv vv ps).length) w' := by simp [getObj, Sem.run, hb', mapO]
  obtain ⟨r, hr1, hr2⟩ := run_find (vv := vv) K hK ps a w'
  simp only [execOp, e1, e2, lookup]
  rw [hc] at hr2
  cases r with
  | none => cases hr2
  | some p =>
    obtain ⟨j, v⟩ := p
    obtain rfl : v = vv c := by simpa using hr2
    simp [run_underlying hT, hobj, K.easy P KT _ a w' hK, hr1]
end
section
variable {k : Kx} {Q : Exit → Env → H → Prop} {ρ : Env} {h h' : H} {ops : Array Oper} {l : List Oper} {d : Nat} {ty : TypeId} {pos : String} {after : Array Edge} {g : Option (Nat × Bool)}
-- an entry of a literal
theorem js_insMr {α β : Type} [DecidableEq α] {kd : TypeDesc} {kv : α → Value} {vv : β → Value} (K : KeyK kd kv) {T KT ET : TypeId} {x y u : Operand} {r : AV} {b : Nat} {ps : List (α × β)} {a : α} {c : β}
    (hx : evO ρ x = some (.val (.map (some b)))) (hy : evO ρ y = some (.val (kv a))) (hv : evO ρ u = some r) (hr : ∀ w I v, AV.rel w I r v → v = vv c) (hT : k.P.underlying T = some (.map KT ET)) (hK : k.P.underlying KT = some kd)
    (hu : Upd (.raw b (mapO (entL kv vv ps))) (.raw b (mapO (entL kv vv (ps ++ [(a, c)])))) h h') (hno : getM ps a = none)
    (hj : JL k ops l Q ρ h') : JL k ops (⟨none, .insert T x y u, ty, pos, after, none⟩ :: l) Q ρ h := by
  obtain ⟨h1, h2, rfl, rfl⟩ := hu.split
  refine JL_eff_skip rfl rfl fun I ac w k1 k2 => ?_
  have e1 := rel_val (k2.ev x) (ev_of_evO hx)
  have e2 := rel_val (k2.ev y) (ev_of_evO hy)
  have e3 := hr _ _ _ (rel_as (k2.ev u) (ev_of_evO hv))
  have hb : w.heap[b]? = some (mapO (entL kv vv ps)) := k1.ent (.raw b (mapO (entL kv vv ps))) (by simp)
  have hfind := find_no (vv := vv) K a ps 0 0 (getM_none.1 hno)
  have hnew : Obj.map (mapEs (entL kv vv ps) 0 ++ [(⟨kv a, vv c, (entL kv vv ps).length⟩ : MapEntry)]).toArray ((entL kv vv ps).length + 1) = mapO (entL kv vv (ps ++ [(a, c)])) := by
    have e : entL kv vv (ps ++ [(a, c)]) = entL kv vv ps ++ [(kv a, vv c)] := by simp [entL]
    unfold mapO
    rw [e, mapEs_append]
    simp [mapEs]
  obtain ⟨g1, g2⟩ := k1.write (w' := { w with heap := w.heap.setIfInBounds b (mapO (entL kv vv (ps ++ [(a, c)]))) }) (e' := .raw b (mapO (entL kv vv (ps ++ [(a, c)])))) (b := b) rfl rfl rfl rfl rfl (by simp)
    (fun x hx => by simp [Array.getElem?_setIfInBounds, Ne.symm hx]) (by
      have hlt := (Array.getElem?_eq_some_iff.1 hb).1
      show _ = _
      simp [Array.getElem?_setIfInBounds, hlt])
  refine ⟨{ w with heap := w.heap.setIfInBounds b (mapO (entL kv vv (ps ++ [(a, c)]))) }, I, h1 ++ .raw b (mapO (entL kv vv (ps ++ [(a, c)]))) :: h2, ?_, g1, k2.mono g2 (fun _ h => h), hj⟩
  have hobj : (getObj b).run k.P w = .ok (.map (mapEs (entL kv vv ps) 0).toArray (entL kv vv ps).length) w := by simp [getObj, Sem.run, hb, mapO]
  have hset := run_setM (P := k.P) (w := w) (r := b) (mapO (entL kv vv (ps ++ [(a, c)]))) (es := (mapEs (entL kv vv ps) 0).toArray) (clock := (entL kv vv ps).length) hb
  simp only [execOp, e1, e2, e3, mapUpdate]
  simp [run_underlying hT, hobj, K.easy k.P KT false a w hK, findKey, run_underlying hK, hfind, hnew, hset]
theorem jmkmapE {α β : Type} (kv : α → Value) (vv : β → Value) {T : TypeId} (hd : Nat.blt d k.n = true) (hj : All fun b : Nat => JL k ops l Q ((d, .val (.map (some b))) :: ρ) (.raw b (mapO (entL kv vv [])) :: h)) : JL k ops (⟨some d, .makeMap T none, ty, pos, after, none⟩ :: l) Q ρ h := jmkmap hd hj
end
end Go.Av
namespace Go.Sp
open Go.Av
set_option linter.unusedVariables false
set_option linter.unusedSimpArgs false

def rank (l : List Fo) : Nat → Nat
  | 0 => 0
  | i + 1 => rank l i + if aheadP (kindAt l i) then 1 else 0
def bitAt (claim : Int) (j : Nat) : Bool := decide (claim / 2 ^ j % 2 = 1)
def valAt (l : List Fo) (i : Nat) : Int := (l[i]?.map Fo.val).getD 0
theorem valAt_eq (l : List Fo) (i : Nat) (hi : i < l.length) : valAt l i = l[i].val := by unfold valAt; rw [List.getElem?_eq_getElem hi]; rfl
def second (l : List Fo) (i : Nat) : Nat := (endOf l (i + 1 : Nat)).1.toNat
def stepT (l : List Fo) (x : List Bool) (c : Int) (i : Nat) (a b : Bool) : Bool :=
  if kindAt l i = 13 then (x[(valAt l i).toNat]?).getD false
  else if kindAt l i = 11 then true
  else if kindAt l i = 12 then false
  else if kindAt l i = 10 then !a
  else if kindAt l i = 8 then a && b
  else if kindAt l i = 9 then a || b
  else bitAt c (rank l i)
def tv (l : List Fo) (x : List Bool) (c : Int) : Nat → Nat → Bool
  | 0, _ => false
  | m + 1, i => if i < l.length then stepT l x c i (tv l x c m (i + 1)) (if i < second l i then tv l x c m (second l i) else false) else false
def tAt (l : List Fo) (x : List Bool) (c : Int) (i : Nat) : Bool := tv l x c (l.length - i) i
theorem rank_succ (l : List Fo) (i : Nat) (hi : i < l.length) : rank l (i + 1) = rank l i + if aheadP l[i].kind then 1 else 0 := by
  simp only [rank, kindAt_eq l i hi]
theorem rank_mono (l : List Fo) : ∀ (m i : Nat), rank l i ≤ rank l (i + m)
  | 0, i => Nat.le_refl _
  | m + 1, i => by have := rank_mono l m i; rw [← Nat.add_assoc]; simp only [rank]; omega
theorem fitsZ_ok {k v p : Int} (h : fitsZ k v p = 0) : 8 ≤ k ∧ (k = 13 → 0 ≤ v ∧ v < p) := by
  unfold fitsZ at h
  by_cases h1 : k < 8
  · rw [if_pos h1] at h; exact absurd h (by decide)
  rw [if_neg h1] at h
  by_cases h2 : (k = 13 ∧ (v < 0 ∨ p ≤ v)) ∨ (k ≠ 13 ∧ v ≠ 0)
  · rw [if_pos h2] at h; exact absurd h (by decide)
  omega
theorem formE_ok (l : List Fo) (p : Int) : ∀ (m i n : Nat), l.length = i + m → formE (l.drop i) p n = 0 → (∀ (q : Nat) (hq : q < l.length), i ≤ q → fitsZ l[q].kind l[q].val p = 0) ∧ n + (rank l l.length - rank l i) ≤ 6
  | 0, i, n, h, he => by
    rw [formE_end l i (by omega)] at he
    refine ⟨fun q hq hi => by omega, ?_⟩
    rw [h, Nat.add_zero, Nat.sub_self]
    by_cases h6 : 6 < n
    · rw [if_pos h6] at he; exact absurd he (by decide)
    · omega
  | m + 1, i, n, h, he => by
    rw [formE_at l i (by omega)] at he
    by_cases h1 : fitsZ l[i].kind l[i].val p ≠ 0
    · rw [if_pos h1] at he; exact absurd he h1
    rw [if_neg h1] at he
    obtain ⟨g1, g2⟩ := formE_ok l p m (i + 1) _ (by omega) he
    have hr := rank_succ l i (by omega)
    have hm := rank_mono l m (i + 1)
    rw [show i + 1 + m = l.length by omega] at hm
    refine ⟨fun q hq hi => ?_, ?_⟩
    · by_cases hqi : q = i
      · subst hqi; simpa using h1
      · exact g1 q hq (by omega)
    · by_cases hc : aheadP l[i].kind
      · rw [if_pos hc] at g2 hr; omega
      · rw [if_neg hc] at g2 hr; omega
theorem formF_ok {l : List Fo} {p : Int} (h : formF l p = 0) : 0 ≤ p ∧ p ≤ 6 ∧ (endsOf l).2 = 0 ∧ (∀ (q : Nat) (hq : q < l.length), fitsZ l[q].kind l[q].val p = 0) ∧ rank l l.length ≤ 6 := by
  unfold formF at h
  by_cases h1 : p < 0 ∨ 6 < p
  · rw [if_pos h1] at h; exact absurd h (by decide)
  rw [if_neg h1] at h
  by_cases h2 : (endsOf l).2 ≠ 0
  · rw [if_pos h2] at h; exact absurd h h2
  rw [if_neg h2] at h
  obtain ⟨g1, g2⟩ := formE_ok l p l.length 0 0 (by omega) (by simpa using h)
  refine ⟨by omega, by omega, by simpa using h2, fun q hq => g1 q hq (Nat.zero_le _), ?_⟩
  simp only [rank] at g2
  omega
theorem all_well {l : List Fo} (h : (endsOf l).2 = 0) : ∀ (i : Nat) (_ : i < l.length), (endOf l i).2 = 0 := by
  obtain ⟨_, _, hend, _, _⟩ := endsOf_ok (l := l) (es := (endsOf l).1) (Prod.ext rfl h)
  intro i hi
  exact (scan_nest l l.length 0 1 l.length (by omega) (by omega) (by unfold endOf at hend; exact hend) i (by omega) (by omega)).1
theorem well_kind {l : List Fo} {i : Nat} (hi : i < l.length) (h : (endOf l i).2 = 0) : (partsOf l[i].kind).2 = 0 := by
  have he := endOf_at l i hi
  by_cases h1 : (partsOf l[i].kind).2 ≠ 0
  · rw [if_pos h1] at he; rw [he] at h; exact absurd h h1
  · simpa using h1
theorem first_in {l : List Fo} {i : Nat} (hi : i < l.length) (h : (endOf l i).2 = 0) (hp : 1 ≤ (partsOf l[i].kind).1) : i + 1 < l.length ∧ (endOf l (i + 1 : Nat)).2 = 0 ∧ i + 1 < second l i ∧ (endOf l (i + 1 : Nat)).1 = (second l i : Nat) ∧ second l i ≤ l.length := by
  obtain ⟨q1, q2, q3, q4⟩ := (Within.start hi h).next (by omega)
  have hb := endOf_bound l i h
  have hb1 := endOf_bound l (i + 1) q1
  unfold second
  refine ⟨by omega, q1, by omega, by omega, by omega⟩
theorem second_in {l : List Fo} {i : Nat} (hi : i < l.length) (h : (endOf l i).2 = 0) (hp : (partsOf l[i].kind).1 = 2) : second l i < l.length ∧ (endOf l (second l i : Nat)).2 = 0 := by
  obtain ⟨q1, q2, q3, q4⟩ := (Within.start hi h).next (by omega)
  obtain ⟨r1, r2, r3, r4⟩ := q4.next (by omega)
  have hb := endOf_bound l i h
  unfold second
  exact ⟨by omega, r1⟩
structure GoodF (l : List Fo) (p : Int) : Prop where
  h60 : l.length ≤ 60
  pos : 0 < l.length
  well : ∀ (i : Nat) (_ : i < l.length), (endOf l i).2 = 0
  kind : ∀ (i : Nat) (hi : i < l.length), 8 ≤ l[i].kind ∧ l[i].kind ≤ 18
  prop : ∀ (i : Nat) (hi : i < l.length), l[i].kind = 13 → 0 ≤ l[i].val ∧ l[i].val < p
  ah : rank l l.length ≤ 6
  ends : (endsOf l).2 = 0
theorem good_of {l : List Fo} {p : Int} (h : formF l p = 0) : GoodF l p := by
  obtain ⟨h1, h2, h3, h4, h5⟩ := formF_ok h
  obtain ⟨k1, k2, _, _, _⟩ := endsOf_ok (l := l) (es := (endsOf l).1) (Prod.ext rfl h3)
  have hw := all_well h3
  refine ⟨k1, k2, hw, fun i hi => ⟨(fitsZ_ok (h4 i hi)).1, ?_⟩, fun i hi => (fitsZ_ok (h4 i hi)).2, h5, h3⟩
  have hk := well_kind hi (hw i hi)
  by_cases h18 : 18 < l[i].kind
  · rw [partsOf_no _ (.inr h18)] at hk; exact absurd hk (by decide)
  · omega
structure TDone (l : List Fo) (x : List Bool) (c : Int) (i : Nat) (out : List Bool) : Prop where
  len : out.length = l.length
  done : ∀ j, i ≤ j → j < l.length → out[j]? = some (tAt l x c j)
  rest : ∀ j, j < i → j < l.length → out[j]? = some false
theorem TDone.get {l : List Fo} {x : List Bool} {c : Int} {i : Nat} {out : List Bool} (d : TDone l x c i out) {j : Nat} (h1 : i ≤ j) (h2 : j < l.length) (h3 : j < out.length) : out[j] = tAt l x c j := by
  have := d.done j h1 h2
  rw [List.getElem?_eq_getElem h3] at this
  exact Option.some.inj this
end Go.Sp
