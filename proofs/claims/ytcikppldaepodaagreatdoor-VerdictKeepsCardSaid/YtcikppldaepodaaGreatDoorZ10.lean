/- A bundle of this claim's own texts: T7 N2 G5. -/
import Derived.Test.YtcikppldaepodaaGreatDoorZ2
import Derived.Test.YtcikppldaepodaaGreatDoorZ3
import Derived.Test.YtcikppldaepodaaGreatDoorZ6
import Derived.Test.YtcikppldaepodaaGreatDoorZ9
namespace Go.Proofs.YtcikppldaepodaaGreatDoor
open Go Go.Av Go.Sp
set_option linter.unusedVariables false
set_option linter.unusedSimpArgs false
set_option maxRecDepth 100000
set_option maxHeartbeats 4000000

end Go.Proofs.YtcikppldaepodaaGreatDoor
namespace Go.Sp
open Go Go.Av
set_option linter.unusedVariables false
set_option linter.unusedSimpArgs false
structure Tk where
  model : Md
  props : List (List Fo)
  formula : List Fo
def Tk.cells (t : Tk) : List D := [varsD t.model.vars, rulesD t.model.rules, termsD t.props, opsD t.formula]
abbrev tkA (t : Tk) : AV := .agg [.d (varsD t.model.vars), .d (rulesD t.model.rules), .d (termsD t.props), .d (opsD t.formula)]
noncomputable def taskF (t : Tk) : Int := if propsF t.model t.props ≠ 0 then propsF t.model t.props else formF t.formula t.props.length
end Go.Sp
namespace Go.Proofs.YtcikppldaepodaaGreatDoor
open Go Go.Av Go.Sp
set_option linter.unusedVariables false
set_option linter.unusedSimpArgs false
set_option maxRecDepth 100000
set_option maxHeartbeats 4000000
theorem cal_terms : Cal Tryz.prog 30 := Cal.of Tryz.func30 (by kernel_rfl) (by kernel_rfl)
theorem cal_tasks : Cal Tryz.prog 9 := Cal.of Tryz.func9 (by kernel_rfl) (by kernel_rfl)
theorem cal_PCheck : Cal Tryz.prog 25 := Cal.of Tryz.func25 (by kernel_rfl) (by kernel_rfl)
theorem cal_TaskFault : Cal Tryz.prog 32 := Cal.of Tryz.func32 (by kernel_rfl) (by kernel_rfl)
theorem conf_Task {g : Nat} {xs : List D} (h : Conf Tryz.prog (g + 9) 29 xs) : ∃ t : Tk, xs = t.cells := by
  obtain ⟨p0, p1, p2, rfl, h0, h1, h2⟩ := conf_struct3_of Tryz.underlying29 h
  obtain ⟨m, rfl⟩ := conf_Model h0
  obtain ⟨ps, rfl, _⟩ := conf_terms h1
  obtain ⟨f, rfl, _⟩ := conf_ops h2
  exact ⟨⟨m, ps, f⟩, rfl⟩
theorem terms (G : List (Nat × List D)) (a : List (List Fo)) : ACr Tryz.prog G 30 [.d (termsD a)] (.d (termsD a)) := by
  refine AC_ofV (ts := [2]) Tryz.f30.ntmps Tryz.func30 rfl rfl rfl (by simp [Tryz.ntmps30]) fun W I => ?_
  refine jfact (t := 0) rfl fun hl => ?_
  all_goals haveI fA_ : FlagA := ⟨⟩
  repeat' (first
    | ((with_reducible apply call0); (focus rfl); (focus exact cal_ops); (focus exact opsU _ _); (focus rfl))
    | ((with_reducible apply je_call0); (focus rfl); (focus (decide +kernel)); (focus rfl); (focus exact cal_ops); (focus exact opsU _ _); (focus rfl))
    | exact True.intro
    | refine stp ?_
    | refine two ?_ ?_
    | (refine imp fun hc => ?_) <;> try (first | contradiction | (exfalso; omega))
    | refine all fun v_ => ?_)
  all_goals clear fA_
  refine jrow (E := 27) (sz := 1) termC ?_
  refine J_loop (X := Nat × Sl) (fun y => [(0, .d (termsD a)), (3, .val y.2.v), (4, .int y.1)]) (fun y => [rowE y.2.v 27 1 termC (a.take y.1)]) (fun y => y.1 ≤ a.length) (fun y => a.length - y.1) (0, Sl.nil) (Nat.zero_le _) ?_ rfl ?_
  · repeat (first
      | exact Env.le_nil _
      | refine Env.le_cons (AV.le_refl _) ?_
      | refine Env.le_cons (AV.le_int rfl (by first | rfl | omega | (dsimp only; omega))) ?_)
  rintro ⟨i, v⟩ h1
  dsimp only at h1 ⊢
  have hlen : (a.take i).length = i := by rw [List.length_take]; omega
  all_goals haveI fA_ : FlagA := ⟨⟩
  repeat' (first
    | ((with_reducible apply call0); (focus rfl); (focus exact cal_ops); (focus exact opsU _ _); (focus rfl))
    | ((with_reducible apply je_call0); (focus rfl); (focus (decide +kernel)); (focus rfl); (focus exact cal_ops); (focus exact opsU _ _); (focus rfl))
    | exact True.intro
    | refine stp ?_
    | refine two ?_ ?_
    | (refine imp fun hc => ?_) <;> try (first | contradiction | (exfalso; omega))
    | refine all fun v_ => ?_)
  all_goals clear fA_
  · refine ⟨(i + 1, v_), by dsimp only; omega, by dsimp only; omega, ?_, ?_⟩
    · repeat (first
        | exact Env.le_nil _
        | refine Env.le_cons (AV.le_refl _) ?_
        | refine Env.le_cons (AV.le_int rfl (by first | rfl | omega | (dsimp only; omega))) ?_)
    · dsimp only
      rw [List.take_succ_eq_append_getElem (by omega)]
  · refine retv (vfreeze (t := 2) (eb := 24) rfl rfl (fun x => rfl) (by rw [hlen]; omega)) ?_
    ((with_reducible apply rq1); rfl; rfl)
    refine ret_eq ?_
    rw [List.take_of_length_le (by omega)]
theorem tasks (G : List (Nat × List D)) (t : Tk) : ACr Tryz.prog G 9 [tkA t] (tkA t) := by
  refine AC_ofR (rs := [.cell 2 29]) Tryz.f9.ntmps Tryz.func9 rfl rfl rfl (by simp [Tryz.ntmps9]) fun W I => ?_
  all_goals haveI fA_ : FlagA := ⟨⟩
  all_goals haveI fH_ : FlagH := ⟨⟩
  repeat' (first
    | ((with_reducible apply call0); (focus rfl); (focus exact cal_models); (focus exact models _ _); (focus rfl))
    | ((with_reducible apply je_call0); (focus rfl); (focus (decide +kernel)); (focus rfl); (focus exact cal_models); (focus exact models _ _); (focus rfl))
    | ((with_reducible apply call0); (focus rfl); (focus exact cal_terms); (focus exact terms _ _); (focus rfl))
    | ((with_reducible apply je_call0); (focus rfl); (focus (decide +kernel)); (focus rfl); (focus exact cal_terms); (focus exact terms _ _); (focus rfl))
    | ((with_reducible apply call0); (focus rfl); (focus exact cal_ops); (focus exact opsU _ _); (focus rfl))
    | ((with_reducible apply je_call0); (focus rfl); (focus (decide +kernel)); (focus rfl); (focus exact cal_ops); (focus exact opsU _ _); (focus rfl))
    | exact True.intro
    | refine stp ?_
    | refine two ?_ ?_
    | refine allc fun c_ => ?_
    | (refine imp fun hc => ?_) <;> try (first | contradiction | (exfalso; omega) | (exfalso; exact absurd (of_dT hc) (by assumption)) | (exfalso; exact of_dF hc (by assumption)))
    | refine all fun v_ => ?_)
  all_goals clear fA_ fH_
  exact retr0 (xs := [tkA t]) ⟨rv_agg rfl (by (with_reducible exact ElC.h)) rfl (by ((repeat (first | exact List.mem_cons_self | apply List.mem_cons_of_mem)); done)) rfl, trivial⟩ rfl (h' := []) (List.nil_sublist _) (ret_eq rfl)
theorem PCheck  (t : Tk) : ACr Tryz.prog GP 25 [tkA t] (.int (taskF t)) := by
  have hP := Props t.model t.props
  have hC := Check t.formula t.props.length
  unfold taskF
  generalize propsF t.model t.props = e1 at hP ⊢
  generalize formF t.formula t.props.length = e2 at hC ⊢
  refine AC_ofV (ts := [2]) Tryz.f25.ntmps Tryz.func25 rfl rfl rfl (by simp [Tryz.ntmps25]) fun W I => ?_
  by_cases h1 : e1 ≠ 0
  · all_goals haveI fA_ : FlagA := ⟨⟩
    all_goals haveI fH_ : FlagH := ⟨⟩
    repeat' (first
      | ((with_reducible apply call0); (focus rfl); (focus exact cal_Props); (focus exact hP); (focus rfl))
      | ((with_reducible apply je_call0); (focus rfl); (focus (decide +kernel)); (focus rfl); (focus exact cal_Props); (focus exact hP); (focus rfl))
      | ((with_reducible apply call0); (focus rfl); (focus exact cal_Check); (focus exact hC); (focus rfl))
      | ((with_reducible apply je_call0); (focus rfl); (focus (decide +kernel)); (focus rfl); (focus exact cal_Check); (focus exact hC); (focus rfl))
      | exact True.intro
      | refine stp ?_
      | refine two ?_ ?_
      | refine allc fun c_ => ?_
      | (refine imp fun hc => ?_) <;> try (first | contradiction | (exfalso; omega) | (exfalso; exact absurd (of_dT hc) (by assumption)) | (exfalso; exact of_dF hc (by assumption)))
      | refine all fun v_ => ?_)
    all_goals clear fA_ fH_
    refine retv (VS.drop (List.nil_sublist _)) ?_
    ((with_reducible apply rq1); rfl; rfl)
    exact ret_eq (by rw [if_pos h1])
  · all_goals haveI fA_ : FlagA := ⟨⟩
    all_goals haveI fH_ : FlagH := ⟨⟩
    repeat' (first
      | ((with_reducible apply call0); (focus rfl); (focus exact cal_Props); (focus exact hP); (focus rfl))
      | ((with_reducible apply je_call0); (focus rfl); (focus (decide +kernel)); (focus rfl); (focus exact cal_Props); (focus exact hP); (focus rfl))
      | ((with_reducible apply call0); (focus rfl); (focus exact cal_Check); (focus exact hC); (focus rfl))
      | ((with_reducible apply je_call0); (focus rfl); (focus (decide +kernel)); (focus rfl); (focus exact cal_Check); (focus exact hC); (focus rfl))
      | exact True.intro
      | refine stp ?_
      | refine two ?_ ?_
      | refine allc fun c_ => ?_
      | (refine imp fun hc => ?_) <;> try (first | contradiction | (exfalso; omega) | (exfalso; exact absurd (of_dT hc) (by assumption)) | (exfalso; exact of_dF hc (by assumption)))
      | refine all fun v_ => ?_)
    all_goals clear fA_ fH_
    refine retv (VS.drop (List.nil_sublist _)) ?_
    ((with_reducible apply rq1); rfl; rfl)
    exact ret_eq (by rw [if_neg h1])
theorem TaskFault (G : List (Nat × List D)) (t : Tk) : ACr Tryz.prog G 32 [tkA t] (.int (taskF t)) := by
  have hP := PropsFault G t.model t.props
  have hC := FormulaFault G t.formula t.props.length
  unfold taskF
  generalize propsF t.model t.props = e1 at hP ⊢
  generalize formF t.formula t.props.length = e2 at hC ⊢
  refine AC_ofV (ts := [2]) Tryz.f32.ntmps Tryz.func32 rfl rfl rfl (by simp [Tryz.ntmps32]) fun W I => ?_
  by_cases h1 : e1 ≠ 0
  · all_goals haveI fA_ : FlagA := ⟨⟩
    all_goals haveI fH_ : FlagH := ⟨⟩
    repeat' (first
      | ((with_reducible apply call0); (focus rfl); (focus exact cal_PropsFault); (focus exact hP); (focus rfl))
      | ((with_reducible apply je_call0); (focus rfl); (focus (decide +kernel)); (focus rfl); (focus exact cal_PropsFault); (focus exact hP); (focus rfl))
      | ((with_reducible apply call0); (focus rfl); (focus exact cal_FormulaFault); (focus exact hC); (focus rfl))
      | ((with_reducible apply je_call0); (focus rfl); (focus (decide +kernel)); (focus rfl); (focus exact cal_FormulaFault); (focus exact hC); (focus rfl))
      | exact True.intro
      | refine stp ?_
      | refine two ?_ ?_
      | refine allc fun c_ => ?_
      | (refine imp fun hc => ?_) <;> try (first | contradiction | (exfalso; omega) | (exfalso; exact absurd (of_dT hc) (by assumption)) | (exfalso; exact of_dF hc (by assumption)))
      | refine all fun v_ => ?_)
    all_goals clear fA_ fH_
    refine retv (VS.drop (List.nil_sublist _)) ?_
    ((with_reducible apply rq1); rfl; rfl)
    exact ret_eq (by rw [if_pos h1])
  · all_goals haveI fA_ : FlagA := ⟨⟩
    all_goals haveI fH_ : FlagH := ⟨⟩
    repeat' (first
      | ((with_reducible apply call0); (focus rfl); (focus exact cal_PropsFault); (focus exact hP); (focus rfl))
      | ((with_reducible apply je_call0); (focus rfl); (focus (decide +kernel)); (focus rfl); (focus exact cal_PropsFault); (focus exact hP); (focus rfl))
      | ((with_reducible apply call0); (focus rfl); (focus exact cal_FormulaFault); (focus exact hC); (focus rfl))
      | ((with_reducible apply je_call0); (focus rfl); (focus (decide +kernel)); (focus rfl); (focus exact cal_FormulaFault); (focus exact hC); (focus rfl))
      | exact True.intro
      | refine stp ?_
      | refine two ?_ ?_
      | refine allc fun c_ => ?_
      | (refine imp fun hc => ?_) <;> try (first | contradiction | (exfalso; omega) | (exfalso; exact absurd (of_dT hc) (by assumption)) | (exfalso; exact of_dF hc (by assumption)))
      | refine all fun v_ => ?_)
    all_goals clear fA_ fH_
    refine retv (VS.drop (List.nil_sublist _)) ?_
    ((with_reducible apply rq1); rfl; rfl)
    exact ret_eq (by rw [if_neg h1])
end Go.Proofs.YtcikppldaepodaaGreatDoor
namespace Go.Sp
open Go Go.Av
set_option linter.unusedVariables false
set_option linter.unusedSimpArgs false

def codeE (n : Int) : List Vr → List Int → Int × Int
  | v :: l, x :: xs => if v.low ≤ x ∧ x ≤ v.high then codeE (n * spanV v + (x - v.low)) l xs else (0, 9)
  | _, _ => (n, 0)
def codeT (n : Int) : List Vr → List Int → Int × Int
  | v :: l, x :: xs => if v.low ≤ x ∧ x ≤ v.high then codeT (n + (x - v.low) * prodV l) l xs else (0, 9)
  | _, _ => (n, 0)
theorem codeE_eq : ∀ (l : List Vr) (xs : List Int) (n : Int), xs.length = l.length → codeE n l xs = codeT (n * prodV l) l xs
  | [], [], n, _ => by simp [codeE, codeT, prodV]
  | [], _ :: _, _, h => by simp at h
  | _ :: _, [], _, h => by simp at h
  | v :: l, x :: xs, n, h => by
    simp only [codeE, codeT]
    by_cases c : v.low ≤ x ∧ x ≤ v.high
    · rw [if_pos c, if_pos c, codeE_eq l xs _ (by simpa using h), prodV, Int.add_mul, Int.mul_assoc]
    · rw [if_neg c, if_neg c]
theorem codeE_at (n : Int) (l : List Vr) (xs : List Int) (i : Nat) (h : i < l.length) (h' : i < xs.length) : codeE n (l.drop i) (xs.drop i) = if l[i].low ≤ xs[i] ∧ xs[i] ≤ l[i].high then codeE (n * spanV l[i] + (xs[i] - l[i].low)) (l.drop (i + 1)) (xs.drop (i + 1)) else (0, 9) := by
  rw [List.drop_eq_getElem_cons h, List.drop_eq_getElem_cons h', codeE]
theorem codeT_at (n : Int) (l : List Vr) (xs : List Int) (i : Nat) (h : i < l.length) (h' : i < xs.length) : codeT n (l.drop i) (xs.drop i) = if l[i].low ≤ xs[i] ∧ xs[i] ≤ l[i].high then codeT (n + (xs[i] - l[i].low) * prodV (l.drop (i + 1))) (l.drop (i + 1)) (xs.drop (i + 1)) else (0, 9) := by
  rw [List.drop_eq_getElem_cons h, List.drop_eq_getElem_cons h', codeT]
theorem codeE_end (n : Int) (l : List Vr) (xs : List Int) (i : Nat) (h : l.length ≤ i) : codeE n (l.drop i) (xs.drop i) = (n, 0) := by rw [List.drop_of_length_le h]; cases xs.drop i <;> rfl
theorem codeT_end (n : Int) (l : List Vr) (xs : List Int) (i : Nat) (h : l.length ≤ i) : codeT n (l.drop i) (xs.drop i) = (n, 0) := by rw [List.drop_of_length_le h]; cases xs.drop i <;> rfl
noncomputable def codeF (m : Md) (xs : List Int) : Int × Int := if modelF m ≠ 0 then (0, modelF m) else if xs.length ≠ m.vars.length then (0, 9) else codeE 0 m.vars xs
theorem codeF_T (m : Md) (xs : List Int) (h : modelF m = 0) (h' : xs.length = m.vars.length) : codeF m xs = codeT 0 m.vars xs := by
  rw [codeF, if_neg (by omega), if_neg (by omega), codeE_eq _ _ _ h', Int.zero_mul]
theorem prodV_drop (l : List Vr) (i : Nat) (h : i < l.length) : prodV (l.drop i) = spanV l[i] * prodV (l.drop (i + 1)) := by
  rw [List.drop_eq_getElem_cons h, prodV]
theorem horner_step {n p s d : Int} (h0 : 0 ≤ n) (h1 : n + 1 ≤ p) (hd0 : 0 ≤ d) (hd : d < s) : 0 ≤ n * s ∧ 0 ≤ n * s + d ∧ n * s + d + 1 ≤ p * s := by
  have a1 : 0 ≤ n * s := Int.mul_nonneg h0 (by omega)
  have a2 : (n + 1) * s ≤ p * s := Int.mul_le_mul_of_nonneg_right h1 (by omega)
  rw [Int.add_mul, Int.one_mul] at a2
  omega
theorem sum_step {n p q s d : Int} (h0 : 0 ≤ n) (h1 : n + s * q ≤ p) (hq : 1 ≤ q) (hd0 : 0 ≤ d) (hd : d < s) : 0 ≤ d * q ∧ 0 ≤ n + d * q ∧ n + d * q + q ≤ p := by
  have a1 : 0 ≤ d * q := Int.mul_nonneg hd0 (by omega)
  have a2 : (d + 1) * q ≤ s * q := Int.mul_le_mul_of_nonneg_right (by omega) (by omega)
  rw [Int.add_mul, Int.one_mul] at a2
  omega
end Go.Sp
