/- A bundle of this claim's own texts: T6 T8. -/
import Derived.Test.YtniklgkoiaeipaaGreatDoorD1
import Derived.Test.YtniklgkoiaeipaaGreatDoorD8
set_option linter.unusedVariables false
set_option linter.unusedSimpArgs false
set_option maxRecDepth 100000
set_option maxHeartbeats 4000000
namespace Go.Proofs.YtniklgkoiaeipaaGreatDoor
open Go Go.Av Go.Sp

theorem cal_ahead : Cal Tryz.prog 89 := Cal.of Tryz.func89 (by kernel_rfl) (by kernel_rfl)
theorem cal_fits : Cal Tryz.prog 134 := Cal.of Tryz.func134 (by kernel_rfl) (by kernel_rfl)
theorem cal_Check : Cal Tryz.prog 88 := Cal.of Tryz.func88 (by kernel_rfl) (by kernel_rfl)
theorem ahead (G : List (Nat × List D)) (x : Int) : ACr Tryz.prog G 89 [.int x] (.bool (decide (aheadP x))) := by
 refine AC_of (ts := [2]) 9 Tryz.func89 rfl rfl rfl (by simp) fun W I => ?_
 repeat' (first
  | exact True.intro
  | refine stp ?_
  | refine two ?_ ?_
  | (refine imp fun hc => ?_) <;> try exact cx hc
  | refine all fun v_ => ?_)
 all_goals
  ((with_reducible apply rq1); rfl; rfl)
  refine ret_eq (congrArg AV.bool ?_)
  (first | rfl | (refine decide_eq_decide.2 ?_; omega) | (refine (decide_eq_true ?_).symm; omega) | (refine (decide_eq_false ?_).symm; omega) | (refine decide_eq_true ?_; omega) | (refine decide_eq_false ?_; omega))
theorem fits (G : List (Nat × List D)) (a b props : Int) : ACr Tryz.prog G 134 [.agg [.int a, .int b], .int props] (.int (fitsZ a b props)) := by
 refine AC_ofV (ts := [4]) 34 Tryz.func134 rfl rfl rfl (by simp) fun W I => ?_
 repeat' (first
  | refine allocD ?_
  | exact True.intro
  | refine stp ?_
  | refine two ?_ ?_
  | (refine imp fun hc => ?_) <;> try exact cx hc
  | refine all fun v_ => ?_)
 all_goals
  refine retv (VS.drop (List.nil_sublist _)) ?_
  ((with_reducible apply rq1); rfl; rfl)
  refine ret_eq (congrArg AV.int ?_)
  unfold fitsZ
  first
   | (rw [if_pos (by omega)])
   | (rw [if_neg (by omega), if_pos (by omega)])
   | (rw [if_neg (by omega), if_neg (by omega)])

theorem armXT6_2 {p q : Prop} (hp : p) (h : p → q := by
 apply cmp; (focus (first
  | ((with_reducible apply call0); (focus rfl); (focus exact cal_Ends); (focus exact Ends _); (focus rfl))
  | ((with_reducible apply je_call0); (focus rfl); (focus (decide +kernel)); (focus rfl); (focus exact cal_Ends); (focus exact Ends _); (focus rfl))
  | ((with_reducible apply call0); (focus rfl); (focus exact cal_fits); (focus exact fits _ _ _ _); (focus rfl))
  | ((with_reducible apply je_call0); (focus rfl); (focus (decide +kernel)); (focus rfl); (focus exact cal_fits); (focus exact fits _ _ _ _); (focus rfl))
  | ((with_reducible apply call0); (focus rfl); (focus exact cal_ahead); (focus exact ahead _ _); (focus rfl))
  | ((with_reducible apply je_call0); (focus rfl); (focus (decide +kernel)); (focus rfl); (focus exact cal_ahead); (focus exact ahead _ _); (focus rfl))
  ))
 exact fun h => h) : q := h hp
theorem Check (l : List Fo) (props : Int) : ACr Tryz.prog GP 88 [.d (opsD l), .int props] (.int (formF l props)) := by
 refine AC_ofV (ts := [4]) 45 Tryz.func88 rfl rfl rfl (by simp) fun W I => ?_
 refine jfact (t := 0) rfl fun hl => ?_
 repeat' (first
  | refine armXT6_2 ?_
  | refine allocD ?_
  | exact True.intro
  | refine stp ?_
  | refine two ?_ ?_
  | (refine imp fun hc => ?_) <;> try exact cx hc
  | refine all fun v_ => ?_)
 all_goals try (
  refine retv0 ?_
  ((with_reducible apply rq1); rfl; rfl)
  refine ret_eq (congrArg AV.int ?_)
  unfold formF
  first
   | (rw [if_pos (by omega)])
   | (rw [if_neg (by omega), if_pos (by assumption)]))
 have hs : formF l props = formE l props 0 := by
  unfold formF
  rw [if_neg (by omega), if_neg (by assumption)]
 refine J_loopV (X := Nat × Nat) (fun y => [(1, .int props), (25, .d (opsD l)), (26, .int l.length), (27, .int y.1), (7, .int y.2)]) (fun _ => []) (fun y => y.1 ≤ l.length ∧ y.2 ≤ y.1 ∧ formF l props = formE (l.drop y.1) props y.2) (fun y => l.length - y.1) (0, 0) ⟨Nat.zero_le _, Nat.le_refl _, hs⟩ (VS.of_le ?_) ?_
 · exact leD
 rintro ⟨i, n⟩ ⟨k1, k2, k3⟩
 dsimp only at k1 k2 k3 ⊢
 by_cases hi : i < l.length
 · rw [formE_at l i hi] at k3
   repeat' (first
    | refine armXT6_2 ?_
    | refine allocD ?_
    | exact True.intro
    | refine stp ?_
    | refine two ?_ ?_
    | (refine imp fun hc => ?_) <;> try exact cx hc
    | refine all fun v_ => ?_)
   · refine retv (VS.drop (List.nil_sublist _)) ?_
     ((with_reducible apply rq1); rfl; rfl)
     refine ret_eq (congrArg AV.int ?_)
     rw [k3, if_pos hc]
   all_goals rw [if_neg (by assumption)] at k3
   · rw [if_pos hc] at k3
     refine ⟨(i + 1, n + 1), ⟨by dsimp only; omega, by dsimp only; omega, k3⟩, by dsimp only; omega, vle (List.nil_sublist _) ?_⟩
     exact leD
   · rw [if_neg hc] at k3
     refine ⟨(i + 1, n), ⟨by dsimp only; omega, by dsimp only; omega, k3⟩, by dsimp only; omega, vle (List.nil_sublist _) ?_⟩
     exact leD
 · rw [formE_end l i (by omega)] at k3
   repeat' (first
    | refine armXT6_2 ?_
    | refine allocD ?_
    | exact True.intro
    | refine stp ?_
    | refine two ?_ ?_
    | (refine imp fun hc => ?_) <;> try exact cx hc
    | refine all fun v_ => ?_)
   all_goals
    refine retv0 ?_
    ((with_reducible apply rq1); rfl; rfl)
    refine ret_eq (congrArg AV.int ?_)
    rw [k3]
    first
     | rw [if_pos (by omega)]
     | rw [if_neg (by omega)]


theorem cal_truth : Cal Tryz.prog 179 := Cal.of Tryz.func179 (by kernel_rfl) (by kernel_rfl)
theorem cal_op : Cal Tryz.prog 178 := Cal.of Tryz.func178 (by kernel_rfl) (by kernel_rfl)
theorem cal_ECheck : Cal Tryz.prog 136 := Cal.of Tryz.func136 (by kernel_rfl) (by kernel_rfl)
theorem truth (G : List (Nat × List D)) (x : Int) : ACr Tryz.prog G 179 [.int x] (.tup [.bool (decide (makesP x)), .bool (decide (takesP x)), .bool (decide (okP x))]) := by
 refine AC_of (ts := [2, 3, 4]) 21 Tryz.func179 rfl rfl rfl (by simp) fun W I => ?_
 repeat' (first
  | exact True.intro
  | refine stp ?_
  | refine two ?_ ?_
  | (refine imp fun hc => ?_) <;> try exact cx hc
  | refine all fun v_ => ?_)
 all_goals
  ((with_reducible apply rq3); rfl; rfl; rfl; rfl)
  refine ret_eq (tup3 ?_ ?_ ?_) <;> (first | rfl | (refine decide_eq_decide.2 ?_; omega) | (refine (decide_eq_true ?_).symm; omega) | (refine (decide_eq_false ?_).symm; omega) | (refine decide_eq_true ?_; omega) | (refine decide_eq_false ?_; omega))
theorem armXT8_2 {p q : Prop} (hp : p) (h : p → q := by
 apply cmp; (focus (first
  | ((with_reducible apply call0); (focus rfl); (focus exact cal_truth); (focus exact truth _ _); (focus rfl))
  | ((with_reducible apply je_call0); (focus rfl); (focus (decide +kernel)); (focus rfl); (focus exact cal_truth); (focus exact truth _ _); (focus rfl))
  ))
 exact fun h => h) : q := h hp
theorem op (G : List (Nat × List D)) (a b vars : Int) (h0 : 0 ≤ vars) (h1 : vars ≤ 6) : ACr Tryz.prog G 178 [.agg [.int a, .int b], .int vars] (.int (opZ a b vars)) := by
 refine AC_ofV (ts := [4]) 37 Tryz.func178 rfl rfl rfl (by simp) fun W I => ?_
 repeat' (first
  | refine armXT8_2 ?_
  | refine allocD ?_
  | exact True.intro
  | refine stp ?_
  | refine two ?_ ?_
  | (refine imp fun hc => ?_) <;> try exact cx hc
  | refine all fun v_ => ?_)
 all_goals
  refine retv (VS.drop (List.nil_sublist _)) ?_
  ((with_reducible apply rq1); rfl; rfl)
  refine ret_eq (congrArg AV.int ?_)
  unfold opZ
  first
   | (rw [if_pos (by omega)])
   | (rw [if_neg (by omega), if_pos (by omega)])
   | (rw [if_neg (by omega), if_neg (by omega)])

end Go.Proofs.YtniklgkoiaeipaaGreatDoor
