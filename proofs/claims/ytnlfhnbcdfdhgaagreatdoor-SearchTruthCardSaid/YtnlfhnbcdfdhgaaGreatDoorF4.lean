/- A bundle of this claim's own texts: T6 T8. -/
import Derived.Test.YtnlfhnbcdfdhgaaGreatDoorF2
import Derived.Test.YtnlfhnbcdfdhgaaGreatDoorF3
set_option linter.unusedVariables false
set_option linter.unusedSimpArgs false
set_option maxRecDepth 100000
set_option maxHeartbeats 4000000
namespace Go.Proofs.YtnlfhnbcdfdhgaaGreatDoor
open Go Go.Av Go.Sp

theorem BQ : Cal Tryz.prog 80 := Cal.of Tryz.func80 (by kernel_rfl) (by kernel_rfl)
theorem MT : Cal Tryz.prog 129 := Cal.of Tryz.func129 (by kernel_rfl) (by kernel_rfl)
theorem Fl : Cal Tryz.prog 79 := Cal.of Tryz.func79 (by kernel_rfl) (by kernel_rfl)
theorem ahead (G : List (Nat × List D)) (x : Int) : ACr Tryz.prog G 80 [.int x] (.bool (decide (Ar x))) := by
 refine Dl (ts := [2]) 9 Tryz.func80 rfl rfl rfl (by simp) fun W I => ?_
 repeat' (first
  | exact True.intro
  | refine stp ?_
  | refine two ?_ ?_
  | (refine imp fun hc => ?_) <;> try exact cx hc
  | refine all fun v_ => ?_)
 all_goals
  ((with_reducible apply rq1); rfl; rfl)
  refine AB (congrArg AV.bool ?_)
  (first | rfl | (refine decide_eq_decide.2 ?_; omega) | (refine (decide_eq_true ?_).symm; omega) | (refine (decide_eq_false ?_).symm; omega) | (refine decide_eq_true ?_; omega) | (refine decide_eq_false ?_; omega))
theorem fits (G : List (Nat × List D)) (a b props : Int) : ACr Tryz.prog G 129 [.agg [.int a, .int b], .int props] (.int (FJ a b props)) := by
 refine AJ (ts := [4]) 34 Tryz.func129 rfl rfl rfl (by simp) fun W I => ?_
 repeat' (first
  | refine CH ?_
  | exact True.intro
  | refine stp ?_
  | refine two ?_ ?_
  | (refine imp fun hc => ?_) <;> try exact cx hc
  | refine all fun v_ => ?_)
 all_goals
  refine AN (VS.drop (List.nil_sublist _)) ?_
  ((with_reducible apply rq1); rfl; rfl)
  refine AB (congrArg AV.int ?_)
  unfold FJ
  first
   | (rw [if_pos (by omega)])
   | (rw [if_neg (by omega), if_pos (by omega)])
   | (rw [if_neg (by omega), if_neg (by omega)])

theorem Check (l : List Fo) (props : Int) : ACr Tryz.prog GP 79 [.d (AO l), .int props] (.int (DT l props)) := by
 refine AJ (ts := [4]) 45 Tryz.func79 rfl rfl rfl (by simp) fun W I => ?_
 refine DB (t := 0) rfl fun hl => ?_
 repeat' (first
  | refine ca Am (Ends _) ?_
  | refine ca MT (fits _ _ _ _) ?_
  | refine ca BQ (ahead _ _) ?_
  | refine CH ?_
  | exact True.intro
  | refine stp ?_
  | refine two ?_ ?_
  | (refine imp fun hc => ?_) <;> try exact cx hc
  | refine all fun v_ => ?_)
 all_goals try (
  refine A6 ?_
  ((with_reducible apply rq1); rfl; rfl)
  refine AB (congrArg AV.int ?_)
  unfold DT
  first
   | (rw [if_pos (by omega)])
   | (rw [if_neg (by omega), if_pos (by assumption)]))
 have hs : DT l props = Hb l props 0 := by
  unfold DT
  rw [if_neg (by omega), if_neg (by assumption)]
 refine AM (X := Nat × Nat) (fun y => [(1, .int props), (25, .d (AO l)), (26, .int l.length), (27, .int y.1), (7, .int y.2)]) (fun _ => []) (fun y => y.1 ≤ l.length ∧ y.2 ≤ y.1 ∧ DT l props = Hb (l.drop y.1) props y.2) (fun y => l.length - y.1) (0, 0) ⟨Nat.zero_le _, Nat.le_refl _, hs⟩ (VS.of_le ?_) ?_
 · exact leD
 rintro ⟨i, n⟩ ⟨k1, k2, k3⟩
 dsimp only at k1 k2 k3 ⊢
 by_cases hi : i < l.length
 · rw [RP l i hi] at k3
   repeat' (first
    | refine ca Am (Ends _) ?_
    | refine ca MT (fits _ _ _ _) ?_
    | refine ca BQ (ahead _ _) ?_
    | refine CH ?_
    | exact True.intro
    | refine stp ?_
    | refine two ?_ ?_
    | (refine imp fun hc => ?_) <;> try exact cx hc
    | refine all fun v_ => ?_)
   · refine AN (VS.drop (List.nil_sublist _)) ?_
     ((with_reducible apply rq1); rfl; rfl)
     refine AB (congrArg AV.int ?_)
     rw [k3, if_pos hc]
   all_goals rw [if_neg (by assumption)] at k3
   · rw [if_pos hc] at k3
     refine ⟨(i + 1, n + 1), ⟨by dsimp only; omega, by dsimp only; omega, k3⟩, by dsimp only; omega, vle (List.nil_sublist _) ?_⟩
     exact leD
   · rw [if_neg hc] at k3
     refine ⟨(i + 1, n), ⟨by dsimp only; omega, by dsimp only; omega, k3⟩, by dsimp only; omega, vle (List.nil_sublist _) ?_⟩
     exact leD
 · rw [NM l i (by omega)] at k3
   repeat' (first
    | refine ca Am (Ends _) ?_
    | refine ca MT (fits _ _ _ _) ?_
    | refine ca BQ (ahead _ _) ?_
    | refine CH ?_
    | exact True.intro
    | refine stp ?_
    | refine two ?_ ?_
    | (refine imp fun hc => ?_) <;> try exact cx hc
    | refine all fun v_ => ?_)
   all_goals
    refine A6 ?_
    ((with_reducible apply rq1); rfl; rfl)
    refine AB (congrArg AV.int ?_)
    rw [k3]
    first
     | rw [if_pos (by omega)]
     | rw [if_neg (by omega)]


theorem DC : Cal Tryz.prog 167 := Cal.of Tryz.func167 (by kernel_rfl) (by kernel_rfl)
theorem Ww : Cal Tryz.prog 166 := Cal.of Tryz.func166 (by kernel_rfl) (by kernel_rfl)
theorem GJ : Cal Tryz.prog 133 := Cal.of Tryz.func133 (by kernel_rfl) (by kernel_rfl)
theorem IA (G : List (Nat × List D)) (x : Int) : ACr Tryz.prog G 167 [.int x] (.tup [.bool (decide (C6 x)), .bool (decide (GV x)), .bool (decide (okP x))]) := by
 refine Dl (ts := [2, 3, 4]) 21 Tryz.func167 rfl rfl rfl (by simp) fun W I => ?_
 repeat' (first
  | exact True.intro
  | refine stp ?_
  | refine two ?_ ?_
  | (refine imp fun hc => ?_) <;> try exact cx hc
  | refine all fun v_ => ?_)
 all_goals
  ((with_reducible apply rq3); rfl; rfl; rfl; rfl)
  refine AB (tup3 ?_ ?_ ?_) <;> (first | rfl | (refine decide_eq_decide.2 ?_; omega) | (refine (decide_eq_true ?_).symm; omega) | (refine (decide_eq_false ?_).symm; omega) | (refine decide_eq_true ?_; omega) | (refine decide_eq_false ?_; omega))
theorem op (G : List (Nat × List D)) (a b vars : Int) (h0 : 0 ≤ vars) (h1 : vars ≤ 6) : ACr Tryz.prog G 166 [.agg [.int a, .int b], .int vars] (.int (opZ a b vars)) := by
 refine AJ (ts := [4]) 37 Tryz.func166 rfl rfl rfl (by simp) fun W I => ?_
 repeat' (first
  | refine ca DC (IA _ _) ?_
  | refine CH ?_
  | exact True.intro
  | refine stp ?_
  | refine two ?_ ?_
  | (refine imp fun hc => ?_) <;> try exact cx hc
  | refine all fun v_ => ?_)
 all_goals
  refine AN (VS.drop (List.nil_sublist _)) ?_
  ((with_reducible apply rq1); rfl; rfl)
  refine AB (congrArg AV.int ?_)
  unfold opZ
  first
   | (rw [if_pos (by omega)])
   | (rw [if_neg (by omega), if_pos (by omega)])
   | (rw [if_neg (by omega), if_neg (by omega)])

end Go.Proofs.YtnlfhnbcdfdhgaaGreatDoor
