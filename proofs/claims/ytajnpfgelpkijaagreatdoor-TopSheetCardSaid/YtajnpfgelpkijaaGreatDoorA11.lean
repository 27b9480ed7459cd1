/- A bundle of this claim's own texts: T6. -/
import Derived.Test.YtajnpfgelpkijaaGreatDoorA4
import Derived.Test.YtajnpfgelpkijaaGreatDoorA8
set_option linter.unusedVariables false
set_option linter.unusedSimpArgs false
set_option maxRecDepth 100000
set_option maxHeartbeats 4000000
namespace Go.Proofs.YtajnpfgelpkijaaGreatDoor
open Go Go.Av Go.Sp

theorem BO : Cal Tryz.prog 93 := Cal.of Tryz.func93 (by kernel_rfl) (by kernel_rfl)
theorem L2 : Cal Tryz.prog 92 := Cal.of Tryz.func92 (by kernel_rfl) (by kernel_rfl)
theorem Fs : Cal Tryz.prog 53 := Cal.of Tryz.func53 (by kernel_rfl) (by kernel_rfl)
theorem ahead (G : List (Nat × List D)) (x : Int) : ACr Tryz.prog G 93 [.int x] (.bool (decide (AU x))) := by
 refine Dd (ts := [2]) 9 Tryz.func93 rfl rfl rfl (by simp) fun W I => ?_
 repeat' (first
  | exact True.intro
  | refine stp ?_
  | refine two ?_ ?_
  | (refine imp fun hc => ?_) <;> try exact cx hc
  | refine all fun v_ => ?_)
 all_goals
  ((with_reducible apply rq1); rfl; rfl)
  refine AD (congrArg AV.bool ?_)
  (first | rfl | (refine decide_eq_decide.2 ?_; omega) | (refine (decide_eq_true ?_).symm; omega) | (refine (decide_eq_false ?_).symm; omega) | (refine decide_eq_true ?_; omega) | (refine decide_eq_false ?_; omega))
theorem fits (G : List (Nat × List D)) (a b props : Int) : ACr Tryz.prog G 92 [.agg [.int a, .int b], .int props] (.int (D1 a b props)) := by
 refine AK (ts := [4]) 34 Tryz.func92 rfl rfl rfl (by simp) fun W I => ?_
 repeat' (first
  | refine BX ?_
  | exact True.intro
  | refine stp ?_
  | refine two ?_ ?_
  | (refine imp fun hc => ?_) <;> try exact cx hc
  | refine all fun v_ => ?_)
 all_goals
  refine AO (VS.drop (List.nil_sublist _)) ?_
  ((with_reducible apply rq1); rfl; rfl)
  refine AD (congrArg AV.int ?_)
  unfold D1
  first
   | (rw [if_pos (by omega)])
   | (rw [if_neg (by omega), if_pos (by omega)])
   | (rw [if_neg (by omega), if_neg (by omega)])

theorem Check (l : List Fo) (props : Int) : ACr Tryz.prog GP 53 [.d (AN l), .int props] (.int (DS l props)) := by
 refine AK (ts := [4]) 45 Tryz.func53 rfl rfl rfl (by simp) fun W I => ?_
 refine EC (t := 0) rfl fun hl => ?_
 repeat' (first
  | refine ca An (Ends _) ?_
  | refine ca L2 (fits _ _ _ _) ?_
  | refine ca BO (ahead _ _) ?_
  | refine BX ?_
  | exact True.intro
  | refine stp ?_
  | refine two ?_ ?_
  | (refine imp fun hc => ?_) <;> try exact cx hc
  | refine all fun v_ => ?_)
 all_goals try (
  refine CY ?_
  ((with_reducible apply rq1); rfl; rfl)
  refine AD (congrArg AV.int ?_)
  unfold DS
  first
   | (rw [if_pos (by omega)])
   | (rw [if_neg (by omega), if_pos (by assumption)]))
 have hs : DS l props = HZ l props 0 := by
  unfold DS
  rw [if_neg (by omega), if_neg (by assumption)]
 refine AL (X := Nat × Nat) (fun y => [(1, .int props), (25, .d (AN l)), (26, .int l.length), (27, .int y.1), (7, .int y.2)]) (fun _ => []) (fun y => y.1 ≤ l.length ∧ y.2 ≤ y.1 ∧ DS l props = HZ (l.drop y.1) props y.2) (fun y => l.length - y.1) (0, 0) ⟨Nat.zero_le _, Nat.le_refl _, hs⟩ (VS.of_le ?_) ?_
 · exact leD
 rintro ⟨i, n⟩ ⟨k1, k2, k3⟩
 dsimp only at k1 k2 k3 ⊢
 by_cases hi : i < l.length
 · rw [RG l i hi] at k3
   repeat' (first
    | refine ca An (Ends _) ?_
    | refine ca L2 (fits _ _ _ _) ?_
    | refine ca BO (ahead _ _) ?_
    | refine BX ?_
    | exact True.intro
    | refine stp ?_
    | refine two ?_ ?_
    | (refine imp fun hc => ?_) <;> try exact cx hc
    | refine all fun v_ => ?_)
   · refine AO (VS.drop (List.nil_sublist _)) ?_
     ((with_reducible apply rq1); rfl; rfl)
     refine AD (congrArg AV.int ?_)
     rw [k3, if_pos hc]
   all_goals rw [if_neg (by assumption)] at k3
   · rw [if_pos hc] at k3
     refine ⟨(i + 1, n + 1), ⟨by dsimp only; omega, by dsimp only; omega, k3⟩, by dsimp only; omega, vle (List.nil_sublist _) ?_⟩
     exact leD
   · rw [if_neg hc] at k3
     refine ⟨(i + 1, n), ⟨by dsimp only; omega, by dsimp only; omega, k3⟩, by dsimp only; omega, vle (List.nil_sublist _) ?_⟩
     exact leD
 · rw [Nu l i (by omega)] at k3
   repeat' (first
    | refine ca An (Ends _) ?_
    | refine ca L2 (fits _ _ _ _) ?_
    | refine ca BO (ahead _ _) ?_
    | refine BX ?_
    | exact True.intro
    | refine stp ?_
    | refine two ?_ ?_
    | (refine imp fun hc => ?_) <;> try exact cx hc
    | refine all fun v_ => ?_)
   all_goals
    refine CY ?_
    ((with_reducible apply rq1); rfl; rfl)
    refine AD (congrArg AV.int ?_)
    rw [k3]
    first
     | rw [if_pos (by omega)]
     | rw [if_neg (by omega)]

end Go.Proofs.YtajnpfgelpkijaaGreatDoor
