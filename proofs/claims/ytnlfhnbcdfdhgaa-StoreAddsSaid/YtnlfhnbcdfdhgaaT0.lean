/- Contracts: the small ones: between two bounds; copies and comparisons of rows. -/
import Derived.Test.YtnlfhnbcdfdhgaaEl
import Derived.Test.YtnlfhnbcdfdhgaaSt
import Derived.Test.YtnlfhnbcdfdhgaaSu
import Derived.Test.YtnlfhnbcdfdhgaaE4
namespace Go.Proofs.Ytnlfhnbcdfdhgaa
open Go Go.Av Go.Sp
set_option linter.unusedVariables false
set_option linter.unusedSimpArgs false
set_option maxRecDepth 100000
set_option maxHeartbeats 4000000

theorem cal_In : Cal Try.prog 28 := Cal.of Try.func28 (by kernel_rfl) (by kernel_rfl)
theorem cal_sameInts : Cal Try.prog 18 := Cal.of Try.func18 (by kernel_rfl) (by kernel_rfl)
theorem ACr_true {P : Program} {G : List (Nat × List D)} {f : FuncId} {xs : List AV} {p : Prop} [Decidable p] (h : ACr P G f xs (.bool (decide p))) (hp : p) : ACr P G f xs (.bool true) := by rwa [decide_eq_true hp] at h
theorem ACr_false {P : Program} {G : List (Nat × List D)} {f : FuncId} {xs : List AV} {p : Prop} [Decidable p] (h : ACr P G f xs (.bool (decide p))) (hp : ¬ p) : ACr P G f xs (.bool false) := by rwa [decide_eq_false hp] at h
theorem In (G : List (Nat × List D)) (x a b : Int) : ACr Try.prog G 28 [.int x, .int a, .int b] (.bool (decide (a ≤ x ∧ x ≤ b))) := by
 refine AC_of (ts := [6]) 15 Try.func28 rfl rfl rfl (by simp) fun W I => ?_
 repeat' (first
  | exact True.intro
  | refine stp ?_
  | refine two ?_ ?_
  | (refine imp fun hc => ?_) <;> try exact cx hc
  | refine all fun v_ => ?_)
 all_goals
  ((with_reducible apply rq1); rfl; rfl)
  refine ret_eq (congrArg AV.bool ?_)
  (first | rfl | (refine decide_eq_decide.2 ?_; omega) | (refine (decide_eq_true ?_).symm; omega) | (refine (decide_eq_false ?_).symm; omega) | (refine decide_eq_true ?_; omega) | (refine decide_eq_false ?_; omega))
/-- Are they the same? -/
theorem sameInts (G : List (Nat × List D)) (a b : List Int) : ACr Try.prog G 18 [.d (intsD a), .d (intsD b)] (.bool (decide (a = b))) := by
 refine AC_of (ts := [4]) 26 Try.func18 rfl rfl rfl (by simp) fun W I => ?_
 refine jfact (t := 0) rfl fun hl0 => ?_
 refine jfact (t := 1) rfl fun hl1 => ?_
 repeat' (first
  | exact True.intro
  | refine stp ?_
  | refine two ?_ ?_
  | (refine imp fun hc => ?_) <;> try exact cx hc
  | refine all fun v_ => ?_)
 · ((with_reducible apply rq1); rfl; rfl)
   refine ret_eq ?_
   rw [decide_eq_false]
   intro e; subst e; omega
 refine J_loop (X := Nat) (fun i => [(0, .d (intsD a)), (1, .d (intsD b)), (5, .int i)]) (fun _ => []) (fun i => i ≤ a.length ∧ a.take i = b.take i) (fun i => a.length - i) 0 ⟨Nat.zero_le _, rfl⟩ ?_ rfl ?_
 · exact leD
 rintro i ⟨h1, h2⟩
 repeat' (first
  | exact True.intro
  | refine stp ?_
  | refine two ?_ ?_
  | (refine imp fun hc => ?_) <;> try exact cx hc
  | refine all fun v_ => ?_)
 all_goals first
  | (((with_reducible apply rq1); rfl; rfl)
     refine ret_eq ?_
     rw [decide_eq_false]
     intro e; subst e
     exact hc rfl)
  | (refine ⟨i + 1, ⟨by omega, take_step (by omega) (by omega) h2 ?_⟩, by first | omega | (dsimp only; omega), ?_, rfl⟩
     · simpa using hc
     · exact leD)
  | (((with_reducible apply rq1); rfl; rfl)
     refine ret_eq ?_
     rw [decide_eq_true]
     rwa [List.take_of_length_le (by omega), List.take_of_length_le (by omega)] at h2)
end Go.Proofs.Ytnlfhnbcdfdhgaa
