/- Contracts: the small ones: between two bounds; copies and comparisons of rows. -/
import Derived.Test.YtmamiihpghnmmaaDoorEl
import Derived.Test.YtmamiihpghnmmaaDoorSt
import Derived.Test.YtmamiihpghnmmaaDoorSu
import Derived.Test.YtmamiihpghnmmaaDoorE4
namespace Go.Proofs.YtmamiihpghnmmaaDoor
open Go Go.Av Go.Sp
set_option linter.unusedVariables false
set_option linter.unusedSimpArgs false
set_option maxRecDepth 100000
set_option maxHeartbeats 4000000

theorem cal_In : Cal Tryd.prog 46 := Cal.of Tryd.func46 (by kernel_rfl) (by kernel_rfl)
theorem cal_ops : Cal Tryd.prog 33 := Cal.of Tryd.func33 (by kernel_rfl) (by kernel_rfl)
theorem cal_ints : Cal Tryd.prog 31 := Cal.of Tryd.func31 (by kernel_rfl) (by kernel_rfl)
theorem cal_sameInts : Cal Tryd.prog 27 := Cal.of Tryd.func27 (by kernel_rfl) (by kernel_rfl)
theorem cal_sameOps : Cal Tryd.prog 39 := Cal.of Tryd.func39 (by kernel_rfl) (by kernel_rfl)
theorem cal_sameTruths : Cal Tryd.prog 18 := Cal.of Tryd.func18 (by kernel_rfl) (by kernel_rfl)
theorem cal_sameTerms : Cal Tryd.prog 38 := Cal.of Tryd.func38 (by kernel_rfl) (by kernel_rfl)
theorem ACr_true {P : Program} {G : List (Nat × List D)} {f : FuncId} {xs : List AV} {p : Prop} [Decidable p] (h : ACr P G f xs (.bool (decide p))) (hp : p) : ACr P G f xs (.bool true) := by rwa [decide_eq_true hp] at h
theorem ACr_false {P : Program} {G : List (Nat × List D)} {f : FuncId} {xs : List AV} {p : Prop} [Decidable p] (h : ACr P G f xs (.bool (decide p))) (hp : ¬ p) : ACr P G f xs (.bool false) := by rwa [decide_eq_false hp] at h
theorem In (G : List (Nat × List D)) (x a b : Int) : ACr Tryd.prog G 46 [.int x, .int a, .int b] (.bool (decide (a ≤ x ∧ x ≤ b))) := by
  refine AC_of (ts := [6]) 15 Tryd.func46 rfl rfl rfl (by simp) fun W I => ?_
  repeat' (first
    | exact True.intro
    | refine stp ?_
    | refine two ?_ ?_
    | (refine imp fun hc => ?_) <;> try (first | contradiction | (exfalso; omega))
    | refine all fun v_ => ?_)
  all_goals
    ((with_reducible apply rq1); rfl; rfl)
    refine ret_eq (congrArg AV.bool ?_)
    (first | rfl | (refine decide_eq_decide.2 ?_; omega) | (refine (decide_eq_true ?_).symm; omega) | (refine (decide_eq_false ?_).symm; omega) | (refine decide_eq_true ?_; omega) | (refine decide_eq_false ?_; omega))
/-- A copy. -/
theorem ops (G : List (Nat × List D)) (a : List Fo) (ha : a.length * 16 ≤ 140737488355328) : ACr Tryd.prog G 33 [.d (opsD a)] (.d (opsD a)) := by
  refine AC_ofV (ts := [2]) 5 Tryd.func33 rfl rfl rfl (by simp) fun W I => ?_
  repeat' (first
    | exact True.intro
    | refine stp ?_
    | refine two ?_ ?_
    | (refine imp fun hc => ?_) <;> try (first | contradiction | (exfalso; omega))
    | refine all fun v_ => ?_)
  refine retv0 ?_
  ((with_reducible apply rq1); rfl; rfl)
  exact ret_eq rfl
/-- A copy. -/
theorem ints (G : List (Nat × List D)) (a : List Int) (ha : a.length * 8 ≤ 140737488355328) : ACr Tryd.prog G 31 [.d (intsD a)] (.d (intsD a)) := by
  refine AC_ofV (ts := [2]) 5 Tryd.func31 rfl rfl rfl (by simp) fun W I => ?_
  repeat' (first
    | exact True.intro
    | refine stp ?_
    | refine two ?_ ?_
    | (refine imp fun hc => ?_) <;> try (first | contradiction | (exfalso; omega))
    | refine all fun v_ => ?_)
  refine retv0 ?_
  ((with_reducible apply rq1); rfl; rfl)
  exact ret_eq rfl
theorem opsU (G : List (Nat × List D)) (a : List Fo) : ACr Tryd.prog G 33 [.d (opsD a)] (.d (opsD a)) := AC.fact fun h => ops G a h
theorem intsU (G : List (Nat × List D)) (a : List Int) : ACr Tryd.prog G 31 [.d (intsD a)] (.d (intsD a)) := AC.fact fun h => ints G a h
/-- Are they the same? -/
theorem sameInts (G : List (Nat × List D)) (a b : List Int) : ACr Tryd.prog G 27 [.d (intsD a), .d (intsD b)] (.bool (decide (a = b))) := by
  refine AC_of (ts := [4]) 26 Tryd.func27 rfl rfl rfl (by simp) fun W I => ?_
  refine jfact (t := 0) rfl fun hl0 => ?_
  refine jfact (t := 1) rfl fun hl1 => ?_
  repeat' (first
    | exact True.intro
    | refine stp ?_
    | refine two ?_ ?_
    | (refine imp fun hc => ?_) <;> try (first | contradiction | (exfalso; omega))
    | refine all fun v_ => ?_)
  · ((with_reducible apply rq1); rfl; rfl)
    refine ret_eq ?_
    rw [decide_eq_false]
    intro e; subst e; omega
  refine J_loop (X := Nat) (fun i => [(0, .d (intsD a)), (1, .d (intsD b)), (5, .int i)]) (fun _ => []) (fun i => i ≤ a.length ∧ a.take i = b.take i) (fun i => a.length - i) 0 ⟨Nat.zero_le _, rfl⟩ ?_ rfl ?_
  · repeat (first
      | exact Env.le_nil _
      | refine Env.le_cons (AV.le_refl _) ?_
      | refine Env.le_cons (AV.le_int rfl (by first | rfl | omega | (dsimp only; omega))) ?_)
  rintro i ⟨h1, h2⟩
  repeat' (first
    | exact True.intro
    | refine stp ?_
    | refine two ?_ ?_
    | (refine imp fun hc => ?_) <;> try (first | contradiction | (exfalso; omega))
    | refine all fun v_ => ?_)
  all_goals first
    | (((with_reducible apply rq1); rfl; rfl)
       refine ret_eq ?_
       rw [decide_eq_false]
       intro e; subst e
       exact hc rfl)
    | (refine ⟨i + 1, ⟨by omega, take_step (by omega) (by omega) h2 ?_⟩, by first | omega | (dsimp only; omega), ?_, rfl⟩
       · simpa using hc
       · repeat (first
           | exact Env.le_nil _
           | refine Env.le_cons (AV.le_refl _) ?_
           | refine Env.le_cons (AV.le_int rfl (by first | rfl | omega | (dsimp only; omega))) ?_))
    | (((with_reducible apply rq1); rfl; rfl)
       refine ret_eq ?_
       rw [decide_eq_true]
       rwa [List.take_of_length_le (by omega), List.take_of_length_le (by omega)] at h2)
/-- Are they the same? -/
theorem sameOps (G : List (Nat × List D)) (a b : List Fo) : ACr Tryd.prog G 39 [.d (opsD a), .d (opsD b)] (.bool (decide (a = b))) := by
  refine AC_of (ts := [4]) 26 Tryd.func39 rfl rfl rfl (by simp) fun W I => ?_
  refine jfact (t := 0) rfl fun hl0 => ?_
  refine jfact (t := 1) rfl fun hl1 => ?_
  repeat' (first
    | exact True.intro
    | refine stp ?_
    | refine two ?_ ?_
    | (refine imp fun hc => ?_) <;> try (first | contradiction | (exfalso; omega))
    | refine all fun v_ => ?_)
  · ((with_reducible apply rq1); rfl; rfl)
    refine ret_eq ?_
    rw [decide_eq_false]
    intro e; subst e; omega
  refine J_loop (X := Nat) (fun i => [(0, .d (opsD a)), (1, .d (opsD b)), (5, .int i)]) (fun _ => []) (fun i => i ≤ a.length ∧ a.take i = b.take i) (fun i => a.length - i) 0 ⟨Nat.zero_le _, rfl⟩ ?_ rfl ?_
  · repeat (first
      | exact Env.le_nil _
      | refine Env.le_cons (AV.le_refl _) ?_
      | refine Env.le_cons (AV.le_int rfl (by first | rfl | omega | (dsimp only; omega))) ?_)
  rintro i ⟨h1, h2⟩
  repeat' (first
    | exact True.intro
    | refine stp ?_
    | refine two ?_ ?_
    | (refine imp fun hc => ?_) <;> try (first | contradiction | (exfalso; omega))
    | refine all fun v_ => ?_)
  all_goals first
    | (((with_reducible apply rq1); rfl; rfl)
       refine ret_eq ?_
       rw [decide_eq_false]
       intro e; subst e
       simp at hc)
    | (refine ⟨i + 1, ⟨by omega, take_step (by omega) (by omega) h2 ?_⟩, by first | omega | (dsimp only; omega), ?_, rfl⟩
       · (simp only [Bool.and_eq_true, beq_iff_eq] at hc; exact Fo.ext' hc.1 hc.2)
       · repeat (first
           | exact Env.le_nil _
           | refine Env.le_cons (AV.le_refl _) ?_
           | refine Env.le_cons (AV.le_int rfl (by first | rfl | omega | (dsimp only; omega))) ?_))
    | (((with_reducible apply rq1); rfl; rfl)
       refine ret_eq ?_
       rw [decide_eq_true]
       rwa [List.take_of_length_le (by omega), List.take_of_length_le (by omega)] at h2)
/-- Are they the same? -/
theorem sameTruths (G : List (Nat × List D)) (a b : List Bool) : ACr Tryd.prog G 18 [.d (boolsD a), .d (boolsD b)] (.bool (decide (a = b))) := by
  refine AC_of (ts := [4]) 26 Tryd.func18 rfl rfl rfl (by simp) fun W I => ?_
  refine jfact (t := 0) rfl fun hl0 => ?_
  refine jfact (t := 1) rfl fun hl1 => ?_
  repeat' (first
    | exact True.intro
    | refine stp ?_
    | refine two ?_ ?_
    | (refine imp fun hc => ?_) <;> try (first | contradiction | (exfalso; omega))
    | refine all fun v_ => ?_)
  · ((with_reducible apply rq1); rfl; rfl)
    refine ret_eq ?_
    rw [decide_eq_false]
    intro e; subst e; omega
  refine J_loop (X := Nat) (fun i => [(0, .d (boolsD a)), (1, .d (boolsD b)), (5, .int i)]) (fun _ => []) (fun i => i ≤ a.length ∧ a.take i = b.take i) (fun i => a.length - i) 0 ⟨Nat.zero_le _, rfl⟩ ?_ rfl ?_
  · repeat (first
      | exact Env.le_nil _
      | refine Env.le_cons (AV.le_refl _) ?_
      | refine Env.le_cons (AV.le_int rfl (by first | rfl | omega | (dsimp only; omega))) ?_)
  rintro i ⟨h1, h2⟩
  repeat' (first
    | exact True.intro
    | refine stp ?_
    | refine two ?_ ?_
    | (refine imp fun hc => ?_) <;> try (first | contradiction | (exfalso; omega))
    | refine all fun v_ => ?_)
  all_goals first
    | (((with_reducible apply rq1); rfl; rfl)
       refine ret_eq ?_
       rw [decide_eq_false]
       intro e; subst e
       simp at hc)
    | (refine ⟨i + 1, ⟨by omega, take_step (by omega) (by omega) h2 ?_⟩, by first | omega | (dsimp only; omega), ?_, rfl⟩
       · simpa using hc
       · repeat (first
           | exact Env.le_nil _
           | refine Env.le_cons (AV.le_refl _) ?_
           | refine Env.le_cons (AV.le_int rfl (by first | rfl | omega | (dsimp only; omega))) ?_))
    | (((with_reducible apply rq1); rfl; rfl)
       refine ret_eq ?_
       rw [decide_eq_true]
       rwa [List.take_of_length_le (by omega), List.take_of_length_le (by omega)] at h2)
end Go.Proofs.YtmamiihpghnmmaaDoor
