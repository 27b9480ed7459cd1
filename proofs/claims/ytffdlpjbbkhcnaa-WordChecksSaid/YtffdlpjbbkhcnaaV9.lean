/- Contracts: the laws' comparisons: numbers, lists, spots, graphs. -/
import Derived.Test.YtffdlpjbbkhcnaaV2
import Derived.Test.YtffdlpjbbkhcnaaSu
namespace Go.Proofs.Ytffdlpjbbkhcnaa
open Go Go.Av Go.Sp
set_option linter.unusedVariables false
set_option linter.unusedSimpArgs false
set_option maxRecDepth 100000
set_option maxHeartbeats 4000000

theorem cal_sameInts : Cal Try.prog 43 := Cal.of Try.func43 (by kernel_rfl) (by kernel_rfl)
theorem cal_sameLists : Cal Try.prog 29 := Cal.of Try.func29 (by kernel_rfl) (by kernel_rfl)
theorem cal_sameSpots : Cal Try.prog 66 := Cal.of Try.func66 (by kernel_rfl) (by kernel_rfl)
theorem cal_sameGraph : Cal Try.prog 44 := Cal.of Try.func44 (by kernel_rfl) (by kernel_rfl)
/-- Are they the same? -/
theorem sameInts (G : List (Nat × List D)) (a b : List Int) : ACr Try.prog G 43 [.d (intsD a), .d (intsD b)] (.bool (decide (a = b))) := by
  refine AC_of (ts := [4]) 26 Try.func43 rfl rfl rfl (by simp) fun W I => ?_
  refine jfact (t := 0) rfl fun hl0 => ?_
  refine jfact (t := 1) rfl fun hl1 => ?_
  repeat' (first
    | exact True.intro
    | refine stp ?_
    | refine two ?_ ?_
    | (refine imp fun hc => ?_) <;> try (first | contradiction | (exfalso; omega))
    | refine all fun v_ => ?_)
  · ((with_reducible apply rq1); rfl; rfl)
    refine ret_eq ?_
    rw [decide_eq_false]
    intro e; subst e; omega
  refine J_loop (X := Nat) (fun i => [(0, .d (intsD a)), (1, .d (intsD b)), (5, .int i)]) (fun _ => []) (fun i => i ≤ a.length ∧ a.take i = b.take i) (fun i => a.length - i) 0 ⟨Nat.zero_le _, rfl⟩ ?_ rfl ?_
  · repeat (first
      | exact Env.le_nil _
      | refine Env.le_cons (AV.le_refl _) ?_
      | refine Env.le_cons (AV.le_int rfl (by first | rfl | omega | (dsimp only; omega))) ?_)
  rintro i ⟨h1, h2⟩
  repeat' (first
    | exact True.intro
    | refine stp ?_
    | refine two ?_ ?_
    | (refine imp fun hc => ?_) <;> try (first | contradiction | (exfalso; omega))
    | refine all fun v_ => ?_)
  all_goals first
    | (((with_reducible apply rq1); rfl; rfl)
       refine ret_eq ?_
       rw [decide_eq_false]
       intro e; subst e
       exact hc rfl)
    | (refine ⟨i + 1, ⟨by omega, take_step (by omega) (by omega) h2 ?_⟩, by first | omega | (dsimp only; omega), ?_, rfl⟩
       · simpa using hc
       · repeat (first
           | exact Env.le_nil _
           | refine Env.le_cons (AV.le_refl _) ?_
           | refine Env.le_cons (AV.le_int rfl (by first | rfl | omega | (dsimp only; omega))) ?_))
    | (((with_reducible apply rq1); rfl; rfl)
       refine ret_eq ?_
       rw [decide_eq_true]
       rwa [List.take_of_length_le (by omega), List.take_of_length_le (by omega)] at h2)
/-- Are they the same? -/
theorem sameSpots (G : List (Nat × List D)) (a b : List Fo) : ACr Try.prog G 66 [.d (opsD a), .d (opsD b)] (.bool (decide (a = b))) := by
  refine AC_of (ts := [4]) 26 Try.func66 rfl rfl rfl (by simp) fun W I => ?_
  refine jfact (t := 0) rfl fun hl0 => ?_
  refine jfact (t := 1) rfl fun hl1 => ?_
  repeat' (first
    | exact True.intro
    | refine stp ?_
    | refine two ?_ ?_
    | (refine imp fun hc => ?_) <;> try (first | contradiction | (exfalso; omega))
    | refine all fun v_ => ?_)
  · ((with_reducible apply rq1); rfl; rfl)
    refine ret_eq ?_
    rw [decide_eq_false]
    intro e; subst e; omega
  refine J_loop (X := Nat) (fun i => [(0, .d (opsD a)), (1, .d (opsD b)), (5, .int i)]) (fun _ => []) (fun i => i ≤ a.length ∧ a.take i = b.take i) (fun i => a.length - i) 0 ⟨Nat.zero_le _, rfl⟩ ?_ rfl ?_
  · repeat (first
      | exact Env.le_nil _
      | refine Env.le_cons (AV.le_refl _) ?_
      | refine Env.le_cons (AV.le_int rfl (by first | rfl | omega | (dsimp only; omega))) ?_)
  rintro i ⟨h1, h2⟩
  repeat' (first
    | exact True.intro
    | refine stp ?_
    | refine two ?_ ?_
    | (refine imp fun hc => ?_) <;> try (first | contradiction | (exfalso; omega))
    | refine all fun v_ => ?_)
  all_goals first
    | (((with_reducible apply rq1); rfl; rfl)
       refine ret_eq ?_
       rw [decide_eq_false]
       intro e; subst e
       simp at hc)
    | (refine ⟨i + 1, ⟨by omega, take_step (by omega) (by omega) h2 ?_⟩, by first | omega | (dsimp only; omega), ?_, rfl⟩
       · (simp only [Bool.and_eq_true, beq_iff_eq] at hc; exact Fo.ext' hc.1 hc.2)
       · repeat (first
           | exact Env.le_nil _
           | refine Env.le_cons (AV.le_refl _) ?_
           | refine Env.le_cons (AV.le_int rfl (by first | rfl | omega | (dsimp only; omega))) ?_))
    | (((with_reducible apply rq1); rfl; rfl)
       refine ret_eq ?_
       rw [decide_eq_true]
       rwa [List.take_of_length_le (by omega), List.take_of_length_le (by omega)] at h2)
/-- Are they the same? -/
theorem sameLists (G : List (Nat × List D)) (a b : List (List Int)) : ACr Try.prog G 29 [.d (listsD a), .d (listsD b)] (.bool (decide (a = b))) := by
  refine AC_of (ts := [4]) 27 Try.func29 rfl rfl rfl (by simp) fun W I => ?_
  refine jfact (t := 0) rfl fun hl0 => ?_
  refine jfact (t := 1) rfl fun hl1 => ?_
  repeat' (first
    | ((with_reducible apply qcall); (focus rfl); (focus exact cal_sameInts); (focus exact sameInts _ _ _); (focus rfl))
    | exact True.intro
    | refine stp ?_
    | refine two ?_ ?_
    | (refine imp fun hc => ?_) <;> try (first | contradiction | (exfalso; omega))
    | refine all fun v_ => ?_)
  · ((with_reducible apply rq1); rfl; rfl)
    refine ret_eq ?_
    rw [decide_eq_false]
    intro e; subst e; omega
  refine J_loop (X := Nat) (fun i => [(0, .d (listsD a)), (1, .d (listsD b)), (5, .int i)]) (fun _ => []) (fun i => i ≤ a.length ∧ a.take i = b.take i) (fun i => a.length - i) 0 ⟨Nat.zero_le _, rfl⟩ ?_ rfl ?_
  · repeat (first
      | exact Env.le_nil _
      | refine Env.le_cons (AV.le_refl _) ?_
      | refine Env.le_cons (AV.le_int rfl (by first | rfl | omega | (dsimp only; omega))) ?_)
  rintro i ⟨h1, h2⟩
  repeat' (first
    | ((with_reducible apply qcall); (focus rfl); (focus exact cal_sameInts); (focus exact sameInts _ _ _); (focus rfl))
    | exact True.intro
    | refine stp ?_
    | refine two ?_ ?_
    | (refine imp fun hc => ?_) <;> try (first | contradiction | (exfalso; omega))
    | refine all fun v_ => ?_)
  all_goals first
    | (((with_reducible apply rq1); rfl; rfl)
       refine ret_eq ?_
       rw [decide_eq_false]
       intro e; subst e
       exact hc rfl)
    | (refine ⟨i + 1, ⟨by omega, take_step (by omega) (by omega) h2 ?_⟩, by first | omega | (dsimp only; omega), ?_, rfl⟩
       · exact hc
       · repeat (first
           | exact Env.le_nil _
           | refine Env.le_cons (AV.le_refl _) ?_
           | refine Env.le_cons (AV.le_int rfl (by first | rfl | omega | (dsimp only; omega))) ?_))
    | (((with_reducible apply rq1); rfl; rfl)
       refine ret_eq ?_
       rw [decide_eq_true]
       rwa [List.take_of_length_le (by omega), List.take_of_length_le (by omega)] at h2)
theorem ACr_true {P : Program} {G : List (Nat × List D)} {f : FuncId} {xs : List AV} {p : Prop} [Decidable p] (h : ACr P G f xs (.bool (decide p))) (hp : p) : ACr P G f xs (.bool true) := by rwa [decide_eq_true hp] at h
/-- A graph is what it is. -/
theorem sameGraph (G : List (Nat × List D)) (g : Gr) : ACr Try.prog G 44 [grA g, grA g] (.bool true) := by
  refine AC_ofV (ts := [4]) Try.f44.ntmps Try.func44 rfl rfl rfl (by simp [Try.ntmps44]) fun W I => ?_
  have e1 := ACr_true (sameSpots G g.spots g.spots) rfl
  have e2 := ACr_true (sameLists G g.next g.next) rfl
  have e3 := ACr_true (sameInts G g.sets g.sets) rfl
  repeat' (first
    | ((with_reducible apply call0); (focus rfl); (focus exact cal_sameSpots); (focus exact e1); (focus rfl))
    | ((with_reducible apply je_call0); (focus rfl); (focus (decide +kernel)); (focus rfl); (focus exact cal_sameSpots); (focus exact e1); (focus rfl))
    | ((with_reducible apply call0); (focus rfl); (focus exact cal_sameLists); (focus exact e2); (focus rfl))
    | ((with_reducible apply je_call0); (focus rfl); (focus (decide +kernel)); (focus rfl); (focus exact cal_sameLists); (focus exact e2); (focus rfl))
    | ((with_reducible apply call0); (focus rfl); (focus exact cal_sameInts); (focus exact e3); (focus rfl))
    | ((with_reducible apply je_call0); (focus rfl); (focus (decide +kernel)); (focus rfl); (focus exact cal_sameInts); (focus exact e3); (focus rfl))
    | exact True.intro
    | refine stph ?_
    | refine two ?_ ?_
    | refine allc fun c_ => ?_
    | (refine imp fun hc => ?_) <;> try (first | contradiction | (exfalso; omega))
    | refine all fun v_ => ?_)
  all_goals first
    | (refine retv (VS.drop (List.nil_sublist _)) ?_
       ((with_reducible apply rq1); rfl; rfl)
       exact ret_eq (by simp_all))
    | (exfalso; simp_all; done)
end Go.Proofs.Ytffdlpjbbkhcnaa
