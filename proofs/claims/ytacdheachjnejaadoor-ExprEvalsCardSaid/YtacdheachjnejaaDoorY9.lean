/- Contracts: foretellref.worked, Evaluated. -/
import Derived.Test.YtacdheachjnejaaDoorY5
import Derived.Test.YtacdheachjnejaaDoorY6
import Derived.Test.YtacdheachjnejaaDoorY7
import Derived.Test.YtacdheachjnejaaDoorY8
namespace Go.Proofs.YtacdheachjnejaaDoor
open Go Go.Av Go.Sp
set_option linter.unusedVariables false
set_option linter.unusedSimpArgs false
set_option maxRecDepth 100000
set_option maxHeartbeats 4000000
theorem worked (G : List (Nat × List D)) (env : List Int) (henv : ∀ v ∈ env, limP v) (h6 : env.length ≤ 6) : ∀ (m : Nat) (l : List Fo), l.length ≤ m → GoodE l env.length → ACr Tryd.prog G 48 [.d (opsD l), .d (intsD env)] (.tup [.int (wk l env).1, .int (wk l env).2]) := by
  intro m
  induction m using Nat.strongRecOn with
  | _ m ih =>
  intro l hm g
  have hk := g.kind g.pos
  have hk1 : 1 ≤ (l[nat_lit 0]'g.pos).kind := hk.1
  have hk2 : (l[nat_lit 0]'g.pos).kind ≤ 12 := hk.2.1
  by_cases a1 : (l[nat_lit 0]'g.pos).kind ≤ 2
  · exact workedLo G env henv h6 m ih l hm g ⟨hk1, a1⟩
  by_cases a2 : (l[nat_lit 0]'g.pos).kind ≤ 5
  · exact workedAr G env henv h6 m ih l hm g ⟨by omega, a2⟩
  by_cases a3 : (l[nat_lit 0]'g.pos).kind ≤ 7
  · exact workedCm G env henv h6 m ih l hm g ⟨by omega, a3⟩
  by_cases a4 : (l[nat_lit 0]'g.pos).kind ≤ 9
  · exact workedBo G env henv h6 m ih l hm g ⟨by omega, a4⟩
  exact workedUp G env henv h6 m ih l hm g ⟨by omega, hk2⟩
theorem Evaluated (G : List (Nat × List D)) (l : List Fo) (env : List Int) : ACr Tryd.prog G 16 [.d (opsD l), .d (intsD env)] (.tup [.int (evalF l env).1, .int (evalF l env).2]) := by
  refine AC.factI (f := intC) (xs := env) (.there .here) fun hlv => ?_
  have hC := ExprChecked G l env.length
  refine AC_ofV (ts := [4, 5]) Tryd.f16.ntmps Tryd.func16 rfl rfl rfl (by simp [Tryd.ntmps16]) fun _ I => ?_
  have hgood := goodE_of (l := l) (vars := env.length)
  unfold evalF
  generalize exprC l env.length = p at hC hgood ⊢
  obtain ⟨t, e⟩ := p
  dsimp only at hC hgood ⊢
  by_cases he : e ≠ 0
  · repeat' (first
      | ((with_reducible apply call0); (focus rfl); (focus exact cal_ExprChecked); (focus exact hC); (focus rfl))
      | ((with_reducible apply je_call0); (focus rfl); (focus (decide +kernel)); (focus rfl); (focus exact cal_ExprChecked); (focus exact hC); (focus rfl))
      | exact True.intro
      | refine stph ?_
      | refine two ?_ ?_
      | refine allc fun c_ => ?_
      | (refine imp fun hc => ?_) <;> try (first | contradiction | (exfalso; omega) | (exfalso; exact absurd (of_dT hc) (by assumption)) | (exfalso; exact of_dF hc (by assumption)))
      | refine all fun v_ => ?_)
    refine retv (VS.drop (List.nil_sublist _)) ?_
    ((with_reducible apply rq2); rfl; rfl; rfl)
    refine ret_eq ?_
    rw [if_pos he]
  replace he := Decidable.not_not.1 he
  obtain ⟨g, _, hv6⟩ := hgood he
  subst he
  rw [if_neg (fun h => h rfl)]
  repeat' (first
    | ((with_reducible apply call0); (focus rfl); (focus exact cal_ExprChecked); (focus exact hC); (focus rfl))
    | ((with_reducible apply je_call0); (focus rfl); (focus (decide +kernel)); (focus rfl); (focus exact cal_ExprChecked); (focus exact hC); (focus rfl))
    | exact True.intro
    | refine stph ?_
    | refine two ?_ ?_
    | refine allc fun c_ => ?_
    | (refine imp fun hc => ?_) <;> try (first | contradiction | (exfalso; omega) | (exfalso; exact absurd (of_dT hc) (by assumption)) | (exfalso; exact of_dF hc (by assumption)))
    | refine all fun v_ => ?_)
  refine J_loopV (X := Nat) (fun i => [(0, .d (opsD l)), (1, .d (intsD env)), (8, .int i)]) (fun _ => []) (fun i => i ≤ env.length ∧ ∀ (j : Nat) (h : j < env.length), j < i → limP env[j]) (fun i => env.length - i) 0 ⟨Nat.zero_le _, fun _ _ h => absurd h (Nat.not_lt_zero _)⟩ (VS.of_le ?_) ?_
  · repeat (first
      | exact Env.le_nil _
      | refine Env.le_cons (AV.le_refl _) ?_
      | refine Env.le_cons (AV.le_int rfl (by first | rfl | omega | (dsimp only; omega))) ?_)
  rintro i ⟨h1, h2⟩
  by_cases hi : i < env.length
  · by_cases hl : limP env[i]
    · have hin := ACr_true (In G (env[i]) (-1000000) 1000000) hl
      repeat' (first
        | ((with_reducible apply call0); (focus rfl); (focus exact cal_In); (focus exact hin); (focus rfl))
        | ((with_reducible apply je_call0); (focus rfl); (focus (decide +kernel)); (focus rfl); (focus exact cal_In); (focus exact hin); (focus rfl))
        | exact True.intro
        | refine stph ?_
        | refine two ?_ ?_
        | refine allc fun c_ => ?_
        | (refine imp fun hc => ?_) <;> try (first | contradiction | (exfalso; omega) | (exfalso; exact absurd (of_dT hc) (by assumption)) | (exfalso; exact of_dF hc (by assumption)))
        | refine all fun v_ => ?_)
      refine ⟨i + 1, ⟨by omega, fun j hj hji => ?_⟩, by omega, VS.of_le ?_⟩
      · by_cases e : j = i
        · subst e; exact hl
        · exact h2 j hj (by omega)
      · repeat (first
          | exact Env.le_nil _
          | refine Env.le_cons (AV.le_refl _) ?_
          | refine Env.le_cons (AV.le_int rfl (by first | rfl | omega | (dsimp only; omega))) ?_)
    · have hno : ¬ ∀ v ∈ env, limP v := fun h => hl (h _ (List.getElem_mem hi))
      have hin := ACr_false (In G (env[i]) (-1000000) 1000000) hl
      rw [if_neg hno]
      repeat' (first
        | ((with_reducible apply call0); (focus rfl); (focus exact cal_In); (focus exact hin); (focus rfl))
        | ((with_reducible apply je_call0); (focus rfl); (focus (decide +kernel)); (focus rfl); (focus exact cal_In); (focus exact hin); (focus rfl))
        | exact True.intro
        | refine stph ?_
        | refine two ?_ ?_
        | refine allc fun c_ => ?_
        | (refine imp fun hc => ?_) <;> try (first | contradiction | (exfalso; omega) | (exfalso; exact absurd (of_dT hc) (by assumption)) | (exfalso; exact of_dF hc (by assumption)))
        | refine all fun v_ => ?_)
      refine retv (VS.drop (List.nil_sublist _)) ?_
      ((with_reducible apply rq2); rfl; rfl; rfl)
      refine ret_eq ?_
      rfl
  obtain rfl : i = env.length := by omega
  have henv : ∀ v ∈ env, limP v := fun v hv => by
    obtain ⟨j, hj, rfl⟩ := List.getElem_of_mem hv
    exact h2 j hj hj
  rw [if_pos henv]
  have hw := worked G env henv (by omega) l.length l (Nat.le_refl _) g
  repeat' (first
    | ((with_reducible apply call0); (focus rfl); (focus exact cal_worked); (focus exact hw); (focus rfl))
    | ((with_reducible apply je_call0); (focus rfl); (focus (decide +kernel)); (focus rfl); (focus exact cal_worked); (focus exact hw); (focus rfl))
    | exact True.intro
    | refine stph ?_
    | refine two ?_ ?_
    | refine allc fun c_ => ?_
    | (refine imp fun hc => ?_) <;> try (first | contradiction | (exfalso; omega) | (exfalso; exact absurd (of_dT hc) (by assumption)) | (exfalso; exact of_dF hc (by assumption)))
    | refine all fun v_ => ?_)
  refine retv (VS.drop (List.nil_sublist _)) ?_
  ((with_reducible apply rq2); rfl; rfl; rfl)
  refine ret_eq ?_
  rfl
end Go.Proofs.YtacdheachjnejaaDoor
