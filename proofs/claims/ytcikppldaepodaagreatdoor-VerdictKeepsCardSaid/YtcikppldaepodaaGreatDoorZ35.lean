/- A bundle of this claim's own texts: N15. -/
import Derived.Test.YtcikppldaepodaaGreatDoorZ10
import Derived.Test.YtcikppldaepodaaGreatDoorZ22
import Derived.Test.YtcikppldaepodaaGreatDoorZ24
import Derived.Test.YtcikppldaepodaaGreatDoorZ26
import Derived.Test.YtcikppldaepodaaGreatDoorZ34
namespace Go.Sp
open Go Go.Av
set_option linter.unusedVariables false
set_option linter.unusedSimpArgs false
noncomputable def lettersF (t : Tk) (l : List Int) : List (List Bool) := l.map fun c => (letF t.model t.props c).1
end Go.Sp
namespace Go.Proofs.YtcikppldaepodaaGreatDoor
open Go Go.Av Go.Sp
set_option linter.unusedVariables false
set_option linter.unusedSimpArgs false
set_option maxRecDepth 100000
set_option maxHeartbeats 4000000
theorem cal_letters : Cal Tryz.prog 28 := Cal.of Tryz.func28 (by kernel_rfl) (by kernel_rfl)
theorem cal_Keeps : Cal Tryz.prog 8 := Cal.of Tryz.func8 (by kernel_rfl) (by kernel_rfl)
theorem cal_KeepsOn : Cal Tryz.prog 11 := Cal.of Tryz.func11 (by kernel_rfl) (by kernel_rfl)
noncomputable def keepsF (t : Tk) (stem loop : List Int) : Bool × Int :=
  if taskF t ≠ 0 then (false, taskF t)
  else if 12 < stem.length ∨ 12 < loop.length then (false, 1)
  else if (runF t.model stem loop).1 = false then (false, 11)
  else holdsF t.formula ⟨lettersF t stem, lettersF t loop⟩ t.props.length
theorem lettersF_succ (t : Tk) (l : List Int) (i : Nat) (h : i < l.length) : lettersF t (l.take (i + 1)) = lettersF t (l.take i) ++ [(letF t.model t.props l[i]).1] := by
  unfold lettersF
  rw [List.take_succ_eq_append_getElem h, List.map_append]; rfl
theorem lettersF_len (t : Tk) (l : List Int) : (lettersF t l).length = l.length := by simp [lettersF]
theorem letters (t : Tk) (l : List Int) (hl : l.length ≤ 1000) : ACr Tryz.prog GP 28 [tkA t, .d (intsD l)] (.d (lettD (lettersF t l))) := by
  refine AC_ofV (ts := [4]) Tryz.f28.ntmps Tryz.func28 rfl rfl rfl (by simp [Tryz.ntmps28]) fun W I => ?_
  all_goals haveI fA_ : FlagA := ⟨⟩
  all_goals haveI fH_ : FlagH := ⟨⟩
  repeat' (first
    | exact True.intro
    | refine stp ?_
    | refine two ?_ ?_
    | refine allc fun c_ => ?_
    | (refine imp fun hc => ?_) <;> try (first | contradiction | (exfalso; omega) | (exfalso; exact absurd (of_dT hc) (by assumption)) | (exfalso; exact of_dF hc (by assumption)))
    | refine all fun v_ => ?_)
  all_goals clear fA_ fH_
  obtain ⟨bt, rfl⟩ : ∃ x, x = v_ := ⟨v_, rfl⟩
  refine jrow (E := 73) (sz := 1) lettC ?_
  refine J_loopV (X := Nat × Sl) (fun y => [(2, .val (.pointer (some ⟨bt, 0, none⟩))), (5, .val y.2.v), (10, .d (intsD l)), (11, .int l.length), (12, .int y.1)]) (fun y => [rowE y.2.v 73 1 lettC (lettersF t (l.take y.1)), .cells bt 29 [.d (varsD t.model.vars), .d (rulesD t.model.rules), .d (termsD t.props), .d (opsD t.formula)]]) (fun y => y.1 ≤ l.length) (fun y => l.length - y.1) (0, Sl.nil) (Nat.zero_le _) (VS.take (by ((repeat (first | exact Take.nil | ((with_reducible apply Take.cons); (focus ((repeat (first | exact Sel.here | with_reducible apply Sel.there)); done))))); done)) ?_) ?_
  · repeat (first
      | exact Env.le_nil _
      | refine Env.le_cons (AV.le_refl _) ?_
      | refine Env.le_cons (AV.le_int rfl (by first | rfl | omega | (dsimp only; omega))) ?_)
  rintro ⟨i, q⟩ hi
  dsimp only at hi ⊢
  have hll := lettersF_len t (l.take i)
  rw [List.length_take] at hll
  by_cases hil : i < l.length
  · have hs := lettersF_succ t l i hil
    have hL := Letter t.model t.props l[i]
    generalize letF t.model t.props l[i] = p at hL hs
    obtain ⟨x, e⟩ := p
    dsimp only at hL hs
    all_goals haveI fA_ : FlagA := ⟨⟩
    all_goals haveI fH_ : FlagH := ⟨⟩
    repeat' (first
      | ((with_reducible apply call0); (focus rfl); (focus exact cal_Letter); (focus exact hL); (focus rfl))
      | ((with_reducible apply je_call0); (focus rfl); (focus (decide +kernel)); (focus rfl); (focus exact cal_Letter); (focus exact hL); (focus rfl))
      | exact True.intro
      | refine stp ?_
      | refine two ?_ ?_
      | refine allc fun c_ => ?_
      | (refine imp fun hc => ?_) <;> try (first | contradiction | (exfalso; omega) | (exfalso; exact absurd (of_dT hc) (by assumption)) | (exfalso; exact of_dF hc (by assumption)))
      | refine all fun v_ => ?_)
    all_goals clear fA_ fH_
    refine ⟨(i + 1, v_), by dsimp only; omega, by dsimp only; omega, VS.take (by dsimp only; rw [hs]; ((repeat (first | exact Take.nil | ((with_reducible apply Take.cons); (focus ((repeat (first | exact Sel.here | with_reducible apply Sel.there)); done))))); done)) ?_⟩
    repeat (first
      | exact Env.le_nil _
      | refine Env.le_cons (AV.le_refl _) ?_
      | refine Env.le_cons (AV.le_int rfl (by first | rfl | omega | (dsimp only; omega))) ?_)
  obtain rfl : i = l.length := by omega
  rw [List.take_length] at hll ⊢
  all_goals haveI fA_ : FlagA := ⟨⟩
  all_goals haveI fH_ : FlagH := ⟨⟩
  repeat' (first
    | exact True.intro
    | refine stp ?_
    | refine two ?_ ?_
    | refine allc fun c_ => ?_
    | (refine imp fun hc => ?_) <;> try (first | contradiction | (exfalso; omega) | (exfalso; exact absurd (of_dT hc) (by assumption)) | (exfalso; exact of_dF hc (by assumption)))
    | refine all fun v_ => ?_)
  all_goals clear fA_ fH_
  refine retv (VS.trans (vfreeze (t := 4) (eb := 24) rfl rfl (fun x => rfl) (by omega)) (VS.drop (List.nil_sublist _))) ?_
  ((with_reducible apply rq1); rfl; rfl)
  exact ret_eq rfl
theorem Keeps (t : Tk) (stem loop : List Int) : ACr Tryz.prog GP 8 [tkA t, .agg [.d (intsD stem), .d (intsD loop)]] (.tup [.bool (keepsF t stem loop).1, .int (keepsF t stem loop).2]) := by
  have hP := PCheck t
  refine AC_ofV (ts := [4, 5]) Tryz.f8.ntmps Tryz.func8 rfl rfl rfl (by simp [Tryz.ntmps8]) fun W I => ?_
  unfold keepsF
  by_cases h1 : taskF t ≠ 0
  · rw [if_pos h1]
    generalize taskF t = e at hP h1
    all_goals haveI fA_ : FlagA := ⟨⟩
    all_goals haveI fH_ : FlagH := ⟨⟩
    repeat' (first
      | ((with_reducible apply call0); (focus rfl); (focus exact cal_PCheck); (focus exact hP); (focus rfl))
      | ((with_reducible apply je_call0); (focus rfl); (focus (decide +kernel)); (focus rfl); (focus exact cal_PCheck); (focus exact hP); (focus rfl))
      | exact True.intro
      | refine stp ?_
      | refine two ?_ ?_
      | refine allc fun c_ => ?_
      | (refine imp fun hc => ?_) <;> try (first | contradiction | (exfalso; omega) | (exfalso; exact absurd (of_dT hc) (by assumption)) | (exfalso; exact of_dF hc (by assumption)))
      | refine all fun v_ => ?_)
    all_goals clear fA_ fH_
    refine retv (VS.drop (List.nil_sublist _)) ?_
    ((with_reducible apply rq2); rfl; rfl; rfl)
    exact ret_eq rfl
  rw [if_neg h1]
  replace h1 := Decidable.not_not.1 h1
  rw [h1] at hP
  by_cases h2 : 12 < stem.length
  · rw [if_pos (.inl h2)]
    all_goals haveI fA_ : FlagA := ⟨⟩
    all_goals haveI fH_ : FlagH := ⟨⟩
    repeat' (first
      | ((with_reducible apply call0); (focus rfl); (focus exact cal_PCheck); (focus exact hP); (focus rfl))
      | ((with_reducible apply je_call0); (focus rfl); (focus (decide +kernel)); (focus rfl); (focus exact cal_PCheck); (focus exact hP); (focus rfl))
      | exact True.intro
      | refine stp ?_
      | refine two ?_ ?_
      | refine allc fun c_ => ?_
      | (refine imp fun hc => ?_) <;> try (first | contradiction | (exfalso; omega) | (exfalso; exact absurd (of_dT hc) (by assumption)) | (exfalso; exact of_dF hc (by assumption)))
      | refine all fun v_ => ?_)
    all_goals clear fA_ fH_
    refine retv (VS.drop (List.nil_sublist _)) ?_
    ((with_reducible apply rq2); rfl; rfl; rfl)
    exact ret_eq rfl
  by_cases h3 : 12 < loop.length
  · rw [if_pos (.inr h3)]
    all_goals haveI fA_ : FlagA := ⟨⟩
    all_goals haveI fH_ : FlagH := ⟨⟩
    repeat' (first
      | ((with_reducible apply call0); (focus rfl); (focus exact cal_PCheck); (focus exact hP); (focus rfl))
      | ((with_reducible apply je_call0); (focus rfl); (focus (decide +kernel)); (focus rfl); (focus exact cal_PCheck); (focus exact hP); (focus rfl))
      | exact True.intro
      | refine stp ?_
      | refine two ?_ ?_
      | refine allc fun c_ => ?_
      | (refine imp fun hc => ?_) <;> try (first | contradiction | (exfalso; omega) | (exfalso; exact absurd (of_dT hc) (by assumption)) | (exfalso; exact of_dF hc (by assumption)))
      | refine all fun v_ => ?_)
    all_goals clear fA_ fH_
    refine retv (VS.drop (List.nil_sublist _)) ?_
    ((with_reducible apply rq2); rfl; rfl; rfl)
    exact ret_eq rfl
  rw [if_neg (by omega)]
  have hR := Runs t.model stem loop (by omega)
  generalize runF t.model stem loop = p at hR ⊢
  obtain ⟨yes, e⟩ := p
  dsimp only at hR ⊢
  cases yes with
  | false =>
    rw [if_pos rfl]
    all_goals haveI fA_ : FlagA := ⟨⟩
    all_goals haveI fH_ : FlagH := ⟨⟩
    repeat' (first
      | ((with_reducible apply call0); (focus rfl); (focus exact cal_PCheck); (focus exact hP); (focus rfl))
      | ((with_reducible apply je_call0); (focus rfl); (focus (decide +kernel)); (focus rfl); (focus exact cal_PCheck); (focus exact hP); (focus rfl))
      | ((with_reducible apply call0); (focus rfl); (focus exact cal_Runs); (focus exact hR); (focus rfl))
      | ((with_reducible apply je_call0); (focus rfl); (focus (decide +kernel)); (focus rfl); (focus exact cal_Runs); (focus exact hR); (focus rfl))
      | ((with_reducible apply call0); (focus rfl); (focus exact cal_letters); (focus exact letters _ _ (by omega)); (focus rfl))
      | ((with_reducible apply je_call0); (focus rfl); (focus (decide +kernel)); (focus rfl); (focus exact cal_letters); (focus exact letters _ _ (by omega)); (focus rfl))
      | ((with_reducible apply call0); (focus rfl); (focus exact cal_WHolds); (focus exact hH); (focus rfl))
      | ((with_reducible apply je_call0); (focus rfl); (focus (decide +kernel)); (focus rfl); (focus exact cal_WHolds); (focus exact hH); (focus rfl))
      | exact True.intro
      | refine stp ?_
      | refine two ?_ ?_
      | refine allc fun c_ => ?_
      | (refine imp fun hc => ?_) <;> try (first | contradiction | (exfalso; omega) | (exfalso; exact absurd (of_dT hc) (by assumption)) | (exfalso; exact of_dF hc (by assumption)))
      | refine all fun v_ => ?_)
    all_goals clear fA_ fH_
    refine retv (VS.drop (List.nil_sublist _)) ?_
    ((with_reducible apply rq2); rfl; rfl; rfl)
    exact ret_eq rfl
  | true =>
    rw [if_neg (by decide)]
    have hH := WHolds t.formula ⟨lettersF t stem, lettersF t loop⟩ t.props.length
    all_goals haveI fA_ : FlagA := ⟨⟩
    all_goals haveI fH_ : FlagH := ⟨⟩
    repeat' (first
      | ((with_reducible apply call0); (focus rfl); (focus exact cal_PCheck); (focus exact hP); (focus rfl))
      | ((with_reducible apply je_call0); (focus rfl); (focus (decide +kernel)); (focus rfl); (focus exact cal_PCheck); (focus exact hP); (focus rfl))
      | ((with_reducible apply call0); (focus rfl); (focus exact cal_Runs); (focus exact hR); (focus rfl))
      | ((with_reducible apply je_call0); (focus rfl); (focus (decide +kernel)); (focus rfl); (focus exact cal_Runs); (focus exact hR); (focus rfl))
      | ((with_reducible apply call0); (focus rfl); (focus exact cal_letters); (focus exact letters _ _ (by omega)); (focus rfl))
      | ((with_reducible apply je_call0); (focus rfl); (focus (decide +kernel)); (focus rfl); (focus exact cal_letters); (focus exact letters _ _ (by omega)); (focus rfl))
      | ((with_reducible apply call0); (focus rfl); (focus exact cal_WHolds); (focus exact hH); (focus rfl))
      | ((with_reducible apply je_call0); (focus rfl); (focus (decide +kernel)); (focus rfl); (focus exact cal_WHolds); (focus exact hH); (focus rfl))
      | exact True.intro
      | refine stp ?_
      | refine two ?_ ?_
      | refine allc fun c_ => ?_
      | (refine imp fun hc => ?_) <;> try (first | contradiction | (exfalso; omega) | (exfalso; exact absurd (of_dT hc) (by assumption)) | (exfalso; exact of_dF hc (by assumption)))
      | refine all fun v_ => ?_)
    all_goals clear fA_ fH_
    all_goals
      refine retv (VS.drop (List.nil_sublist _)) ?_
      ((with_reducible apply rq2); rfl; rfl; rfl)
      exact ret_eq rfl
theorem KeepsOn (G : List (Nat × List D)) (t : Tk) (stem loop : List Int) : ACr Tryz.prog G 11 [tkA t, .agg [.d (intsD stem), .d (intsD loop)]] (.tup [.bool (keepsF t stem loop).1, .int (keepsF t stem loop).2]) := by
  have hP := TaskFault G t
  refine AC_ofV (ts := [4, 5]) Tryz.f11.ntmps Tryz.func11 rfl rfl rfl (by simp [Tryz.ntmps11]) fun W I => ?_
  unfold keepsF
  by_cases h1 : taskF t ≠ 0
  · rw [if_pos h1]
    generalize taskF t = e at hP h1
    all_goals haveI fA_ : FlagA := ⟨⟩
    all_goals haveI fH_ : FlagH := ⟨⟩
    repeat' (first
      | ((with_reducible apply call0); (focus rfl); (focus exact cal_TaskFault); (focus exact hP); (focus rfl))
      | ((with_reducible apply je_call0); (focus rfl); (focus (decide +kernel)); (focus rfl); (focus exact cal_TaskFault); (focus exact hP); (focus rfl))
      | exact True.intro
      | refine stp ?_
      | refine two ?_ ?_
      | refine allc fun c_ => ?_
      | (refine imp fun hc => ?_) <;> try (first | contradiction | (exfalso; omega) | (exfalso; exact absurd (of_dT hc) (by assumption)) | (exfalso; exact of_dF hc (by assumption)))
      | refine all fun v_ => ?_)
    all_goals clear fA_ fH_
    refine retv (VS.drop (List.nil_sublist _)) ?_
    ((with_reducible apply rq2); rfl; rfl; rfl)
    exact ret_eq rfl
  rw [if_neg h1]
  replace h1 := Decidable.not_not.1 h1
  rw [h1] at hP
  by_cases h2 : 12 < stem.length
  · rw [if_pos (.inl h2)]
    all_goals haveI fA_ : FlagA := ⟨⟩
    all_goals haveI fH_ : FlagH := ⟨⟩
    repeat' (first
      | ((with_reducible apply call0); (focus rfl); (focus exact cal_TaskFault); (focus exact hP); (focus rfl))
      | ((with_reducible apply je_call0); (focus rfl); (focus (decide +kernel)); (focus rfl); (focus exact cal_TaskFault); (focus exact hP); (focus rfl))
      | exact True.intro
      | refine stp ?_
      | refine two ?_ ?_
      | refine allc fun c_ => ?_
      | (refine imp fun hc => ?_) <;> try (first | contradiction | (exfalso; omega) | (exfalso; exact absurd (of_dT hc) (by assumption)) | (exfalso; exact of_dF hc (by assumption)))
      | refine all fun v_ => ?_)
    all_goals clear fA_ fH_
    refine retv (VS.drop (List.nil_sublist _)) ?_
    ((with_reducible apply rq2); rfl; rfl; rfl)
    exact ret_eq rfl
  by_cases h3 : 12 < loop.length
  · rw [if_pos (.inr h3)]
    all_goals haveI fA_ : FlagA := ⟨⟩
    all_goals haveI fH_ : FlagH := ⟨⟩
    repeat' (first
      | ((with_reducible apply call0); (focus rfl); (focus exact cal_TaskFault); (focus exact hP); (focus rfl))
      | ((with_reducible apply je_call0); (focus rfl); (focus (decide +kernel)); (focus rfl); (focus exact cal_TaskFault); (focus exact hP); (focus rfl))
      | exact True.intro
      | refine stp ?_
      | refine two ?_ ?_
      | refine allc fun c_ => ?_
      | (refine imp fun hc => ?_) <;> try (first | contradiction | (exfalso; omega) | (exfalso; exact absurd (of_dT hc) (by assumption)) | (exfalso; exact of_dF hc (by assumption)))
      | refine all fun v_ => ?_)
    all_goals clear fA_ fH_
    refine retv (VS.drop (List.nil_sublist _)) ?_
    ((with_reducible apply rq2); rfl; rfl; rfl)
    exact ret_eq rfl
  rw [if_neg (by omega)]
  have hR := RunsOn G t.model stem loop (by omega)
  generalize runF t.model stem loop = p at hR ⊢
  obtain ⟨yes, e⟩ := p
  dsimp only at hR ⊢
  cases yes with
  | false =>
    rw [if_pos rfl]
    all_goals haveI fA_ : FlagA := ⟨⟩
    all_goals haveI fH_ : FlagH := ⟨⟩
    repeat' (first
      | ((with_reducible apply call0); (focus rfl); (focus exact cal_TaskFault); (focus exact hP); (focus rfl))
      | ((with_reducible apply je_call0); (focus rfl); (focus (decide +kernel)); (focus rfl); (focus exact cal_TaskFault); (focus exact hP); (focus rfl))
      | ((with_reducible apply call0); (focus rfl); (focus exact cal_RunsOn); (focus exact hR); (focus rfl))
      | ((with_reducible apply je_call0); (focus rfl); (focus (decide +kernel)); (focus rfl); (focus exact cal_RunsOn); (focus exact hR); (focus rfl))
      | exact True.intro
      | refine stp ?_
      | refine two ?_ ?_
      | refine allc fun c_ => ?_
      | (refine imp fun hc => ?_) <;> try (first | contradiction | (exfalso; omega) | (exfalso; exact absurd (of_dT hc) (by assumption)) | (exfalso; exact of_dF hc (by assumption)))
      | refine all fun v_ => ?_)
    all_goals clear fA_ fH_
    refine retv (VS.drop (List.nil_sublist _)) ?_
    ((with_reducible apply rq2); rfl; rfl; rfl)
    exact ret_eq rfl
  | true =>
    rw [if_neg (by decide)]
    have hH := HoldsOf G t.formula ⟨lettersF t stem, lettersF t loop⟩ t.props.length
    all_goals haveI fA_ : FlagA := ⟨⟩
    all_goals haveI fH_ : FlagH := ⟨⟩
    repeat' (first
      | ((with_reducible apply call0); (focus rfl); (focus exact cal_TaskFault); (focus exact hP); (focus rfl))
      | ((with_reducible apply je_call0); (focus rfl); (focus (decide +kernel)); (focus rfl); (focus exact cal_TaskFault); (focus exact hP); (focus rfl))
      | ((with_reducible apply call0); (focus rfl); (focus exact cal_RunsOn); (focus exact hR); (focus rfl))
      | ((with_reducible apply je_call0); (focus rfl); (focus (decide +kernel)); (focus rfl); (focus exact cal_RunsOn); (focus exact hR); (focus rfl))
      | exact True.intro
      | refine stp ?_
      | refine two ?_ ?_
      | refine allc fun c_ => ?_
      | (refine imp fun hc => ?_) <;> try (first | contradiction | (exfalso; omega) | (exfalso; exact absurd (of_dT hc) (by assumption)) | (exfalso; exact of_dF hc (by assumption)))
      | refine all fun v_ => ?_)
    all_goals clear fA_ fH_
    obtain ⟨bw, rfl⟩ : ∃ x, x = v_ := ⟨v_, rfl⟩
    obtain ⟨bl, rfl⟩ : ∃ x, x = v_ := ⟨v_, rfl⟩
    obtain ⟨bt, rfl⟩ : ∃ x, x = v_ := ⟨v_, rfl⟩
    refine jrow (E := 73) (sz := 1) lettC ?_
    refine J_loopV (X := Nat × Sl) (fun y => [(2, .val (.pointer (some ⟨bt, 0, none⟩))), (3, .val (.pointer (some ⟨bl, 0, none⟩))), (9, .val (.pointer (some ⟨bw, 0, none⟩))), (10, .int y.1)]) (fun y => [rowE y.2.v 73 1 lettC (lettersF t (stem.take y.1)), .cells bw 69 [.val y.2.v, .val (.slice none 0 0)], .cells bl 32 [.d (intsD stem), .d (intsD loop)], .cells bt 29 [.d (varsD t.model.vars), .d (rulesD t.model.rules), .d (termsD t.props), .d (opsD t.formula)]]) (fun y => y.1 ≤ stem.length) (fun y => stem.length - y.1) (0, Sl.nil) (Nat.zero_le _) (VS.take (by ((repeat (first | exact Take.nil | ((with_reducible apply Take.cons); (focus ((repeat (first | exact Sel.here | with_reducible apply Sel.there)); done))))); done)) ?_) ?_
    · repeat (first
        | exact Env.le_nil _
        | refine Env.le_cons (AV.le_refl _) ?_
        | refine Env.le_cons (AV.le_int rfl (by first | rfl | omega | (dsimp only; omega))) ?_)
    rintro ⟨i, q⟩ hi
    dsimp only at hi ⊢
    have hll := lettersF_len t (stem.take i)
    rw [List.length_take] at hll
    by_cases hil : i < stem.length
    · have hs := lettersF_succ t stem i hil
      have hL := LetterOf G t.model t.props stem[i]
      generalize letF t.model t.props stem[i] = p at hL hs
      obtain ⟨x, e⟩ := p
      dsimp only at hL hs
      all_goals haveI fA_ : FlagA := ⟨⟩
      all_goals haveI fH_ : FlagH := ⟨⟩
      repeat' (first
        | ((with_reducible apply call0); (focus rfl); (focus exact cal_LetterOf); (focus exact hL); (focus rfl))
        | ((with_reducible apply je_call0); (focus rfl); (focus (decide +kernel)); (focus rfl); (focus exact cal_LetterOf); (focus exact hL); (focus rfl))
        | exact True.intro
        | refine stp ?_
        | refine two ?_ ?_
        | refine allc fun c_ => ?_
        | (refine imp fun hc => ?_) <;> try (first | contradiction | (exfalso; omega) | (exfalso; exact absurd (of_dT hc) (by assumption)) | (exfalso; exact of_dF hc (by assumption)))
        | refine all fun v_ => ?_)
      all_goals clear fA_ fH_
      refine ⟨(i + 1, v_), by dsimp only; omega, by dsimp only; omega, VS.take (by dsimp only; rw [hs]; ((repeat (first | exact Take.nil | ((with_reducible apply Take.cons); (focus ((repeat (first | exact Sel.here | with_reducible apply Sel.there)); done))))); done)) ?_⟩
      repeat (first
        | exact Env.le_nil _
        | refine Env.le_cons (AV.le_refl _) ?_
        | refine Env.le_cons (AV.le_int rfl (by first | rfl | omega | (dsimp only; omega))) ?_)
    obtain rfl : i = stem.length := by omega
    rw [List.take_length] at hll ⊢
    all_goals haveI fA_ : FlagA := ⟨⟩
    all_goals haveI fH_ : FlagH := ⟨⟩
    repeat' (first
      | exact True.intro
      | refine stp ?_
      | refine two ?_ ?_
      | refine allc fun c_ => ?_
      | (refine imp fun hc => ?_) <;> try (first | contradiction | (exfalso; omega) | (exfalso; exact absurd (of_dT hc) (by assumption)) | (exfalso; exact of_dF hc (by assumption)))
      | refine all fun v_ => ?_)
    all_goals clear fA_ fH_
    refine jrow (E := 73) (sz := 1) lettC ?_
    refine J_loopV (X := Nat × Sl) (fun y => [(2, .val (.pointer (some ⟨bt, 0, none⟩))), (3, .val (.pointer (some ⟨bl, 0, none⟩))), (9, .val (.pointer (some ⟨bw, 0, none⟩))), (13, .int y.1)]) (fun y => [rowE y.2.v 73 1 lettC (lettersF t (loop.take y.1)), rowE q.v 73 1 lettC (lettersF t stem), .cells bw 69 [.val q.v, .val y.2.v], .cells bl 32 [.d (intsD stem), .d (intsD loop)], .cells bt 29 [.d (varsD t.model.vars), .d (rulesD t.model.rules), .d (termsD t.props), .d (opsD t.formula)]]) (fun y => y.1 ≤ loop.length) (fun y => loop.length - y.1) (0, Sl.nil) (Nat.zero_le _) (VS.take (by ((repeat (first | exact Take.nil | ((with_reducible apply Take.cons); (focus ((repeat (first | exact Sel.here | with_reducible apply Sel.there)); done))))); done)) ?_) ?_
    · repeat (first
        | exact Env.le_nil _
        | refine Env.le_cons (AV.le_refl _) ?_
        | refine Env.le_cons (AV.le_int rfl (by first | rfl | omega | (dsimp only; omega))) ?_)
    rintro ⟨i, q2⟩ hi
    dsimp only at hi ⊢
    have hll2 := lettersF_len t (loop.take i)
    rw [List.length_take] at hll2
    by_cases hil : i < loop.length
    · have hs := lettersF_succ t loop i hil
      have hL := LetterOf G t.model t.props loop[i]
      generalize letF t.model t.props loop[i] = p at hL hs
      obtain ⟨x, e⟩ := p
      dsimp only at hL hs
      all_goals haveI fA_ : FlagA := ⟨⟩
      all_goals haveI fH_ : FlagH := ⟨⟩
      repeat' (first
        | ((with_reducible apply call0); (focus rfl); (focus exact cal_LetterOf); (focus exact hL); (focus rfl))
        | ((with_reducible apply je_call0); (focus rfl); (focus (decide +kernel)); (focus rfl); (focus exact cal_LetterOf); (focus exact hL); (focus rfl))
        | exact True.intro
        | refine stp ?_
        | refine two ?_ ?_
        | refine allc fun c_ => ?_
        | (refine imp fun hc => ?_) <;> try (first | contradiction | (exfalso; omega) | (exfalso; exact absurd (of_dT hc) (by assumption)) | (exfalso; exact of_dF hc (by assumption)))
        | refine all fun v_ => ?_)
      all_goals clear fA_ fH_
      refine ⟨(i + 1, v_), by dsimp only; omega, by dsimp only; omega, VS.take (by dsimp only; rw [hs]; ((repeat (first | exact Take.nil | ((with_reducible apply Take.cons); (focus ((repeat (first | exact Sel.here | with_reducible apply Sel.there)); done))))); done)) ?_⟩
      repeat (first
        | exact Env.le_nil _
        | refine Env.le_cons (AV.le_refl _) ?_
        | refine Env.le_cons (AV.le_int rfl (by first | rfl | omega | (dsimp only; omega))) ?_)
    obtain rfl : i = loop.length := by omega
    rw [List.take_length] at hll2 ⊢
    refine J_vs (VS.trans (vdat (h1 := []) (h' := [rowE q.v 73 1 lettC (lettersF t stem), .cells bw 69 [.val q.v, .d (lettD (lettersF t loop))], .cells bl 32 [.d (intsD stem), .d (intsD loop)], .cells bt 29 [.d (varsD t.model.vars), .d (rulesD t.model.rules), .d (termsD t.props), .d (opsD t.formula)]]) 24 rfl rfl (fun _ => rfl) (by omega) (CvE.refl _ _ _) (CvH.keep (CvH.cells (.cons (.same _) (.cons .here .nil)) (.refl _)))) (vdat (h1 := []) (h' := [.cells bw 69 [.d (lettD (lettersF t stem)), .d (lettD (lettersF t loop))], .cells bl 32 [.d (intsD stem), .d (intsD loop)], .cells bt 29 [.d (varsD t.model.vars), .d (rulesD t.model.rules), .d (termsD t.props), .d (opsD t.formula)]]) 24 rfl rfl (fun _ => rfl) (by omega) (CvE.refl _ _ _) (CvH.cells (.cons .here (.cons (.same _) .nil)) (.refl _)))) ?_
    all_goals haveI fA_ : FlagA := ⟨⟩
    all_goals haveI fH_ : FlagH := ⟨⟩
    repeat' (first
      | ((with_reducible apply call0); (focus rfl); (focus exact cal_HoldsOf); (focus exact hH); (focus rfl))
      | ((with_reducible apply je_call0); (focus rfl); (focus (decide +kernel)); (focus rfl); (focus exact cal_HoldsOf); (focus exact hH); (focus rfl))
      | exact True.intro
      | refine stp ?_
      | refine two ?_ ?_
      | refine allc fun c_ => ?_
      | (refine imp fun hc => ?_) <;> try (first | contradiction | (exfalso; omega) | (exfalso; exact absurd (of_dT hc) (by assumption)) | (exfalso; exact of_dF hc (by assumption)))
      | refine all fun v_ => ?_)
    all_goals clear fA_ fH_
    refine retv (VS.drop (List.nil_sublist _)) ?_
    ((with_reducible apply rq2); rfl; rfl; rfl)
    exact ret_eq rfl
end Go.Proofs.YtcikppldaepodaaGreatDoor
