/- A bundle of this claim's own texts: N11 N12. -/
import Derived.Test.YtcikppldaepodaaGreatDoorZ4
import Derived.Test.YtcikppldaepodaaGreatDoorZ22
import Derived.Test.YtcikppldaepodaaGreatDoorZ23
namespace Go.Proofs.YtcikppldaepodaaGreatDoor
open Go Go.Av Go.Sp
set_option linter.unusedVariables false
set_option linter.unusedSimpArgs false
set_option maxRecDepth 100000
set_option maxHeartbeats 4000000
theorem cal_GrowI : Cal Tryz.prog 143 := Cal.of Tryz.func143 (by kernel_rfl) (by kernel_rfl)
theorem cal_ConcatI : Cal Tryz.prog 80 := Cal.of Tryz.func80 (by kernel_rfl) (by kernel_rfl)
theorem cal_Runs : Cal Tryz.prog 26 := Cal.of Tryz.func26 (by kernel_rfl) (by kernel_rfl)
theorem GrowI (G : List (Nat × List D)) (n : Nat) (hn : n ≤ 2000000) : AC Tryz.prog G 143 [.val (.slice none 0 0), .int n] [] fun r h => ∃ q : Sl, r = .ret (.val q.v) ∧ h = [rowE q.v 3 1 intC []] := by
  refine AC_ofV (ts := [4]) Tryz.f143.ntmps Tryz.func143 rfl rfl rfl (by simp [Tryz.ntmps143]) fun W I => ?_
  by_cases h0 : 0 < n
  · all_goals haveI fA_ : FlagA := ⟨⟩
    all_goals haveI fH_ : FlagH := ⟨⟩
    repeat' (first
      | ((with_reducible apply jp); (focus ((with_reducible apply pu_cap); rfl; rfl)); (focus rfl))
      | ((with_reducible apply jp); (focus ((with_reducible apply pu_slice_nil); rfl; rfl; rfl; (focus (with_reducible exact ElC.h)))); (focus rfl))
      | ((with_reducible apply (japp_zeros (n := n) intC 0 (.i .i64 0))); (focus rfl); (focus rfl); (focus omega); (focus rfl); (focus rfl); (focus (with_reducible exact ElC.h)); (focus rfl); (focus rfl); (focus exact fun w I => rfl); (focus omega); (focus omega); (focus omega); (focus rfl))
      | exact True.intro
      | refine stp ?_
      | refine two ?_ ?_
      | refine allc fun c_ => ?_
      | (refine imp fun hc => ?_) <;> try (first | contradiction | (exfalso; omega) | (exfalso; exact absurd (of_dT hc) (by assumption)) | (exfalso; exact of_dF hc (by assumption)))
      | refine all fun v_ => ?_)
    all_goals clear fA_ fH_
    refine retv0 ?_
    ((with_reducible apply rq1); rfl; rfl)
    exact ⟨v_, rfl, rfl⟩
  · obtain rfl : n = 0 := by omega
    all_goals haveI fA_ : FlagA := ⟨⟩
    all_goals haveI fH_ : FlagH := ⟨⟩
    repeat' (first
      | ((with_reducible apply jp); (focus ((with_reducible apply pu_cap); rfl; rfl)); (focus rfl))
      | ((with_reducible apply jp); (focus ((with_reducible apply pu_slice_nil); rfl; rfl; rfl; (focus (with_reducible exact ElC.h)))); (focus rfl))
      | ((with_reducible apply (japp_zeros (n := n) intC 0 (.i .i64 0))); (focus rfl); (focus rfl); (focus omega); (focus rfl); (focus rfl); (focus (with_reducible exact ElC.h)); (focus rfl); (focus rfl); (focus exact fun w I => rfl); (focus omega); (focus omega); (focus omega); (focus rfl))
      | exact True.intro
      | refine stp ?_
      | refine two ?_ ?_
      | refine allc fun c_ => ?_
      | (refine imp fun hc => ?_) <;> try (first | contradiction | (exfalso; omega) | (exfalso; exact absurd (of_dT hc) (by assumption)) | (exfalso; exact of_dF hc (by assumption)))
      | refine all fun v_ => ?_)
    all_goals clear fA_ fH_
    refine retv (VS.nilrow 3 1) ?_
    ((with_reducible apply rq1); rfl; rfl)
    exact ⟨Sl.nil, rfl, rfl⟩
def sumI (ls : List (List Int)) (i : Nat) : Nat := ((ls.take i).flatten).length
theorem sumI_succ (ls : List (List Int)) (i : Nat) (h : i < ls.length) : sumI ls (i + 1) = sumI ls i + ls[i].length := by
  unfold sumI
  rw [List.take_succ_eq_append_getElem h, List.flatten_append, List.length_append]; simp
theorem flat_succ (ls : List (List Int)) (i : Nat) (h : i < ls.length) : (ls.take (i + 1)).flatten = (ls.take i).flatten ++ ls[i] := by
  rw [List.take_succ_eq_append_getElem h, List.flatten_append]; simp
theorem sumI_le (ls : List (List Int)) (i : Nat) (h : i ≤ ls.length) : sumI ls i ≤ ls.flatten.length := by
  have e : ls.flatten = (ls.take i).flatten ++ (ls.drop i).flatten := by rw [← List.flatten_append, List.take_append_drop]
  unfold sumI
  rw [e, List.length_append]; omega
theorem ConcatI (G : List (Nat × List D)) (ls : List (List Int)) (hs : ls.flatten.length ≤ 2000000) : ACr Tryz.prog G 80 [.d (.l 1 24 (ls.map fun l => [intsD l]))] (.d (intsD ls.flatten)) := by
  refine AC_ofV (ts := [2]) Tryz.f80.ntmps Tryz.func80 rfl rfl rfl (by simp [Tryz.ntmps80]) fun W I => ?_
  refine jfact (t := 0) rfl fun hl => ?_
  all_goals haveI fA_ : FlagA := ⟨⟩
  all_goals haveI fH_ : FlagH := ⟨⟩
  repeat' (first
    | exact True.intro
    | refine stp ?_
    | refine two ?_ ?_
    | refine allc fun c_ => ?_
    | (refine imp fun hc => ?_) <;> try (first | contradiction | (exfalso; omega) | (exfalso; exact absurd (of_dT hc) (by assumption)) | (exfalso; exact of_dF hc (by assumption)))
    | refine all fun v_ => ?_)
  all_goals clear fA_ fH_
  refine J_loopV (X := Nat) (fun i => [(0, .d (.l 1 24 (ls.map fun l => [intsD l]))), (3, .int (sumI ls i)), (9, .d (.l 1 24 (ls.map fun l => [intsD l]))), (10, .int ls.length), (11, .int i)]) (fun _ => []) (fun i => i ≤ ls.length) (fun i => ls.length - i) 0 (Nat.zero_le _) (VS.of_le ?_) ?_
  · repeat (first
      | exact Env.le_nil _
      | refine Env.le_cons (AV.le_refl _) ?_
      | refine Env.le_cons (AV.le_int rfl (by first | rfl | omega | (dsimp only; omega))) ?_)
  rintro i h1
  by_cases hi : i < ls.length
  · have e1 := sumI_succ ls i hi
    have e2 := sumI_le ls (i + 1) hi
    all_goals haveI fA_ : FlagA := ⟨⟩
    all_goals haveI fH_ : FlagH := ⟨⟩
    repeat' (first
      | exact True.intro
      | refine stp ?_
      | refine two ?_ ?_
      | refine allc fun c_ => ?_
      | (refine imp fun hc => ?_) <;> try (first | contradiction | (exfalso; omega) | (exfalso; exact absurd (of_dT hc) (by assumption)) | (exfalso; exact of_dF hc (by assumption)))
      | refine all fun v_ => ?_)
    all_goals clear fA_ fH_
    refine ⟨i + 1, by omega, by omega, VS.of_le ?_⟩
    repeat (first
      | exact Env.le_nil _
      | refine Env.le_cons (AV.le_refl _) ?_
      | refine Env.le_cons (AV.le_int rfl (by first | rfl | omega | (dsimp only; omega))) ?_)
  obtain rfl : i = ls.length := by omega
  have e2 := sumI_le ls ls.length (Nat.le_refl _)
  all_goals haveI fA_ : FlagA := ⟨⟩
  all_goals haveI fH_ : FlagH := ⟨⟩
  repeat' (first
    | ((with_reducible apply callG); (focus rfl); (focus exact cal_GrowI); (focus exact GrowI G (sumI ls ls.length) (by omega)); (focus ((repeat (first | with_reducible exact Take.nil | ((with_reducible apply Take.cons); (focus ((repeat (first | with_reducible exact Sel.here | with_reducible apply Sel.there)); done))))); done)); (focus rfl); (focus (intro v_; (repeat (first | exact App.nil | apply App.cons)); done)))
    | exact True.intro
    | refine stp ?_
    | refine two ?_ ?_
    | refine allc fun c_ => ?_
    | (refine imp fun hc => ?_) <;> try (first | contradiction | (exfalso; omega) | (exfalso; exact absurd (of_dT hc) (by assumption)) | (exfalso; exact of_dF hc (by assumption)))
    | refine all fun v_ => ?_)
  all_goals clear fA_ fH_
  refine J_loopV (X := Nat × Sl) (fun y => [(6, .val y.2.v), (25, .d (.l 1 24 (ls.map fun l => [intsD l]))), (26, .int ls.length), (27, .int y.1)]) (fun y => [rowE y.2.v 3 1 intC (ls.take y.1).flatten]) (fun y => y.1 ≤ ls.length) (fun y => ls.length - y.1) (0, v_) (Nat.zero_le _) (VS.take (by ((repeat (first | exact Take.nil | ((with_reducible apply Take.cons); (focus ((repeat (first | exact Sel.here | with_reducible apply Sel.there)); done))))); done)) ?_) ?_
  · repeat (first
      | exact Env.le_nil _
      | refine Env.le_cons (AV.le_refl _) ?_
      | refine Env.le_cons (AV.le_int rfl (by first | rfl | omega | (dsimp only; omega))) ?_)
  rintro ⟨i, q⟩ h1
  dsimp only at h1 ⊢
  by_cases hi : i < ls.length
  · have e1 := flat_succ ls i hi
    have e3 := sumI_succ ls i hi
    have e2 := sumI_le ls (i + 1) hi
    unfold sumI at e2 e3
    all_goals haveI fA_ : FlagA := ⟨⟩
    repeat' (first
      | exact True.intro
      | refine stp ?_
      | refine two ?_ ?_
      | (refine imp fun hc => ?_) <;> try (first | contradiction | (exfalso; omega))
      | refine all fun v_ => ?_)
    all_goals clear fA_
    refine ⟨(i + 1, v_), by dsimp only; omega, by dsimp only; omega, VS.take (by dsimp only; rw [e1]; ((repeat (first | exact Take.nil | ((with_reducible apply Take.cons); (focus ((repeat (first | exact Sel.here | with_reducible apply Sel.there)); done))))); done)) ?_⟩
    repeat (first
      | exact Env.le_nil _
      | refine Env.le_cons (AV.le_refl _) ?_
      | refine Env.le_cons (AV.le_int rfl (by first | rfl | omega | (dsimp only; omega))) ?_)
  obtain rfl : i = ls.length := by omega
  rw [List.take_length]
  all_goals haveI fA_ : FlagA := ⟨⟩
  repeat' (first
    | exact True.intro
    | refine stp ?_
    | refine two ?_ ?_
    | (refine imp fun hc => ?_) <;> try (first | contradiction | (exfalso; omega))
    | refine all fun v_ => ?_)
  all_goals clear fA_
  refine retv (vfreeze (t := 2) (eb := 8) rfl rfl (fun x => rfl) (by omega)) ?_
  ((with_reducible apply rq1); rfl; rfl)
  exact ret_eq rfl
end Go.Proofs.YtcikppldaepodaaGreatDoor
namespace Go.Proofs.YtcikppldaepodaaGreatDoor
open Go Go.Av Go.Sp
set_option linter.unusedVariables false
set_option linter.unusedSimpArgs false
set_option maxRecDepth 100000
set_option maxHeartbeats 4000000
theorem Runs (m : Md) (stem loop : List Int) (hb : stem.length + loop.length ≤ 1048576) : ACr Tryz.prog GP 26 [mdA m, .agg [.d (intsD stem), .d (intsD loop)]] (.tup [.bool (runF m stem loop).1, .int (runF m stem loop).2]) := by
  have hC := Count m
  have hF := First m
  refine AC_ofV (ts := [4, 5]) Tryz.f26.ntmps Tryz.func26 rfl rfl rfl (by simp [Tryz.ntmps26]) fun W I => ?_
  unfold countF at hC
  by_cases h0 : modelF m ≠ 0
  · have hr : runF m stem loop = (false, modelF m) := by unfold runF; rw [if_pos h0]
    rw [hr]
    rw [if_pos h0] at hC
    dsimp only at hC ⊢
    generalize modelF m = e at hC h0 ⊢
    all_goals haveI fA_ : FlagA := ⟨⟩
    all_goals haveI fH_ : FlagH := ⟨⟩
    repeat' (first
      | ((with_reducible apply call0); (focus rfl); (focus exact cal_Count); (focus exact hC); (focus rfl))
      | ((with_reducible apply je_call0); (focus rfl); (focus (decide +kernel)); (focus rfl); (focus exact cal_Count); (focus exact hC); (focus rfl))
      | exact True.intro
      | refine stp ?_
      | refine two ?_ ?_
      | refine allc fun c_ => ?_
      | (refine imp fun hc => ?_) <;> try (first | contradiction | (exfalso; omega) | (exfalso; exact absurd (of_dT hc) (by assumption)) | (exfalso; exact of_dF hc (by assumption)))
      | refine all fun v_ => ?_)
    all_goals clear fA_ fH_
    refine retv (VS.drop (List.nil_sublist _)) ?_
    ((with_reducible apply rq2); rfl; rfl; rfl)
    exact ret_eq rfl
  rw [if_neg h0] at hC
  replace h0 := Decidable.not_not.1 h0
  obtain ⟨n, hn, n1, n2⟩ := states_nat h0
  obtain ⟨f1, f2, f3⟩ := first_ok h0
  have hF : ACr Tryz.prog GP 79 [mdA m] (.tup [.int (firstF m), .int 0]) := by
    rw [f1] at hF; exact hF
  rw [hn] at hC
  dsimp only at hC
  have hCc := ConcatI GP [stem, loop] (by simp; omega)
  have hfl : [stem, loop].flatten = stem ++ loop := by simp
  rw [hfl] at hCc
  have hno := runF_no (m := m) (stem := stem) (loop := loop) h0
  have hat := fun b => runF_at (m := m) (stem := stem) (loop := loop) (b := b) h0 hn
  generalize hfst : firstF m = fst at hF hno hat
  cases loop with
  | nil =>
    rw [hno (.inl rfl)]
    all_goals haveI fA_ : FlagA := ⟨⟩
    all_goals haveI fH_ : FlagH := ⟨⟩
    repeat' (first
      | ((with_reducible apply call0); (focus rfl); (focus exact cal_Count); (focus exact hC); (focus rfl))
      | ((with_reducible apply je_call0); (focus rfl); (focus (decide +kernel)); (focus rfl); (focus exact cal_Count); (focus exact hC); (focus rfl))
      | ((with_reducible apply call0); (focus rfl); (focus exact cal_First); (focus exact hF); (focus rfl))
      | ((with_reducible apply je_call0); (focus rfl); (focus (decide +kernel)); (focus rfl); (focus exact cal_First); (focus exact hF); (focus rfl))
      | ((with_reducible apply call0); (focus rfl); (focus exact cal_ConcatI); (focus exact hCc); (focus rfl))
      | ((with_reducible apply je_call0); (focus rfl); (focus (decide +kernel)); (focus rfl); (focus exact cal_ConcatI); (focus exact hCc); (focus rfl))
      | ((with_reducible apply jbuild_list2); (focus rfl); (focus rfl); (focus rfl); (focus (with_reducible exact ElC.h)); (focus rfl); (focus rfl))
      | exact True.intro
      | refine stp ?_
      | refine two ?_ ?_
      | refine allc fun c_ => ?_
      | (refine imp fun hc => ?_) <;> try (first | contradiction | (exfalso; omega) | (exfalso; exact absurd (of_dT hc) (by assumption)) | (exfalso; exact of_dF hc (by assumption)))
      | refine all fun v_ => ?_)
    all_goals clear fA_ fH_
    all_goals
      refine retv (VS.drop (List.nil_sublist _)) ?_
      ((with_reducible apply rq2); rfl; rfl; rfl)
      exact ret_eq rfl
  | cons b lr =>
    have hlb : (b :: lr).length = lr.length + 1 := rfl
    have hrl : roundL stem (b :: lr) = stem ++ (b :: lr) ++ [b] := rfl
    have hne : stem ++ (b :: lr) ≠ [] := by simp
    have hal : (stem ++ (b :: lr)).length = stem.length + (b :: lr).length := List.length_append
    rw [hrl] at hat
    generalize hall : stem ++ (b :: lr) = alls at hCc hno hat hne hal
    cases alls with
    | nil => exact absurd rfl hne
    | cons a ar =>
      by_cases ha : a ≠ fst
      · rw [hno (.inr (by simpa using ha))]
        all_goals haveI fA_ : FlagA := ⟨⟩
        all_goals haveI fH_ : FlagH := ⟨⟩
        repeat' (first
          | ((with_reducible apply call0); (focus rfl); (focus exact cal_Count); (focus exact hC); (focus rfl))
          | ((with_reducible apply je_call0); (focus rfl); (focus (decide +kernel)); (focus rfl); (focus exact cal_Count); (focus exact hC); (focus rfl))
          | ((with_reducible apply call0); (focus rfl); (focus exact cal_First); (focus exact hF); (focus rfl))
          | ((with_reducible apply je_call0); (focus rfl); (focus (decide +kernel)); (focus rfl); (focus exact cal_First); (focus exact hF); (focus rfl))
          | ((with_reducible apply call0); (focus rfl); (focus exact cal_ConcatI); (focus exact hCc); (focus rfl))
          | ((with_reducible apply je_call0); (focus rfl); (focus (decide +kernel)); (focus rfl); (focus exact cal_ConcatI); (focus exact hCc); (focus rfl))
          | ((with_reducible apply jbuild_list2); (focus rfl); (focus rfl); (focus rfl); (focus (with_reducible exact ElC.h)); (focus rfl); (focus rfl))
          | exact True.intro
          | refine stp ?_
          | refine two ?_ ?_
          | refine allc fun c_ => ?_
          | (refine imp fun hc => ?_) <;> try (first | contradiction | (exfalso; omega) | (exfalso; exact absurd (of_dT hc) (by assumption)) | (exfalso; exact of_dF hc (by assumption)))
          | refine all fun v_ => ?_)
        all_goals clear fA_ fH_
        all_goals
          refine retv (VS.drop (List.nil_sublist _)) ?_
          ((with_reducible apply rq2); rfl; rfl; rfl)
          exact ret_eq rfl
      replace ha := Decidable.not_not.1 ha
      have hat := fun x => hat x (by simp) (by simp [ha])
      all_goals haveI fA_ : FlagA := ⟨⟩
      all_goals haveI fH_ : FlagH := ⟨⟩
      repeat' (first
        | ((with_reducible apply call0); (focus rfl); (focus exact cal_Count); (focus exact hC); (focus rfl))
        | ((with_reducible apply je_call0); (focus rfl); (focus (decide +kernel)); (focus rfl); (focus exact cal_Count); (focus exact hC); (focus rfl))
        | ((with_reducible apply call0); (focus rfl); (focus exact cal_First); (focus exact hF); (focus rfl))
        | ((with_reducible apply je_call0); (focus rfl); (focus (decide +kernel)); (focus rfl); (focus exact cal_First); (focus exact hF); (focus rfl))
        | ((with_reducible apply call0); (focus rfl); (focus exact cal_ConcatI); (focus exact hCc); (focus rfl))
        | ((with_reducible apply je_call0); (focus rfl); (focus (decide +kernel)); (focus rfl); (focus exact cal_ConcatI); (focus exact hCc); (focus rfl))
        | ((with_reducible apply jbuild_list2); (focus rfl); (focus rfl); (focus rfl); (focus (with_reducible exact ElC.h)); (focus rfl); (focus rfl))
        | exact True.intro
        | refine stp ?_
        | refine two ?_ ?_
        | refine allc fun c_ => ?_
        | (refine imp fun hc => ?_) <;> try (first | contradiction | (exfalso; omega) | (exfalso; exact absurd (of_dT hc) (by assumption)) | (exfalso; exact of_dF hc (by assumption)))
        | refine all fun v_ => ?_)
      all_goals clear fA_ fH_
      obtain ⟨bl, rfl⟩ : ∃ x, x = v_ := ⟨v_, rfl⟩
      obtain ⟨bm, rfl⟩ : ∃ x, x = v_ := ⟨v_, rfl⟩
      have hAl : ((a :: ar) ++ [b]).length = (a :: ar).length + 1 := by simp
      have hA0 : ∀ i (h : i < (a :: ar).length), at0 ((a :: ar) ++ [b]) i = (a :: ar)[i] := fun i h => by
        rw [at0_get _ _ (by omega), List.getElem_append_left h]
      have hA1 : at0 ((a :: ar) ++ [b]) (a :: ar).length = b := by
        rw [at0_get _ _ (by omega), List.getElem_append_right (Nat.le_refl _)]; simp
      generalize (a :: ar) ++ [b] = A at hat hAl hA0 hA1
      refine J_loopV (X := Nat) (fun i => [(2, .val (.pointer (some ⟨bm, 0, none⟩))), (3, .val (.pointer (some ⟨bl, 0, none⟩))), (6, .int n), (10, .d (intsD (a :: ar))), (46, .d (intsD (a :: ar))), (47, .int (a :: ar).length), (48, .int i)]) (fun _ => [.cells bl 32 [.d (intsD stem), .d (intsD (b :: lr))], .cells bm 25 [.d (varsD m.vars), .d (rulesD m.rules)]]) (fun i => i ≤ (a :: ar).length ∧ ∀ j, j < i → leadsP m n A j) (fun i => (a :: ar).length - i) 0 ⟨Nat.zero_le _, fun j h => absurd h (Nat.not_lt_zero j)⟩ (VS.take (by ((repeat (first | exact Take.nil | ((with_reducible apply Take.cons); (focus ((repeat (first | exact Sel.here | with_reducible apply Sel.there)); done))))); done)) ?_) ?_
      · repeat (first
          | exact Env.le_nil _
          | refine Env.le_cons (AV.le_refl _) ?_
          | refine Env.le_cons (AV.le_int rfl (by first | rfl | omega | (dsimp only; omega))) ?_)
      rintro i ⟨hi, hok⟩
      generalize a :: ar = alls at hAl hA0 hA1 hal hi ⊢
      by_cases hil : i < alls.length
      · have hc0 := hA0 i hil
        have hbad : ¬ leadsP m n A i → runF m stem (b :: lr) = (false, 0) := fun h => hat false ⟨fun k => (by cases k), fun k => absurd (k i (by omega)) h⟩
        have hled : leadsP m n A i ↔ ((0 ≤ alls[i] ∧ alls[i] < n) ∧ at0 A (i + 1) ∈ (nextF m alls[i]).1) := by unfold leadsP; rw [hc0]
        by_cases c0 : alls[i] < 0
        · rw [hbad fun k => by have := (hled.1 k).1; omega]
          all_goals haveI fA_ : FlagA := ⟨⟩
          all_goals haveI fH_ : FlagH := ⟨⟩
          repeat' (first
            | ((with_reducible apply call0); (focus rfl); (focus exact cal_Count); (focus exact hC); (focus rfl))
            | ((with_reducible apply je_call0); (focus rfl); (focus (decide +kernel)); (focus rfl); (focus exact cal_Count); (focus exact hC); (focus rfl))
            | ((with_reducible apply call0); (focus rfl); (focus exact cal_First); (focus exact hF); (focus rfl))
            | ((with_reducible apply je_call0); (focus rfl); (focus (decide +kernel)); (focus rfl); (focus exact cal_First); (focus exact hF); (focus rfl))
            | ((with_reducible apply call0); (focus rfl); (focus exact cal_ConcatI); (focus exact hCc); (focus rfl))
            | ((with_reducible apply je_call0); (focus rfl); (focus (decide +kernel)); (focus rfl); (focus exact cal_ConcatI); (focus exact hCc); (focus rfl))
            | ((with_reducible apply jbuild_list2); (focus rfl); (focus rfl); (focus rfl); (focus (with_reducible exact ElC.h)); (focus rfl); (focus rfl))
            | exact True.intro
            | refine stp ?_
            | refine two ?_ ?_
            | refine allc fun c_ => ?_
            | (refine imp fun hc => ?_) <;> try (first | contradiction | (exfalso; omega) | (exfalso; exact absurd (of_dT hc) (by assumption)) | (exfalso; exact of_dF hc (by assumption)))
            | refine all fun v_ => ?_)
          all_goals clear fA_ fH_
          refine retv (VS.drop (List.nil_sublist _)) ?_
          ((with_reducible apply rq2); rfl; rfl; rfl)
          exact ret_eq rfl
        by_cases c1 : (n : Int) ≤ alls[i]
        · rw [hbad fun k => by have := (hled.1 k).1; omega]
          all_goals haveI fA_ : FlagA := ⟨⟩
          all_goals haveI fH_ : FlagH := ⟨⟩
          repeat' (first
            | ((with_reducible apply call0); (focus rfl); (focus exact cal_Count); (focus exact hC); (focus rfl))
            | ((with_reducible apply je_call0); (focus rfl); (focus (decide +kernel)); (focus rfl); (focus exact cal_Count); (focus exact hC); (focus rfl))
            | ((with_reducible apply call0); (focus rfl); (focus exact cal_First); (focus exact hF); (focus rfl))
            | ((with_reducible apply je_call0); (focus rfl); (focus (decide +kernel)); (focus rfl); (focus exact cal_First); (focus exact hF); (focus rfl))
            | ((with_reducible apply call0); (focus rfl); (focus exact cal_ConcatI); (focus exact hCc); (focus rfl))
            | ((with_reducible apply je_call0); (focus rfl); (focus (decide +kernel)); (focus rfl); (focus exact cal_ConcatI); (focus exact hCc); (focus rfl))
            | ((with_reducible apply jbuild_list2); (focus rfl); (focus rfl); (focus rfl); (focus (with_reducible exact ElC.h)); (focus rfl); (focus rfl))
            | exact True.intro
            | refine stp ?_
            | refine two ?_ ?_
            | refine allc fun c_ => ?_
            | (refine imp fun hc => ?_) <;> try (first | contradiction | (exfalso; omega) | (exfalso; exact absurd (of_dT hc) (by assumption)) | (exfalso; exact of_dF hc (by assumption)))
            | refine all fun v_ => ?_)
          all_goals clear fA_ fH_
          refine retv (VS.drop (List.nil_sublist _)) ?_
          ((with_reducible apply rq2); rfl; rfl; rfl)
          exact ret_eq rfl
        have hN := Next m alls[i]
        generalize nextF m alls[i] = p at hN hled
        obtain ⟨ns, e⟩ := p
        dsimp only at hN hled
        have hCt : ∀ to, at0 A (i + 1) = to → ACr Tryz.prog GP 82 [.d (intsD ns), .int to] (.bool (decide (at0 A (i + 1) ∈ ns))) := fun to h => by rw [h]; exact ContainsI GP ns to
        have hfin : (if i + 1 < alls.length then True else at0 A (i + 1) = b) := by
          split
          · trivial
          · have : i + 1 = alls.length := by omega
            rw [this]; exact hA1
        by_cases hl1 : i + 1 < alls.length
        · have hCt := hCt _ (hA0 (i + 1) hl1)
          by_cases hin : at0 A (i + 1) ∈ ns
          · rw [decide_eq_true hin] at hCt
            all_goals haveI fA_ : FlagA := ⟨⟩
            all_goals haveI fH_ : FlagH := ⟨⟩
            repeat' (first
              | ((with_reducible apply call0); (focus rfl); (focus exact cal_Next); (focus exact hN); (focus rfl))
              | ((with_reducible apply je_call0); (focus rfl); (focus (decide +kernel)); (focus rfl); (focus exact cal_Next); (focus exact hN); (focus rfl))
              | ((with_reducible apply call0); (focus rfl); (focus exact cal_ContainsI); (focus exact hCt); (focus rfl))
              | ((with_reducible apply je_call0); (focus rfl); (focus (decide +kernel)); (focus rfl); (focus exact cal_ContainsI); (focus exact hCt); (focus rfl))
              | exact True.intro
              | refine stp ?_
              | refine two ?_ ?_
              | refine allc fun c_ => ?_
              | (refine imp fun hc => ?_) <;> try (first | contradiction | (exfalso; omega) | (exfalso; exact absurd (of_dT hc) (by assumption)) | (exfalso; exact of_dF hc (by assumption)))
              | refine all fun v_ => ?_)
            all_goals clear fA_ fH_
            refine ⟨i + 1, ⟨by omega, fun j hj => ?_⟩, by omega, VS.take (by ((repeat (first | exact Take.nil | ((with_reducible apply Take.cons); (focus ((repeat (first | exact Sel.here | with_reducible apply Sel.there)); done))))); done)) ?_⟩
            · by_cases e : j = i
              · rw [e]; exact hled.2 ⟨⟨by omega, by omega⟩, hin⟩
              · exact hok j (by omega)
            · repeat (first
                | exact Env.le_nil _
                | refine Env.le_cons (AV.le_refl _) ?_
                | refine Env.le_cons (AV.le_int rfl (by first | rfl | omega | (dsimp only; omega))) ?_)
          · rw [decide_eq_false hin] at hCt
            rw [hbad fun k => hin (hled.1 k).2]
            all_goals haveI fA_ : FlagA := ⟨⟩
            all_goals haveI fH_ : FlagH := ⟨⟩
            repeat' (first
              | ((with_reducible apply call0); (focus rfl); (focus exact cal_Next); (focus exact hN); (focus rfl))
              | ((with_reducible apply je_call0); (focus rfl); (focus (decide +kernel)); (focus rfl); (focus exact cal_Next); (focus exact hN); (focus rfl))
              | ((with_reducible apply call0); (focus rfl); (focus exact cal_ContainsI); (focus exact hCt); (focus rfl))
              | ((with_reducible apply je_call0); (focus rfl); (focus (decide +kernel)); (focus rfl); (focus exact cal_ContainsI); (focus exact hCt); (focus rfl))
              | exact True.intro
              | refine stp ?_
              | refine two ?_ ?_
              | refine allc fun c_ => ?_
              | (refine imp fun hc => ?_) <;> try (first | contradiction | (exfalso; omega) | (exfalso; exact absurd (of_dT hc) (by assumption)) | (exfalso; exact of_dF hc (by assumption)))
              | refine all fun v_ => ?_)
            all_goals clear fA_ fH_
            refine retv (VS.drop (List.nil_sublist _)) ?_
            ((with_reducible apply rq2); rfl; rfl; rfl)
            exact ret_eq rfl
        · rw [if_neg hl1] at hfin
          have hCt := hCt _ hfin
          by_cases hin : at0 A (i + 1) ∈ ns
          · rw [decide_eq_true hin] at hCt
            all_goals haveI fA_ : FlagA := ⟨⟩
            all_goals haveI fH_ : FlagH := ⟨⟩
            repeat' (first
              | ((with_reducible apply call0); (focus rfl); (focus exact cal_Next); (focus exact hN); (focus rfl))
              | ((with_reducible apply je_call0); (focus rfl); (focus (decide +kernel)); (focus rfl); (focus exact cal_Next); (focus exact hN); (focus rfl))
              | ((with_reducible apply call0); (focus rfl); (focus exact cal_ContainsI); (focus exact hCt); (focus rfl))
              | ((with_reducible apply je_call0); (focus rfl); (focus (decide +kernel)); (focus rfl); (focus exact cal_ContainsI); (focus exact hCt); (focus rfl))
              | exact True.intro
              | refine stp ?_
              | refine two ?_ ?_
              | refine allc fun c_ => ?_
              | (refine imp fun hc => ?_) <;> try (first | contradiction | (exfalso; omega) | (exfalso; exact absurd (of_dT hc) (by assumption)) | (exfalso; exact of_dF hc (by assumption)))
              | refine all fun v_ => ?_)
            all_goals clear fA_ fH_
            refine ⟨i + 1, ⟨by omega, fun j hj => ?_⟩, by omega, VS.take (by ((repeat (first | exact Take.nil | ((with_reducible apply Take.cons); (focus ((repeat (first | exact Sel.here | with_reducible apply Sel.there)); done))))); done)) ?_⟩
            · by_cases e : j = i
              · rw [e]; exact hled.2 ⟨⟨by omega, by omega⟩, hin⟩
              · exact hok j (by omega)
            · repeat (first
                | exact Env.le_nil _
                | refine Env.le_cons (AV.le_refl _) ?_
                | refine Env.le_cons (AV.le_int rfl (by first | rfl | omega | (dsimp only; omega))) ?_)
          · rw [decide_eq_false hin] at hCt
            rw [hbad fun k => hin (hled.1 k).2]
            all_goals haveI fA_ : FlagA := ⟨⟩
            all_goals haveI fH_ : FlagH := ⟨⟩
            repeat' (first
              | ((with_reducible apply call0); (focus rfl); (focus exact cal_Next); (focus exact hN); (focus rfl))
              | ((with_reducible apply je_call0); (focus rfl); (focus (decide +kernel)); (focus rfl); (focus exact cal_Next); (focus exact hN); (focus rfl))
              | ((with_reducible apply call0); (focus rfl); (focus exact cal_ContainsI); (focus exact hCt); (focus rfl))
              | ((with_reducible apply je_call0); (focus rfl); (focus (decide +kernel)); (focus rfl); (focus exact cal_ContainsI); (focus exact hCt); (focus rfl))
              | exact True.intro
              | refine stp ?_
              | refine two ?_ ?_
              | refine allc fun c_ => ?_
              | (refine imp fun hc => ?_) <;> try (first | contradiction | (exfalso; omega) | (exfalso; exact absurd (of_dT hc) (by assumption)) | (exfalso; exact of_dF hc (by assumption)))
              | refine all fun v_ => ?_)
            all_goals clear fA_ fH_
            refine retv (VS.drop (List.nil_sublist _)) ?_
            ((with_reducible apply rq2); rfl; rfl; rfl)
            exact ret_eq rfl
      obtain rfl : i = alls.length := by omega
      rw [hat true ⟨fun _ j hj => hok j (by omega), fun _ => rfl⟩]
      all_goals haveI fA_ : FlagA := ⟨⟩
      all_goals haveI fH_ : FlagH := ⟨⟩
      repeat' (first
        | exact True.intro
        | refine stp ?_
        | refine two ?_ ?_
        | refine allc fun c_ => ?_
        | (refine imp fun hc => ?_) <;> try (first | contradiction | (exfalso; omega) | (exfalso; exact absurd (of_dT hc) (by assumption)) | (exfalso; exact of_dF hc (by assumption)))
        | refine all fun v_ => ?_)
      all_goals clear fA_ fH_
      refine retv (VS.drop (List.nil_sublist _)) ?_
      ((with_reducible apply rq2); rfl; rfl; rfl)
      exact ret_eq rfl
end Go.Proofs.YtcikppldaepodaaGreatDoor
