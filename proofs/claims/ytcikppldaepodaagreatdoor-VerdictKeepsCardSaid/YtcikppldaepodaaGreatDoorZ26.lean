/- A bundle of this claim's own texts: N8 N13. -/
import Derived.Test.YtcikppldaepodaaGreatDoorZ22
import Derived.Test.YtcikppldaepodaaGreatDoorZ25
namespace Go.Proofs.YtcikppldaepodaaGreatDoor
open Go Go.Av Go.Sp
set_option linter.unusedVariables false
set_option linter.unusedSimpArgs false
set_option maxRecDepth 100000
set_option maxHeartbeats 4000000
theorem cal_NextOf : Cal Tryz.prog 57 := Cal.of Tryz.func57 (by kernel_rfl) (by kernel_rfl)
theorem NextOf (G : List (Nat × List D)) (m : Md) (code : Int) : ACr Tryz.prog G 57 [mdA m, .int code] (.tup [.d (intsD (nextF m code).1), .int (nextF m code).2]) := by
  have hC := StateCount G m
  refine AC_ofV (ts := [4, 5]) Tryz.f57.ntmps Tryz.func57 rfl rfl rfl (by simp [Tryz.ntmps57]) fun W I => ?_
  unfold countF at hC
  by_cases h0 : modelF m ≠ 0
  · have hv : valsF m code = ([], modelF m) := by unfold valsF; rw [if_pos h0]
    rw [nextF_err (by rw [hv]; exact h0), hv]
    rw [if_pos h0] at hC
    dsimp only at hC ⊢
    generalize modelF m = e at hC h0 ⊢
    all_goals haveI fA_ : FlagA := ⟨⟩
    all_goals haveI fH_ : FlagH := ⟨⟩
    repeat' (first
      | ((with_reducible apply call0); (focus rfl); (focus exact cal_StateCount); (focus exact hC); (focus rfl))
      | ((with_reducible apply je_call0); (focus rfl); (focus (decide +kernel)); (focus rfl); (focus exact cal_StateCount); (focus exact hC); (focus rfl))
      | ((with_reducible apply call0); (focus rfl); (focus exact cal_In); (focus exact In _ _ _ _); (focus rfl))
      | ((with_reducible apply je_call0); (focus rfl); (focus (decide +kernel)); (focus rfl); (focus exact cal_In); (focus exact In _ _ _ _); (focus rfl))
      | exact True.intro
      | refine stp ?_
      | refine two ?_ ?_
      | refine allc fun c_ => ?_
      | (refine imp fun hc => ?_) <;> try (first | contradiction | (exfalso; omega) | (exfalso; exact absurd (of_dT hc) (by assumption)) | (exfalso; exact of_dF hc (by assumption)))
      | refine all fun v_ => ?_)
    all_goals clear fA_ fH_
    refine retv (VS.trans (VS.drop (List.nil_sublist _)) (vnil (t := 4) 1 8 rfl)) ?_
    ((with_reducible apply rq2); rfl; rfl; rfl)
    exact ret_eq rfl
  rw [if_neg h0] at hC
  replace h0 := Decidable.not_not.1 h0
  obtain ⟨n, hn, n1, n2⟩ := states_nat h0
  rw [hn] at hC
  dsimp only at hC
  by_cases h1 : ¬ (0 ≤ code ∧ code ≤ (n : Int) - 1)
  · have hv : valsF m code = ([], 9) := by unfold valsF; rw [if_neg (fun k => k h0), if_neg (by rw [hn]; omega)]
    rw [nextF_err (by rw [hv]; decide), hv]
    all_goals haveI fA_ : FlagA := ⟨⟩
    all_goals haveI fH_ : FlagH := ⟨⟩
    repeat' (first
      | ((with_reducible apply call0); (focus rfl); (focus exact cal_StateCount); (focus exact hC); (focus rfl))
      | ((with_reducible apply je_call0); (focus rfl); (focus (decide +kernel)); (focus rfl); (focus exact cal_StateCount); (focus exact hC); (focus rfl))
      | ((with_reducible apply call0); (focus rfl); (focus exact cal_In); (focus exact In _ _ _ _); (focus rfl))
      | ((with_reducible apply je_call0); (focus rfl); (focus (decide +kernel)); (focus rfl); (focus exact cal_In); (focus exact In _ _ _ _); (focus rfl))
      | exact True.intro
      | refine stp ?_
      | refine two ?_ ?_
      | refine allc fun c_ => ?_
      | (refine imp fun hc => ?_) <;> try (first | contradiction | (exfalso; omega) | (exfalso; exact absurd (of_dT hc) (by assumption)) | (exfalso; exact of_dF hc (by assumption)))
      | refine all fun v_ => ?_)
    all_goals clear fA_ fH_
    all_goals
      refine retv (VS.trans (VS.drop (List.nil_sublist _)) (vnil (t := 4) 1 8 rfl)) ?_
      ((with_reducible apply rq2); rfl; rfl; rfl)
      exact ret_eq rfl
  replace h1 := Decidable.not_not.1 h1
  have hv : valsF m code = (valsT m.vars code, 0) := by unfold valsF; rw [if_neg (fun k => k h0), if_pos (by rw [hn]; omega)]
  rw [nextF_ok (by rw [hv])]
  have g := InV.vals h0 h1.1 (by rw [hn]; omega)
  have hr := codesL_range h0 g
  have h12 := modelF_few h0
  rw [hn] at hr ⊢
  rw [Int.toNat_natCast]
  have hat := afterC_at hv
  clear hv
  generalize valsT m.vars code = vs at g hr hat ⊢
  have e0 := isR_nil n
  all_goals haveI fA_ : FlagA := ⟨⟩
  all_goals haveI fH_ : FlagH := ⟨⟩
  repeat' (first
    | ((with_reducible apply call0); (focus rfl); (focus exact cal_StateCount); (focus exact hC); (focus rfl))
    | ((with_reducible apply je_call0); (focus rfl); (focus (decide +kernel)); (focus rfl); (focus exact cal_StateCount); (focus exact hC); (focus rfl))
    | ((with_reducible apply call0); (focus rfl); (focus exact cal_In); (focus exact In _ _ _ _); (focus rfl))
    | ((with_reducible apply je_call0); (focus rfl); (focus (decide +kernel)); (focus rfl); (focus exact cal_In); (focus exact In _ _ _ _); (focus rfl))
    | exact True.intro
    | refine stp ?_
    | refine two ?_ ?_
    | refine allc fun c_ => ?_
    | (refine imp fun hc => ?_) <;> try (first | contradiction | (exfalso; omega) | (exfalso; exact absurd (of_dT hc) (by assumption)) | (exfalso; exact of_dF hc (by assumption)))
    | refine all fun v_ => ?_)
  all_goals clear fA_ fH_
  obtain ⟨bi, rfl⟩ : ∃ x, x = v_ := ⟨v_, rfl⟩
  obtain ⟨bm, rfl⟩ : ∃ x, x = v_ := ⟨v_, rfl⟩
  refine J_loopV (X := Nat) (fun i => [(1, .int code), (2, .val (.pointer (some ⟨bm, 0, none⟩))), (6, .int n), (8, .val (.slice (some ⟨bi, 0, none⟩) n n)), (9, .bool (decide (codesL m vs (m.rules.take i) ≠ []))), (10, .int i)]) (fun i => [.cells bi 4 ((isR n (codesL m vs (m.rules.take i))).map AV.bool), .cells bm 25 [.d (varsD m.vars), .d (rulesD m.rules)]]) (fun i => i ≤ m.rules.length) (fun i => m.rules.length - i) 0 (Nat.zero_le _) (VS.take (by rw [show codesL m vs (m.rules.take 0) = [] from rfl, e0]; ((repeat (first | exact Take.nil | ((with_reducible apply Take.cons); (focus ((repeat (first | exact Sel.here | with_reducible apply Sel.there)); done))))); done)) ?_) ?_
  · repeat (first
      | exact Env.le_nil _
      | refine Env.le_cons (AV.le_refl _) ?_
      | refine Env.le_cons (AV.le_int rfl (by first | rfl | omega | (dsimp only; omega))) ?_)
  rintro i hi
  have hln := codesL_len m vs (m.rules.take i)
  rw [List.length_take] at hln
  have hrl := isR_len n (codesL m vs (m.rules.take i))
  by_cases hil : i < m.rules.length
  · have hA := AfterRule G m code i
    have hat := hat i hil
    cases ho : afterF m m.rules[i] vs with
    | none =>
      have hs := codesL_none hil ho
      rw [hat.1 ho] at hA
      dsimp only at hA
      all_goals haveI fA_ : FlagA := ⟨⟩
      all_goals haveI fH_ : FlagH := ⟨⟩
      repeat' (first
        | ((with_reducible apply call0); (focus rfl); (focus exact cal_AfterRule); (focus exact hA); (focus rfl))
        | ((with_reducible apply je_call0); (focus rfl); (focus (decide +kernel)); (focus rfl); (focus exact cal_AfterRule); (focus exact hA); (focus rfl))
        | exact True.intro
        | refine stp ?_
        | refine two ?_ ?_
        | refine allc fun c_ => ?_
        | (refine imp fun hc => ?_) <;> try (first | contradiction | (exfalso; omega) | (exfalso; exact absurd (of_dT hc) (by assumption)) | (exfalso; exact of_dF hc (by assumption)))
        | refine all fun v_ => ?_)
      all_goals clear fA_ fH_
      refine ⟨i + 1, by omega, by omega, VS.take (by rw [hs]; ((repeat (first | exact Take.nil | ((with_reducible apply Take.cons); (focus ((repeat (first | exact Sel.here | with_reducible apply Sel.there)); done))))); done)) ?_⟩
      rw [hs]
      repeat (first
        | exact Env.le_nil _
        | refine Env.le_cons (AV.le_refl _) ?_
        | refine Env.le_cons (AV.le_int rfl (by first | rfl | omega | (dsimp only; omega))) ?_)
    | some out =>
      have hs := codesL_some hil ho
      obtain ⟨_, o2, o3, o4⟩ := after_code h0 (List.getElem_mem hil) g ho
      rw [hat.2 out ho] at hA
      rw [hn] at o4
      have hp := isR_put n (codesL m vs (m.rules.take i)) (codeF m out).1 o3
      rw [o2] at hA
      generalize (codeF m out).1 = c at hA hs o3 o4 hp
      all_goals haveI fA_ : FlagA := ⟨⟩
      all_goals haveI fH_ : FlagH := ⟨⟩
      repeat' (first
        | ((with_reducible apply call0); (focus rfl); (focus exact cal_AfterRule); (focus exact hA); (focus rfl))
        | ((with_reducible apply je_call0); (focus rfl); (focus (decide +kernel)); (focus rfl); (focus exact cal_AfterRule); (focus exact hA); (focus rfl))
        | exact True.intro
        | refine stp ?_
        | refine two ?_ ?_
        | refine allc fun c_ => ?_
        | (refine imp fun hc => ?_) <;> try (first | contradiction | (exfalso; omega) | (exfalso; exact absurd (of_dT hc) (by assumption)) | (exfalso; exact of_dF hc (by assumption)))
        | refine all fun v_ => ?_)
      all_goals clear fA_ fH_
      refine ⟨i + 1, by omega, by omega, VS.take (by rw [hs, ← hp]; ((repeat (first | exact Take.nil | ((with_reducible apply Take.cons); (focus ((repeat (first | exact Sel.here | with_reducible apply Sel.there)); done))))); done)) ?_⟩
      rw [hs, show decide (codesL m vs (m.rules.take i) ++ [c] ≠ []) = true by simp]
      repeat (first
        | exact Env.le_nil _
        | refine Env.le_cons (AV.le_refl _) ?_
        | refine Env.le_cons (AV.le_int rfl (by first | rfl | omega | (dsimp only; omega))) ?_)
  obtain rfl : i = m.rules.length := by omega
  rw [List.take_length] at hln hrl ⊢
  generalize codesL m vs m.rules = cs at hr hln hrl ⊢
  by_cases hcs : cs = []
  · subst hcs
    rw [if_pos rfl, show decide (([] : List Int) ≠ []) = false by simp]
    all_goals haveI fA_ : FlagA := ⟨⟩
    all_goals haveI fH_ : FlagH := ⟨⟩
    repeat' (first
      | exact True.intro
      | refine stp ?_
      | refine two ?_ ?_
      | refine allc fun c_ => ?_
      | (refine imp fun hc => ?_) <;> try (first | contradiction | (exfalso; omega) | (exfalso; exact absurd (of_dT hc) (by assumption)) | (exfalso; exact of_dF hc (by assumption)))
      | refine all fun v_ => ?_)
    all_goals clear fA_ fH_
    refine retv (VS.drop (List.nil_sublist _)) ?_
    ((with_reducible apply rq2); rfl; rfl; rfl)
    exact ret_eq rfl
  rw [if_neg hcs, show decide (cs ≠ []) = true by simp [hcs]]
  all_goals haveI fA_ : FlagA := ⟨⟩
  all_goals haveI fH_ : FlagH := ⟨⟩
  repeat' (first
    | exact True.intro
    | refine stp ?_
    | refine two ?_ ?_
    | refine allc fun c_ => ?_
    | (refine imp fun hc => ?_) <;> try (first | contradiction | (exfalso; omega) | (exfalso; exact absurd (of_dT hc) (by assumption)) | (exfalso; exact of_dF hc (by assumption)))
    | refine all fun v_ => ?_)
  all_goals clear fA_ fH_
  refine jrow (E := 3) (sz := 1) intC ?_
  refine J_loopV (X := Nat × Sl) (fun y => [(6, .int n), (8, .val (.slice (some ⟨bi, 0, none⟩) n n)), (13, .val y.2.v), (14, .int y.1)]) (fun y => [rowE y.2.v 3 1 intC (upTo y.1 cs), .cells bi 4 ((isR n cs).map AV.bool)]) (fun y => y.1 ≤ n) (fun y => n - y.1) (0, Sl.nil) (Nat.zero_le _) (VS.take (by ((repeat (first | exact Take.nil | ((with_reducible apply Take.cons); (focus ((repeat (first | exact Sel.here | with_reducible apply Sel.there)); done))))); done)) ?_) ?_
  · repeat (first
      | exact Env.le_nil _
      | refine Env.le_cons (AV.le_refl _) ?_
      | refine Env.le_cons (AV.le_int rfl (by first | rfl | omega | (dsimp only; omega))) ?_)
  rintro ⟨k, q⟩ hk
  dsimp only at hk ⊢
  have hul := upTo_len k cs
  by_cases hkn : k < n
  · have hu := upTo_succ k cs
    have hg : ∀ h, (isR n cs)[k]'h = decide ((k : Int) ∈ cs) := fun h => isR_get n cs k h
    generalize isR n cs = R at hrl hg ⊢
    all_goals haveI fA_ : FlagA := ⟨⟩
    all_goals haveI fH_ : FlagH := ⟨⟩
    repeat' (first
      | exact True.intro
      | refine stp ?_
      | refine two ?_ ?_
      | refine allc fun c_ => ?_
      | (refine imp fun hc => ?_) <;> try (first | contradiction | (exfalso; omega) | (exfalso; exact absurd (of_dT hc) (by assumption)) | (exfalso; exact of_dF hc (by assumption)))
      | refine all fun v_ => ?_)
    all_goals clear fA_ fH_
    · rw [hg] at hc
      rw [if_pos (of_decide_eq_true hc)] at hu
      refine ⟨(k + 1, v_), by dsimp only; omega, by dsimp only; omega, VS.take (by dsimp only; rw [hu]; ((repeat (first | exact Take.nil | ((with_reducible apply Take.cons); (focus ((repeat (first | exact Sel.here | with_reducible apply Sel.there)); done))))); done)) ?_⟩
      repeat (first
        | exact Env.le_nil _
        | refine Env.le_cons (AV.le_refl _) ?_
        | refine Env.le_cons (AV.le_int rfl (by first | rfl | omega | (dsimp only; omega))) ?_)
    · rw [hg] at hc
      rw [if_neg (of_decide_eq_false hc), List.append_nil] at hu
      refine ⟨(k + 1, q), by dsimp only; omega, by dsimp only; omega, VS.take (by dsimp only; rw [hu]; ((repeat (first | exact Take.nil | ((with_reducible apply Take.cons); (focus ((repeat (first | exact Sel.here | with_reducible apply Sel.there)); done))))); done)) ?_⟩
      repeat (first
        | exact Env.le_nil _
        | refine Env.le_cons (AV.le_refl _) ?_
        | refine Env.le_cons (AV.le_int rfl (by first | rfl | omega | (dsimp only; omega))) ?_)
  obtain rfl : k = n := by omega
  all_goals haveI fA_ : FlagA := ⟨⟩
  all_goals haveI fH_ : FlagH := ⟨⟩
  repeat' (first
    | exact True.intro
    | refine stp ?_
    | refine two ?_ ?_
    | refine allc fun c_ => ?_
    | (refine imp fun hc => ?_) <;> try (first | contradiction | (exfalso; omega) | (exfalso; exact absurd (of_dT hc) (by assumption)) | (exfalso; exact of_dF hc (by assumption)))
    | refine all fun v_ => ?_)
  all_goals clear fA_ fH_
  refine retv (VS.trans (vfreeze (t := 4) (eb := 8) rfl rfl (fun x => rfl) (by omega)) (VS.drop (List.nil_sublist _))) ?_
  ((with_reducible apply rq2); rfl; rfl; rfl)
  exact ret_eq rfl
end Go.Proofs.YtcikppldaepodaaGreatDoor
namespace Go.Proofs.YtcikppldaepodaaGreatDoor
open Go Go.Av Go.Sp
set_option linter.unusedVariables false
set_option linter.unusedSimpArgs false
set_option maxRecDepth 100000
set_option maxHeartbeats 4000000
theorem cal_RunsOn : Cal Tryz.prog 18 := Cal.of Tryz.func18 (by kernel_rfl) (by kernel_rfl)
theorem RunsOn (G : List (Nat × List D)) (m : Md) (stem loop : List Int) (hb : stem.length + loop.length ≤ 1048576) : ACr Tryz.prog G 18 [mdA m, .agg [.d (intsD stem), .d (intsD loop)]] (.tup [.bool (runF m stem loop).1, .int (runF m stem loop).2]) := by
  have hC := StateCount G m
  have hF := FirstCode G m
  refine AC_ofV (ts := [4, 5]) Tryz.f18.ntmps Tryz.func18 rfl rfl rfl (by simp [Tryz.ntmps18]) fun W I => ?_
  unfold countF at hC
  by_cases h0 : modelF m ≠ 0
  · have hr : runF m stem loop = (false, modelF m) := by unfold runF; rw [if_pos h0]
    rw [hr]
    rw [if_pos h0] at hC
    dsimp only at hC ⊢
    generalize modelF m = e at hC h0 ⊢
    all_goals haveI fA_ : FlagA := ⟨⟩
    all_goals haveI fH_ : FlagH := ⟨⟩
    repeat' (first
      | ((with_reducible apply call0); (focus rfl); (focus exact cal_StateCount); (focus exact hC); (focus rfl))
      | ((with_reducible apply je_call0); (focus rfl); (focus (decide +kernel)); (focus rfl); (focus exact cal_StateCount); (focus exact hC); (focus rfl))
      | exact True.intro
      | refine stp ?_
      | refine two ?_ ?_
      | refine allc fun c_ => ?_
      | (refine imp fun hc => ?_) <;> try (first | contradiction | (exfalso; omega) | (exfalso; exact absurd (of_dT hc) (by assumption)) | (exfalso; exact of_dF hc (by assumption)))
      | refine all fun v_ => ?_)
    all_goals clear fA_ fH_
    refine retv (VS.drop (List.nil_sublist _)) ?_
    ((with_reducible apply rq2); rfl; rfl; rfl)
    exact ret_eq rfl
  rw [if_neg h0] at hC
  replace h0 := Decidable.not_not.1 h0
  obtain ⟨n, hn, n1, n2⟩ := states_nat h0
  obtain ⟨f1, f2, f3⟩ := first_ok h0
  have hF : ACr Tryz.prog G 55 [mdA m] (.tup [.int (firstF m), .int 0]) := by
    rw [f1] at hF; exact hF
  rw [hn] at hC
  dsimp only at hC
  have hno := runF_no (m := m) (stem := stem) (loop := loop) h0
  have hat := fun b => runF_at (m := m) (stem := stem) (loop := loop) (b := b) h0 hn
  generalize hfst : firstF m = fst at hF hno hat
  all_goals haveI fA_ : FlagA := ⟨⟩
  all_goals haveI fH_ : FlagH := ⟨⟩
  repeat' (first
    | ((with_reducible apply call0); (focus rfl); (focus exact cal_StateCount); (focus exact hC); (focus rfl))
    | ((with_reducible apply je_call0); (focus rfl); (focus (decide +kernel)); (focus rfl); (focus exact cal_StateCount); (focus exact hC); (focus rfl))
    | ((with_reducible apply call0); (focus rfl); (focus exact cal_FirstCode); (focus exact hF); (focus rfl))
    | ((with_reducible apply je_call0); (focus rfl); (focus (decide +kernel)); (focus rfl); (focus exact cal_FirstCode); (focus exact hF); (focus rfl))
    | exact True.intro
    | refine stp ?_
    | refine two ?_ ?_
    | refine allc fun c_ => ?_
    | (refine imp fun hc => ?_) <;> try (first | contradiction | (exfalso; omega) | (exfalso; exact absurd (of_dT hc) (by assumption)) | (exfalso; exact of_dF hc (by assumption)))
    | refine all fun v_ => ?_)
  all_goals clear fA_ fH_
  obtain ⟨bl, rfl⟩ : ∃ x, x = v_ := ⟨v_, rfl⟩
  obtain ⟨bm, rfl⟩ : ∃ x, x = v_ := ⟨v_, rfl⟩
  refine jrow (E := 3) (sz := 1) intC ?_
  refine J_loopV (X := Nat × Sl) (fun y => [(2, .val (.pointer (some ⟨bm, 0, none⟩))), (3, .val (.pointer (some ⟨bl, 0, none⟩))), (6, .int n), (8, .int fst), (10, .val y.2.v), (11, .int y.1)]) (fun y => [rowE y.2.v 3 1 intC (stem.take y.1), .cells bl 32 [.d (intsD stem), .d (intsD loop)], .cells bm 25 [.d (varsD m.vars), .d (rulesD m.rules)]]) (fun y => y.1 ≤ stem.length) (fun y => stem.length - y.1) (0, Sl.nil) (Nat.zero_le _) (VS.take (by ((repeat (first | exact Take.nil | ((with_reducible apply Take.cons); (focus ((repeat (first | exact Sel.here | with_reducible apply Sel.there)); done))))); done)) ?_) ?_
  · repeat (first
      | exact Env.le_nil _
      | refine Env.le_cons (AV.le_refl _) ?_
      | refine Env.le_cons (AV.le_int rfl (by first | rfl | omega | (dsimp only; omega))) ?_)
  rintro ⟨i, q⟩ hi
  dsimp only at hi ⊢
  have hlen : (stem.take i).length = i := by rw [List.length_take]; omega
  by_cases hil : i < stem.length
  · have et := List.take_succ_eq_append_getElem hil
    all_goals haveI fA_ : FlagA := ⟨⟩
    all_goals haveI fH_ : FlagH := ⟨⟩
    repeat' (first
      | exact True.intro
      | refine stp ?_
      | refine two ?_ ?_
      | refine allc fun c_ => ?_
      | (refine imp fun hc => ?_) <;> try (first | contradiction | (exfalso; omega) | (exfalso; exact absurd (of_dT hc) (by assumption)) | (exfalso; exact of_dF hc (by assumption)))
      | refine all fun v_ => ?_)
    all_goals clear fA_ fH_
    refine ⟨(i + 1, v_), by dsimp only; omega, by dsimp only; omega, VS.take (by dsimp only; rw [et]; ((repeat (first | exact Take.nil | ((with_reducible apply Take.cons); (focus ((repeat (first | exact Sel.here | with_reducible apply Sel.there)); done))))); done)) ?_⟩
    repeat (first
      | exact Env.le_nil _
      | refine Env.le_cons (AV.le_refl _) ?_
      | refine Env.le_cons (AV.le_int rfl (by first | rfl | omega | (dsimp only; omega))) ?_)
  obtain rfl : i = stem.length := by omega
  rw [List.take_length]
  clear hil hlen hi
  all_goals haveI fA_ : FlagA := ⟨⟩
  all_goals haveI fH_ : FlagH := ⟨⟩
  repeat' (first
    | exact True.intro
    | refine stp ?_
    | refine two ?_ ?_
    | refine allc fun c_ => ?_
    | (refine imp fun hc => ?_) <;> try (first | contradiction | (exfalso; omega) | (exfalso; exact absurd (of_dT hc) (by assumption)) | (exfalso; exact of_dF hc (by assumption)))
    | refine all fun v_ => ?_)
  all_goals clear fA_ fH_
  have e0 : stem = stem ++ loop.take 0 := by simp
  refine J_loopV (X := Nat × Sl) (fun y => [(2, .val (.pointer (some ⟨bm, 0, none⟩))), (3, .val (.pointer (some ⟨bl, 0, none⟩))), (6, .int n), (8, .int fst), (10, .val y.2.v), (12, .int y.1)]) (fun y => [rowE y.2.v 3 1 intC (stem ++ loop.take y.1), .cells bl 32 [.d (intsD stem), .d (intsD loop)], .cells bm 25 [.d (varsD m.vars), .d (rulesD m.rules)]]) (fun y => y.1 ≤ loop.length) (fun y => loop.length - y.1) (0, q) (Nat.zero_le _) (VS.take (by dsimp only; rw [← e0]; ((repeat (first | exact Take.nil | ((with_reducible apply Take.cons); (focus ((repeat (first | exact Sel.here | with_reducible apply Sel.there)); done))))); done)) ?_) ?_
  · repeat (first
      | exact Env.le_nil _
      | refine Env.le_cons (AV.le_refl _) ?_
      | refine Env.le_cons (AV.le_int rfl (by first | rfl | omega | (dsimp only; omega))) ?_)
  clear e0
  rintro ⟨i, q⟩ hi
  dsimp only at hi ⊢
  have hlen : (stem ++ loop.take i).length = stem.length + i := by rw [List.length_append, List.length_take]; omega
  by_cases hil : i < loop.length
  · have et : stem ++ loop.take (i + 1) = (stem ++ loop.take i) ++ [loop[i]] := by rw [List.take_succ_eq_append_getElem hil, List.append_assoc]
    all_goals haveI fA_ : FlagA := ⟨⟩
    all_goals haveI fH_ : FlagH := ⟨⟩
    repeat' (first
      | exact True.intro
      | refine stp ?_
      | refine two ?_ ?_
      | refine allc fun c_ => ?_
      | (refine imp fun hc => ?_) <;> try (first | contradiction | (exfalso; omega) | (exfalso; exact absurd (of_dT hc) (by assumption)) | (exfalso; exact of_dF hc (by assumption)))
      | refine all fun v_ => ?_)
    all_goals clear fA_ fH_
    refine ⟨(i + 1, v_), by dsimp only; omega, by dsimp only; omega, VS.take (by dsimp only; rw [et]; ((repeat (first | exact Take.nil | ((with_reducible apply Take.cons); (focus ((repeat (first | exact Sel.here | with_reducible apply Sel.there)); done))))); done)) ?_⟩
    repeat (first
      | exact Env.le_nil _
      | refine Env.le_cons (AV.le_refl _) ?_
      | refine Env.le_cons (AV.le_int rfl (by first | rfl | omega | (dsimp only; omega))) ?_)
  obtain rfl : i = loop.length := by omega
  rw [List.take_length] at hlen ⊢
  clear hil hi
  cases loop with
  | nil =>
    rw [hno (.inl rfl)]
    all_goals haveI fA_ : FlagA := ⟨⟩
    all_goals haveI fH_ : FlagH := ⟨⟩
    repeat' (first
      | exact True.intro
      | refine stp ?_
      | refine two ?_ ?_
      | refine allc fun c_ => ?_
      | (refine imp fun hc => ?_) <;> try (first | contradiction | (exfalso; omega) | (exfalso; exact absurd (of_dT hc) (by assumption)) | (exfalso; exact of_dF hc (by assumption)))
      | refine all fun v_ => ?_)
    all_goals clear fA_ fH_
    all_goals
      refine retv (VS.drop (List.nil_sublist _)) ?_
      ((with_reducible apply rq2); rfl; rfl; rfl)
      exact ret_eq rfl
  | cons b lr =>
    have hlb : (b :: lr).length = lr.length + 1 := rfl
    have hrl : roundL stem (b :: lr) = stem ++ (b :: lr) ++ [b] := rfl
    have hne : stem ++ (b :: lr) ≠ [] := by simp
    rw [hrl] at hat
    generalize hall : stem ++ (b :: lr) = alls at hno hat hne hlen ⊢
    cases alls with
    | nil => exact absurd rfl hne
    | cons a ar =>
      by_cases ha : a ≠ fst
      · rw [hno (.inr (by simpa using ha))]
        all_goals haveI fA_ : FlagA := ⟨⟩
        all_goals haveI fH_ : FlagH := ⟨⟩
        repeat' (first
          | exact True.intro
          | refine stp ?_
          | refine two ?_ ?_
          | refine allc fun c_ => ?_
          | (refine imp fun hc => ?_) <;> try (first | contradiction | (exfalso; omega) | (exfalso; exact absurd (of_dT hc) (by assumption)) | (exfalso; exact of_dF hc (by assumption)))
          | refine all fun v_ => ?_)
        all_goals clear fA_ fH_
        all_goals
          refine retv (VS.drop (List.nil_sublist _)) ?_
          ((with_reducible apply rq2); rfl; rfl; rfl)
          exact ret_eq rfl
      replace ha := Decidable.not_not.1 ha
      have hat := fun x => hat x (by simp) (by simp [ha])
      have hAl : ((a :: ar) ++ [b]).length = (a :: ar).length + 1 := by simp
      have hcl : (a :: ar).length = ar.length + 1 := rfl
      all_goals haveI fA_ : FlagA := ⟨⟩
      all_goals haveI fH_ : FlagH := ⟨⟩
      repeat' (first
        | exact True.intro
        | refine stp ?_
        | refine two ?_ ?_
        | refine allc fun c_ => ?_
        | (refine imp fun hc => ?_) <;> try (first | contradiction | (exfalso; omega) | (exfalso; exact absurd (of_dT hc) (by assumption)) | (exfalso; exact of_dF hc (by assumption)))
        | refine all fun v_ => ?_)
      all_goals clear fA_ fH_
      obtain ⟨q2, rfl⟩ : ∃ x, x = v_ := ⟨v_, rfl⟩
      refine J_loopV (X := Nat) (fun i => [(2, .val (.pointer (some ⟨bm, 0, none⟩))), (6, .int n), (10, .val q2.v), (13, .int i)]) (fun _ => [rowE q2.v 3 1 intC ((a :: ar) ++ [b]), .cells bm 25 [.d (varsD m.vars), .d (rulesD m.rules)]]) (fun i => i + 1 ≤ ((a :: ar) ++ [b]).length ∧ ∀ j, j < i → leadsP m n ((a :: ar) ++ [b]) j) (fun i => ((a :: ar) ++ [b]).length - i) 0 ⟨by omega, fun j h => absurd h (Nat.not_lt_zero j)⟩ (VS.take (by ((repeat (first | exact Take.nil | ((with_reducible apply Take.cons); (focus ((repeat (first | exact Sel.here | with_reducible apply Sel.there)); done))))); done)) ?_) ?_
      · repeat (first
          | exact Env.le_nil _
          | refine Env.le_cons (AV.le_refl _) ?_
          | refine Env.le_cons (AV.le_int rfl (by first | rfl | omega | (dsimp only; omega))) ?_)
      rintro i ⟨hi, hok⟩
      by_cases hil : i + 1 < ((a :: ar) ++ [b]).length
      · have hc0 := at0_get ((a :: ar) ++ [b]) i (by omega)
        have hc1 := at0_get ((a :: ar) ++ [b]) (i + 1) hil
        have hbad : ¬ leadsP m n ((a :: ar) ++ [b]) i → runF m stem (b :: lr) = (false, 0) := fun h => hat false ⟨fun k => (by cases k), fun k => absurd (k i hil) h⟩
        have hled : leadsP m n ((a :: ar) ++ [b]) i ↔ ((0 ≤ ((a :: ar) ++ [b])[i] ∧ ((a :: ar) ++ [b])[i] < n) ∧ ((a :: ar) ++ [b])[i + 1] ∈ (nextF m ((a :: ar) ++ [b])[i]).1) := by unfold leadsP; rw [hc0, hc1]
        clear hc0 hc1
        by_cases c0 : ¬ (0 ≤ ((a :: ar) ++ [b])[i] ∧ ((a :: ar) ++ [b])[i] ≤ (n : Int) - 1)
        · rw [hbad fun k => by have := (hled.1 k).1; omega]
          all_goals haveI fA_ : FlagA := ⟨⟩
          all_goals haveI fH_ : FlagH := ⟨⟩
          repeat' (first
            | ((with_reducible apply call0); (focus rfl); (focus exact cal_In); (focus exact In _ _ _ _); (focus rfl))
            | ((with_reducible apply je_call0); (focus rfl); (focus (decide +kernel)); (focus rfl); (focus exact cal_In); (focus exact In _ _ _ _); (focus rfl))
            | exact True.intro
            | refine stp ?_
            | refine two ?_ ?_
            | refine allc fun c_ => ?_
            | (refine imp fun hc => ?_) <;> try (first | contradiction | (exfalso; omega) | (exfalso; exact absurd (of_dT hc) (by assumption)) | (exfalso; exact of_dF hc (by assumption)))
            | refine all fun v_ => ?_)
          all_goals clear fA_ fH_
          refine retv (VS.drop (List.nil_sublist _)) ?_
          ((with_reducible apply rq2); rfl; rfl; rfl)
          exact ret_eq rfl
        replace c0 := Decidable.not_not.1 c0
        have hN := NextOf G m ((a :: ar) ++ [b])[i]
        generalize nextF m ((a :: ar) ++ [b])[i] = p at hN hled
        obtain ⟨ns, e⟩ := p
        dsimp only at hN hled
        all_goals haveI fA_ : FlagA := ⟨⟩
        all_goals haveI fH_ : FlagH := ⟨⟩
        repeat' (first
          | ((with_reducible apply call0); (focus rfl); (focus exact cal_In); (focus exact In _ _ _ _); (focus rfl))
          | ((with_reducible apply je_call0); (focus rfl); (focus (decide +kernel)); (focus rfl); (focus exact cal_In); (focus exact In _ _ _ _); (focus rfl))
          | ((with_reducible apply call0); (focus rfl); (focus exact cal_NextOf); (focus exact hN); (focus rfl))
          | ((with_reducible apply je_call0); (focus rfl); (focus (decide +kernel)); (focus rfl); (focus exact cal_NextOf); (focus exact hN); (focus rfl))
          | exact True.intro
          | refine stp ?_
          | refine two ?_ ?_
          | refine allc fun c_ => ?_
          | (refine imp fun hc => ?_) <;> try (first | contradiction | (exfalso; omega) | (exfalso; exact absurd (of_dT hc) (by assumption)) | (exfalso; exact of_dF hc (by assumption)))
          | refine all fun v_ => ?_)
        all_goals clear fA_ fH_
        refine jfact (t := 14) rfl fun hnb => ?_
        refine J_loopV (X := Nat) (fun k => [(2, .val (.pointer (some ⟨bm, 0, none⟩))), (6, .int n), (10, .val q2.v), (13, .int i), (14, .d (intsD ns)), (16, .bool (decide (((a :: ar) ++ [b])[i + 1] ∈ ns.take k))), (17, .int k)]) (fun _ => [rowE q2.v 3 1 intC ((a :: ar) ++ [b]), .cells bm 25 [.d (varsD m.vars), .d (rulesD m.rules)]]) (fun k => k ≤ ns.length) (fun k => ns.length - k) 0 (Nat.zero_le _) (VS.take (by ((repeat (first | exact Take.nil | ((with_reducible apply Take.cons); (focus ((repeat (first | exact Sel.here | with_reducible apply Sel.there)); done))))); done)) ?_) ?_
        · repeat (first
            | exact Env.le_nil _
            | refine Env.le_cons (AV.le_refl _) ?_
            | refine Env.le_cons (AV.le_int rfl (by first | rfl | omega | (dsimp only; omega))) ?_)
        rintro k hk
        by_cases hkl : k < ns.length
        · have hst : ((a :: ar) ++ [b])[i + 1] ∈ ns.take (k + 1) ↔ ((a :: ar) ++ [b])[i + 1] ∈ ns.take k ∨ ns[k] = ((a :: ar) ++ [b])[i + 1] := by
            rw [List.take_succ_eq_append_getElem hkl, List.mem_append, List.mem_singleton, eq_comm (a := ns[k])]
          by_cases hin : ((a :: ar) ++ [b])[i + 1] ∈ ns.take k
          · rw [decide_eq_true hin]
            all_goals haveI fA_ : FlagA := ⟨⟩
            all_goals haveI fH_ : FlagH := ⟨⟩
            repeat' (first
              | exact True.intro
              | refine stp ?_
              | refine two ?_ ?_
              | refine allc fun c_ => ?_
              | (refine imp fun hc => ?_) <;> try (first | contradiction | (exfalso; omega) | (exfalso; exact absurd (of_dT hc) (by assumption)) | (exfalso; exact of_dF hc (by assumption)))
              | refine all fun v_ => ?_)
            all_goals clear fA_ fH_
            refine ⟨k + 1, by omega, by omega, VS.take (by ((repeat (first | exact Take.nil | ((with_reducible apply Take.cons); (focus ((repeat (first | exact Sel.here | with_reducible apply Sel.there)); done))))); done)) ?_⟩
            rw [decide_eq_true (hst.2 (.inl hin))]
            repeat (first
              | exact Env.le_nil _
              | refine Env.le_cons (AV.le_refl _) ?_
              | refine Env.le_cons (AV.le_int rfl (by first | rfl | omega | (dsimp only; omega))) ?_)
          · rw [decide_eq_false hin]
            all_goals haveI fA_ : FlagA := ⟨⟩
            all_goals haveI fH_ : FlagH := ⟨⟩
            repeat' (first
              | exact True.intro
              | refine stp ?_
              | refine two ?_ ?_
              | refine allc fun c_ => ?_
              | (refine imp fun hc => ?_) <;> try (first | contradiction | (exfalso; omega) | (exfalso; exact absurd (of_dT hc) (by assumption)) | (exfalso; exact of_dF hc (by assumption)))
              | refine all fun v_ => ?_)
            all_goals clear fA_ fH_
            refine ⟨k + 1, by omega, by omega, VS.take (by ((repeat (first | exact Take.nil | ((with_reducible apply Take.cons); (focus ((repeat (first | exact Sel.here | with_reducible apply Sel.there)); done))))); done)) ?_⟩
            rw [decide_eq_decide.2 (⟨fun h => (hst.1 h).resolve_left hin, fun h => hst.2 (.inr h)⟩ : ((a :: ar) ++ [b])[i + 1] ∈ ns.take (k + 1) ↔ ns[k] = ((a :: ar) ++ [b])[i + 1])]
            repeat (first
              | exact Env.le_nil _
              | refine Env.le_cons (AV.le_refl _) ?_
              | refine Env.le_cons (AV.le_int rfl (by first | rfl | omega | (dsimp only; omega))) ?_)
        obtain rfl : k = ns.length := by omega
        rw [List.take_length]
        by_cases hin : ((a :: ar) ++ [b])[i + 1] ∈ ns
        · rw [decide_eq_true hin]
          all_goals haveI fA_ : FlagA := ⟨⟩
          all_goals haveI fH_ : FlagH := ⟨⟩
          repeat' (first
            | exact True.intro
            | refine stp ?_
            | refine two ?_ ?_
            | refine allc fun c_ => ?_
            | (refine imp fun hc => ?_) <;> try (first | contradiction | (exfalso; omega) | (exfalso; exact absurd (of_dT hc) (by assumption)) | (exfalso; exact of_dF hc (by assumption)))
            | refine all fun v_ => ?_)
          all_goals clear fA_ fH_
          refine ⟨i + 1, ⟨by omega, fun j hj => ?_⟩, by omega, VS.take (by ((repeat (first | exact Take.nil | ((with_reducible apply Take.cons); (focus ((repeat (first | exact Sel.here | with_reducible apply Sel.there)); done))))); done)) ?_⟩
          · by_cases e : j = i
            · rw [e]; exact hled.2 ⟨⟨by omega, by omega⟩, hin⟩
            · exact hok j (by omega)
          · repeat (first
              | exact Env.le_nil _
              | refine Env.le_cons (AV.le_refl _) ?_
              | refine Env.le_cons (AV.le_int rfl (by first | rfl | omega | (dsimp only; omega))) ?_)
        · rw [decide_eq_false hin, hbad fun k => hin (hled.1 k).2]
          all_goals haveI fA_ : FlagA := ⟨⟩
          all_goals haveI fH_ : FlagH := ⟨⟩
          repeat' (first
            | exact True.intro
            | refine stp ?_
            | refine two ?_ ?_
            | refine allc fun c_ => ?_
            | (refine imp fun hc => ?_) <;> try (first | contradiction | (exfalso; omega) | (exfalso; exact absurd (of_dT hc) (by assumption)) | (exfalso; exact of_dF hc (by assumption)))
            | refine all fun v_ => ?_)
          all_goals clear fA_ fH_
          refine retv (VS.drop (List.nil_sublist _)) ?_
          ((with_reducible apply rq2); rfl; rfl; rfl)
          exact ret_eq rfl
      rw [hat true ⟨fun _ j hj => hok j (by omega), fun _ => rfl⟩]
      all_goals haveI fA_ : FlagA := ⟨⟩
      all_goals haveI fH_ : FlagH := ⟨⟩
      repeat' (first
        | exact True.intro
        | refine stp ?_
        | refine two ?_ ?_
        | refine allc fun c_ => ?_
        | (refine imp fun hc => ?_) <;> try (first | contradiction | (exfalso; omega) | (exfalso; exact absurd (of_dT hc) (by assumption)) | (exfalso; exact of_dF hc (by assumption)))
        | refine all fun v_ => ?_)
      all_goals clear fA_ fH_
      refine retv (VS.drop (List.nil_sublist _)) ?_
      ((with_reducible apply rq2); rfl; rfl; rfl)
      exact ret_eq rfl
end Go.Proofs.YtcikppldaepodaaGreatDoor
