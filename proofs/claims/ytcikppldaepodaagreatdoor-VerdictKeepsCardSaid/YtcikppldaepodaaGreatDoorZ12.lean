/- A bundle of this claim's own texts: M8 E11 Sf G9 Y1. -/
import Derived.Test.YtcikppldaepodaaGreatDoorZ2
import Derived.Test.YtcikppldaepodaaGreatDoorZ3
import Derived.Test.YtcikppldaepodaaGreatDoorZ4
import Derived.Test.YtcikppldaepodaaGreatDoorZ5
import Derived.Test.YtcikppldaepodaaGreatDoorZ11
namespace Go.Proofs.YtcikppldaepodaaGreatDoor
open Go Go.Av Go.Sp
set_option linter.unusedVariables false
set_option linter.unusedSimpArgs false
set_option maxRecDepth 100000
set_option maxHeartbeats 4000000

theorem cal_Values : Cal Tryz.prog 92 := Cal.of Tryz.func92 (by kernel_rfl) (by kernel_rfl)
theorem cal_ValuesOf : Cal Tryz.prog 86 := Cal.of Tryz.func86 (by kernel_rfl) (by kernel_rfl)
theorem Values (m : Md) (code : Int) : ACr Tryz.prog GP 92 [mdA m, .int code] (.tup [.d (intsD (valsF m code).1), .int (valsF m code).2]) := by
  refine AC_ofV (ts := [4, 5]) Tryz.f92.ntmps Tryz.func92 rfl rfl rfl (by simp [Tryz.ntmps92]) fun W I => ?_
  have ec := Count m
  by_cases c1 : modelF m ≠ 0
  · rw [countF, if_pos c1] at ec
    dsimp only at ec
    all_goals haveI fA_ : FlagA := ⟨⟩
    all_goals haveI fH_ : FlagH := ⟨⟩
    repeat' (first
      | ((with_reducible apply call0); (focus rfl); (focus exact cal_Count); (focus exact ec); (focus rfl))
      | ((with_reducible apply je_call0); (focus rfl); (focus (decide +kernel)); (focus rfl); (focus exact cal_Count); (focus exact ec); (focus rfl))
      | exact True.intro
      | refine stp ?_
      | refine two ?_ ?_
      | refine allc fun c_ => ?_
      | (refine imp fun hc => ?_) <;> try (first | contradiction | (exfalso; omega) | (exfalso; exact absurd (of_dT hc) (by assumption)) | (exfalso; exact of_dF hc (by assumption)))
      | refine all fun v_ => ?_)
    all_goals clear fA_ fH_
    refine retv (VS.trans (VS.drop (List.nil_sublist _)) (vnil (t := 4) 1 8 rfl)) ?_
    ((with_reducible apply rq2); rfl; rfl; rfl)
    exact ret_eq (by rw [valsF, if_pos c1]; rfl)
  have hv := modelF_vars (show modelF m = 0 by omega)
  have g := goodV hv
  have hl6 := varsF_len hv
  have hall := g.all
  rw [countF, if_neg c1] at ec
  dsimp only at ec
  by_cases c2 : ¬ (0 ≤ code ∧ code < prodV m.vars)
  · all_goals haveI fA_ : FlagA := ⟨⟩
    all_goals haveI fH_ : FlagH := ⟨⟩
    repeat' (first
      | ((with_reducible apply call0); (focus rfl); (focus exact cal_Count); (focus exact ec); (focus rfl))
      | ((with_reducible apply je_call0); (focus rfl); (focus (decide +kernel)); (focus rfl); (focus exact cal_Count); (focus exact ec); (focus rfl))
      | exact True.intro
      | refine stp ?_
      | refine two ?_ ?_
      | refine allc fun c_ => ?_
      | (refine imp fun hc => ?_) <;> try (first | contradiction | (exfalso; omega) | (exfalso; exact absurd (of_dT hc) (by assumption)) | (exfalso; exact of_dF hc (by assumption)))
      | refine all fun v_ => ?_)
    all_goals clear fA_ fH_
    all_goals
      refine retv (VS.trans (VS.drop (List.nil_sublist _)) (vnil (t := 4) 1 8 rfl)) ?_
      ((with_reducible apply rq2); rfl; rfl; rfl)
      exact ret_eq (by rw [valsF, if_neg c1, if_neg c2]; rfl)
  replace c2 := Decidable.not_not.1 c2
  have hF : valsF m code = (valsT m.vars code, 0) := by rw [valsF, if_neg c1, if_pos c2]
  have hVl := valsT_length m.vars code
  all_goals haveI fA_ : FlagA := ⟨⟩
  all_goals haveI fH_ : FlagH := ⟨⟩
  repeat' (first
    | ((with_reducible apply call0); (focus rfl); (focus exact cal_Count); (focus exact ec); (focus rfl))
    | ((with_reducible apply je_call0); (focus rfl); (focus (decide +kernel)); (focus rfl); (focus exact cal_Count); (focus exact ec); (focus rfl))
    | exact True.intro
    | refine stp ?_
    | refine two ?_ ?_
    | refine allc fun c_ => ?_
    | (refine imp fun hc => ?_) <;> try (first | contradiction | (exfalso; omega) | (exfalso; exact absurd (of_dT hc) (by assumption)) | (exfalso; exact of_dF hc (by assumption)))
    | refine all fun v_ => ?_)
  all_goals clear fA_ fH_
  obtain ⟨bo, rfl⟩ : ∃ x, x = v_ := ⟨v_, rfl⟩
  obtain ⟨bm, rfl⟩ : ∃ x, x = v_ := ⟨v_, rfl⟩
  have e0 : code / prodV (m.vars.drop m.vars.length) = code := by simp [prodV]
  have e1 : fillV (valsT m.vars code) m.vars.length = List.replicate m.vars.length 0 := by simp [fillV, hVl]
  refine J_loopV (X := Nat) (fun k => [(1, .int (code / prodV (m.vars.drop k))), (2, .val (.pointer (some ⟨bm, 0, none⟩))), (8, .val (.slice (some ⟨bo, 0, none⟩) m.vars.length m.vars.length)), (9, .int ((k : Int) - 1))]) (fun k => [.cells bo 3 ((fillV (valsT m.vars code) k).map AV.int), .cells bm 25 [.d (varsD m.vars), .d (rulesD m.rules)]]) (fun k => k ≤ m.vars.length) (fun k => k) m.vars.length (Nat.le_refl _) ?_ ?_
  · rw [e0, e1]
    refine VS.of_le ?_
    repeat (first
      | exact Env.le_nil _
      | refine Env.le_cons (AV.le_refl _) ?_
      | refine Env.le_cons (AV.le_int rfl (by first | rfl | omega | (dsimp only; omega))) ?_)
  rintro k h1
  have hfl := fillV_length (valsT m.vars code) k (by omega)
  by_cases hk : k = 0
  · subst hk
    all_goals haveI fA_ : FlagA := ⟨⟩
    all_goals haveI fH_ : FlagH := ⟨⟩
    repeat' (first
      | ((with_reducible apply call0); (focus rfl); (focus exact cal_Count); (focus exact ec); (focus rfl))
      | ((with_reducible apply je_call0); (focus rfl); (focus (decide +kernel)); (focus rfl); (focus exact cal_Count); (focus exact ec); (focus rfl))
      | exact True.intro
      | refine stp ?_
      | refine two ?_ ?_
      | refine allc fun c_ => ?_
      | (refine imp fun hc => ?_) <;> try (first | contradiction | (exfalso; omega) | (exfalso; exact absurd (of_dT hc) (by assumption)) | (exfalso; exact of_dF hc (by assumption)))
      | refine all fun v_ => ?_)
    all_goals clear fA_ fH_
    refine retv (VS.trans (VS.drop (h' := [.cells bo 3 ((fillV (valsT m.vars code) 0).map AV.int)]) (by (repeat (first | exact List.nil_sublist _ | (with_reducible apply List.Sublist.cons_cons) | apply List.Sublist.cons)))) (vfz (t := 4) (f := intC) (h1 := []) 1 8 rfl rfl rfl (ints_flat (fillV (valsT m.vars code) 0)) (by omega) (fun _ => rfl) (by omega) (by omega))) ?_
    ((with_reducible apply rq2); rfl; rfl; rfl)
    exact ret_eq (by rw [hF]; simp [fillV] <;> rfl)
  obtain ⟨j, rfl⟩ : ∃ j, k = j + 1 := ⟨k - 1, by omega⟩
  have hj : j < m.vars.length := by omega
  have ej : (((j + 1 : Nat) : Int) - 1) = (j : Int) := by omega
  rw [ej]
  obtain ⟨d1, d2, d3, d4, d5⟩ := g.range _ (List.getElem_mem hj)
  have hq := (g.take (j + 1)).2.2
  have hsp : spanV m.vars[j] = m.vars[j].high - m.vars[j].low + 1 := rfl
  have q0 : 0 ≤ code / prodV (m.vars.drop (j + 1)) := Int.ediv_nonneg c2.1 (by omega)
  have q1 : code / prodV (m.vars.drop (j + 1)) ≤ code := Int.ediv_le_self _ c2.1
  have hn : code / prodV (m.vars.drop (j + 1)) / (m.vars[j].high - m.vars[j].low + 1) = code / prodV (m.vars.drop j) := by rw [quo_quo _ _ _ (by omega), prodV_drop _ _ hj, hsp]
  have hV := valsT_get m.vars code j (fun v hv => (g.span v hv).1) c2.1 c2.2 hj (by omega)
  have hset := fillV_set (valsT m.vars code) j (by omega)
  rw [hV, hsp] at hset
  generalize code / prodV (m.vars.drop (j + 1)) = c at *
  have m0 := Int.emod_nonneg c (show m.vars[j].high - m.vars[j].low + 1 ≠ 0 by omega)
  have m1 := Int.emod_lt_of_pos c (show 0 < m.vars[j].high - m.vars[j].low + 1 by omega)
  all_goals haveI fA_ : FlagA := ⟨⟩
  all_goals haveI fH_ : FlagH := ⟨⟩
  repeat' (first
    | ((with_reducible apply call0); (focus rfl); (focus exact cal_Count); (focus exact ec); (focus rfl))
    | ((with_reducible apply je_call0); (focus rfl); (focus (decide +kernel)); (focus rfl); (focus exact cal_Count); (focus exact ec); (focus rfl))
    | exact True.intro
    | refine stp ?_
    | refine two ?_ ?_
    | refine allc fun c_ => ?_
    | (refine imp fun hc => ?_) <;> try (first | contradiction | (exfalso; omega) | (exfalso; exact absurd (of_dT hc) (by assumption)) | (exfalso; exact of_dF hc (by assumption)))
    | refine all fun v_ => ?_)
  all_goals clear fA_ fH_
  refine ⟨j, by omega, by omega, ?_⟩
  rw [← hn, ← hset]
  refine VS.take (by ((repeat (first | exact Take.nil | ((with_reducible apply Take.cons); (focus ((repeat (first | exact Sel.here | with_reducible apply Sel.there)); done))))); done)) ?_
  repeat (first
    | exact Env.le_nil _
    | refine Env.le_cons (AV.le_refl _) ?_
    | refine Env.le_cons (AV.le_int rfl (by first | rfl | omega | (dsimp only; omega))) ?_)
theorem ValuesOf (G : List (Nat × List D)) (m : Md) (code : Int) : ACr Tryz.prog G 86 [mdA m, .int code] (.tup [.d (intsD (valsF m code).1), .int (valsF m code).2]) := by
  refine AC_ofV (ts := [4, 5]) Tryz.f86.ntmps Tryz.func86 rfl rfl rfl (by simp [Tryz.ntmps86]) fun W I => ?_
  have ec := StateCount G m
  by_cases c1 : modelF m ≠ 0
  · rw [countF, if_pos c1] at ec
    dsimp only at ec
    all_goals haveI fA_ : FlagA := ⟨⟩
    all_goals haveI fH_ : FlagH := ⟨⟩
    repeat' (first
      | ((with_reducible apply call0); (focus rfl); (focus exact cal_StateCount); (focus exact ec); (focus rfl))
      | ((with_reducible apply je_call0); (focus rfl); (focus (decide +kernel)); (focus rfl); (focus exact cal_StateCount); (focus exact ec); (focus rfl))
      | ((with_reducible apply call0); (focus rfl); (focus exact cal_In); (focus exact In _ _ _ _); (focus rfl))
      | ((with_reducible apply je_call0); (focus rfl); (focus (decide +kernel)); (focus rfl); (focus exact cal_In); (focus exact In _ _ _ _); (focus rfl))
      | ((with_reducible apply call0); (focus rfl); (focus exact cal_behindVar); (focus exact e3); (focus rfl))
      | ((with_reducible apply je_call0); (focus rfl); (focus (decide +kernel)); (focus rfl); (focus exact cal_behindVar); (focus exact e3); (focus rfl))
      | exact True.intro
      | refine stp ?_
      | refine two ?_ ?_
      | refine allc fun c_ => ?_
      | (refine imp fun hc => ?_) <;> try (first | contradiction | (exfalso; omega) | (exfalso; exact absurd (of_dT hc) (by assumption)) | (exfalso; exact of_dF hc (by assumption)))
      | refine all fun v_ => ?_)
    all_goals clear fA_ fH_
    refine retv (VS.trans (VS.drop (List.nil_sublist _)) (vnil (t := 4) 1 8 rfl)) ?_
    ((with_reducible apply rq2); rfl; rfl; rfl)
    exact ret_eq (by rw [valsF, if_pos c1]; rfl)
  have hv := modelF_vars (show modelF m = 0 by omega)
  have g := goodV hv
  have hl6 := varsF_len hv
  have hall := g.all
  have hp1 := (g.take 0).2.2.1
  rw [List.drop_zero] at hp1
  rw [countF, if_neg c1] at ec
  dsimp only at ec
  by_cases c2 : ¬ (0 ≤ code ∧ code < prodV m.vars)
  · all_goals haveI fA_ : FlagA := ⟨⟩
    all_goals haveI fH_ : FlagH := ⟨⟩
    repeat' (first
      | ((with_reducible apply call0); (focus rfl); (focus exact cal_StateCount); (focus exact ec); (focus rfl))
      | ((with_reducible apply je_call0); (focus rfl); (focus (decide +kernel)); (focus rfl); (focus exact cal_StateCount); (focus exact ec); (focus rfl))
      | ((with_reducible apply call0); (focus rfl); (focus exact cal_In); (focus exact In _ _ _ _); (focus rfl))
      | ((with_reducible apply je_call0); (focus rfl); (focus (decide +kernel)); (focus rfl); (focus exact cal_In); (focus exact In _ _ _ _); (focus rfl))
      | ((with_reducible apply call0); (focus rfl); (focus exact cal_behindVar); (focus exact e3); (focus rfl))
      | ((with_reducible apply je_call0); (focus rfl); (focus (decide +kernel)); (focus rfl); (focus exact cal_behindVar); (focus exact e3); (focus rfl))
      | exact True.intro
      | refine stp ?_
      | refine two ?_ ?_
      | refine allc fun c_ => ?_
      | (refine imp fun hc => ?_) <;> try (first | contradiction | (exfalso; omega) | (exfalso; exact absurd (of_dT hc) (by assumption)) | (exfalso; exact of_dF hc (by assumption)))
      | refine all fun v_ => ?_)
    all_goals clear fA_ fH_
    all_goals
      refine retv (VS.trans (VS.drop (List.nil_sublist _)) (vnil (t := 4) 1 8 rfl)) ?_
      ((with_reducible apply rq2); rfl; rfl; rfl)
      exact ret_eq (by rw [valsF, if_neg c1, if_neg c2]; rfl)
  replace c2 := Decidable.not_not.1 c2
  have hF : valsF m code = (valsT m.vars code, 0) := by rw [valsF, if_neg c1, if_pos c2]
  have hVl := valsT_length m.vars code
  all_goals haveI fA_ : FlagA := ⟨⟩
  all_goals haveI fH_ : FlagH := ⟨⟩
  repeat' (first
    | ((with_reducible apply call0); (focus rfl); (focus exact cal_StateCount); (focus exact ec); (focus rfl))
    | ((with_reducible apply je_call0); (focus rfl); (focus (decide +kernel)); (focus rfl); (focus exact cal_StateCount); (focus exact ec); (focus rfl))
    | ((with_reducible apply call0); (focus rfl); (focus exact cal_In); (focus exact In _ _ _ _); (focus rfl))
    | ((with_reducible apply je_call0); (focus rfl); (focus (decide +kernel)); (focus rfl); (focus exact cal_In); (focus exact In _ _ _ _); (focus rfl))
    | ((with_reducible apply call0); (focus rfl); (focus exact cal_behindVar); (focus exact e3); (focus rfl))
    | ((with_reducible apply je_call0); (focus rfl); (focus (decide +kernel)); (focus rfl); (focus exact cal_behindVar); (focus exact e3); (focus rfl))
    | exact True.intro
    | refine stp ?_
    | refine two ?_ ?_
    | refine allc fun c_ => ?_
    | (refine imp fun hc => ?_) <;> try (first | contradiction | (exfalso; omega) | (exfalso; exact absurd (of_dT hc) (by assumption)) | (exfalso; exact of_dF hc (by assumption)))
    | refine all fun v_ => ?_)
  all_goals clear fA_ fH_
  obtain ⟨bm, rfl⟩ : ∃ x, x = v_ := ⟨v_, rfl⟩
  refine jrow (E := 3) (sz := 1) intC ?_
  refine J_loopV (X := Nat × Int × List Int × Sl) (fun y => [(1, .int y.2.1), (2, .val (.pointer (some ⟨bm, 0, none⟩))), (8, .val y.2.2.2.v), (9, .int y.1)]) (fun y => [rowE y.2.2.2.v 3 1 intC y.2.2.1, .cells bm 25 [.d (varsD m.vars), .d (rulesD m.rules)]]) (fun y => y.1 ≤ m.vars.length ∧ 0 ≤ y.2.1 ∧ y.2.1 ≤ 4096 ∧ y.2.2.1.length = y.1 ∧ y.2.2.1 ++ valsT (m.vars.drop y.1) y.2.1 = valsT m.vars code) (fun y => m.vars.length - y.1) (0, code, [], Sl.nil) ⟨Nat.zero_le _, c2.1, by dsimp only; omega, rfl, rfl⟩ (VS.of_le ?_) ?_
  · repeat (first
      | exact Env.le_nil _
      | refine Env.le_cons (AV.le_refl _) ?_
      | refine Env.le_cons (AV.le_int rfl (by first | rfl | omega | (dsimp only; omega))) ?_)
  rintro ⟨i, c, acc, q⟩ ⟨h1, h2, h3, h4, h5⟩
  dsimp only at h1 h2 h3 h4 h5 ⊢
  by_cases hi : i < m.vars.length
  · rw [valsT_at _ _ _ hi] at h5
    obtain ⟨d1, d2, d3, d4, d5⟩ := g.range _ (List.getElem_mem hi)
    have hq := (g.take (i + 1)).2.2
    have e3 := behindVar G m g hl6 (i + 1) (by omega) i (by omega)
    generalize prodV (m.vars.drop (i + 1)) = b at *
    have q0 : 0 ≤ c / b := Int.ediv_nonneg h2 (by omega)
    have q1 : c / b ≤ c := Int.ediv_le_self _ h2
    have m0 := Int.emod_nonneg c (show b ≠ 0 by omega)
    have m1 := Int.emod_lt_of_pos c (show 0 < b by omega)
    all_goals haveI fA_ : FlagA := ⟨⟩
    all_goals haveI fH_ : FlagH := ⟨⟩
    all_goals haveI fS_ : StopAt 2 := ⟨⟩
    repeat' (first
      | ((with_reducible apply call0); (focus rfl); (focus exact cal_StateCount); (focus exact ec); (focus rfl))
      | ((with_reducible apply je_call0); (focus rfl); (focus (decide +kernel)); (focus rfl); (focus exact cal_StateCount); (focus exact ec); (focus rfl))
      | ((with_reducible apply call0); (focus rfl); (focus exact cal_In); (focus exact In _ _ _ _); (focus rfl))
      | ((with_reducible apply je_call0); (focus rfl); (focus (decide +kernel)); (focus rfl); (focus exact cal_In); (focus exact In _ _ _ _); (focus rfl))
      | ((with_reducible apply call0); (focus rfl); (focus exact cal_behindVar); (focus exact e3); (focus rfl))
      | ((with_reducible apply je_call0); (focus rfl); (focus (decide +kernel)); (focus rfl); (focus exact cal_behindVar); (focus exact e3); (focus rfl))
      | exact True.intro
      | refine stp ?_
      | refine two ?_ ?_
      | refine allc fun c_ => ?_
      | (refine imp fun hc => ?_) <;> try (first | contradiction | (exfalso; omega))
      | refine all fun v_ => ?_)
    all_goals clear fA_ fH_ fS_
    refine ⟨?_⟩
    refine J_region_HB [rowE q.v 3 1 intC acc] mixed rfl (by (repeat ((with_reducible apply Hd.cons); (focus rfl))); exact Hd.nil) (by (repeat (with_reducible apply len_cons)); exact len_nil) (by decide +kernel) (by ((repeat (first | with_reducible exact Take.nil | ((with_reducible apply Take.cons); (focus ((repeat (first | with_reducible exact Sel.here | with_reducible apply Sel.there)); done))))); done)) ?_
    all_goals haveI fA_ : FlagA := ⟨⟩
    all_goals haveI fH_ : FlagH := ⟨⟩
    repeat' (first
      | ((with_reducible apply call0); (focus rfl); (focus exact cal_StateCount); (focus exact ec); (focus rfl))
      | ((with_reducible apply je_call0); (focus rfl); (focus (decide +kernel)); (focus rfl); (focus exact cal_StateCount); (focus exact ec); (focus rfl))
      | ((with_reducible apply call0); (focus rfl); (focus exact cal_In); (focus exact In _ _ _ _); (focus rfl))
      | ((with_reducible apply je_call0); (focus rfl); (focus (decide +kernel)); (focus rfl); (focus exact cal_In); (focus exact In _ _ _ _); (focus rfl))
      | ((with_reducible apply call0); (focus rfl); (focus exact cal_behindVar); (focus exact e3); (focus rfl))
      | ((with_reducible apply je_call0); (focus rfl); (focus (decide +kernel)); (focus rfl); (focus exact cal_behindVar); (focus exact e3); (focus rfl))
      | exact True.intro
      | refine stp ?_
      | refine two ?_ ?_
      | refine allc fun c_ => ?_
      | (refine imp fun hc => ?_) <;> try (first | contradiction | (exfalso; omega) | (exfalso; exact absurd (of_dT hc) (by assumption)) | (exfalso; exact of_dF hc (by assumption)))
      | refine all fun v_ => ?_)
    all_goals clear fA_ fH_
    refine ⟨(i + 1, c % b, acc ++ [m.vars[i].low + c / b], v_), ⟨by dsimp only; omega, m0, by dsimp only; omega, by simp [h4], by simpa using h5⟩, by dsimp only; omega, ?_⟩
    refine VS.take (by ((repeat (first | exact Take.nil | ((with_reducible apply Take.cons); (focus ((repeat (first | exact Sel.here | with_reducible apply Sel.there)); done))))); done)) ?_
    repeat (first
      | exact Env.le_nil _
      | refine Env.le_cons (AV.le_refl _) ?_
      | refine Env.le_cons (AV.le_int rfl (by first | rfl | omega | (dsimp only; omega))) ?_)
  obtain rfl : i = m.vars.length := by omega
  rw [List.drop_length, valsT, List.append_nil] at h5
  subst h5
  all_goals haveI fA_ : FlagA := ⟨⟩
  all_goals haveI fH_ : FlagH := ⟨⟩
  repeat' (first
    | ((with_reducible apply call0); (focus rfl); (focus exact cal_StateCount); (focus exact ec); (focus rfl))
    | ((with_reducible apply je_call0); (focus rfl); (focus (decide +kernel)); (focus rfl); (focus exact cal_StateCount); (focus exact ec); (focus rfl))
    | ((with_reducible apply call0); (focus rfl); (focus exact cal_In); (focus exact In _ _ _ _); (focus rfl))
    | ((with_reducible apply je_call0); (focus rfl); (focus (decide +kernel)); (focus rfl); (focus exact cal_In); (focus exact In _ _ _ _); (focus rfl))
    | ((with_reducible apply call0); (focus rfl); (focus exact cal_behindVar); (focus exact e3); (focus rfl))
    | ((with_reducible apply je_call0); (focus rfl); (focus (decide +kernel)); (focus rfl); (focus exact cal_behindVar); (focus exact e3); (focus rfl))
    | exact True.intro
    | refine stp ?_
    | refine two ?_ ?_
    | refine allc fun c_ => ?_
    | (refine imp fun hc => ?_) <;> try (first | contradiction | (exfalso; omega) | (exfalso; exact absurd (of_dT hc) (by assumption)) | (exfalso; exact of_dF hc (by assumption)))
    | refine all fun v_ => ?_)
  all_goals clear fA_ fH_
  refine retv (VS.trans (vfreeze (t := 4) (eb := 8) rfl rfl (fun x => rfl) (by omega)) (VS.drop (List.nil_sublist _))) ?_
  ((with_reducible apply rq2); rfl; rfl; rfl)
  exact ret_eq (by rw [hF])
end Go.Proofs.YtcikppldaepodaaGreatDoor
namespace Go.Av
open Go Go.Instr
set_option linter.unusedVariables false
set_option linter.unusedSimpArgs false
section
variable {P : Program} {G : List (Nat × List D)} {ρ : Env} {h : H} {dst : Option Tmp} {ty : TypeId} {pos : String} {after : Array Edge} {g : Option (Nat × Bool)}
theorem pu_lookM1 {α β : Type} [DecidableEq α] {kd : TypeDesc} {kv : α → Value} {vv : β → Value} (K : KeyK kd kv) {T KT ET : TypeId} {x y : Operand} {b : Nat} {ps : List (α × β)} {a : α}
    (hx : evO ρ x = some (.val (.map (some b)))) (hy : evO ρ y = some (.val (kv a))) (hT : P.underlying T = some (.map KT ET)) (hK : P.underlying KT = some kd) (hm : Ent.raw b (mapO (entL kv vv ps)) ∈ h) {c : β} (hc : getM ps a = some c) :
    Pure P G ⟨dst, .lookup T x y false, ty, pos, after, g⟩ ρ h (.val (vv c)) := by
  intro cx I n ac w _ hok hs
  have e1 := rel_val (hs.ev x) (ev_of_evO hx)
  have e2 := rel_val (hs.ev y) (ev_of_evO hy)
  have hb : w.heap[b]? = some (mapO (entL kv vv ps)) := hok.ent _ hm
  refine ⟨vv c, rfl, fun w' hw' => ?_⟩
  have hb' : w'.heap[b]? = some (mapO (entL kv vv ps)) := (hw'.own b (mem_blks hm rfl)).trans hb
  have hobj : (getObj b).run P w' = .ok (.map (mapEs (entL kv vv ps) 0).toArray (entL kv vv ps).length) w' := by simp [getObj, Sem.run, hb', mapO]
  obtain ⟨r, hr1, hr2⟩ := run_find (vv := vv) K hK ps a w'
  simp only [execOp, e1, e2, lookup]
  rw [hc] at hr2
  cases r with
  | none => cases hr2
  | some p =>
    obtain ⟨j, v⟩ := p
    obtain rfl : v = vv c := by simpa using hr2
    simp [run_underlying hT, hobj, K.easy P KT _ a w' hK, hr1]
end
section
variable {k : Kx} {Q : Exit → Env → H → Prop} {ρ : Env} {h h' : H} {ops : Array Oper} {l : List Oper} {d : Nat} {ty : TypeId} {pos : String} {after : Array Edge} {g : Option (Nat × Bool)}
-- an entry of a literal
theorem js_insMr {α β : Type} [DecidableEq α] {kd : TypeDesc} {kv : α → Value} {vv : β → Value} (K : KeyK kd kv) {T KT ET : TypeId} {x y u : Operand} {r : AV} {b : Nat} {ps : List (α × β)} {a : α} {c : β}
    (hx : evO ρ x = some (.val (.map (some b)))) (hy : evO ρ y = some (.val (kv a))) (hv : evO ρ u = some r) (hr : ∀ w I v, AV.rel w I r v → v = vv c) (hT : k.P.underlying T = some (.map KT ET)) (hK : k.P.underlying KT = some kd)
    (hu : Upd (.raw b (mapO (entL kv vv ps))) (.raw b (mapO (entL kv vv (ps ++ [(a, c)])))) h h') (hno : getM ps a = none)
    (hj : JL k ops l Q ρ h') : JL k ops (⟨none, .insert T x y u, ty, pos, after, none⟩ :: l) Q ρ h := by
  obtain ⟨h1, h2, rfl, rfl⟩ := hu.split
  refine JL_eff_skip rfl rfl fun I ac w k1 k2 => ?_
  have e1 := rel_val (k2.ev x) (ev_of_evO hx)
  have e2 := rel_val (k2.ev y) (ev_of_evO hy)
  have e3 := hr _ _ _ (rel_as (k2.ev u) (ev_of_evO hv))
  have hb : w.heap[b]? = some (mapO (entL kv vv ps)) := k1.ent (.raw b (mapO (entL kv vv ps))) (by simp)
  have hfind := find_no (vv := vv) K a ps 0 0 (getM_none.1 hno)
  have hnew : Obj.map (mapEs (entL kv vv ps) 0 ++ [(⟨kv a, vv c, (entL kv vv ps).length⟩ : MapEntry)]).toArray ((entL kv vv ps).length + 1) = mapO (entL kv vv (ps ++ [(a, c)])) := by
    have e : entL kv vv (ps ++ [(a, c)]) = entL kv vv ps ++ [(kv a, vv c)] := by simp [entL]
    unfold mapO
    rw [e, mapEs_append]
    simp [mapEs]
  obtain ⟨g1, g2⟩ := k1.write (w' := { w with heap := w.heap.setIfInBounds b (mapO (entL kv vv (ps ++ [(a, c)]))) }) (e' := .raw b (mapO (entL kv vv (ps ++ [(a, c)])))) (b := b) rfl rfl rfl rfl rfl (by simp)
    (fun x hx => by simp [Array.getElem?_setIfInBounds, Ne.symm hx]) (by
      have hlt := (Array.getElem?_eq_some_iff.1 hb).1
      show _ = _
      simp [Array.getElem?_setIfInBounds, hlt])
  refine ⟨{ w with heap := w.heap.setIfInBounds b (mapO (entL kv vv (ps ++ [(a, c)]))) }, I, h1 ++ .raw b (mapO (entL kv vv (ps ++ [(a, c)]))) :: h2, ?_, g1, k2.mono g2 (fun _ h => h), hj⟩
  have hobj : (getObj b).run k.P w = .ok (.map (mapEs (entL kv vv ps) 0).toArray (entL kv vv ps).length) w := by simp [getObj, Sem.run, hb, mapO]
  have hset := run_setM (P := k.P) (w := w) (r := b) (mapO (entL kv vv (ps ++ [(a, c)]))) (es := (mapEs (entL kv vv ps) 0).toArray) (clock := (entL kv vv ps).length) hb
  simp only [execOp, e1, e2, e3, mapUpdate]
  simp [run_underlying hT, hobj, K.easy k.P KT false a w hK, findKey, run_underlying hK, hfind, hnew, hset]
theorem jmkmapE {α β : Type} (kv : α → Value) (vv : β → Value) {T : TypeId} (hd : Nat.blt d k.n = true) (hj : All fun b : Nat => JL k ops l Q ((d, .val (.map (some b))) :: ρ) (.raw b (mapO (entL kv vv [])) :: h)) : JL k ops (⟨some d, .makeMap T none, ty, pos, after, none⟩ :: l) Q ρ h := jmkmap hd hj
end
end Go.Av
namespace Go.Sp
open Go.Av
set_option linter.unusedVariables false
set_option linter.unusedSimpArgs false

def rank (l : List Fo) : Nat → Nat
  | 0 => 0
  | i + 1 => rank l i + if aheadP (kindAt l i) then 1 else 0
def bitAt (claim : Int) (j : Nat) : Bool := decide (claim / 2 ^ j % 2 = 1)
def valAt (l : List Fo) (i : Nat) : Int := (l[i]?.map Fo.val).getD 0
theorem valAt_eq (l : List Fo) (i : Nat) (hi : i < l.length) : valAt l i = l[i].val := by unfold valAt; rw [List.getElem?_eq_getElem hi]; rfl
def second (l : List Fo) (i : Nat) : Nat := (endOf l (i + 1 : Nat)).1.toNat
def stepT (l : List Fo) (x : List Bool) (c : Int) (i : Nat) (a b : Bool) : Bool :=
  if kindAt l i = 13 then (x[(valAt l i).toNat]?).getD false
  else if kindAt l i = 11 then true
  else if kindAt l i = 12 then false
  else if kindAt l i = 10 then !a
  else if kindAt l i = 8 then a && b
  else if kindAt l i = 9 then a || b
  else bitAt c (rank l i)
def tv (l : List Fo) (x : List Bool) (c : Int) : Nat → Nat → Bool
  | 0, _ => false
  | m + 1, i => if i < l.length then stepT l x c i (tv l x c m (i + 1)) (if i < second l i then tv l x c m (second l i) else false) else false
def tAt (l : List Fo) (x : List Bool) (c : Int) (i : Nat) : Bool := tv l x c (l.length - i) i
theorem rank_succ (l : List Fo) (i : Nat) (hi : i < l.length) : rank l (i + 1) = rank l i + if aheadP l[i].kind then 1 else 0 := by
  simp only [rank, kindAt_eq l i hi]
theorem rank_mono (l : List Fo) : ∀ (m i : Nat), rank l i ≤ rank l (i + m)
  | 0, i => Nat.le_refl _
  | m + 1, i => by have := rank_mono l m i; rw [← Nat.add_assoc]; simp only [rank]; omega
theorem fitsZ_ok {k v p : Int} (h : fitsZ k v p = 0) : 8 ≤ k ∧ (k = 13 → 0 ≤ v ∧ v < p) := by
  unfold fitsZ at h
  by_cases h1 : k < 8
  · rw [if_pos h1] at h; exact absurd h (by decide)
  rw [if_neg h1] at h
  by_cases h2 : (k = 13 ∧ (v < 0 ∨ p ≤ v)) ∨ (k ≠ 13 ∧ v ≠ 0)
  · rw [if_pos h2] at h; exact absurd h (by decide)
  omega
theorem formE_ok (l : List Fo) (p : Int) : ∀ (m i n : Nat), l.length = i + m → formE (l.drop i) p n = 0 → (∀ (q : Nat) (hq : q < l.length), i ≤ q → fitsZ l[q].kind l[q].val p = 0) ∧ n + (rank l l.length - rank l i) ≤ 6
  | 0, i, n, h, he => by
    rw [formE_end l i (by omega)] at he
    refine ⟨fun q hq hi => by omega, ?_⟩
    rw [h, Nat.add_zero, Nat.sub_self]
    by_cases h6 : 6 < n
    · rw [if_pos h6] at he; exact absurd he (by decide)
    · omega
  | m + 1, i, n, h, he => by
    rw [formE_at l i (by omega)] at he
    by_cases h1 : fitsZ l[i].kind l[i].val p ≠ 0
    · rw [if_pos h1] at he; exact absurd he h1
    rw [if_neg h1] at he
    obtain ⟨g1, g2⟩ := formE_ok l p m (i + 1) _ (by omega) he
    have hr := rank_succ l i (by omega)
    have hm := rank_mono l m (i + 1)
    rw [show i + 1 + m = l.length by omega] at hm
    refine ⟨fun q hq hi => ?_, ?_⟩
    · by_cases hqi : q = i
      · subst hqi; simpa using h1
      · exact g1 q hq (by omega)
    · by_cases hc : aheadP l[i].kind
      · rw [if_pos hc] at g2 hr; omega
      · rw [if_neg hc] at g2 hr; omega
theorem formF_ok {l : List Fo} {p : Int} (h : formF l p = 0) : 0 ≤ p ∧ p ≤ 6 ∧ (endsOf l).2 = 0 ∧ (∀ (q : Nat) (hq : q < l.length), fitsZ l[q].kind l[q].val p = 0) ∧ rank l l.length ≤ 6 := by
  unfold formF at h
  by_cases h1 : p < 0 ∨ 6 < p
  · rw [if_pos h1] at h; exact absurd h (by decide)
  rw [if_neg h1] at h
  by_cases h2 : (endsOf l).2 ≠ 0
  · rw [if_pos h2] at h; exact absurd h h2
  rw [if_neg h2] at h
  obtain ⟨g1, g2⟩ := formE_ok l p l.length 0 0 (by omega) (by simpa using h)
  refine ⟨by omega, by omega, by simpa using h2, fun q hq => g1 q hq (Nat.zero_le _), ?_⟩
  simp only [rank] at g2
  omega
theorem all_well {l : List Fo} (h : (endsOf l).2 = 0) : ∀ (i : Nat) (_ : i < l.length), (endOf l i).2 = 0 := by
  obtain ⟨_, _, hend, _, _⟩ := endsOf_ok (l := l) (es := (endsOf l).1) (Prod.ext rfl h)
  intro i hi
  exact (scan_nest l l.length 0 1 l.length (by omega) (by omega) (by unfold endOf at hend; exact hend) i (by omega) (by omega)).1
theorem well_kind {l : List Fo} {i : Nat} (hi : i < l.length) (h : (endOf l i).2 = 0) : (partsOf l[i].kind).2 = 0 := by
  have he := endOf_at l i hi
  by_cases h1 : (partsOf l[i].kind).2 ≠ 0
  · rw [if_pos h1] at he; rw [he] at h; exact absurd h h1
  · simpa using h1
theorem first_in {l : List Fo} {i : Nat} (hi : i < l.length) (h : (endOf l i).2 = 0) (hp : 1 ≤ (partsOf l[i].kind).1) : i + 1 < l.length ∧ (endOf l (i + 1 : Nat)).2 = 0 ∧ i + 1 < second l i ∧ (endOf l (i + 1 : Nat)).1 = (second l i : Nat) ∧ second l i ≤ l.length := by
  obtain ⟨q1, q2, q3, q4⟩ := (Within.start hi h).next (by omega)
  have hb := endOf_bound l i h
  have hb1 := endOf_bound l (i + 1) q1
  unfold second
  refine ⟨by omega, q1, by omega, by omega, by omega⟩
theorem second_in {l : List Fo} {i : Nat} (hi : i < l.length) (h : (endOf l i).2 = 0) (hp : (partsOf l[i].kind).1 = 2) : second l i < l.length ∧ (endOf l (second l i : Nat)).2 = 0 := by
  obtain ⟨q1, q2, q3, q4⟩ := (Within.start hi h).next (by omega)
  obtain ⟨r1, r2, r3, r4⟩ := q4.next (by omega)
  have hb := endOf_bound l i h
  unfold second
  exact ⟨by omega, r1⟩
structure GoodF (l : List Fo) (p : Int) : Prop where
  h60 : l.length ≤ 60
  pos : 0 < l.length
  well : ∀ (i : Nat) (_ : i < l.length), (endOf l i).2 = 0
  kind : ∀ (i : Nat) (hi : i < l.length), 8 ≤ l[i].kind ∧ l[i].kind ≤ 18
  prop : ∀ (i : Nat) (hi : i < l.length), l[i].kind = 13 → 0 ≤ l[i].val ∧ l[i].val < p
  ah : rank l l.length ≤ 6
  ends : (endsOf l).2 = 0
theorem good_of {l : List Fo} {p : Int} (h : formF l p = 0) : GoodF l p := by
  obtain ⟨h1, h2, h3, h4, h5⟩ := formF_ok h
  obtain ⟨k1, k2, _, _, _⟩ := endsOf_ok (l := l) (es := (endsOf l).1) (Prod.ext rfl h3)
  have hw := all_well h3
  refine ⟨k1, k2, hw, fun i hi => ⟨(fitsZ_ok (h4 i hi)).1, ?_⟩, fun i hi => (fitsZ_ok (h4 i hi)).2, h5, h3⟩
  have hk := well_kind hi (hw i hi)
  by_cases h18 : 18 < l[i].kind
  · rw [partsOf_no _ (.inr h18)] at hk; exact absurd hk (by decide)
  · omega
structure TDone (l : List Fo) (x : List Bool) (c : Int) (i : Nat) (out : List Bool) : Prop where
  len : out.length = l.length
  done : ∀ j, i ≤ j → j < l.length → out[j]? = some (tAt l x c j)
  rest : ∀ j, j < i → j < l.length → out[j]? = some false
theorem TDone.get {l : List Fo} {x : List Bool} {c : Int} {i : Nat} {out : List Bool} (d : TDone l x c i out) {j : Nat} (h1 : i ≤ j) (h2 : j < l.length) (h3 : j < out.length) : out[j] = tAt l x c j := by
  have := d.done j h1 h2
  rw [List.getElem?_eq_getElem h3] at this
  exact Option.some.inj this
end Go.Sp
namespace Go.Sp
open Go Go.Av
set_option linter.unusedVariables false
set_option linter.unusedSimpArgs false

def limP (n : Int) : Prop := -1000000 ≤ n ∧ n ≤ 1000000
instance (n : Int) : Decidable (limP n) := by unfold limP; infer_instance
def ovr (n : Int) : Option Int := if limP n then some n else none
def opV (k v : Int) (env : List Int) (a b : Int) : Int :=
  if k = 1 then v else if k = 2 then (env[v.toNat]?).getD 0 else if k = 3 then a + b else if k = 4 then a - b else if k = 5 then a * b
  else if k = 6 then (if a = b then 1 else 0) else if k = 7 then (if a < b then 1 else 0) else if k = 8 then (if a = 1 ∧ b = 1 then 1 else 0)
  else if k = 9 then (if a = 1 ∨ b = 1 then 1 else 0) else if k = 10 then (if a = 0 then 1 else 0) else if k = 11 then 1 else 0
abbrev np (l : List Fo) (i : Nat) : Int := (partsOf (kindAt l i)).1
def stepE (l : List Fo) (env : List Int) (i : Nat) (a b : Option Int) : Option Int :=
  (if 1 ≤ np l i then a else some 0).bind fun x => (if 2 ≤ np l i then b else some 0).bind fun y => ovr (opV (kindAt l i) (valAt l i) env x y)
def evm (l : List Fo) (env : List Int) : Nat → Nat → Option Int
  | 0, _ => none
  | m + 1, i => if i < l.length then stepE l env i (evm l env m (i + 1)) (if i < second l i then evm l env m (second l i) else none) else none
def evAt (l : List Fo) (env : List Int) (i : Nat) : Option Int := evm l env (l.length - i) i
theorem evm_enough (l : List Fo) (env : List Int) : ∀ (m i : Nat), l.length ≤ i + m → evm l env m i = evAt l env i := by
  intro m
  induction m using Nat.strongRecOn with
  | _ m ih =>
  intro i h
  unfold evAt
  by_cases hi : i < l.length
  · obtain ⟨m', rfl⟩ : ∃ m', m = m' + 1 := ⟨m - 1, by omega⟩
    obtain ⟨k, hk⟩ : ∃ k, l.length - i = k + 1 := ⟨l.length - i - 1, by omega⟩
    rw [hk]
    have e : ∀ j, i < j → evm l env m' j = evm l env k j := fun j hj => by
      rw [ih m' (by omega) j (by omega)]
      by_cases hkm : k < m' + 1
      · rw [ih k hkm j (by omega)]
      · omega
    simp only [evm, if_pos hi]
    rw [e (i + 1) (by omega)]
    by_cases h2 : i < second l i
    · rw [if_pos h2, if_pos h2, e _ h2]
    · rw [if_neg h2, if_neg h2]
  · rw [show l.length - i = 0 by omega]
    cases m with
    | zero => rfl
    | succ m => simp only [evm, if_neg hi]
theorem evAt_eq (l : List Fo) (env : List Int) (i : Nat) (hi : i < l.length) : evAt l env i = stepE l env i (evAt l env (i + 1)) (if i < second l i then evAt l env (second l i) else none) := by
  rw [← evm_enough l env (l.length - (i + 1)) (i + 1) (by omega)]
  conv => lhs; rw [evAt, show l.length - i = (l.length - (i + 1)) + 1 by omega, evm, if_pos hi]
  by_cases h2 : i < second l i
  · rw [if_pos h2, if_pos h2, evm_enough l env _ (second l i) (by omega)]
  · rw [if_neg h2, if_neg h2]
structure GoodE (l : List Fo) (vars : Int) : Prop where
  h60 : l.length ≤ 60
  pos : 0 < l.length
  well : ∀ (i : Nat) (_ : i < l.length), (endOf l i).2 = 0
  op : ∀ (i : Nat) (hi : i < l.length), opZ l[i].kind l[i].val vars = 0
  typed : typedP l
  ends : (endsOf l).2 = 0
theorem opsE_ok (l : List Fo) (vars : Int) : ∀ (m i : Nat), l.length = i + m → opsE (l.drop i) vars = 0 → ∀ (q : Nat) (hq : q < l.length), i ≤ q → opZ l[q].kind l[q].val vars = 0
  | 0, i, h, _, q, hq, hi => by omega
  | m + 1, i, h, he, q, hq, hi => by
    rw [opsE_at l i (by omega)] at he
    by_cases c : opZ l[i].kind l[i].val vars ≠ 0
    · rw [if_pos c] at he; exact absurd he c
    · rw [if_neg c] at he
      by_cases e : q = i
      · subst e; exact Decidable.not_not.1 c
      · exact opsE_ok l vars m (i + 1) (by omega) he q hq (by omega)
theorem goodE_of {l : List Fo} {vars : Int} (h : (exprC l vars).2 = 0) : GoodE l vars ∧ 0 ≤ vars ∧ vars ≤ 6 := by
  unfold exprC at h
  by_cases h1 : vars < 0 ∨ 6 < vars
  · rw [if_pos h1] at h; exact absurd h (by decide)
  rw [if_neg h1] at h
  by_cases h2 : (endsOf l).2 ≠ 0
  · rw [if_pos h2] at h; exact absurd h h2
  rw [if_neg h2] at h
  by_cases h3 : opsE l vars ≠ 0
  · rw [if_pos h3] at h; exact absurd h h3
  rw [if_neg h3] at h
  by_cases h4 : typedP l
  · obtain ⟨k1, k2, k3, k4, k5⟩ := endsOf_ok (l := l) (es := (endsOf l).1) (Prod.ext rfl (Decidable.not_not.1 h2))
    exact ⟨⟨k1, k2, all_well (Decidable.not_not.1 h2), fun i hi => opsE_ok l vars l.length 0 (by omega) (Decidable.not_not.1 h3) i hi (Nat.zero_le _), h4, Decidable.not_not.1 h2⟩, by omega, by omega⟩
  · rw [if_neg h4] at h; exact absurd h (by decide)
theorem GoodE.kind {l : List Fo} {vars : Int} (g : GoodE l vars) {i : Nat} (hi : i < l.length) : 1 ≤ l[i].kind ∧ l[i].kind ≤ 12 ∧ (l[i].kind = 1 → -1000 ≤ l[i].val ∧ l[i].val ≤ 1000) ∧ (l[i].kind = 2 → 0 ≤ l[i].val ∧ l[i].val < vars) := by
  have h := g.op i hi
  unfold opZ at h
  by_cases c : ¬ okP l[i].kind
  · rw [if_pos c] at h; exact absurd h (by decide)
  rw [if_neg c] at h
  by_cases c2 : (l[i].kind = 1 ∧ (l[i].val < -1000 ∨ 1000 < l[i].val)) ∨ (l[i].kind = 2 ∧ (l[i].val < 0 ∨ vars ≤ l[i].val)) ∨ (2 < l[i].kind ∧ l[i].val ≠ 0)
  · rw [if_pos c2] at h; exact absurd h (by decide)
  omega
theorem GoodE.parts {l : List Fo} {vars : Int} (g : GoodE l vars) {i : Nat} (hi : i < l.length) :
    (np l i = 0 ∧ (endOf l i).1 = (i : Int) + 1) ∨
    (np l i = 1 ∧ i + 1 < l.length ∧ (endOf l i).1 = (endOf l (i + 1 : Nat)).1) ∨
    (np l i = 2 ∧ i + 1 < l.length ∧ i + 1 < second l i ∧ second l i < l.length ∧ (endOf l (i + 1 : Nat)).1 = (second l i : Nat) ∧ (endOf l i).1 = (endOf l (second l i : Nat)).1) := by
  have hk := kindAt_eq l i hi
  have he := endOf_at l i hi
  have hw := g.well i hi
  have wk := well_kind hi hw
  rw [if_neg (fun h => h wk)] at he
  have hb := partsOf_le l[i].kind
  unfold np
  rw [hk]
  generalize hn : (partsOf l[i].kind).1 = n at he hb ⊢
  by_cases h0 : n = 0
  · subst h0
    rw [if_pos (by decide)] at he
    exact .inl ⟨rfl, by rw [he]⟩
  rw [if_neg (by omega)] at he
  obtain ⟨q1, q2, q3, q4, q5⟩ := first_in hi hw (by omega)
  by_cases h1 : n = 1
  · subst h1
    refine .inr (.inl ⟨rfl, q1, ?_⟩)
    rw [he]; unfold endOf; rw [Int.toNat_natCast]; rfl
  · have h2 : n = 2 := by omega
    subst h2
    obtain ⟨r1, r2⟩ := second_in hi hw hn
    refine .inr (.inr ⟨rfl, q1, q3, r1, q4, ?_⟩)
    have e := scan_next l (i + 1) 1 (by decide)
    rw [if_neg (fun h => h q2), q4] at e
    rw [he, show (1 : Int) + 2 - 1 = 1 + 1 by decide, show ((i : Int) + 1) = ((i + 1 : Nat) : Int) by omega, e]
    unfold endOf; rw [Int.toNat_natCast]
inductive Stk (l : List Fo) (f : Nat → Int) : Nat → List Int → Prop where
  | nil {i : Nat} (h : l.length ≤ i) : Stk l f i []
  | cons {i : Nat} {S : List Int} (hi : i < l.length) (h : Stk l f (endOf l i).1.toNat S) : Stk l f i (S ++ [f i])
theorem Stk.inv {l : List Fo} {f : Nat → Int} {i : Nat} {S : List Int} (h : Stk l f i S) (hi : i < l.length) : ∃ S', S = S' ++ [f i] ∧ Stk l f (endOf l i).1.toNat S' := by
  cases h with
  | nil h => omega
  | cons _ h => exact ⟨_, rfl, h⟩
theorem Stk.fin {l : List Fo} {f : Nat → Int} {i : Nat} {S : List Int} (h : Stk l f i S) (hi : l.length ≤ i) : S = [] := by
  cases h with
  | nil h => rfl
  | cons h' _ => omega
theorem ev_bit {l : List Fo} {env : List Int} {i : Nat} (hi : i < l.length) (hk : makesP (kindAt l i)) {v : Int} (h : evAt l env i = some v) : v = 0 ∨ v = 1 := by
  rw [evAt_eq l env i hi, stepE] at h
  obtain ⟨a, _, h⟩ := Option.bind_eq_some_iff.1 h
  obtain ⟨b, _, h⟩ := Option.bind_eq_some_iff.1 h
  unfold ovr at h
  split at h
  · cases h
    unfold opV
    rw [if_neg (by omega), if_neg (by omega), if_neg (by omega), if_neg (by omega), if_neg (by omega)]
    split
    · split <;> simp
    split
    · split <;> simp
    split
    · split <;> simp
    split
    · split <;> simp
    split
    · split <;> simp
    split <;> simp
  · cases h
theorem ev_lim {l : List Fo} {env : List Int} {i : Nat} (hi : i < l.length) {v : Int} (h : evAt l env i = some v) : limP v := by
  rw [evAt_eq l env i hi, stepE] at h
  obtain ⟨a, _, h⟩ := Option.bind_eq_some_iff.1 h
  obtain ⟨b, _, h⟩ := Option.bind_eq_some_iff.1 h
  unfold ovr at h
  split at h
  · cases h; assumption
  · cases h
theorem valAt_part {l : List Fo} {i : Nat} (p m : Nat) (hp : p < m) : valAt ((l.drop i).take m) p = valAt l (i + p) := by
  unfold valAt
  rw [List.getElem?_take_of_lt hp, List.getElem?_drop]
theorem ev_part {l : List Fo} {env : List Int} {vars : Int} (g : GoodE l vars) {i : Nat} (hi : i < l.length) : ∀ (m k : Nat), (endOf l i).1 ≤ ((i + k + m : Nat) : Int) → ((i + k : Nat) : Int) < (endOf l i).1 → evAt ((l.drop i).take ((endOf l i).1.toNat - i)) env k = evAt l env (i + k) := by
  have hw := g.well i hi
  have hb := endOf_bound l i hw
  have hlen := part_length hw
  intro m
  induction m using Nat.strongRecOn with
  | _ m ih =>
  intro k h1 h2
  have hkl : k < ((l.drop i).take ((endOf l i).1.toNat - i)).length := by omega
  have hik : i + k < l.length := by omega
  rw [evAt_eq _ env k hkl, evAt_eq l env (i + k) hik]
  have hnest := scan_nest l l.length i 1 (endOf l i).1 (by omega) (by decide) (by rw [← Int.toNat_natCast i]; exact (Prod.ext rfl hw : endOf l i = ((endOf l i).1, 0)) ▸ rfl) (i + k) (by omega) (by omega)
  have e1 := kindAt_part (l := l) (i := i) k ((endOf l i).1.toNat - i) (by omega)
  have e2 := valAt_part (l := l) (i := i) k ((endOf l i).1.toNat - i) (by omega)
  unfold stepE np
  rw [e1, e2]
  rcases g.parts hik with ⟨n0, _⟩ | ⟨n1, p1, p2⟩ | ⟨n2, p1, p2, p3, p4, p5⟩
  · rw [show (partsOf (kindAt l (i + k))).1 = 0 from n0]; rfl
  · rw [show (partsOf (kindAt l (i + k))).1 = 1 from n1]
    have hb1 := endOf_bound l (i + k + 1) (g.well _ p1)
    have := ih (m - 1) (by omega) (k + 1) (by omega) (by omega)
    rw [show i + (k + 1) = i + k + 1 by omega] at this
    rw [this]; rfl
  · rw [show (partsOf (kindAt l (i + k))).1 = 2 from n2]
    have hb1 := endOf_bound l (i + k + 1) (g.well _ p1)
    have hb2 := endOf_bound l (second l (i + k)) (g.well _ p3)
    have t1 := ih (m - 1) (by omega) (k + 1) (by omega) (by omega)
    rw [show i + (k + 1) = i + k + 1 by omega] at t1
    have hpa := part_at hw (k + 1) (by omega)
    rw [show i + (k + 1) = i + k + 1 by omega, p4] at hpa
    have hs : second ((l.drop i).take ((endOf l i).1.toNat - i)) k = second l (i + k) - i := by
      unfold second at hpa ⊢
      rw [hpa]; dsimp only; omega
    have t2 := ih (m - (second l (i + k) - (i + k))) (by omega) (second l (i + k) - i) (by omega) (by omega)
    rw [show i + (second l (i + k) - i) = second l (i + k) by omega] at t2
    rw [t1, hs, t2, if_pos (show k < second l (i + k) - i by omega), if_pos (show i + k < second l (i + k) by omega)]
def wk (l : List Fo) (env : List Int) : Int × Int := match evAt l env 0 with | some n => (n, 0) | none => (0, 8)
def evalF (l : List Fo) (env : List Int) : Int × Int :=
  if (exprC l env.length).2 ≠ 0 then (0, (exprC l env.length).2) else if ∀ v ∈ env, limP v then wk l env else (0, 2)
end Go.Sp
namespace Go.Proofs.YtcikppldaepodaaGreatDoor
open Go Go.Av Go.Sp
set_option linter.unusedVariables false
set_option linter.unusedSimpArgs false
set_option maxRecDepth 100000
set_option maxHeartbeats 4000000
theorem cal_pop : Cal Tryz.prog 157 := Cal.of Tryz.func157 (by kernel_rfl) (by kernel_rfl)
theorem cal_flag : Cal Tryz.prog 211 := Cal.of Tryz.func211 (by kernel_rfl) (by kernel_rfl)
theorem mul_lim {x y : Int} (hx : limP x) (hy : limP y) : inI64 (x * y) := by
  have h : (x * y).natAbs ≤ 1000000 * 1000000 := by
    rw [Int.natAbs_mul]
    unfold limP at hx hy
    exact Nat.mul_le_mul (by omega) (by omega)
  generalize x * y = z at h
  unfold inI64; omega
theorem pop0 (G : List (Nat × List D)) (bm : Nat) (env xs : List Int) (n : Nat) (q : Sl) (hl : xs.length = n + 1) (hS : n ≤ 1000) : AC Tryz.prog G 157 [.val (.pointer (some ⟨bm, 0, none⟩))] [.cells bm 210 [.val q.v, .d (intsD env)], rowE q.v 3 1 intC xs] fun r h => ∃ v : Sl, r = .ret (.int (xs[n]'(by omega))) ∧ h = [.cells bm 210 [.val v.v, .d (intsD env)], rowE v.v 3 1 intC (xs.take n)] := by
  refine AC_ofV (ts := [2]) Tryz.f157.ntmps Tryz.func157 rfl rfl rfl (by simp [Tryz.ntmps157]) fun W I => ?_
  have hn : ((xs.length : Int) - 1).toNat = n := by omega
  all_goals haveI fA_ : FlagA := ⟨⟩
  all_goals haveI fH_ : FlagH := ⟨⟩
  repeat' (first
    | exact True.intro
    | refine stp ?_
    | refine two ?_ ?_
    | refine allc fun c_ => ?_
    | (refine imp fun hc => ?_) <;> try (first | contradiction | (exfalso; omega) | (exfalso; exact absurd (of_dT hc) (by assumption)) | (exfalso; exact of_dF hc (by assumption)))
    | refine all fun v_ => ?_)
  all_goals clear fA_ fH_
  refine retv (VS.cut (q := q) (f := intC) (xs := xs) (E := 3) (sz := 1) (n := ((xs.length : Int) - 1).toNat) (h' := [.cells bm 210 [.val (q.cut ((xs.length : Int) - 1).toNat).v, .d (intsD env)], rowE (q.cut ((xs.length : Int) - 1).toNat).v 3 1 intC (xs.take ((xs.length : Int) - 1).toNat)]) (by ((repeat (first | with_reducible exact Upd.here | with_reducible apply Upd.there)); done)) (fun _ => rfl) (by omega)) ?_
  ((with_reducible apply rq1); rfl; rfl)
  refine ⟨q.cut ((xs.length : Int) - 1).toNat, ?_, by rw [hn]⟩
  simp only [hn]
  rfl
theorem pop (G : List (Nat × List D)) (bm : Nat) (env S : List Int) (a : Int) (q : Sl) (hS : S.length ≤ 1000) : AC Tryz.prog G 157 [.val (.pointer (some ⟨bm, 0, none⟩))] [.cells bm 210 [.val q.v, .d (intsD env)], rowE q.v 3 1 intC (S ++ [a])] fun r h => ∃ v : Sl, r = .ret (.int a) ∧ h = [.cells bm 210 [.val v.v, .d (intsD env)], rowE v.v 3 1 intC S] := by
  have := pop0 G bm env (S ++ [a]) S.length q (by simp) hS
  simp only [List.getElem_append_right (Nat.le_refl _), Nat.sub_self, List.getElem_cons_zero, List.take_left] at this
  exact this
theorem flag (G : List (Nat × List D)) (b : Bool) : ACr Tryz.prog G 211 [.bool b] (.int (if b = true then 1 else 0)) := by
  refine AC_ofV (ts := [2]) Tryz.f211.ntmps Tryz.func211 rfl rfl rfl (by simp [Tryz.ntmps211]) fun W I => ?_
  cases b
  all_goals
    all_goals haveI fA_ : FlagA := ⟨⟩
    all_goals haveI fH_ : FlagH := ⟨⟩
    repeat' (first
      | exact True.intro
      | refine stp ?_
      | refine two ?_ ?_
      | refine allc fun c_ => ?_
      | (refine imp fun hc => ?_) <;> try (first | contradiction | (exfalso; omega) | (exfalso; exact absurd (of_dT hc) (by assumption)) | (exfalso; exact of_dF hc (by assumption)))
      | refine all fun v_ => ?_)
    all_goals clear fA_ fH_
    refine retv0 ?_
    ((with_reducible apply rq1); rfl; rfl)
    exact ret_eq rfl
theorem cal_do1 : Cal Tryz.prog 207 := Cal.of Tryz.func207 (by kernel_rfl) (by kernel_rfl)
theorem clo1 (G : List (Nat × List D)) (ba bb : Nat) (x y : Int) (hx : limP x) (hy : limP y) : AC Tryz.prog G 207 [.val (.pointer (some ⟨ba, 0, none⟩)), .val (.pointer (some ⟨bb, 0, none⟩))] [.cells ba 3 [.int x], .cells bb 3 [.int y]] fun r h => ∃ v : Unit, r = .ret (.int (x + y)) ∧ h = [.cells ba 3 [.int x], .cells bb 3 [.int y]] := by
  have hm := mul_lim hx hy
  unfold limP at hx hy
  refine AC_ofV (ts := [2]) Tryz.f207.ntmps Tryz.func207 rfl rfl rfl (by simp [Tryz.ntmps207]) fun W I => ?_
  all_goals haveI fA_ : FlagA := ⟨⟩
  all_goals haveI fH_ : FlagH := ⟨⟩
  repeat' (first
    | ((with_reducible apply call0); (focus rfl); (focus exact cal_flag); (focus exact flag _ _); (focus rfl))
    | ((with_reducible apply je_call0); (focus rfl); (focus (decide +kernel)); (focus rfl); (focus exact cal_flag); (focus exact flag _ _); (focus rfl))
    | exact True.intro
    | refine stp ?_
    | refine two ?_ ?_
    | refine allc fun c_ => ?_
    | (refine imp fun hc => ?_) <;> try (first | contradiction | (exfalso; omega) | (exfalso; exact absurd (of_dT hc) (by assumption)) | (exfalso; exact of_dF hc (by assumption)))
    | refine all fun v_ => ?_)
  all_goals clear fA_ fH_
  refine retv0 ?_
  ((with_reducible apply rq1); rfl; rfl)
  exact ⟨(), rfl, rfl⟩
theorem cal_do2 : Cal Tryz.prog 208 := Cal.of Tryz.func208 (by kernel_rfl) (by kernel_rfl)
theorem clo2 (G : List (Nat × List D)) (ba bb : Nat) (x y : Int) (hx : limP x) (hy : limP y) : AC Tryz.prog G 208 [.val (.pointer (some ⟨ba, 0, none⟩)), .val (.pointer (some ⟨bb, 0, none⟩))] [.cells ba 3 [.int x], .cells bb 3 [.int y]] fun r h => ∃ v : Unit, r = .ret (.int (x - y)) ∧ h = [.cells ba 3 [.int x], .cells bb 3 [.int y]] := by
  have hm := mul_lim hx hy
  unfold limP at hx hy
  refine AC_ofV (ts := [2]) Tryz.f208.ntmps Tryz.func208 rfl rfl rfl (by simp [Tryz.ntmps208]) fun W I => ?_
  all_goals haveI fA_ : FlagA := ⟨⟩
  all_goals haveI fH_ : FlagH := ⟨⟩
  repeat' (first
    | ((with_reducible apply call0); (focus rfl); (focus exact cal_flag); (focus exact flag _ _); (focus rfl))
    | ((with_reducible apply je_call0); (focus rfl); (focus (decide +kernel)); (focus rfl); (focus exact cal_flag); (focus exact flag _ _); (focus rfl))
    | exact True.intro
    | refine stp ?_
    | refine two ?_ ?_
    | refine allc fun c_ => ?_
    | (refine imp fun hc => ?_) <;> try (first | contradiction | (exfalso; omega) | (exfalso; exact absurd (of_dT hc) (by assumption)) | (exfalso; exact of_dF hc (by assumption)))
    | refine all fun v_ => ?_)
  all_goals clear fA_ fH_
  refine retv0 ?_
  ((with_reducible apply rq1); rfl; rfl)
  exact ⟨(), rfl, rfl⟩
theorem cal_do3 : Cal Tryz.prog 209 := Cal.of Tryz.func209 (by kernel_rfl) (by kernel_rfl)
theorem clo3 (G : List (Nat × List D)) (ba bb : Nat) (x y : Int) (hx : limP x) (hy : limP y) : AC Tryz.prog G 209 [.val (.pointer (some ⟨ba, 0, none⟩)), .val (.pointer (some ⟨bb, 0, none⟩))] [.cells ba 3 [.int x], .cells bb 3 [.int y]] fun r h => ∃ v : Unit, r = .ret (.int (x * y)) ∧ h = [.cells ba 3 [.int x], .cells bb 3 [.int y]] := by
  have hm := mul_lim hx hy
  unfold limP at hx hy
  refine AC_ofV (ts := [2]) Tryz.f209.ntmps Tryz.func209 rfl rfl rfl (by simp [Tryz.ntmps209]) fun W I => ?_
  all_goals haveI fA_ : FlagA := ⟨⟩
  all_goals haveI fH_ : FlagH := ⟨⟩
  repeat' (first
    | ((with_reducible apply call0); (focus rfl); (focus exact cal_flag); (focus exact flag _ _); (focus rfl))
    | ((with_reducible apply je_call0); (focus rfl); (focus (decide +kernel)); (focus rfl); (focus exact cal_flag); (focus exact flag _ _); (focus rfl))
    | exact True.intro
    | refine stp ?_
    | refine two ?_ ?_
    | refine allc fun c_ => ?_
    | (refine imp fun hc => ?_) <;> try (first | contradiction | (exfalso; omega) | (exfalso; exact absurd (of_dT hc) (by assumption)) | (exfalso; exact of_dF hc (by assumption)))
    | refine all fun v_ => ?_)
  all_goals clear fA_ fH_
  refine retv0 ?_
  ((with_reducible apply rq1); rfl; rfl)
  exact ⟨(), rfl, rfl⟩
theorem cal_do4 : Cal Tryz.prog 210 := Cal.of Tryz.func210 (by kernel_rfl) (by kernel_rfl)
theorem clo4 (G : List (Nat × List D)) (ba bb : Nat) (x y : Int) (hx : limP x) (hy : limP y) : AC Tryz.prog G 210 [.val (.pointer (some ⟨ba, 0, none⟩)), .val (.pointer (some ⟨bb, 0, none⟩))] [.cells ba 3 [.int x], .cells bb 3 [.int y]] fun r h => ∃ v : Unit, r = .ret (.int (if decide (x = y) = true then 1 else 0)) ∧ h = [.cells ba 3 [.int x], .cells bb 3 [.int y]] := by
  have hm := mul_lim hx hy
  unfold limP at hx hy
  refine AC_ofV (ts := [2]) Tryz.f210.ntmps Tryz.func210 rfl rfl rfl (by simp [Tryz.ntmps210]) fun W I => ?_
  all_goals haveI fA_ : FlagA := ⟨⟩
  all_goals haveI fH_ : FlagH := ⟨⟩
  repeat' (first
    | ((with_reducible apply call0); (focus rfl); (focus exact cal_flag); (focus exact flag _ _); (focus rfl))
    | ((with_reducible apply je_call0); (focus rfl); (focus (decide +kernel)); (focus rfl); (focus exact cal_flag); (focus exact flag _ _); (focus rfl))
    | exact True.intro
    | refine stp ?_
    | refine two ?_ ?_
    | refine allc fun c_ => ?_
    | (refine imp fun hc => ?_) <;> try (first | contradiction | (exfalso; omega) | (exfalso; exact absurd (of_dT hc) (by assumption)) | (exfalso; exact of_dF hc (by assumption)))
    | refine all fun v_ => ?_)
  all_goals clear fA_ fH_
  refine retv0 ?_
  ((with_reducible apply rq1); rfl; rfl)
  exact ⟨(), rfl, rfl⟩
theorem cal_do5 : Cal Tryz.prog 212 := Cal.of Tryz.func212 (by kernel_rfl) (by kernel_rfl)
theorem clo5 (G : List (Nat × List D)) (ba bb : Nat) (x y : Int) (hx : limP x) (hy : limP y) : AC Tryz.prog G 212 [.val (.pointer (some ⟨ba, 0, none⟩)), .val (.pointer (some ⟨bb, 0, none⟩))] [.cells ba 3 [.int x], .cells bb 3 [.int y]] fun r h => ∃ v : Unit, r = .ret (.int (if decide (x < y) = true then 1 else 0)) ∧ h = [.cells ba 3 [.int x], .cells bb 3 [.int y]] := by
  have hm := mul_lim hx hy
  unfold limP at hx hy
  refine AC_ofV (ts := [2]) Tryz.f212.ntmps Tryz.func212 rfl rfl rfl (by simp [Tryz.ntmps212]) fun W I => ?_
  all_goals haveI fA_ : FlagA := ⟨⟩
  all_goals haveI fH_ : FlagH := ⟨⟩
  repeat' (first
    | ((with_reducible apply call0); (focus rfl); (focus exact cal_flag); (focus exact flag _ _); (focus rfl))
    | ((with_reducible apply je_call0); (focus rfl); (focus (decide +kernel)); (focus rfl); (focus exact cal_flag); (focus exact flag _ _); (focus rfl))
    | exact True.intro
    | refine stp ?_
    | refine two ?_ ?_
    | refine allc fun c_ => ?_
    | (refine imp fun hc => ?_) <;> try (first | contradiction | (exfalso; omega) | (exfalso; exact absurd (of_dT hc) (by assumption)) | (exfalso; exact of_dF hc (by assumption)))
    | refine all fun v_ => ?_)
  all_goals clear fA_ fH_
  refine retv0 ?_
  ((with_reducible apply rq1); rfl; rfl)
  exact ⟨(), rfl, rfl⟩
theorem cal_do6 : Cal Tryz.prog 213 := Cal.of Tryz.func213 (by kernel_rfl) (by kernel_rfl)
theorem clo6 (G : List (Nat × List D)) (ba bb : Nat) (x y : Int) (hx : limP x) (hy : limP y) : AC Tryz.prog G 213 [.val (.pointer (some ⟨ba, 0, none⟩)), .val (.pointer (some ⟨bb, 0, none⟩))] [.cells ba 3 [.int x], .cells bb 3 [.int y]] fun r h => ∃ v : Unit, r = .ret (.int (bits .and .i64 x y)) ∧ h = [.cells ba 3 [.int x], .cells bb 3 [.int y]] := by
  have hm := mul_lim hx hy
  unfold limP at hx hy
  refine AC_ofV (ts := [2]) Tryz.f213.ntmps Tryz.func213 rfl rfl rfl (by simp [Tryz.ntmps213]) fun W I => ?_
  all_goals haveI fA_ : FlagA := ⟨⟩
  all_goals haveI fH_ : FlagH := ⟨⟩
  repeat' (first
    | ((with_reducible apply call0); (focus rfl); (focus exact cal_flag); (focus exact flag _ _); (focus rfl))
    | ((with_reducible apply je_call0); (focus rfl); (focus (decide +kernel)); (focus rfl); (focus exact cal_flag); (focus exact flag _ _); (focus rfl))
    | exact True.intro
    | refine stp ?_
    | refine two ?_ ?_
    | refine allc fun c_ => ?_
    | (refine imp fun hc => ?_) <;> try (first | contradiction | (exfalso; omega) | (exfalso; exact absurd (of_dT hc) (by assumption)) | (exfalso; exact of_dF hc (by assumption)))
    | refine all fun v_ => ?_)
  all_goals clear fA_ fH_
  refine retv0 ?_
  ((with_reducible apply rq1); rfl; rfl)
  exact ⟨(), rfl, rfl⟩
theorem cal_do7 : Cal Tryz.prog 214 := Cal.of Tryz.func214 (by kernel_rfl) (by kernel_rfl)
theorem clo7 (G : List (Nat × List D)) (ba bb : Nat) (x y : Int) (hx : limP x) (hy : limP y) : AC Tryz.prog G 214 [.val (.pointer (some ⟨ba, 0, none⟩)), .val (.pointer (some ⟨bb, 0, none⟩))] [.cells ba 3 [.int x], .cells bb 3 [.int y]] fun r h => ∃ v : Unit, r = .ret (.int (bits .or .i64 x y)) ∧ h = [.cells ba 3 [.int x], .cells bb 3 [.int y]] := by
  have hm := mul_lim hx hy
  unfold limP at hx hy
  refine AC_ofV (ts := [2]) Tryz.f214.ntmps Tryz.func214 rfl rfl rfl (by simp [Tryz.ntmps214]) fun W I => ?_
  all_goals haveI fA_ : FlagA := ⟨⟩
  all_goals haveI fH_ : FlagH := ⟨⟩
  repeat' (first
    | ((with_reducible apply call0); (focus rfl); (focus exact cal_flag); (focus exact flag _ _); (focus rfl))
    | ((with_reducible apply je_call0); (focus rfl); (focus (decide +kernel)); (focus rfl); (focus exact cal_flag); (focus exact flag _ _); (focus rfl))
    | exact True.intro
    | refine stp ?_
    | refine two ?_ ?_
    | refine allc fun c_ => ?_
    | (refine imp fun hc => ?_) <;> try (first | contradiction | (exfalso; omega) | (exfalso; exact absurd (of_dT hc) (by assumption)) | (exfalso; exact of_dF hc (by assumption)))
    | refine all fun v_ => ?_)
  all_goals clear fA_ fH_
  refine retv0 ?_
  ((with_reducible apply rq1); rfl; rfl)
  exact ⟨(), rfl, rfl⟩

end Go.Proofs.YtcikppldaepodaaGreatDoor
