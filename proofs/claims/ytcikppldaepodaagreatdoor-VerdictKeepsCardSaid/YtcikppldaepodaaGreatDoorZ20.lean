/- A bundle of this claim's own texts: N13 Cg W4 W5. -/
import Derived.Test.YtcikppldaepodaaGreatDoorZ2
import Derived.Test.YtcikppldaepodaaGreatDoorZ3
import Derived.Test.YtcikppldaepodaaGreatDoorZ4
import Derived.Test.YtcikppldaepodaaGreatDoorZ15
import Derived.Test.YtcikppldaepodaaGreatDoorZ19
namespace Go.Proofs.YtcikppldaepodaaGreatDoor
open Go Go.Av Go.Sp
set_option linter.unusedVariables false
set_option linter.unusedSimpArgs false
set_option maxRecDepth 100000
set_option maxHeartbeats 4000000
theorem cal_RunsOn : Cal Tryz.prog 18 := Cal.of Tryz.func18 (by kernel_rfl) (by kernel_rfl)
theorem RunsOn (G : List (Nat × List D)) (m : Md) (stem loop : List Int) (hb : stem.length + loop.length ≤ 1048576) : ACr Tryz.prog G 18 [mdA m, .agg [.d (intsD stem), .d (intsD loop)]] (.tup [.bool (runF m stem loop).1, .int (runF m stem loop).2]) := by
  have hC := StateCount G m
  have hF := FirstCode G m
  refine AC_ofV (ts := [4, 5]) Tryz.f18.ntmps Tryz.func18 rfl rfl rfl (by simp [Tryz.ntmps18]) fun W I => ?_
  unfold countF at hC
  by_cases h0 : modelF m ≠ 0
  · have hr : runF m stem loop = (false, modelF m) := by unfold runF; rw [if_pos h0]
    rw [hr]
    rw [if_pos h0] at hC
    dsimp only at hC ⊢
    generalize modelF m = e at hC h0 ⊢
    all_goals haveI fA_ : FlagA := ⟨⟩
    all_goals haveI fH_ : FlagH := ⟨⟩
    repeat' (first
      | ((with_reducible apply call0); (focus rfl); (focus exact cal_StateCount); (focus exact hC); (focus rfl))
      | ((with_reducible apply je_call0); (focus rfl); (focus (decide +kernel)); (focus rfl); (focus exact cal_StateCount); (focus exact hC); (focus rfl))
      | exact True.intro
      | refine stp ?_
      | refine two ?_ ?_
      | refine allc fun c_ => ?_
      | (refine imp fun hc => ?_) <;> try (first | contradiction | (exfalso; omega) | (exfalso; exact absurd (of_dT hc) (by assumption)) | (exfalso; exact of_dF hc (by assumption)))
      | refine all fun v_ => ?_)
    all_goals clear fA_ fH_
    refine retv (VS.drop (List.nil_sublist _)) ?_
    ((with_reducible apply rq2); rfl; rfl; rfl)
    exact ret_eq rfl
  rw [if_neg h0] at hC
  replace h0 := Decidable.not_not.1 h0
  obtain ⟨n, hn, n1, n2⟩ := states_nat h0
  obtain ⟨f1, f2, f3⟩ := first_ok h0
  have hF : ACr Tryz.prog G 55 [mdA m] (.tup [.int (firstF m), .int 0]) := by
    rw [f1] at hF; exact hF
  rw [hn] at hC
  dsimp only at hC
  have hno := runF_no (m := m) (stem := stem) (loop := loop) h0
  have hat := fun b => runF_at (m := m) (stem := stem) (loop := loop) (b := b) h0 hn
  generalize hfst : firstF m = fst at hF hno hat
  all_goals haveI fA_ : FlagA := ⟨⟩
  all_goals haveI fH_ : FlagH := ⟨⟩
  repeat' (first
    | ((with_reducible apply call0); (focus rfl); (focus exact cal_StateCount); (focus exact hC); (focus rfl))
    | ((with_reducible apply je_call0); (focus rfl); (focus (decide +kernel)); (focus rfl); (focus exact cal_StateCount); (focus exact hC); (focus rfl))
    | ((with_reducible apply call0); (focus rfl); (focus exact cal_FirstCode); (focus exact hF); (focus rfl))
    | ((with_reducible apply je_call0); (focus rfl); (focus (decide +kernel)); (focus rfl); (focus exact cal_FirstCode); (focus exact hF); (focus rfl))
    | exact True.intro
    | refine stp ?_
    | refine two ?_ ?_
    | refine allc fun c_ => ?_
    | (refine imp fun hc => ?_) <;> try (first | contradiction | (exfalso; omega) | (exfalso; exact absurd (of_dT hc) (by assumption)) | (exfalso; exact of_dF hc (by assumption)))
    | refine all fun v_ => ?_)
  all_goals clear fA_ fH_
  obtain ⟨bl, rfl⟩ : ∃ x, x = v_ := ⟨v_, rfl⟩
  obtain ⟨bm, rfl⟩ : ∃ x, x = v_ := ⟨v_, rfl⟩
  refine jrow (E := 3) (sz := 1) intC ?_
  refine J_loopV (X := Nat × Sl) (fun y => [(2, .val (.pointer (some ⟨bm, 0, none⟩))), (3, .val (.pointer (some ⟨bl, 0, none⟩))), (6, .int n), (8, .int fst), (10, .val y.2.v), (11, .int y.1)]) (fun y => [rowE y.2.v 3 1 intC (stem.take y.1), .cells bl 32 [.d (intsD stem), .d (intsD loop)], .cells bm 25 [.d (varsD m.vars), .d (rulesD m.rules)]]) (fun y => y.1 ≤ stem.length) (fun y => stem.length - y.1) (0, Sl.nil) (Nat.zero_le _) (VS.take (by ((repeat (first | exact Take.nil | ((with_reducible apply Take.cons); (focus ((repeat (first | exact Sel.here | with_reducible apply Sel.there)); done))))); done)) ?_) ?_
  · repeat (first
      | exact Env.le_nil _
      | refine Env.le_cons (AV.le_refl _) ?_
      | refine Env.le_cons (AV.le_int rfl (by first | rfl | omega | (dsimp only; omega))) ?_)
  rintro ⟨i, q⟩ hi
  dsimp only at hi ⊢
  have hlen : (stem.take i).length = i := by rw [List.length_take]; omega
  by_cases hil : i < stem.length
  · have et := List.take_succ_eq_append_getElem hil
    all_goals haveI fA_ : FlagA := ⟨⟩
    all_goals haveI fH_ : FlagH := ⟨⟩
    repeat' (first
      | exact True.intro
      | refine stp ?_
      | refine two ?_ ?_
      | refine allc fun c_ => ?_
      | (refine imp fun hc => ?_) <;> try (first | contradiction | (exfalso; omega) | (exfalso; exact absurd (of_dT hc) (by assumption)) | (exfalso; exact of_dF hc (by assumption)))
      | refine all fun v_ => ?_)
    all_goals clear fA_ fH_
    refine ⟨(i + 1, v_), by dsimp only; omega, by dsimp only; omega, VS.take (by dsimp only; rw [et]; ((repeat (first | exact Take.nil | ((with_reducible apply Take.cons); (focus ((repeat (first | exact Sel.here | with_reducible apply Sel.there)); done))))); done)) ?_⟩
    repeat (first
      | exact Env.le_nil _
      | refine Env.le_cons (AV.le_refl _) ?_
      | refine Env.le_cons (AV.le_int rfl (by first | rfl | omega | (dsimp only; omega))) ?_)
  obtain rfl : i = stem.length := by omega
  rw [List.take_length]
  clear hil hlen hi
  all_goals haveI fA_ : FlagA := ⟨⟩
  all_goals haveI fH_ : FlagH := ⟨⟩
  repeat' (first
    | exact True.intro
    | refine stp ?_
    | refine two ?_ ?_
    | refine allc fun c_ => ?_
    | (refine imp fun hc => ?_) <;> try (first | contradiction | (exfalso; omega) | (exfalso; exact absurd (of_dT hc) (by assumption)) | (exfalso; exact of_dF hc (by assumption)))
    | refine all fun v_ => ?_)
  all_goals clear fA_ fH_
  have e0 : stem = stem ++ loop.take 0 := by simp
  refine J_loopV (X := Nat × Sl) (fun y => [(2, .val (.pointer (some ⟨bm, 0, none⟩))), (3, .val (.pointer (some ⟨bl, 0, none⟩))), (6, .int n), (8, .int fst), (10, .val y.2.v), (12, .int y.1)]) (fun y => [rowE y.2.v 3 1 intC (stem ++ loop.take y.1), .cells bl 32 [.d (intsD stem), .d (intsD loop)], .cells bm 25 [.d (varsD m.vars), .d (rulesD m.rules)]]) (fun y => y.1 ≤ loop.length) (fun y => loop.length - y.1) (0, q) (Nat.zero_le _) (VS.take (by dsimp only; rw [← e0]; ((repeat (first | exact Take.nil | ((with_reducible apply Take.cons); (focus ((repeat (first | exact Sel.here | with_reducible apply Sel.there)); done))))); done)) ?_) ?_
  · repeat (first
      | exact Env.le_nil _
      | refine Env.le_cons (AV.le_refl _) ?_
      | refine Env.le_cons (AV.le_int rfl (by first | rfl | omega | (dsimp only; omega))) ?_)
  clear e0
  rintro ⟨i, q⟩ hi
  dsimp only at hi ⊢
  have hlen : (stem ++ loop.take i).length = stem.length + i := by rw [List.length_append, List.length_take]; omega
  by_cases hil : i < loop.length
  · have et : stem ++ loop.take (i + 1) = (stem ++ loop.take i) ++ [loop[i]] := by rw [List.take_succ_eq_append_getElem hil, List.append_assoc]
    all_goals haveI fA_ : FlagA := ⟨⟩
    all_goals haveI fH_ : FlagH := ⟨⟩
    repeat' (first
      | exact True.intro
      | refine stp ?_
      | refine two ?_ ?_
      | refine allc fun c_ => ?_
      | (refine imp fun hc => ?_) <;> try (first | contradiction | (exfalso; omega) | (exfalso; exact absurd (of_dT hc) (by assumption)) | (exfalso; exact of_dF hc (by assumption)))
      | refine all fun v_ => ?_)
    all_goals clear fA_ fH_
    refine ⟨(i + 1, v_), by dsimp only; omega, by dsimp only; omega, VS.take (by dsimp only; rw [et]; ((repeat (first | exact Take.nil | ((with_reducible apply Take.cons); (focus ((repeat (first | exact Sel.here | with_reducible apply Sel.there)); done))))); done)) ?_⟩
    repeat (first
      | exact Env.le_nil _
      | refine Env.le_cons (AV.le_refl _) ?_
      | refine Env.le_cons (AV.le_int rfl (by first | rfl | omega | (dsimp only; omega))) ?_)
  obtain rfl : i = loop.length := by omega
  rw [List.take_length] at hlen ⊢
  clear hil hi
  cases loop with
  | nil =>
    rw [hno (.inl rfl)]
    all_goals haveI fA_ : FlagA := ⟨⟩
    all_goals haveI fH_ : FlagH := ⟨⟩
    repeat' (first
      | exact True.intro
      | refine stp ?_
      | refine two ?_ ?_
      | refine allc fun c_ => ?_
      | (refine imp fun hc => ?_) <;> try (first | contradiction | (exfalso; omega) | (exfalso; exact absurd (of_dT hc) (by assumption)) | (exfalso; exact of_dF hc (by assumption)))
      | refine all fun v_ => ?_)
    all_goals clear fA_ fH_
    all_goals
      refine retv (VS.drop (List.nil_sublist _)) ?_
      ((with_reducible apply rq2); rfl; rfl; rfl)
      exact ret_eq rfl
  | cons b lr =>
    have hlb : (b :: lr).length = lr.length + 1 := rfl
    have hrl : roundL stem (b :: lr) = stem ++ (b :: lr) ++ [b] := rfl
    have hne : stem ++ (b :: lr) ≠ [] := by simp
    rw [hrl] at hat
    generalize hall : stem ++ (b :: lr) = alls at hno hat hne hlen ⊢
    cases alls with
    | nil => exact absurd rfl hne
    | cons a ar =>
      by_cases ha : a ≠ fst
      · rw [hno (.inr (by simpa using ha))]
        all_goals haveI fA_ : FlagA := ⟨⟩
        all_goals haveI fH_ : FlagH := ⟨⟩
        repeat' (first
          | exact True.intro
          | refine stp ?_
          | refine two ?_ ?_
          | refine allc fun c_ => ?_
          | (refine imp fun hc => ?_) <;> try (first | contradiction | (exfalso; omega) | (exfalso; exact absurd (of_dT hc) (by assumption)) | (exfalso; exact of_dF hc (by assumption)))
          | refine all fun v_ => ?_)
        all_goals clear fA_ fH_
        all_goals
          refine retv (VS.drop (List.nil_sublist _)) ?_
          ((with_reducible apply rq2); rfl; rfl; rfl)
          exact ret_eq rfl
      replace ha := Decidable.not_not.1 ha
      have hat := fun x => hat x (by simp) (by simp [ha])
      have hAl : ((a :: ar) ++ [b]).length = (a :: ar).length + 1 := by simp
      have hcl : (a :: ar).length = ar.length + 1 := rfl
      all_goals haveI fA_ : FlagA := ⟨⟩
      all_goals haveI fH_ : FlagH := ⟨⟩
      repeat' (first
        | exact True.intro
        | refine stp ?_
        | refine two ?_ ?_
        | refine allc fun c_ => ?_
        | (refine imp fun hc => ?_) <;> try (first | contradiction | (exfalso; omega) | (exfalso; exact absurd (of_dT hc) (by assumption)) | (exfalso; exact of_dF hc (by assumption)))
        | refine all fun v_ => ?_)
      all_goals clear fA_ fH_
      obtain ⟨q2, rfl⟩ : ∃ x, x = v_ := ⟨v_, rfl⟩
      refine J_loopV (X := Nat) (fun i => [(2, .val (.pointer (some ⟨bm, 0, none⟩))), (6, .int n), (10, .val q2.v), (13, .int i)]) (fun _ => [rowE q2.v 3 1 intC ((a :: ar) ++ [b]), .cells bm 25 [.d (varsD m.vars), .d (rulesD m.rules)]]) (fun i => i + 1 ≤ ((a :: ar) ++ [b]).length ∧ ∀ j, j < i → leadsP m n ((a :: ar) ++ [b]) j) (fun i => ((a :: ar) ++ [b]).length - i) 0 ⟨by omega, fun j h => absurd h (Nat.not_lt_zero j)⟩ (VS.take (by ((repeat (first | exact Take.nil | ((with_reducible apply Take.cons); (focus ((repeat (first | exact Sel.here | with_reducible apply Sel.there)); done))))); done)) ?_) ?_
      · repeat (first
          | exact Env.le_nil _
          | refine Env.le_cons (AV.le_refl _) ?_
          | refine Env.le_cons (AV.le_int rfl (by first | rfl | omega | (dsimp only; omega))) ?_)
      rintro i ⟨hi, hok⟩
      by_cases hil : i + 1 < ((a :: ar) ++ [b]).length
      · have hc0 := at0_get ((a :: ar) ++ [b]) i (by omega)
        have hc1 := at0_get ((a :: ar) ++ [b]) (i + 1) hil
        have hbad : ¬ leadsP m n ((a :: ar) ++ [b]) i → runF m stem (b :: lr) = (false, 0) := fun h => hat false ⟨fun k => (by cases k), fun k => absurd (k i hil) h⟩
        have hled : leadsP m n ((a :: ar) ++ [b]) i ↔ ((0 ≤ ((a :: ar) ++ [b])[i] ∧ ((a :: ar) ++ [b])[i] < n) ∧ ((a :: ar) ++ [b])[i + 1] ∈ (nextF m ((a :: ar) ++ [b])[i]).1) := by unfold leadsP; rw [hc0, hc1]
        clear hc0 hc1
        by_cases c0 : ¬ (0 ≤ ((a :: ar) ++ [b])[i] ∧ ((a :: ar) ++ [b])[i] ≤ (n : Int) - 1)
        · rw [hbad fun k => by have := (hled.1 k).1; omega]
          all_goals haveI fA_ : FlagA := ⟨⟩
          all_goals haveI fH_ : FlagH := ⟨⟩
          repeat' (first
            | ((with_reducible apply call0); (focus rfl); (focus exact cal_In); (focus exact In _ _ _ _); (focus rfl))
            | ((with_reducible apply je_call0); (focus rfl); (focus (decide +kernel)); (focus rfl); (focus exact cal_In); (focus exact In _ _ _ _); (focus rfl))
            | exact True.intro
            | refine stp ?_
            | refine two ?_ ?_
            | refine allc fun c_ => ?_
            | (refine imp fun hc => ?_) <;> try (first | contradiction | (exfalso; omega) | (exfalso; exact absurd (of_dT hc) (by assumption)) | (exfalso; exact of_dF hc (by assumption)))
            | refine all fun v_ => ?_)
          all_goals clear fA_ fH_
          refine retv (VS.drop (List.nil_sublist _)) ?_
          ((with_reducible apply rq2); rfl; rfl; rfl)
          exact ret_eq rfl
        replace c0 := Decidable.not_not.1 c0
        have hN := NextOf G m ((a :: ar) ++ [b])[i]
        generalize nextF m ((a :: ar) ++ [b])[i] = p at hN hled
        obtain ⟨ns, e⟩ := p
        dsimp only at hN hled
        all_goals haveI fA_ : FlagA := ⟨⟩
        all_goals haveI fH_ : FlagH := ⟨⟩
        repeat' (first
          | ((with_reducible apply call0); (focus rfl); (focus exact cal_In); (focus exact In _ _ _ _); (focus rfl))
          | ((with_reducible apply je_call0); (focus rfl); (focus (decide +kernel)); (focus rfl); (focus exact cal_In); (focus exact In _ _ _ _); (focus rfl))
          | ((with_reducible apply call0); (focus rfl); (focus exact cal_NextOf); (focus exact hN); (focus rfl))
          | ((with_reducible apply je_call0); (focus rfl); (focus (decide +kernel)); (focus rfl); (focus exact cal_NextOf); (focus exact hN); (focus rfl))
          | exact True.intro
          | refine stp ?_
          | refine two ?_ ?_
          | refine allc fun c_ => ?_
          | (refine imp fun hc => ?_) <;> try (first | contradiction | (exfalso; omega) | (exfalso; exact absurd (of_dT hc) (by assumption)) | (exfalso; exact of_dF hc (by assumption)))
          | refine all fun v_ => ?_)
        all_goals clear fA_ fH_
        refine jfact (t := 14) rfl fun hnb => ?_
        refine J_loopV (X := Nat) (fun k => [(2, .val (.pointer (some ⟨bm, 0, none⟩))), (6, .int n), (10, .val q2.v), (13, .int i), (14, .d (intsD ns)), (16, .bool (decide (((a :: ar) ++ [b])[i + 1] ∈ ns.take k))), (17, .int k)]) (fun _ => [rowE q2.v 3 1 intC ((a :: ar) ++ [b]), .cells bm 25 [.d (varsD m.vars), .d (rulesD m.rules)]]) (fun k => k ≤ ns.length) (fun k => ns.length - k) 0 (Nat.zero_le _) (VS.take (by ((repeat (first | exact Take.nil | ((with_reducible apply Take.cons); (focus ((repeat (first | exact Sel.here | with_reducible apply Sel.there)); done))))); done)) ?_) ?_
        · repeat (first
            | exact Env.le_nil _
            | refine Env.le_cons (AV.le_refl _) ?_
            | refine Env.le_cons (AV.le_int rfl (by first | rfl | omega | (dsimp only; omega))) ?_)
        rintro k hk
        by_cases hkl : k < ns.length
        · have hst : ((a :: ar) ++ [b])[i + 1] ∈ ns.take (k + 1) ↔ ((a :: ar) ++ [b])[i + 1] ∈ ns.take k ∨ ns[k] = ((a :: ar) ++ [b])[i + 1] := by
            rw [List.take_succ_eq_append_getElem hkl, List.mem_append, List.mem_singleton, eq_comm (a := ns[k])]
          by_cases hin : ((a :: ar) ++ [b])[i + 1] ∈ ns.take k
          · rw [decide_eq_true hin]
            all_goals haveI fA_ : FlagA := ⟨⟩
            all_goals haveI fH_ : FlagH := ⟨⟩
            repeat' (first
              | exact True.intro
              | refine stp ?_
              | refine two ?_ ?_
              | refine allc fun c_ => ?_
              | (refine imp fun hc => ?_) <;> try (first | contradiction | (exfalso; omega) | (exfalso; exact absurd (of_dT hc) (by assumption)) | (exfalso; exact of_dF hc (by assumption)))
              | refine all fun v_ => ?_)
            all_goals clear fA_ fH_
            refine ⟨k + 1, by omega, by omega, VS.take (by ((repeat (first | exact Take.nil | ((with_reducible apply Take.cons); (focus ((repeat (first | exact Sel.here | with_reducible apply Sel.there)); done))))); done)) ?_⟩
            rw [decide_eq_true (hst.2 (.inl hin))]
            repeat (first
              | exact Env.le_nil _
              | refine Env.le_cons (AV.le_refl _) ?_
              | refine Env.le_cons (AV.le_int rfl (by first | rfl | omega | (dsimp only; omega))) ?_)
          · rw [decide_eq_false hin]
            all_goals haveI fA_ : FlagA := ⟨⟩
            all_goals haveI fH_ : FlagH := ⟨⟩
            repeat' (first
              | exact True.intro
              | refine stp ?_
              | refine two ?_ ?_
              | refine allc fun c_ => ?_
              | (refine imp fun hc => ?_) <;> try (first | contradiction | (exfalso; omega) | (exfalso; exact absurd (of_dT hc) (by assumption)) | (exfalso; exact of_dF hc (by assumption)))
              | refine all fun v_ => ?_)
            all_goals clear fA_ fH_
            refine ⟨k + 1, by omega, by omega, VS.take (by ((repeat (first | exact Take.nil | ((with_reducible apply Take.cons); (focus ((repeat (first | exact Sel.here | with_reducible apply Sel.there)); done))))); done)) ?_⟩
            rw [decide_eq_decide.2 (⟨fun h => (hst.1 h).resolve_left hin, fun h => hst.2 (.inr h)⟩ : ((a :: ar) ++ [b])[i + 1] ∈ ns.take (k + 1) ↔ ns[k] = ((a :: ar) ++ [b])[i + 1])]
            repeat (first
              | exact Env.le_nil _
              | refine Env.le_cons (AV.le_refl _) ?_
              | refine Env.le_cons (AV.le_int rfl (by first | rfl | omega | (dsimp only; omega))) ?_)
        obtain rfl : k = ns.length := by omega
        rw [List.take_length]
        by_cases hin : ((a :: ar) ++ [b])[i + 1] ∈ ns
        · rw [decide_eq_true hin]
          all_goals haveI fA_ : FlagA := ⟨⟩
          all_goals haveI fH_ : FlagH := ⟨⟩
          repeat' (first
            | exact True.intro
            | refine stp ?_
            | refine two ?_ ?_
            | refine allc fun c_ => ?_
            | (refine imp fun hc => ?_) <;> try (first | contradiction | (exfalso; omega) | (exfalso; exact absurd (of_dT hc) (by assumption)) | (exfalso; exact of_dF hc (by assumption)))
            | refine all fun v_ => ?_)
          all_goals clear fA_ fH_
          refine ⟨i + 1, ⟨by omega, fun j hj => ?_⟩, by omega, VS.take (by ((repeat (first | exact Take.nil | ((with_reducible apply Take.cons); (focus ((repeat (first | exact Sel.here | with_reducible apply Sel.there)); done))))); done)) ?_⟩
          · by_cases e : j = i
            · rw [e]; exact hled.2 ⟨⟨by omega, by omega⟩, hin⟩
            · exact hok j (by omega)
          · repeat (first
              | exact Env.le_nil _
              | refine Env.le_cons (AV.le_refl _) ?_
              | refine Env.le_cons (AV.le_int rfl (by first | rfl | omega | (dsimp only; omega))) ?_)
        · rw [decide_eq_false hin, hbad fun k => hin (hled.1 k).2]
          all_goals haveI fA_ : FlagA := ⟨⟩
          all_goals haveI fH_ : FlagH := ⟨⟩
          repeat' (first
            | exact True.intro
            | refine stp ?_
            | refine two ?_ ?_
            | refine allc fun c_ => ?_
            | (refine imp fun hc => ?_) <;> try (first | contradiction | (exfalso; omega) | (exfalso; exact absurd (of_dT hc) (by assumption)) | (exfalso; exact of_dF hc (by assumption)))
            | refine all fun v_ => ?_)
          all_goals clear fA_ fH_
          refine retv (VS.drop (List.nil_sublist _)) ?_
          ((with_reducible apply rq2); rfl; rfl; rfl)
          exact ret_eq rfl
      rw [hat true ⟨fun _ j hj => hok j (by omega), fun _ => rfl⟩]
      all_goals haveI fA_ : FlagA := ⟨⟩
      all_goals haveI fH_ : FlagH := ⟨⟩
      repeat' (first
        | exact True.intro
        | refine stp ?_
        | refine two ?_ ?_
        | refine allc fun c_ => ?_
        | (refine imp fun hc => ?_) <;> try (first | contradiction | (exfalso; omega) | (exfalso; exact absurd (of_dT hc) (by assumption)) | (exfalso; exact of_dF hc (by assumption)))
        | refine all fun v_ => ?_)
      all_goals clear fA_ fH_
      refine retv (VS.drop (List.nil_sublist _)) ?_
      ((with_reducible apply rq2); rfl; rfl; rfl)
      exact ret_eq rfl
end Go.Proofs.YtcikppldaepodaaGreatDoor
namespace Go.Proofs.YtcikppldaepodaaGreatDoor
open Go Go.Av Go.Sp
set_option linter.unusedVariables false
set_option linter.unusedSimpArgs false
set_option maxRecDepth 100000
set_option maxHeartbeats 4000000
def lettC (l : List Bool) : List D := [boolsD l]
abbrev lettD (l : List (List Bool)) : D := .l 1 24 (l.map lettC)
structure Wd where
  stem : List (List Bool)
  loop : List (List Bool)
abbrev wdA (w : Wd) : AV := .agg [.d (lettD w.stem), .d (lettD w.loop)]
end Go.Proofs.YtcikppldaepodaaGreatDoor
namespace Go.Proofs.YtcikppldaepodaaGreatDoor
open Go Go.Av Go.Sp
set_option linter.unusedVariables false
set_option linter.unusedSimpArgs false
set_option maxRecDepth 100000
set_option maxHeartbeats 4000000

theorem cal_GrowB : Cal Tryz.prog 246 := Cal.of Tryz.func246 (by kernel_rfl) (by kernel_rfl)
theorem cal_ConcatB : Cal Tryz.prog 199 := Cal.of Tryz.func199 (by kernel_rfl) (by kernel_rfl)
theorem cal_WCheck : Cal Tryz.prog 198 := Cal.of Tryz.func198 (by kernel_rfl) (by kernel_rfl)
theorem cal_momentOf : Cal Tryz.prog 172 := Cal.of Tryz.func172 (by kernel_rfl) (by kernel_rfl)
theorem cal_letterAt : Cal Tryz.prog 171 := Cal.of Tryz.func171 (by kernel_rfl) (by kernel_rfl)
theorem cal_WordFault : Cal Tryz.prog 204 := Cal.of Tryz.func204 (by kernel_rfl) (by kernel_rfl)
theorem GrowB (G : List (Nat × List D)) (n : Nat) (hn : n ≤ 1000000) : AC Tryz.prog G 246 [.val (.slice none 0 0), .int n] [] fun r h => ∃ q : Sl, r = .ret (.val q.v) ∧ h = [rowE q.v 73 1 lettC []] := by
  refine AC_ofV (ts := [4]) Tryz.f246.ntmps Tryz.func246 rfl rfl rfl (by simp [Tryz.ntmps246]) fun W I => ?_
  by_cases h0 : 0 < n
  · all_goals haveI fA_ : FlagA := ⟨⟩
    all_goals haveI fH_ : FlagH := ⟨⟩
    repeat' (first
      | ((with_reducible apply jp); (focus ((with_reducible apply pu_cap); rfl; rfl)); (focus rfl))
      | ((with_reducible apply jp); (focus ((with_reducible apply pu_slice_nil); rfl; rfl; rfl; (focus (with_reducible exact ElC.h)))); (focus rfl))
      | ((with_reducible apply (japp_zeros (n := n) lettC [] (boolsD []))); (focus rfl); (focus rfl); (focus omega); (focus rfl); (focus rfl); (focus (with_reducible exact ElC.h)); (focus rfl); (focus rfl); (focus exact fun w I => .nil _ _); (focus omega); (focus omega); (focus omega); (focus rfl))
      | exact True.intro
      | refine stp ?_
      | refine two ?_ ?_
      | refine allc fun c_ => ?_
      | (refine imp fun hc => ?_) <;> try (first | contradiction | (exfalso; omega) | (exfalso; exact absurd (of_dT hc) (by assumption)) | (exfalso; exact of_dF hc (by assumption)))
      | refine all fun v_ => ?_)
    all_goals clear fA_ fH_
    refine retv0 ?_
    ((with_reducible apply rq1); rfl; rfl)
    exact ⟨v_, rfl, rfl⟩
  · obtain rfl : n = 0 := by omega
    all_goals haveI fA_ : FlagA := ⟨⟩
    all_goals haveI fH_ : FlagH := ⟨⟩
    repeat' (first
      | ((with_reducible apply jp); (focus ((with_reducible apply pu_cap); rfl; rfl)); (focus rfl))
      | ((with_reducible apply jp); (focus ((with_reducible apply pu_slice_nil); rfl; rfl; rfl; (focus (with_reducible exact ElC.h)))); (focus rfl))
      | ((with_reducible apply (japp_zeros (n := n) lettC [] (boolsD []))); (focus rfl); (focus rfl); (focus omega); (focus rfl); (focus rfl); (focus (with_reducible exact ElC.h)); (focus rfl); (focus rfl); (focus exact fun w I => .nil _ _); (focus omega); (focus omega); (focus omega); (focus rfl))
      | exact True.intro
      | refine stp ?_
      | refine two ?_ ?_
      | refine allc fun c_ => ?_
      | (refine imp fun hc => ?_) <;> try (first | contradiction | (exfalso; omega) | (exfalso; exact absurd (of_dT hc) (by assumption)) | (exfalso; exact of_dF hc (by assumption)))
      | refine all fun v_ => ?_)
    all_goals clear fA_ fH_
    refine retv (VS.nilrow 73 1) ?_
    ((with_reducible apply rq1); rfl; rfl)
    exact ⟨Sl.nil, rfl, rfl⟩
def lettLC (l : List (List Bool)) : List D := [lettD l]
def sumL {α : Type} (ls : List (List α)) (i : Nat) : Nat := ((ls.take i).map List.length).sum
theorem sumL_succ {α : Type} (ls : List (List α)) (i : Nat) (h : i < ls.length) : sumL ls (i + 1) = sumL ls i + ls[i].length := by
  unfold sumL
  rw [List.take_succ_eq_append_getElem h, List.map_append, List.sum_append]
  simp
theorem sumL_le {α : Type} (ls : List (List α)) : ∀ i, i ≤ ls.length → sumL ls i ≤ (ls.map List.length).sum := fun i hi => by
  have key : ∀ d, i + d ≤ ls.length → sumL ls i ≤ sumL ls (i + d) := by
    intro d
    induction d with
    | zero => intro _; exact Nat.le_refl _
    | succ d ih =>
      intro hd
      have := ih (by omega)
      rw [← Nat.add_assoc, sumL_succ ls (i + d) (by omega)]
      omega
  have := key (ls.length - i) (by omega)
  rwa [Nat.add_sub_cancel' hi, sumL, sumL, List.take_length] at this
theorem sumL_flat {α : Type} (ls : List (List α)) (i : Nat) : ((ls.take i).flatten).length = sumL ls i := by simp [sumL, List.length_flatten]
theorem ConcatB (G : List (Nat × List D)) (ls : List (List (List Bool))) (hs : (ls.map List.length).sum ≤ 1000000) : ACr Tryz.prog G 199 [.d (.l 1 24 (ls.map lettLC))] (.d (lettD ls.flatten)) := by
  refine AC_ofV (ts := [2]) Tryz.f199.ntmps Tryz.func199 rfl rfl rfl (by simp [Tryz.ntmps199]) fun W I => ?_
  refine jfact (t := 0) rfl fun hl => ?_
  all_goals haveI fA_ : FlagA := ⟨⟩
  all_goals haveI fH_ : FlagH := ⟨⟩
  repeat' (first
    | exact True.intro
    | refine stp ?_
    | refine two ?_ ?_
    | refine allc fun c_ => ?_
    | (refine imp fun hc => ?_) <;> try (first | contradiction | (exfalso; omega) | (exfalso; exact absurd (of_dT hc) (by assumption)) | (exfalso; exact of_dF hc (by assumption)))
    | refine all fun v_ => ?_)
  all_goals clear fA_ fH_
  refine J_loopV (X := Nat) (fun i => [(0, .d (.l 1 24 (ls.map lettLC))), (3, .int (sumL ls i)), (9, .d (.l 1 24 (ls.map lettLC))), (10, .int ls.length), (11, .int i)]) (fun _ => []) (fun i => i ≤ ls.length) (fun i => ls.length - i) 0 (Nat.zero_le _) (VS.of_le ?_) ?_
  · repeat (first
      | exact Env.le_nil _
      | refine Env.le_cons (AV.le_refl _) ?_
      | refine Env.le_cons (AV.le_int rfl (by first | rfl | omega | (dsimp only; omega))) ?_)
  rintro i h1
  by_cases hi : i < ls.length
  · have e1 := sumL_succ ls i hi
    have e2 := sumL_le ls (i + 1) hi
    all_goals haveI fA_ : FlagA := ⟨⟩
    all_goals haveI fH_ : FlagH := ⟨⟩
    repeat' (first
      | exact True.intro
      | refine stp ?_
      | refine two ?_ ?_
      | refine allc fun c_ => ?_
      | (refine imp fun hc => ?_) <;> try (first | contradiction | (exfalso; omega) | (exfalso; exact absurd (of_dT hc) (by assumption)) | (exfalso; exact of_dF hc (by assumption)))
      | refine all fun v_ => ?_)
    all_goals clear fA_ fH_
    refine ⟨i + 1, by omega, by omega, VS.of_le ?_⟩
    repeat (first
      | exact Env.le_nil _
      | refine Env.le_cons (AV.le_refl _) ?_
      | refine Env.le_cons (AV.le_int rfl (by first | rfl | omega | (dsimp only; omega))) ?_)
  obtain rfl : i = ls.length := by omega
  have e2 := sumL_le ls ls.length (Nat.le_refl _)
  all_goals haveI fA_ : FlagA := ⟨⟩
  all_goals haveI fH_ : FlagH := ⟨⟩
  repeat' (first
    | ((with_reducible apply callG); (focus rfl); (focus exact cal_GrowB); (focus exact GrowB G (sumL ls ls.length) (by omega)); (focus ((repeat (first | with_reducible exact Take.nil | ((with_reducible apply Take.cons); (focus ((repeat (first | with_reducible exact Sel.here | with_reducible apply Sel.there)); done))))); done)); (focus rfl); (focus (intro v_; (repeat (first | exact App.nil | apply App.cons)); done)))
    | exact True.intro
    | refine stp ?_
    | refine two ?_ ?_
    | refine allc fun c_ => ?_
    | (refine imp fun hc => ?_) <;> try (first | contradiction | (exfalso; omega) | (exfalso; exact absurd (of_dT hc) (by assumption)) | (exfalso; exact of_dF hc (by assumption)))
    | refine all fun v_ => ?_)
  all_goals clear fA_ fH_
  refine J_loopV (X := Nat × Sl) (fun y => [(6, .val y.2.v), (25, .d (.l 1 24 (ls.map lettLC))), (26, .int ls.length), (27, .int y.1)]) (fun y => [rowE y.2.v 73 1 lettC (ls.take y.1).flatten]) (fun y => y.1 ≤ ls.length) (fun y => ls.length - y.1) (0, v_) (Nat.zero_le _) (VS.of_le ?_) ?_
  · repeat (first
      | exact Env.le_nil _
      | refine Env.le_cons (AV.le_refl _) ?_
      | refine Env.le_cons (AV.le_int rfl (by first | rfl | omega | (dsimp only; omega))) ?_)
  rintro ⟨i, q⟩ h1
  dsimp only at h1 ⊢
  by_cases hi : i < ls.length
  · have e1 := sumL_succ ls i hi
    have e3 := sumL_le ls (i + 1) hi
    have e4 := sumL_flat ls i
    have e5 : (ls.take i).flatten ++ ls[i] = (ls.take (i + 1)).flatten := by rw [List.take_succ_eq_append_getElem hi, List.flatten_append]; simp
    all_goals haveI fA_ : FlagA := ⟨⟩
    all_goals haveI fH_ : FlagH := ⟨⟩
    repeat' (first
      | exact True.intro
      | refine stp ?_
      | refine two ?_ ?_
      | refine allc fun c_ => ?_
      | (refine imp fun hc => ?_) <;> try (first | contradiction | (exfalso; omega) | (exfalso; exact absurd (of_dT hc) (by assumption)) | (exfalso; exact of_dF hc (by assumption)))
      | refine all fun v_ => ?_)
    all_goals clear fA_ fH_
    refine ⟨(i + 1, v_), by dsimp only; omega, by dsimp only; omega, ?_⟩
    dsimp only
    rw [e5]
    refine VS.of_le ?_
    repeat (first
      | exact Env.le_nil _
      | refine Env.le_cons (AV.le_refl _) ?_
      | refine Env.le_cons (AV.le_int rfl (by first | rfl | omega | (dsimp only; omega))) ?_)
  obtain rfl : i = ls.length := by omega
  have e4 := sumL_flat ls ls.length
  all_goals haveI fA_ : FlagA := ⟨⟩
  all_goals haveI fH_ : FlagH := ⟨⟩
  repeat' (first
    | exact True.intro
    | refine stp ?_
    | refine two ?_ ?_
    | refine allc fun c_ => ?_
    | (refine imp fun hc => ?_) <;> try (first | contradiction | (exfalso; omega) | (exfalso; exact absurd (of_dT hc) (by assumption)) | (exfalso; exact of_dF hc (by assumption)))
    | refine all fun v_ => ?_)
  all_goals clear fA_ fH_
  refine retv (vfreeze (t := 2) (eb := 24) rfl rfl (fun x => rfl) (by omega)) ?_
  ((with_reducible apply rq1); rfl; rfl)
  refine ret_eq ?_
  rw [List.take_length]
noncomputable def wordF (w : Wd) (p : Int) : Int := if ¬ (0 ≤ p ∧ p ≤ 6) then 2 else if ¬ (w.stem.length ≤ 12 ∧ 1 ≤ w.loop.length ∧ w.loop.length ≤ 12) then 1 else if ∀ l ∈ w.stem ++ w.loop, (l.length : Int) = p then 0 else 3
theorem wordF_2 {w : Wd} {p : Int} (h : ¬ (0 ≤ p ∧ p ≤ 6)) : wordF w p = 2 := if_pos h
theorem wordF_1 {w : Wd} {p : Int} (h : 0 ≤ p ∧ p ≤ 6) (h2 : ¬ (w.stem.length ≤ 12 ∧ 1 ≤ w.loop.length ∧ w.loop.length ≤ 12)) : wordF w p = 1 := by rw [wordF, if_neg (fun k => k h), if_pos h2]
theorem wordF_0 {w : Wd} {p : Int} (h : 0 ≤ p ∧ p ≤ 6) (h2 : w.stem.length ≤ 12 ∧ 1 ≤ w.loop.length ∧ w.loop.length ≤ 12) (h3 : ∀ i (hi : i < (w.stem ++ w.loop).length), ((w.stem ++ w.loop)[i].length : Int) = p) : wordF w p = 0 := by
  rw [wordF, if_neg (fun k => k h), if_neg (fun k => k h2), if_pos]
  intro l hl
  obtain ⟨i, hi, rfl⟩ := List.getElem_of_mem hl
  exact h3 i hi
theorem wordF_3 {w : Wd} {p : Int} (h : 0 ≤ p ∧ p ≤ 6) (h2 : w.stem.length ≤ 12 ∧ 1 ≤ w.loop.length ∧ w.loop.length ≤ 12) {i : Nat} (hi : i < (w.stem ++ w.loop).length) (h3 : ¬ ((w.stem ++ w.loop)[i].length : Int) = p) : wordF w p = 3 := by
  rw [wordF, if_neg (fun k => k h), if_neg (fun k => k h2), if_neg]
  exact fun k => h3 (k _ (List.getElem_mem hi))
theorem WCheck (G : List (Nat × List D)) (w : Wd) (p : Int) : ACr Tryz.prog G 198 [wdA w, .int p] (.int (wordF w p)) := by
  refine AC_ofV (ts := [4]) Tryz.f198.ntmps Tryz.func198 rfl rfl rfl (by simp [Tryz.ntmps198]) fun W I => ?_
  by_cases c1 : ¬ 0 ≤ p
  · all_goals haveI fA_ : FlagA := ⟨⟩
    all_goals haveI fH_ : FlagH := ⟨⟩
    repeat' (first
      | exact True.intro
      | refine stp ?_
      | refine two ?_ ?_
      | refine allc fun c_ => ?_
      | (refine imp fun hc => ?_) <;> try (first | contradiction | (exfalso; omega) | (exfalso; exact absurd (of_dT hc) (by assumption)) | (exfalso; exact of_dF hc (by assumption)))
      | refine all fun v_ => ?_)
    all_goals clear fA_ fH_
    refine retv (VS.drop (List.nil_sublist _)) ?_
    ((with_reducible apply rq1); rfl; rfl)
    exact ret_eq (by rw [wordF_2 (by omega)])
  by_cases c2 : ¬ p ≤ 6
  · all_goals haveI fA_ : FlagA := ⟨⟩
    all_goals haveI fH_ : FlagH := ⟨⟩
    repeat' (first
      | exact True.intro
      | refine stp ?_
      | refine two ?_ ?_
      | refine allc fun c_ => ?_
      | (refine imp fun hc => ?_) <;> try (first | contradiction | (exfalso; omega) | (exfalso; exact absurd (of_dT hc) (by assumption)) | (exfalso; exact of_dF hc (by assumption)))
      | refine all fun v_ => ?_)
    all_goals clear fA_ fH_
    refine retv (VS.drop (List.nil_sublist _)) ?_
    ((with_reducible apply rq1); rfl; rfl)
    exact ret_eq (by rw [wordF_2 (by omega)])
  by_cases c3 : ¬ w.stem.length ≤ 12
  · all_goals haveI fA_ : FlagA := ⟨⟩
    all_goals haveI fH_ : FlagH := ⟨⟩
    repeat' (first
      | exact True.intro
      | refine stp ?_
      | refine two ?_ ?_
      | refine allc fun c_ => ?_
      | (refine imp fun hc => ?_) <;> try (first | contradiction | (exfalso; omega) | (exfalso; exact absurd (of_dT hc) (by assumption)) | (exfalso; exact of_dF hc (by assumption)))
      | refine all fun v_ => ?_)
    all_goals clear fA_ fH_
    refine retv (VS.drop (List.nil_sublist _)) ?_
    ((with_reducible apply rq1); rfl; rfl)
    exact ret_eq (by rw [wordF_1 (by omega) (by omega)])
  by_cases c4 : ¬ 1 ≤ w.loop.length
  · all_goals haveI fA_ : FlagA := ⟨⟩
    all_goals haveI fH_ : FlagH := ⟨⟩
    repeat' (first
      | exact True.intro
      | refine stp ?_
      | refine two ?_ ?_
      | refine allc fun c_ => ?_
      | (refine imp fun hc => ?_) <;> try (first | contradiction | (exfalso; omega) | (exfalso; exact absurd (of_dT hc) (by assumption)) | (exfalso; exact of_dF hc (by assumption)))
      | refine all fun v_ => ?_)
    all_goals clear fA_ fH_
    refine retv (VS.drop (List.nil_sublist _)) ?_
    ((with_reducible apply rq1); rfl; rfl)
    exact ret_eq (by rw [wordF_1 (by omega) (by omega)])
  by_cases c5 : ¬ w.loop.length ≤ 12
  · all_goals haveI fA_ : FlagA := ⟨⟩
    all_goals haveI fH_ : FlagH := ⟨⟩
    repeat' (first
      | exact True.intro
      | refine stp ?_
      | refine two ?_ ?_
      | refine allc fun c_ => ?_
      | (refine imp fun hc => ?_) <;> try (first | contradiction | (exfalso; omega) | (exfalso; exact absurd (of_dT hc) (by assumption)) | (exfalso; exact of_dF hc (by assumption)))
      | refine all fun v_ => ?_)
    all_goals clear fA_ fH_
    refine retv (VS.drop (List.nil_sublist _)) ?_
    ((with_reducible apply rq1); rfl; rfl)
    exact ret_eq (by rw [wordF_1 (by omega) (by omega)])
  have k1 : 0 ≤ p ∧ p ≤ 6 := by omega
  have k2 : w.stem.length ≤ 12 ∧ 1 ≤ w.loop.length ∧ w.loop.length ≤ 12 := by omega
  have E := ConcatB G [w.stem, w.loop] (by simp; omega)
  rw [show [w.stem, w.loop].flatten = w.stem ++ w.loop by simp] at E
  have hln : (w.stem ++ w.loop).length ≤ 24 := by simp; omega
  have f0 := wordF_0 (w := w) (p := p) k1 k2
  have f3 := fun i hi h => wordF_3 (w := w) (p := p) k1 k2 (i := i) hi h
  generalize w.stem ++ w.loop = al at E hln f0 f3
  all_goals haveI fA_ : FlagA := ⟨⟩
  all_goals haveI fH_ : FlagH := ⟨⟩
  repeat' (first
    | ((with_reducible apply jbuild_list2); (focus rfl); (focus rfl); (focus rfl); (focus (with_reducible exact ElC.h)); (focus rfl); (focus rfl))
    | ((with_reducible apply call0); (focus rfl); (focus exact cal_ConcatB); (focus exact E); (focus rfl))
    | ((with_reducible apply je_call0); (focus rfl); (focus (decide +kernel)); (focus rfl); (focus exact cal_ConcatB); (focus exact E); (focus rfl))
    | exact True.intro
    | refine stp ?_
    | refine two ?_ ?_
    | refine allc fun c_ => ?_
    | (refine imp fun hc => ?_) <;> try (first | contradiction | (exfalso; omega) | (exfalso; exact absurd (of_dT hc) (by assumption)) | (exfalso; exact of_dF hc (by assumption)))
    | refine all fun v_ => ?_)
  all_goals clear fA_ fH_
  refine J_loopV (X := Nat) (fun i => [(1, .int p), (34, .d (lettD al)), (35, .int al.length), (36, .int i)]) (fun _ => []) (fun i => i ≤ al.length ∧ ∀ j (h : j < al.length), j < i → (al[j].length : Int) = p) (fun i => al.length - i) 0 ⟨Nat.zero_le _, fun _ _ h => absurd h (Nat.not_lt_zero _)⟩ (VS.trans (VS.drop (List.nil_sublist _)) (VS.of_le ?_)) ?_
  · repeat (first
      | exact Env.le_nil _
      | refine Env.le_cons (AV.le_refl _) ?_
      | refine Env.le_cons (AV.le_int rfl (by first | rfl | omega | (dsimp only; omega))) ?_)
  rintro i ⟨h1, h2⟩
  by_cases hi : ¬ i < al.length
  · all_goals haveI fA_ : FlagA := ⟨⟩
    all_goals haveI fH_ : FlagH := ⟨⟩
    repeat' (first
      | exact True.intro
      | refine stp ?_
      | refine two ?_ ?_
      | refine allc fun c_ => ?_
      | (refine imp fun hc => ?_) <;> try (first | contradiction | (exfalso; omega) | (exfalso; exact absurd (of_dT hc) (by assumption)) | (exfalso; exact of_dF hc (by assumption)))
      | refine all fun v_ => ?_)
    all_goals clear fA_ fH_
    refine retv (VS.drop (List.nil_sublist _)) ?_
    ((with_reducible apply rq1); rfl; rfl)
    exact ret_eq (by rw [f0 fun j hj => h2 j hj (by omega)])
  replace hi := Decidable.not_not.1 hi
  by_cases he : (al[i].length : Int) = p
  · all_goals haveI fA_ : FlagA := ⟨⟩
    all_goals haveI fH_ : FlagH := ⟨⟩
    repeat' (first
      | exact True.intro
      | refine stp ?_
      | refine two ?_ ?_
      | refine allc fun c_ => ?_
      | (refine imp fun hc => ?_) <;> try (first | contradiction | (exfalso; omega) | (exfalso; exact absurd (of_dT hc) (by assumption)) | (exfalso; exact of_dF hc (by assumption)))
      | refine all fun v_ => ?_)
    all_goals clear fA_ fH_
    refine ⟨i + 1, ⟨by omega, fun j hj hji => ?_⟩, by omega, VS.of_le ?_⟩
    · by_cases e : j = i
      · subst e; exact he
      · exact h2 j hj (by omega)
    · repeat (first
        | exact Env.le_nil _
        | refine Env.le_cons (AV.le_refl _) ?_
        | refine Env.le_cons (AV.le_int rfl (by first | rfl | omega | (dsimp only; omega))) ?_)
  · all_goals haveI fA_ : FlagA := ⟨⟩
    all_goals haveI fH_ : FlagH := ⟨⟩
    repeat' (first
      | exact True.intro
      | refine stp ?_
      | refine two ?_ ?_
      | refine allc fun c_ => ?_
      | (refine imp fun hc => ?_) <;> try (first | contradiction | (exfalso; omega) | (exfalso; exact absurd (of_dT hc) (by assumption)) | (exfalso; exact of_dF hc (by assumption)))
      | refine all fun v_ => ?_)
    all_goals clear fA_ fH_
    refine retv (VS.drop (List.nil_sublist _)) ?_
    ((with_reducible apply rq1); rfl; rfl)
    exact ret_eq (by rw [f3 i hi he])
end Go.Proofs.YtcikppldaepodaaGreatDoor
namespace Go.Sp
open Go Go.Av
set_option linter.unusedVariables false
set_option linter.unusedSimpArgs false
def momN (s l i : Nat) : Nat := if i < s + l then i else s + (i - s) % l
theorem momN_small {s l i : Nat} (h : i < s + l) : momN s l i = i := if_pos h
theorem momN_step {s l i : Nat} (h : ¬ i < s + l) : momN s l (i - l) = momN s l i := by
  unfold momN
  rw [if_neg h]
  have e : i - s = (i - l - s) + l := by omega
  by_cases h2 : i - l < s + l
  · rw [if_pos h2, e, Nat.add_mod_right, Nat.mod_eq_of_lt (by omega)]
    omega
  · rw [if_neg h2, e, Nat.add_mod_right]
theorem momN_lt {s l i : Nat} (hl : 0 < l) : momN s l i < s + l := by
  unfold momN
  split
  · assumption
  · have := Nat.mod_lt (i - s) hl
    omega
end Go.Sp
namespace Go.Proofs.YtcikppldaepodaaGreatDoor
open Go Go.Av Go.Sp
set_option linter.unusedVariables false
set_option linter.unusedSimpArgs false
set_option maxRecDepth 100000
set_option maxHeartbeats 4000000

theorem momentOf (G : List (Nat × List D)) (w : Wd) (i : Nat) (hi : i ≤ 1000000) (h0 : 0 < w.loop.length) (hs : w.stem.length ≤ 1000000) (hl : w.loop.length ≤ 1000000) : ACr Tryz.prog G 172 [wdA w, .int i] (.int (momN w.stem.length w.loop.length i : Nat)) := by
  refine AC_ofV (ts := [4]) Tryz.f172.ntmps Tryz.func172 rfl rfl rfl (by simp [Tryz.ntmps172]) fun W I => ?_
  all_goals haveI fA_ : FlagA := ⟨⟩
  all_goals haveI fH_ : FlagH := ⟨⟩
  repeat' (first
    | exact True.intro
    | refine stp ?_
    | refine two ?_ ?_
    | refine allc fun c_ => ?_
    | (refine imp fun hc => ?_) <;> try (first | contradiction | (exfalso; omega) | (exfalso; exact absurd (of_dT hc) (by assumption)) | (exfalso; exact of_dF hc (by assumption)))
    | refine all fun v_ => ?_)
  all_goals clear fA_ fH_
  rename Nat => bw
  refine J_loopV (X := Nat) (fun j => [(1, .int j), (2, .val (.pointer (some ⟨bw, 0, none⟩)))]) (fun _ => [.cells bw 69 [.d (lettD w.stem), .d (lettD w.loop)]]) (fun j => j ≤ i ∧ momN w.stem.length w.loop.length j = momN w.stem.length w.loop.length i) (fun j => j) i ⟨Nat.le_refl _, rfl⟩ (VS.of_le ?_) ?_
  · repeat (first
      | exact Env.le_nil _
      | refine Env.le_cons (AV.le_refl _) ?_
      | refine Env.le_cons (AV.le_int rfl (by first | rfl | omega | (dsimp only; omega))) ?_)
  rintro j ⟨h1, h2⟩
  by_cases hj : j < w.stem.length + w.loop.length
  · all_goals haveI fA_ : FlagA := ⟨⟩
    all_goals haveI fH_ : FlagH := ⟨⟩
    repeat' (first
      | exact True.intro
      | refine stp ?_
      | refine two ?_ ?_
      | refine allc fun c_ => ?_
      | (refine imp fun hc => ?_) <;> try (first | contradiction | (exfalso; omega) | (exfalso; exact absurd (of_dT hc) (by assumption)) | (exfalso; exact of_dF hc (by assumption)))
      | refine all fun v_ => ?_)
    all_goals clear fA_ fH_
    refine retv (VS.drop (List.nil_sublist _)) ?_
    ((with_reducible apply rq1); rfl; rfl)
    exact ret_eq (by rw [← h2, momN_small hj])
  · have e := momN_step hj
    all_goals haveI fA_ : FlagA := ⟨⟩
    all_goals haveI fH_ : FlagH := ⟨⟩
    repeat' (first
      | exact True.intro
      | refine stp ?_
      | refine two ?_ ?_
      | refine allc fun c_ => ?_
      | (refine imp fun hc => ?_) <;> try (first | contradiction | (exfalso; omega) | (exfalso; exact absurd (of_dT hc) (by assumption)) | (exfalso; exact of_dF hc (by assumption)))
      | refine all fun v_ => ?_)
    all_goals clear fA_ fH_
    refine ⟨j - w.loop.length, ⟨by omega, by rw [e, h2]⟩, by omega, VS.of_le ?_⟩
    repeat (first
      | exact Env.le_nil _
      | refine Env.le_cons (AV.le_refl _) ?_
      | refine Env.le_cons (AV.le_int rfl (by first | rfl | omega | (dsimp only; omega))) ?_)
theorem letterAt (G : List (Nat × List D)) (w : Wd) (i : Nat) (hi : i ≤ 1000000) (h0 : 0 < w.loop.length) (hs : w.stem.length ≤ 1000000) (hl : w.loop.length ≤ 1000000) (hm : momN w.stem.length w.loop.length i < (w.stem ++ w.loop).length) : ACr Tryz.prog G 171 [wdA w, .int i] (.d (boolsD (w.stem ++ w.loop)[momN w.stem.length w.loop.length i])) := by
  refine AC_ofV (ts := [4]) Tryz.f171.ntmps Tryz.func171 rfl rfl rfl (by simp [Tryz.ntmps171]) fun W I => ?_
  have E := momentOf G w i hi h0 hs hl
  have hlen : (w.stem ++ w.loop).length = w.stem.length + w.loop.length := List.length_append
  have hm' := hm
  rw [hlen] at hm'
  generalize momN w.stem.length w.loop.length i = j at E hm hm' ⊢
  by_cases c : j < w.stem.length
  · all_goals haveI fA_ : FlagA := ⟨⟩
    all_goals haveI fH_ : FlagH := ⟨⟩
    repeat' (first
      | ((with_reducible apply call0); (focus rfl); (focus exact cal_momentOf); (focus exact E); (focus rfl))
      | ((with_reducible apply je_call0); (focus rfl); (focus (decide +kernel)); (focus rfl); (focus exact cal_momentOf); (focus exact E); (focus rfl))
      | exact True.intro
      | refine stp ?_
      | refine two ?_ ?_
      | refine allc fun c_ => ?_
      | (refine imp fun hc => ?_) <;> try (first | contradiction | (exfalso; omega) | (exfalso; exact absurd (of_dT hc) (by assumption)) | (exfalso; exact of_dF hc (by assumption)))
      | refine all fun v_ => ?_)
    all_goals clear fA_ fH_
    refine retv (VS.drop (List.nil_sublist _)) ?_
    ((with_reducible apply rq1); rfl; rfl)
    exact ret_eq (by simp only [List.getElem_append, dif_pos c]; rfl)
  · all_goals haveI fA_ : FlagA := ⟨⟩
    all_goals haveI fH_ : FlagH := ⟨⟩
    repeat' (first
      | ((with_reducible apply call0); (focus rfl); (focus exact cal_momentOf); (focus exact E); (focus rfl))
      | ((with_reducible apply je_call0); (focus rfl); (focus (decide +kernel)); (focus rfl); (focus exact cal_momentOf); (focus exact E); (focus rfl))
      | exact True.intro
      | refine stp ?_
      | refine two ?_ ?_
      | refine allc fun c_ => ?_
      | (refine imp fun hc => ?_) <;> try (first | contradiction | (exfalso; omega) | (exfalso; exact absurd (of_dT hc) (by assumption)) | (exfalso; exact of_dF hc (by assumption)))
      | refine all fun v_ => ?_)
    all_goals clear fA_ fH_
    refine retv (VS.drop (List.nil_sublist _)) ?_
    ((with_reducible apply rq1); rfl; rfl)
    refine ret_eq ?_
    have e : ((j : Int) - (w.stem.length : Int)).toNat = j - w.stem.length := by omega
    simp only [List.getElem_append, dif_neg c, e]
    rfl
theorem WordFault (G : List (Nat × List D)) (w : Wd) (p : Int) : ACr Tryz.prog G 204 [wdA w, .int p] (.int (wordF w p)) := by
  refine AC_ofV (ts := [4]) Tryz.f204.ntmps Tryz.func204 rfl rfl rfl (by simp [Tryz.ntmps204]) fun W I => ?_
  by_cases c1 : ¬ (0 ≤ p ∧ p ≤ 6)
  · have e1 := ACr_false (In G p 0 6) c1
    all_goals haveI fA_ : FlagA := ⟨⟩
    all_goals haveI fH_ : FlagH := ⟨⟩
    repeat' (first
      | ((with_reducible apply call0); (focus rfl); (focus exact cal_In); (focus exact e1); (focus rfl))
      | ((with_reducible apply je_call0); (focus rfl); (focus (decide +kernel)); (focus rfl); (focus exact cal_In); (focus exact e1); (focus rfl))
      | exact True.intro
      | refine stp ?_
      | refine two ?_ ?_
      | refine allc fun c_ => ?_
      | (refine imp fun hc => ?_) <;> try (first | contradiction | (exfalso; omega) | (exfalso; exact absurd (of_dT hc) (by assumption)) | (exfalso; exact of_dF hc (by assumption)))
      | refine all fun v_ => ?_)
    all_goals clear fA_ fH_
    refine retv (VS.drop (List.nil_sublist _)) ?_
    ((with_reducible apply rq1); rfl; rfl)
    exact ret_eq (by rw [wordF_2 c1])
  replace c1 := Decidable.not_not.1 c1
  have e1 := ACr_true (In G p 0 6) c1
  by_cases c3 : ¬ w.stem.length ≤ 12
  · 
    all_goals haveI fA_ : FlagA := ⟨⟩
    all_goals haveI fH_ : FlagH := ⟨⟩
    repeat' (first
      | ((with_reducible apply call0); (focus rfl); (focus exact cal_In); (focus exact e1); (focus rfl))
      | ((with_reducible apply je_call0); (focus rfl); (focus (decide +kernel)); (focus rfl); (focus exact cal_In); (focus exact e1); (focus rfl))
      | exact True.intro
      | refine stp ?_
      | refine two ?_ ?_
      | refine allc fun c_ => ?_
      | (refine imp fun hc => ?_) <;> try (first | contradiction | (exfalso; omega) | (exfalso; exact absurd (of_dT hc) (by assumption)) | (exfalso; exact of_dF hc (by assumption)))
      | refine all fun v_ => ?_)
    all_goals clear fA_ fH_
    refine retv (VS.drop (List.nil_sublist _)) ?_
    ((with_reducible apply rq1); rfl; rfl)
    exact ret_eq (by rw [wordF_1 c1 (by omega)])
  by_cases c4 : ¬ (1 ≤ (w.loop.length : Int) ∧ (w.loop.length : Int) ≤ 12)
  · have e2 := ACr_false (In G w.loop.length 1 12) c4
    all_goals haveI fA_ : FlagA := ⟨⟩
    all_goals haveI fH_ : FlagH := ⟨⟩
    repeat' (first
      | ((with_reducible apply call0); (focus rfl); (focus exact cal_In); (focus exact e1); (focus rfl))
      | ((with_reducible apply je_call0); (focus rfl); (focus (decide +kernel)); (focus rfl); (focus exact cal_In); (focus exact e1); (focus rfl))
      | ((with_reducible apply call0); (focus rfl); (focus exact cal_In); (focus exact e2); (focus rfl))
      | ((with_reducible apply je_call0); (focus rfl); (focus (decide +kernel)); (focus rfl); (focus exact cal_In); (focus exact e2); (focus rfl))
      | exact True.intro
      | refine stp ?_
      | refine two ?_ ?_
      | refine allc fun c_ => ?_
      | (refine imp fun hc => ?_) <;> try (first | contradiction | (exfalso; omega) | (exfalso; exact absurd (of_dT hc) (by assumption)) | (exfalso; exact of_dF hc (by assumption)))
      | refine all fun v_ => ?_)
    all_goals clear fA_ fH_
    refine retv (VS.drop (List.nil_sublist _)) ?_
    ((with_reducible apply rq1); rfl; rfl)
    exact ret_eq (by rw [wordF_1 c1 (by omega)])
  replace c4 := Decidable.not_not.1 c4
  have e2 := ACr_true (In G w.loop.length 1 12) c4
  have k2 : w.stem.length ≤ 12 ∧ 1 ≤ w.loop.length ∧ w.loop.length ≤ 12 := by omega
  have hlen : (w.stem ++ w.loop).length = w.stem.length + w.loop.length := List.length_append
  have f0 := wordF_0 (w := w) (p := p) c1 k2
  have f3 := fun i hi h => wordF_3 (w := w) (p := p) c1 k2 (i := i) hi h
  have EL : ∀ (i : Nat) (h : i < (w.stem ++ w.loop).length), ACr Tryz.prog G 171 [wdA w, .int i] (.d (boolsD (w.stem ++ w.loop)[i])) := fun i h => by
    have hm : momN w.stem.length w.loop.length i = i := momN_small (by omega)
    have := letterAt G w i (by omega) (by omega) (by omega) (by omega) (by rw [hm]; exact h)
    simp only [hm] at this
    exact this
  all_goals haveI fA_ : FlagA := ⟨⟩
  all_goals haveI fH_ : FlagH := ⟨⟩
  repeat' (first
    | ((with_reducible apply call0); (focus rfl); (focus exact cal_In); (focus exact e1); (focus rfl))
    | ((with_reducible apply je_call0); (focus rfl); (focus (decide +kernel)); (focus rfl); (focus exact cal_In); (focus exact e1); (focus rfl))
    | ((with_reducible apply call0); (focus rfl); (focus exact cal_In); (focus exact e2); (focus rfl))
    | ((with_reducible apply je_call0); (focus rfl); (focus (decide +kernel)); (focus rfl); (focus exact cal_In); (focus exact e2); (focus rfl))
    | exact True.intro
    | refine stp ?_
    | refine two ?_ ?_
    | refine allc fun c_ => ?_
    | (refine imp fun hc => ?_) <;> try (first | contradiction | (exfalso; omega) | (exfalso; exact absurd (of_dT hc) (by assumption)) | (exfalso; exact of_dF hc (by assumption)))
    | refine all fun v_ => ?_)
  all_goals clear fA_ fH_
  refine J_loopV (X := Nat) (fun i => [(1, .int p), (2, .val (.pointer (some ⟨v_, 0, none⟩))), (5, .int i)]) (fun _ => [.cells v_ 69 [.d (lettD w.stem), .d (lettD w.loop)]]) (fun i => i ≤ (w.stem ++ w.loop).length ∧ ∀ j (h : j < (w.stem ++ w.loop).length), j < i → ((w.stem ++ w.loop)[j].length : Int) = p) (fun i => (w.stem ++ w.loop).length - i) 0 ⟨Nat.zero_le _, fun _ _ h => absurd h (Nat.not_lt_zero _)⟩ (VS.of_le ?_) ?_
  · repeat (first
      | exact Env.le_nil _
      | refine Env.le_cons (AV.le_refl _) ?_
      | refine Env.le_cons (AV.le_int rfl (by first | rfl | omega | (dsimp only; omega))) ?_)
  rintro i ⟨h1, h2⟩
  by_cases hi : ¬ i < (w.stem ++ w.loop).length
  · all_goals haveI fA_ : FlagA := ⟨⟩
    all_goals haveI fH_ : FlagH := ⟨⟩
    repeat' (first
      | exact True.intro
      | refine stp ?_
      | refine two ?_ ?_
      | refine allc fun c_ => ?_
      | (refine imp fun hc => ?_) <;> try (first | contradiction | (exfalso; omega) | (exfalso; exact absurd (of_dT hc) (by assumption)) | (exfalso; exact of_dF hc (by assumption)))
      | refine all fun v_ => ?_)
    all_goals clear fA_ fH_
    refine retv (VS.drop (List.nil_sublist _)) ?_
    ((with_reducible apply rq1); rfl; rfl)
    exact ret_eq (by rw [f0 fun j hj => h2 j hj (by omega)])
  replace hi := Decidable.not_not.1 hi
  have E3 := EL i hi
  by_cases he : ((w.stem ++ w.loop)[i].length : Int) = p
  · all_goals haveI fA_ : FlagA := ⟨⟩
    all_goals haveI fH_ : FlagH := ⟨⟩
    repeat' (first
      | ((with_reducible apply call0); (focus rfl); (focus exact cal_letterAt); (focus exact E3); (focus rfl))
      | ((with_reducible apply je_call0); (focus rfl); (focus (decide +kernel)); (focus rfl); (focus exact cal_letterAt); (focus exact E3); (focus rfl))
      | exact True.intro
      | refine stp ?_
      | refine two ?_ ?_
      | refine allc fun c_ => ?_
      | (refine imp fun hc => ?_) <;> try (first | contradiction | (exfalso; omega) | (exfalso; exact absurd (of_dT hc) (by assumption)) | (exfalso; exact of_dF hc (by assumption)))
      | refine all fun v_ => ?_)
    all_goals clear fA_ fH_
    refine ⟨i + 1, ⟨by omega, fun j hj hji => ?_⟩, by omega, VS.of_le ?_⟩
    · by_cases e : j = i
      · subst e; exact he
      · exact h2 j hj (by omega)
    · repeat (first
        | exact Env.le_nil _
        | refine Env.le_cons (AV.le_refl _) ?_
        | refine Env.le_cons (AV.le_int rfl (by first | rfl | omega | (dsimp only; omega))) ?_)
  · all_goals haveI fA_ : FlagA := ⟨⟩
    all_goals haveI fH_ : FlagH := ⟨⟩
    repeat' (first
      | ((with_reducible apply call0); (focus rfl); (focus exact cal_letterAt); (focus exact E3); (focus rfl))
      | ((with_reducible apply je_call0); (focus rfl); (focus (decide +kernel)); (focus rfl); (focus exact cal_letterAt); (focus exact E3); (focus rfl))
      | exact True.intro
      | refine stp ?_
      | refine two ?_ ?_
      | refine allc fun c_ => ?_
      | (refine imp fun hc => ?_) <;> try (first | contradiction | (exfalso; omega) | (exfalso; exact absurd (of_dT hc) (by assumption)) | (exfalso; exact of_dF hc (by assumption)))
      | refine all fun v_ => ?_)
    all_goals clear fA_ fH_
    refine retv (VS.drop (List.nil_sublist _)) ?_
    ((with_reducible apply rq1); rfl; rfl)
    exact ret_eq (by rw [f3 i hi he])
end Go.Proofs.YtcikppldaepodaaGreatDoor
