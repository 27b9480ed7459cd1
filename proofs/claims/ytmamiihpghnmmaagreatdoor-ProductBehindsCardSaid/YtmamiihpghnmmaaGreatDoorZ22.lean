/- A bundle of this claim's own texts: N14 Top G17. -/
import Derived.Test.YtmamiihpghnmmaaGreatDoorCards
import Derived.Test.YtmamiihpghnmmaaGreatDoorTie
import Derived.WalkKit
import Derived.ProofKit
import Derived.OpenShut
import Derived.Deep.DeepHandedRow
import Derived.Lib.LaidTab
import Derived.Test.YtmamiihpghnmmaaGreatDoorZ16
import Derived.Test.YtmamiihpghnmmaaGreatDoorZ20
import Derived.Test.YtmamiihpghnmmaaGreatDoorZ21
namespace Go.Proofs.YtmamiihpghnmmaaGreatDoor
open Go Go.Av Go.Sp
set_option linter.unusedVariables false
set_option linter.unusedSimpArgs false
set_option maxRecDepth 100000
set_option maxHeartbeats 4000000
theorem cal_spot : Cal Tryz.prog 23 := Cal.of Tryz.func23 (by kernel_rfl) (by kernel_rfl)
theorem cal_Behind : Cal Tryz.prog 7 := Cal.of Tryz.func7 (by kernel_rfl) (by kernel_rfl)
theorem cal_BehindOf : Cal Tryz.prog 9 := Cal.of Tryz.func9 (by kernel_rfl) (by kernel_rfl)
theorem spot (t : Tk) (hm : modelF t.model = 0) (st cl : Int) : ACr Tryz.prog GP 23 [tkA t, .agg [.int st, .int cl]] (.bool (decide ((0 ≤ st ∧ st < prodV t.model.vars) ∧ 0 ≤ cl ∧ cl < claimsF t))) := by
  have hC := Count t.model
  unfold countF at hC
  rw [if_neg (fun k => k hm)] at hC
  dsimp only at hC
  have hM := claims t
  generalize prodV t.model.vars = n at hC ⊢
  generalize claimsF t = N at hM ⊢
  refine AC_ofV (ts := [4]) Tryz.f23.ntmps Tryz.func23 rfl rfl rfl (by simp [Tryz.ntmps23]) fun W I => ?_
  by_cases c0 : 0 ≤ st
  · by_cases c1 : st < n
    · by_cases c2 : 0 ≤ cl
      · by_cases c3 : cl < N
        · all_goals haveI fA_ : FlagA := ⟨⟩
          repeat' (first
            | ((with_reducible apply call0); (focus rfl); (focus exact cal_Count); (focus exact hC); (focus rfl))
            | ((with_reducible apply je_call0); (focus rfl); (focus (decide +kernel)); (focus rfl); (focus exact cal_Count); (focus exact hC); (focus rfl))
            | ((with_reducible apply qcall); (focus rfl); (focus exact cal_claims); (focus exact hM); (focus rfl))
            | exact True.intro
            | refine stp ?_
            | refine two ?_ ?_
            | (refine imp fun hc => ?_) <;> try (first | contradiction | (exfalso; omega))
            | refine all fun v_ => ?_)
          all_goals clear fA_
          all_goals
            refine retv (VS.drop (List.nil_sublist _)) ?_
            ((with_reducible apply rq1); rfl; rfl)
            refine ret_eq (congrArg AV.bool ?_)
            (first | rfl | (refine decide_eq_decide.2 ?_; omega) | (refine (decide_eq_true ?_).symm; omega) | (refine (decide_eq_false ?_).symm; omega) | (refine decide_eq_true ?_; omega) | (refine decide_eq_false ?_; omega))
        · all_goals haveI fA_ : FlagA := ⟨⟩
          repeat' (first
            | ((with_reducible apply call0); (focus rfl); (focus exact cal_Count); (focus exact hC); (focus rfl))
            | ((with_reducible apply je_call0); (focus rfl); (focus (decide +kernel)); (focus rfl); (focus exact cal_Count); (focus exact hC); (focus rfl))
            | ((with_reducible apply qcall); (focus rfl); (focus exact cal_claims); (focus exact hM); (focus rfl))
            | exact True.intro
            | refine stp ?_
            | refine two ?_ ?_
            | (refine imp fun hc => ?_) <;> try (first | contradiction | (exfalso; omega))
            | refine all fun v_ => ?_)
          all_goals clear fA_
          all_goals
            refine retv (VS.drop (List.nil_sublist _)) ?_
            ((with_reducible apply rq1); rfl; rfl)
            refine ret_eq (congrArg AV.bool ?_)
            (first | rfl | (refine decide_eq_decide.2 ?_; omega) | (refine (decide_eq_true ?_).symm; omega) | (refine (decide_eq_false ?_).symm; omega) | (refine decide_eq_true ?_; omega) | (refine decide_eq_false ?_; omega))
      · all_goals haveI fA_ : FlagA := ⟨⟩
        repeat' (first
          | ((with_reducible apply call0); (focus rfl); (focus exact cal_Count); (focus exact hC); (focus rfl))
          | ((with_reducible apply je_call0); (focus rfl); (focus (decide +kernel)); (focus rfl); (focus exact cal_Count); (focus exact hC); (focus rfl))
          | ((with_reducible apply qcall); (focus rfl); (focus exact cal_claims); (focus exact hM); (focus rfl))
          | exact True.intro
          | refine stp ?_
          | refine two ?_ ?_
          | (refine imp fun hc => ?_) <;> try (first | contradiction | (exfalso; omega))
          | refine all fun v_ => ?_)
        all_goals clear fA_
        all_goals
          refine retv (VS.drop (List.nil_sublist _)) ?_
          ((with_reducible apply rq1); rfl; rfl)
          refine ret_eq (congrArg AV.bool ?_)
          (first | rfl | (refine decide_eq_decide.2 ?_; omega) | (refine (decide_eq_true ?_).symm; omega) | (refine (decide_eq_false ?_).symm; omega) | (refine decide_eq_true ?_; omega) | (refine decide_eq_false ?_; omega))
    · all_goals haveI fA_ : FlagA := ⟨⟩
      repeat' (first
        | ((with_reducible apply call0); (focus rfl); (focus exact cal_Count); (focus exact hC); (focus rfl))
        | ((with_reducible apply je_call0); (focus rfl); (focus (decide +kernel)); (focus rfl); (focus exact cal_Count); (focus exact hC); (focus rfl))
        | ((with_reducible apply qcall); (focus rfl); (focus exact cal_claims); (focus exact hM); (focus rfl))
        | exact True.intro
        | refine stp ?_
        | refine two ?_ ?_
        | (refine imp fun hc => ?_) <;> try (first | contradiction | (exfalso; omega))
        | refine all fun v_ => ?_)
      all_goals clear fA_
      all_goals
        refine retv (VS.drop (List.nil_sublist _)) ?_
        ((with_reducible apply rq1); rfl; rfl)
        refine ret_eq (congrArg AV.bool ?_)
        (first | rfl | (refine decide_eq_decide.2 ?_; omega) | (refine (decide_eq_true ?_).symm; omega) | (refine (decide_eq_false ?_).symm; omega) | (refine decide_eq_true ?_; omega) | (refine decide_eq_false ?_; omega))
  · all_goals haveI fA_ : FlagA := ⟨⟩
    repeat' (first
      | ((with_reducible apply call0); (focus rfl); (focus exact cal_Count); (focus exact hC); (focus rfl))
      | ((with_reducible apply je_call0); (focus rfl); (focus (decide +kernel)); (focus rfl); (focus exact cal_Count); (focus exact hC); (focus rfl))
      | ((with_reducible apply qcall); (focus rfl); (focus exact cal_claims); (focus exact hM); (focus rfl))
      | exact True.intro
      | refine stp ?_
      | refine two ?_ ?_
      | (refine imp fun hc => ?_) <;> try (first | contradiction | (exfalso; omega))
      | refine all fun v_ => ?_)
    all_goals clear fA_
    all_goals
      refine retv (VS.drop (List.nil_sublist _)) ?_
      ((with_reducible apply rq1); rfl; rfl)
      refine ret_eq (congrArg AV.bool ?_)
      (first | rfl | (refine decide_eq_decide.2 ?_; omega) | (refine (decide_eq_true ?_).symm; omega) | (refine (decide_eq_false ?_).symm; omega) | (refine decide_eq_true ?_; omega) | (refine decide_eq_false ?_; omega))
theorem Behind (t : Tk) (st cl : Int) : ACr Tryz.prog GP 7 [tkA t, .agg [.int st, .int cl]] (.tup [.d (opsD (behindF t st cl).1), .int (behindF t st cl).2]) := by
  have hP := PCheck t
  refine AC_ofV (ts := [4, 5]) Tryz.f7.ntmps Tryz.func7 rfl rfl rfl (by simp [Tryz.ntmps7]) fun W I => ?_
  unfold behindF
  by_cases h1 : taskF t ≠ 0
  · rw [if_pos h1]
    generalize taskF t = e at hP h1
    all_goals haveI fA_ : FlagA := ⟨⟩
    all_goals haveI fH_ : FlagH := ⟨⟩
    repeat' (first
      | ((with_reducible apply call0); (focus rfl); (focus exact cal_PCheck); (focus exact hP); (focus rfl))
      | ((with_reducible apply je_call0); (focus rfl); (focus (decide +kernel)); (focus rfl); (focus exact cal_PCheck); (focus exact hP); (focus rfl))
      | exact True.intro
      | refine stp ?_
      | refine two ?_ ?_
      | refine allc fun c_ => ?_
      | (refine imp fun hc => ?_) <;> try (first | contradiction | (exfalso; omega) | (exfalso; exact absurd (of_dT hc) (by assumption)) | (exfalso; exact of_dF hc (by assumption)))
      | refine all fun v_ => ?_)
    all_goals clear fA_ fH_
    refine retv (VS.trans (VS.drop (List.nil_sublist _)) (vnil (t := 4) 2 16 rfl)) ?_
    ((with_reducible apply rq2); rfl; rfl; rfl)
    exact ret_eq rfl
  rw [if_neg h1]
  replace h1 := Decidable.not_not.1 h1
  rw [h1] at hP
  obtain ⟨a1, a2, a3⟩ := taskF_ok h1
  obtain ⟨n, hn, n1, n2⟩ := states_nat a3
  have hS := spot t a3 st cl
  by_cases hin : ¬ ((0 ≤ st ∧ st < prodV t.model.vars) ∧ 0 ≤ cl ∧ cl < claimsF t)
  · rw [if_pos hin]
    rw [decide_eq_false hin] at hS
    all_goals haveI fA_ : FlagA := ⟨⟩
    all_goals haveI fH_ : FlagH := ⟨⟩
    repeat' (first
      | ((with_reducible apply call0); (focus rfl); (focus exact cal_PCheck); (focus exact hP); (focus rfl))
      | ((with_reducible apply je_call0); (focus rfl); (focus (decide +kernel)); (focus rfl); (focus exact cal_PCheck); (focus exact hP); (focus rfl))
      | ((with_reducible apply call0); (focus rfl); (focus exact cal_spot); (focus exact hS); (focus rfl))
      | ((with_reducible apply je_call0); (focus rfl); (focus (decide +kernel)); (focus rfl); (focus exact cal_spot); (focus exact hS); (focus rfl))
      | exact True.intro
      | refine stp ?_
      | refine two ?_ ?_
      | refine allc fun c_ => ?_
      | (refine imp fun hc => ?_) <;> try (first | contradiction | (exfalso; omega) | (exfalso; exact absurd (of_dT hc) (by assumption)) | (exfalso; exact of_dF hc (by assumption)))
      | refine all fun v_ => ?_)
    all_goals clear fA_ fH_
    refine retv (VS.trans (VS.drop (List.nil_sublist _)) (vnil (t := 4) 2 16 rfl)) ?_
    ((with_reducible apply rq2); rfl; rfl; rfl)
    exact ret_eq rfl
  rw [if_neg hin]
  replace hin := Decidable.not_not.1 hin
  rw [decide_eq_true hin] at hS
  have hsl := nextF_len a3 st
  have hrg := nextF_range a3 st
  have hlet := fun c k0 k1 => lettF_ok (t := t) (c := c) h1 k0 k1
  have hfo := fun c d => follows_ok (t := t) (st := st) (cl := cl) (c := c) (d := d) h1
  have hyes := fun c k => folL_yes (t := t) (st := st) (cl := cl) (c := c) (k := k)
  have hno := fun c k => folL_no (t := t) (st := st) (cl := cl) (c := c) (k := k)
  have hfl := fun c k => folL_len t st cl c k
  have hbs := fun cs i h => behL_succ t st cl cs i h
  have hbl := fun cs => behL_len t st cl cs
  have hm64 := claims_few t
  have hb0 : behL t st cl [] = [] := rfl
  have hf0 : ∀ c, folL t st cl c 0 = [] := fun c => rfl
  obtain ⟨⟨g1, g2⟩, g3, g4⟩ := hin
  have hL := Letter t.model t.props st
  rw [lettF_ok h1 g1 g2] at hL
  dsimp only at hL
  have hN := Next t.model st
  have hM := claims t
  generalize nextF t.model st = p at hN hsl hrg ⊢
  obtain ⟨cs, e⟩ := p
  dsimp only at hN hsl hrg ⊢
  all_goals haveI fA_ : FlagA := ⟨⟩
  all_goals haveI fH_ : FlagH := ⟨⟩
  repeat' (first
    | ((with_reducible apply call0); (focus rfl); (focus exact cal_PCheck); (focus exact hP); (focus rfl))
    | ((with_reducible apply je_call0); (focus rfl); (focus (decide +kernel)); (focus rfl); (focus exact cal_PCheck); (focus exact hP); (focus rfl))
    | ((with_reducible apply call0); (focus rfl); (focus exact cal_spot); (focus exact hS); (focus rfl))
    | ((with_reducible apply je_call0); (focus rfl); (focus (decide +kernel)); (focus rfl); (focus exact cal_spot); (focus exact hS); (focus rfl))
    | ((with_reducible apply call0); (focus rfl); (focus exact cal_Letter); (focus exact hL); (focus rfl))
    | ((with_reducible apply je_call0); (focus rfl); (focus (decide +kernel)); (focus rfl); (focus exact cal_Letter); (focus exact hL); (focus rfl))
    | ((with_reducible apply call0); (focus rfl); (focus exact cal_Next); (focus exact hN); (focus rfl))
    | ((with_reducible apply je_call0); (focus rfl); (focus (decide +kernel)); (focus rfl); (focus exact cal_Next); (focus exact hN); (focus rfl))
    | exact True.intro
    | refine stp ?_
    | refine two ?_ ?_
    | refine allc fun c_ => ?_
    | (refine imp fun hc => ?_) <;> try (first | contradiction | (exfalso; omega) | (exfalso; exact absurd (of_dT hc) (by assumption)) | (exfalso; exact of_dF hc (by assumption)))
    | refine all fun v_ => ?_)
  all_goals clear fA_ fH_
  obtain ⟨bs, rfl⟩ : ∃ x, x = v_ := ⟨v_, rfl⟩
  obtain ⟨bt, rfl⟩ : ∃ x, x = v_ := ⟨v_, rfl⟩
  refine jrow (E := 31) (sz := 2) Fo.cells ?_
  refine J_loopV (X := Nat × Sl) (fun y => [(2, .val (.pointer (some ⟨bt, 0, none⟩))), (3, .val (.pointer (some ⟨bs, 0, none⟩))), (7, .d (boolsD (lettF t st))), (11, .val y.2.v), (46, .d (intsD cs)), (47, .int cs.length), (48, .int y.1)]) (fun y => [rowE y.2.v 31 2 Fo.cells (behL t st cl (cs.take y.1)), .cells bs 31 [.int st, .int cl], .cells bt 29 [.d (varsD t.model.vars), .d (rulesD t.model.rules), .d (termsD t.props), .d (opsD t.formula)]]) (fun y => y.1 ≤ cs.length) (fun y => cs.length - y.1) (0, Sl.nil) (Nat.zero_le _) (VS.take (by ((repeat (first | exact Take.nil | ((with_reducible apply Take.cons); (focus ((repeat (first | exact Sel.here | with_reducible apply Sel.there)); done))))); done)) ?_) ?_
  · repeat (first
      | exact Env.le_nil _
      | refine Env.le_cons (AV.le_refl _) ?_
      | refine Env.le_cons (AV.le_int rfl (by first | rfl | omega | (dsimp only; omega))) ?_)
  rintro ⟨i, q⟩ hi
  dsimp only at hi ⊢
  have hbi := hbl (cs.take i)
  rw [List.length_take] at hbi
  by_cases hil : i < cs.length
  · obtain ⟨r1, r2⟩ := hrg _ (List.getElem_mem hil)
    have hbs := hbs cs i hil
    have hL2 := Letter t.model t.props cs[i]
    rw [hlet _ r1 r2] at hL2
    dsimp only at hL2
    have hfo := fun d => hfo cs[i] d g3 g4
    have hyes := hyes cs[i]
    have hno := hno cs[i]
    have hfl := hfl cs[i]
    have hf0 := hf0 cs[i]
    generalize hnx : lettF t cs[i] = nx at hL2 hfo
    generalize lettF t st = lt at hL hfo ⊢
    generalize folL t st cl cs[i] = F at hyes hno hfl hf0 hbs
    generalize folB t st cl cs[i] = fb at hyes hno hfo
    generalize behL t st cl (cs.take i) = B at hbi hbs ⊢
    generalize claimsF t = N at hM hfo hm64 hbs ⊢
    all_goals haveI fA_ : FlagA := ⟨⟩
    all_goals haveI fH_ : FlagH := ⟨⟩
    repeat' (first
      | ((with_reducible apply call0); (focus rfl); (focus exact cal_Letter); (focus exact hL2); (focus rfl))
      | ((with_reducible apply je_call0); (focus rfl); (focus (decide +kernel)); (focus rfl); (focus exact cal_Letter); (focus exact hL2); (focus rfl))
      | ((with_reducible apply call0); (focus rfl); (focus exact cal_claims); (focus exact hM); (focus rfl))
      | exact True.intro
      | refine stp ?_
      | refine two ?_ ?_
      | refine allc fun c_ => ?_
      | (refine imp fun hc => ?_) <;> try (first | contradiction | (exfalso; omega) | (exfalso; exact absurd (of_dT hc) (by assumption)) | (exfalso; exact of_dF hc (by assumption)))
      | refine all fun v_ => ?_)
    all_goals clear fA_ fH_
    have e0 : B = B ++ F 0 := by rw [hf0, List.append_nil]
    refine J_loopV (X := Nat × Sl) (fun y => [(2, .val (.pointer (some ⟨bt, 0, none⟩))), (3, .val (.pointer (some ⟨bs, 0, none⟩))), (7, .d (boolsD lt)), (11, .val y.2.v), (13, .int cs[i]), (14, .d (boolsD nx)), (46, .d (intsD cs)), (47, .int cs.length), (48, .int i), (62, .int N), (63, .int y.1)]) (fun y => [rowE y.2.v 31 2 Fo.cells (B ++ F y.1), .cells bs 31 [.int st, .int cl], .cells bt 29 [.d (varsD t.model.vars), .d (rulesD t.model.rules), .d (termsD t.props), .d (opsD t.formula)]]) (fun y => y.1 ≤ N) (fun y => N - y.1) (0, q) (Nat.zero_le _) (VS.take (by dsimp only; rw [← e0]; ((repeat (first | exact Take.nil | ((with_reducible apply Take.cons); (focus ((repeat (first | exact Sel.here | with_reducible apply Sel.there)); done))))); done)) ?_) ?_
    · repeat (first
        | exact Env.le_nil _
        | refine Env.le_cons (AV.le_refl _) ?_
        | refine Env.le_cons (AV.le_int rfl (by first | rfl | omega | (dsimp only; omega))) ?_)
    clear e0
    rintro ⟨k, q⟩ hk
    dsimp only at hk ⊢
    have hfk := hfl k
    have hal : (B ++ F k).length = B.length + (F k).length := List.length_append
    by_cases hkl : k < N
    · have hFo := Follows t.formula lt cl nx k
      rw [hfo k (by omega) (by omega)] at hFo
      dsimp only at hFo
      cases hb : fb k with
      | true =>
        rw [hb] at hFo
        have hy := hyes k hb
        all_goals haveI fA_ : FlagA := ⟨⟩
        all_goals haveI fH_ : FlagH := ⟨⟩
        repeat' (first
          | ((with_reducible apply call0); (focus rfl); (focus exact cal_Follows); (focus exact hFo); (focus rfl))
          | ((with_reducible apply je_call0); (focus rfl); (focus (decide +kernel)); (focus rfl); (focus exact cal_Follows); (focus exact hFo); (focus rfl))
          | ((with_reducible apply (japU1 (f := Fo.cells) (u := ⟨cs[i], (k : Int)⟩))); (focus rfl); (focus rfl); (focus (with_reducible exact ElC.h)); (focus (intro q_; (repeat (first | with_reducible exact Upd.here | with_reducible apply Upd.there)); done)); (focus rfl); (focus rfl); (focus rfl); (focus rfl); (focus (first | omega | (simp only [List.length_map, List.length_range, List.length_append, List.length_cons, List.length_nil, List.length_take, List.length_drop, List.length_set, List.length_replicate]; omega))); (focus (first | omega | (simp only [List.length_map, List.length_range, List.length_append, List.length_cons, List.length_nil, List.length_take, List.length_drop, List.length_set, List.length_replicate]; omega))))
          | exact True.intro
          | refine stp ?_
          | refine two ?_ ?_
          | refine allc fun c_ => ?_
          | (refine imp fun hc => ?_) <;> try (first | contradiction | (exfalso; omega) | (exfalso; exact absurd (of_dT hc) (by assumption)) | (exfalso; exact of_dF hc (by assumption)))
          | refine all fun v_ => ?_)
        all_goals clear fA_ fH_
        refine ⟨(k + 1, v_), by dsimp only; omega, by dsimp only; omega, VS.take (by dsimp only; rw [hy, ← List.append_assoc]; ((repeat (first | exact Take.nil | ((with_reducible apply Take.cons); (focus ((repeat (first | exact Sel.here | with_reducible apply Sel.there)); done))))); done)) ?_⟩
        repeat (first
          | exact Env.le_nil _
          | refine Env.le_cons (AV.le_refl _) ?_
          | refine Env.le_cons (AV.le_int rfl (by first | rfl | omega | (dsimp only; omega))) ?_)
      | false =>
        rw [hb] at hFo
        have hy := hno k hb
        all_goals haveI fA_ : FlagA := ⟨⟩
        all_goals haveI fH_ : FlagH := ⟨⟩
        repeat' (first
          | ((with_reducible apply call0); (focus rfl); (focus exact cal_Follows); (focus exact hFo); (focus rfl))
          | ((with_reducible apply je_call0); (focus rfl); (focus (decide +kernel)); (focus rfl); (focus exact cal_Follows); (focus exact hFo); (focus rfl))
          | ((with_reducible apply (japU1 (f := Fo.cells) (u := ⟨cs[i], (k : Int)⟩))); (focus rfl); (focus rfl); (focus (with_reducible exact ElC.h)); (focus (intro q_; (repeat (first | with_reducible exact Upd.here | with_reducible apply Upd.there)); done)); (focus rfl); (focus rfl); (focus rfl); (focus rfl); (focus (first | omega | (simp only [List.length_map, List.length_range, List.length_append, List.length_cons, List.length_nil, List.length_take, List.length_drop, List.length_set, List.length_replicate]; omega))); (focus (first | omega | (simp only [List.length_map, List.length_range, List.length_append, List.length_cons, List.length_nil, List.length_take, List.length_drop, List.length_set, List.length_replicate]; omega))))
          | exact True.intro
          | refine stp ?_
          | refine two ?_ ?_
          | refine allc fun c_ => ?_
          | (refine imp fun hc => ?_) <;> try (first | contradiction | (exfalso; omega) | (exfalso; exact absurd (of_dT hc) (by assumption)) | (exfalso; exact of_dF hc (by assumption)))
          | refine all fun v_ => ?_)
        all_goals clear fA_ fH_
        refine ⟨(k + 1, q), by dsimp only; omega, by dsimp only; omega, VS.take (by dsimp only; rw [hy]; ((repeat (first | exact Take.nil | ((with_reducible apply Take.cons); (focus ((repeat (first | exact Sel.here | with_reducible apply Sel.there)); done))))); done)) ?_⟩
        repeat (first
          | exact Env.le_nil _
          | refine Env.le_cons (AV.le_refl _) ?_
          | refine Env.le_cons (AV.le_int rfl (by first | rfl | omega | (dsimp only; omega))) ?_)
    obtain rfl : k = N := by omega
    all_goals haveI fA_ : FlagA := ⟨⟩
    all_goals haveI fH_ : FlagH := ⟨⟩
    repeat' (first
      | exact True.intro
      | refine stp ?_
      | refine two ?_ ?_
      | refine allc fun c_ => ?_
      | (refine imp fun hc => ?_) <;> try (first | contradiction | (exfalso; omega) | (exfalso; exact absurd (of_dT hc) (by assumption)) | (exfalso; exact of_dF hc (by assumption)))
      | refine all fun v_ => ?_)
    all_goals clear fA_ fH_
    refine ⟨(i + 1, q), by dsimp only; omega, by dsimp only; omega, VS.take (by dsimp only; rw [hbs]; ((repeat (first | exact Take.nil | ((with_reducible apply Take.cons); (focus ((repeat (first | exact Sel.here | with_reducible apply Sel.there)); done))))); done)) ?_⟩
    repeat (first
      | exact Env.le_nil _
      | refine Env.le_cons (AV.le_refl _) ?_
      | refine Env.le_cons (AV.le_int rfl (by first | rfl | omega | (dsimp only; omega))) ?_)
  obtain rfl : i = cs.length := by omega
  rw [List.take_length]
  all_goals haveI fA_ : FlagA := ⟨⟩
  all_goals haveI fH_ : FlagH := ⟨⟩
  repeat' (first
    | exact True.intro
    | refine stp ?_
    | refine two ?_ ?_
    | refine allc fun c_ => ?_
    | (refine imp fun hc => ?_) <;> try (first | contradiction | (exfalso; omega) | (exfalso; exact absurd (of_dT hc) (by assumption)) | (exfalso; exact of_dF hc (by assumption)))
    | refine all fun v_ => ?_)
  all_goals clear fA_ fH_
  refine retv (VS.trans (vfreeze (t := 4) (eb := 16) rfl rfl (fun x => rfl) (by have := hbl cs; omega)) (VS.drop (List.nil_sublist _))) ?_
  ((with_reducible apply rq2); rfl; rfl; rfl)
  exact ret_eq rfl
theorem BehindOf (G : List (Nat × List D)) (t : Tk) (st cl : Int) : ACr Tryz.prog G 9 [tkA t, .agg [.int st, .int cl]] (.tup [.d (opsD (behindF t st cl).1), .int (behindF t st cl).2]) := by
  have hP := TaskFault G t
  refine AC_ofV (ts := [4, 5]) Tryz.f9.ntmps Tryz.func9 rfl rfl rfl (by simp [Tryz.ntmps9]) fun W I => ?_
  unfold behindF
  by_cases h1 : taskF t ≠ 0
  · rw [if_pos h1]
    generalize taskF t = e at hP h1
    all_goals haveI fA_ : FlagA := ⟨⟩
    all_goals haveI fH_ : FlagH := ⟨⟩
    repeat' (first
      | ((with_reducible apply call0); (focus rfl); (focus exact cal_TaskFault); (focus exact hP); (focus rfl))
      | ((with_reducible apply je_call0); (focus rfl); (focus (decide +kernel)); (focus rfl); (focus exact cal_TaskFault); (focus exact hP); (focus rfl))
      | exact True.intro
      | refine stp ?_
      | refine two ?_ ?_
      | refine allc fun c_ => ?_
      | (refine imp fun hc => ?_) <;> try (first | contradiction | (exfalso; omega) | (exfalso; exact absurd (of_dT hc) (by assumption)) | (exfalso; exact of_dF hc (by assumption)))
      | refine all fun v_ => ?_)
    all_goals clear fA_ fH_
    refine retv (VS.trans (VS.drop (List.nil_sublist _)) (vnil (t := 4) 2 16 rfl)) ?_
    ((with_reducible apply rq2); rfl; rfl; rfl)
    exact ret_eq rfl
  rw [if_neg h1]
  replace h1 := Decidable.not_not.1 h1
  rw [h1] at hP
  obtain ⟨a1, a2, a3⟩ := taskF_ok h1
  obtain ⟨n, hn, n1, n2⟩ := states_nat a3
  have hC := StateCount G t.model
  unfold countF at hC
  rw [if_neg (fun k => k a3)] at hC
  dsimp only at hC
  have hM := manyClaims G t
  have hm64 := claims_few t
  by_cases hin : ¬ ((0 ≤ st ∧ st < prodV t.model.vars) ∧ 0 ≤ cl ∧ cl < claimsF t)
  · rw [if_pos hin]
    rw [hn] at hC hin
    generalize claimsF t = N at hM hin hm64
    by_cases c0 : 0 ≤ st ∧ st ≤ (n : Int) - 1
    · by_cases c1 : 0 ≤ cl ∧ cl ≤ (N : Int) - 1
      · exact absurd ⟨⟨c0.1, by omega⟩, c1.1, by omega⟩ hin
      · all_goals haveI fA_ : FlagA := ⟨⟩
        all_goals haveI fH_ : FlagH := ⟨⟩
        repeat' (first
          | ((with_reducible apply call0); (focus rfl); (focus exact cal_TaskFault); (focus exact hP); (focus rfl))
          | ((with_reducible apply je_call0); (focus rfl); (focus (decide +kernel)); (focus rfl); (focus exact cal_TaskFault); (focus exact hP); (focus rfl))
          | ((with_reducible apply call0); (focus rfl); (focus exact cal_StateCount); (focus exact hC); (focus rfl))
          | ((with_reducible apply je_call0); (focus rfl); (focus (decide +kernel)); (focus rfl); (focus exact cal_StateCount); (focus exact hC); (focus rfl))
          | ((with_reducible apply call0); (focus rfl); (focus exact cal_manyClaims); (focus exact hM); (focus rfl))
          | ((with_reducible apply je_call0); (focus rfl); (focus (decide +kernel)); (focus rfl); (focus exact cal_manyClaims); (focus exact hM); (focus rfl))
          | ((with_reducible apply call0); (focus rfl); (focus exact cal_In); (focus exact In _ _ _ _); (focus rfl))
          | ((with_reducible apply je_call0); (focus rfl); (focus (decide +kernel)); (focus rfl); (focus exact cal_In); (focus exact In _ _ _ _); (focus rfl))
          | exact True.intro
          | refine stp ?_
          | refine two ?_ ?_
          | refine allc fun c_ => ?_
          | (refine imp fun hc => ?_) <;> try (first | contradiction | (exfalso; omega) | (exfalso; exact absurd (of_dT hc) (by assumption)) | (exfalso; exact of_dF hc (by assumption)))
          | refine all fun v_ => ?_)
        all_goals clear fA_ fH_
        all_goals
          refine retv (VS.trans (VS.drop (List.nil_sublist _)) (vnil (t := 4) 2 16 rfl)) ?_
          ((with_reducible apply rq2); rfl; rfl; rfl)
          exact ret_eq rfl
    · all_goals haveI fA_ : FlagA := ⟨⟩
      all_goals haveI fH_ : FlagH := ⟨⟩
      repeat' (first
        | ((with_reducible apply call0); (focus rfl); (focus exact cal_TaskFault); (focus exact hP); (focus rfl))
        | ((with_reducible apply je_call0); (focus rfl); (focus (decide +kernel)); (focus rfl); (focus exact cal_TaskFault); (focus exact hP); (focus rfl))
        | ((with_reducible apply call0); (focus rfl); (focus exact cal_StateCount); (focus exact hC); (focus rfl))
        | ((with_reducible apply je_call0); (focus rfl); (focus (decide +kernel)); (focus rfl); (focus exact cal_StateCount); (focus exact hC); (focus rfl))
        | ((with_reducible apply call0); (focus rfl); (focus exact cal_manyClaims); (focus exact hM); (focus rfl))
        | ((with_reducible apply je_call0); (focus rfl); (focus (decide +kernel)); (focus rfl); (focus exact cal_manyClaims); (focus exact hM); (focus rfl))
        | ((with_reducible apply call0); (focus rfl); (focus exact cal_In); (focus exact In _ _ _ _); (focus rfl))
        | ((with_reducible apply je_call0); (focus rfl); (focus (decide +kernel)); (focus rfl); (focus exact cal_In); (focus exact In _ _ _ _); (focus rfl))
        | exact True.intro
        | refine stp ?_
        | refine two ?_ ?_
        | refine allc fun c_ => ?_
        | (refine imp fun hc => ?_) <;> try (first | contradiction | (exfalso; omega) | (exfalso; exact absurd (of_dT hc) (by assumption)) | (exfalso; exact of_dF hc (by assumption)))
        | refine all fun v_ => ?_)
      all_goals clear fA_ fH_
      all_goals
        refine retv (VS.trans (VS.drop (List.nil_sublist _)) (vnil (t := 4) 2 16 rfl)) ?_
        ((with_reducible apply rq2); rfl; rfl; rfl)
        exact ret_eq rfl
  rw [if_neg hin]
  replace hin := Decidable.not_not.1 hin
  have hsl := nextF_len a3 st
  have hrg := nextF_range a3 st
  have hlet := fun c k0 k1 => lettF_ok (t := t) (c := c) h1 k0 k1
  have hfo := fun c d => follows_ok (t := t) (st := st) (cl := cl) (c := c) (d := d) h1
  have hyes := fun c k => folL_yes (t := t) (st := st) (cl := cl) (c := c) (k := k)
  have hno := fun c k => folL_no (t := t) (st := st) (cl := cl) (c := c) (k := k)
  have hfl := fun c k => folL_len t st cl c k
  have hbs := fun cs i h => behL_succ t st cl cs i h
  have hbl := fun cs => behL_len t st cl cs
  have hm64 := claims_few t
  have hb0 : behL t st cl [] = [] := rfl
  have hf0 : ∀ c, folL t st cl c 0 = [] := fun c => rfl
  obtain ⟨⟨g1, g2⟩, g3, g4⟩ := hin
  have hL := LetterOf G t.model t.props st
  rw [lettF_ok h1 g1 g2] at hL
  dsimp only at hL
  have hN := NextOf G t.model st
  rw [hn] at hC g2
  generalize nextF t.model st = p at hN hsl hrg ⊢
  obtain ⟨cs, e⟩ := p
  dsimp only at hN hsl hrg ⊢
  have hcl0 : 0 ≤ cl ∧ cl ≤ (claimsF t : Int) - 1 := ⟨g3, by omega⟩
  have hst0 : 0 ≤ st ∧ st ≤ (n : Int) - 1 := ⟨g1, by omega⟩
  all_goals haveI fA_ : FlagA := ⟨⟩
  all_goals haveI fH_ : FlagH := ⟨⟩
  repeat' (first
    | ((with_reducible apply call0); (focus rfl); (focus exact cal_TaskFault); (focus exact hP); (focus rfl))
    | ((with_reducible apply je_call0); (focus rfl); (focus (decide +kernel)); (focus rfl); (focus exact cal_TaskFault); (focus exact hP); (focus rfl))
    | ((with_reducible apply call0); (focus rfl); (focus exact cal_StateCount); (focus exact hC); (focus rfl))
    | ((with_reducible apply je_call0); (focus rfl); (focus (decide +kernel)); (focus rfl); (focus exact cal_StateCount); (focus exact hC); (focus rfl))
    | ((with_reducible apply call0); (focus rfl); (focus exact cal_manyClaims); (focus exact hM); (focus rfl))
    | ((with_reducible apply je_call0); (focus rfl); (focus (decide +kernel)); (focus rfl); (focus exact cal_manyClaims); (focus exact hM); (focus rfl))
    | ((with_reducible apply call0); (focus rfl); (focus exact cal_In); (focus exact In _ _ _ _); (focus rfl))
    | ((with_reducible apply je_call0); (focus rfl); (focus (decide +kernel)); (focus rfl); (focus exact cal_In); (focus exact In _ _ _ _); (focus rfl))
    | ((with_reducible apply call0); (focus rfl); (focus exact cal_LetterOf); (focus exact hL); (focus rfl))
    | ((with_reducible apply je_call0); (focus rfl); (focus (decide +kernel)); (focus rfl); (focus exact cal_LetterOf); (focus exact hL); (focus rfl))
    | ((with_reducible apply call0); (focus rfl); (focus exact cal_NextOf); (focus exact hN); (focus rfl))
    | ((with_reducible apply je_call0); (focus rfl); (focus (decide +kernel)); (focus rfl); (focus exact cal_NextOf); (focus exact hN); (focus rfl))
    | exact True.intro
    | refine stp ?_
    | refine two ?_ ?_
    | refine allc fun c_ => ?_
    | (refine imp fun hc => ?_) <;> try (first | contradiction | (exfalso; omega) | (exfalso; exact absurd (of_dT hc) (by assumption)) | (exfalso; exact of_dF hc (by assumption)))
    | refine all fun v_ => ?_)
  all_goals clear fA_ fH_
  obtain ⟨bs, rfl⟩ : ∃ x, x = v_ := ⟨v_, rfl⟩
  obtain ⟨bt, rfl⟩ : ∃ x, x = v_ := ⟨v_, rfl⟩
  refine jrow (E := 31) (sz := 2) Fo.cells ?_
  refine J_loopV (X := Nat × Sl) (fun y => [(2, .val (.pointer (some ⟨bt, 0, none⟩))), (3, .val (.pointer (some ⟨bs, 0, none⟩))), (9, .int (claimsF t)), (10, .d (boolsD (lettF t st))), (12, .d (intsD cs)), (14, .val y.2.v), (15, .int y.1)]) (fun y => [rowE y.2.v 31 2 Fo.cells (behL t st cl (cs.take y.1)), .cells bs 31 [.int st, .int cl], .cells bt 29 [.d (varsD t.model.vars), .d (rulesD t.model.rules), .d (termsD t.props), .d (opsD t.formula)]]) (fun y => y.1 ≤ cs.length) (fun y => cs.length - y.1) (0, Sl.nil) (Nat.zero_le _) (VS.take (by ((repeat (first | exact Take.nil | ((with_reducible apply Take.cons); (focus ((repeat (first | exact Sel.here | with_reducible apply Sel.there)); done))))); done)) ?_) ?_
  · repeat (first
      | exact Env.le_nil _
      | refine Env.le_cons (AV.le_refl _) ?_
      | refine Env.le_cons (AV.le_int rfl (by first | rfl | omega | (dsimp only; omega))) ?_)
  rintro ⟨i, q⟩ hi
  dsimp only at hi ⊢
  have hbi := hbl (cs.take i)
  rw [List.length_take] at hbi
  by_cases hil : i < cs.length
  · obtain ⟨r1, r2⟩ := hrg _ (List.getElem_mem hil)
    have hbs := hbs cs i hil
    have hL2 := LetterOf G t.model t.props cs[i]
    rw [hlet _ r1 r2] at hL2
    dsimp only at hL2
    have hfo := fun d => hfo cs[i] d g3 g4
    have hyes := hyes cs[i]
    have hno := hno cs[i]
    have hfl := hfl cs[i]
    have hf0 := hf0 cs[i]
    generalize hnx : lettF t cs[i] = nx at hL2 hfo
    generalize lettF t st = lt at hL hfo ⊢
    generalize folL t st cl cs[i] = F at hyes hno hfl hf0 hbs
    generalize folB t st cl cs[i] = fb at hyes hno hfo
    generalize behL t st cl (cs.take i) = B at hbi hbs ⊢
    generalize claimsF t = N at hM hfo hm64 hbs ⊢
    all_goals haveI fA_ : FlagA := ⟨⟩
    all_goals haveI fH_ : FlagH := ⟨⟩
    repeat' (first
      | ((with_reducible apply call0); (focus rfl); (focus exact cal_LetterOf); (focus exact hL2); (focus rfl))
      | ((with_reducible apply je_call0); (focus rfl); (focus (decide +kernel)); (focus rfl); (focus exact cal_LetterOf); (focus exact hL2); (focus rfl))
      
      | exact True.intro
      | refine stp ?_
      | refine two ?_ ?_
      | refine allc fun c_ => ?_
      | (refine imp fun hc => ?_) <;> try (first | contradiction | (exfalso; omega) | (exfalso; exact absurd (of_dT hc) (by assumption)) | (exfalso; exact of_dF hc (by assumption)))
      | refine all fun v_ => ?_)
    all_goals clear fA_ fH_
    have e0 : B = B ++ F 0 := by rw [hf0, List.append_nil]
    refine J_loopV (X := Nat × Sl) (fun y => [(2, .val (.pointer (some ⟨bt, 0, none⟩))), (3, .val (.pointer (some ⟨bs, 0, none⟩))), (9, .int N), (10, .d (boolsD lt)), (12, .d (intsD cs)), (14, .val y.2.v), (15, .int i), (16, .d (boolsD nx)), (18, .int y.1)]) (fun y => [rowE y.2.v 31 2 Fo.cells (B ++ F y.1), .cells bs 31 [.int st, .int cl], .cells bt 29 [.d (varsD t.model.vars), .d (rulesD t.model.rules), .d (termsD t.props), .d (opsD t.formula)]]) (fun y => y.1 ≤ N) (fun y => N - y.1) (0, q) (Nat.zero_le _) (VS.take (by dsimp only; rw [← e0]; ((repeat (first | exact Take.nil | ((with_reducible apply Take.cons); (focus ((repeat (first | exact Sel.here | with_reducible apply Sel.there)); done))))); done)) ?_) ?_
    · repeat (first
        | exact Env.le_nil _
        | refine Env.le_cons (AV.le_refl _) ?_
        | refine Env.le_cons (AV.le_int rfl (by first | rfl | omega | (dsimp only; omega))) ?_)
    clear e0
    rintro ⟨k, q⟩ hk
    dsimp only at hk ⊢
    have hfk := hfl k
    have hal : (B ++ F k).length = B.length + (F k).length := List.length_append
    by_cases hkl : k < N
    · have hFo := FollowsOn G t.formula lt cl nx k
      rw [hfo k (by omega) (by omega)] at hFo
      dsimp only at hFo
      cases hb : fb k with
      | true =>
        rw [hb] at hFo
        have hy := hyes k hb
        all_goals haveI fA_ : FlagA := ⟨⟩
        all_goals haveI fH_ : FlagH := ⟨⟩
        repeat' (first
          | ((with_reducible apply call0); (focus rfl); (focus exact cal_FollowsOn); (focus exact hFo); (focus rfl))
          | ((with_reducible apply je_call0); (focus rfl); (focus (decide +kernel)); (focus rfl); (focus exact cal_FollowsOn); (focus exact hFo); (focus rfl))
          | ((with_reducible apply (japU1 (f := Fo.cells) (u := ⟨cs[i], (k : Int)⟩))); (focus rfl); (focus rfl); (focus (with_reducible exact ElC.h)); (focus (intro q_; (repeat (first | with_reducible exact Upd.here | with_reducible apply Upd.there)); done)); (focus rfl); (focus rfl); (focus rfl); (focus rfl); (focus (first | omega | (simp only [List.length_map, List.length_range, List.length_append, List.length_cons, List.length_nil, List.length_take, List.length_drop, List.length_set, List.length_replicate]; omega))); (focus (first | omega | (simp only [List.length_map, List.length_range, List.length_append, List.length_cons, List.length_nil, List.length_take, List.length_drop, List.length_set, List.length_replicate]; omega))))
          | exact True.intro
          | refine stp ?_
          | refine two ?_ ?_
          | refine allc fun c_ => ?_
          | (refine imp fun hc => ?_) <;> try (first | contradiction | (exfalso; omega) | (exfalso; exact absurd (of_dT hc) (by assumption)) | (exfalso; exact of_dF hc (by assumption)))
          | refine all fun v_ => ?_)
        all_goals clear fA_ fH_
        refine ⟨(k + 1, v_), by dsimp only; omega, by dsimp only; omega, VS.take (by dsimp only; rw [hy, ← List.append_assoc]; ((repeat (first | exact Take.nil | ((with_reducible apply Take.cons); (focus ((repeat (first | exact Sel.here | with_reducible apply Sel.there)); done))))); done)) ?_⟩
        repeat (first
          | exact Env.le_nil _
          | refine Env.le_cons (AV.le_refl _) ?_
          | refine Env.le_cons (AV.le_int rfl (by first | rfl | omega | (dsimp only; omega))) ?_)
      | false =>
        rw [hb] at hFo
        have hy := hno k hb
        all_goals haveI fA_ : FlagA := ⟨⟩
        all_goals haveI fH_ : FlagH := ⟨⟩
        repeat' (first
          | ((with_reducible apply call0); (focus rfl); (focus exact cal_FollowsOn); (focus exact hFo); (focus rfl))
          | ((with_reducible apply je_call0); (focus rfl); (focus (decide +kernel)); (focus rfl); (focus exact cal_FollowsOn); (focus exact hFo); (focus rfl))
          | ((with_reducible apply (japU1 (f := Fo.cells) (u := ⟨cs[i], (k : Int)⟩))); (focus rfl); (focus rfl); (focus (with_reducible exact ElC.h)); (focus (intro q_; (repeat (first | with_reducible exact Upd.here | with_reducible apply Upd.there)); done)); (focus rfl); (focus rfl); (focus rfl); (focus rfl); (focus (first | omega | (simp only [List.length_map, List.length_range, List.length_append, List.length_cons, List.length_nil, List.length_take, List.length_drop, List.length_set, List.length_replicate]; omega))); (focus (first | omega | (simp only [List.length_map, List.length_range, List.length_append, List.length_cons, List.length_nil, List.length_take, List.length_drop, List.length_set, List.length_replicate]; omega))))
          | exact True.intro
          | refine stp ?_
          | refine two ?_ ?_
          | refine allc fun c_ => ?_
          | (refine imp fun hc => ?_) <;> try (first | contradiction | (exfalso; omega) | (exfalso; exact absurd (of_dT hc) (by assumption)) | (exfalso; exact of_dF hc (by assumption)))
          | refine all fun v_ => ?_)
        all_goals clear fA_ fH_
        refine ⟨(k + 1, q), by dsimp only; omega, by dsimp only; omega, VS.take (by dsimp only; rw [hy]; ((repeat (first | exact Take.nil | ((with_reducible apply Take.cons); (focus ((repeat (first | exact Sel.here | with_reducible apply Sel.there)); done))))); done)) ?_⟩
        repeat (first
          | exact Env.le_nil _
          | refine Env.le_cons (AV.le_refl _) ?_
          | refine Env.le_cons (AV.le_int rfl (by first | rfl | omega | (dsimp only; omega))) ?_)
    obtain rfl : k = N := by omega
    all_goals haveI fA_ : FlagA := ⟨⟩
    all_goals haveI fH_ : FlagH := ⟨⟩
    repeat' (first
      | exact True.intro
      | refine stp ?_
      | refine two ?_ ?_
      | refine allc fun c_ => ?_
      | (refine imp fun hc => ?_) <;> try (first | contradiction | (exfalso; omega) | (exfalso; exact absurd (of_dT hc) (by assumption)) | (exfalso; exact of_dF hc (by assumption)))
      | refine all fun v_ => ?_)
    all_goals clear fA_ fH_
    refine ⟨(i + 1, q), by dsimp only; omega, by dsimp only; omega, VS.take (by dsimp only; rw [hbs]; ((repeat (first | exact Take.nil | ((with_reducible apply Take.cons); (focus ((repeat (first | exact Sel.here | with_reducible apply Sel.there)); done))))); done)) ?_⟩
    repeat (first
      | exact Env.le_nil _
      | refine Env.le_cons (AV.le_refl _) ?_
      | refine Env.le_cons (AV.le_int rfl (by first | rfl | omega | (dsimp only; omega))) ?_)
  obtain rfl : i = cs.length := by omega
  rw [List.take_length]
  all_goals haveI fA_ : FlagA := ⟨⟩
  all_goals haveI fH_ : FlagH := ⟨⟩
  repeat' (first
    | exact True.intro
    | refine stp ?_
    | refine two ?_ ?_
    | refine allc fun c_ => ?_
    | (refine imp fun hc => ?_) <;> try (first | contradiction | (exfalso; omega) | (exfalso; exact absurd (of_dT hc) (by assumption)) | (exfalso; exact of_dF hc (by assumption)))
    | refine all fun v_ => ?_)
  all_goals clear fA_ fH_
  refine retv (VS.trans (vfreeze (t := 4) (eb := 16) rfl rfl (fun x => rfl) (by have := hbl cs; omega)) (VS.drop (List.nil_sublist _))) ?_
  ((with_reducible apply rq2); rfl; rfl; rfl)
  exact ret_eq rfl
end Go.Proofs.YtmamiihpghnmmaaGreatDoor
namespace Go.Proofs.YtmamiihpghnmmaaGreatDoor
open Go Go.Av Go.Sp Go.ChangeShapes Go.WideShapes Go.ChangeAt Go.RowKit
set_option linter.unusedVariables false
set_option linter.unusedSimpArgs false
set_option maxRecDepth 100000
set_option maxHeartbeats 4000000

abbrev laidRow := Rows.productBehindsRow
theorem own : ownKnob Tryz.prog.godebug = none := by kernel_rfl
theorem laidOutAll : laidOutB Tryz.prog = true := by kernel_rfl
theorem gTab : Tryz.prog.globalNamed "foretell/polish.parts" = some 0 := by kernel_rfl
theorem gTabType : (Tryz.prog.globals[0]?).map (·.type) = some 202 := by kernel_rfl
theorem cellsTab : Tryz.prog.cellsOf 202 = 19 := by kernel_rfl
theorem cellsInt : Tryz.prog.cellsOf 3 = 1 := by kernel_rfl
def partsZ : List Int := [-1, 0, 0, 2, 2, 2, 2, 2, 2, 2, 1, 0, 0, 0, 1, 2, 2, 1, 1]
theorem table {W : World} (h : laidMetH Tryz.prog laidRow.laid W) : Lib.TabIs Tryz.prog W "foretell/polish.parts" .i64 partsZ :=
  Lib.tabIs_of_head (rest := []) gTab gTabType Tryz.underlying202 Tryz.underlying3 cellsInt cellsTab h

theorem globPD {W : World} (h : laidMetH Tryz.prog laidRow.laid W) : ∀ q ∈ GP, PD W (fun b => b < W.heap.size) q.2 ⟨q.1, 0, none⟩ := by
  intro q hq
  obtain rfl : q = (0, partsT) := by simpa [GP] using hq
  have hc : ∀ (i : Nat) (hi : i < partsZ.length), W.cell? ⟨0, i, none⟩ = some (.int .i64 partsZ[i]) := fun i hi => by simpa [List.getElem?_eq_getElem hi] using (table h).cell gTab i hi
  refine ⟨World.block_lt_of_cell? _ _ (hc 0 (by decide)), fun u x hx => ?_⟩
  have hu : u < partsZ.length := by
    have := (List.getElem?_eq_some_iff.1 hx).1
    simpa [partsT, partsZ] using this
  have e : partsT[u]? = some (.i .i64 partsZ[u]) := by
    have : partsT = partsZ.map fun n => D.i .i64 n := rfl
    rw [this, List.getElem?_map, List.getElem?_eq_getElem hu]; rfl
  rw [e] at hx
  cases hx
  exact ⟨_, by rw [Addr.add_lit, Nat.zero_add]; exact hc u hu, .i _ _⟩

noncomputable def laidWorld (os : Os) : World :=
  { World.holding Tryz.prog os ⟨#[], #[], []⟩ with heap := (World.holding Tryz.prog os ⟨#[], #[], []⟩).heap.modify 0 fun
      | .cells _ t frozen => .cells (partsZ.map fun n => Value.int .i64 n).toArray t frozen
      | o => o }
end Go.Proofs.YtmamiihpghnmmaaGreatDoor
namespace Go.Sp
open Go Go.Av
set_option linter.unusedVariables false
set_option linter.unusedSimpArgs false

def at0 (l : List Int) (i : Nat) : Int := (l[i]?).getD 0
theorem at0_get (l : List Int) (i : Nat) (h : i < l.length) : at0 l i = l[i] := by simp [at0, List.getElem?_eq_getElem h]
def leadsP (m : Md) (n : Nat) (A : List Int) (i : Nat) : Prop := (0 ≤ at0 A i ∧ at0 A i < n) ∧ at0 A (i + 1) ∈ (nextF m (at0 A i)).1
def runsP (m : Md) (n : Nat) (A : List Int) : Prop := ∀ i, i + 1 < A.length → leadsP m n A i
noncomputable instance (m : Md) (n : Nat) (A : List Int) : Decidable (runsP m n A) := Classical.propDecidable _
def roundL (stem loop : List Int) : List Int := stem ++ loop ++ loop.take 1
noncomputable def runF (m : Md) (stem loop : List Int) : Bool × Int :=
  if modelF m ≠ 0 then (false, modelF m)
  else if loop = [] ∨ (stem ++ loop).head? ≠ some (firstF m) then (false, 0)
  else (decide (runsP m (prodV m.vars).toNat (roundL stem loop)), 0)
theorem runF_no {m : Md} {stem loop : List Int} (h0 : modelF m = 0) (h : loop = [] ∨ (stem ++ loop).head? ≠ some (firstF m)) : runF m stem loop = (false, 0) := by
  unfold runF; rw [if_neg (fun k => k h0), if_pos h]
theorem runF_at {m : Md} {n : Nat} {stem loop : List Int} {b : Bool} (h0 : modelF m = 0) (hn : prodV m.vars = n) (h1 : loop ≠ []) (h2 : (stem ++ loop).head? = some (firstF m)) (hb : b = true ↔ runsP m n (roundL stem loop)) : runF m stem loop = (b, 0) := by
  unfold runF
  rw [if_neg (fun k => k h0), if_neg (fun k => k.elim h1 fun k => k h2), hn, Int.toNat_natCast]
  congr 1
  cases b with
  | true => exact decide_eq_true (hb.1 rfl)
  | false => exact decide_eq_false fun k => by have := hb.2 k; cases this
end Go.Sp
