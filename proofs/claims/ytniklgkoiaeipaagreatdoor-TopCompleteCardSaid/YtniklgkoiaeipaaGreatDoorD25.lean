/- A bundle of this claim's own texts: N14. -/
import Derived.Test.YtniklgkoiaeipaaGreatDoorD21
import Derived.Test.YtniklgkoiaeipaaGreatDoorD23
import Derived.Test.YtniklgkoiaeipaaGreatDoorD24
set_option linter.unusedVariables false
set_option linter.unusedSimpArgs false
set_option maxRecDepth 100000
set_option maxHeartbeats 4000000
namespace Go.Proofs.YtniklgkoiaeipaaGreatDoor
open Go Go.Av Go.Sp
theorem cal_spot : Cal Tryz.prog 93 := Cal.of Tryz.func93 (by kernel_rfl) (by kernel_rfl)
theorem cal_Behind : Cal Tryz.prog 47 := Cal.of Tryz.func47 (by kernel_rfl) (by kernel_rfl)
theorem armXN14_1 {p q : Prop} (hp : p) (h : p → q := by
 apply cmp; (focus (first
  | ((with_reducible apply call0); (focus rfl); (focus exact cal_Count); (focus exact hC); (focus rfl))
  | ((with_reducible apply je_call0); (focus rfl); (focus (decide +kernel)); (focus rfl); (focus exact cal_Count); (focus exact hC); (focus rfl))
  | ((with_reducible apply qcall); (focus rfl); (focus exact cal_claims); (focus exact hM); (focus rfl))
  ))
 exact fun h => h) : q := h hp
theorem spot (t : Tk) (hm : modelF t.model = 0) (st cl : Int) : ACr Tryz.prog GP 93 [tkA t, .agg [.int st, .int cl]] (.bool (decide ((0 ≤ st ∧ st < prodV t.model.vars) ∧ 0 ≤ cl ∧ cl < claimsF t))) := by
 have hC := Count t.model
 unfold countF at hC
 rw [if_neg (fun k => k hm)] at hC
 dsimp only at hC
 have hM := claims t
 generalize prodV t.model.vars = n at hC ⊢
 generalize claimsF t = N at hM ⊢
 refine AC_ofV (ts := [4]) Tryz.f93.ntmps Tryz.func93 rfl rfl rfl (by simp [Tryz.ntmps93]) fun W I => ?_
 by_cases c0 : 0 ≤ st
 · by_cases c1 : st < n
   · by_cases c2 : 0 ≤ cl
     · by_cases c3 : cl < N
       · repeat' (first
          | refine armXN14_1 ?_
          | exact True.intro | refine stpA ?_ | refine two ?_ ?_
          | (refine imp fun hc => ?_) <;> try exact cx hc
          | refine all fun v_ => ?_)
         all_goals
          refine retv (VS.drop (List.nil_sublist _)) ?_
          ((with_reducible apply rq1); rfl; rfl)
          refine ret_eq (congrArg AV.bool ?_)
          (first | rfl | (refine decide_eq_decide.2 ?_; omega) | (refine (decide_eq_true ?_).symm; omega) | (refine (decide_eq_false ?_).symm; omega) | (refine decide_eq_true ?_; omega) | (refine decide_eq_false ?_; omega))
       · repeat' (first
          | refine armXN14_1 ?_
          | exact True.intro | refine stpA ?_ | refine two ?_ ?_
          | (refine imp fun hc => ?_) <;> try exact cx hc
          | refine all fun v_ => ?_)
         all_goals
          refine retv (VS.drop (List.nil_sublist _)) ?_
          ((with_reducible apply rq1); rfl; rfl)
          refine ret_eq (congrArg AV.bool ?_)
          (first | rfl | (refine decide_eq_decide.2 ?_; omega) | (refine (decide_eq_true ?_).symm; omega) | (refine (decide_eq_false ?_).symm; omega) | (refine decide_eq_true ?_; omega) | (refine decide_eq_false ?_; omega))
     · repeat' (first
        | refine armXN14_1 ?_
        | exact True.intro | refine stpA ?_ | refine two ?_ ?_
        | (refine imp fun hc => ?_) <;> try exact cx hc
        | refine all fun v_ => ?_)
       all_goals
        refine retv (VS.drop (List.nil_sublist _)) ?_
        ((with_reducible apply rq1); rfl; rfl)
        refine ret_eq (congrArg AV.bool ?_)
        (first | rfl | (refine decide_eq_decide.2 ?_; omega) | (refine (decide_eq_true ?_).symm; omega) | (refine (decide_eq_false ?_).symm; omega) | (refine decide_eq_true ?_; omega) | (refine decide_eq_false ?_; omega))
   · repeat' (first
      | refine armXN14_1 ?_
      | exact True.intro | refine stpA ?_ | refine two ?_ ?_
      | (refine imp fun hc => ?_) <;> try exact cx hc
      | refine all fun v_ => ?_)
     all_goals
      refine retv (VS.drop (List.nil_sublist _)) ?_
      ((with_reducible apply rq1); rfl; rfl)
      refine ret_eq (congrArg AV.bool ?_)
      (first | rfl | (refine decide_eq_decide.2 ?_; omega) | (refine (decide_eq_true ?_).symm; omega) | (refine (decide_eq_false ?_).symm; omega) | (refine decide_eq_true ?_; omega) | (refine decide_eq_false ?_; omega))
 · repeat' (first
    | refine armXN14_1 ?_
    | exact True.intro | refine stpA ?_ | refine two ?_ ?_
    | (refine imp fun hc => ?_) <;> try exact cx hc
    | refine all fun v_ => ?_)
   all_goals
    refine retv (VS.drop (List.nil_sublist _)) ?_
    ((with_reducible apply rq1); rfl; rfl)
    refine ret_eq (congrArg AV.bool ?_)
    (first | rfl | (refine decide_eq_decide.2 ?_; omega) | (refine (decide_eq_true ?_).symm; omega) | (refine (decide_eq_false ?_).symm; omega) | (refine decide_eq_true ?_; omega) | (refine decide_eq_false ?_; omega))
theorem armXN14_2 {p q : Prop} (hp : p) (h : p → q := by
 apply cmp; (focus (first
  | ((with_reducible apply call0); (focus rfl); (focus exact cal_PCheck); (focus exact hP); (focus rfl))
  | ((with_reducible apply je_call0); (focus rfl); (focus (decide +kernel)); (focus rfl); (focus exact cal_PCheck); (focus exact hP); (focus rfl))
  ))
 exact fun h => h) : q := h hp
theorem armXN14_3 {p q : Prop} (hp : p) (h : p → q := by
 apply cmp; (focus (first
  | ((with_reducible apply call0); (focus rfl); (focus exact cal_PCheck); (focus exact hP); (focus rfl))
  | ((with_reducible apply je_call0); (focus rfl); (focus (decide +kernel)); (focus rfl); (focus exact cal_PCheck); (focus exact hP); (focus rfl))
  | ((with_reducible apply call0); (focus rfl); (focus exact cal_spot); (focus exact hS); (focus rfl))
  | ((with_reducible apply je_call0); (focus rfl); (focus (decide +kernel)); (focus rfl); (focus exact cal_spot); (focus exact hS); (focus rfl))
  ))
 exact fun h => h) : q := h hp
theorem armXN14_4 {p q : Prop} (hp : p) (h : p → q := by
 apply cmp; (focus (first
  | ((with_reducible apply call0); (focus rfl); (focus exact cal_PCheck); (focus exact hP); (focus rfl))
  | ((with_reducible apply je_call0); (focus rfl); (focus (decide +kernel)); (focus rfl); (focus exact cal_PCheck); (focus exact hP); (focus rfl))
  | ((with_reducible apply call0); (focus rfl); (focus exact cal_spot); (focus exact hS); (focus rfl))
  | ((with_reducible apply je_call0); (focus rfl); (focus (decide +kernel)); (focus rfl); (focus exact cal_spot); (focus exact hS); (focus rfl))
  | ((with_reducible apply call0); (focus rfl); (focus exact cal_Letter); (focus exact hL); (focus rfl))
  | ((with_reducible apply je_call0); (focus rfl); (focus (decide +kernel)); (focus rfl); (focus exact cal_Letter); (focus exact hL); (focus rfl))
  | ((with_reducible apply call0); (focus rfl); (focus exact cal_Next); (focus exact hN); (focus rfl))
  | ((with_reducible apply je_call0); (focus rfl); (focus (decide +kernel)); (focus rfl); (focus exact cal_Next); (focus exact hN); (focus rfl))
  ))
 exact fun h => h) : q := h hp
theorem armXN14_5 {p q : Prop} (hp : p) (h : p → q := by
 apply cmp; (focus (first
  | ((with_reducible apply call0); (focus rfl); (focus exact cal_Letter); (focus exact hL2); (focus rfl))
  | ((with_reducible apply je_call0); (focus rfl); (focus (decide +kernel)); (focus rfl); (focus exact cal_Letter); (focus exact hL2); (focus rfl))
  | ((with_reducible apply call0); (focus rfl); (focus exact cal_claims); (focus exact hM); (focus rfl))
  ))
 exact fun h => h) : q := h hp
theorem armXN14_6 {p q : Prop} (hp : p) (h : p → q := by
 apply cmp; (focus (first
  | ((with_reducible apply call0); (focus rfl); (focus exact cal_Follows); (focus exact hFo); (focus rfl))
  | ((with_reducible apply je_call0); (focus rfl); (focus (decide +kernel)); (focus rfl); (focus exact cal_Follows); (focus exact hFo); (focus rfl))
  ))
 exact fun h => h) : q := h hp
theorem Behind (t : Tk) (st cl : Int) : ACr Tryz.prog GP 47 [tkA t, .agg [.int st, .int cl]] (.tup [.d (opsD (behindF t st cl).1), .int (behindF t st cl).2]) := by
 have hP := PCheck t
 refine AC_ofV (ts := [4, 5]) Tryz.f47.ntmps Tryz.func47 rfl rfl rfl (by simp [Tryz.ntmps47]) fun W I => ?_
 unfold behindF
 by_cases h1 : taskF t ≠ 0
 · rw [if_pos h1]
   generalize taskF t = e at hP h1
   repeat' (first
    | refine armXN14_2 ?_
    | exact True.intro | refine stpH ?_ | refine two ?_ ?_ | refine allc fun c_ => ?_
    | (refine imp fun hc => ?_) <;> try exact cx1 hc
    | refine all fun v_ => ?_)
   refine retv (VS.trans (VS.drop (List.nil_sublist _)) (vnil (t := 4) 2 16 rfl)) ?_
   ((with_reducible apply rq2); rfl; rfl; rfl)
   exact ret_eq rfl
 rw [if_neg h1]
 replace h1 := Decidable.not_not.1 h1
 rw [h1] at hP
 obtain ⟨a1, a2, a3⟩ := taskF_ok h1
 obtain ⟨n, hn, n1, n2⟩ := states_nat a3
 have hS := spot t a3 st cl
 by_cases hin : ¬ ((0 ≤ st ∧ st < prodV t.model.vars) ∧ 0 ≤ cl ∧ cl < claimsF t)
 · rw [if_pos hin]
   rw [decide_eq_false hin] at hS
   repeat' (first
    | refine armXN14_3 ?_
    | exact True.intro | refine stpH ?_ | refine two ?_ ?_ | refine allc fun c_ => ?_
    | (refine imp fun hc => ?_) <;> try exact cx1 hc
    | refine all fun v_ => ?_)
   refine retv (VS.trans (VS.drop (List.nil_sublist _)) (vnil (t := 4) 2 16 rfl)) ?_
   ((with_reducible apply rq2); rfl; rfl; rfl)
   exact ret_eq rfl
 rw [if_neg hin]
 replace hin := Decidable.not_not.1 hin
 rw [decide_eq_true hin] at hS
 have hsl := nextF_len a3 st
 have hrg := nextF_range a3 st
 have hlet := fun c k0 k1 => lettF_ok (t := t) (c := c) h1 k0 k1
 have hfo := fun c d => follows_ok (t := t) (st := st) (cl := cl) (c := c) (d := d) h1
 have hyes := fun c k => folL_yes (t := t) (st := st) (cl := cl) (c := c) (k := k)
 have hno := fun c k => folL_no (t := t) (st := st) (cl := cl) (c := c) (k := k)
 have hfl := fun c k => folL_len t st cl c k
 have hbs := fun cs i h => behL_succ t st cl cs i h
 have hbl := fun cs => behL_len t st cl cs
 have hm64 := claims_few t
 have hb0 : behL t st cl [] = [] := rfl
 have hf0 : ∀ c, folL t st cl c 0 = [] := fun c => rfl
 obtain ⟨⟨g1, g2⟩, g3, g4⟩ := hin
 have hL := Letter t.model t.props st
 rw [lettF_ok h1 g1 g2] at hL
 dsimp only at hL
 have hN := Next t.model st
 have hM := claims t
 generalize nextF t.model st = p at hN hsl hrg ⊢
 obtain ⟨cs, e⟩ := p
 dsimp only at hN hsl hrg ⊢
 repeat' (first
  | refine armXN14_4 ?_
  | exact True.intro | refine stpH ?_ | refine two ?_ ?_ | refine allc fun c_ => ?_
  | (refine imp fun hc => ?_) <;> try exact cx1 hc
  | refine all fun v_ => ?_)
 obtain ⟨bs, rfl⟩ : ∃ x, x = v_ := ⟨v_, rfl⟩
 obtain ⟨bt, rfl⟩ : ∃ x, x = v_ := ⟨v_, rfl⟩
 refine jrow (E := 98) (sz := 2) Fo.cells ?_
 refine J_loopV (X := Nat × Sl) (fun y => [(2, .val (.pointer (some ⟨bt, 0, none⟩))), (3, .val (.pointer (some ⟨bs, 0, none⟩))), (7, .d (boolsD (lettF t st))), (11, .val y.2.v), (46, .d (intsD cs)), (47, .int cs.length), (48, .int y.1)]) (fun y => [rowE y.2.v 98 2 Fo.cells (behL t st cl (cs.take y.1)), .cells bs 98 [.int st, .int cl], .cells bt 29 [.d (varsD t.model.vars), .d (rulesD t.model.rules), .d (termsD t.props), .d (opsD t.formula)]]) (fun y => y.1 ≤ cs.length) (fun y => cs.length - y.1) (0, Sl.nil) (Nat.zero_le _) (VS.take (by exact takedD) ?_) ?_
 · exact leD
 rintro ⟨i, q⟩ hi
 dsimp only at hi ⊢
 have hbi := hbl (cs.take i)
 rw [List.length_take] at hbi
 by_cases hil : i < cs.length
 · obtain ⟨r1, r2⟩ := hrg _ (List.getElem_mem hil)
   have hbs := hbs cs i hil
   have hL2 := Letter t.model t.props cs[i]
   rw [hlet _ r1 r2] at hL2
   dsimp only at hL2
   have hfo := fun d => hfo cs[i] d g3 g4
   have hyes := hyes cs[i]
   have hno := hno cs[i]
   have hfl := hfl cs[i]
   have hf0 := hf0 cs[i]
   generalize hnx : lettF t cs[i] = nx at hL2 hfo
   generalize lettF t st = lt at hL hfo ⊢
   generalize folL t st cl cs[i] = F at hyes hno hfl hf0 hbs
   generalize folB t st cl cs[i] = fb at hyes hno hfo
   generalize behL t st cl (cs.take i) = B at hbi hbs ⊢
   generalize claimsF t = N at hM hfo hm64 hbs ⊢
   repeat' (first
    | refine armXN14_5 ?_
    | exact True.intro | refine stpH ?_ | refine two ?_ ?_ | refine allc fun c_ => ?_
    | (refine imp fun hc => ?_) <;> try exact cx1 hc
    | refine all fun v_ => ?_)
   have e0 : B = B ++ F 0 := by rw [hf0, List.append_nil]
   refine J_loopV (X := Nat × Sl) (fun y => [(2, .val (.pointer (some ⟨bt, 0, none⟩))), (3, .val (.pointer (some ⟨bs, 0, none⟩))), (7, .d (boolsD lt)), (11, .val y.2.v), (13, .int cs[i]), (14, .d (boolsD nx)), (46, .d (intsD cs)), (47, .int cs.length), (48, .int i), (62, .int N), (63, .int y.1)]) (fun y => [rowE y.2.v 98 2 Fo.cells (B ++ F y.1), .cells bs 98 [.int st, .int cl], .cells bt 29 [.d (varsD t.model.vars), .d (rulesD t.model.rules), .d (termsD t.props), .d (opsD t.formula)]]) (fun y => y.1 ≤ N) (fun y => N - y.1) (0, q) (Nat.zero_le _) (VS.take (by dsimp only; rw [← e0]; exact takedD) ?_) ?_
   · exact leD
   clear e0
   rintro ⟨k, q⟩ hk
   dsimp only at hk ⊢
   have hfk := hfl k
   have hal : (B ++ F k).length = B.length + (F k).length := List.length_append
   by_cases hkl : k < N
   · have hFo := Follows t.formula lt cl nx k
     rw [hfo k (by omega) (by omega)] at hFo
     dsimp only at hFo
     cases hb : fb k with
     | true =>
       rw [hb] at hFo
       have hy := hyes k hb
       repeat' (first
        | refine armXN14_6 ?_
        | ((with_reducible apply (japU1 (f := Fo.cells) (u := ⟨cs[i], (k : Int)⟩))); (focus rfl); (focus rfl); (focus (with_reducible exact ElC.h)); (focus exact updqD); (focus rfl); (focus rfl); (focus rfl); (focus rfl); (focus exact bndD); (focus exact bndD))
        | exact True.intro | refine stpH ?_ | refine two ?_ ?_ | refine allc fun c_ => ?_
        | (refine imp fun hc => ?_) <;> try exact cx1 hc
        | refine all fun v_ => ?_)
       refine ⟨(k + 1, v_), by dsimp only; omega, by dsimp only; omega, VS.take (by dsimp only; rw [hy, ← List.append_assoc]; exact takedD) ?_⟩
       exact leD
     | false =>
       rw [hb] at hFo
       have hy := hno k hb
       repeat' (first
        | refine armXN14_6 ?_
        | ((with_reducible apply (japU1 (f := Fo.cells) (u := ⟨cs[i], (k : Int)⟩))); (focus rfl); (focus rfl); (focus (with_reducible exact ElC.h)); (focus exact updqD); (focus rfl); (focus rfl); (focus rfl); (focus rfl); (focus exact bndD); (focus exact bndD))
        | exact True.intro | refine stpH ?_ | refine two ?_ ?_ | refine allc fun c_ => ?_
        | (refine imp fun hc => ?_) <;> try exact cx1 hc
        | refine all fun v_ => ?_)
       refine ⟨(k + 1, q), by dsimp only; omega, by dsimp only; omega, VS.take (by dsimp only; rw [hy]; exact takedD) ?_⟩
       exact leD
   obtain rfl : k = N := by omega
   repeat' (first
    | exact True.intro | refine stpH ?_ | refine two ?_ ?_ | refine allc fun c_ => ?_
    | (refine imp fun hc => ?_) <;> try exact cx1 hc
    | refine all fun v_ => ?_)
   refine ⟨(i + 1, q), by dsimp only; omega, by dsimp only; omega, VS.take (by dsimp only; rw [hbs]; exact takedD) ?_⟩
   exact leD
 obtain rfl : i = cs.length := by omega
 rw [List.take_length]
 repeat' (first
  | exact True.intro | refine stpH ?_ | refine two ?_ ?_ | refine allc fun c_ => ?_
  | (refine imp fun hc => ?_) <;> try exact cx1 hc
  | refine all fun v_ => ?_)
 refine retv (VS.trans (vfreeze (t := 4) (eb := 16) rfl rfl (fun x => rfl) (by have := hbl cs; omega)) (VS.drop (List.nil_sublist _))) ?_
 ((with_reducible apply rq2); rfl; rfl; rfl)
 exact ret_eq rfl
end Go.Proofs.YtniklgkoiaeipaaGreatDoor
