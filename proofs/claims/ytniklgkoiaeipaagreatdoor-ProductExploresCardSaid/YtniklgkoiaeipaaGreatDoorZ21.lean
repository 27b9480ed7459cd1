/- A bundle of this claim's own texts: N6 G15 G16 Sg G18 E8. -/
import Derived.Laws.Cover3
import Derived.Test.YtniklgkoiaeipaaGreatDoorZ1
import Derived.Test.YtniklgkoiaeipaaGreatDoorZ9
import Derived.Test.YtniklgkoiaeipaaGreatDoorZ17
import Derived.Test.YtniklgkoiaeipaaGreatDoorZ18
import Derived.Test.YtniklgkoiaeipaaGreatDoorZ20
namespace Go.Sp
open Go Go.Av
set_option linter.unusedVariables false
set_option linter.unusedSimpArgs false
theorem aheads_few (l : List Fo) (p : Int) : (aheadsOf l p).1.length ≤ 6 := by
 unfold aheadsOf
 by_cases h : formF l p ≠ 0
 · rw [if_pos h]; exact Nat.zero_le _
 · rw [if_neg h, aheads_len]; exact (good_of (Decidable.not_not.1 h)).ah
def claimsF (t : Tk) : Nat := 2 ^ (aheadsOf t.formula t.props.length).1.length
theorem pow64 {n : Nat} (h : n ≤ 6) : 1 ≤ 2 ^ n ∧ 2 ^ n ≤ 64 := by
 have : n = 0 ∨ n = 1 ∨ n = 2 ∨ n = 3 ∨ n = 4 ∨ n = 5 ∨ n = 6 := by omega
 rcases this with rfl | rfl | rfl | rfl | rfl | rfl | rfl <;> decide
theorem claims_few (t : Tk) : 1 ≤ claimsF t ∧ claimsF t ≤ 64 := pow64 (aheads_few _ _)
theorem taskF_ok {t : Tk} (h : taskF t = 0) : propsF t.model t.props = 0 ∧ formF t.formula t.props.length = 0 ∧ modelF t.model = 0 := by
 unfold taskF at h
 by_cases c : propsF t.model t.props ≠ 0
 · rw [if_pos c] at h; exact absurd h c
 · rw [if_neg c] at h
   exact ⟨Decidable.not_not.1 c, h, (propsF_few (Decidable.not_not.1 c)).1⟩
noncomputable abbrev firstF (m : Md) : Int := (codeF m (inits m)).1
theorem first_ok {m : Md} (h : modelF m = 0) : (codeF m (inits m)).2 = 0 ∧ 0 ≤ firstF m ∧ firstF m < prodV m.vars := by
 have hl : (inits m).length = m.vars.length := by simp [inits]
 have h2 : (codeF m (inits m)).2 = 0 := by
  rw [code_of h hl]
  refine codeE_all _ _ _ fun i h1 h2 => ?_
  have := (goodV (modelF_vars h)).range m.vars[i] (List.getElem_mem h1)
  unfold rangeV at this
  simp only [inits, List.getElem_map]
  omega
 exact ⟨h2, codeF_bound h hl h2⟩
noncomputable abbrev lettF (t : Tk) (c : Int) : List Bool := (List.range t.props.length).map (letAt t.props (valsT t.model.vars c))
theorem lettF_ok {t : Tk} (h : taskF t = 0) {c : Int} (h0 : 0 ≤ c) (h1 : c < prodV t.model.vars) : letF t.model t.props c = (lettF t c, 0) := by
 obtain ⟨a1, a2, a3⟩ := taskF_ok h
 have hv : valsF t.model c = (valsT t.model.vars c, 0) := by unfold valsF; rw [if_neg (fun k => k a3), if_pos ⟨h0, h1⟩]
 unfold letF
 rw [if_neg (fun k => k a1), hv, if_neg (by simp)]
theorem lettF_len (t : Tk) (c : Int) : (lettF t c).length = t.props.length := by simp
theorem claims_eq {t : Tk} (h : taskF t = 0) : claimsF t = 2 ^ rank t.formula t.formula.length := by
 unfold claimsF aheadsOf
 rw [if_neg (fun k => k (taskF_ok h).2.1), aheads_len]
theorem truths_ok {t : Tk} (h : taskF t = 0) (x : List Bool) (hx : x.length = t.props.length) {c : Int} (h0 : 0 ≤ c) (h1 : c < claimsF t) : truthsOf t.formula x c = ((List.range t.formula.length).map (tAt t.formula x c), 0) := by
 have hf : formF t.formula x.length = 0 := by rw [hx]; exact (taskF_ok h).2.1
 have ha : aheadsOf t.formula x.length = (aheadL t.formula 0, 0) := by unfold aheadsOf; rw [if_neg (fun k => k hf)]
 unfold truthsOf
 rw [ha, if_neg (by simp), if_neg]
 rw [aheads_len]
 rw [claims_eq h] at h1
 have e : ((2 ^ rank t.formula t.formula.length : Nat) : Int) = 2 ^ rank t.formula t.formula.length := by simp
 omega
theorem truths_cons {l : List Fo} (h : 0 < l.length) (f : Nat → Bool) : ∃ r, (List.range l.length).map f = f 0 :: r := by
 cases hl : l.length with
 | zero => omega
 | succ n => exact ⟨_, by rw [List.range_succ_eq_map, List.map_cons]⟩
noncomputable def beginL (t : Tk) (n : Nat) : List Fo := ((List.range n).filter fun c : Nat => !tAt t.formula (lettF t (firstF t.model)) c 0).map fun c : Nat => ⟨firstF t.model, c⟩
theorem beginL_yes {t : Tk} {n : Nat} (h : tAt t.formula (lettF t (firstF t.model)) n 0 = false) : beginL t (n + 1) = beginL t n ++ [⟨firstF t.model, n⟩] := by
 unfold beginL
 rw [List.range_succ, List.filter_append, List.map_append]
 simp [h]
theorem beginL_no {t : Tk} {n : Nat} (h : tAt t.formula (lettF t (firstF t.model)) n 0 = true) : beginL t (n + 1) = beginL t n := by
 unfold beginL
 rw [List.range_succ, List.filter_append, List.map_append]
 simp [h]
theorem beginL_len (t : Tk) (n : Nat) : (beginL t n).length ≤ n := by
 unfold beginL
 rw [List.length_map]
 exact Nat.le_trans (List.length_filter_le _ _) (by simp)
noncomputable def beginF (t : Tk) : List Fo × Int := if taskF t ≠ 0 then ([], taskF t) else (beginL t (claimsF t), 0)
end Go.Sp
namespace Go.Proofs.YtniklgkoiaeipaaGreatDoor
open Go Go.Av Go.Sp
set_option linter.unusedVariables false
set_option linter.unusedSimpArgs false
set_option maxRecDepth 100000
set_option maxHeartbeats 4000000
theorem cal_claims : Cal Tryz.prog 86 := Cal.of Tryz.func86 (by kernel_rfl) (by kernel_rfl)
theorem cal_manyClaims : Cal Tryz.prog 96 := Cal.of Tryz.func96 (by kernel_rfl) (by kernel_rfl)
theorem cal_Begin : Cal Tryz.prog 42 := Cal.of Tryz.func42 (by kernel_rfl) (by kernel_rfl)
theorem cal_BeginOf : Cal Tryz.prog 48 := Cal.of Tryz.func48 (by kernel_rfl) (by kernel_rfl)
theorem cal_sameSpots : Cal Tryz.prog 54 := Cal.of Tryz.func54 (by kernel_rfl) (by kernel_rfl)
theorem sameSpots (G : List (Nat × List D)) (a b : List Fo) : ACr Tryz.prog G 54 [.d (opsD a), .d (opsD b)] (.bool (decide (a = b))) := by
 refine AC_of (ts := [4]) 26 Tryz.func54 rfl rfl rfl (by simp) fun W I => ?_
 refine jfact (t := 0) rfl fun hl0 => ?_
 refine jfact (t := 1) rfl fun hl1 => ?_
 repeat' (first
  | exact True.intro
  | refine stp ?_
  | refine two ?_ ?_
  | (refine imp fun hc => ?_) <;> try exact cx hc
  | refine all fun v_ => ?_)
 · ((with_reducible apply rq1); rfl; rfl)
   refine ret_eq ?_
   rw [decide_eq_false]
   intro e; subst e; omega
 refine J_loop (X := Nat) (fun i => [(0, .d (opsD a)), (1, .d (opsD b)), (5, .int i)]) (fun _ => []) (fun i => i ≤ a.length ∧ a.take i = b.take i) (fun i => a.length - i) 0 ⟨Nat.zero_le _, rfl⟩ ?_ rfl ?_
 · exact leD
 rintro i ⟨h1, h2⟩
 repeat' (first
  | exact True.intro
  | refine stp ?_
  | refine two ?_ ?_
  | (refine imp fun hc => ?_) <;> try exact cx hc
  | refine all fun v_ => ?_)
 all_goals first
  | (((with_reducible apply rq1); rfl; rfl)
     refine ret_eq ?_
     rw [decide_eq_false]
     intro e; subst e
     simp at hc)
  | (refine ⟨i + 1, ⟨by omega, take_step (by omega) (by omega) h2 ?_⟩, by first | omega | (dsimp only; omega), ?_, rfl⟩
     · (simp only [Bool.and_eq_true, beq_iff_eq] at hc; exact Fo.ext' hc.1 hc.2)
     · exact leD)
  | (((with_reducible apply rq1); rfl; rfl)
     refine ret_eq ?_
     rw [decide_eq_true]
     rwa [List.take_of_length_le (by omega), List.take_of_length_le (by omega)] at h2)
theorem armXN6_1 {p q : Prop} (hp : p) (h : p → q := by
 apply cmp; (focus (first
  | ((with_reducible apply call0); (focus rfl); (focus exact cal_Ahead); (focus exact hA); (focus rfl))
  | ((with_reducible apply je_call0); (focus rfl); (focus (decide +kernel)); (focus rfl); (focus exact cal_Ahead); (focus exact hA); (focus rfl))
  ))
 exact fun h => h) : q := h hp
theorem claims (t : Tk) : ACr Tryz.prog GP 86 [tkA t] (.int (claimsF t)) := by
 have hA := Ahead t.formula t.props.length
 have hfew := aheads_few t.formula t.props.length
 unfold claimsF
 generalize aheadsOf t.formula t.props.length = q at hA hfew ⊢
 obtain ⟨ps, e⟩ := q
 dsimp only at hA hfew ⊢
 have hp := pow64 hfew
 have hi : (1 : Int) * 2 ^ (ps.length : Int).toNat = ((2 ^ ps.length : Nat) : Int) := by simp
 refine AC_ofV (ts := [2]) Tryz.f86.ntmps Tryz.func86 rfl rfl rfl (by simp [Tryz.ntmps86]) fun W I => ?_
 have hin : inI64 ((1 : Int) * 2 ^ (ps.length : Int).toNat) := by rw [hi]; generalize (2 ^ ps.length : Nat) = x at hp ⊢; unfold inI64; omega
 all_goals haveI fA_ : FlagA := ⟨⟩
 all_goals haveI fH_ : FlagH := ⟨⟩
 repeat' (first
  | refine armXN6_1 ?_
  | exact True.intro
  | refine stp ?_
  | refine two ?_ ?_
  | refine allc fun c_ => ?_
  | (refine imp fun hc => ?_) <;> try exact cx1 hc
  | refine all fun v_ => ?_)
 all_goals clear fA_ fH_
 refine retv (VS.drop (List.nil_sublist _)) ?_
 ((with_reducible apply rq1); rfl; rfl)
 exact ret_eq (by rw [← hi])
theorem armXN6_2 {p q : Prop} (hp : p) (h : p → q := by
 apply cmp; (focus (first
  | ((with_reducible apply call0); (focus rfl); (focus exact cal_AheadOf); (focus exact hA); (focus rfl))
  | ((with_reducible apply je_call0); (focus rfl); (focus (decide +kernel)); (focus rfl); (focus exact cal_AheadOf); (focus exact hA); (focus rfl))
  ))
 exact fun h => h) : q := h hp
theorem manyClaims (G : List (Nat × List D)) (t : Tk) : ACr Tryz.prog G 96 [tkA t] (.int (claimsF t)) := by
 have hA := AheadOf G t.formula t.props.length
 have hfew := aheads_few t.formula t.props.length
 unfold claimsF
 generalize aheadsOf t.formula t.props.length = q at hA hfew ⊢
 obtain ⟨ps, e⟩ := q
 dsimp only at hA hfew ⊢
 refine AC_ofV (ts := [2]) Tryz.f96.ntmps Tryz.func96 rfl rfl rfl (by simp [Tryz.ntmps96]) fun W I => ?_
 all_goals haveI fA_ : FlagA := ⟨⟩
 all_goals haveI fH_ : FlagH := ⟨⟩
 repeat' (first
  | refine armXN6_2 ?_
  | exact True.intro
  | refine stp ?_
  | refine two ?_ ?_
  | refine allc fun c_ => ?_
  | (refine imp fun hc => ?_) <;> try exact cx1 hc
  | refine all fun v_ => ?_)
 all_goals clear fA_ fH_
 refine J_loopV (X := Nat) (fun i => [(3, .d (intsD ps)), (5, .int (2 ^ i : Nat)), (6, .int i)]) (fun _ => []) (fun i => i ≤ ps.length) (fun i => ps.length - i) 0 (Nat.zero_le _) (VS.trans (VS.drop (List.nil_sublist _)) (VS.of_le ?_)) ?_
 · exact leD
 rintro i hi
 have hp := pow64 (n := i) (by omega)
 have e2 : ((2 ^ i : Nat) : Int) * 2 = ((2 ^ (i + 1) : Nat) : Int) := by rw [Nat.pow_succ]; omega
 generalize hx : (2 ^ i : Nat) = x at hp e2 ⊢
 by_cases hil : i < ps.length
 · all_goals haveI fA_ : FlagA := ⟨⟩
   all_goals haveI fH_ : FlagH := ⟨⟩
   repeat' (first
    | refine armXN6_2 ?_
    | exact True.intro
    | refine stp ?_
    | refine two ?_ ?_
    | refine allc fun c_ => ?_
    | (refine imp fun hc => ?_) <;> try exact cx1 hc
    | refine all fun v_ => ?_)
   all_goals clear fA_ fH_
   refine ⟨i + 1, by omega, by omega, VS.of_le ?_⟩
   rw [e2]
   exact leD
 obtain rfl : i = ps.length := by omega
 all_goals haveI fA_ : FlagA := ⟨⟩
 all_goals haveI fH_ : FlagH := ⟨⟩
 repeat' (first
  | refine armXN6_2 ?_
  | exact True.intro
  | refine stp ?_
  | refine two ?_ ?_
  | refine allc fun c_ => ?_
  | (refine imp fun hc => ?_) <;> try exact cx1 hc
  | refine all fun v_ => ?_)
 all_goals clear fA_ fH_
 refine retv (VS.drop (List.nil_sublist _)) ?_
 ((with_reducible apply rq1); rfl; rfl)
 exact ret_eq (by rw [hx])
theorem armXN6_3 {p q : Prop} (hp : p) (h : p → q := by
 apply cmp; (focus (first
  | ((with_reducible apply call0); (focus rfl); (focus exact cal_PCheck); (focus exact hP); (focus rfl))
  | ((with_reducible apply je_call0); (focus rfl); (focus (decide +kernel)); (focus rfl); (focus exact cal_PCheck); (focus exact hP); (focus rfl))
  ))
 exact fun h => h) : q := h hp
theorem armXN6_4 {p q : Prop} (hp : p) (h : p → q := by
 apply cmp; (focus (first
  | ((with_reducible apply call0); (focus rfl); (focus exact cal_PCheck); (focus exact hP); (focus rfl))
  | ((with_reducible apply je_call0); (focus rfl); (focus (decide +kernel)); (focus rfl); (focus exact cal_PCheck); (focus exact hP); (focus rfl))
  | ((with_reducible apply call0); (focus rfl); (focus exact cal_First); (focus exact hF); (focus rfl))
  | ((with_reducible apply je_call0); (focus rfl); (focus (decide +kernel)); (focus rfl); (focus exact cal_First); (focus exact hF); (focus rfl))
  | ((with_reducible apply call0); (focus rfl); (focus exact cal_Letter); (focus exact hL); (focus rfl))
  | ((with_reducible apply je_call0); (focus rfl); (focus (decide +kernel)); (focus rfl); (focus exact cal_Letter); (focus exact hL); (focus rfl))
  | ((with_reducible apply call0); (focus rfl); (focus exact cal_claims); (focus exact hM); (focus rfl))
  | ((with_reducible apply je_call0); (focus rfl); (focus (decide +kernel)); (focus rfl); (focus exact cal_claims); (focus exact hM); (focus rfl))
  ))
 exact fun h => h) : q := h hp
theorem armXN6_5 {p q : Prop} (hp : p) (h : p → q := by
 apply cmp; (focus (first
  | ((with_reducible apply call0); (focus rfl); (focus exact cal_Truths); (focus exact hT); (focus rfl))
  | ((with_reducible apply je_call0); (focus rfl); (focus (decide +kernel)); (focus rfl); (focus exact cal_Truths); (focus exact hT); (focus rfl))
  ))
 exact fun h => h) : q := h hp
theorem Begin (t : Tk) : ACr Tryz.prog GP 42 [tkA t] (.tup [.d (opsD (beginF t).1), .int (beginF t).2]) := by
 have hP := PCheck t
 unfold beginF
 refine AC_ofV (ts := [2, 3]) Tryz.f42.ntmps Tryz.func42 rfl rfl rfl (by simp [Tryz.ntmps42]) fun W I => ?_
 by_cases h1 : taskF t ≠ 0
 · rw [if_pos h1]
   generalize taskF t = e at hP h1
   all_goals haveI fA_ : FlagA := ⟨⟩
   all_goals haveI fH_ : FlagH := ⟨⟩
   repeat' (first
    | refine armXN6_3 ?_
    | exact True.intro
    | refine stp ?_
    | refine two ?_ ?_
    | refine allc fun c_ => ?_
    | (refine imp fun hc => ?_) <;> try exact cx1 hc
    | refine all fun v_ => ?_)
   all_goals clear fA_ fH_
   refine retv (VS.trans (VS.drop (List.nil_sublist _)) (vnil (t := 2) 2 16 rfl)) ?_
   ((with_reducible apply rq2); rfl; rfl; rfl)
   exact ret_eq rfl
 rw [if_neg h1]
 replace h1 := Decidable.not_not.1 h1
 rw [h1] at hP
 obtain ⟨a1, a2, a3⟩ := taskF_ok h1
 obtain ⟨f1, f2, f3⟩ := first_ok a3
 have gf := good_of a2
 have hpos := gf.pos
 have h60 := gf.h60
 have hF : ACr Tryz.prog GP 36 [mdA t.model] (.tup [.int (firstF t.model), .int 0]) := by
  have h := First t.model
  rw [f1] at h
  exact h
 have hL := Letter t.model t.props (firstF t.model)
 have hM := claims t
 rw [lettF_ok h1 f2 f3] at hL
 dsimp only at hL
 obtain ⟨m1, m2⟩ := claims_few t
 have hll := lettF_len t (firstF t.model)
 have hin : ∀ n : Nat, n < claimsF t → truthsOf t.formula (lettF t (firstF t.model)) n = ((List.range t.formula.length).map (tAt t.formula (lettF t (firstF t.model)) n), 0) := fun n hn => truths_ok h1 _ hll (by omega) (by omega)
 have hyes := fun n => beginL_yes (t := t) (n := n)
 have hno := fun n => beginL_no (t := t) (n := n)
 have hbl := beginL_len t
 have hb0 : beginL t 0 = [] := rfl
 generalize beginL t = B at hyes hno hbl hb0 ⊢
 generalize lettF t (firstF t.model) = lt at hL hll hin hyes hno
 generalize firstF t.model = fst at hF hL f2 f3 hyes hno
 generalize claimsF t = N at hM m1 m2 hin ⊢
 all_goals haveI fA_ : FlagA := ⟨⟩
 all_goals haveI fH_ : FlagH := ⟨⟩
 repeat' (first
  | refine armXN6_4 ?_
  | exact True.intro
  | refine stp ?_
  | refine two ?_ ?_
  | refine allc fun c_ => ?_
  | (refine imp fun hc => ?_) <;> try exact cx1 hc
  | refine all fun v_ => ?_)
 all_goals clear fA_ fH_
 refine jrow (E := 98) (sz := 2) Fo.cells ?_
 refine J_loopV (X := Nat × Sl) (fun y => [(1, .val (.pointer (some ⟨v_, 0, none⟩))), (5, .int fst), (7, .d (boolsD lt)), (9, .val y.2.v), (34, .int N), (35, .int y.1)]) (fun y => [rowE y.2.v 98 2 Fo.cells (B y.1), .cells v_ 29 [.d (varsD t.model.vars), .d (rulesD t.model.rules), .d (termsD t.props), .d (opsD t.formula)]]) (fun y => y.1 ≤ N) (fun y => N - y.1) (0, Sl.nil) (Nat.zero_le _) (VS.take (by rw [hb0]; exact takedD) ?_) ?_
 · exact leD
 rintro ⟨i, q⟩ hi
 dsimp only at hi ⊢
 have hbi := hbl i
 by_cases hil : i < N
 · have hT := Truths t.formula lt i
   rw [hin i hil] at hT
   have hyes := hyes i
   have hno := hno i
   obtain ⟨rest, hr⟩ := truths_cons hpos (tAt t.formula lt i)
   rw [hr] at hT
   dsimp only at hT
   cases hb : tAt t.formula lt i 0 with
   | true =>
     rw [hb] at hT
     have hno := hno hb
     all_goals haveI fA_ : FlagA := ⟨⟩
     all_goals haveI fH_ : FlagH := ⟨⟩
     repeat' (first
      | refine armXN6_5 ?_
      | ((with_reducible apply (japU1 (f := Fo.cells) (u := ⟨fst, (i : Int)⟩))); (focus rfl); (focus rfl); (focus (with_reducible exact ElC.h)); (focus exact updqD); (focus rfl); (focus rfl); (focus rfl); (focus rfl); (focus exact bndD); (focus exact bndD))
      | exact True.intro
      | refine stp ?_
      | refine two ?_ ?_
      | refine allc fun c_ => ?_
      | (refine imp fun hc => ?_) <;> try exact cx1 hc
      | refine all fun v_ => ?_)
     all_goals clear fA_ fH_
     refine ⟨(i + 1, q), by dsimp only; omega, by dsimp only; omega, VS.take (by dsimp only; rw [hno]; exact takedD) ?_⟩
     exact leD
   | false =>
     rw [hb] at hT
     have hyes := hyes hb
     all_goals haveI fA_ : FlagA := ⟨⟩
     all_goals haveI fH_ : FlagH := ⟨⟩
     repeat' (first
      | refine armXN6_5 ?_
      | ((with_reducible apply (japU1 (f := Fo.cells) (u := ⟨fst, (i : Int)⟩))); (focus rfl); (focus rfl); (focus (with_reducible exact ElC.h)); (focus exact updqD); (focus rfl); (focus rfl); (focus rfl); (focus rfl); (focus exact bndD); (focus exact bndD))
      | exact True.intro
      | refine stp ?_
      | refine two ?_ ?_
      | refine allc fun c_ => ?_
      | (refine imp fun hc => ?_) <;> try exact cx1 hc
      | refine all fun v_ => ?_)
     all_goals clear fA_ fH_
     refine ⟨(i + 1, v_), by dsimp only; omega, by dsimp only; omega, VS.take (by dsimp only; rw [hyes]; exact takedD) ?_⟩
     exact leD
 obtain rfl : i = N := by omega
 all_goals haveI fA_ : FlagA := ⟨⟩
 all_goals haveI fH_ : FlagH := ⟨⟩
 repeat' (first
  | exact True.intro
  | refine stp ?_
  | refine two ?_ ?_
  | refine allc fun c_ => ?_
  | (refine imp fun hc => ?_) <;> try exact cx1 hc
  | refine all fun v_ => ?_)
 all_goals clear fA_ fH_
 refine retv (VS.trans (vfreeze (t := 2) (eb := 16) rfl rfl (fun x => rfl) (by omega)) (VS.drop (List.nil_sublist _))) ?_
 ((with_reducible apply rq2); rfl; rfl; rfl)
 exact ret_eq rfl
theorem armXN6_6 {p q : Prop} (hp : p) (h : p → q := by
 apply cmp; (focus (first
  | ((with_reducible apply call0); (focus rfl); (focus exact cal_TaskFault); (focus exact hP); (focus rfl))
  | ((with_reducible apply je_call0); (focus rfl); (focus (decide +kernel)); (focus rfl); (focus exact cal_TaskFault); (focus exact hP); (focus rfl))
  ))
 exact fun h => h) : q := h hp
theorem armXN6_7 {p q : Prop} (hp : p) (h : p → q := by
 apply cmp; (focus (first
  | ((with_reducible apply call0); (focus rfl); (focus exact cal_TaskFault); (focus exact hP); (focus rfl))
  | ((with_reducible apply je_call0); (focus rfl); (focus (decide +kernel)); (focus rfl); (focus exact cal_TaskFault); (focus exact hP); (focus rfl))
  | ((with_reducible apply call0); (focus rfl); (focus exact cal_FirstCode); (focus exact hF); (focus rfl))
  | ((with_reducible apply je_call0); (focus rfl); (focus (decide +kernel)); (focus rfl); (focus exact cal_FirstCode); (focus exact hF); (focus rfl))
  | ((with_reducible apply call0); (focus rfl); (focus exact cal_LetterOf); (focus exact hL); (focus rfl))
  | ((with_reducible apply je_call0); (focus rfl); (focus (decide +kernel)); (focus rfl); (focus exact cal_LetterOf); (focus exact hL); (focus rfl))
  | ((with_reducible apply call0); (focus rfl); (focus exact cal_manyClaims); (focus exact hM); (focus rfl))
  | ((with_reducible apply je_call0); (focus rfl); (focus (decide +kernel)); (focus rfl); (focus exact cal_manyClaims); (focus exact hM); (focus rfl))
  ))
 exact fun h => h) : q := h hp
theorem armXN6_8 {p q : Prop} (hp : p) (h : p → q := by
 apply cmp; (focus (first
  | ((with_reducible apply call0); (focus rfl); (focus exact cal_TruthsOf); (focus exact hT); (focus rfl))
  | ((with_reducible apply je_call0); (focus rfl); (focus (decide +kernel)); (focus rfl); (focus exact cal_TruthsOf); (focus exact hT); (focus rfl))
  ))
 exact fun h => h) : q := h hp
theorem BeginOf (G : List (Nat × List D)) (t : Tk) : ACr Tryz.prog G 48 [tkA t] (.tup [.d (opsD (beginF t).1), .int (beginF t).2]) := by
 have hP := TaskFault G t
 unfold beginF
 refine AC_ofV (ts := [2, 3]) Tryz.f48.ntmps Tryz.func48 rfl rfl rfl (by simp [Tryz.ntmps48]) fun W I => ?_
 by_cases h1 : taskF t ≠ 0
 · rw [if_pos h1]
   generalize taskF t = e at hP h1
   all_goals haveI fA_ : FlagA := ⟨⟩
   all_goals haveI fH_ : FlagH := ⟨⟩
   repeat' (first
    | refine armXN6_6 ?_
    | exact True.intro
    | refine stp ?_
    | refine two ?_ ?_
    | refine allc fun c_ => ?_
    | (refine imp fun hc => ?_) <;> try exact cx1 hc
    | refine all fun v_ => ?_)
   all_goals clear fA_ fH_
   refine retv (VS.trans (VS.drop (List.nil_sublist _)) (vnil (t := 2) 2 16 rfl)) ?_
   ((with_reducible apply rq2); rfl; rfl; rfl)
   exact ret_eq rfl
 rw [if_neg h1]
 replace h1 := Decidable.not_not.1 h1
 rw [h1] at hP
 obtain ⟨a1, a2, a3⟩ := taskF_ok h1
 obtain ⟨f1, f2, f3⟩ := first_ok a3
 have gf := good_of a2
 have hpos := gf.pos
 have h60 := gf.h60
 have hF : ACr Tryz.prog G 63 [mdA t.model] (.tup [.int (firstF t.model), .int 0]) := by
  have h := FirstCode G t.model
  rw [f1] at h
  exact h
 have hL := LetterOf G t.model t.props (firstF t.model)
 have hM := manyClaims G t
 rw [lettF_ok h1 f2 f3] at hL
 dsimp only at hL
 obtain ⟨m1, m2⟩ := claims_few t
 have hll := lettF_len t (firstF t.model)
 have hin : ∀ n : Nat, n < claimsF t → truthsOf t.formula (lettF t (firstF t.model)) n = ((List.range t.formula.length).map (tAt t.formula (lettF t (firstF t.model)) n), 0) := fun n hn => truths_ok h1 _ hll (by omega) (by omega)
 have hyes := fun n => beginL_yes (t := t) (n := n)
 have hno := fun n => beginL_no (t := t) (n := n)
 have hbl := beginL_len t
 have hb0 : beginL t 0 = [] := rfl
 generalize beginL t = B at hyes hno hbl hb0 ⊢
 generalize lettF t (firstF t.model) = lt at hL hll hin hyes hno
 generalize firstF t.model = fst at hF hL f2 f3 hyes hno
 generalize claimsF t = N at hM m1 m2 hin ⊢
 all_goals haveI fA_ : FlagA := ⟨⟩
 all_goals haveI fH_ : FlagH := ⟨⟩
 repeat' (first
  | refine armXN6_7 ?_
  | exact True.intro
  | refine stp ?_
  | refine two ?_ ?_
  | refine allc fun c_ => ?_
  | (refine imp fun hc => ?_) <;> try exact cx1 hc
  | refine all fun v_ => ?_)
 all_goals clear fA_ fH_
 refine jrow (E := 98) (sz := 2) Fo.cells ?_
 refine J_loopV (X := Nat × Sl) (fun y => [(1, .val (.pointer (some ⟨v_, 0, none⟩))), (5, .int fst), (7, .d (boolsD lt)), (9, .int N), (10, .val y.2.v), (11, .int y.1)]) (fun y => [rowE y.2.v 98 2 Fo.cells (B y.1), .cells v_ 29 [.d (varsD t.model.vars), .d (rulesD t.model.rules), .d (termsD t.props), .d (opsD t.formula)]]) (fun y => y.1 ≤ N) (fun y => N - y.1) (0, Sl.nil) (Nat.zero_le _) (VS.take (by rw [hb0]; exact takedD) ?_) ?_
 · exact leD
 rintro ⟨i, q⟩ hi
 dsimp only at hi ⊢
 have hbi := hbl i
 by_cases hil : i < N
 · have hT := TruthsOf G t.formula lt i
   rw [hin i hil] at hT
   have hyes := hyes i
   have hno := hno i
   obtain ⟨rest, hr⟩ := truths_cons hpos (tAt t.formula lt i)
   rw [hr] at hT
   dsimp only at hT
   cases hb : tAt t.formula lt i 0 with
   | true =>
     rw [hb] at hT
     have hno := hno hb
     all_goals haveI fA_ : FlagA := ⟨⟩
     all_goals haveI fH_ : FlagH := ⟨⟩
     repeat' (first
      | refine armXN6_8 ?_
      | ((with_reducible apply (japU1 (f := Fo.cells) (u := ⟨fst, (i : Int)⟩))); (focus rfl); (focus rfl); (focus (with_reducible exact ElC.h)); (focus exact updqD); (focus rfl); (focus rfl); (focus rfl); (focus rfl); (focus exact bndD); (focus exact bndD))
      | exact True.intro
      | refine stp ?_
      | refine two ?_ ?_
      | refine allc fun c_ => ?_
      | (refine imp fun hc => ?_) <;> try exact cx1 hc
      | refine all fun v_ => ?_)
     all_goals clear fA_ fH_
     refine ⟨(i + 1, q), by dsimp only; omega, by dsimp only; omega, VS.take (by dsimp only; rw [hno]; exact takedD) ?_⟩
     exact leD
   | false =>
     rw [hb] at hT
     have hyes := hyes hb
     all_goals haveI fA_ : FlagA := ⟨⟩
     all_goals haveI fH_ : FlagH := ⟨⟩
     repeat' (first
      | refine armXN6_8 ?_
      | ((with_reducible apply (japU1 (f := Fo.cells) (u := ⟨fst, (i : Int)⟩))); (focus rfl); (focus rfl); (focus (with_reducible exact ElC.h)); (focus exact updqD); (focus rfl); (focus rfl); (focus rfl); (focus rfl); (focus exact bndD); (focus exact bndD))
      | exact True.intro
      | refine stp ?_
      | refine two ?_ ?_
      | refine allc fun c_ => ?_
      | (refine imp fun hc => ?_) <;> try exact cx1 hc
      | refine all fun v_ => ?_)
     all_goals clear fA_ fH_
     refine ⟨(i + 1, v_), by dsimp only; omega, by dsimp only; omega, VS.take (by dsimp only; rw [hyes]; exact takedD) ?_⟩
     exact leD
 obtain rfl : i = N := by omega
 all_goals haveI fA_ : FlagA := ⟨⟩
 all_goals haveI fH_ : FlagH := ⟨⟩
 repeat' (first
  | exact True.intro
  | refine stp ?_
  | refine two ?_ ?_
  | refine allc fun c_ => ?_
  | (refine imp fun hc => ?_) <;> try exact cx1 hc
  | refine all fun v_ => ?_)
 all_goals clear fA_ fH_
 refine retv (VS.trans (vfreeze (t := 2) (eb := 16) rfl rfl (fun x => rfl) (by omega)) (VS.drop (List.nil_sublist _))) ?_
 ((with_reducible apply rq2); rfl; rfl; rfl)
 exact ret_eq rfl
theorem BeginOfR (G : List (Nat × List D)) (t : Tk) (h1 : taskF t = 0) : AC Tryz.prog G 48 [tkA t] [] fun r h => ∃ q : Sl, r = .ret (.tup [.val q.v, .int 0]) ∧ h = [rowE q.v 98 2 Fo.cells (beginF t).1] := by
 have hP := TaskFault G t
 unfold beginF
 refine AC_ofV (ts := [2, 3]) Tryz.f48.ntmps Tryz.func48 rfl rfl rfl (by simp [Tryz.ntmps48]) fun W I => ?_
 rw [if_neg (fun k => k h1)]
 rw [h1] at hP
 obtain ⟨a1, a2, a3⟩ := taskF_ok h1
 obtain ⟨f1, f2, f3⟩ := first_ok a3
 have gf := good_of a2
 have hpos := gf.pos
 have h60 := gf.h60
 have hF : ACr Tryz.prog G 63 [mdA t.model] (.tup [.int (firstF t.model), .int 0]) := by
  have h := FirstCode G t.model
  rw [f1] at h
  exact h
 have hL := LetterOf G t.model t.props (firstF t.model)
 have hM := manyClaims G t
 rw [lettF_ok h1 f2 f3] at hL
 dsimp only at hL
 obtain ⟨m1, m2⟩ := claims_few t
 have hll := lettF_len t (firstF t.model)
 have hin : ∀ n : Nat, n < claimsF t → truthsOf t.formula (lettF t (firstF t.model)) n = ((List.range t.formula.length).map (tAt t.formula (lettF t (firstF t.model)) n), 0) := fun n hn => truths_ok h1 _ hll (by omega) (by omega)
 have hyes := fun n => beginL_yes (t := t) (n := n)
 have hno := fun n => beginL_no (t := t) (n := n)
 have hbl := beginL_len t
 have hb0 : beginL t 0 = [] := rfl
 generalize beginL t = B at hyes hno hbl hb0 ⊢
 generalize lettF t (firstF t.model) = lt at hL hll hin hyes hno
 generalize firstF t.model = fst at hF hL f2 f3 hyes hno
 generalize claimsF t = N at hM m1 m2 hin ⊢
 all_goals haveI fA_ : FlagA := ⟨⟩
 all_goals haveI fH_ : FlagH := ⟨⟩
 repeat' (first
  | refine armXN6_7 ?_
  | exact True.intro
  | refine stp ?_
  | refine two ?_ ?_
  | refine allc fun c_ => ?_
  | (refine imp fun hc => ?_) <;> try exact cx1 hc
  | refine all fun v_ => ?_)
 all_goals clear fA_ fH_
 refine jrow (E := 98) (sz := 2) Fo.cells ?_
 refine J_loopV (X := Nat × Sl) (fun y => [(1, .val (.pointer (some ⟨v_, 0, none⟩))), (5, .int fst), (7, .d (boolsD lt)), (9, .int N), (10, .val y.2.v), (11, .int y.1)]) (fun y => [rowE y.2.v 98 2 Fo.cells (B y.1), .cells v_ 29 [.d (varsD t.model.vars), .d (rulesD t.model.rules), .d (termsD t.props), .d (opsD t.formula)]]) (fun y => y.1 ≤ N) (fun y => N - y.1) (0, Sl.nil) (Nat.zero_le _) (VS.take (by rw [hb0]; exact takedD) ?_) ?_
 · exact leD
 rintro ⟨i, q⟩ hi
 dsimp only at hi ⊢
 have hbi := hbl i
 by_cases hil : i < N
 · have hT := TruthsOf G t.formula lt i
   rw [hin i hil] at hT
   have hyes := hyes i
   have hno := hno i
   obtain ⟨rest, hr⟩ := truths_cons hpos (tAt t.formula lt i)
   rw [hr] at hT
   dsimp only at hT
   cases hb : tAt t.formula lt i 0 with
   | true =>
     rw [hb] at hT
     have hno := hno hb
     all_goals haveI fA_ : FlagA := ⟨⟩
     all_goals haveI fH_ : FlagH := ⟨⟩
     repeat' (first
      | refine armXN6_8 ?_
      | ((with_reducible apply (japU1 (f := Fo.cells) (u := ⟨fst, (i : Int)⟩))); (focus rfl); (focus rfl); (focus (with_reducible exact ElC.h)); (focus exact updqD); (focus rfl); (focus rfl); (focus rfl); (focus rfl); (focus exact bndD); (focus exact bndD))
      | exact True.intro
      | refine stp ?_
      | refine two ?_ ?_
      | refine allc fun c_ => ?_
      | (refine imp fun hc => ?_) <;> try exact cx1 hc
      | refine all fun v_ => ?_)
     all_goals clear fA_ fH_
     refine ⟨(i + 1, q), by dsimp only; omega, by dsimp only; omega, VS.take (by dsimp only; rw [hno]; exact takedD) ?_⟩
     exact leD
   | false =>
     rw [hb] at hT
     have hyes := hyes hb
     all_goals haveI fA_ : FlagA := ⟨⟩
     all_goals haveI fH_ : FlagH := ⟨⟩
     repeat' (first
      | refine armXN6_8 ?_
      | ((with_reducible apply (japU1 (f := Fo.cells) (u := ⟨fst, (i : Int)⟩))); (focus rfl); (focus rfl); (focus (with_reducible exact ElC.h)); (focus exact updqD); (focus rfl); (focus rfl); (focus rfl); (focus rfl); (focus exact bndD); (focus exact bndD))
      | exact True.intro
      | refine stp ?_
      | refine two ?_ ?_
      | refine allc fun c_ => ?_
      | (refine imp fun hc => ?_) <;> try exact cx1 hc
      | refine all fun v_ => ?_)
     all_goals clear fA_ fH_
     refine ⟨(i + 1, v_), by dsimp only; omega, by dsimp only; omega, VS.take (by dsimp only; rw [hyes]; exact takedD) ?_⟩
     exact leD
 obtain rfl : i = N := by omega
 all_goals haveI fA_ : FlagA := ⟨⟩
 all_goals haveI fH_ : FlagH := ⟨⟩
 repeat' (first
  | exact True.intro
  | refine stp ?_
  | refine two ?_ ?_
  | refine allc fun c_ => ?_
  | (refine imp fun hc => ?_) <;> try exact cx1 hc
  | refine all fun v_ => ?_)
 all_goals clear fA_ fH_
 refine retv (VS.take (hc := [rowE q.v 98 2 Fo.cells (B i)]) (by exact takedD) (Env.le_refl _)) ?_
 ((with_reducible apply rq2); rfl; rfl; rfl)
 exact ⟨q, rfl, rfl⟩
end Go.Proofs.YtniklgkoiaeipaaGreatDoor
namespace Go.Sp
open Go Go.Av
set_option linter.unusedVariables false
set_option linter.unusedSimpArgs false

theorem codesL_succ (m : Md) (vs : List Int) (l : List Ru) (i : Nat) (h : i < l.length) : codesL m vs (l.take (i + 1)) = codesL m vs (l.take i) ++ (match afterF m l[i] vs with | none => [] | some out => [(codeF m out).1]) := by
 unfold codesL
 rw [List.take_succ_eq_append_getElem h, List.filterMap_append, List.filterMap_cons, List.filterMap_nil]
 cases afterF m l[i] vs <;> rfl
theorem codesL_none {m : Md} {vs : List Int} {l : List Ru} {i : Nat} (h : i < l.length) (ho : afterF m l[i] vs = none) : codesL m vs (l.take (i + 1)) = codesL m vs (l.take i) := by
 rw [codesL_succ m vs l i h, ho, List.append_nil]
theorem codesL_some {m : Md} {vs : List Int} {l : List Ru} {i : Nat} {out : List Int} (h : i < l.length) (ho : afterF m l[i] vs = some out) : codesL m vs (l.take (i + 1)) = codesL m vs (l.take i) ++ [(codeF m out).1] := by
 rw [codesL_succ m vs l i h, ho]
theorem codesL_len (m : Md) (vs : List Int) (l : List Ru) : (codesL m vs l).length ≤ l.length := List.length_filterMap_le _ _
theorem compact_len (l : List Int) (n : Nat) (hn : l.length ≤ n) : (Lib.compact l).length ≤ n := by
 unfold Lib.compact Lib.compactUpTo
 rw [List.length_map]
 exact Nat.le_trans (List.length_filter_le _ _) (by simpa using hn)
theorem upTo_succ (k : Nat) (l : List Int) : upTo (k + 1) l = upTo k l ++ (if (k : Int) ∈ l then [(k : Int)] else []) := by
 unfold upTo
 rw [List.range_succ, List.filter_append, List.map_append]
 by_cases h : (k : Int) ∈ l <;> simp [h]
theorem upTo_len (k : Nat) (l : List Int) : (upTo k l).length ≤ k := by
 unfold upTo
 rw [List.length_map]
 exact Nat.le_trans (List.length_filter_le _ _) (by simp)
theorem upTo_nil (n : Nat) : upTo n [] = [] := by
 unfold upTo; simp
def isR (n : Nat) (l : List Int) : List Bool := (List.range n).map fun c : Nat => decide ((c : Int) ∈ l)
theorem isR_nil (n : Nat) : isR n [] = List.replicate n false := by
 unfold isR
 refine List.ext_getElem (by simp) fun i h1 h2 => ?_
 simp
theorem isR_len (n : Nat) (l : List Int) : (isR n l).length = n := by simp [isR]
theorem isR_get (n : Nat) (l : List Int) (i : Nat) (h : i < (isR n l).length) : (isR n l)[i] = decide ((i : Int) ∈ l) := by simp [isR]
theorem isR_put (n : Nat) (l : List Int) (c : Int) (h0 : 0 ≤ c) : (isR n l).set c.toNat true = isR n (l ++ [c]) := by
 refine List.ext_getElem (by simp [isR]) fun i h1 h2 => ?_
 rw [List.getElem_set, isR_get]
 by_cases h : c.toNat = i
 · rw [if_pos h]
   have : (i : Int) = c := by omega
   rw [isR_get]
   simp [this]
 · rw [if_neg h, isR_get]
   have : ¬ (i : Int) = c := by omega
   simp [this]
theorem nextF_err {m : Md} {c : Int} (h : (valsF m c).2 ≠ 0) : nextF m c = ([], (valsF m c).2) := by unfold nextF; rw [if_pos h]
theorem nextF_ok {m : Md} {c : Int} (h : (valsF m c).2 = 0) : nextF m c = (if codesL m (valsT m.vars c) m.rules = [] then [c] else upTo (prodV m.vars).toNat (codesL m (valsT m.vars c) m.rules), 0) := by
 obtain ⟨_, _, _, e⟩ := valsF_ok h
 unfold nextF
 rw [if_neg (fun k => k h), e]
theorem modelF_few {m : Md} (h : modelF m = 0) : m.rules.length ≤ 12 := by
 have hv := modelF_vars h
 unfold modelF at h
 rw [if_neg (fun k => k hv)] at h
 by_cases c : 12 < m.rules.length
 · rw [if_pos c] at h; exact absurd h (by decide)
 · omega
theorem afterC_at {m : Md} {code : Int} {vs : List Int} (hv : valsF m code = (vs, 0)) (i : Nat) (h : i < m.rules.length) : (afterF m m.rules[i] vs = none → afterC m code i = (0, 11)) ∧ ∀ out, afterF m m.rules[i] vs = some out → afterC m code i = codeF m out := by
 have e := afterC_yes hv (rule := i) (by omega) (by simpa using h)
 simp only [Int.toNat_natCast] at e
 rw [e]
 exact ⟨fun ho => by rw [ho], fun out ho => by rw [ho]⟩
theorem states_nat {m : Md} (h : modelF m = 0) : ∃ n : Nat, prodV m.vars = n ∧ 1 ≤ n ∧ n ≤ 4096 := by
 have g := goodV (modelF_vars h)
 have h1 := prodV_pos fun v hv => (g.span v hv).1
 have h2 := g.all
 exact ⟨(prodV m.vars).toNat, by omega, by omega, by omega⟩
end Go.Sp
namespace Go.Sp
open Go Go.Av
set_option linter.unusedVariables false
set_option linter.unusedSimpArgs false

theorem nextF_range {m : Md} (hm : modelF m = 0) (c : Int) : ∀ x ∈ (nextF m c).1, 0 ≤ x ∧ x < prodV m.vars := fun x hx => by
 by_cases h : (valsF m c).2 ≠ 0
 · rw [nextF_err h] at hx; cases hx
 · rw [nextF_ok (Decidable.not_not.1 h)] at hx
   obtain ⟨_, h0, h1, _⟩ := valsF_ok (Decidable.not_not.1 h)
   dsimp only at hx
   by_cases hc : codesL m (valsT m.vars c) m.rules = []
   · rw [if_pos hc] at hx; rw [List.mem_singleton.1 hx]; exact ⟨h0, h1⟩
   · rw [if_neg hc] at hx
     have := upTo_range hx
     obtain ⟨n, hn, _, _⟩ := states_nat hm
     rw [hn] at this ⊢
     rw [Int.toNat_natCast] at this
     exact ⟨this.1, this.2.1⟩
noncomputable def nxM (m : Md) (c : Nat) : List Nat := (nextF m c).1.map Int.toNat
structure RM (m : Md) (n : Nat) (i : Nat) (xs : List Int) : Prop where
 nodup : xs.Nodup
 range : ∀ x ∈ xs, 0 ≤ x ∧ x < n
 sound : ∀ x ∈ xs, fromP (nxM m) [(firstF m).toNat] x.toNat
 first : firstF m ∈ xs
 done : ∀ (j : Nat) (h : j < xs.length), j < i → ∀ y ∈ (nextF m xs[j]).1, y ∈ xs
end Go.Sp
namespace Go.Sp
open Go.Av
set_option linter.unusedVariables false
set_option linter.unusedSimpArgs false

def lawB (k : Int) (a1 s b b1 : Bool) : Bool := if k = 14 then b1 else if k = 17 then a1 || b else if k = 18 then a1 && b else if k = 15 then s || (a1 && b) else s && (a1 || b)
theorem lawB_second {k : Int} (a1 u v b b1 : Bool) (hk : aheadP k) (hu : k = 15 ∨ k = 16 → u = v) : lawB k a1 u b b1 = lawB k a1 v b b1 := by
 by_cases h : k = 15 ∨ k = 16
 · rw [hu h]
 · unfold aheadP at hk
   unfold lawB
   by_cases h14 : k = 14
   · rw [if_pos h14, if_pos h14]
   by_cases h17 : k = 17
   · rw [if_neg h14, if_neg h14, if_pos h17, if_pos h17]
   rw [if_neg h14, if_neg h14, if_neg h17, if_neg h17, if_pos (by omega), if_pos (by omega)]
def metB (k : Int) (a a1 s : Bool) : Bool := if k = 17 then !a || a1 else if k = 18 then a || !a1 else if k = 15 then !a || s else if k = 16 then a || !s else true
def keptAt (l : List Fo) (A B : Nat → Bool) (i : Nat) : Prop := aheadP (kindAt l i) → A i = lawB (kindAt l i) (A (i + 1)) (A (second l i)) (B i) (B (i + 1))
instance (l : List Fo) (A B : Nat → Bool) (i : Nat) : Decidable (keptAt l A B i) := by unfold keptAt; infer_instance
def kept (l : List Fo) (A B : Nat → Bool) : Prop := ∀ i, i < l.length → keptAt l A B i
instance (l : List Fo) (A B : Nat → Bool) : Decidable (kept l A B) := by unfold kept; infer_instance
def followsOf (l : List Fo) (x : List Bool) (c : Int) (y : List Bool) (d : Int) : Bool × Int :=
 if x.length ≠ y.length then (false, 1)
 else if (truthsOf l x c).2 ≠ 0 then (false, (truthsOf l x c).2)
 else if (truthsOf l y d).2 ≠ 0 then (false, (truthsOf l y d).2)
 else (decide (kept l (tAt l x c) (tAt l y d)), 0)
def metAt (l : List Fo) (A : Nat → Bool) (i : Nat) : Bool := metB (kindAt l i) (A i) (A (i + 1)) (A (second l i))
def mets (l : List Fo) (A : Nat → Bool) : Nat → Int
 | 0 => 0
 | i + 1 => mets l A i + if aheadP (kindAt l i) ∧ metAt l A i = true then 2 ^ rank l i else 0
def meetsOf (l : List Fo) (x : List Bool) (c : Int) : Int × Int :=
 if (truthsOf l x c).2 ≠ 0 then (0, (truthsOf l x c).2) else (mets l (tAt l x c) l.length, 0)
theorem mets_bound (l : List Fo) (A : Nat → Bool) : ∀ i, 0 ≤ mets l A i ∧ mets l A i < 2 ^ rank l i
 | 0 => by simp [mets, rank]
 | i + 1 => by
   have ih := mets_bound l A i
   simp only [mets, rank]
   by_cases h1 : aheadP (kindAt l i)
   · rw [if_pos h1, Int.pow_succ]
     by_cases h2 : metAt l A i = true
     · rw [if_pos ⟨h1, h2⟩]; omega
     · rw [if_neg (fun h => h2 h.2)]; omega
   · rw [if_neg h1, if_neg (fun h => h1 h.1), Nat.add_zero]; omega
structure TV (l : List Fo) (a : List Bool) (A : Nat → Bool) : Prop where
 len : a.length = l.length
 get : ∀ (i : Nat) (h : i < a.length), a[i] = A i
theorem truthsOf_ok {l : List Fo} {x : List Bool} {c : Int} {a : List Bool} (h : truthsOf l x c = (a, 0)) : GoodF l x.length ∧ TV l a (tAt l x c) := by
 unfold truthsOf at h
 by_cases h1 : (aheadsOf l x.length).2 ≠ 0
 · rw [if_pos h1] at h; simp at h; exact absurd h.2 h1
 rw [if_neg h1] at h
 by_cases h2 : c < 0 ∨ 2 ^ (aheadsOf l x.length).1.length ≤ c
 · rw [if_pos h2] at h; simp at h
 rw [if_neg h2] at h
 simp only [Prod.mk.injEq, and_true] at h
 subst h
 have := aheadsOf_ok (l := l) (p := x.length) (ps := (aheadsOf l x.length).1) (Prod.ext rfl (by simpa using h1))
 exact ⟨good_of this.1, by simp, fun i hi => by simp⟩
end Go.Sp
namespace Go.Sp
open Go Go.Av
set_option linter.unusedVariables false
set_option linter.unusedSimpArgs false

noncomputable def folB (t : Tk) (st cl c : Int) (d : Int) : Bool := decide (kept t.formula (tAt t.formula (lettF t st) cl) (tAt t.formula (lettF t c) d))
theorem follows_ok {t : Tk} (h : taskF t = 0) {st cl c d : Int} (h0 : 0 ≤ cl) (h1 : cl < claimsF t) (h2 : 0 ≤ d) (h3 : d < claimsF t) : followsOf t.formula (lettF t st) cl (lettF t c) d = (folB t st cl c d, 0) := by
 have e1 := truths_ok h (lettF t st) (lettF_len t st) h0 h1
 have e2 := truths_ok h (lettF t c) (lettF_len t c) h2 h3
 unfold followsOf
 rw [if_neg (by simp), e1, e2, if_neg (by simp), if_neg (by simp)]
 rfl
noncomputable def folL (t : Tk) (st cl c : Int) (k : Nat) : List Fo := ((List.range k).filter fun d : Nat => folB t st cl c d).map fun d : Nat => ⟨c, d⟩
theorem folL_yes {t : Tk} {st cl c : Int} {k : Nat} (h : folB t st cl c k = true) : folL t st cl c (k + 1) = folL t st cl c k ++ [⟨c, k⟩] := by
 unfold folL
 rw [List.range_succ, List.filter_append, List.map_append]
 simp [h]
theorem folL_no {t : Tk} {st cl c : Int} {k : Nat} (h : folB t st cl c k = false) : folL t st cl c (k + 1) = folL t st cl c k := by
 unfold folL
 rw [List.range_succ, List.filter_append, List.map_append]
 simp [h]
theorem folL_len (t : Tk) (st cl c : Int) (k : Nat) : (folL t st cl c k).length ≤ k := by
 unfold folL
 rw [List.length_map]
 exact Nat.le_trans (List.length_filter_le _ _) (by simp)
noncomputable def behL (t : Tk) (st cl : Int) (cs : List Int) : List Fo := cs.flatMap fun c => folL t st cl c (claimsF t)
theorem behL_succ (t : Tk) (st cl : Int) (cs : List Int) (i : Nat) (h : i < cs.length) : behL t st cl (cs.take (i + 1)) = behL t st cl (cs.take i) ++ folL t st cl cs[i] (claimsF t) := by
 unfold behL
 rw [List.take_succ_eq_append_getElem h, List.flatMap_append]
 simp
theorem behL_len (t : Tk) (st cl : Int) : ∀ cs : List Int, (behL t st cl cs).length ≤ cs.length * 64
 | [] => by simp [behL]
 | c :: cs => by
   have ih := behL_len t st cl cs
   have h1 := folL_len t st cl c (claimsF t)
   have h2 := (claims_few t).2
   have e : behL t st cl (c :: cs) = folL t st cl c (claimsF t) ++ behL t st cl cs := by simp [behL]
   rw [e, List.length_append, List.length_cons]
   omega
noncomputable def behindF (t : Tk) (st cl : Int) : List Fo × Int :=
 if taskF t ≠ 0 then ([], taskF t)
 else if ¬ ((0 ≤ st ∧ st < prodV t.model.vars) ∧ 0 ≤ cl ∧ cl < claimsF t) then ([], 9)
 else (behL t st cl (nextF t.model st).1, 0)
theorem nextF_len {m : Md} (hm : modelF m = 0) (c : Int) : (nextF m c).1.length ≤ 4096 := by
 by_cases h : (valsF m c).2 ≠ 0
 · rw [nextF_err h]; exact Nat.zero_le _
 · rw [nextF_ok (Decidable.not_not.1 h)]
   obtain ⟨n, hn, n1, n2⟩ := states_nat hm
   dsimp only
   split
   · simp
   · rw [hn, Int.toNat_natCast]; exact Nat.le_trans (upTo_len _ _) n2
end Go.Sp
namespace Go.Av
open Go
set_option linter.unusedVariables false
set_option linter.unusedSimpArgs false

section
variable {k : Kx} {Q : Exit → Env → H → Prop} {ρ : Env} {h : H} {ops : Array Oper} {l : List Oper} {d : Nat} {ty : TypeId} {pos : String} {after : Array Edge}
theorem jeq_nil {α : Type} {f : α → List D} {xs : List α} {T T' E : TypeId} {x y : Operand} {sz eb : Nat} (hx : evO ρ x = some (.d (.l sz eb (xs.map f)))) (hy : evO ρ y = some (.val (.slice none 0 0))) (hT : k.P.underlying T = some (.slice E)) (hd : Nat.blt d k.n = true)
 (hj : Two (Imp (xs = []) (JL k ops l Q ((d, .bool true) :: ρ) h)) (JL k ops l Q ((d, .bool false) :: ρ) h)) : JL k ops (⟨some d, .binOp .eql T x y T', ty, pos, after, none⟩ :: l) Q ρ h := by
 refine JL_eff rfl (fun t ht => by cases ht; exact blt hd) fun I a w h1 h2 => ?_
 have ex : Rel w I (.l sz eb (xs.map f)) (a.eval x) := by have := h2.ev x; rw [ev_of_evO hx] at this; exact this
 have ey : a.eval y = .slice none 0 0 := rel_val (h2.ev y) (ev_of_evO hy)
 have key : ∀ (ad : Option Addr) (n c : Nat), a.eval x = .slice ad n c → (execOp a.eval ⟨some d, .binOp .eql T x y T', ty, pos, after, none⟩).run k.P w = .ok (.value (.bool ad.isNone)) w := by
  intro ad n c e
  have r : (binOp .eql T (.slice ad n c) (.slice none 0 0)).run k.P w = .ok (.bool ad.isNone) w := by
   simp only [binOp]
   simp [run_equal_slice_nil w T E ad n c hT]
  simp [execOp, e, ey, eqGuard_at_slice, r]
 have go : ∀ b, (b = true → xs = []) → JL k ops l Q (put ρ (some d) (.bool b)) h := by
  intro b hb
  cases b with
  | true => exact hj.1.get (hb rfl)
  | false => exact hj.2
 generalize hR : xs.map f = R at ex
 generalize hv : a.eval x = v at ex key
 cases ex with
 | nil => exact ⟨_, w, I, .bool true, h, key _ _ _ rfl, h1, h2, rfl, go true fun _ => List.map_eq_nil_iff.1 hR⟩
 | emp => exact ⟨_, w, I, .bool false, h, key _ _ _ rfl, h1, h2, rfl, go false fun h => (by cases h)⟩
 | l => exact ⟨_, w, I, .bool false, h, key _ _ _ rfl, h1, h2, rfl, go false fun h => (by cases h)⟩
end
end Go.Av
