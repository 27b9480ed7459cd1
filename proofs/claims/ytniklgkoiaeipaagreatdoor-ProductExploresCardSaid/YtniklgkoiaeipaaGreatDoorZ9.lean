/- A bundle of this claim's own texts: M6 G6 M8 E7 E11 Sf G9. -/
import Derived.Test.YtniklgkoiaeipaaGreatDoorZ3
import Derived.Test.YtniklgkoiaeipaaGreatDoorZ4
import Derived.Test.YtniklgkoiaeipaaGreatDoorZ8
namespace Go.Proofs.YtniklgkoiaeipaaGreatDoor
open Go Go.Av Go.Sp
set_option linter.unusedVariables false
set_option linter.unusedSimpArgs false
set_option maxRecDepth 100000
set_option maxHeartbeats 4000000

theorem cal_Code : Cal Tryz.prog 82 := Cal.of Tryz.func82 (by kernel_rfl) (by kernel_rfl)
theorem cal_CodeOf : Cal Tryz.prog 117 := Cal.of Tryz.func117 (by kernel_rfl) (by kernel_rfl)
theorem armXM6_1 {p q : Prop} (hp : p) (h : p → q := by
 apply cmp; (focus (first
  | ((with_reducible apply call0); (focus rfl); (focus exact cal_MdCheck); (focus exact MdCheck _); (focus rfl))
  | ((with_reducible apply je_call0); (focus rfl); (focus (decide +kernel)); (focus rfl); (focus exact cal_MdCheck); (focus exact MdCheck _); (focus rfl))
  ))
 exact fun h => h) : q := h hp
theorem Code (m : Md) (xs : List Int) : ACr Tryz.prog GP 82 [mdA m, .d (intsD xs)] (.tup [.int (codeF m xs).1, .int (codeF m xs).2]) := by
 refine AC.factI (f := intC) (xs := xs) (.there .here) fun hlx => ?_
 refine AC_ofV (ts := [4, 5]) Tryz.f82.ntmps Tryz.func82 rfl rfl rfl (by simp [Tryz.ntmps82]) fun W I => ?_
 by_cases c1 : modelF m ≠ 0
 · all_goals haveI fA_ : FlagA := ⟨⟩
   all_goals haveI fH_ : FlagH := ⟨⟩
   repeat' (first
    | refine armXM6_1 ?_
    | exact True.intro
    | refine stp ?_
    | refine two ?_ ?_
    | refine allc fun c_ => ?_
    | (refine imp fun hc => ?_) <;> try exact cx1 hc
    | refine all fun v_ => ?_)
   all_goals clear fA_ fH_
   refine retv (VS.drop (List.nil_sublist _)) ?_
   ((with_reducible apply rq2); rfl; rfl; rfl)
   exact ret_eq (by rw [codeF, if_pos c1])
 have hv := modelF_vars (show modelF m = 0 by omega)
 have g := goodV hv
 have hl6 := varsF_len hv
 by_cases c2 : xs.length ≠ m.vars.length
 · all_goals haveI fA_ : FlagA := ⟨⟩
   all_goals haveI fH_ : FlagH := ⟨⟩
   repeat' (first
    | refine armXM6_1 ?_
    | exact True.intro
    | refine stp ?_
    | refine two ?_ ?_
    | refine allc fun c_ => ?_
    | (refine imp fun hc => ?_) <;> try exact cx1 hc
    | refine all fun v_ => ?_)
   all_goals clear fA_ fH_
   refine retv (VS.drop (List.nil_sublist _)) ?_
   ((with_reducible apply rq2); rfl; rfl; rfl)
   exact ret_eq (by rw [codeF, if_neg c1, if_pos c2])
 have hF : codeF m xs = codeE 0 m.vars xs := by rw [codeF, if_neg c1, if_neg c2]
 have hxl : xs.length = m.vars.length := Decidable.not_not.1 c2
 clear c2
 all_goals haveI fA_ : FlagA := ⟨⟩
 all_goals haveI fH_ : FlagH := ⟨⟩
 repeat' (first
  | refine armXM6_1 ?_
  | exact True.intro
  | refine stp ?_
  | refine two ?_ ?_
  | refine allc fun c_ => ?_
  | (refine imp fun hc => ?_) <;> try exact cx1 hc
  | refine all fun v_ => ?_)
 all_goals clear fA_ fH_
 refine J_loopV (X := Nat × Int) (fun y => [(1, .d (intsD xs)), (7, .int y.2), (22, .d (varsD m.vars)), (23, .int m.vars.length), (24, .int y.1)]) (fun _ => []) (fun y => y.1 ≤ m.vars.length ∧ 0 ≤ y.2 ∧ y.2 + 1 ≤ prodV (m.vars.take y.1) ∧ codeF m xs = codeE y.2 (m.vars.drop y.1) (xs.drop y.1)) (fun y => m.vars.length - y.1) (0, 0) ⟨Nat.zero_le _, by decide, by simp [prodV], hF⟩ (VS.trans (VS.drop (List.nil_sublist _)) (VS.of_le ?_)) ?_
 · exact leD
 rintro ⟨i, n⟩ ⟨h1, h2, h3, h4⟩
 dsimp only at h1 h2 h3 h4 ⊢
 by_cases hi : ¬ i < m.vars.length
 · rw [codeE_end _ _ _ _ (by omega)] at h4
   all_goals haveI fA_ : FlagA := ⟨⟩
   all_goals haveI fH_ : FlagH := ⟨⟩
   repeat' (first
    | refine armXM6_1 ?_
    | exact True.intro
    | refine stp ?_
    | refine two ?_ ?_
    | refine allc fun c_ => ?_
    | (refine imp fun hc => ?_) <;> try exact cx1 hc
    | refine all fun v_ => ?_)
   all_goals clear fA_ fH_
   refine retv (VS.drop (List.nil_sublist _)) ?_
   ((with_reducible apply rq2); rfl; rfl; rfl)
   exact ret_eq (by rw [h4])
 replace hi := Decidable.not_not.1 hi
 have hi' : i < xs.length := by omega
 rw [codeE_at _ _ _ _ hi hi'] at h4
 obtain ⟨d1, d2, d3, d4, d5⟩ := g.range _ (List.getElem_mem hi)
 by_cases cl : xs[i] < m.vars[i].low
 · rw [if_neg (by omega)] at h4
   all_goals haveI fA_ : FlagA := ⟨⟩
   all_goals haveI fH_ : FlagH := ⟨⟩
   repeat' (first
    | refine armXM6_1 ?_
    | exact True.intro
    | refine stp ?_
    | refine two ?_ ?_
    | refine allc fun c_ => ?_
    | (refine imp fun hc => ?_) <;> try exact cx1 hc
    | refine all fun v_ => ?_)
   all_goals clear fA_ fH_
   all_goals
    refine retv (VS.drop (List.nil_sublist _)) ?_
    ((with_reducible apply rq2); rfl; rfl; rfl)
    exact ret_eq (by rw [h4])
 by_cases ch : m.vars[i].high < xs[i]
 · rw [if_neg (by omega)] at h4
   all_goals haveI fA_ : FlagA := ⟨⟩
   all_goals haveI fH_ : FlagH := ⟨⟩
   repeat' (first
    | refine armXM6_1 ?_
    | exact True.intro
    | refine stp ?_
    | refine two ?_ ?_
    | refine allc fun c_ => ?_
    | (refine imp fun hc => ?_) <;> try exact cx1 hc
    | refine all fun v_ => ?_)
   all_goals clear fA_ fH_
   all_goals
    refine retv (VS.drop (List.nil_sublist _)) ?_
    ((with_reducible apply rq2); rfl; rfl; rfl)
    exact ret_eq (by rw [h4])
 rw [if_pos (by omega)] at h4
 have hsp : spanV m.vars[i] = m.vars[i].high - m.vars[i].low + 1 := rfl
 obtain ⟨s1, s2, s3⟩ := horner_step (s := spanV m.vars[i]) (d := xs[i] - m.vars[i].low) h2 h3 (by omega) (by omega)
 rw [← prodV_take_succ m.vars i hi] at s3
 have b2 := (g.take (i + 1)).2.1
 rw [hsp] at s1 s2 s3 h4
 have hin : inI64 (n * (m.vars[i].high - m.vars[i].low + 1)) := ⟨by omega, by omega⟩
 all_goals haveI fA_ : FlagA := ⟨⟩
 all_goals haveI fH_ : FlagH := ⟨⟩
 repeat' (first
  | refine armXM6_1 ?_
  | exact True.intro
  | refine stp ?_
  | refine two ?_ ?_
  | refine allc fun c_ => ?_
  | (refine imp fun hc => ?_) <;> try exact cx1 hc
  | refine all fun v_ => ?_)
 all_goals clear fA_ fH_
 refine ⟨(i + 1, n * (m.vars[i].high - m.vars[i].low + 1) + (xs[i] - m.vars[i].low)), ⟨by dsimp only; omega, s2, s3, h4⟩, by dsimp only; omega, ?_⟩
 dsimp only
 rw [show n * (m.vars[i].high - m.vars[i].low + 1) + (xs[i] - m.vars[i].low) = n * (m.vars[i].high - m.vars[i].low + 1) + xs[i] - m.vars[i].low by omega]
 refine VS.trans (VS.drop (List.nil_sublist _)) (VS.of_le ?_)
 exact leD
theorem armXM6_2 {p q : Prop} (hp : p) (h : p → q := by
 apply cmp; (focus (first
  | ((with_reducible apply call0); (focus rfl); (focus exact cal_ModelFault); (focus exact ModelFault _ _); (focus rfl))
  | ((with_reducible apply je_call0); (focus rfl); (focus (decide +kernel)); (focus rfl); (focus exact cal_ModelFault); (focus exact ModelFault _ _); (focus rfl))
  | ((with_reducible apply call0); (focus rfl); (focus exact cal_In); (focus exact In _ _ _ _); (focus rfl))
  | ((with_reducible apply je_call0); (focus rfl); (focus (decide +kernel)); (focus rfl); (focus exact cal_In); (focus exact In _ _ _ _); (focus rfl))
  ))
 exact fun h => h) : q := h hp
theorem armXM6_3 {p q : Prop} (hp : p) (h : p → q := by
 apply cmp; (focus (first
  | ((with_reducible apply call0); (focus rfl); (focus exact cal_In); (focus exact e2); (focus rfl))
  | ((with_reducible apply je_call0); (focus rfl); (focus (decide +kernel)); (focus rfl); (focus exact cal_In); (focus exact e2); (focus rfl))
  | ((with_reducible apply qcall); (focus rfl); (focus exact cal_In); (focus exact e2); (focus rfl))
  ))
 exact fun h => h) : q := h hp
theorem armXM6_4 {p q : Prop} (hp : p) (h : p → q := by
 apply cmp; (focus (first
  | ((with_reducible apply call0); (focus rfl); (focus exact cal_In); (focus exact e2); (focus rfl))
  | ((with_reducible apply je_call0); (focus rfl); (focus (decide +kernel)); (focus rfl); (focus exact cal_In); (focus exact e2); (focus rfl))
  | ((with_reducible apply qcall); (focus rfl); (focus exact cal_In); (focus exact e2); (focus rfl))
  | ((with_reducible apply call0); (focus rfl); (focus exact cal_behindVar); (focus exact e3); (focus rfl))
  | ((with_reducible apply je_call0); (focus rfl); (focus (decide +kernel)); (focus rfl); (focus exact cal_behindVar); (focus exact e3); (focus rfl))
  | ((with_reducible apply qcall); (focus rfl); (focus exact cal_behindVar); (focus exact e3); (focus rfl))
  ))
 exact fun h => h) : q := h hp
theorem CodeOf (G : List (Nat × List D)) (m : Md) (xs : List Int) : ACr Tryz.prog G 117 [mdA m, .d (intsD xs)] (.tup [.int (codeF m xs).1, .int (codeF m xs).2]) := by
 refine AC.factI (f := intC) (xs := xs) (.there .here) fun hlx => ?_
 refine AC_ofV (ts := [4, 5]) Tryz.f117.ntmps Tryz.func117 rfl rfl rfl (by simp [Tryz.ntmps117]) fun W I => ?_
 by_cases c1 : modelF m ≠ 0
 · all_goals haveI fA_ : FlagA := ⟨⟩
   all_goals haveI fH_ : FlagH := ⟨⟩
   repeat' (first
    | refine armXM6_2 ?_
    | exact True.intro
    | refine stp ?_
    | refine two ?_ ?_
    | refine allc fun c_ => ?_
    | (refine imp fun hc => ?_) <;> try exact cx1 hc
    | refine all fun v_ => ?_)
   all_goals clear fA_ fH_
   refine retv (VS.drop (List.nil_sublist _)) ?_
   ((with_reducible apply rq2); rfl; rfl; rfl)
   exact ret_eq (by rw [codeF, if_pos c1])
 have hv := modelF_vars (show modelF m = 0 by omega)
 have g := goodV hv
 have hl6 := varsF_len hv
 by_cases c2 : xs.length ≠ m.vars.length
 · all_goals haveI fA_ : FlagA := ⟨⟩
   all_goals haveI fH_ : FlagH := ⟨⟩
   repeat' (first
    | refine armXM6_2 ?_
    | exact True.intro
    | refine stp ?_
    | refine two ?_ ?_
    | refine allc fun c_ => ?_
    | (refine imp fun hc => ?_) <;> try exact cx1 hc
    | refine all fun v_ => ?_)
   all_goals clear fA_ fH_
   refine retv (VS.drop (List.nil_sublist _)) ?_
   ((with_reducible apply rq2); rfl; rfl; rfl)
   exact ret_eq (by rw [codeF, if_neg c1, if_pos c2])
 have hxl : xs.length = m.vars.length := Decidable.not_not.1 c2
 have hF := codeF_T m xs (by omega) hxl
 clear c2
 all_goals haveI fA_ : FlagA := ⟨⟩
 all_goals haveI fH_ : FlagH := ⟨⟩
 repeat' (first
  | refine armXM6_2 ?_
  | exact True.intro
  | refine stp ?_
  | refine two ?_ ?_
  | refine allc fun c_ => ?_
  | (refine imp fun hc => ?_) <;> try exact cx1 hc
  | refine all fun v_ => ?_)
 all_goals clear fA_ fH_
 refine J_loopV (X := Nat × Int) (fun y => [(1, .d (intsD xs)), (2, .val (.pointer (some ⟨v_, 0, none⟩))), (7, .int y.2), (8, .int y.1)]) (fun _ => [.cells v_ 25 [.d (varsD m.vars), .d (rulesD m.rules)]]) (fun y => y.1 ≤ m.vars.length ∧ 0 ≤ y.2 ∧ y.2 + prodV (m.vars.drop y.1) ≤ prodV m.vars ∧ codeF m xs = codeT y.2 (m.vars.drop y.1) (xs.drop y.1)) (fun y => m.vars.length - y.1) (0, 0) ⟨Nat.zero_le _, by decide, by simp, hF⟩ (VS.of_le ?_) ?_
 · exact leD
 rintro ⟨i, n⟩ ⟨h1, h2, h3, h4⟩
 dsimp only at h1 h2 h3 h4 ⊢
 by_cases hi : ¬ i < m.vars.length
 · rw [codeT_end _ _ _ _ (by omega)] at h4
   all_goals haveI fA_ : FlagA := ⟨⟩
   all_goals haveI fH_ : FlagH := ⟨⟩
   repeat' (first
    | refine armXM6_2 ?_
    | exact True.intro
    | refine stp ?_
    | refine two ?_ ?_
    | refine allc fun c_ => ?_
    | (refine imp fun hc => ?_) <;> try exact cx1 hc
    | refine all fun v_ => ?_)
   all_goals clear fA_ fH_
   refine retv (VS.drop (List.nil_sublist _)) ?_
   ((with_reducible apply rq2); rfl; rfl; rfl)
   exact ret_eq (by rw [h4])
 replace hi := Decidable.not_not.1 hi
 have hi' : i < xs.length := by omega
 rw [codeT_at _ _ _ _ hi hi'] at h4
 obtain ⟨d1, d2, d3, d4, d5⟩ := g.range _ (List.getElem_mem hi)
 by_cases cl : ¬ (m.vars[i].low ≤ xs[i] ∧ xs[i] ≤ m.vars[i].high)
 · rw [if_neg cl] at h4
   have e1 : decide (m.vars[i].low ≤ xs[i] ∧ xs[i] ≤ m.vars[i].high) = false := decide_eq_false cl
   have e2 := In G xs[i] m.vars[i].low m.vars[i].high
   rw [e1] at e2
   all_goals haveI fA_ : FlagA := ⟨⟩
   all_goals haveI fH_ : FlagH := ⟨⟩
   repeat' (first
    | refine armXM6_3 ?_
    | exact True.intro
    | refine stp ?_
    | refine two ?_ ?_
    | refine allc fun c_ => ?_
    | (refine imp fun hc => ?_) <;> try exact cx1 hc
    | refine all fun v_ => ?_)
   all_goals clear fA_ fH_
   all_goals
    refine retv (VS.drop (List.nil_sublist _)) ?_
    ((with_reducible apply rq2); rfl; rfl; rfl)
    exact ret_eq (by rw [h4])
 replace cl := Decidable.not_not.1 cl
 rw [if_pos cl] at h4
 have e1 : decide (m.vars[i].low ≤ xs[i] ∧ xs[i] ≤ m.vars[i].high) = true := decide_eq_true cl
 have e2 := In G xs[i] m.vars[i].low m.vars[i].high
 rw [e1] at e2
 have hsp : spanV m.vars[i] = m.vars[i].high - m.vars[i].low + 1 := rfl
 rw [prodV_drop _ _ hi] at h3
 have hq := (g.take (i + 1)).2.2
 obtain ⟨s1, s2, s3⟩ := sum_step (d := xs[i] - m.vars[i].low) h2 h3 hq.1 (by omega) (by omega)
 have ha := g.all
 have e3 := behindVar G m g hl6 (i + 1) (by omega) i (by omega)
 have hin : inI64 ((xs[i] - m.vars[i].low) * prodV (m.vars.drop (i + 1))) := ⟨by omega, by omega⟩
 all_goals haveI fA_ : FlagA := ⟨⟩
 all_goals haveI fH_ : FlagH := ⟨⟩
 repeat' (first
  | refine armXM6_4 ?_
  | exact True.intro
  | refine stp ?_
  | refine two ?_ ?_
  | refine allc fun c_ => ?_
  | (refine imp fun hc => ?_) <;> try exact cx1 hc
  | refine all fun v_ => ?_)
 all_goals clear fA_ fH_
 refine ⟨(i + 1, n + (xs[i] - m.vars[i].low) * prodV (m.vars.drop (i + 1))), ⟨by dsimp only; omega, s2, s3, h4⟩, by dsimp only; omega, VS.of_le ?_⟩
 exact leD
end Go.Proofs.YtniklgkoiaeipaaGreatDoor
namespace Go.Sp
open Go Go.Av
set_option linter.unusedVariables false
set_option linter.unusedSimpArgs false

def valsT : List Vr → Int → List Int
 | [], _ => []
 | v :: l, c => (v.low + c / prodV l) :: valsT l (c % prodV l)
theorem valsT_length : ∀ (l : List Vr) (c : Int), (valsT l c).length = l.length
 | [], _ => rfl
 | _ :: l, c => by simp [valsT, valsT_length l]
theorem valsT_at (l : List Vr) (i : Nat) (c : Int) (h : i < l.length) : valsT (l.drop i) c = (l[i].low + c / prodV (l.drop (i + 1))) :: valsT (l.drop (i + 1)) (c % prodV (l.drop (i + 1))) := by
 rw [List.drop_eq_getElem_cons h, valsT]
theorem dig_eq (c q s t : Int) (hq : 0 < q) : (c % (t * (s * q))) / q % s = c / q % s := by
 have e : c % (t * (s * q)) = c + (-(t * (c / (t * (s * q)))) * s) * q := by
  rw [Int.emod_def, show t * (s * q) * (c / (t * (s * q))) = t * (c / (t * (s * q))) * s * q by
   rw [Int.mul_assoc t (s * q), Int.mul_comm (s * q), ← Int.mul_assoc, ← Int.mul_assoc]]
  rw [Int.neg_mul, Int.neg_mul]
  omega
 rw [e, Int.add_mul_ediv_right _ _ (by omega), Int.add_mul_emod_self_right]
theorem valsT_get : ∀ (l : List Vr) (c : Int) (i : Nat) (_ : ∀ v ∈ l, 1 ≤ spanV v) (_ : 0 ≤ c) (_ : c < prodV l) (h : i < l.length) (h' : i < (valsT l c).length), (valsT l c)[i] = l[i].low + c / prodV (l.drop (i + 1)) % spanV l[i]
 | [], _, _, _, _, _, h, _ => by simp at h
 | v :: l, c, 0, hs, h0, hc, _, _ => by
   have hp := prodV_pos fun w hw => hs w (List.mem_cons_of_mem v hw)
   simp only [valsT, List.getElem_cons_zero, List.drop_succ_cons, List.drop_zero]
   rw [Int.emod_eq_of_lt (Int.ediv_nonneg h0 (by omega)) (Int.ediv_lt_of_lt_mul (by omega) hc)]
 | v :: l, c, i + 1, hs, h0, hc, h, h' => by
   have hl : ∀ w ∈ l, 1 ≤ spanV w := fun w hw => hs w (List.mem_cons_of_mem v hw)
   have hp := prodV_pos hl
   have hi : i < l.length := by simpa using h
   have hq := prodV_pos fun w hw => hl w (List.mem_of_mem_drop (i := i + 1) hw)
   have e : prodV l = prodV (l.take i) * (spanV l[i] * prodV (l.drop (i + 1))) := by
    rw [← prodV_drop l i hi, ← prodV_append, List.take_append_drop]
   simp only [valsT, List.getElem_cons_succ, List.drop_succ_cons]
   rw [valsT_get l _ i hl (Int.emod_nonneg _ (by omega)) (Int.emod_lt_of_pos _ (by omega)) hi, e, dig_eq _ _ _ _ (by omega)]
noncomputable def valsF (m : Md) (c : Int) : List Int × Int := if modelF m ≠ 0 then ([], modelF m) else if 0 ≤ c ∧ c < prodV m.vars then (valsT m.vars c, 0) else ([], 9)
theorem quo_quo (c q s : Int) (hq : 0 ≤ q) : c / q / s = c / (s * q) := by rw [Int.ediv_ediv, if_neg (by omega), Int.sub_zero, Int.mul_comm]
def fillV (V : List Int) (k : Nat) : List Int := List.replicate k 0 ++ V.drop k
theorem fillV_length (V : List Int) (k : Nat) (h : k ≤ V.length) : (fillV V k).length = V.length := by simp [fillV]; omega
theorem fillV_set (V : List Int) (k : Nat) (h : k < V.length) : (fillV V (k + 1)).set k V[k] = fillV V k := by
 unfold fillV
 rw [List.replicate_succ', List.append_assoc, List.set_append_right _ _ (by simp), List.drop_eq_getElem_cons h]
 simp
end Go.Sp
namespace Go.Proofs.YtniklgkoiaeipaaGreatDoor
open Go Go.Av Go.Sp
set_option linter.unusedVariables false
set_option linter.unusedSimpArgs false
set_option maxRecDepth 100000
set_option maxHeartbeats 4000000

theorem cal_Values : Cal Tryz.prog 84 := Cal.of Tryz.func84 (by kernel_rfl) (by kernel_rfl)
theorem cal_ValuesOf : Cal Tryz.prog 102 := Cal.of Tryz.func102 (by kernel_rfl) (by kernel_rfl)
theorem armXM8_1 {p q : Prop} (hp : p) (h : p → q := by
 apply cmp; (focus (first
  | ((with_reducible apply call0); (focus rfl); (focus exact cal_Count); (focus exact ec); (focus rfl))
  | ((with_reducible apply je_call0); (focus rfl); (focus (decide +kernel)); (focus rfl); (focus exact cal_Count); (focus exact ec); (focus rfl))
  ))
 exact fun h => h) : q := h hp
theorem Values (m : Md) (code : Int) : ACr Tryz.prog GP 84 [mdA m, .int code] (.tup [.d (intsD (valsF m code).1), .int (valsF m code).2]) := by
 refine AC_ofV (ts := [4, 5]) Tryz.f84.ntmps Tryz.func84 rfl rfl rfl (by simp [Tryz.ntmps84]) fun W I => ?_
 have ec := Count m
 by_cases c1 : modelF m ≠ 0
 · rw [countF, if_pos c1] at ec
   dsimp only at ec
   all_goals haveI fA_ : FlagA := ⟨⟩
   all_goals haveI fH_ : FlagH := ⟨⟩
   repeat' (first
    | refine armXM8_1 ?_
    | exact True.intro
    | refine stp ?_
    | refine two ?_ ?_
    | refine allc fun c_ => ?_
    | (refine imp fun hc => ?_) <;> try exact cx1 hc
    | refine all fun v_ => ?_)
   all_goals clear fA_ fH_
   refine retv (VS.trans (VS.drop (List.nil_sublist _)) (vnil (t := 4) 1 8 rfl)) ?_
   ((with_reducible apply rq2); rfl; rfl; rfl)
   exact ret_eq (by rw [valsF, if_pos c1]; rfl)
 have hv := modelF_vars (show modelF m = 0 by omega)
 have g := goodV hv
 have hl6 := varsF_len hv
 have hall := g.all
 rw [countF, if_neg c1] at ec
 dsimp only at ec
 by_cases c2 : ¬ (0 ≤ code ∧ code < prodV m.vars)
 · all_goals haveI fA_ : FlagA := ⟨⟩
   all_goals haveI fH_ : FlagH := ⟨⟩
   repeat' (first
    | refine armXM8_1 ?_
    | exact True.intro
    | refine stp ?_
    | refine two ?_ ?_
    | refine allc fun c_ => ?_
    | (refine imp fun hc => ?_) <;> try exact cx1 hc
    | refine all fun v_ => ?_)
   all_goals clear fA_ fH_
   all_goals
    refine retv (VS.trans (VS.drop (List.nil_sublist _)) (vnil (t := 4) 1 8 rfl)) ?_
    ((with_reducible apply rq2); rfl; rfl; rfl)
    exact ret_eq (by rw [valsF, if_neg c1, if_neg c2]; rfl)
 replace c2 := Decidable.not_not.1 c2
 have hF : valsF m code = (valsT m.vars code, 0) := by rw [valsF, if_neg c1, if_pos c2]
 have hVl := valsT_length m.vars code
 all_goals haveI fA_ : FlagA := ⟨⟩
 all_goals haveI fH_ : FlagH := ⟨⟩
 repeat' (first
  | refine armXM8_1 ?_
  | exact True.intro
  | refine stp ?_
  | refine two ?_ ?_
  | refine allc fun c_ => ?_
  | (refine imp fun hc => ?_) <;> try exact cx1 hc
  | refine all fun v_ => ?_)
 all_goals clear fA_ fH_
 obtain ⟨bo, rfl⟩ : ∃ x, x = v_ := ⟨v_, rfl⟩
 obtain ⟨bm, rfl⟩ : ∃ x, x = v_ := ⟨v_, rfl⟩
 have e0 : code / prodV (m.vars.drop m.vars.length) = code := by simp [prodV]
 have e1 : fillV (valsT m.vars code) m.vars.length = List.replicate m.vars.length 0 := by simp [fillV, hVl]
 refine J_loopV (X := Nat) (fun k => [(1, .int (code / prodV (m.vars.drop k))), (2, .val (.pointer (some ⟨bm, 0, none⟩))), (8, .val (.slice (some ⟨bo, 0, none⟩) m.vars.length m.vars.length)), (9, .int ((k : Int) - 1))]) (fun k => [.cells bo 3 ((fillV (valsT m.vars code) k).map AV.int), .cells bm 25 [.d (varsD m.vars), .d (rulesD m.rules)]]) (fun k => k ≤ m.vars.length) (fun k => k) m.vars.length (Nat.le_refl _) ?_ ?_
 · rw [e0, e1]
   refine VS.of_le ?_
   exact leD
 rintro k h1
 have hfl := fillV_length (valsT m.vars code) k (by omega)
 by_cases hk : k = 0
 · subst hk
   all_goals haveI fA_ : FlagA := ⟨⟩
   all_goals haveI fH_ : FlagH := ⟨⟩
   repeat' (first
    | refine armXM8_1 ?_
    | exact True.intro
    | refine stp ?_
    | refine two ?_ ?_
    | refine allc fun c_ => ?_
    | (refine imp fun hc => ?_) <;> try exact cx1 hc
    | refine all fun v_ => ?_)
   all_goals clear fA_ fH_
   refine retv (VS.trans (VS.drop (h' := [.cells bo 3 ((fillV (valsT m.vars code) 0).map AV.int)]) (by exact sublD)) (vfz (t := 4) (f := intC) (h1 := []) 1 8 rfl rfl rfl (ints_flat (fillV (valsT m.vars code) 0)) (by omega) (fun _ => rfl) (by omega) (by omega))) ?_
   ((with_reducible apply rq2); rfl; rfl; rfl)
   exact ret_eq (by rw [hF]; simp [fillV] <;> rfl)
 obtain ⟨j, rfl⟩ : ∃ j, k = j + 1 := ⟨k - 1, by omega⟩
 have hj : j < m.vars.length := by omega
 have ej : (((j + 1 : Nat) : Int) - 1) = (j : Int) := by omega
 rw [ej]
 obtain ⟨d1, d2, d3, d4, d5⟩ := g.range _ (List.getElem_mem hj)
 have hq := (g.take (j + 1)).2.2
 have hsp : spanV m.vars[j] = m.vars[j].high - m.vars[j].low + 1 := rfl
 have q0 : 0 ≤ code / prodV (m.vars.drop (j + 1)) := Int.ediv_nonneg c2.1 (by omega)
 have q1 : code / prodV (m.vars.drop (j + 1)) ≤ code := Int.ediv_le_self _ c2.1
 have hn : code / prodV (m.vars.drop (j + 1)) / (m.vars[j].high - m.vars[j].low + 1) = code / prodV (m.vars.drop j) := by rw [quo_quo _ _ _ (by omega), prodV_drop _ _ hj, hsp]
 have hV := valsT_get m.vars code j (fun v hv => (g.span v hv).1) c2.1 c2.2 hj (by omega)
 have hset := fillV_set (valsT m.vars code) j (by omega)
 rw [hV, hsp] at hset
 generalize code / prodV (m.vars.drop (j + 1)) = c at *
 have m0 := Int.emod_nonneg c (show m.vars[j].high - m.vars[j].low + 1 ≠ 0 by omega)
 have m1 := Int.emod_lt_of_pos c (show 0 < m.vars[j].high - m.vars[j].low + 1 by omega)
 all_goals haveI fA_ : FlagA := ⟨⟩
 all_goals haveI fH_ : FlagH := ⟨⟩
 repeat' (first
  | refine armXM8_1 ?_
  | exact True.intro
  | refine stp ?_
  | refine two ?_ ?_
  | refine allc fun c_ => ?_
  | (refine imp fun hc => ?_) <;> try exact cx1 hc
  | refine all fun v_ => ?_)
 all_goals clear fA_ fH_
 refine ⟨j, by omega, by omega, ?_⟩
 rw [← hn, ← hset]
 refine VS.take (by exact takedD) ?_
 exact leD
theorem armXM8_2 {p q : Prop} (hp : p) (h : p → q := by
 apply cmp; (focus (first
  | ((with_reducible apply call0); (focus rfl); (focus exact cal_StateCount); (focus exact ec); (focus rfl))
  | ((with_reducible apply je_call0); (focus rfl); (focus (decide +kernel)); (focus rfl); (focus exact cal_StateCount); (focus exact ec); (focus rfl))
  | ((with_reducible apply call0); (focus rfl); (focus exact cal_In); (focus exact In _ _ _ _); (focus rfl))
  | ((with_reducible apply je_call0); (focus rfl); (focus (decide +kernel)); (focus rfl); (focus exact cal_In); (focus exact In _ _ _ _); (focus rfl))
  | ((with_reducible apply call0); (focus rfl); (focus exact cal_behindVar); (focus exact e3); (focus rfl))
  | ((with_reducible apply je_call0); (focus rfl); (focus (decide +kernel)); (focus rfl); (focus exact cal_behindVar); (focus exact e3); (focus rfl))
  ))
 exact fun h => h) : q := h hp
theorem ValuesOf (G : List (Nat × List D)) (m : Md) (code : Int) : ACr Tryz.prog G 102 [mdA m, .int code] (.tup [.d (intsD (valsF m code).1), .int (valsF m code).2]) := by
 refine AC_ofV (ts := [4, 5]) Tryz.f102.ntmps Tryz.func102 rfl rfl rfl (by simp [Tryz.ntmps102]) fun W I => ?_
 have ec := StateCount G m
 by_cases c1 : modelF m ≠ 0
 · rw [countF, if_pos c1] at ec
   dsimp only at ec
   all_goals haveI fA_ : FlagA := ⟨⟩
   all_goals haveI fH_ : FlagH := ⟨⟩
   repeat' (first
    | refine armXM8_2 ?_
    | exact True.intro
    | refine stp ?_
    | refine two ?_ ?_
    | refine allc fun c_ => ?_
    | (refine imp fun hc => ?_) <;> try exact cx1 hc
    | refine all fun v_ => ?_)
   all_goals clear fA_ fH_
   refine retv (VS.trans (VS.drop (List.nil_sublist _)) (vnil (t := 4) 1 8 rfl)) ?_
   ((with_reducible apply rq2); rfl; rfl; rfl)
   exact ret_eq (by rw [valsF, if_pos c1]; rfl)
 have hv := modelF_vars (show modelF m = 0 by omega)
 have g := goodV hv
 have hl6 := varsF_len hv
 have hall := g.all
 have hp1 := (g.take 0).2.2.1
 rw [List.drop_zero] at hp1
 rw [countF, if_neg c1] at ec
 dsimp only at ec
 by_cases c2 : ¬ (0 ≤ code ∧ code < prodV m.vars)
 · all_goals haveI fA_ : FlagA := ⟨⟩
   all_goals haveI fH_ : FlagH := ⟨⟩
   repeat' (first
    | refine armXM8_2 ?_
    | exact True.intro
    | refine stp ?_
    | refine two ?_ ?_
    | refine allc fun c_ => ?_
    | (refine imp fun hc => ?_) <;> try exact cx1 hc
    | refine all fun v_ => ?_)
   all_goals clear fA_ fH_
   all_goals
    refine retv (VS.trans (VS.drop (List.nil_sublist _)) (vnil (t := 4) 1 8 rfl)) ?_
    ((with_reducible apply rq2); rfl; rfl; rfl)
    exact ret_eq (by rw [valsF, if_neg c1, if_neg c2]; rfl)
 replace c2 := Decidable.not_not.1 c2
 have hF : valsF m code = (valsT m.vars code, 0) := by rw [valsF, if_neg c1, if_pos c2]
 have hVl := valsT_length m.vars code
 all_goals haveI fA_ : FlagA := ⟨⟩
 all_goals haveI fH_ : FlagH := ⟨⟩
 repeat' (first
  | refine armXM8_2 ?_
  | exact True.intro
  | refine stp ?_
  | refine two ?_ ?_
  | refine allc fun c_ => ?_
  | (refine imp fun hc => ?_) <;> try exact cx1 hc
  | refine all fun v_ => ?_)
 all_goals clear fA_ fH_
 obtain ⟨bm, rfl⟩ : ∃ x, x = v_ := ⟨v_, rfl⟩
 refine jrow (E := 3) (sz := 1) intC ?_
 refine J_loopV (X := Nat × Int × List Int × Sl) (fun y => [(1, .int y.2.1), (2, .val (.pointer (some ⟨bm, 0, none⟩))), (8, .val y.2.2.2.v), (9, .int y.1)]) (fun y => [rowE y.2.2.2.v 3 1 intC y.2.2.1, .cells bm 25 [.d (varsD m.vars), .d (rulesD m.rules)]]) (fun y => y.1 ≤ m.vars.length ∧ 0 ≤ y.2.1 ∧ y.2.1 ≤ 4096 ∧ y.2.2.1.length = y.1 ∧ y.2.2.1 ++ valsT (m.vars.drop y.1) y.2.1 = valsT m.vars code) (fun y => m.vars.length - y.1) (0, code, [], Sl.nil) ⟨Nat.zero_le _, c2.1, by dsimp only; omega, rfl, rfl⟩ (VS.of_le ?_) ?_
 · exact leD
 rintro ⟨i, c, acc, q⟩ ⟨h1, h2, h3, h4, h5⟩
 dsimp only at h1 h2 h3 h4 h5 ⊢
 by_cases hi : i < m.vars.length
 · rw [valsT_at _ _ _ hi] at h5
   obtain ⟨d1, d2, d3, d4, d5⟩ := g.range _ (List.getElem_mem hi)
   have hq := (g.take (i + 1)).2.2
   have e3 := behindVar G m g hl6 (i + 1) (by omega) i (by omega)
   generalize prodV (m.vars.drop (i + 1)) = b at *
   have q0 : 0 ≤ c / b := Int.ediv_nonneg h2 (by omega)
   have q1 : c / b ≤ c := Int.ediv_le_self _ h2
   have m0 := Int.emod_nonneg c (show b ≠ 0 by omega)
   have m1 := Int.emod_lt_of_pos c (show 0 < b by omega)
   all_goals haveI fA_ : FlagA := ⟨⟩
   all_goals haveI fH_ : FlagH := ⟨⟩
   all_goals haveI fS_ : StopAt 2 := ⟨⟩
   repeat' (first
    | refine armXM8_2 ?_
    | exact True.intro
    | refine stp ?_
    | refine two ?_ ?_
    | refine allc fun c_ => ?_
    | (refine imp fun hc => ?_) <;> try exact cx hc
    | refine all fun v_ => ?_)
   all_goals clear fA_ fH_ fS_
   refine ⟨?_⟩
   refine J_region_HB [rowE q.v 3 1 intC acc] mixed rfl (by (repeat ((with_reducible apply Hd.cons); (focus rfl))); exact Hd.nil) (by (repeat (with_reducible apply len_cons)); exact len_nil) (by decide +kernel) (by ((repeat (first | with_reducible exact Take.nil | ((with_reducible apply Take.cons); (focus ((repeat (first | with_reducible exact Sel.here | with_reducible apply Sel.there)); done))))); done)) ?_
   all_goals haveI fA_ : FlagA := ⟨⟩
   all_goals haveI fH_ : FlagH := ⟨⟩
   repeat' (first
    | refine armXM8_2 ?_
    | exact True.intro
    | refine stp ?_
    | refine two ?_ ?_
    | refine allc fun c_ => ?_
    | (refine imp fun hc => ?_) <;> try exact cx1 hc
    | refine all fun v_ => ?_)
   all_goals clear fA_ fH_
   refine ⟨(i + 1, c % b, acc ++ [m.vars[i].low + c / b], v_), ⟨by dsimp only; omega, m0, by dsimp only; omega, by simp [h4], by simpa using h5⟩, by dsimp only; omega, ?_⟩
   refine VS.take (by exact takedD) ?_
   exact leD
 obtain rfl : i = m.vars.length := by omega
 rw [List.drop_length, valsT, List.append_nil] at h5
 subst h5
 all_goals haveI fA_ : FlagA := ⟨⟩
 all_goals haveI fH_ : FlagH := ⟨⟩
 repeat' (first
  | refine armXM8_2 ?_
  | exact True.intro
  | refine stp ?_
  | refine two ?_ ?_
  | refine allc fun c_ => ?_
  | (refine imp fun hc => ?_) <;> try exact cx1 hc
  | refine all fun v_ => ?_)
 all_goals clear fA_ fH_
 refine retv (VS.trans (vfreeze (t := 4) (eb := 8) rfl rfl (fun x => rfl) (by omega)) (VS.drop (List.nil_sublist _))) ?_
 ((with_reducible apply rq2); rfl; rfl; rfl)
 exact ret_eq (by rw [hF])
end Go.Proofs.YtniklgkoiaeipaaGreatDoor
namespace Go.Av
open Go Go.Instr
set_option linter.unusedVariables false
set_option linter.unusedSimpArgs false
theorem AC.factU {α β : Type} {f : α → List D} {e : β → List D} {g : α → List β} {xs : List α} {P : Program} {G : List (Nat × List D)} {fn : FuncId} {args : List AV} {h : H} {Q : AE → H → Prop} {sz eb sz' eb' : Nat} (u : Nat) (hu : ∀ a, (f a)[u]? = some (.l sz' eb' ((g a).map e))) (hm : InA (.l sz eb (xs.map f)) args)
 (hac : (∀ a ∈ xs, (g a).length * eb' ≤ 140737488355328) → AC P G fn args h Q) : AC P G fn args h Q := by
 intro I W vs h1 h2 h3 h4 h5
 obtain ⟨v, hv⟩ := hm.rel h5
 refine hac (fun a ha => ?_) I W vs h1 h2 h3 h4 h5
 obtain ⟨j, hj, rfl⟩ := List.getElem_of_mem ha
 have key : ∀ rows, rows = xs.map f → Rel W I (.l sz eb rows) v → ∃ w, Rel W I (.l sz' eb' ((g xs[j]).map e)) w := fun rows hr hrel => by
  have hrow : rows[j]? = some (f xs[j]) := by rw [hr, List.getElem?_map, List.getElem?_eq_getElem hj]; rfl
  cases hrel with
  | nil => simp at hrow
  | emp => simp at hrow
  | l _ _ _ ad cap css hI hcap hm hb hsz hc hr => exact ⟨_, hr j u _ _ hrow (hu _)⟩
 obtain ⟨w, hw⟩ := key _ rfl hv
 have := (Rel.len_le hw).1
 rwa [List.length_map] at this
def Eq4 (P : Program) (T : TypeId) : Prop := P.eqGuardType P.depth T = false ∧ ∀ (s : ByteArray) (a b c : Int) w, (Op.equalIn 10000 T (.agg #[.string s, .int .i64 a, .int .i64 b, .int .i64 c]) (.agg #[.string s, .int .i64 a, .int .i64 b, .int .i64 c])).run P w = .ok true w
section
variable {P : Program} {G : List (Nat × List D)} {ρ : Env} {h : H} {dst : Option Tmp} {ty : TypeId} {pos : String} {after : Array Edge} {g : Option (Nat × Bool)}
theorem pu_neq4 {T T' : TypeId} {x y : Operand} {s : ByteArray} {a b c : Int} (hT : Eq4 P T) (hx : evO ρ x = some (.agg [.val (.string s), .int a, .int b, .int c])) (hy : evO ρ y = some (.agg [.val (.string s), .int a, .int b, .int c])) :
 Pure P G ⟨dst, .binOp .neq T x y T', ty, pos, after, g⟩ ρ h (.bool false) :=
 pure_free fun w I _ ac k => ⟨_, rfl, fun w' => by
  obtain ⟨vs, e1, r1⟩ := rel_as (k.ev x) (ev_of_evO hx)
  obtain ⟨us, e2, r2⟩ := rel_as (k.ev y) (ev_of_evO hy)
  obtain ⟨rfl⟩ : vs = [.string s, .int .i64 a, .int .i64 b, .int .i64 c] := by
   match vs, r1 with
   | [p, q, r, t], ⟨h1, h2, h3, h4, _⟩ => cases h1; cases h2; cases h3; cases h4; rfl
  obtain ⟨rfl⟩ : us = [.string s, .int .i64 a, .int .i64 b, .int .i64 c] := by
   match us, r2 with
   | [p, q, r, t], ⟨h1, h2, h3, h4, _⟩ => cases h1; cases h2; cases h3; cases h4; rfl
  simp [execOp, e1, e2, run_eqGuard_agg _ _ _ _ _ _ _ hT.1, run_neq_struct, hT.2]⟩
end
end Go.Av
namespace Go.Av
open Go Go.Instr
set_option linter.unusedVariables false
set_option linter.unusedSimpArgs false
section
variable {P : Program} {G : List (Nat × List D)} {ρ : Env} {h : H} {dst : Option Tmp} {ty : TypeId} {pos : String} {after : Array Edge} {g : Option (Nat × Bool)}
theorem pu_lookM1 {α β : Type} [DecidableEq α] {kd : TypeDesc} {kv : α → Value} {vv : β → Value} (K : KeyK kd kv) {T KT ET : TypeId} {x y : Operand} {b : Nat} {ps : List (α × β)} {a : α}
 (hx : evO ρ x = some (.val (.map (some b)))) (hy : evO ρ y = some (.val (kv a))) (hT : P.underlying T = some (.map KT ET)) (hK : P.underlying KT = some kd) (hm : Ent.raw b (mapO (entL kv vv ps)) ∈ h) {c : β} (hc : getM ps a = some c) :
 Pure P G ⟨dst, .lookup T x y false, ty, pos, after, g⟩ ρ h (.val (vv c)) := by
 intro cx I n ac w _ hok hs
 have e1 := rel_val (hs.ev x) (ev_of_evO hx)
 have e2 := rel_val (hs.ev y) (ev_of_evO hy)
 have hb : w.heap[b]? = some (mapO (entL kv vv ps)) := hok.ent _ hm
 refine ⟨vv c, rfl, fun w' hw' => ?_⟩
 have hb' : w'.heap[b]? = some (mapO (entL kv vv ps)) := (hw'.own b (mem_blks hm rfl)).trans hb
 have hobj : (getObj b).run P w' = .ok (.map (mapEs (entL kv vv ps) 0).toArray (entL kv vv ps).length) w' := by simp [getObj, Sem.run, hb', mapO]
 obtain ⟨r, hr1, hr2⟩ := run_find (vv := vv) K hK ps a w'
 simp only [execOp, e1, e2, lookup]
 rw [hc] at hr2
 cases r with
 | none => cases hr2
 | some p =>
   obtain ⟨j, v⟩ := p
   obtain rfl : v = vv c := by simpa using hr2
   simp [run_underlying hT, hobj, K.easy P KT _ a w' hK, hr1]
end
section
variable {k : Kx} {Q : Exit → Env → H → Prop} {ρ : Env} {h h' : H} {ops : Array Oper} {l : List Oper} {d : Nat} {ty : TypeId} {pos : String} {after : Array Edge} {g : Option (Nat × Bool)}
-- an entry of a literal
theorem js_insMr {α β : Type} [DecidableEq α] {kd : TypeDesc} {kv : α → Value} {vv : β → Value} (K : KeyK kd kv) {T KT ET : TypeId} {x y u : Operand} {r : AV} {b : Nat} {ps : List (α × β)} {a : α} {c : β}
 (hx : evO ρ x = some (.val (.map (some b)))) (hy : evO ρ y = some (.val (kv a))) (hv : evO ρ u = some r) (hr : ∀ w I v, AV.rel w I r v → v = vv c) (hT : k.P.underlying T = some (.map KT ET)) (hK : k.P.underlying KT = some kd)
 (hu : Upd (.raw b (mapO (entL kv vv ps))) (.raw b (mapO (entL kv vv (ps ++ [(a, c)])))) h h') (hno : getM ps a = none)
 (hj : JL k ops l Q ρ h') : JL k ops (⟨none, .insert T x y u, ty, pos, after, none⟩ :: l) Q ρ h := by
 obtain ⟨h1, h2, rfl, rfl⟩ := hu.split
 refine JL_eff_skip rfl rfl fun I ac w k1 k2 => ?_
 have e1 := rel_val (k2.ev x) (ev_of_evO hx)
 have e2 := rel_val (k2.ev y) (ev_of_evO hy)
 have e3 := hr _ _ _ (rel_as (k2.ev u) (ev_of_evO hv))
 have hb : w.heap[b]? = some (mapO (entL kv vv ps)) := k1.ent (.raw b (mapO (entL kv vv ps))) (by simp)
 have hfind := find_no (vv := vv) K a ps 0 0 (getM_none.1 hno)
 have hnew : Obj.map (mapEs (entL kv vv ps) 0 ++ [(⟨kv a, vv c, (entL kv vv ps).length⟩ : MapEntry)]).toArray ((entL kv vv ps).length + 1) = mapO (entL kv vv (ps ++ [(a, c)])) := by
  have e : entL kv vv (ps ++ [(a, c)]) = entL kv vv ps ++ [(kv a, vv c)] := by simp [entL]
  unfold mapO
  rw [e, mapEs_append]
  simp [mapEs]
 obtain ⟨g1, g2⟩ := k1.write (w' := { w with heap := w.heap.setIfInBounds b (mapO (entL kv vv (ps ++ [(a, c)]))) }) (e' := .raw b (mapO (entL kv vv (ps ++ [(a, c)])))) (b := b) rfl rfl rfl rfl rfl (by simp)
  (fun x hx => by simp [Array.getElem?_setIfInBounds, Ne.symm hx]) (by
   have hlt := (Array.getElem?_eq_some_iff.1 hb).1
   show _ = _
   simp [Array.getElem?_setIfInBounds, hlt])
 refine ⟨{ w with heap := w.heap.setIfInBounds b (mapO (entL kv vv (ps ++ [(a, c)]))) }, I, h1 ++ .raw b (mapO (entL kv vv (ps ++ [(a, c)]))) :: h2, ?_, g1, k2.mono g2 (fun _ h => h), hj⟩
 have hobj : (getObj b).run k.P w = .ok (.map (mapEs (entL kv vv ps) 0).toArray (entL kv vv ps).length) w := by simp [getObj, Sem.run, hb, mapO]
 have hset := run_setM (P := k.P) (w := w) (r := b) (mapO (entL kv vv (ps ++ [(a, c)]))) (es := (mapEs (entL kv vv ps) 0).toArray) (clock := (entL kv vv ps).length) hb
 simp only [execOp, e1, e2, e3, mapUpdate]
 simp [run_underlying hT, hobj, K.easy k.P KT false a w hK, findKey, run_underlying hK, hfind, hnew, hset]
theorem jmkmapE {α β : Type} (kv : α → Value) (vv : β → Value) {T : TypeId} (hd : Nat.blt d k.n = true) (hj : All fun b : Nat => JL k ops l Q ((d, .val (.map (some b))) :: ρ) (.raw b (mapO (entL kv vv [])) :: h)) : JL k ops (⟨some d, .makeMap T none, ty, pos, after, none⟩ :: l) Q ρ h := jmkmap hd hj
end
end Go.Av
namespace Go.Sp
open Go.Av
set_option linter.unusedVariables false
set_option linter.unusedSimpArgs false

def rank (l : List Fo) : Nat → Nat
 | 0 => 0
 | i + 1 => rank l i + if aheadP (kindAt l i) then 1 else 0
def bitAt (claim : Int) (j : Nat) : Bool := decide (claim / 2 ^ j % 2 = 1)
def valAt (l : List Fo) (i : Nat) : Int := (l[i]?.map Fo.val).getD 0
theorem valAt_eq (l : List Fo) (i : Nat) (hi : i < l.length) : valAt l i = l[i].val := by unfold valAt; rw [List.getElem?_eq_getElem hi]; rfl
def second (l : List Fo) (i : Nat) : Nat := (endOf l (i + 1 : Nat)).1.toNat
def stepT (l : List Fo) (x : List Bool) (c : Int) (i : Nat) (a b : Bool) : Bool :=
 if kindAt l i = 13 then (x[(valAt l i).toNat]?).getD false
 else if kindAt l i = 11 then true
 else if kindAt l i = 12 then false
 else if kindAt l i = 10 then !a
 else if kindAt l i = 8 then a && b
 else if kindAt l i = 9 then a || b
 else bitAt c (rank l i)
def tv (l : List Fo) (x : List Bool) (c : Int) : Nat → Nat → Bool
 | 0, _ => false
 | m + 1, i => if i < l.length then stepT l x c i (tv l x c m (i + 1)) (if i < second l i then tv l x c m (second l i) else false) else false
def tAt (l : List Fo) (x : List Bool) (c : Int) (i : Nat) : Bool := tv l x c (l.length - i) i
theorem tv_enough (l : List Fo) (x : List Bool) (c : Int) : ∀ (m i : Nat), l.length ≤ i + m → tv l x c m i = tAt l x c i := by
 intro m
 induction m with
 | zero => intro i h; unfold tAt; rw [show l.length - i = 0 by omega]
 | succ m ih =>
   intro i h
   unfold tAt
   by_cases hi : i < l.length
   · obtain ⟨q, hq⟩ : ∃ q, l.length - i = q + 1 := ⟨l.length - i - 1, by omega⟩
     have e : ∀ j, i < j → tv l x c m j = tv l x c q j := fun j hj => by
      rw [ih j (by omega)]
      by_cases hjl : j < l.length
      · have hqm : q ≤ m := by omega
        by_cases hqm' : q = m
        · subst hqm'; exact (ih j (by omega)).symm
        · clear ih
          -- fewer steps are still enough
          have : ∀ (m q j : Nat), l.length ≤ j + q → q ≤ m → tv l x c q j = tv l x c m j := by
           intro m
           induction m with
           | zero => intro q j h1 h2; rw [show q = 0 by omega]
           | succ m ih' =>
             intro q j h1 h2
             cases q with
             | zero =>
               simp only [tv]
               rw [if_neg (by omega)]
             | succ q =>
               simp only [tv]
               by_cases hjl : j < l.length
               · rw [if_pos hjl, if_pos hjl, ih' q (j + 1) (by omega) (by omega)]
                 by_cases hs : j < second l j
                 · rw [if_pos hs, if_pos hs, ih' q (second l j) (by omega) (by omega)]
                 · rw [if_neg hs, if_neg hs]
               · rw [if_neg hjl, if_neg hjl]
          unfold tAt
          exact this q (l.length - j) j (by omega) (by omega)
      · unfold tAt
        rw [show l.length - j = 0 by omega]
        cases q with
        | zero => rfl
        | succ q => simp only [tv]; rw [if_neg hjl]
     rw [hq]
     simp only [tv]
     rw [if_pos hi, if_pos hi, e (i + 1) (by omega)]
     by_cases hs : i < second l i
     · rw [if_pos hs, if_pos hs, e _ hs]
     · rw [if_neg hs, if_neg hs]
   · rw [show l.length - i = 0 by omega]
     simp only [tv]
     rw [if_neg hi]
theorem tAt_eq (l : List Fo) (x : List Bool) (c : Int) (i : Nat) (hi : i < l.length) : tAt l x c i = stepT l x c i (tAt l x c (i + 1)) (if i < second l i then tAt l x c (second l i) else false) := by
 rw [← tv_enough l x c (l.length + 1) i (by omega)]
 simp only [tv]
 rw [if_pos hi, tv_enough l x c l.length (i + 1) (by omega)]
 by_cases hs : i < second l i
 · rw [if_pos hs, if_pos hs, tv_enough l x c l.length (second l i) (by omega)]
 · rw [if_neg hs, if_neg hs]
theorem rank_succ (l : List Fo) (i : Nat) (hi : i < l.length) : rank l (i + 1) = rank l i + if aheadP l[i].kind then 1 else 0 := by
 simp only [rank, kindAt_eq l i hi]
theorem rank_mono (l : List Fo) : ∀ (m i : Nat), rank l i ≤ rank l (i + m)
 | 0, i => Nat.le_refl _
 | m + 1, i => by have := rank_mono l m i; rw [← Nat.add_assoc]; simp only [rank]; omega
theorem aheadL_length (l : List Fo) : ∀ (m i : Nat), l.length = i + m → (aheadL (l.drop i) i).length + rank l i = rank l l.length
 | 0, i, h => by rw [aheadL_end l i (by omega), h]; simp
 | m + 1, i, h => by
   have ih := aheadL_length l m (i + 1) (by omega)
   rw [aheadL_at l i (by omega)]
   rw [rank_succ l i (by omega)] at ih
   by_cases hc : aheadP l[i].kind
   · rw [if_pos hc] at ih ⊢; simp only [List.length_cons]; omega
   · rw [if_neg hc] at ih ⊢; omega
theorem aheadL_get (l : List Fo) : ∀ (m i : Nat), l.length = i + m → ∀ (j : Nat) (p : Int), (aheadL (l.drop i) i)[j]? = some p → ∃ q : Nat, p = q ∧ i ≤ q ∧ q < l.length ∧ aheadP (kindAt l q) ∧ rank l q = rank l i + j
 | 0, i, h, j, p, hp => by rw [aheadL_end l i (by omega)] at hp; simp at hp
 | m + 1, i, h, j, p, hp => by
   have ih := aheadL_get l m (i + 1) (by omega)
   rw [aheadL_at l i (by omega)] at hp
   have hr := rank_succ l i (by omega)
   by_cases hc : aheadP l[i].kind
   · rw [if_pos hc] at hp hr
     cases j with
     | zero =>
       simp at hp
       exact ⟨i, hp.symm, Nat.le_refl _, by omega, by rw [kindAt_eq l i (by omega)]; exact hc, rfl⟩
     | succ j =>
       obtain ⟨q, h1, h2, h3, h4, h5⟩ := ih j p (by simpa using hp)
       exact ⟨q, h1, by omega, h3, h4, by omega⟩
   · rw [if_neg hc] at hp hr
     obtain ⟨q, h1, h2, h3, h4, h5⟩ := ih j p hp
     exact ⟨q, h1, by omega, h3, h4, by omega⟩
theorem aheadL_at_rank (l : List Fo) (q : Nat) (hq : q < l.length) (ha : aheadP (kindAt l q)) : ∀ (m i : Nat), l.length = i + m → i ≤ q → (aheadL (l.drop i) i)[rank l q - rank l i]? = some (q : Int)
 | 0, i, h, hi => by omega
 | m + 1, i, h, hi => by
   rw [aheadL_at l i (by omega)]
   have hr := rank_succ l i (by omega)
   by_cases hiq : i = q
   · subst hiq
     rw [kindAt_eq l i hq] at ha
     rw [if_pos ha, Nat.sub_self]; rfl
   · have ih := aheadL_at_rank l q hq ha m (i + 1) (by omega) (by omega)
     have hm := rank_mono l (q - (i + 1)) (i + 1)
     rw [show i + 1 + (q - (i + 1)) = q by omega] at hm
     by_cases hc : aheadP l[i].kind
     · rw [if_pos hc] at hr ⊢
       have e : rank l q - rank l i = (rank l q - rank l (i + 1)) + 1 := by omega
       rw [e]; simpa using ih
     · rw [if_neg hc] at hr ⊢
       rw [show rank l q - rank l i = rank l q - rank l (i + 1) by omega]; exact ih
theorem fitsZ_ok {k v p : Int} (h : fitsZ k v p = 0) : 8 ≤ k ∧ (k = 13 → 0 ≤ v ∧ v < p) := by
 unfold fitsZ at h
 by_cases h1 : k < 8
 · rw [if_pos h1] at h; exact absurd h (by decide)
 rw [if_neg h1] at h
 by_cases h2 : (k = 13 ∧ (v < 0 ∨ p ≤ v)) ∨ (k ≠ 13 ∧ v ≠ 0)
 · rw [if_pos h2] at h; exact absurd h (by decide)
 omega
theorem formE_ok (l : List Fo) (p : Int) : ∀ (m i n : Nat), l.length = i + m → formE (l.drop i) p n = 0 → (∀ (q : Nat) (hq : q < l.length), i ≤ q → fitsZ l[q].kind l[q].val p = 0) ∧ n + (rank l l.length - rank l i) ≤ 6
 | 0, i, n, h, he => by
   rw [formE_end l i (by omega)] at he
   refine ⟨fun q hq hi => by omega, ?_⟩
   rw [h, Nat.add_zero, Nat.sub_self]
   by_cases h6 : 6 < n
   · rw [if_pos h6] at he; exact absurd he (by decide)
   · omega
 | m + 1, i, n, h, he => by
   rw [formE_at l i (by omega)] at he
   by_cases h1 : fitsZ l[i].kind l[i].val p ≠ 0
   · rw [if_pos h1] at he; exact absurd he h1
   rw [if_neg h1] at he
   obtain ⟨g1, g2⟩ := formE_ok l p m (i + 1) _ (by omega) he
   have hr := rank_succ l i (by omega)
   have hm := rank_mono l m (i + 1)
   rw [show i + 1 + m = l.length by omega] at hm
   refine ⟨fun q hq hi => ?_, ?_⟩
   · by_cases hqi : q = i
     · subst hqi; simpa using h1
     · exact g1 q hq (by omega)
   · by_cases hc : aheadP l[i].kind
     · rw [if_pos hc] at g2 hr; omega
     · rw [if_neg hc] at g2 hr; omega
theorem formF_ok {l : List Fo} {p : Int} (h : formF l p = 0) : 0 ≤ p ∧ p ≤ 6 ∧ (endsOf l).2 = 0 ∧ (∀ (q : Nat) (hq : q < l.length), fitsZ l[q].kind l[q].val p = 0) ∧ rank l l.length ≤ 6 := by
 unfold formF at h
 by_cases h1 : p < 0 ∨ 6 < p
 · rw [if_pos h1] at h; exact absurd h (by decide)
 rw [if_neg h1] at h
 by_cases h2 : (endsOf l).2 ≠ 0
 · rw [if_pos h2] at h; exact absurd h h2
 rw [if_neg h2] at h
 obtain ⟨g1, g2⟩ := formE_ok l p l.length 0 0 (by omega) (by simpa using h)
 refine ⟨by omega, by omega, by simpa using h2, fun q hq => g1 q hq (Nat.zero_le _), ?_⟩
 simp only [rank] at g2
 omega
theorem all_well {l : List Fo} (h : (endsOf l).2 = 0) : ∀ (i : Nat) (_ : i < l.length), (endOf l i).2 = 0 := by
 obtain ⟨_, _, hend, _, _⟩ := endsOf_ok (l := l) (es := (endsOf l).1) (Prod.ext rfl h)
 intro i hi
 exact (scan_nest l l.length 0 1 l.length (by omega) (by omega) (by unfold endOf at hend; exact hend) i (by omega) (by omega)).1
theorem well_kind {l : List Fo} {i : Nat} (hi : i < l.length) (h : (endOf l i).2 = 0) : (partsOf l[i].kind).2 = 0 := by
 have he := endOf_at l i hi
 by_cases h1 : (partsOf l[i].kind).2 ≠ 0
 · rw [if_pos h1] at he; rw [he] at h; exact absurd h h1
 · simpa using h1
theorem first_in {l : List Fo} {i : Nat} (hi : i < l.length) (h : (endOf l i).2 = 0) (hp : 1 ≤ (partsOf l[i].kind).1) : i + 1 < l.length ∧ (endOf l (i + 1 : Nat)).2 = 0 ∧ i + 1 < second l i ∧ (endOf l (i + 1 : Nat)).1 = (second l i : Nat) ∧ second l i ≤ l.length := by
 obtain ⟨q1, q2, q3, q4⟩ := (Within.start hi h).next (by omega)
 have hb := endOf_bound l i h
 have hb1 := endOf_bound l (i + 1) q1
 unfold second
 refine ⟨by omega, q1, by omega, by omega, by omega⟩
theorem second_in {l : List Fo} {i : Nat} (hi : i < l.length) (h : (endOf l i).2 = 0) (hp : (partsOf l[i].kind).1 = 2) : second l i < l.length ∧ (endOf l (second l i : Nat)).2 = 0 := by
 obtain ⟨q1, q2, q3, q4⟩ := (Within.start hi h).next (by omega)
 obtain ⟨r1, r2, r3, r4⟩ := q4.next (by omega)
 have hb := endOf_bound l i h
 unfold second
 exact ⟨by omega, r1⟩
structure GoodF (l : List Fo) (p : Int) : Prop where
 h60 : l.length ≤ 60
 pos : 0 < l.length
 well : ∀ (i : Nat) (_ : i < l.length), (endOf l i).2 = 0
 kind : ∀ (i : Nat) (hi : i < l.length), 8 ≤ l[i].kind ∧ l[i].kind ≤ 18
 prop : ∀ (i : Nat) (hi : i < l.length), l[i].kind = 13 → 0 ≤ l[i].val ∧ l[i].val < p
 ah : rank l l.length ≤ 6
 ends : (endsOf l).2 = 0
theorem good_of {l : List Fo} {p : Int} (h : formF l p = 0) : GoodF l p := by
 obtain ⟨h1, h2, h3, h4, h5⟩ := formF_ok h
 obtain ⟨k1, k2, _, _, _⟩ := endsOf_ok (l := l) (es := (endsOf l).1) (Prod.ext rfl h3)
 have hw := all_well h3
 refine ⟨k1, k2, hw, fun i hi => ⟨(fitsZ_ok (h4 i hi)).1, ?_⟩, fun i hi => (fitsZ_ok (h4 i hi)).2, h5, h3⟩
 have hk := well_kind hi (hw i hi)
 by_cases h18 : 18 < l[i].kind
 · rw [partsOf_no _ (.inr h18)] at hk; exact absurd hk (by decide)
 · omega
theorem aheads_len {l : List Fo} : (aheadL l 0).length = rank l l.length := by
 have := aheadL_length l l.length 0 (by omega)
 simpa [rank] using this
theorem rank_le {l : List Fo} {i : Nat} (hi : i ≤ l.length) : rank l i ≤ rank l l.length := by
 have := rank_mono l (l.length - i) i
 rwa [show i + (l.length - i) = l.length by omega] at this
def truthsOf (l : List Fo) (x : List Bool) (c : Int) : List Bool × Int :=
 if (aheadsOf l x.length).2 ≠ 0 then ([], (aheadsOf l x.length).2)
 else if c < 0 ∨ 2 ^ (aheadsOf l x.length).1.length ≤ c then ([], 2)
 else ((List.range l.length).map (tAt l x c), 0)
theorem aheadsOf_ok {l : List Fo} {p : Int} {ps : List Int} (h : aheadsOf l p = (ps, 0)) : formF l p = 0 ∧ ps = aheadL l 0 := by
 unfold aheadsOf at h
 by_cases h1 : formF l p ≠ 0
 · rw [if_pos h1] at h; simp at h; exact absurd h.2 h1
 · rw [if_neg h1] at h; simp at h; exact ⟨by simpa using h1, h.symm⟩
structure TDone (l : List Fo) (x : List Bool) (c : Int) (i : Nat) (out : List Bool) : Prop where
 len : out.length = l.length
 done : ∀ j, i ≤ j → j < l.length → out[j]? = some (tAt l x c j)
 rest : ∀ j, j < i → j < l.length → out[j]? = some false
theorem TDone.start (l : List Fo) (x : List Bool) (c : Int) : TDone l x c l.length (List.replicate l.length false) :=
 ⟨by simp, fun j h1 h2 => by omega, fun j _ h2 => by simp [h2]⟩
theorem TDone.next {l : List Fo} {x : List Bool} {c : Int} {i : Nat} {out : List Bool} {v : Bool} (d : TDone l x c (i + 1) out) (hi : i < l.length) (hv : v = tAt l x c i) : TDone l x c i (out.set i v) := by
 refine ⟨by rw [List.length_set]; exact d.len, fun j h1 h2 => ?_, fun j h1 h2 => ?_⟩
 · by_cases hj : i = j
   · subst hj; rw [List.getElem?_set_self (by rw [d.len]; exact hi), hv]
   · rw [List.getElem?_set_ne hj]; exact d.done j (by omega) h2
 · rw [List.getElem?_set_ne (by omega)]; exact d.rest j (by omega) h2
theorem TDone.no {l : List Fo} {x : List Bool} {c : Int} {i : Nat} {out : List Bool} (d : TDone l x c (i + 1) out) (hi : i < l.length) (hv : tAt l x c i = false) : TDone l x c i out := by
 refine ⟨d.len, fun j h1 h2 => ?_, fun j h1 h2 => d.rest j (by omega) h2⟩
 by_cases hj : i = j
 · subst hj; rw [d.rest i (by omega) hi, hv]
 · exact d.done j (by omega) h2
theorem TDone.fin {l : List Fo} {x : List Bool} {c : Int} {out : List Bool} (d : TDone l x c 0 out) : out = (List.range l.length).map (tAt l x c) := by
 apply List.ext_getElem?
 intro j
 by_cases hj : j < l.length
 · rw [d.done j (Nat.zero_le _) hj]; simp [hj]
 · rw [List.getElem?_eq_none (by rw [d.len]; omega), List.getElem?_eq_none (by simp; omega)]
theorem TDone.get {l : List Fo} {x : List Bool} {c : Int} {i : Nat} {out : List Bool} (d : TDone l x c i out) {j : Nat} (h1 : i ≤ j) (h2 : j < l.length) (h3 : j < out.length) : out[j] = tAt l x c j := by
 have := d.done j h1 h2
 rw [List.getElem?_eq_getElem h3] at this
 exact Option.some.inj this
end Go.Sp
namespace Go.Sp
open Go Go.Av
set_option linter.unusedVariables false
set_option linter.unusedSimpArgs false

def limP (n : Int) : Prop := -1000000 ≤ n ∧ n ≤ 1000000
instance (n : Int) : Decidable (limP n) := by unfold limP; infer_instance
def ovr (n : Int) : Option Int := if limP n then some n else none
def opV (k v : Int) (env : List Int) (a b : Int) : Int :=
 if k = 1 then v else if k = 2 then (env[v.toNat]?).getD 0 else if k = 3 then a + b else if k = 4 then a - b else if k = 5 then a * b
 else if k = 6 then (if a = b then 1 else 0) else if k = 7 then (if a < b then 1 else 0) else if k = 8 then (if a = 1 ∧ b = 1 then 1 else 0)
 else if k = 9 then (if a = 1 ∨ b = 1 then 1 else 0) else if k = 10 then (if a = 0 then 1 else 0) else if k = 11 then 1 else 0
abbrev np (l : List Fo) (i : Nat) : Int := (partsOf (kindAt l i)).1
def stepE (l : List Fo) (env : List Int) (i : Nat) (a b : Option Int) : Option Int :=
 (if 1 ≤ np l i then a else some 0).bind fun x => (if 2 ≤ np l i then b else some 0).bind fun y => ovr (opV (kindAt l i) (valAt l i) env x y)
def evm (l : List Fo) (env : List Int) : Nat → Nat → Option Int
 | 0, _ => none
 | m + 1, i => if i < l.length then stepE l env i (evm l env m (i + 1)) (if i < second l i then evm l env m (second l i) else none) else none
def evAt (l : List Fo) (env : List Int) (i : Nat) : Option Int := evm l env (l.length - i) i
theorem evm_enough (l : List Fo) (env : List Int) : ∀ (m i : Nat), l.length ≤ i + m → evm l env m i = evAt l env i := by
 intro m
 induction m using Nat.strongRecOn with
 | _ m ih =>
 intro i h
 unfold evAt
 by_cases hi : i < l.length
 · obtain ⟨m', rfl⟩ : ∃ m', m = m' + 1 := ⟨m - 1, by omega⟩
   obtain ⟨k, hk⟩ : ∃ k, l.length - i = k + 1 := ⟨l.length - i - 1, by omega⟩
   rw [hk]
   have e : ∀ j, i < j → evm l env m' j = evm l env k j := fun j hj => by
    rw [ih m' (by omega) j (by omega)]
    by_cases hkm : k < m' + 1
    · rw [ih k hkm j (by omega)]
    · omega
   simp only [evm, if_pos hi]
   rw [e (i + 1) (by omega)]
   by_cases h2 : i < second l i
   · rw [if_pos h2, if_pos h2, e _ h2]
   · rw [if_neg h2, if_neg h2]
 · rw [show l.length - i = 0 by omega]
   cases m with
   | zero => rfl
   | succ m => simp only [evm, if_neg hi]
theorem evAt_eq (l : List Fo) (env : List Int) (i : Nat) (hi : i < l.length) : evAt l env i = stepE l env i (evAt l env (i + 1)) (if i < second l i then evAt l env (second l i) else none) := by
 rw [← evm_enough l env (l.length - (i + 1)) (i + 1) (by omega)]
 conv => lhs; rw [evAt, show l.length - i = (l.length - (i + 1)) + 1 by omega, evm, if_pos hi]
 by_cases h2 : i < second l i
 · rw [if_pos h2, if_pos h2, evm_enough l env _ (second l i) (by omega)]
 · rw [if_neg h2, if_neg h2]
structure GoodE (l : List Fo) (vars : Int) : Prop where
 h60 : l.length ≤ 60
 pos : 0 < l.length
 well : ∀ (i : Nat) (_ : i < l.length), (endOf l i).2 = 0
 op : ∀ (i : Nat) (hi : i < l.length), opZ l[i].kind l[i].val vars = 0
 typed : typedP l
 ends : (endsOf l).2 = 0
theorem opsE_ok (l : List Fo) (vars : Int) : ∀ (m i : Nat), l.length = i + m → opsE (l.drop i) vars = 0 → ∀ (q : Nat) (hq : q < l.length), i ≤ q → opZ l[q].kind l[q].val vars = 0
 | 0, i, h, _, q, hq, hi => by omega
 | m + 1, i, h, he, q, hq, hi => by
   rw [opsE_at l i (by omega)] at he
   by_cases c : opZ l[i].kind l[i].val vars ≠ 0
   · rw [if_pos c] at he; exact absurd he c
   · rw [if_neg c] at he
     by_cases e : q = i
     · subst e; exact Decidable.not_not.1 c
     · exact opsE_ok l vars m (i + 1) (by omega) he q hq (by omega)
theorem goodE_of {l : List Fo} {vars : Int} (h : (exprC l vars).2 = 0) : GoodE l vars ∧ 0 ≤ vars ∧ vars ≤ 6 := by
 unfold exprC at h
 by_cases h1 : vars < 0 ∨ 6 < vars
 · rw [if_pos h1] at h; exact absurd h (by decide)
 rw [if_neg h1] at h
 by_cases h2 : (endsOf l).2 ≠ 0
 · rw [if_pos h2] at h; exact absurd h h2
 rw [if_neg h2] at h
 by_cases h3 : opsE l vars ≠ 0
 · rw [if_pos h3] at h; exact absurd h h3
 rw [if_neg h3] at h
 by_cases h4 : typedP l
 · obtain ⟨k1, k2, k3, k4, k5⟩ := endsOf_ok (l := l) (es := (endsOf l).1) (Prod.ext rfl (Decidable.not_not.1 h2))
   exact ⟨⟨k1, k2, all_well (Decidable.not_not.1 h2), fun i hi => opsE_ok l vars l.length 0 (by omega) (Decidable.not_not.1 h3) i hi (Nat.zero_le _), h4, Decidable.not_not.1 h2⟩, by omega, by omega⟩
 · rw [if_neg h4] at h; exact absurd h (by decide)
theorem GoodE.kind {l : List Fo} {vars : Int} (g : GoodE l vars) {i : Nat} (hi : i < l.length) : 1 ≤ l[i].kind ∧ l[i].kind ≤ 12 ∧ (l[i].kind = 1 → -1000 ≤ l[i].val ∧ l[i].val ≤ 1000) ∧ (l[i].kind = 2 → 0 ≤ l[i].val ∧ l[i].val < vars) := by
 have h := g.op i hi
 unfold opZ at h
 by_cases c : ¬ okP l[i].kind
 · rw [if_pos c] at h; exact absurd h (by decide)
 rw [if_neg c] at h
 by_cases c2 : (l[i].kind = 1 ∧ (l[i].val < -1000 ∨ 1000 < l[i].val)) ∨ (l[i].kind = 2 ∧ (l[i].val < 0 ∨ vars ≤ l[i].val)) ∨ (2 < l[i].kind ∧ l[i].val ≠ 0)
 · rw [if_pos c2] at h; exact absurd h (by decide)
 omega
theorem GoodE.parts {l : List Fo} {vars : Int} (g : GoodE l vars) {i : Nat} (hi : i < l.length) :
 (np l i = 0 ∧ (endOf l i).1 = (i : Int) + 1) ∨
 (np l i = 1 ∧ i + 1 < l.length ∧ (endOf l i).1 = (endOf l (i + 1 : Nat)).1) ∨
 (np l i = 2 ∧ i + 1 < l.length ∧ i + 1 < second l i ∧ second l i < l.length ∧ (endOf l (i + 1 : Nat)).1 = (second l i : Nat) ∧ (endOf l i).1 = (endOf l (second l i : Nat)).1) := by
 have hk := kindAt_eq l i hi
 have he := endOf_at l i hi
 have hw := g.well i hi
 have wk := well_kind hi hw
 rw [if_neg (fun h => h wk)] at he
 have hb := partsOf_le l[i].kind
 unfold np
 rw [hk]
 generalize hn : (partsOf l[i].kind).1 = n at he hb ⊢
 by_cases h0 : n = 0
 · subst h0
   rw [if_pos (by decide)] at he
   exact .inl ⟨rfl, by rw [he]⟩
 rw [if_neg (by omega)] at he
 obtain ⟨q1, q2, q3, q4, q5⟩ := first_in hi hw (by omega)
 by_cases h1 : n = 1
 · subst h1
   refine .inr (.inl ⟨rfl, q1, ?_⟩)
   rw [he]; unfold endOf; rw [Int.toNat_natCast]; rfl
 · have h2 : n = 2 := by omega
   subst h2
   obtain ⟨r1, r2⟩ := second_in hi hw hn
   refine .inr (.inr ⟨rfl, q1, q3, r1, q4, ?_⟩)
   have e := scan_next l (i + 1) 1 (by decide)
   rw [if_neg (fun h => h q2), q4] at e
   rw [he, show (1 : Int) + 2 - 1 = 1 + 1 by decide, show ((i : Int) + 1) = ((i + 1 : Nat) : Int) by omega, e]
   unfold endOf; rw [Int.toNat_natCast]
inductive Stk (l : List Fo) (f : Nat → Int) : Nat → List Int → Prop where
 | nil {i : Nat} (h : l.length ≤ i) : Stk l f i []
 | cons {i : Nat} {S : List Int} (hi : i < l.length) (h : Stk l f (endOf l i).1.toNat S) : Stk l f i (S ++ [f i])
theorem Stk.inv {l : List Fo} {f : Nat → Int} {i : Nat} {S : List Int} (h : Stk l f i S) (hi : i < l.length) : ∃ S', S = S' ++ [f i] ∧ Stk l f (endOf l i).1.toNat S' := by
 cases h with
 | nil h => omega
 | cons _ h => exact ⟨_, rfl, h⟩
theorem Stk.fin {l : List Fo} {f : Nat → Int} {i : Nat} {S : List Int} (h : Stk l f i S) (hi : l.length ≤ i) : S = [] := by
 cases h with
 | nil h => rfl
 | cons h' _ => omega
theorem ev_bit {l : List Fo} {env : List Int} {i : Nat} (hi : i < l.length) (hk : makesP (kindAt l i)) {v : Int} (h : evAt l env i = some v) : v = 0 ∨ v = 1 := by
 rw [evAt_eq l env i hi, stepE] at h
 obtain ⟨a, _, h⟩ := Option.bind_eq_some_iff.1 h
 obtain ⟨b, _, h⟩ := Option.bind_eq_some_iff.1 h
 unfold ovr at h
 split at h
 · cases h
   unfold opV
   rw [if_neg (by omega), if_neg (by omega), if_neg (by omega), if_neg (by omega), if_neg (by omega)]
   split
   · split <;> simp
   split
   · split <;> simp
   split
   · split <;> simp
   split
   · split <;> simp
   split
   · split <;> simp
   split <;> simp
 · cases h
theorem ev_lim {l : List Fo} {env : List Int} {i : Nat} (hi : i < l.length) {v : Int} (h : evAt l env i = some v) : limP v := by
 rw [evAt_eq l env i hi, stepE] at h
 obtain ⟨a, _, h⟩ := Option.bind_eq_some_iff.1 h
 obtain ⟨b, _, h⟩ := Option.bind_eq_some_iff.1 h
 unfold ovr at h
 split at h
 · cases h; assumption
 · cases h
theorem valAt_part {l : List Fo} {i : Nat} (p m : Nat) (hp : p < m) : valAt ((l.drop i).take m) p = valAt l (i + p) := by
 unfold valAt
 rw [List.getElem?_take_of_lt hp, List.getElem?_drop]
theorem ev_part {l : List Fo} {env : List Int} {vars : Int} (g : GoodE l vars) {i : Nat} (hi : i < l.length) : ∀ (m k : Nat), (endOf l i).1 ≤ ((i + k + m : Nat) : Int) → ((i + k : Nat) : Int) < (endOf l i).1 → evAt ((l.drop i).take ((endOf l i).1.toNat - i)) env k = evAt l env (i + k) := by
 have hw := g.well i hi
 have hb := endOf_bound l i hw
 have hlen := part_length hw
 intro m
 induction m using Nat.strongRecOn with
 | _ m ih =>
 intro k h1 h2
 have hkl : k < ((l.drop i).take ((endOf l i).1.toNat - i)).length := by omega
 have hik : i + k < l.length := by omega
 rw [evAt_eq _ env k hkl, evAt_eq l env (i + k) hik]
 have hnest := scan_nest l l.length i 1 (endOf l i).1 (by omega) (by decide) (by rw [← Int.toNat_natCast i]; exact (Prod.ext rfl hw : endOf l i = ((endOf l i).1, 0)) ▸ rfl) (i + k) (by omega) (by omega)
 have e1 := kindAt_part (l := l) (i := i) k ((endOf l i).1.toNat - i) (by omega)
 have e2 := valAt_part (l := l) (i := i) k ((endOf l i).1.toNat - i) (by omega)
 unfold stepE np
 rw [e1, e2]
 rcases g.parts hik with ⟨n0, _⟩ | ⟨n1, p1, p2⟩ | ⟨n2, p1, p2, p3, p4, p5⟩
 · rw [show (partsOf (kindAt l (i + k))).1 = 0 from n0]; rfl
 · rw [show (partsOf (kindAt l (i + k))).1 = 1 from n1]
   have hb1 := endOf_bound l (i + k + 1) (g.well _ p1)
   have := ih (m - 1) (by omega) (k + 1) (by omega) (by omega)
   rw [show i + (k + 1) = i + k + 1 by omega] at this
   rw [this]; rfl
 · rw [show (partsOf (kindAt l (i + k))).1 = 2 from n2]
   have hb1 := endOf_bound l (i + k + 1) (g.well _ p1)
   have hb2 := endOf_bound l (second l (i + k)) (g.well _ p3)
   have t1 := ih (m - 1) (by omega) (k + 1) (by omega) (by omega)
   rw [show i + (k + 1) = i + k + 1 by omega] at t1
   have hpa := part_at hw (k + 1) (by omega)
   rw [show i + (k + 1) = i + k + 1 by omega, p4] at hpa
   have hs : second ((l.drop i).take ((endOf l i).1.toNat - i)) k = second l (i + k) - i := by
    unfold second at hpa ⊢
    rw [hpa]; dsimp only; omega
   have t2 := ih (m - (second l (i + k) - (i + k))) (by omega) (second l (i + k) - i) (by omega) (by omega)
   rw [show i + (second l (i + k) - i) = second l (i + k) by omega] at t2
   rw [t1, hs, t2, if_pos (show k < second l (i + k) - i by omega), if_pos (show i + k < second l (i + k) by omega)]
def wk (l : List Fo) (env : List Int) : Int × Int := match evAt l env 0 with | some n => (n, 0) | none => (0, 8)
def evalF (l : List Fo) (env : List Int) : Int × Int :=
 if (exprC l env.length).2 ≠ 0 then (0, (exprC l env.length).2) else if ∀ v ∈ env, limP v then wk l env else (0, 2)
end Go.Sp
