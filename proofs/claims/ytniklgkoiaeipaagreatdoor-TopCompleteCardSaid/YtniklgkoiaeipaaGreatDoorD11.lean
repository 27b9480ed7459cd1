/- A bundle of this claim's own texts: M2. -/
import Derived.Test.YtniklgkoiaeipaaGreatDoorD10
set_option linter.unusedVariables false
set_option linter.unusedSimpArgs false
set_option maxRecDepth 100000
set_option maxHeartbeats 4000000
namespace Go.Proofs.YtniklgkoiaeipaaGreatDoor
open Go Go.Av Go.Sp

theorem cal_variables : Cal Tryz.prog 175 := Cal.of Tryz.func175 (by kernel_rfl) (by kernel_rfl)
theorem armXM2_1 {p q : Prop} (hp : p) (h : p → q := by
 apply cmp; (focus (first
  | ((with_reducible apply call0); (focus rfl); (focus exact cal_name); (focus exact name _ _); (focus rfl))
  | ((with_reducible apply je_call0); (focus rfl); (focus (decide +kernel)); (focus rfl); (focus exact cal_name); (focus exact name _ _); (focus rfl))
  ))
 exact fun h => h) : q := h hp
theorem variables (G : List (Nat × List D)) (l : List Vr) : ACr Tryz.prog G 175 [.d (varsD l)] (.int (varsF l)) := by
 refine AC_ofV (ts := [2]) Tryz.f175.ntmps Tryz.func175 rfl rfl rfl (by simp [Tryz.ntmps175]) fun W I => ?_
 by_cases h6 : 6 < l.length
 · repeat' (first
    | refine armXM2_1 ?_
    | ((with_reducible apply (jmkset Value.string)); (focus rfl))
    | ((with_reducible apply jp); (focus ((with_reducible apply (pu_lookS keyK_string)); rfl; rfl; rfl; rfl; (focus (with_reducible exact ElC.h)); (focus exact memD))); (focus rfl))
    | ((with_reducible apply (js_putS keyK_string)); (focus rfl); (focus rfl); (focus rfl); (focus rfl); (focus rfl); (focus exact updD); (focus assumption))
    | exact True.intro | refine stpH ?_ | refine two ?_ ?_ | refine allc fun c_ => ?_
    | (refine imp fun hc => ?_) <;> try exact cx1 hc
    | refine all fun v_ => ?_)
   refine retv (VS.drop (List.nil_sublist _)) ?_
   ((with_reducible apply rq1); rfl; rfl)
   exact ret_eq (by rw [varsF, if_pos h6])
 have hF : varsF l = varsE l [] 1 := if_neg h6
 repeat' (first
  | refine armXM2_1 ?_
  | ((with_reducible apply (jmkset Value.string)); (focus rfl))
  | ((with_reducible apply jp); (focus ((with_reducible apply (pu_lookS keyK_string)); rfl; rfl; rfl; rfl; (focus (with_reducible exact ElC.h)); (focus exact memD))); (focus rfl))
  | ((with_reducible apply (js_putS keyK_string)); (focus rfl); (focus rfl); (focus rfl); (focus rfl); (focus rfl); (focus exact updD); (focus assumption))
  | exact True.intro | refine stpH ?_ | refine two ?_ ?_ | refine allc fun c_ => ?_
  | (refine imp fun hc => ?_) <;> try exact cx1 hc
  | refine all fun v_ => ?_)
 refine J_loopV (X := Nat × List ByteArray × Int) (fun y => [(3, .val (.map (some v_))), (4, .int y.2.2), (13, .d (varsD l)), (14, .int l.length), (15, .int y.1)]) (fun y => [.raw v_ (setO Value.string y.2.1)]) (fun y => y.1 ≤ l.length ∧ 1 ≤ y.2.2 ∧ y.2.2 ≤ 4096 ∧ varsF l = varsE (l.drop y.1) y.2.1 y.2.2) (fun y => l.length - y.1) (0, [], 1) ⟨Nat.zero_le _, by decide, by decide, hF⟩ (VS.of_le ?_) ?_
 · exact leD
 rintro ⟨i, seen, n⟩ ⟨h1, h2, h3, h4⟩
 dsimp only at h1 h2 h3 h4 ⊢
 by_cases hi : ¬ i < l.length
 · rw [varsE_end l i (by omega)] at h4
   repeat' (first
    | refine armXM2_1 ?_
    | ((with_reducible apply (jmkset Value.string)); (focus rfl))
    | ((with_reducible apply jp); (focus ((with_reducible apply (pu_lookS keyK_string)); rfl; rfl; rfl; rfl; (focus (with_reducible exact ElC.h)); (focus exact memD))); (focus rfl))
    | ((with_reducible apply (js_putS keyK_string)); (focus rfl); (focus rfl); (focus rfl); (focus rfl); (focus rfl); (focus exact updD); (focus assumption))
    | exact True.intro | refine stpH ?_ | refine two ?_ ?_ | refine allc fun c_ => ?_
    | (refine imp fun hc => ?_) <;> try exact cx1 hc
    | refine all fun v_ => ?_)
   refine retv (VS.drop (List.nil_sublist _)) ?_
   ((with_reducible apply rq1); rfl; rfl)
   exact ret_eq (by rw [h4])
 replace hi := Decidable.not_not.1 hi
 rw [varsE_at l i hi] at h4
 by_cases c1 : ¬ nameP l[i].name
 · rw [if_pos c1] at h4
   repeat' (first
    | refine armXM2_1 ?_
    | ((with_reducible apply (jmkset Value.string)); (focus rfl))
    | ((with_reducible apply jp); (focus ((with_reducible apply (pu_lookS keyK_string)); rfl; rfl; rfl; rfl; (focus (with_reducible exact ElC.h)); (focus exact memD))); (focus rfl))
    | ((with_reducible apply (js_putS keyK_string)); (focus rfl); (focus rfl); (focus rfl); (focus rfl); (focus rfl); (focus exact updD); (focus assumption))
    | exact True.intro | refine stpH ?_ | refine two ?_ ?_ | refine allc fun c_ => ?_
    | (refine imp fun hc => ?_) <;> try exact cx1 hc
    | refine all fun v_ => ?_)
   refine retv (VS.drop (List.nil_sublist _)) ?_
   ((with_reducible apply rq1); rfl; rfl)
   exact ret_eq (by rw [h4])
 rw [if_neg c1] at h4
 by_cases c2 : l[i].name ∈ seen
 · rw [if_pos c2] at h4
   repeat' (first
    | refine armXM2_1 ?_
    | ((with_reducible apply (jmkset Value.string)); (focus rfl))
    | ((with_reducible apply jp); (focus ((with_reducible apply (pu_lookS keyK_string)); rfl; rfl; rfl; rfl; (focus (with_reducible exact ElC.h)); (focus exact memD))); (focus rfl))
    | ((with_reducible apply (js_putS keyK_string)); (focus rfl); (focus rfl); (focus rfl); (focus rfl); (focus rfl); (focus exact updD); (focus assumption))
    | exact True.intro | refine stpH ?_ | refine two ?_ ?_ | refine allc fun c_ => ?_
    | (refine imp fun hc => ?_) <;> try exact cx1 hc
    | refine all fun v_ => ?_)
   refine retv (VS.drop (List.nil_sublist _)) ?_
   ((with_reducible apply rq1); rfl; rfl)
   exact ret_eq (by rw [h4])
 rw [if_neg c2] at h4
 by_cases c3 : ¬ rangeV l[i]
 · rw [if_pos c3] at h4
   have c3' := c3
   unfold rangeV at c3'
   by_cases d1 : l[i].low < -1000
   · repeat' (first
      | refine armXM2_1 ?_
      | ((with_reducible apply (jmkset Value.string)); (focus rfl))
      | ((with_reducible apply jp); (focus ((with_reducible apply (pu_lookS keyK_string)); rfl; rfl; rfl; rfl; (focus (with_reducible exact ElC.h)); (focus exact memD))); (focus rfl))
      | ((with_reducible apply (js_putS keyK_string)); (focus rfl); (focus rfl); (focus rfl); (focus rfl); (focus rfl); (focus exact updD); (focus assumption))
      | exact True.intro | refine stpH ?_ | refine two ?_ ?_ | refine allc fun c_ => ?_
      | (refine imp fun hc => ?_) <;> try exact cx1 hc
      | refine all fun v_ => ?_)
     refine retv (VS.drop (List.nil_sublist _)) ?_
     ((with_reducible apply rq1); rfl; rfl)
     exact ret_eq (by rw [h4])
   by_cases d2 : 1000 < l[i].high
   · repeat' (first
      | refine armXM2_1 ?_
      | ((with_reducible apply (jmkset Value.string)); (focus rfl))
      | ((with_reducible apply jp); (focus ((with_reducible apply (pu_lookS keyK_string)); rfl; rfl; rfl; rfl; (focus (with_reducible exact ElC.h)); (focus exact memD))); (focus rfl))
      | ((with_reducible apply (js_putS keyK_string)); (focus rfl); (focus rfl); (focus rfl); (focus rfl); (focus rfl); (focus exact updD); (focus assumption))
      | exact True.intro | refine stpH ?_ | refine two ?_ ?_ | refine allc fun c_ => ?_
      | (refine imp fun hc => ?_) <;> try exact cx1 hc
      | refine all fun v_ => ?_)
     refine retv (VS.drop (List.nil_sublist _)) ?_
     ((with_reducible apply rq1); rfl; rfl)
     exact ret_eq (by rw [h4])
   by_cases d3 : l[i].high < l[i].low
   · repeat' (first
      | refine armXM2_1 ?_
      | ((with_reducible apply (jmkset Value.string)); (focus rfl))
      | ((with_reducible apply jp); (focus ((with_reducible apply (pu_lookS keyK_string)); rfl; rfl; rfl; rfl; (focus (with_reducible exact ElC.h)); (focus exact memD))); (focus rfl))
      | ((with_reducible apply (js_putS keyK_string)); (focus rfl); (focus rfl); (focus rfl); (focus rfl); (focus rfl); (focus exact updD); (focus assumption))
      | exact True.intro | refine stpH ?_ | refine two ?_ ?_ | refine allc fun c_ => ?_
      | (refine imp fun hc => ?_) <;> try exact cx1 hc
      | refine all fun v_ => ?_)
     refine retv (VS.drop (List.nil_sublist _)) ?_
     ((with_reducible apply rq1); rfl; rfl)
     exact ret_eq (by rw [h4])
   by_cases d4 : l[i].init < l[i].low
   · repeat' (first
      | refine armXM2_1 ?_
      | ((with_reducible apply (jmkset Value.string)); (focus rfl))
      | ((with_reducible apply jp); (focus ((with_reducible apply (pu_lookS keyK_string)); rfl; rfl; rfl; rfl; (focus (with_reducible exact ElC.h)); (focus exact memD))); (focus rfl))
      | ((with_reducible apply (js_putS keyK_string)); (focus rfl); (focus rfl); (focus rfl); (focus rfl); (focus rfl); (focus exact updD); (focus assumption))
      | exact True.intro | refine stpH ?_ | refine two ?_ ?_ | refine allc fun c_ => ?_
      | (refine imp fun hc => ?_) <;> try exact cx1 hc
      | refine all fun v_ => ?_)
     refine retv (VS.drop (List.nil_sublist _)) ?_
     ((with_reducible apply rq1); rfl; rfl)
     exact ret_eq (by rw [h4])
   · have d5 : l[i].high < l[i].init := by omega
     repeat' (first
      | refine armXM2_1 ?_
      | ((with_reducible apply (jmkset Value.string)); (focus rfl))
      | ((with_reducible apply jp); (focus ((with_reducible apply (pu_lookS keyK_string)); rfl; rfl; rfl; rfl; (focus (with_reducible exact ElC.h)); (focus exact memD))); (focus rfl))
      | ((with_reducible apply (js_putS keyK_string)); (focus rfl); (focus rfl); (focus rfl); (focus rfl); (focus rfl); (focus exact updD); (focus assumption))
      | exact True.intro | refine stpH ?_ | refine two ?_ ?_ | refine allc fun c_ => ?_
      | (refine imp fun hc => ?_) <;> try exact cx1 hc
      | refine all fun v_ => ?_)
     refine retv (VS.drop (List.nil_sublist _)) ?_
     ((with_reducible apply rq1); rfl; rfl)
     exact ret_eq (by rw [h4])
 rw [if_neg c3] at h4
 obtain ⟨d1, d2, d3, d4, d5⟩ := Decidable.not_not.1 c3
 clear c3
 have hsp : spanV l[i] = l[i].high - l[i].low + 1 := rfl
 by_cases c4 : 64 < spanV l[i]
 · rw [if_pos c4] at h4
   repeat' (first
    | refine armXM2_1 ?_
    | ((with_reducible apply (jmkset Value.string)); (focus rfl))
    | ((with_reducible apply jp); (focus ((with_reducible apply (pu_lookS keyK_string)); rfl; rfl; rfl; rfl; (focus (with_reducible exact ElC.h)); (focus exact memD))); (focus rfl))
    | ((with_reducible apply (js_putS keyK_string)); (focus rfl); (focus rfl); (focus rfl); (focus rfl); (focus rfl); (focus exact updD); (focus assumption))
    | exact True.intro | refine stpH ?_ | refine two ?_ ?_ | refine allc fun c_ => ?_
    | (refine imp fun hc => ?_) <;> try exact cx1 hc
    | refine all fun v_ => ?_)
   refine retv (VS.drop (List.nil_sublist _)) ?_
   ((with_reducible apply rq1); rfl; rfl)
   exact ret_eq (by rw [h4])
 rw [if_neg c4] at h4
 have hpos : 1 ≤ n * spanV l[i] := Int.le_trans (by omega) (Int.mul_le_mul h2 (show (1 : Int) ≤ spanV l[i] by omega) (by omega) (by omega))
 have hbd : n * spanV l[i] ≤ 4096 * 64 := Int.mul_le_mul h3 (by omega) (by omega) (by omega)
 rw [hsp] at hpos hbd h4
 have hin : inI64 (n * (l[i].high - l[i].low + 1)) := ⟨by omega, by omega⟩
 by_cases c5 : 4096 < n * (l[i].high - l[i].low + 1)
 · rw [if_pos c5] at h4
   repeat' (first
    | refine armXM2_1 ?_
    | ((with_reducible apply (jmkset Value.string)); (focus rfl))
    | ((with_reducible apply jp); (focus ((with_reducible apply (pu_lookS keyK_string)); rfl; rfl; rfl; rfl; (focus (with_reducible exact ElC.h)); (focus exact memD))); (focus rfl))
    | ((with_reducible apply (js_putS keyK_string)); (focus rfl); (focus rfl); (focus rfl); (focus rfl); (focus rfl); (focus exact updD); (focus assumption))
    | exact True.intro | refine stpH ?_ | refine two ?_ ?_ | refine allc fun c_ => ?_
    | (refine imp fun hc => ?_) <;> try exact cx1 hc
    | refine all fun v_ => ?_)
   refine retv (VS.drop (List.nil_sublist _)) ?_
   ((with_reducible apply rq1); rfl; rfl)
   exact ret_eq (by rw [h4])
 rw [if_neg c5] at h4
 repeat' (first
  | refine armXM2_1 ?_
  | ((with_reducible apply (jmkset Value.string)); (focus rfl))
  | ((with_reducible apply jp); (focus ((with_reducible apply (pu_lookS keyK_string)); rfl; rfl; rfl; rfl; (focus (with_reducible exact ElC.h)); (focus exact memD))); (focus rfl))
  | ((with_reducible apply (js_putS keyK_string)); (focus rfl); (focus rfl); (focus rfl); (focus rfl); (focus rfl); (focus exact updD); (focus assumption))
  | exact True.intro | refine stpH ?_ | refine two ?_ ?_ | refine allc fun c_ => ?_
  | (refine imp fun hc => ?_) <;> try exact cx1 hc
  | refine all fun v_ => ?_)
 refine ⟨(i + 1, seen ++ [l[i].name], n * (l[i].high - l[i].low + 1)), ⟨by dsimp only; omega, hpos, by dsimp only; omega, h4⟩, by dsimp only; omega, VS.take (by exact takeD) ?_⟩
 exact leD
end Go.Proofs.YtniklgkoiaeipaaGreatDoor
