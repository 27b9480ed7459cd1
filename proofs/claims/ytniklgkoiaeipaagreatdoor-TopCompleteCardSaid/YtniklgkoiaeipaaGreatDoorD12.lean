/- A bundle of this claim's own texts: M3. -/
import Derived.Test.YtniklgkoiaeipaaGreatDoorD11
set_option linter.unusedVariables false
set_option linter.unusedSimpArgs false
set_option maxRecDepth 100000
set_option maxHeartbeats 4000000
namespace Go.Proofs.YtniklgkoiaeipaaGreatDoor
open Go Go.Av Go.Sp

theorem cal_rule : Cal Tryz.prog 176 := Cal.of Tryz.func176 (by kernel_rfl) (by kernel_rfl)
theorem cal_MdCheck : Cal Tryz.prog 127 := Cal.of Tryz.func127 (by kernel_rfl) (by kernel_rfl)
abbrev ruA (r : Ru) : AV := .agg [.d (opsD r.guard), .d (setsD r.sets)]
theorem armXM3_1 {p q : Prop} (hp : p) (h : p → q := by
 apply cmp; (focus (first
  | ((with_reducible apply call0); (focus rfl); (focus exact cal_kind); (focus exact kind _ _ _); (focus rfl))
  | ((with_reducible apply je_call0); (focus rfl); (focus (decide +kernel)); (focus rfl); (focus exact cal_kind); (focus exact kind _ _ _); (focus rfl))
  ))
 exact fun h => h) : q := h hp
theorem rule (r : Ru) (vars : Int) : ACr Tryz.prog GP 176 [ruA r, .int vars] (.int (ruleF r vars)) := by
 refine AC_ofV (ts := [4]) Tryz.f176.ntmps Tryz.func176 rfl rfl rfl (by simp [Tryz.ntmps176]) fun W I => ?_
 by_cases h6 : 6 < r.sets.length
 · repeat' (first
    | refine armXM3_1 ?_
    | ((with_reducible apply (jmkset (Value.int .i64))); (focus rfl))
    | ((with_reducible apply jp); (focus ((with_reducible apply (pu_lookS (keyK_int .i64))); rfl; rfl; rfl; rfl; (focus (with_reducible exact ElC.h)); (focus exact memD))); (focus rfl))
    | ((with_reducible apply (js_putS (keyK_int .i64))); (focus rfl); (focus rfl); (focus rfl); (focus rfl); (focus rfl); (focus exact updD); (focus assumption))
    | exact True.intro | refine stpH ?_ | refine two ?_ ?_ | refine allc fun c_ => ?_
    | (refine imp fun hc => ?_) <;> try exact cx1 hc
    | refine all fun v_ => ?_)
   refine retv (VS.drop (List.nil_sublist _)) ?_
   ((with_reducible apply rq1); rfl; rfl)
   exact ret_eq (by rw [ruleF, if_pos h6])
 by_cases hk : kindF r.guard vars true ≠ 0
 · repeat' (first
    | refine armXM3_1 ?_
    | ((with_reducible apply (jmkset (Value.int .i64))); (focus rfl))
    | ((with_reducible apply jp); (focus ((with_reducible apply (pu_lookS (keyK_int .i64))); rfl; rfl; rfl; rfl; (focus (with_reducible exact ElC.h)); (focus exact memD))); (focus rfl))
    | ((with_reducible apply (js_putS (keyK_int .i64))); (focus rfl); (focus rfl); (focus rfl); (focus rfl); (focus rfl); (focus exact updD); (focus assumption))
    | exact True.intro | refine stpH ?_ | refine two ?_ ?_ | refine allc fun c_ => ?_
    | (refine imp fun hc => ?_) <;> try exact cx1 hc
    | refine all fun v_ => ?_)
   refine retv (VS.drop (List.nil_sublist _)) ?_
   ((with_reducible apply rq1); rfl; rfl)
   exact ret_eq (by rw [ruleF, if_neg h6, if_pos hk])
 have hF : ruleF r vars = setsE vars r.sets [] := by rw [ruleF, if_neg h6, if_neg hk]
 repeat' (first
  | refine armXM3_1 ?_
  | ((with_reducible apply (jmkset (Value.int .i64))); (focus rfl))
  | ((with_reducible apply jp); (focus ((with_reducible apply (pu_lookS (keyK_int .i64))); rfl; rfl; rfl; rfl; (focus (with_reducible exact ElC.h)); (focus exact memD))); (focus rfl))
  | ((with_reducible apply (js_putS (keyK_int .i64))); (focus rfl); (focus rfl); (focus rfl); (focus rfl); (focus rfl); (focus exact updD); (focus assumption))
  | exact True.intro | refine stpH ?_ | refine two ?_ ?_ | refine allc fun c_ => ?_
  | (refine imp fun hc => ?_) <;> try exact cx1 hc
  | refine all fun v_ => ?_)
 refine J_loopV (X := Nat × List Int) (fun y => [(1, .int vars), (6, .val (.map (some v_))), (25, .d (setsD r.sets)), (26, .int r.sets.length), (27, .int y.1)]) (fun y => [.raw v_ (setO (Value.int .i64) y.2)]) (fun y => y.1 ≤ r.sets.length ∧ ruleF r vars = setsE vars (r.sets.drop y.1) y.2) (fun y => r.sets.length - y.1) (0, []) ⟨Nat.zero_le _, hF⟩ ?_ ?_
 · refine VS.take (by exact takedD) ?_
   exact leD
 rintro ⟨i, seen⟩ ⟨h1, h4⟩
 dsimp only at h1 h4 ⊢
 by_cases hi : ¬ i < r.sets.length
 · rw [setsE_end vars _ i (by omega)] at h4
   repeat' (first
    | refine armXM3_1 ?_
    | ((with_reducible apply (jmkset (Value.int .i64))); (focus rfl))
    | ((with_reducible apply jp); (focus ((with_reducible apply (pu_lookS (keyK_int .i64))); rfl; rfl; rfl; rfl; (focus (with_reducible exact ElC.h)); (focus exact memD))); (focus rfl))
    | ((with_reducible apply (js_putS (keyK_int .i64))); (focus rfl); (focus rfl); (focus rfl); (focus rfl); (focus rfl); (focus exact updD); (focus assumption))
    | exact True.intro | refine stpH ?_ | refine two ?_ ?_ | refine allc fun c_ => ?_
    | (refine imp fun hc => ?_) <;> try exact cx1 hc
    | refine all fun v_ => ?_)
   refine retv (VS.drop (List.nil_sublist _)) ?_
   ((with_reducible apply rq1); rfl; rfl)
   exact ret_eq (by rw [h4])
 replace hi := Decidable.not_not.1 hi
 rw [setsE_at vars _ i hi] at h4
 by_cases c0 : r.sets[i].var < 0
 · rw [if_pos (by omega)] at h4
   repeat' (first
    | refine armXM3_1 ?_
    | ((with_reducible apply (jmkset (Value.int .i64))); (focus rfl))
    | ((with_reducible apply jp); (focus ((with_reducible apply (pu_lookS (keyK_int .i64))); rfl; rfl; rfl; rfl; (focus (with_reducible exact ElC.h)); (focus exact memD))); (focus rfl))
    | ((with_reducible apply (js_putS (keyK_int .i64))); (focus rfl); (focus rfl); (focus rfl); (focus rfl); (focus rfl); (focus exact updD); (focus assumption))
    | exact True.intro | refine stpH ?_ | refine two ?_ ?_ | refine allc fun c_ => ?_
    | (refine imp fun hc => ?_) <;> try exact cx1 hc
    | refine all fun v_ => ?_)
   refine retv (VS.drop (List.nil_sublist _)) ?_
   ((with_reducible apply rq1); rfl; rfl)
   exact ret_eq (by rw [h4])
 by_cases c1 : vars ≤ r.sets[i].var
 · rw [if_pos (by omega)] at h4
   repeat' (first
    | refine armXM3_1 ?_
    | ((with_reducible apply (jmkset (Value.int .i64))); (focus rfl))
    | ((with_reducible apply jp); (focus ((with_reducible apply (pu_lookS (keyK_int .i64))); rfl; rfl; rfl; rfl; (focus (with_reducible exact ElC.h)); (focus exact memD))); (focus rfl))
    | ((with_reducible apply (js_putS (keyK_int .i64))); (focus rfl); (focus rfl); (focus rfl); (focus rfl); (focus rfl); (focus exact updD); (focus assumption))
    | exact True.intro | refine stpH ?_ | refine two ?_ ?_ | refine allc fun c_ => ?_
    | (refine imp fun hc => ?_) <;> try exact cx1 hc
    | refine all fun v_ => ?_)
   refine retv (VS.drop (List.nil_sublist _)) ?_
   ((with_reducible apply rq1); rfl; rfl)
   exact ret_eq (by rw [h4])
 rw [if_neg (by omega)] at h4
 by_cases c2 : r.sets[i].var ∈ seen
 · rw [if_pos c2] at h4
   repeat' (first
    | refine armXM3_1 ?_
    | ((with_reducible apply (jmkset (Value.int .i64))); (focus rfl))
    | ((with_reducible apply jp); (focus ((with_reducible apply (pu_lookS (keyK_int .i64))); rfl; rfl; rfl; rfl; (focus (with_reducible exact ElC.h)); (focus exact memD))); (focus rfl))
    | ((with_reducible apply (js_putS (keyK_int .i64))); (focus rfl); (focus rfl); (focus rfl); (focus rfl); (focus rfl); (focus exact updD); (focus assumption))
    | exact True.intro | refine stpH ?_ | refine two ?_ ?_ | refine allc fun c_ => ?_
    | (refine imp fun hc => ?_) <;> try exact cx1 hc
    | refine all fun v_ => ?_)
   refine retv (VS.drop (List.nil_sublist _)) ?_
   ((with_reducible apply rq1); rfl; rfl)
   exact ret_eq (by rw [h4])
 rw [if_neg c2] at h4
 by_cases c3 : kindF r.sets[i].val vars false ≠ 0
 · rw [if_pos c3] at h4
   repeat' (first
    | refine armXM3_1 ?_
    | ((with_reducible apply (jmkset (Value.int .i64))); (focus rfl))
    | ((with_reducible apply jp); (focus ((with_reducible apply (pu_lookS (keyK_int .i64))); rfl; rfl; rfl; rfl; (focus (with_reducible exact ElC.h)); (focus exact memD))); (focus rfl))
    | ((with_reducible apply (js_putS (keyK_int .i64))); (focus rfl); (focus rfl); (focus rfl); (focus rfl); (focus rfl); (focus exact updD); (focus assumption))
    | exact True.intro | refine stpH ?_ | refine two ?_ ?_ | refine allc fun c_ => ?_
    | (refine imp fun hc => ?_) <;> try exact cx1 hc
    | refine all fun v_ => ?_)
   refine retv (VS.drop (List.nil_sublist _)) ?_
   ((with_reducible apply rq1); rfl; rfl)
   exact ret_eq (by rw [h4])
 rw [if_neg c3] at h4
 repeat' (first
  | refine armXM3_1 ?_
  | ((with_reducible apply (jmkset (Value.int .i64))); (focus rfl))
  | ((with_reducible apply jp); (focus ((with_reducible apply (pu_lookS (keyK_int .i64))); rfl; rfl; rfl; rfl; (focus (with_reducible exact ElC.h)); (focus exact memD))); (focus rfl))
  | ((with_reducible apply (js_putS (keyK_int .i64))); (focus rfl); (focus rfl); (focus rfl); (focus rfl); (focus rfl); (focus exact updD); (focus assumption))
  | exact True.intro | refine stpH ?_ | refine two ?_ ?_ | refine allc fun c_ => ?_
  | (refine imp fun hc => ?_) <;> try exact cx1 hc
  | refine all fun v_ => ?_)
 refine ⟨(i + 1, seen ++ [r.sets[i].var]), ⟨by dsimp only; omega, h4⟩, by dsimp only; omega, VS.take (by exact takeD) ?_⟩
 exact leD
theorem armXM3_3 {p q : Prop} (hp : p) (h : p → q := by
 apply cmp; (focus (first
  | ((with_reducible apply call0); (focus rfl); (focus exact cal_variables); (focus exact variables _ _); (focus rfl))
  | ((with_reducible apply je_call0); (focus rfl); (focus (decide +kernel)); (focus rfl); (focus exact cal_variables); (focus exact variables _ _); (focus rfl))
  | ((with_reducible apply call0); (focus rfl); (focus exact cal_rule); (focus exact rule _ _); (focus rfl))
  | ((with_reducible apply je_call0); (focus rfl); (focus (decide +kernel)); (focus rfl); (focus exact cal_rule); (focus exact rule _ _); (focus rfl))
  ))
 exact fun h => h) : q := h hp
theorem MdCheck (m : Md) : ACr Tryz.prog GP 127 [mdA m] (.int (modelF m)) := by
 refine AC_ofV (ts := [2]) Tryz.f127.ntmps Tryz.func127 rfl rfl rfl (by simp [Tryz.ntmps127]) fun W I => ?_
 by_cases c1 : varsF m.vars ≠ 0
 · repeat' (first
    | refine armXM3_3 ?_
    | exact True.intro | refine stpH ?_ | refine two ?_ ?_ | refine allc fun c_ => ?_
    | (refine imp fun hc => ?_) <;> try exact cx1 hc
    | refine all fun v_ => ?_)
   refine retv (VS.drop (List.nil_sublist _)) ?_
   ((with_reducible apply rq1); rfl; rfl)
   exact ret_eq (by rw [modelF, if_pos c1])
 by_cases c2 : 12 < m.rules.length
 · repeat' (first
    | refine armXM3_3 ?_
    | exact True.intro | refine stpH ?_ | refine two ?_ ?_ | refine allc fun c_ => ?_
    | (refine imp fun hc => ?_) <;> try exact cx1 hc
    | refine all fun v_ => ?_)
   refine retv (VS.drop (List.nil_sublist _)) ?_
   ((with_reducible apply rq1); rfl; rfl)
   exact ret_eq (by rw [modelF, if_neg c1, if_pos c2])
 have hF : modelF m = rulesE m.vars.length m.rules := by rw [modelF, if_neg c1, if_neg c2]
 repeat' (first
  | refine armXM3_3 ?_
  | exact True.intro | refine stpH ?_ | refine two ?_ ?_ | refine allc fun c_ => ?_
  | (refine imp fun hc => ?_) <;> try exact cx1 hc
  | refine all fun v_ => ?_)
 refine J_loopV (X := Nat) (fun i => [(1, .val (.pointer (some ⟨v_, 0, none⟩))), (18, .d (rulesD m.rules)), (19, .int m.rules.length), (20, .int i)]) (fun _ => [.cells v_ 25 [.d (varsD m.vars), .d (rulesD m.rules)]]) (fun i => i ≤ m.rules.length ∧ modelF m = rulesE m.vars.length (m.rules.drop i)) (fun i => m.rules.length - i) 0 ⟨Nat.zero_le _, hF⟩ (VS.of_le ?_) ?_
 · exact leD
 rintro i ⟨h1, h4⟩
 by_cases hi : ¬ i < m.rules.length
 · rw [rulesE_end _ _ i (by omega)] at h4
   repeat' (first
    | refine armXM3_3 ?_
    | exact True.intro | refine stpH ?_ | refine two ?_ ?_ | refine allc fun c_ => ?_
    | (refine imp fun hc => ?_) <;> try exact cx1 hc
    | refine all fun v_ => ?_)
   refine retv (VS.drop (List.nil_sublist _)) ?_
   ((with_reducible apply rq1); rfl; rfl)
   exact ret_eq (by rw [h4])
 replace hi := Decidable.not_not.1 hi
 rw [rulesE_at _ _ i hi] at h4
 by_cases c3 : ruleF m.rules[i] m.vars.length ≠ 0
 · rw [if_pos c3] at h4
   repeat' (first
    | refine armXM3_3 ?_
    | exact True.intro | refine stpH ?_ | refine two ?_ ?_ | refine allc fun c_ => ?_
    | (refine imp fun hc => ?_) <;> try exact cx1 hc
    | refine all fun v_ => ?_)
   refine retv (VS.drop (List.nil_sublist _)) ?_
   ((with_reducible apply rq1); rfl; rfl)
   exact ret_eq (by rw [h4])
 rw [if_neg c3] at h4
 rename_i bm
 repeat' (first
  | refine armXM3_3 ?_
  | exact True.intro | refine stpH ?_ | refine two ?_ ?_ | refine allc fun c_ => ?_
  | (refine imp fun hc => ?_) <;> try exact cx1 hc
  | refine all fun v_ => ?_)
 refine ⟨i + 1, ⟨by omega, h4⟩, by omega, VS.take (by exact takeD) ?_⟩
 exact leD
theorem varsF_len {l : List Vr} (h : varsF l = 0) : l.length ≤ 6 := by
 unfold varsF at h
 by_cases c : 6 < l.length
 · rw [if_pos c] at h; cases h
 · omega
end Go.Proofs.YtniklgkoiaeipaaGreatDoor
