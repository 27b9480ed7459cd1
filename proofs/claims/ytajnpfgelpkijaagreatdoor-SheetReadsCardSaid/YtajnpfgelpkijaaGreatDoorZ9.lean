/- A bundle of this claim's own texts: M3. -/
import Derived.Test.YtajnpfgelpkijaaGreatDoorZ8
set_option linter.unusedVariables false
set_option linter.unusedSimpArgs false
set_option maxRecDepth 100000
set_option maxHeartbeats 4000000
namespace Go.Proofs.YtajnpfgelpkijaaGreatDoor
open Go Go.Av Go.Sp

theorem cal_rule : Cal Tryz.prog 125 := Cal.of Tryz.func125 (by kernel_rfl) (by kernel_rfl)
theorem cal_ruleFault : Cal Tryz.prog 121 := Cal.of Tryz.func121 (by kernel_rfl) (by kernel_rfl)
theorem cal_MdCheck : Cal Tryz.prog 89 := Cal.of Tryz.func89 (by kernel_rfl) (by kernel_rfl)
theorem cal_ModelFault : Cal Tryz.prog 81 := Cal.of Tryz.func81 (by kernel_rfl) (by kernel_rfl)
abbrev ruA (r : Ru) : AV := .agg [.d (opsD r.guard), .d (setsD r.sets)]
theorem rule (r : Ru) (vars : Int) : ACr Tryz.prog GP 125 [ruA r, .int vars] (.int (ruleF r vars)) := by
 refine AC_ofV (ts := [4]) Tryz.f125.ntmps Tryz.func125 rfl rfl rfl (by simp [Tryz.ntmps125]) fun W I => ?_
 by_cases h6 : 6 < r.sets.length
 · repeat' (first
    | refine ca cal_kind (kind _ _ _) ?_
    | ((with_reducible apply (jmkset (Value.int .i64))); (focus rfl))
    | ((with_reducible apply jp); (focus ((with_reducible apply (pu_lookS (keyK_int .i64))); rfl; rfl; rfl; rfl; (focus (with_reducible exact ElC.h)); (focus exact memD))); (focus rfl))
    | ((with_reducible apply (js_putS (keyK_int .i64))); (focus rfl); (focus rfl); (focus rfl); (focus rfl); (focus rfl); (focus exact updD); (focus assumption))
    | exact True.intro | refine stpH ?_ | refine two ?_ ?_ | refine allc fun c_ => ?_
    | (refine imp fun hc => ?_) <;> try exact cx1 hc
    | refine all fun v_ => ?_)
   refine retv (VS.drop (List.nil_sublist _)) ?_
   ((with_reducible apply rq1); rfl; rfl)
   exact ret_eq (by rw [ruleF, if_pos h6])
 by_cases hk : kindF r.guard vars true ≠ 0
 · repeat' (first
    | refine ca cal_kind (kind _ _ _) ?_
    | ((with_reducible apply (jmkset (Value.int .i64))); (focus rfl))
    | ((with_reducible apply jp); (focus ((with_reducible apply (pu_lookS (keyK_int .i64))); rfl; rfl; rfl; rfl; (focus (with_reducible exact ElC.h)); (focus exact memD))); (focus rfl))
    | ((with_reducible apply (js_putS (keyK_int .i64))); (focus rfl); (focus rfl); (focus rfl); (focus rfl); (focus rfl); (focus exact updD); (focus assumption))
    | exact True.intro | refine stpH ?_ | refine two ?_ ?_ | refine allc fun c_ => ?_
    | (refine imp fun hc => ?_) <;> try exact cx1 hc
    | refine all fun v_ => ?_)
   refine retv (VS.drop (List.nil_sublist _)) ?_
   ((with_reducible apply rq1); rfl; rfl)
   exact ret_eq (by rw [ruleF, if_neg h6, if_pos hk])
 have hF : ruleF r vars = setsE vars r.sets [] := by rw [ruleF, if_neg h6, if_neg hk]
 repeat' (first
  | refine ca cal_kind (kind _ _ _) ?_
  | ((with_reducible apply (jmkset (Value.int .i64))); (focus rfl))
  | ((with_reducible apply jp); (focus ((with_reducible apply (pu_lookS (keyK_int .i64))); rfl; rfl; rfl; rfl; (focus (with_reducible exact ElC.h)); (focus exact memD))); (focus rfl))
  | ((with_reducible apply (js_putS (keyK_int .i64))); (focus rfl); (focus rfl); (focus rfl); (focus rfl); (focus rfl); (focus exact updD); (focus assumption))
  | exact True.intro | refine stpH ?_ | refine two ?_ ?_ | refine allc fun c_ => ?_
  | (refine imp fun hc => ?_) <;> try exact cx1 hc
  | refine all fun v_ => ?_)
 refine J_loopV (X := Nat × List Int) (fun y => [(1, .int vars), (6, .val (.map (some v_))), (25, .d (setsD r.sets)), (26, .int r.sets.length), (27, .int y.1)]) (fun y => [.raw v_ (setO (Value.int .i64) y.2)]) (fun y => y.1 ≤ r.sets.length ∧ ruleF r vars = setsE vars (r.sets.drop y.1) y.2) (fun y => r.sets.length - y.1) (0, []) ⟨Nat.zero_le _, hF⟩ ?_ ?_
 · refine VS.take (by exact takedD) ?_
   exact leD
 rintro ⟨i, seen⟩ ⟨h1, h4⟩
 dsimp only at h1 h4 ⊢
 by_cases hi : ¬ i < r.sets.length
 · rw [setsE_end vars _ i (by omega)] at h4
   repeat' (first
    | refine ca cal_kind (kind _ _ _) ?_
    | ((with_reducible apply (jmkset (Value.int .i64))); (focus rfl))
    | ((with_reducible apply jp); (focus ((with_reducible apply (pu_lookS (keyK_int .i64))); rfl; rfl; rfl; rfl; (focus (with_reducible exact ElC.h)); (focus exact memD))); (focus rfl))
    | ((with_reducible apply (js_putS (keyK_int .i64))); (focus rfl); (focus rfl); (focus rfl); (focus rfl); (focus rfl); (focus exact updD); (focus assumption))
    | exact True.intro | refine stpH ?_ | refine two ?_ ?_ | refine allc fun c_ => ?_
    | (refine imp fun hc => ?_) <;> try exact cx1 hc
    | refine all fun v_ => ?_)
   refine retv (VS.drop (List.nil_sublist _)) ?_
   ((with_reducible apply rq1); rfl; rfl)
   exact ret_eq (by rw [h4])
 replace hi := Decidable.not_not.1 hi
 rw [setsE_at vars _ i hi] at h4
 by_cases c0 : r.sets[i].var < 0
 · rw [if_pos (by omega)] at h4
   repeat' (first
    | refine ca cal_kind (kind _ _ _) ?_
    | ((with_reducible apply (jmkset (Value.int .i64))); (focus rfl))
    | ((with_reducible apply jp); (focus ((with_reducible apply (pu_lookS (keyK_int .i64))); rfl; rfl; rfl; rfl; (focus (with_reducible exact ElC.h)); (focus exact memD))); (focus rfl))
    | ((with_reducible apply (js_putS (keyK_int .i64))); (focus rfl); (focus rfl); (focus rfl); (focus rfl); (focus rfl); (focus exact updD); (focus assumption))
    | exact True.intro | refine stpH ?_ | refine two ?_ ?_ | refine allc fun c_ => ?_
    | (refine imp fun hc => ?_) <;> try exact cx1 hc
    | refine all fun v_ => ?_)
   refine retv (VS.drop (List.nil_sublist _)) ?_
   ((with_reducible apply rq1); rfl; rfl)
   exact ret_eq (by rw [h4])
 by_cases c1 : vars ≤ r.sets[i].var
 · rw [if_pos (by omega)] at h4
   repeat' (first
    | refine ca cal_kind (kind _ _ _) ?_
    | ((with_reducible apply (jmkset (Value.int .i64))); (focus rfl))
    | ((with_reducible apply jp); (focus ((with_reducible apply (pu_lookS (keyK_int .i64))); rfl; rfl; rfl; rfl; (focus (with_reducible exact ElC.h)); (focus exact memD))); (focus rfl))
    | ((with_reducible apply (js_putS (keyK_int .i64))); (focus rfl); (focus rfl); (focus rfl); (focus rfl); (focus rfl); (focus exact updD); (focus assumption))
    | exact True.intro | refine stpH ?_ | refine two ?_ ?_ | refine allc fun c_ => ?_
    | (refine imp fun hc => ?_) <;> try exact cx1 hc
    | refine all fun v_ => ?_)
   refine retv (VS.drop (List.nil_sublist _)) ?_
   ((with_reducible apply rq1); rfl; rfl)
   exact ret_eq (by rw [h4])
 rw [if_neg (by omega)] at h4
 by_cases c2 : r.sets[i].var ∈ seen
 · rw [if_pos c2] at h4
   repeat' (first
    | refine ca cal_kind (kind _ _ _) ?_
    | ((with_reducible apply (jmkset (Value.int .i64))); (focus rfl))
    | ((with_reducible apply jp); (focus ((with_reducible apply (pu_lookS (keyK_int .i64))); rfl; rfl; rfl; rfl; (focus (with_reducible exact ElC.h)); (focus exact memD))); (focus rfl))
    | ((with_reducible apply (js_putS (keyK_int .i64))); (focus rfl); (focus rfl); (focus rfl); (focus rfl); (focus rfl); (focus exact updD); (focus assumption))
    | exact True.intro | refine stpH ?_ | refine two ?_ ?_ | refine allc fun c_ => ?_
    | (refine imp fun hc => ?_) <;> try exact cx1 hc
    | refine all fun v_ => ?_)
   refine retv (VS.drop (List.nil_sublist _)) ?_
   ((with_reducible apply rq1); rfl; rfl)
   exact ret_eq (by rw [h4])
 rw [if_neg c2] at h4
 by_cases c3 : kindF r.sets[i].val vars false ≠ 0
 · rw [if_pos c3] at h4
   repeat' (first
    | refine ca cal_kind (kind _ _ _) ?_
    | ((with_reducible apply (jmkset (Value.int .i64))); (focus rfl))
    | ((with_reducible apply jp); (focus ((with_reducible apply (pu_lookS (keyK_int .i64))); rfl; rfl; rfl; rfl; (focus (with_reducible exact ElC.h)); (focus exact memD))); (focus rfl))
    | ((with_reducible apply (js_putS (keyK_int .i64))); (focus rfl); (focus rfl); (focus rfl); (focus rfl); (focus rfl); (focus exact updD); (focus assumption))
    | exact True.intro | refine stpH ?_ | refine two ?_ ?_ | refine allc fun c_ => ?_
    | (refine imp fun hc => ?_) <;> try exact cx1 hc
    | refine all fun v_ => ?_)
   refine retv (VS.drop (List.nil_sublist _)) ?_
   ((with_reducible apply rq1); rfl; rfl)
   exact ret_eq (by rw [h4])
 rw [if_neg c3] at h4
 repeat' (first
  | refine ca cal_kind (kind _ _ _) ?_
  | ((with_reducible apply (jmkset (Value.int .i64))); (focus rfl))
  | ((with_reducible apply jp); (focus ((with_reducible apply (pu_lookS (keyK_int .i64))); rfl; rfl; rfl; rfl; (focus (with_reducible exact ElC.h)); (focus exact memD))); (focus rfl))
  | ((with_reducible apply (js_putS (keyK_int .i64))); (focus rfl); (focus rfl); (focus rfl); (focus rfl); (focus rfl); (focus exact updD); (focus assumption))
  | exact True.intro | refine stpH ?_ | refine two ?_ ?_ | refine allc fun c_ => ?_
  | (refine imp fun hc => ?_) <;> try exact cx1 hc
  | refine all fun v_ => ?_)
 refine ⟨(i + 1, seen ++ [r.sets[i].var]), ⟨by dsimp only; omega, h4⟩, by dsimp only; omega, VS.take (by exact takeD) ?_⟩
 exact leD
theorem ruleFault (G : List (Nat × List D)) (r : Ru) (vars : Int) (hv : 0 ≤ vars ∧ vars ≤ 1000) : ACr Tryz.prog G 121 [ruA r, .int vars] (.int (ruleF r vars)) := by
 refine AC_ofV (ts := [4]) Tryz.f121.ntmps Tryz.func121 rfl rfl rfl (by simp [Tryz.ntmps121]) fun W I => ?_
 by_cases h6 : 6 < r.sets.length
 · repeat' (first
    | refine ca cal_kindFault (kindFault _ _ _ _) ?_
    | refine ca cal_In (In _ _ _ _) ?_
    | exact True.intro | refine stpH ?_ | refine two ?_ ?_ | refine allc fun c_ => ?_
    | (refine imp fun hc => ?_) <;> try exact cx1 hc
    | refine all fun v_ => ?_)
   refine retv (VS.drop (List.nil_sublist _)) ?_
   ((with_reducible apply rq1); rfl; rfl)
   exact ret_eq (by rw [ruleF, if_pos h6])
 repeat' (first
  | refine ca cal_kindFault (kindFault _ _ _ _) ?_
  | refine ca cal_In (In _ _ _ _) ?_
  | exact True.intro | refine stpH ?_ | refine two ?_ ?_ | refine allc fun c_ => ?_
  | (refine imp fun hc => ?_) <;> try exact cx1 hc
  | refine all fun v_ => ?_)
 rename Nat => bg
 refine J_loopV (X := Nat × Int) (fun y => [(1, .int vars), (2, .val (.pointer (some ⟨bg, 0, none⟩))), (5, .int y.2), (6, .int y.1)]) (fun y => [.cells bg 72 [.d (opsD r.guard), .d (setsD r.sets)]]) (fun y => y.1 ≤ r.sets.length ∧ ruleF r vars = if y.2 ≠ 0 then y.2 else setsE vars (r.sets.drop y.1) ((r.sets.take y.1).map St.var)) (fun y => r.sets.length - y.1) (0, kindF r.guard vars true) ⟨Nat.zero_le _, by rw [ruleF, if_neg h6]; rfl⟩ (VS.of_le ?_) ?_
 · exact leD
 rintro ⟨i, e⟩ ⟨h1, h4⟩
 dsimp only at h1 h4 ⊢
 by_cases he : e ≠ 0
 · rw [if_pos he] at h4
   repeat' (first
    | refine ca cal_kindFault (kindFault _ _ _ _) ?_
    | refine ca cal_In (In _ _ _ _) ?_
    | exact True.intro | refine stpH ?_ | refine two ?_ ?_ | refine allc fun c_ => ?_
    | (refine imp fun hc => ?_) <;> try exact cx1 hc
    | refine all fun v_ => ?_)
   all_goals
    refine retv (VS.drop (List.nil_sublist _)) ?_
    ((with_reducible apply rq1); rfl; rfl)
    exact ret_eq (by rw [h4])
 rw [if_neg he] at h4
 obtain rfl : e = 0 := by omega
 by_cases hi : ¬ i < r.sets.length
 · rw [setsE_end vars _ i (by omega)] at h4
   repeat' (first
    | refine ca cal_kindFault (kindFault _ _ _ _) ?_
    | refine ca cal_In (In _ _ _ _) ?_
    | exact True.intro | refine stpH ?_ | refine two ?_ ?_ | refine allc fun c_ => ?_
    | (refine imp fun hc => ?_) <;> try exact cx1 hc
    | refine all fun v_ => ?_)
   refine retv (VS.drop (List.nil_sublist _)) ?_
   ((with_reducible apply rq1); rfl; rfl)
   exact ret_eq (by rw [h4])
 replace hi := Decidable.not_not.1 hi
 rw [setsE_at vars _ i hi] at h4
 have hmem : ∀ x, x ∈ (r.sets.take i).map St.var ↔ ∃ j, ∃ h : j < r.sets.length, j < i ∧ r.sets[j].var = x := fun x => by
  rw [List.mem_map]
  constructor
  · rintro ⟨v, hv, rfl⟩
    obtain ⟨j, hj, rfl⟩ := List.getElem_of_mem hv
    rw [List.length_take] at hj
    exact ⟨j, by omega, by omega, by simp⟩
  · rintro ⟨j, hj, hji, rfl⟩
    exact ⟨r.sets[j], by rw [List.mem_take_iff_getElem]; exact ⟨j, by omega, rfl⟩, rfl⟩
 by_cases c1 : ¬ (0 ≤ r.sets[i].var ∧ r.sets[i].var < vars)
 · rw [if_pos c1] at h4
   repeat' (first
    | refine ca cal_kindFault (kindFault _ _ _ _) ?_
    | refine ca cal_In (In _ _ _ _) ?_
    | exact True.intro | refine stpH ?_ | refine two ?_ ?_ | refine allc fun c_ => ?_
    | (refine imp fun hc => ?_) <;> try exact cx1 hc
    | refine all fun v_ => ?_)
   refine retv (VS.drop (List.nil_sublist _)) ?_
   ((with_reducible apply rq1); rfl; rfl)
   exact ret_eq (by rw [h4])
 rw [if_neg c1] at h4
 repeat' (first
  | refine ca cal_kindFault (kindFault _ _ _ _) ?_
  | refine ca cal_In (In _ _ _ _) ?_
  | exact True.intro | refine stpH ?_ | refine two ?_ ?_ | refine allc fun c_ => ?_
  | (refine imp fun hc => ?_) <;> try exact cx1 hc
  | refine all fun v_ => ?_)
 refine J_loopV (X := Nat) (fun k => [(1, .int vars), (2, .val (.pointer (some ⟨bg, 0, none⟩))), (6, .int i), (7, .val (.pointer (some ⟨v_, 0, none⟩))), (8, .int k)]) (fun _ => [.cells v_ 75 [.int r.sets[i].var, .d (opsD r.sets[i].val)], .cells bg 72 [.d (opsD r.guard), .d (setsD r.sets)]]) (fun k => k ≤ i ∧ ∀ j (h : j < r.sets.length), j < k → r.sets[j].var ≠ r.sets[i].var) (fun k => i - k) 0 ⟨Nat.zero_le _, fun _ _ h => absurd h (Nat.not_lt_zero _)⟩ (VS.of_le ?_) ?_
 · exact leD
 rintro k ⟨k1, k2⟩
 by_cases hk : k < i
 · have hkl : k < r.sets.length := by omega
   by_cases c2 : r.sets[k].var = r.sets[i].var
   · rw [if_pos ((hmem _).2 ⟨k, hkl, hk, c2⟩)] at h4
     repeat' (first
      | refine ca cal_kindFault (kindFault _ _ _ _) ?_
      | refine ca cal_In (In _ _ _ _) ?_
      | exact True.intro | refine stpH ?_ | refine two ?_ ?_ | refine allc fun c_ => ?_
      | (refine imp fun hc => ?_) <;> try exact cx1 hc
      | refine all fun v_ => ?_)
     refine retv (VS.drop (List.nil_sublist _)) ?_
     ((with_reducible apply rq1); rfl; rfl)
     exact ret_eq (by rw [h4])
   · repeat' (first
      | refine ca cal_kindFault (kindFault _ _ _ _) ?_
      | refine ca cal_In (In _ _ _ _) ?_
      | exact True.intro | refine stpH ?_ | refine two ?_ ?_ | refine allc fun c_ => ?_
      | (refine imp fun hc => ?_) <;> try exact cx1 hc
      | refine all fun v_ => ?_)
     refine ⟨k + 1, ⟨by omega, fun j hj hjk => ?_⟩, by omega, VS.of_le ?_⟩
     · by_cases e : j = k
       · subst e; exact c2
       · exact k2 j hj (by omega)
     · exact leD
 have c2 : r.sets[i].var ∉ (r.sets.take i).map St.var := fun h => by
  obtain ⟨j, hj, hji, e⟩ := (hmem _).1 h
  exact k2 j hj (by omega) e
 rw [if_neg c2] at h4
 repeat' (first
  | refine ca cal_kindFault (kindFault _ _ _ _) ?_
  | refine ca cal_In (In _ _ _ _) ?_
  | exact True.intro | refine stpH ?_ | refine two ?_ ?_ | refine allc fun c_ => ?_
  | (refine imp fun hc => ?_) <;> try exact cx1 hc
  | refine all fun v_ => ?_)
 refine ⟨(i + 1, kindF r.sets[i].val vars false), ⟨by dsimp only; omega, ?_⟩, by dsimp only; omega, VS.trans (VS.drop (h' := [.cells bg 72 [.d (opsD r.guard), .d (setsD r.sets)]]) (by exact sublD)) (VS.of_le ?_)⟩
 · dsimp only
   rw [h4, List.take_succ_eq_append_getElem hi, List.map_append]
   rfl
 · exact leD
theorem MdCheck (m : Md) : ACr Tryz.prog GP 89 [mdA m] (.int (modelF m)) := by
 refine AC_ofV (ts := [2]) Tryz.f89.ntmps Tryz.func89 rfl rfl rfl (by simp [Tryz.ntmps89]) fun W I => ?_
 by_cases c1 : varsF m.vars ≠ 0
 · repeat' (first
    | refine ca cal_variables (variables _ _) ?_
    | refine ca cal_rule (rule _ _) ?_
    | exact True.intro | refine stpH ?_ | refine two ?_ ?_ | refine allc fun c_ => ?_
    | (refine imp fun hc => ?_) <;> try exact cx1 hc
    | refine all fun v_ => ?_)
   refine retv (VS.drop (List.nil_sublist _)) ?_
   ((with_reducible apply rq1); rfl; rfl)
   exact ret_eq (by rw [modelF, if_pos c1])
 by_cases c2 : 12 < m.rules.length
 · repeat' (first
    | refine ca cal_variables (variables _ _) ?_
    | refine ca cal_rule (rule _ _) ?_
    | exact True.intro | refine stpH ?_ | refine two ?_ ?_ | refine allc fun c_ => ?_
    | (refine imp fun hc => ?_) <;> try exact cx1 hc
    | refine all fun v_ => ?_)
   refine retv (VS.drop (List.nil_sublist _)) ?_
   ((with_reducible apply rq1); rfl; rfl)
   exact ret_eq (by rw [modelF, if_neg c1, if_pos c2])
 have hF : modelF m = rulesE m.vars.length m.rules := by rw [modelF, if_neg c1, if_neg c2]
 repeat' (first
  | refine ca cal_variables (variables _ _) ?_
  | refine ca cal_rule (rule _ _) ?_
  | exact True.intro | refine stpH ?_ | refine two ?_ ?_ | refine allc fun c_ => ?_
  | (refine imp fun hc => ?_) <;> try exact cx1 hc
  | refine all fun v_ => ?_)
 refine J_loopV (X := Nat) (fun i => [(1, .val (.pointer (some ⟨v_, 0, none⟩))), (18, .d (rulesD m.rules)), (19, .int m.rules.length), (20, .int i)]) (fun _ => [.cells v_ 25 [.d (varsD m.vars), .d (rulesD m.rules)]]) (fun i => i ≤ m.rules.length ∧ modelF m = rulesE m.vars.length (m.rules.drop i)) (fun i => m.rules.length - i) 0 ⟨Nat.zero_le _, hF⟩ (VS.of_le ?_) ?_
 · exact leD
 rintro i ⟨h1, h4⟩
 by_cases hi : ¬ i < m.rules.length
 · rw [rulesE_end _ _ i (by omega)] at h4
   repeat' (first
    | refine ca cal_variables (variables _ _) ?_
    | refine ca cal_rule (rule _ _) ?_
    | exact True.intro | refine stpH ?_ | refine two ?_ ?_ | refine allc fun c_ => ?_
    | (refine imp fun hc => ?_) <;> try exact cx1 hc
    | refine all fun v_ => ?_)
   refine retv (VS.drop (List.nil_sublist _)) ?_
   ((with_reducible apply rq1); rfl; rfl)
   exact ret_eq (by rw [h4])
 replace hi := Decidable.not_not.1 hi
 rw [rulesE_at _ _ i hi] at h4
 by_cases c3 : ruleF m.rules[i] m.vars.length ≠ 0
 · rw [if_pos c3] at h4
   repeat' (first
    | refine ca cal_variables (variables _ _) ?_
    | refine ca cal_rule (rule _ _) ?_
    | exact True.intro | refine stpH ?_ | refine two ?_ ?_ | refine allc fun c_ => ?_
    | (refine imp fun hc => ?_) <;> try exact cx1 hc
    | refine all fun v_ => ?_)
   refine retv (VS.drop (List.nil_sublist _)) ?_
   ((with_reducible apply rq1); rfl; rfl)
   exact ret_eq (by rw [h4])
 rw [if_neg c3] at h4
 rename_i bm
 repeat' (first
  | refine ca cal_variables (variables _ _) ?_
  | refine ca cal_rule (rule _ _) ?_
  | exact True.intro | refine stpH ?_ | refine two ?_ ?_ | refine allc fun c_ => ?_
  | (refine imp fun hc => ?_) <;> try exact cx1 hc
  | refine all fun v_ => ?_)
 refine ⟨i + 1, ⟨by omega, h4⟩, by omega, VS.take (by exact takeD) ?_⟩
 exact leD
theorem varsF_len {l : List Vr} (h : varsF l = 0) : l.length ≤ 6 := by
 unfold varsF at h
 by_cases c : 6 < l.length
 · rw [if_pos c] at h; cases h
 · omega
theorem ModelFault (G : List (Nat × List D)) (m : Md) : ACr Tryz.prog G 81 [mdA m] (.int (modelF m)) := by
 refine AC_ofV (ts := [2]) Tryz.f81.ntmps Tryz.func81 rfl rfl rfl (by simp [Tryz.ntmps81]) fun W I => ?_
 by_cases c1 : varsF m.vars ≠ 0
 · repeat' (first
    | refine ca cal_variablesFault (variablesFault _ _) ?_
    | exact True.intro | refine stpH ?_ | refine two ?_ ?_ | refine allc fun c_ => ?_
    | (refine imp fun hc => ?_) <;> try exact cx1 hc
    | refine all fun v_ => ?_)
   refine retv (VS.drop (List.nil_sublist _)) ?_
   ((with_reducible apply rq1); rfl; rfl)
   exact ret_eq (by rw [modelF, if_pos c1])
 by_cases c2 : 12 < m.rules.length
 · repeat' (first
    | refine ca cal_variablesFault (variablesFault _ _) ?_
    | exact True.intro | refine stpH ?_ | refine two ?_ ?_ | refine allc fun c_ => ?_
    | (refine imp fun hc => ?_) <;> try exact cx1 hc
    | refine all fun v_ => ?_)
   refine retv (VS.drop (List.nil_sublist _)) ?_
   ((with_reducible apply rq1); rfl; rfl)
   exact ret_eq (by rw [modelF, if_neg c1, if_pos c2])
 have hF : modelF m = rulesE m.vars.length m.rules := by rw [modelF, if_neg c1, if_neg c2]
 have hvl := varsF_len (show varsF m.vars = 0 by omega)
 repeat' (first
  | refine ca cal_variablesFault (variablesFault _ _) ?_
  | exact True.intro | refine stpH ?_ | refine two ?_ ?_ | refine allc fun c_ => ?_
  | (refine imp fun hc => ?_) <;> try exact cx1 hc
  | refine all fun v_ => ?_)
 rename Nat => bm
 refine J_loopV (X := Nat × Int) (fun y => [(1, .val (.pointer (some ⟨bm, 0, none⟩))), (3, .int y.2), (4, .int y.1)]) (fun _ => [.cells bm 25 [.d (varsD m.vars), .d (rulesD m.rules)]]) (fun y => y.1 ≤ m.rules.length ∧ modelF m = if y.2 ≠ 0 then y.2 else rulesE m.vars.length (m.rules.drop y.1)) (fun y => m.rules.length - y.1) (0, varsF m.vars) ⟨Nat.zero_le _, by rw [if_neg c1]; exact hF⟩ (VS.of_le ?_) ?_
 · exact leD
 rintro ⟨i, e⟩ ⟨h1, h4⟩
 dsimp only at h1 h4 ⊢
 by_cases he : e ≠ 0
 · rw [if_pos he] at h4
   repeat' (first
    | refine ca cal_variablesFault (variablesFault _ _) ?_
    | exact True.intro | refine stpH ?_ | refine two ?_ ?_ | refine allc fun c_ => ?_
    | (refine imp fun hc => ?_) <;> try exact cx1 hc
    | refine all fun v_ => ?_)
   all_goals
    refine retv (VS.drop (List.nil_sublist _)) ?_
    ((with_reducible apply rq1); rfl; rfl)
    exact ret_eq (by rw [h4])
 rw [if_neg he] at h4
 obtain rfl : e = 0 := by omega
 by_cases hi : ¬ i < m.rules.length
 · rw [rulesE_end _ _ i (by omega)] at h4
   repeat' (first
    | refine ca cal_variablesFault (variablesFault _ _) ?_
    | exact True.intro | refine stpH ?_ | refine two ?_ ?_ | refine allc fun c_ => ?_
    | (refine imp fun hc => ?_) <;> try exact cx1 hc
    | refine all fun v_ => ?_)
   refine retv (VS.drop (List.nil_sublist _)) ?_
   ((with_reducible apply rq1); rfl; rfl)
   exact ret_eq (by rw [h4])
 replace hi := Decidable.not_not.1 hi
 rw [rulesE_at _ _ i hi] at h4
 have E := ruleFault G m.rules[i] m.vars.length ⟨by omega, by omega⟩
 repeat' (first
  | refine ca cal_ruleFault (E) ?_
  | exact True.intro | refine stpH ?_ | refine two ?_ ?_ | refine allc fun c_ => ?_
  | (refine imp fun hc => ?_) <;> try exact cx1 hc
  | refine all fun v_ => ?_)
 refine ⟨(i + 1, ruleF m.rules[i] m.vars.length), ⟨by dsimp only; omega, h4⟩, by dsimp only; omega, VS.of_le ?_⟩
 exact leD
end Go.Proofs.YtajnpfgelpkijaaGreatDoor
