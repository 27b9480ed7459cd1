/- A bundle of this claim's own texts: M2. -/
import Derived.Test.YtajnpfgelpkijaaGreatDoorZ6
set_option linter.unusedVariables false
set_option linter.unusedSimpArgs false
set_option maxRecDepth 100000
set_option maxHeartbeats 4000000
namespace Go.Proofs.YtajnpfgelpkijaaGreatDoor
open Go Go.Av Go.Sp

theorem cal_variables : Cal Tryz.prog 124 := Cal.of Tryz.func124 (by kernel_rfl) (by kernel_rfl)
theorem cal_variablesFault : Cal Tryz.prog 120 := Cal.of Tryz.func120 (by kernel_rfl) (by kernel_rfl)
theorem variables (G : List (Nat × List D)) (l : List Vr) : ACr Tryz.prog G 124 [.d (varsD l)] (.int (varsF l)) := by
 refine AC_ofV (ts := [2]) Tryz.f124.ntmps Tryz.func124 rfl rfl rfl (by simp [Tryz.ntmps124]) fun W I => ?_
 by_cases h6 : 6 < l.length
 · repeat' (first
    | refine ca cal_name (name _ _) ?_
    | ((with_reducible apply (jmkset Value.string)); (focus rfl))
    | ((with_reducible apply jp); (focus ((with_reducible apply (pu_lookS keyK_string)); rfl; rfl; rfl; rfl; (focus (with_reducible exact ElC.h)); (focus exact memD))); (focus rfl))
    | ((with_reducible apply (js_putS keyK_string)); (focus rfl); (focus rfl); (focus rfl); (focus rfl); (focus rfl); (focus exact updD); (focus assumption))
    | exact True.intro | refine stpH ?_ | refine two ?_ ?_ | refine allc fun c_ => ?_
    | (refine imp fun hc => ?_) <;> try exact cx1 hc
    | refine all fun v_ => ?_)
   refine retv (VS.drop (List.nil_sublist _)) ?_
   ((with_reducible apply rq1); rfl; rfl)
   exact ret_eq (by rw [varsF, if_pos h6])
 have hF : varsF l = varsE l [] 1 := if_neg h6
 repeat' (first
  | refine ca cal_name (name _ _) ?_
  | ((with_reducible apply (jmkset Value.string)); (focus rfl))
  | ((with_reducible apply jp); (focus ((with_reducible apply (pu_lookS keyK_string)); rfl; rfl; rfl; rfl; (focus (with_reducible exact ElC.h)); (focus exact memD))); (focus rfl))
  | ((with_reducible apply (js_putS keyK_string)); (focus rfl); (focus rfl); (focus rfl); (focus rfl); (focus rfl); (focus exact updD); (focus assumption))
  | exact True.intro | refine stpH ?_ | refine two ?_ ?_ | refine allc fun c_ => ?_
  | (refine imp fun hc => ?_) <;> try exact cx1 hc
  | refine all fun v_ => ?_)
 refine J_loopV (X := Nat × List ByteArray × Int) (fun y => [(3, .val (.map (some v_))), (4, .int y.2.2), (13, .d (varsD l)), (14, .int l.length), (15, .int y.1)]) (fun y => [.raw v_ (setO Value.string y.2.1)]) (fun y => y.1 ≤ l.length ∧ 1 ≤ y.2.2 ∧ y.2.2 ≤ 4096 ∧ varsF l = varsE (l.drop y.1) y.2.1 y.2.2) (fun y => l.length - y.1) (0, [], 1) ⟨Nat.zero_le _, by decide, by decide, hF⟩ (VS.of_le ?_) ?_
 · exact leD
 rintro ⟨i, seen, n⟩ ⟨h1, h2, h3, h4⟩
 dsimp only at h1 h2 h3 h4 ⊢
 by_cases hi : ¬ i < l.length
 · rw [varsE_end l i (by omega)] at h4
   repeat' (first
    | refine ca cal_name (name _ _) ?_
    | ((with_reducible apply (jmkset Value.string)); (focus rfl))
    | ((with_reducible apply jp); (focus ((with_reducible apply (pu_lookS keyK_string)); rfl; rfl; rfl; rfl; (focus (with_reducible exact ElC.h)); (focus exact memD))); (focus rfl))
    | ((with_reducible apply (js_putS keyK_string)); (focus rfl); (focus rfl); (focus rfl); (focus rfl); (focus rfl); (focus exact updD); (focus assumption))
    | exact True.intro | refine stpH ?_ | refine two ?_ ?_ | refine allc fun c_ => ?_
    | (refine imp fun hc => ?_) <;> try exact cx1 hc
    | refine all fun v_ => ?_)
   refine retv (VS.drop (List.nil_sublist _)) ?_
   ((with_reducible apply rq1); rfl; rfl)
   exact ret_eq (by rw [h4])
 replace hi := Decidable.not_not.1 hi
 rw [varsE_at l i hi] at h4
 by_cases c1 : ¬ nameP l[i].name
 · rw [if_pos c1] at h4
   repeat' (first
    | refine ca cal_name (name _ _) ?_
    | ((with_reducible apply (jmkset Value.string)); (focus rfl))
    | ((with_reducible apply jp); (focus ((with_reducible apply (pu_lookS keyK_string)); rfl; rfl; rfl; rfl; (focus (with_reducible exact ElC.h)); (focus exact memD))); (focus rfl))
    | ((with_reducible apply (js_putS keyK_string)); (focus rfl); (focus rfl); (focus rfl); (focus rfl); (focus rfl); (focus exact updD); (focus assumption))
    | exact True.intro | refine stpH ?_ | refine two ?_ ?_ | refine allc fun c_ => ?_
    | (refine imp fun hc => ?_) <;> try exact cx1 hc
    | refine all fun v_ => ?_)
   refine retv (VS.drop (List.nil_sublist _)) ?_
   ((with_reducible apply rq1); rfl; rfl)
   exact ret_eq (by rw [h4])
 rw [if_neg c1] at h4
 by_cases c2 : l[i].name ∈ seen
 · rw [if_pos c2] at h4
   repeat' (first
    | refine ca cal_name (name _ _) ?_
    | ((with_reducible apply (jmkset Value.string)); (focus rfl))
    | ((with_reducible apply jp); (focus ((with_reducible apply (pu_lookS keyK_string)); rfl; rfl; rfl; rfl; (focus (with_reducible exact ElC.h)); (focus exact memD))); (focus rfl))
    | ((with_reducible apply (js_putS keyK_string)); (focus rfl); (focus rfl); (focus rfl); (focus rfl); (focus rfl); (focus exact updD); (focus assumption))
    | exact True.intro | refine stpH ?_ | refine two ?_ ?_ | refine allc fun c_ => ?_
    | (refine imp fun hc => ?_) <;> try exact cx1 hc
    | refine all fun v_ => ?_)
   refine retv (VS.drop (List.nil_sublist _)) ?_
   ((with_reducible apply rq1); rfl; rfl)
   exact ret_eq (by rw [h4])
 rw [if_neg c2] at h4
 by_cases c3 : ¬ rangeV l[i]
 · rw [if_pos c3] at h4
   have c3' := c3
   unfold rangeV at c3'
   by_cases d1 : l[i].low < -1000
   · repeat' (first
      | refine ca cal_name (name _ _) ?_
      | ((with_reducible apply (jmkset Value.string)); (focus rfl))
      | ((with_reducible apply jp); (focus ((with_reducible apply (pu_lookS keyK_string)); rfl; rfl; rfl; rfl; (focus (with_reducible exact ElC.h)); (focus exact memD))); (focus rfl))
      | ((with_reducible apply (js_putS keyK_string)); (focus rfl); (focus rfl); (focus rfl); (focus rfl); (focus rfl); (focus exact updD); (focus assumption))
      | exact True.intro | refine stpH ?_ | refine two ?_ ?_ | refine allc fun c_ => ?_
      | (refine imp fun hc => ?_) <;> try exact cx1 hc
      | refine all fun v_ => ?_)
     refine retv (VS.drop (List.nil_sublist _)) ?_
     ((with_reducible apply rq1); rfl; rfl)
     exact ret_eq (by rw [h4])
   by_cases d2 : 1000 < l[i].high
   · repeat' (first
      | refine ca cal_name (name _ _) ?_
      | ((with_reducible apply (jmkset Value.string)); (focus rfl))
      | ((with_reducible apply jp); (focus ((with_reducible apply (pu_lookS keyK_string)); rfl; rfl; rfl; rfl; (focus (with_reducible exact ElC.h)); (focus exact memD))); (focus rfl))
      | ((with_reducible apply (js_putS keyK_string)); (focus rfl); (focus rfl); (focus rfl); (focus rfl); (focus rfl); (focus exact updD); (focus assumption))
      | exact True.intro | refine stpH ?_ | refine two ?_ ?_ | refine allc fun c_ => ?_
      | (refine imp fun hc => ?_) <;> try exact cx1 hc
      | refine all fun v_ => ?_)
     refine retv (VS.drop (List.nil_sublist _)) ?_
     ((with_reducible apply rq1); rfl; rfl)
     exact ret_eq (by rw [h4])
   by_cases d3 : l[i].high < l[i].low
   · repeat' (first
      | refine ca cal_name (name _ _) ?_
      | ((with_reducible apply (jmkset Value.string)); (focus rfl))
      | ((with_reducible apply jp); (focus ((with_reducible apply (pu_lookS keyK_string)); rfl; rfl; rfl; rfl; (focus (with_reducible exact ElC.h)); (focus exact memD))); (focus rfl))
      | ((with_reducible apply (js_putS keyK_string)); (focus rfl); (focus rfl); (focus rfl); (focus rfl); (focus rfl); (focus exact updD); (focus assumption))
      | exact True.intro | refine stpH ?_ | refine two ?_ ?_ | refine allc fun c_ => ?_
      | (refine imp fun hc => ?_) <;> try exact cx1 hc
      | refine all fun v_ => ?_)
     refine retv (VS.drop (List.nil_sublist _)) ?_
     ((with_reducible apply rq1); rfl; rfl)
     exact ret_eq (by rw [h4])
   by_cases d4 : l[i].init < l[i].low
   · repeat' (first
      | refine ca cal_name (name _ _) ?_
      | ((with_reducible apply (jmkset Value.string)); (focus rfl))
      | ((with_reducible apply jp); (focus ((with_reducible apply (pu_lookS keyK_string)); rfl; rfl; rfl; rfl; (focus (with_reducible exact ElC.h)); (focus exact memD))); (focus rfl))
      | ((with_reducible apply (js_putS keyK_string)); (focus rfl); (focus rfl); (focus rfl); (focus rfl); (focus rfl); (focus exact updD); (focus assumption))
      | exact True.intro | refine stpH ?_ | refine two ?_ ?_ | refine allc fun c_ => ?_
      | (refine imp fun hc => ?_) <;> try exact cx1 hc
      | refine all fun v_ => ?_)
     refine retv (VS.drop (List.nil_sublist _)) ?_
     ((with_reducible apply rq1); rfl; rfl)
     exact ret_eq (by rw [h4])
   · have d5 : l[i].high < l[i].init := by omega
     repeat' (first
      | refine ca cal_name (name _ _) ?_
      | ((with_reducible apply (jmkset Value.string)); (focus rfl))
      | ((with_reducible apply jp); (focus ((with_reducible apply (pu_lookS keyK_string)); rfl; rfl; rfl; rfl; (focus (with_reducible exact ElC.h)); (focus exact memD))); (focus rfl))
      | ((with_reducible apply (js_putS keyK_string)); (focus rfl); (focus rfl); (focus rfl); (focus rfl); (focus rfl); (focus exact updD); (focus assumption))
      | exact True.intro | refine stpH ?_ | refine two ?_ ?_ | refine allc fun c_ => ?_
      | (refine imp fun hc => ?_) <;> try exact cx1 hc
      | refine all fun v_ => ?_)
     refine retv (VS.drop (List.nil_sublist _)) ?_
     ((with_reducible apply rq1); rfl; rfl)
     exact ret_eq (by rw [h4])
 rw [if_neg c3] at h4
 obtain ⟨d1, d2, d3, d4, d5⟩ := Decidable.not_not.1 c3
 clear c3
 have hsp : spanV l[i] = l[i].high - l[i].low + 1 := rfl
 by_cases c4 : 64 < spanV l[i]
 · rw [if_pos c4] at h4
   repeat' (first
    | refine ca cal_name (name _ _) ?_
    | ((with_reducible apply (jmkset Value.string)); (focus rfl))
    | ((with_reducible apply jp); (focus ((with_reducible apply (pu_lookS keyK_string)); rfl; rfl; rfl; rfl; (focus (with_reducible exact ElC.h)); (focus exact memD))); (focus rfl))
    | ((with_reducible apply (js_putS keyK_string)); (focus rfl); (focus rfl); (focus rfl); (focus rfl); (focus rfl); (focus exact updD); (focus assumption))
    | exact True.intro | refine stpH ?_ | refine two ?_ ?_ | refine allc fun c_ => ?_
    | (refine imp fun hc => ?_) <;> try exact cx1 hc
    | refine all fun v_ => ?_)
   refine retv (VS.drop (List.nil_sublist _)) ?_
   ((with_reducible apply rq1); rfl; rfl)
   exact ret_eq (by rw [h4])
 rw [if_neg c4] at h4
 have hpos : 1 ≤ n * spanV l[i] := Int.le_trans (by omega) (Int.mul_le_mul h2 (show (1 : Int) ≤ spanV l[i] by omega) (by omega) (by omega))
 have hbd : n * spanV l[i] ≤ 4096 * 64 := Int.mul_le_mul h3 (by omega) (by omega) (by omega)
 rw [hsp] at hpos hbd h4
 have hin : inI64 (n * (l[i].high - l[i].low + 1)) := ⟨by omega, by omega⟩
 by_cases c5 : 4096 < n * (l[i].high - l[i].low + 1)
 · rw [if_pos c5] at h4
   repeat' (first
    | refine ca cal_name (name _ _) ?_
    | ((with_reducible apply (jmkset Value.string)); (focus rfl))
    | ((with_reducible apply jp); (focus ((with_reducible apply (pu_lookS keyK_string)); rfl; rfl; rfl; rfl; (focus (with_reducible exact ElC.h)); (focus exact memD))); (focus rfl))
    | ((with_reducible apply (js_putS keyK_string)); (focus rfl); (focus rfl); (focus rfl); (focus rfl); (focus rfl); (focus exact updD); (focus assumption))
    | exact True.intro | refine stpH ?_ | refine two ?_ ?_ | refine allc fun c_ => ?_
    | (refine imp fun hc => ?_) <;> try exact cx1 hc
    | refine all fun v_ => ?_)
   refine retv (VS.drop (List.nil_sublist _)) ?_
   ((with_reducible apply rq1); rfl; rfl)
   exact ret_eq (by rw [h4])
 rw [if_neg c5] at h4
 repeat' (first
  | refine ca cal_name (name _ _) ?_
  | ((with_reducible apply (jmkset Value.string)); (focus rfl))
  | ((with_reducible apply jp); (focus ((with_reducible apply (pu_lookS keyK_string)); rfl; rfl; rfl; rfl; (focus (with_reducible exact ElC.h)); (focus exact memD))); (focus rfl))
  | ((with_reducible apply (js_putS keyK_string)); (focus rfl); (focus rfl); (focus rfl); (focus rfl); (focus rfl); (focus exact updD); (focus assumption))
  | exact True.intro | refine stpH ?_ | refine two ?_ ?_ | refine allc fun c_ => ?_
  | (refine imp fun hc => ?_) <;> try exact cx1 hc
  | refine all fun v_ => ?_)
 refine ⟨(i + 1, seen ++ [l[i].name], n * (l[i].high - l[i].low + 1)), ⟨by dsimp only; omega, hpos, by dsimp only; omega, h4⟩, by dsimp only; omega, VS.take (by exact takeD) ?_⟩
 exact leD
theorem variablesFault (G : List (Nat × List D)) (l : List Vr) : ACr Tryz.prog G 120 [.d (varsD l)] (.int (varsF l)) := by
 refine AC_ofV (ts := [2]) Tryz.f120.ntmps Tryz.func120 rfl rfl rfl (by simp [Tryz.ntmps120]) fun W I => ?_
 by_cases h6 : 6 < l.length
 · repeat' (first
    | exact True.intro | refine stpH ?_ | refine two ?_ ?_ | refine allc fun c_ => ?_
    | (refine imp fun hc => ?_) <;> try exact cx1 hc
    | refine all fun v_ => ?_)
   refine retv (VS.drop (List.nil_sublist _)) ?_
   ((with_reducible apply rq1); rfl; rfl)
   exact ret_eq (by rw [varsF, if_pos h6])
 have hF : varsF l = varsE l [] 1 := if_neg h6
 repeat' (first
  | exact True.intro | refine stpH ?_ | refine two ?_ ?_ | refine allc fun c_ => ?_
  | (refine imp fun hc => ?_) <;> try exact cx1 hc
  | refine all fun v_ => ?_)
 refine J_loopV (X := Nat × Int) (fun y => [(0, .d (varsD l)), (3, .int y.2), (4, .int y.1)]) (fun _ => []) (fun y => y.1 ≤ l.length ∧ 1 ≤ y.2 ∧ y.2 ≤ 4096 ∧ varsF l = varsE (l.drop y.1) ((l.take y.1).map Vr.name) y.2) (fun y => l.length - y.1) (0, 1) ⟨Nat.zero_le _, by decide, by decide, hF⟩ (VS.of_le ?_) ?_
 · exact leD
 rintro ⟨i, n⟩ ⟨h1, h2, h3, h4⟩
 dsimp only at h1 h2 h3 h4 ⊢
 by_cases hi : ¬ i < l.length
 · rw [varsE_end l i (by omega)] at h4
   repeat' (first
    | exact True.intro | refine stpH ?_ | refine two ?_ ?_ | refine allc fun c_ => ?_
    | (refine imp fun hc => ?_) <;> try exact cx1 hc
    | refine all fun v_ => ?_)
   refine retv (VS.drop (List.nil_sublist _)) ?_
   ((with_reducible apply rq1); rfl; rfl)
   exact ret_eq (by rw [h4])
 replace hi := Decidable.not_not.1 hi
 rw [varsE_at l i hi] at h4
 have hmem : ∀ x, x ∈ (l.take i).map Vr.name ↔ ∃ j, ∃ h : j < l.length, j < i ∧ l[j].name = x := fun x => by
  rw [List.mem_map]
  constructor
  · rintro ⟨v, hv, rfl⟩
    obtain ⟨j, hj, rfl⟩ := List.getElem_of_mem hv
    rw [List.length_take] at hj
    exact ⟨j, by omega, by omega, by simp⟩
  · rintro ⟨j, hj, hji, rfl⟩
    exact ⟨l[j], by rw [List.mem_take_iff_getElem]; exact ⟨j, by omega, rfl⟩, rfl⟩
 by_cases c1 : ¬ nameP l[i].name
 · rw [if_pos c1] at h4
   have e1 := ACr_false (NameMay G l[i].name) c1
   repeat' (first
    | refine ca cal_NameMay (e1) ?_
    | exact True.intro | refine stpH ?_ | refine two ?_ ?_ | refine allc fun c_ => ?_
    | (refine imp fun hc => ?_) <;> try exact cx1 hc
    | refine all fun v_ => ?_)
   refine retv (VS.drop (List.nil_sublist _)) ?_
   ((with_reducible apply rq1); rfl; rfl)
   exact ret_eq (by rw [h4])
 have e1 := ACr_true (NameMay G l[i].name) (Decidable.not_not.1 c1)
 rw [if_neg c1] at h4
 repeat' (first
  | refine ca cal_NameMay (e1) ?_
  | exact True.intro | refine stpH ?_ | refine two ?_ ?_ | refine allc fun c_ => ?_
  | (refine imp fun hc => ?_) <;> try exact cx1 hc
  | refine all fun v_ => ?_)
 refine J_loopV (X := Nat) (fun k => [(0, .d (varsD l)), (3, .int n), (4, .int i), (5, .val (.pointer (some ⟨v_, 0, none⟩))), (6, .int k)]) (fun _ => [.cells v_ 68 [.val (.string l[i].name), .int l[i].low, .int l[i].high, .int l[i].init]]) (fun k => k ≤ i ∧ ∀ j (h : j < l.length), j < k → l[j].name ≠ l[i].name) (fun k => i - k) 0 ⟨Nat.zero_le _, fun _ _ h => absurd h (Nat.not_lt_zero _)⟩ (VS.of_le ?_) ?_
 · exact leD
 rintro k ⟨k1, k2⟩
 by_cases hk : k < i
 · have hkl : k < l.length := by omega
   by_cases c2 : l[k].name = l[i].name
   · rw [if_pos ((hmem _).2 ⟨k, hkl, hk, c2⟩)] at h4
     repeat' (first
      | refine ca cal_NameMay (e1) ?_
      | exact True.intro | refine stpH ?_ | refine two ?_ ?_ | refine allc fun c_ => ?_
      | (refine imp fun hc => ?_) <;> try exact cx1 hc
      | refine all fun v_ => ?_)
     all_goals first
      | (refine retv (VS.drop (List.nil_sublist _)) ?_
         ((with_reducible apply rq1); rfl; rfl)
         exact ret_eq (by rw [h4]))
      | (exfalso; rw [(ba_beq _ _).2 c2] at hc; cases hc)
   · repeat' (first
      | refine ca cal_NameMay (e1) ?_
      | exact True.intro | refine stpH ?_ | refine two ?_ ?_ | refine allc fun c_ => ?_
      | (refine imp fun hc => ?_) <;> try exact cx1 hc
      | refine all fun v_ => ?_)
     all_goals first
      | (refine ⟨k + 1, ⟨by omega, fun j hj hjk => ?_⟩, by omega, VS.of_le ?_⟩
         · by_cases e : j = k
           · subst e; exact c2
           · exact k2 j hj (by omega)
         · exact leD)
      | (exfalso; exact c2 ((ba_beq _ _).1 hc))
 have c2 : l[i].name ∉ (l.take i).map Vr.name := fun h => by
  obtain ⟨j, hj, hji, e⟩ := (hmem _).1 h
  exact k2 j hj (by omega) e
 rw [if_neg c2] at h4
 by_cases c3 : ¬ rangeV l[i]
 · rw [if_pos c3] at h4
   have c3' := c3
   unfold rangeV at c3'
   by_cases d1 : ¬ (-1000 ≤ l[i].low ∧ l[i].low ≤ 1000)
   · have e1 := ACr_false (In G l[i].low (-1000) 1000) d1
     repeat' (first
      | refine ca cal_In (e1) ?_
      | exact True.intro | refine stpH ?_ | refine two ?_ ?_ | refine allc fun c_ => ?_
      | (refine imp fun hc => ?_) <;> try exact cx1 hc
      | refine all fun v_ => ?_)
     refine retv (VS.drop (List.nil_sublist _)) ?_
     ((with_reducible apply rq1); rfl; rfl)
     exact ret_eq (by rw [h4])
   have e1 := ACr_true (In G l[i].low (-1000) 1000) (Decidable.not_not.1 d1)
   by_cases d2 : ¬ (l[i].low ≤ l[i].high ∧ l[i].high ≤ 1000)
   · have e2 := ACr_false (In G l[i].high l[i].low 1000) d2
     repeat' (first
      | refine ca cal_In (e1) ?_
      | refine ca cal_In (e2) ?_
      | exact True.intro | refine stpH ?_ | refine two ?_ ?_ | refine allc fun c_ => ?_
      | (refine imp fun hc => ?_) <;> try exact cx1 hc
      | refine all fun v_ => ?_)
     refine retv (VS.drop (List.nil_sublist _)) ?_
     ((with_reducible apply rq1); rfl; rfl)
     exact ret_eq (by rw [h4])
   have e2 := ACr_true (In G l[i].high l[i].low 1000) (Decidable.not_not.1 d2)
   have e3 := ACr_false (In G l[i].init l[i].low l[i].high) (by omega)
   repeat' (first
    | refine ca cal_In (e1) ?_
    | refine ca cal_In (e2) ?_
    | refine ca cal_In (e3) ?_
    | exact True.intro | refine stpH ?_ | refine two ?_ ?_ | refine allc fun c_ => ?_
    | (refine imp fun hc => ?_) <;> try exact cx1 hc
    | refine all fun v_ => ?_)
   refine retv (VS.drop (List.nil_sublist _)) ?_
   ((with_reducible apply rq1); rfl; rfl)
   exact ret_eq (by rw [h4])
 rw [if_neg c3] at h4
 obtain ⟨d1, d2, d3, d4, d5⟩ := Decidable.not_not.1 c3
 clear c3
 have e1 := ACr_true (In G l[i].low (-1000) 1000) (by omega)
 have e2 := ACr_true (In G l[i].high l[i].low 1000) (by omega)
 have e3 := ACr_true (In G l[i].init l[i].low l[i].high) (by omega)
 have hsp : spanV l[i] = l[i].high - l[i].low + 1 := rfl
 have hlo : 1 ≤ spanV l[i] ∧ spanV l[i] ≤ 2001 := by omega
 have hpos : 1 ≤ n * spanV l[i] := Int.le_trans (by omega) (Int.mul_le_mul h2 hlo.1 (by omega) (by omega))
 have hbd : n * spanV l[i] ≤ 4096 * 2001 := Int.mul_le_mul h3 hlo.2 (by omega) (by omega)
 rw [hsp] at hpos hbd h4
 have hin : inI64 (n * (l[i].high - l[i].low + 1)) := ⟨by omega, by omega⟩
 by_cases c4 : 64 < l[i].high - l[i].low + 1
 · rw [if_pos c4] at h4
   repeat' (first
    | refine ca cal_In (e1) ?_
    | refine ca cal_In (e2) ?_
    | refine ca cal_In (e3) ?_
    | exact True.intro | refine stpH ?_ | refine two ?_ ?_ | refine allc fun c_ => ?_
    | (refine imp fun hc => ?_) <;> try exact cx1 hc
    | refine all fun v_ => ?_)
   refine retv (VS.drop (List.nil_sublist _)) ?_
   ((with_reducible apply rq1); rfl; rfl)
   exact ret_eq (by rw [h4])
 rw [if_neg c4] at h4
 by_cases c5 : 4096 < n * (l[i].high - l[i].low + 1)
 · rw [if_pos c5] at h4
   repeat' (first
    | refine ca cal_In (e1) ?_
    | refine ca cal_In (e2) ?_
    | refine ca cal_In (e3) ?_
    | exact True.intro | refine stpH ?_ | refine two ?_ ?_ | refine allc fun c_ => ?_
    | (refine imp fun hc => ?_) <;> try exact cx1 hc
    | refine all fun v_ => ?_)
   refine retv (VS.drop (List.nil_sublist _)) ?_
   ((with_reducible apply rq1); rfl; rfl)
   exact ret_eq (by rw [h4])
 rw [if_neg c5] at h4
 repeat' (first
  | refine ca cal_In (e1) ?_
  | refine ca cal_In (e2) ?_
  | refine ca cal_In (e3) ?_
  | exact True.intro | refine stpH ?_ | refine two ?_ ?_ | refine allc fun c_ => ?_
  | (refine imp fun hc => ?_) <;> try exact cx1 hc
  | refine all fun v_ => ?_)
 refine ⟨(i + 1, n * (l[i].high - l[i].low + 1)), ⟨by dsimp only; omega, hpos, by dsimp only; omega, ?_⟩, by dsimp only; omega, VS.trans (VS.drop (List.nil_sublist _)) (VS.of_le ?_)⟩
 · dsimp only
   rw [h4, List.take_succ_eq_append_getElem hi, List.map_append]
   rfl
 · exact leD
end Go.Proofs.YtajnpfgelpkijaaGreatDoor
