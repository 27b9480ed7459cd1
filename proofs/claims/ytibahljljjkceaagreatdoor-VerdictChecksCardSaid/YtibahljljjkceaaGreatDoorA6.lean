/- A bundle of this claim's own texts: M1. -/
import Derived.Test.YtibahljljjkceaaGreatDoorA2
import Derived.Test.YtibahljljjkceaaGreatDoorA5
set_option linter.unusedVariables false
set_option linter.unusedSimpArgs false
set_option maxRecDepth 100000
set_option maxHeartbeats 4000000
namespace Go.Proofs.YtibahljljjkceaaGreatDoor
open Go Go.Av Go.Sp

theorem Cb : Cal Tryz.prog 204 := Cal.of Tryz.func204 (by kernel_rfl) (by kernel_rfl)
theorem Fq : Cal Tryz.prog 162 := Cal.of Tryz.func162 (by kernel_rfl) (by kernel_rfl)
theorem CH : Cal Tryz.prog 148 := Cal.of Tryz.func148 (by kernel_rfl) (by kernel_rfl)
theorem Ac : Cal Tryz.prog 125 := Cal.of Tryz.func125 (by kernel_rfl) (by kernel_rfl)
theorem name (G : List (Nat × List D)) (s : ByteArray) : ACr Tryz.prog G 204 [.val (.string s)] (.bool (decide (KO s))) := by
 refine AN (ts := [2]) Tryz.f204.ntmps Tryz.func204 rfl rfl rfl (by simp [Tryz.ntmps204]) fun W I => ?_
 repeat' (first
  | ((with_reducible apply jp); (focus ((with_reducible apply Cl); rfl; rfl)); (focus rfl))
  | ((with_reducible apply jp); (focus ((with_reducible apply DR); rfl; rfl; rfl; (focus exact BI))); (focus rfl))
  | ((with_reducible apply DM); (focus rfl); (focus rfl); (focus rfl); (focus rfl); (focus omega); (focus rfl))
  | exact True.intro | refine AD ?_ | refine two ?_ ?_ | refine AB fun c_ => ?_
  | (refine imp fun hc => ?_) <;> try exact cx1 hc
  | refine all fun v_ => ?_)
 all_goals first
  | (refine AH (VS.drop (List.nil_sublist _)) ?_
     ((with_reducible apply rq1); rfl; rfl)
     refine AA (congrArg AV.bool (decide_eq_false ?_).symm)
     rintro ⟨⟨a1, a2⟩, a3, a4, a5⟩
     first
      | omega
      | exact a3 ((D7 _ _).1 hc)
      | exact a4 ((D7 _ _).1 hc)
      | (have hz := (D7 _ _).1 hc; subst hz; simp at a1))
  | skip
 rename_i q1 q2 q3
 have n1 : s ≠ Ys := fun e => by rw [(D7 _ _).2 e] at q3; cases q3
 have n2 : s ≠ noS := fun e => by rw [(D7 _ _).2 e] at hc; cases hc
 have n0 : 1 ≤ s.data.toList.length := by
  rcases Nat.eq_zero_or_pos s.data.toList.length with h0 | h0
  · exfalso
    have : s = ⟨#[]⟩ := by
     obtain ⟨a⟩ := s
     have : a = #[] := by
      apply Array.toList_inj.1
      simpa using h0
     rw [this]
    rw [(D7 _ _).2 this] at q1; cases q1
  · exact h0
 refine AG (X := Nat) (fun i => [(21, .d (Ri s.data.toList)), (22, .int s.data.toList.length), (23, .int i)]) (fun _ => []) (fun i => i ≤ s.data.toList.length ∧ ∀ j (h : j < s.data.toList.length), j < i → LV j s.data.toList[j]) (fun i => s.data.toList.length - i) 0 ⟨Nat.zero_le _, fun _ _ h => absurd h (Nat.not_lt_zero _)⟩ (VS.of_le ?_) ?_
 · exact leD
 rintro i ⟨h1, h2⟩
 by_cases hi : ¬ i < s.data.toList.length
 · repeat' (first
    | ((with_reducible apply jp); (focus ((with_reducible apply Cl); rfl; rfl)); (focus rfl))
    | ((with_reducible apply jp); (focus ((with_reducible apply DR); rfl; rfl; rfl; (focus exact BI))); (focus rfl))
    | ((with_reducible apply DM); (focus rfl); (focus rfl); (focus rfl); (focus rfl); (focus omega); (focus rfl))
    | exact True.intro | refine AD ?_ | refine two ?_ ?_ | refine AB fun c_ => ?_
    | (refine imp fun hc => ?_) <;> try exact cx1 hc
    | refine all fun v_ => ?_)
   refine AH (VS.drop (List.nil_sublist _)) ?_
   ((with_reducible apply rq1); rfl; rfl)
   exact AA (congrArg AV.bool (decide_eq_true ⟨⟨n0, by omega⟩, n1, n2, fun j h => h2 j h (by omega)⟩).symm)
 replace hi := Decidable.not_not.1 hi
 by_cases hl : LV i s.data.toList[i]
 · have hl' := hl
   unfold LV at hl'
   repeat' (first
    | ((with_reducible apply jp); (focus ((with_reducible apply Cl); rfl; rfl)); (focus rfl))
    | ((with_reducible apply jp); (focus ((with_reducible apply DR); rfl; rfl; rfl; (focus exact BI))); (focus rfl))
    | ((with_reducible apply DM); (focus rfl); (focus rfl); (focus rfl); (focus rfl); (focus omega); (focus rfl))
    | exact True.intro | refine AD ?_ | refine two ?_ ?_ | refine AB fun c_ => ?_
    | (refine imp fun hc => ?_) <;> try exact cx1 hc
    | refine all fun v_ => ?_)
   all_goals
    refine ⟨i + 1, ⟨by omega, fun j hj hji => ?_⟩, by omega, VS.of_le ?_⟩
    · by_cases e : j = i
      · subst e; exact hl
      · exact h2 j hj (by omega)
    · exact leD
 · have hl' := hl
   unfold LV at hl'
   repeat' (first
    | ((with_reducible apply jp); (focus ((with_reducible apply Cl); rfl; rfl)); (focus rfl))
    | ((with_reducible apply jp); (focus ((with_reducible apply DR); rfl; rfl; rfl; (focus exact BI))); (focus rfl))
    | ((with_reducible apply DM); (focus rfl); (focus rfl); (focus rfl); (focus rfl); (focus omega); (focus rfl))
    | exact True.intro | refine AD ?_ | refine two ?_ ?_ | refine AB fun c_ => ?_
    | (refine imp fun hc => ?_) <;> try exact cx1 hc
    | refine all fun v_ => ?_)
   all_goals
    refine AH (VS.drop (List.nil_sublist _)) ?_
    ((with_reducible apply rq1); rfl; rfl)
    exact AA (congrArg AV.bool (decide_eq_false fun k => hl (k.2.2.2 i hi)).symm)
theorem SK (G : List (Nat × List D)) (s : ByteArray) : ACr Tryz.prog G 162 [.val (.string s)] (.bool (decide (KO s))) := by
 refine AN (ts := [2]) Tryz.f162.ntmps Tryz.func162 rfl rfl rfl (by simp [Tryz.ntmps162]) fun W I => ?_
 by_cases c1 : ¬ (1 ≤ (s.data.toList.length : Int) ∧ (s.data.toList.length : Int) ≤ 8)
 · have e1 := DO (In G s.data.toList.length 1 8) c1
   repeat' (first
    | ((with_reducible apply jp); (focus ((with_reducible apply Cl); rfl; rfl)); (focus rfl))
    | ((with_reducible apply jp); (focus ((with_reducible apply DR); rfl; rfl; rfl; (focus exact BI))); (focus rfl))
    | ((with_reducible apply DM); (focus rfl); (focus rfl); (focus rfl); (focus rfl); (focus omega); (focus rfl))
    | refine ca AL (e1) ?_
    | exact True.intro | refine AD ?_ | refine two ?_ ?_ | refine AB fun c_ => ?_
    | (refine imp fun hc => ?_) <;> try exact cx1 hc
    | refine all fun v_ => ?_)
   refine AH (VS.drop (List.nil_sublist _)) ?_
   ((with_reducible apply rq1); rfl; rfl)
   exact AA (congrArg AV.bool (decide_eq_false fun k => by have := k.1; omega).symm)
 replace c1 := Decidable.not_not.1 c1
 have e1 := A5 (In G s.data.toList.length 1 8) c1
 repeat' (first
  | ((with_reducible apply jp); (focus ((with_reducible apply Cl); rfl; rfl)); (focus rfl))
  | ((with_reducible apply jp); (focus ((with_reducible apply DR); rfl; rfl; rfl; (focus exact BI))); (focus rfl))
  | ((with_reducible apply DM); (focus rfl); (focus rfl); (focus rfl); (focus rfl); (focus omega); (focus rfl))
  | refine ca AL (e1) ?_
  | exact True.intro | refine AD ?_ | refine two ?_ ?_ | refine AB fun c_ => ?_
  | (refine imp fun hc => ?_) <;> try exact cx1 hc
  | refine all fun v_ => ?_)
 all_goals first
  | (refine AH (VS.drop (List.nil_sublist _)) ?_
     ((with_reducible apply rq1); rfl; rfl)
     refine AA (congrArg AV.bool (decide_eq_false ?_).symm)
     rintro ⟨⟨a1, a2⟩, a3, a4, a5⟩
     first
      | exact a3 ((D7 _ _).1 hc)
      | exact a4 ((D7 _ _).1 hc))
  | skip
 rename_i q3
 have n1 : s ≠ Ys := fun e => by rw [(D7 _ _).2 e] at q3; cases q3
 have n2 : s ≠ noS := fun e => by rw [(D7 _ _).2 e] at hc; cases hc
 refine AG (X := Nat) (fun i => [(0, .val (.string s)), (3, .int i)]) (fun _ => []) (fun i => i ≤ s.data.toList.length ∧ ∀ j (h : j < s.data.toList.length), j < i → LV j s.data.toList[j]) (fun i => s.data.toList.length - i) 0 ⟨Nat.zero_le _, fun _ _ h => absurd h (Nat.not_lt_zero _)⟩ (VS.of_le ?_) ?_
 · exact leD
 rintro i ⟨h1, h2⟩
 by_cases hi : ¬ i < s.data.toList.length
 · repeat' (first
    | ((with_reducible apply jp); (focus ((with_reducible apply Cl); rfl; rfl)); (focus rfl))
    | ((with_reducible apply jp); (focus ((with_reducible apply DR); rfl; rfl; rfl; (focus exact BI))); (focus rfl))
    | ((with_reducible apply DM); (focus rfl); (focus rfl); (focus rfl); (focus rfl); (focus omega); (focus rfl))
    | refine ca AL (e1) ?_
    | exact True.intro | refine AD ?_ | refine two ?_ ?_ | refine AB fun c_ => ?_
    | (refine imp fun hc => ?_) <;> try exact cx1 hc
    | refine all fun v_ => ?_)
   refine AH (VS.drop (List.nil_sublist _)) ?_
   ((with_reducible apply rq1); rfl; rfl)
   exact AA (congrArg AV.bool (decide_eq_true ⟨⟨by omega, by omega⟩, n1, n2, fun j h => h2 j h (by omega)⟩).symm)
 replace hi := Decidable.not_not.1 hi
 by_cases hl : LV i s.data.toList[i]
 · have hl' := hl
   unfold LV at hl'
   repeat' (first
    | ((with_reducible apply jp); (focus ((with_reducible apply Cl); rfl; rfl)); (focus rfl))
    | ((with_reducible apply jp); (focus ((with_reducible apply DR); rfl; rfl; rfl; (focus exact BI))); (focus rfl))
    | ((with_reducible apply DM); (focus rfl); (focus rfl); (focus rfl); (focus rfl); (focus omega); (focus rfl))
    | refine ca AL (In _ _ _ _) ?_
    | exact True.intro | refine AD ?_ | refine two ?_ ?_ | refine AB fun c_ => ?_
    | (refine imp fun hc => ?_) <;> try exact cx1 hc
    | refine all fun v_ => ?_)
   all_goals
    refine ⟨i + 1, ⟨by omega, fun j hj hji => ?_⟩, by omega, VS.of_le ?_⟩
    · by_cases e : j = i
      · subst e; exact hl
      · exact h2 j hj (by omega)
    · exact leD
 · have hl' := hl
   unfold LV at hl'
   repeat' (first
    | ((with_reducible apply jp); (focus ((with_reducible apply Cl); rfl; rfl)); (focus rfl))
    | ((with_reducible apply jp); (focus ((with_reducible apply DR); rfl; rfl; rfl; (focus exact BI))); (focus rfl))
    | ((with_reducible apply DM); (focus rfl); (focus rfl); (focus rfl); (focus rfl); (focus omega); (focus rfl))
    | refine ca AL (In _ _ _ _) ?_
    | exact True.intro | refine AD ?_ | refine two ?_ ?_ | refine AB fun c_ => ?_
    | (refine imp fun hc => ?_) <;> try exact cx1 hc
    | refine all fun v_ => ?_)
   all_goals
    refine AH (VS.drop (List.nil_sublist _)) ?_
    ((with_reducible apply rq1); rfl; rfl)
    exact AA (congrArg AV.bool (decide_eq_false fun k => hl (k.2.2.2 i hi)).symm)
theorem kind (l : List Fo) (vars : Int) (t : Bool) : ACr Tryz.prog GP 148 [.d (AO l), .int vars, .bool t] (.int (Ca l vars t)) := by
 refine AN (ts := [6]) Tryz.f148.ntmps Tryz.func148 rfl rfl rfl (by simp [Tryz.ntmps148]) fun W I => ?_
 repeat' (first
  | refine ca Gp (VI _ _) ?_
  | exact True.intro | refine AD ?_ | refine two ?_ ?_ | refine AB fun c_ => ?_
  | (refine imp fun hc => ?_) <;> try exact cx1 hc
  | refine all fun v_ => ?_)
 all_goals
  refine AH (VS.drop (List.nil_sublist _)) ?_
  ((with_reducible apply rq1); rfl; rfl)
  refine AA (congrArg AV.int ?_)
  unfold Ca
  first
   | (rw [if_pos (by omega)]; done)
   | (rw [if_neg (by omega), if_pos (by simp_all)]; done)
   | (rw [if_neg (by omega), if_neg (by simp_all)]; omega)
   | (simp_all; done)
theorem BC (G : List (Nat × List D)) (l : List Fo) (vars : Int) (t : Bool) : ACr Tryz.prog G 125 [.d (AO l), .int vars, .bool t] (.int (Ca l vars t)) := by
 refine AN (ts := [6]) Tryz.f125.ntmps Tryz.func125 rfl rfl rfl (by simp [Tryz.ntmps125]) fun W I => ?_
 repeat' (first
  | refine ca Eg (KA _ _ _) ?_
  | exact True.intro | refine AD ?_ | refine two ?_ ?_ | refine AB fun c_ => ?_
  | (refine imp fun hc => ?_) <;> try exact cx1 hc
  | refine all fun v_ => ?_)
 all_goals
  refine AH (VS.drop (List.nil_sublist _)) ?_
  ((with_reducible apply rq1); rfl; rfl)
  refine AA (congrArg AV.int ?_)
  unfold Ca
  first
   | (rw [if_pos (by omega)]; done)
   | (rw [if_neg (by omega), if_pos (by simp_all)]; done)
   | (rw [if_neg (by omega), if_neg (by simp_all)]; omega)
   | (simp_all; done)
end Go.Proofs.YtibahljljjkceaaGreatDoor
