/- A bundle of this claim's own texts: M1. -/
import Derived.Test.YtniklgkoiaeipaaGreatDoorZ2
import Derived.Test.YtniklgkoiaeipaaGreatDoorZ4
namespace Go.Proofs.YtniklgkoiaeipaaGreatDoor
open Go Go.Av Go.Sp
set_option linter.unusedVariables false
set_option linter.unusedSimpArgs false
set_option maxRecDepth 100000
set_option maxHeartbeats 4000000

theorem cal_name : Cal Tryz.prog 209 := Cal.of Tryz.func209 (by kernel_rfl) (by kernel_rfl)
theorem cal_NameMay : Cal Tryz.prog 195 := Cal.of Tryz.func195 (by kernel_rfl) (by kernel_rfl)
theorem cal_kind : Cal Tryz.prog 135 := Cal.of Tryz.func135 (by kernel_rfl) (by kernel_rfl)
theorem cal_kindFault : Cal Tryz.prog 145 := Cal.of Tryz.func145 (by kernel_rfl) (by kernel_rfl)
theorem name (G : List (Nat × List D)) (s : ByteArray) : ACr Tryz.prog G 209 [.val (.string s)] (.bool (decide (nameP s))) := by
 refine AC_ofV (ts := [2]) Tryz.f209.ntmps Tryz.func209 rfl rfl rfl (by simp [Tryz.ntmps209]) fun W I => ?_
 all_goals haveI fA_ : FlagA := ⟨⟩
 all_goals haveI fH_ : FlagH := ⟨⟩
 repeat' (first
  | ((with_reducible apply jp); (focus ((with_reducible apply pu_len_str); rfl; rfl)); (focus rfl))
  | ((with_reducible apply jp); (focus ((with_reducible apply pu_at_str); rfl; rfl; rfl; (focus exact bndD))); (focus rfl))
  | ((with_reducible apply jstrbytes); (focus rfl); (focus rfl); (focus rfl); (focus rfl); (focus omega); (focus rfl))
  | exact True.intro
  | refine stp ?_
  | refine two ?_ ?_
  | refine allc fun c_ => ?_
  | (refine imp fun hc => ?_) <;> try exact cx1 hc
  | refine all fun v_ => ?_)
 all_goals clear fA_ fH_
 all_goals first
  | (refine retv (VS.drop (List.nil_sublist _)) ?_
     ((with_reducible apply rq1); rfl; rfl)
     refine ret_eq (congrArg AV.bool (decide_eq_false ?_).symm)
     rintro ⟨⟨a1, a2⟩, a3, a4, a5⟩
     first
      | omega
      | exact a3 ((ba_beq _ _).1 hc)
      | exact a4 ((ba_beq _ _).1 hc)
      | (have hz := (ba_beq _ _).1 hc; subst hz; simp at a1))
  | skip
 rename_i q1 q2 q3
 have n1 : s ≠ yesS := fun e => by rw [(ba_beq _ _).2 e] at q3; cases q3
 have n2 : s ≠ noS := fun e => by rw [(ba_beq _ _).2 e] at hc; cases hc
 have n0 : 1 ≤ s.data.toList.length := by
  rcases Nat.eq_zero_or_pos s.data.toList.length with h0 | h0
  · exfalso
    have : s = ⟨#[]⟩ := by
     obtain ⟨a⟩ := s
     have : a = #[] := by
      apply Array.toList_inj.1
      simpa using h0
     rw [this]
    rw [(ba_beq _ _).2 this] at q1; cases q1
  · exact h0
 refine J_loopV (X := Nat) (fun i => [(21, .d (bytesD s.data.toList)), (22, .int s.data.toList.length), (23, .int i)]) (fun _ => []) (fun i => i ≤ s.data.toList.length ∧ ∀ j (h : j < s.data.toList.length), j < i → letP j s.data.toList[j]) (fun i => s.data.toList.length - i) 0 ⟨Nat.zero_le _, fun _ _ h => absurd h (Nat.not_lt_zero _)⟩ (VS.of_le ?_) ?_
 · exact leD
 rintro i ⟨h1, h2⟩
 by_cases hi : ¬ i < s.data.toList.length
 · all_goals haveI fA_ : FlagA := ⟨⟩
   all_goals haveI fH_ : FlagH := ⟨⟩
   repeat' (first
    | ((with_reducible apply jp); (focus ((with_reducible apply pu_len_str); rfl; rfl)); (focus rfl))
    | ((with_reducible apply jp); (focus ((with_reducible apply pu_at_str); rfl; rfl; rfl; (focus exact bndD))); (focus rfl))
    | ((with_reducible apply jstrbytes); (focus rfl); (focus rfl); (focus rfl); (focus rfl); (focus omega); (focus rfl))
    | exact True.intro
    | refine stp ?_
    | refine two ?_ ?_
    | refine allc fun c_ => ?_
    | (refine imp fun hc => ?_) <;> try exact cx1 hc
    | refine all fun v_ => ?_)
   all_goals clear fA_ fH_
   refine retv (VS.drop (List.nil_sublist _)) ?_
   ((with_reducible apply rq1); rfl; rfl)
   exact ret_eq (congrArg AV.bool (decide_eq_true ⟨⟨n0, by omega⟩, n1, n2, fun j h => h2 j h (by omega)⟩).symm)
 replace hi := Decidable.not_not.1 hi
 by_cases hl : letP i s.data.toList[i]
 · have hl' := hl
   unfold letP at hl'
   all_goals haveI fA_ : FlagA := ⟨⟩
   all_goals haveI fH_ : FlagH := ⟨⟩
   repeat' (first
    | ((with_reducible apply jp); (focus ((with_reducible apply pu_len_str); rfl; rfl)); (focus rfl))
    | ((with_reducible apply jp); (focus ((with_reducible apply pu_at_str); rfl; rfl; rfl; (focus exact bndD))); (focus rfl))
    | ((with_reducible apply jstrbytes); (focus rfl); (focus rfl); (focus rfl); (focus rfl); (focus omega); (focus rfl))
    | exact True.intro
    | refine stp ?_
    | refine two ?_ ?_
    | refine allc fun c_ => ?_
    | (refine imp fun hc => ?_) <;> try exact cx1 hc
    | refine all fun v_ => ?_)
   all_goals clear fA_ fH_
   all_goals
    refine ⟨i + 1, ⟨by omega, fun j hj hji => ?_⟩, by omega, VS.of_le ?_⟩
    · by_cases e : j = i
      · subst e; exact hl
      · exact h2 j hj (by omega)
    · exact leD
 · have hl' := hl
   unfold letP at hl'
   all_goals haveI fA_ : FlagA := ⟨⟩
   all_goals haveI fH_ : FlagH := ⟨⟩
   repeat' (first
    | ((with_reducible apply jp); (focus ((with_reducible apply pu_len_str); rfl; rfl)); (focus rfl))
    | ((with_reducible apply jp); (focus ((with_reducible apply pu_at_str); rfl; rfl; rfl; (focus exact bndD))); (focus rfl))
    | ((with_reducible apply jstrbytes); (focus rfl); (focus rfl); (focus rfl); (focus rfl); (focus omega); (focus rfl))
    | exact True.intro
    | refine stp ?_
    | refine two ?_ ?_
    | refine allc fun c_ => ?_
    | (refine imp fun hc => ?_) <;> try exact cx1 hc
    | refine all fun v_ => ?_)
   all_goals clear fA_ fH_
   all_goals
    refine retv (VS.drop (List.nil_sublist _)) ?_
    ((with_reducible apply rq1); rfl; rfl)
    exact ret_eq (congrArg AV.bool (decide_eq_false fun k => hl (k.2.2.2 i hi)).symm)
theorem armXM1_1 {p q : Prop} (hp : p) (h : p → q := by
 apply cmp; (focus (first
  | ((with_reducible apply call0); (focus rfl); (focus exact cal_In); (focus exact e1); (focus rfl))
  | ((with_reducible apply je_call0); (focus rfl); (focus (decide +kernel)); (focus rfl); (focus exact cal_In); (focus exact e1); (focus rfl))
  ))
 exact fun h => h) : q := h hp
theorem armXM1_2 {p q : Prop} (hp : p) (h : p → q := by
 apply cmp; (focus (first
  | ((with_reducible apply call0); (focus rfl); (focus exact cal_In); (focus exact In _ _ _ _); (focus rfl))
  | ((with_reducible apply je_call0); (focus rfl); (focus (decide +kernel)); (focus rfl); (focus exact cal_In); (focus exact In _ _ _ _); (focus rfl))
  ))
 exact fun h => h) : q := h hp
theorem NameMay (G : List (Nat × List D)) (s : ByteArray) : ACr Tryz.prog G 195 [.val (.string s)] (.bool (decide (nameP s))) := by
 refine AC_ofV (ts := [2]) Tryz.f195.ntmps Tryz.func195 rfl rfl rfl (by simp [Tryz.ntmps195]) fun W I => ?_
 by_cases c1 : ¬ (1 ≤ (s.data.toList.length : Int) ∧ (s.data.toList.length : Int) ≤ 8)
 · have e1 := ACr_false (In G s.data.toList.length 1 8) c1
   all_goals haveI fA_ : FlagA := ⟨⟩
   all_goals haveI fH_ : FlagH := ⟨⟩
   repeat' (first
    | ((with_reducible apply jp); (focus ((with_reducible apply pu_len_str); rfl; rfl)); (focus rfl))
    | ((with_reducible apply jp); (focus ((with_reducible apply pu_at_str); rfl; rfl; rfl; (focus exact bndD))); (focus rfl))
    | ((with_reducible apply jstrbytes); (focus rfl); (focus rfl); (focus rfl); (focus rfl); (focus omega); (focus rfl))
    | refine armXM1_1 ?_
    | exact True.intro
    | refine stp ?_
    | refine two ?_ ?_
    | refine allc fun c_ => ?_
    | (refine imp fun hc => ?_) <;> try exact cx1 hc
    | refine all fun v_ => ?_)
   all_goals clear fA_ fH_
   refine retv (VS.drop (List.nil_sublist _)) ?_
   ((with_reducible apply rq1); rfl; rfl)
   exact ret_eq (congrArg AV.bool (decide_eq_false fun k => by have := k.1; omega).symm)
 replace c1 := Decidable.not_not.1 c1
 have e1 := ACr_true (In G s.data.toList.length 1 8) c1
 all_goals haveI fA_ : FlagA := ⟨⟩
 all_goals haveI fH_ : FlagH := ⟨⟩
 repeat' (first
  | ((with_reducible apply jp); (focus ((with_reducible apply pu_len_str); rfl; rfl)); (focus rfl))
  | ((with_reducible apply jp); (focus ((with_reducible apply pu_at_str); rfl; rfl; rfl; (focus exact bndD))); (focus rfl))
  | ((with_reducible apply jstrbytes); (focus rfl); (focus rfl); (focus rfl); (focus rfl); (focus omega); (focus rfl))
  | refine armXM1_1 ?_
  | exact True.intro
  | refine stp ?_
  | refine two ?_ ?_
  | refine allc fun c_ => ?_
  | (refine imp fun hc => ?_) <;> try exact cx1 hc
  | refine all fun v_ => ?_)
 all_goals clear fA_ fH_
 all_goals first
  | (refine retv (VS.drop (List.nil_sublist _)) ?_
     ((with_reducible apply rq1); rfl; rfl)
     refine ret_eq (congrArg AV.bool (decide_eq_false ?_).symm)
     rintro ⟨⟨a1, a2⟩, a3, a4, a5⟩
     first
      | exact a3 ((ba_beq _ _).1 hc)
      | exact a4 ((ba_beq _ _).1 hc))
  | skip
 rename_i q3
 have n1 : s ≠ yesS := fun e => by rw [(ba_beq _ _).2 e] at q3; cases q3
 have n2 : s ≠ noS := fun e => by rw [(ba_beq _ _).2 e] at hc; cases hc
 refine J_loopV (X := Nat) (fun i => [(0, .val (.string s)), (3, .int i)]) (fun _ => []) (fun i => i ≤ s.data.toList.length ∧ ∀ j (h : j < s.data.toList.length), j < i → letP j s.data.toList[j]) (fun i => s.data.toList.length - i) 0 ⟨Nat.zero_le _, fun _ _ h => absurd h (Nat.not_lt_zero _)⟩ (VS.of_le ?_) ?_
 · exact leD
 rintro i ⟨h1, h2⟩
 by_cases hi : ¬ i < s.data.toList.length
 · all_goals haveI fA_ : FlagA := ⟨⟩
   all_goals haveI fH_ : FlagH := ⟨⟩
   repeat' (first
    | ((with_reducible apply jp); (focus ((with_reducible apply pu_len_str); rfl; rfl)); (focus rfl))
    | ((with_reducible apply jp); (focus ((with_reducible apply pu_at_str); rfl; rfl; rfl; (focus exact bndD))); (focus rfl))
    | ((with_reducible apply jstrbytes); (focus rfl); (focus rfl); (focus rfl); (focus rfl); (focus omega); (focus rfl))
    | refine armXM1_1 ?_
    | exact True.intro
    | refine stp ?_
    | refine two ?_ ?_
    | refine allc fun c_ => ?_
    | (refine imp fun hc => ?_) <;> try exact cx1 hc
    | refine all fun v_ => ?_)
   all_goals clear fA_ fH_
   refine retv (VS.drop (List.nil_sublist _)) ?_
   ((with_reducible apply rq1); rfl; rfl)
   exact ret_eq (congrArg AV.bool (decide_eq_true ⟨⟨by omega, by omega⟩, n1, n2, fun j h => h2 j h (by omega)⟩).symm)
 replace hi := Decidable.not_not.1 hi
 by_cases hl : letP i s.data.toList[i]
 · have hl' := hl
   unfold letP at hl'
   all_goals haveI fA_ : FlagA := ⟨⟩
   all_goals haveI fH_ : FlagH := ⟨⟩
   repeat' (first
    | ((with_reducible apply jp); (focus ((with_reducible apply pu_len_str); rfl; rfl)); (focus rfl))
    | ((with_reducible apply jp); (focus ((with_reducible apply pu_at_str); rfl; rfl; rfl; (focus exact bndD))); (focus rfl))
    | ((with_reducible apply jstrbytes); (focus rfl); (focus rfl); (focus rfl); (focus rfl); (focus omega); (focus rfl))
    | refine armXM1_2 ?_
    | exact True.intro
    | refine stp ?_
    | refine two ?_ ?_
    | refine allc fun c_ => ?_
    | (refine imp fun hc => ?_) <;> try exact cx1 hc
    | refine all fun v_ => ?_)
   all_goals clear fA_ fH_
   all_goals
    refine ⟨i + 1, ⟨by omega, fun j hj hji => ?_⟩, by omega, VS.of_le ?_⟩
    · by_cases e : j = i
      · subst e; exact hl
      · exact h2 j hj (by omega)
    · exact leD
 · have hl' := hl
   unfold letP at hl'
   all_goals haveI fA_ : FlagA := ⟨⟩
   all_goals haveI fH_ : FlagH := ⟨⟩
   repeat' (first
    | ((with_reducible apply jp); (focus ((with_reducible apply pu_len_str); rfl; rfl)); (focus rfl))
    | ((with_reducible apply jp); (focus ((with_reducible apply pu_at_str); rfl; rfl; rfl; (focus exact bndD))); (focus rfl))
    | ((with_reducible apply jstrbytes); (focus rfl); (focus rfl); (focus rfl); (focus rfl); (focus omega); (focus rfl))
    | refine armXM1_2 ?_
    | exact True.intro
    | refine stp ?_
    | refine two ?_ ?_
    | refine allc fun c_ => ?_
    | (refine imp fun hc => ?_) <;> try exact cx1 hc
    | refine all fun v_ => ?_)
   all_goals clear fA_ fH_
   all_goals
    refine retv (VS.drop (List.nil_sublist _)) ?_
    ((with_reducible apply rq1); rfl; rfl)
    exact ret_eq (congrArg AV.bool (decide_eq_false fun k => hl (k.2.2.2 i hi)).symm)
theorem armXM1_3 {p q : Prop} (hp : p) (h : p → q := by
 apply cmp; (focus (first
  | ((with_reducible apply call0); (focus rfl); (focus exact cal_ECheck); (focus exact ECheck _ _); (focus rfl))
  | ((with_reducible apply je_call0); (focus rfl); (focus (decide +kernel)); (focus rfl); (focus exact cal_ECheck); (focus exact ECheck _ _); (focus rfl))
  ))
 exact fun h => h) : q := h hp
theorem kind (l : List Fo) (vars : Int) (t : Bool) : ACr Tryz.prog GP 135 [.d (opsD l), .int vars, .bool t] (.int (kindF l vars t)) := by
 refine AC_ofV (ts := [6]) Tryz.f135.ntmps Tryz.func135 rfl rfl rfl (by simp [Tryz.ntmps135]) fun W I => ?_
 all_goals haveI fA_ : FlagA := ⟨⟩
 all_goals haveI fH_ : FlagH := ⟨⟩
 repeat' (first
  | refine armXM1_3 ?_
  | exact True.intro
  | refine stp ?_
  | refine two ?_ ?_
  | refine allc fun c_ => ?_
  | (refine imp fun hc => ?_) <;> try exact cx1 hc
  | refine all fun v_ => ?_)
 all_goals clear fA_ fH_
 all_goals
  refine retv (VS.drop (List.nil_sublist _)) ?_
  ((with_reducible apply rq1); rfl; rfl)
  refine ret_eq (congrArg AV.int ?_)
  unfold kindF
  first
   | (rw [if_pos (by omega)]; done)
   | (rw [if_neg (by omega), if_pos (by simp_all)]; done)
   | (rw [if_neg (by omega), if_neg (by simp_all)]; omega)
   | (simp_all; done)
theorem armXM1_4 {p q : Prop} (hp : p) (h : p → q := by
 apply cmp; (focus (first
  | ((with_reducible apply call0); (focus rfl); (focus exact cal_ExprChecked); (focus exact ExprChecked _ _ _); (focus rfl))
  | ((with_reducible apply je_call0); (focus rfl); (focus (decide +kernel)); (focus rfl); (focus exact cal_ExprChecked); (focus exact ExprChecked _ _ _); (focus rfl))
  ))
 exact fun h => h) : q := h hp
theorem kindFault (G : List (Nat × List D)) (l : List Fo) (vars : Int) (t : Bool) : ACr Tryz.prog G 145 [.d (opsD l), .int vars, .bool t] (.int (kindF l vars t)) := by
 refine AC_ofV (ts := [6]) Tryz.f145.ntmps Tryz.func145 rfl rfl rfl (by simp [Tryz.ntmps145]) fun W I => ?_
 all_goals haveI fA_ : FlagA := ⟨⟩
 all_goals haveI fH_ : FlagH := ⟨⟩
 repeat' (first
  | refine armXM1_4 ?_
  | exact True.intro
  | refine stp ?_
  | refine two ?_ ?_
  | refine allc fun c_ => ?_
  | (refine imp fun hc => ?_) <;> try exact cx1 hc
  | refine all fun v_ => ?_)
 all_goals clear fA_ fH_
 all_goals
  refine retv (VS.drop (List.nil_sublist _)) ?_
  ((with_reducible apply rq1); rfl; rfl)
  refine ret_eq (congrArg AV.int ?_)
  unfold kindF
  first
   | (rw [if_pos (by omega)]; done)
   | (rw [if_neg (by omega), if_pos (by simp_all)]; done)
   | (rw [if_neg (by omega), if_neg (by simp_all)]; omega)
   | (simp_all; done)
end Go.Proofs.YtniklgkoiaeipaaGreatDoor
