/- A bundle of this claim's own texts: M1. -/
import Derived.Test.YtajnpfgelpkijaaGreatDoorA3
import Derived.Test.YtajnpfgelpkijaaGreatDoorA5
import Derived.Test.YtajnpfgelpkijaaGreatDoorA8
import Derived.Test.YtajnpfgelpkijaaGreatDoorA16
set_option linter.unusedVariables false
set_option linter.unusedSimpArgs false
set_option maxRecDepth 100000
set_option maxHeartbeats 4000000
namespace Go.Proofs.YtajnpfgelpkijaaGreatDoor
open Go Go.Av Go.Sp

theorem CJ : Cal Tryz.prog 156 := Cal.of Tryz.func156 (by kernel_rfl) (by kernel_rfl)
theorem Bw : Cal Tryz.prog 90 := Cal.of Tryz.func90 (by kernel_rfl) (by kernel_rfl)
theorem name (G : List (Nat × List D)) (s : ByteArray) : ACr Tryz.prog G 156 [.val (.string s)] (.bool (decide (Bl s))) := by
 refine AK (ts := [2]) Tryz.f156.ntmps Tryz.func156 rfl rfl rfl (by simp [Tryz.ntmps156]) fun W I => ?_
 repeat' (first
  | ((with_reducible apply jp); (focus ((with_reducible apply Ei); rfl; rfl)); (focus rfl))
  | ((with_reducible apply jp); (focus ((with_reducible apply pu_at_str); rfl; rfl; rfl; (focus exact Ad))); (focus rfl))
  | ((with_reducible apply Hl); (focus rfl); (focus rfl); (focus rfl); (focus rfl); (focus omega); (focus rfl))
  | exact True.intro | refine AJ ?_ | refine two ?_ ?_ | refine AG fun c_ => ?_
  | (refine imp fun hc => ?_) <;> try exact cx1 hc
  | refine all fun v_ => ?_)
 all_goals first
  | (refine AO (VS.drop (List.nil_sublist _)) ?_
     ((with_reducible apply rq1); rfl; rfl)
     refine AD (congrArg AV.bool (decide_eq_false ?_).symm)
     rintro ⟨⟨a1, a2⟩, a3, a4, a5⟩
     first
      | omega
      | exact a3 ((Eh _ _).1 hc)
      | exact a4 ((Eh _ _).1 hc)
      | (have hz := (Eh _ _).1 hc; subst hz; simp at a1))
  | skip
 rename_i q1 q2 q3
 have n1 : s ≠ gv := fun e => by rw [(Eh _ _).2 e] at q3; cases q3
 have n2 : s ≠ noS := fun e => by rw [(Eh _ _).2 e] at hc; cases hc
 have n0 : 1 ≤ s.data.toList.length := by
  rcases Nat.eq_zero_or_pos s.data.toList.length with h0 | h0
  · exfalso
    have : s = ⟨#[]⟩ := by
     obtain ⟨a⟩ := s
     have : a = #[] := by
      apply Array.toList_inj.1
      simpa using h0
     rw [this]
    rw [(Eh _ _).2 this] at q1; cases q1
  · exact h0
 refine AL (X := Nat) (fun i => [(21, .d (TH s.data.toList)), (22, .int s.data.toList.length), (23, .int i)]) (fun _ => []) (fun i => i ≤ s.data.toList.length ∧ ∀ j (h : j < s.data.toList.length), j < i → NL j s.data.toList[j]) (fun i => s.data.toList.length - i) 0 ⟨Nat.zero_le _, fun _ _ h => absurd h (Nat.not_lt_zero _)⟩ (VS.of_le ?_) ?_
 · exact leD
 rintro i ⟨h1, h2⟩
 by_cases hi : ¬ i < s.data.toList.length
 · repeat' (first
    | ((with_reducible apply jp); (focus ((with_reducible apply Ei); rfl; rfl)); (focus rfl))
    | ((with_reducible apply jp); (focus ((with_reducible apply pu_at_str); rfl; rfl; rfl; (focus exact Ad))); (focus rfl))
    | ((with_reducible apply Hl); (focus rfl); (focus rfl); (focus rfl); (focus rfl); (focus omega); (focus rfl))
    | exact True.intro | refine AJ ?_ | refine two ?_ ?_ | refine AG fun c_ => ?_
    | (refine imp fun hc => ?_) <;> try exact cx1 hc
    | refine all fun v_ => ?_)
   refine AO (VS.drop (List.nil_sublist _)) ?_
   ((with_reducible apply rq1); rfl; rfl)
   exact AD (congrArg AV.bool (decide_eq_true ⟨⟨n0, by omega⟩, n1, n2, fun j h => h2 j h (by omega)⟩).symm)
 replace hi := Decidable.not_not.1 hi
 by_cases hl : NL i s.data.toList[i]
 · have hl' := hl
   unfold NL at hl'
   repeat' (first
    | ((with_reducible apply jp); (focus ((with_reducible apply Ei); rfl; rfl)); (focus rfl))
    | ((with_reducible apply jp); (focus ((with_reducible apply pu_at_str); rfl; rfl; rfl; (focus exact Ad))); (focus rfl))
    | ((with_reducible apply Hl); (focus rfl); (focus rfl); (focus rfl); (focus rfl); (focus omega); (focus rfl))
    | exact True.intro | refine AJ ?_ | refine two ?_ ?_ | refine AG fun c_ => ?_
    | (refine imp fun hc => ?_) <;> try exact cx1 hc
    | refine all fun v_ => ?_)
   all_goals
    refine ⟨i + 1, ⟨by omega, fun j hj hji => ?_⟩, by omega, VS.of_le ?_⟩
    · by_cases e : j = i
      · subst e; exact hl
      · exact h2 j hj (by omega)
    · exact leD
 · have hl' := hl
   unfold NL at hl'
   repeat' (first
    | ((with_reducible apply jp); (focus ((with_reducible apply Ei); rfl; rfl)); (focus rfl))
    | ((with_reducible apply jp); (focus ((with_reducible apply pu_at_str); rfl; rfl; rfl; (focus exact Ad))); (focus rfl))
    | ((with_reducible apply Hl); (focus rfl); (focus rfl); (focus rfl); (focus rfl); (focus omega); (focus rfl))
    | exact True.intro | refine AJ ?_ | refine two ?_ ?_ | refine AG fun c_ => ?_
    | (refine imp fun hc => ?_) <;> try exact cx1 hc
    | refine all fun v_ => ?_)
   all_goals
    refine AO (VS.drop (List.nil_sublist _)) ?_
    ((with_reducible apply rq1); rfl; rfl)
    exact AD (congrArg AV.bool (decide_eq_false fun k => hl (k.2.2.2 i hi)).symm)
theorem kind (l : List Fo) (vars : Int) (t : Bool) : ACr Tryz.prog GP 90 [.d (AN l), .int vars, .bool t] (.int (CF l vars t)) := by
 refine AK (ts := [6]) Tryz.f90.ntmps Tryz.func90 rfl rfl rfl (by simp [Tryz.ntmps90]) fun W I => ?_
 repeat' (first
  | refine ca GU (ZZ _ _) ?_
  | exact True.intro | refine AJ ?_ | refine two ?_ ?_ | refine AG fun c_ => ?_
  | (refine imp fun hc => ?_) <;> try exact cx1 hc
  | refine all fun v_ => ?_)
 all_goals
  refine AO (VS.drop (List.nil_sublist _)) ?_
  ((with_reducible apply rq1); rfl; rfl)
  refine AD (congrArg AV.int ?_)
  unfold CF
  first
   | (rw [if_pos (by omega)]; done)
   | (rw [if_neg (by omega), if_pos (by simp_all)]; done)
   | (rw [if_neg (by omega), if_neg (by simp_all)]; omega)
   | (simp_all; done)
end Go.Proofs.YtajnpfgelpkijaaGreatDoor
