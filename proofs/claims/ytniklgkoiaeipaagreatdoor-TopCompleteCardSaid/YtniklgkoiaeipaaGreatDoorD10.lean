/- A bundle of this claim's own texts: T9 M1. -/
import Derived.Test.YtniklgkoiaeipaaGreatDoorD2
import Derived.Test.YtniklgkoiaeipaaGreatDoorD3
import Derived.Test.YtniklgkoiaeipaaGreatDoorD9
set_option linter.unusedVariables false
set_option linter.unusedSimpArgs false
set_option maxRecDepth 100000
set_option maxHeartbeats 4000000
namespace Go.Proofs.YtniklgkoiaeipaaGreatDoor
open Go Go.Av Go.Sp

theorem armXT9_1 {p q : Prop} (hp : p) (h : p → q := by
 apply cmp; (focus (first
  | ((with_reducible apply call0); (focus rfl); (focus exact cal_Ends); (focus exact hE); (focus rfl))
  | ((with_reducible apply je_call0); (focus rfl); (focus (decide +kernel)); (focus rfl); (focus exact cal_Ends); (focus exact hE); (focus rfl))
  | ((with_reducible apply call0); (focus rfl); (focus exact cal_op); (focus exact op _ _ _ _ (by omega) (by omega)); (focus rfl))
  | ((with_reducible apply je_call0); (focus rfl); (focus (decide +kernel)); (focus rfl); (focus exact cal_op); (focus exact op _ _ _ _ (by omega) (by omega)); (focus rfl))
  | ((with_reducible apply call0); (focus rfl); (focus exact cal_truth); (focus exact truth _ _); (focus rfl))
  | ((with_reducible apply je_call0); (focus rfl); (focus (decide +kernel)); (focus rfl); (focus exact cal_truth); (focus exact truth _ _); (focus rfl))
  ))
 exact fun h => h) : q := h hp
theorem ECheck (l : List Fo) (vars : Int) : ACr Tryz.prog GP 136 [.d (opsD l), .int vars] (.tup [.bool (exprC l vars).1, .int (exprC l vars).2]) := by
 have hE := Ends l
 generalize he : endsOf l = p at hE
 obtain ⟨es, e⟩ := p
 refine AC_ofV (ts := [4, 5]) 100 Tryz.func136 rfl rfl rfl (by simp) fun W I => ?_
 refine jfact (t := 0) rfl fun hl => ?_
 repeat' (first
  | refine armXT9_1 ?_
  | refine allocD ?_
  | exact True.intro
  | refine stp ?_
  | refine two ?_ ?_
  | (refine imp fun hc => ?_) <;> try exact cx hc
  | refine all fun v_ => ?_)
 all_goals try (
  refine retv0 ?_
  ((with_reducible apply rq2); rfl; rfl; rfl)
  refine ret_eq ?_
  unfold exprC
  first
   | (rw [if_pos (by omega)])
   | (rw [if_neg (by omega), he, if_pos (by assumption)]))
 have hok0 : ¬ e ≠ 0 := by assumption
 have e0 : e = 0 := by simpa using hok0
 subst e0
 obtain ⟨h60, h0, hend, hlen, hes⟩ := endsOf_ok he
 have hs : exprC l vars = if opsE l vars ≠ 0 then (false, opsE l vars) else if typedP l then (decide (makesP (kindAt l 0)), 0) else (false, 5) := by
  rw [exprC, if_neg (by omega), he, if_neg (by simp)]
 have hv : 0 ≤ vars ∧ vars ≤ 6 := by omega
 have hall : ∀ (i : Nat) (hi : i < l.length), (Sp.endOf l i).2 = 0 := fun i hi =>
  (scan_nest l l.length 0 1 l.length (by omega) (by omega) (by unfold Sp.endOf at hend; exact hend) i (by omega) (by omega)).1
 dsimp only
 refine J_loopV (X := Nat) (fun i => [(0, .d (opsD l)), (1, .int vars), (6, .d (intsD es)), (37, .d (opsD l)), (38, .int l.length), (39, .int i)]) (fun _ => []) (fun i => i ≤ l.length ∧ opsE l vars = opsE (l.drop i) vars) (fun i => l.length - i) 0 ⟨Nat.zero_le _, rfl⟩ (VS.of_le ?_) ?_
 · exact leD
 rintro i ⟨k1, k2⟩
 by_cases hi : i < l.length
 · rw [opsE_at l i hi] at k2
   repeat' (first
    | refine armXT9_1 ?_
    | refine allocD ?_
    | exact True.intro
    | refine stp ?_
    | refine two ?_ ?_
    | (refine imp fun hc => ?_) <;> try exact cx hc
    | refine all fun v_ => ?_)
   · refine retv (VS.drop (List.nil_sublist _)) ?_
     ((with_reducible apply rq2); rfl; rfl; rfl)
     refine ret_eq ?_
     rw [if_pos hc] at k2
     rw [hs, k2, if_pos hc]
   · rw [if_neg hc] at k2
     refine ⟨i + 1, ⟨by omega, k2⟩, by omega, vle (List.nil_sublist _) ?_⟩
     exact leD
 rw [opsE_end l i (by omega)] at k2
 rw [k2, if_neg (by decide)] at hs
 repeat' (first
  | refine armXT9_1 ?_
  | refine allocD ?_
  | exact True.intro
  | refine stp ?_
  | refine two ?_ ?_
  | (refine imp fun hc => ?_) <;> try exact cx hc
  | refine all fun v_ => ?_)
 refine J_loopV (X := Nat) (fun i => [(0, .d (opsD l)), (6, .d (intsD es)), (50, .d (opsD l)), (51, .int l.length), (52, .int i)]) (fun _ => []) (fun i => i ≤ l.length ∧ ∀ q, q < i → tyAt l q) (fun i => l.length - i) 0 ⟨Nat.zero_le _, fun q hq => by omega⟩ (VS.of_le ?_) ?_
 · exact leD
 rintro i ⟨g1, g2⟩
 by_cases hi : i < l.length
 · have hki := kindAt_eq l i hi
   have hei := hes i (by omega)
   have hbi := endOf_bound l i (hall i hi)
   have w0 := Within.start hi (hall i hi)
   generalize hn : (partsOf l[i].kind).1.toNat = n at w0
   have hty : tyAt l i ↔ ∀ p ∈ starts l (n - 0) (i + 1), fitAt l i p := by unfold tyAt; rw [hki, hn, Nat.sub_zero]
   repeat' (first
    | refine armXT9_1 ?_
    | refine allocD ?_
    | exact True.intro
    | refine stp ?_
    | refine two ?_ ?_
    | (refine imp fun hc => ?_) <;> try exact cx hc
    | refine all fun v_ => ?_)
   refine J_loopV (X := Nat × Nat) (fun y => [(0, .d (opsD l)), (6, .d (intsD es)), (11, .int i), (14, .bool (decide (takesP l[i].kind))), (16, .int y.2), (50, .d (opsD l)), (51, .int l.length), (52, .int i)]) (fun _ => [])
    (fun y => Within l n y.1 y.2 (Sp.endOf l i).1.toNat ∧ (tyAt l i ↔ ∀ p ∈ starts l (n - y.1) y.2, fitAt l i p)) (fun y => n - y.1) (0, i + 1) ⟨w0, hty⟩ (vle (List.nil_sublist _) ?_) ?_
   · exact leD
   rintro ⟨j, k⟩ ⟨w, hk⟩
   dsimp only at w hk ⊢
   have wlt := w.lt
   by_cases hj : j < n
   · obtain ⟨q1, q2, q3, q4⟩ := w.next hj
     have hkl : k < l.length := by omega
     have hkk := kindAt_eq l k hkl
     have hek := hes k (by omega)
     have e1 : n - j = (n - (j + 1)) + 1 := by omega
     rw [e1] at hk
     simp only [starts, List.mem_cons, forall_eq_or_imp] at hk
     repeat' (first
      | refine armXT9_1 ?_
      | refine allocD ?_
      | exact True.intro
      | refine stp ?_
      | refine two ?_ ?_
      | (refine imp fun hc => ?_) <;> try exact cx hc
      | refine all fun v_ => ?_)
     · have hf : fitAt l i k := by
        unfold fitAt
        rw [hkk, hki]
        simp only [beq_iff_eq, decide_eq_decide] at hc
        exact hc
       refine ⟨(j + 1, (Sp.endOf l k).1.toNat), ⟨q4, ?_⟩, by dsimp only; omega, VS.of_le ?_⟩
       · rw [hk]
         exact ⟨fun h => h.2, fun h => ⟨hf, h⟩⟩
       · exact leD
     · have hf : ¬ fitAt l i k := by
        unfold fitAt
        rw [hkk, hki]
        intro h
        rw [beq_eq_false_iff_ne] at hc
        exact hc (decide_eq_decide.2 h)
       refine retv0 ?_
       ((with_reducible apply rq2); rfl; rfl; rfl)
       refine ret_eq ?_
       have : ¬ typedP l := fun h => hf (hk.1 (h i hi)).1
       rw [hs, if_neg this]
   · have hjn : j = n := by have := w.le; omega
     repeat' (first
      | refine armXT9_1 ?_
      | refine allocD ?_
      | exact True.intro
      | refine stp ?_
      | refine two ?_ ?_
      | (refine imp fun hc => ?_) <;> try exact cx hc
      | refine all fun v_ => ?_)
     refine ⟨i + 1, ⟨by omega, fun q hq => ?_⟩, by omega, VS.of_le ?_⟩
     · by_cases hqi : q < i
       · exact g2 q hqi
       · obtain rfl : q = i := by omega
         refine hk.2 fun p hp => ?_
         rw [hjn, Nat.sub_self] at hp
         simp [starts] at hp
     · exact leD
 · repeat' (first
    | refine armXT9_1 ?_
    | refine allocD ?_
    | exact True.intro
    | refine stp ?_
    | refine two ?_ ?_
    | (refine imp fun hc => ?_) <;> try exact cx hc
    | refine all fun v_ => ?_)
   refine retv0 ?_
   ((with_reducible apply rq2); rfl; rfl; rfl)
   refine ret_eq ?_
   have : typedP l := fun q hq => g2 q (by omega)
   rw [hs, if_pos this, kindAt_eq l 0 h0]

theorem cal_name : Cal Tryz.prog 209 := Cal.of Tryz.func209 (by kernel_rfl) (by kernel_rfl)
theorem cal_kind : Cal Tryz.prog 135 := Cal.of Tryz.func135 (by kernel_rfl) (by kernel_rfl)
theorem name (G : List (Nat × List D)) (s : ByteArray) : ACr Tryz.prog G 209 [.val (.string s)] (.bool (decide (nameP s))) := by
 refine AC_ofV (ts := [2]) Tryz.f209.ntmps Tryz.func209 rfl rfl rfl (by simp [Tryz.ntmps209]) fun W I => ?_
 repeat' (first
  | ((with_reducible apply jp); (focus ((with_reducible apply pu_len_str); rfl; rfl)); (focus rfl))
  | ((with_reducible apply jp); (focus ((with_reducible apply pu_at_str); rfl; rfl; rfl; (focus exact bndD))); (focus rfl))
  | ((with_reducible apply jstrbytes); (focus rfl); (focus rfl); (focus rfl); (focus rfl); (focus omega); (focus rfl))
  | exact True.intro | refine stpH ?_ | refine two ?_ ?_ | refine allc fun c_ => ?_
  | (refine imp fun hc => ?_) <;> try exact cx1 hc
  | refine all fun v_ => ?_)
 all_goals first
  | (refine retv (VS.drop (List.nil_sublist _)) ?_
     ((with_reducible apply rq1); rfl; rfl)
     refine ret_eq (congrArg AV.bool (decide_eq_false ?_).symm)
     rintro ⟨⟨a1, a2⟩, a3, a4, a5⟩
     first
      | omega
      | exact a3 ((ba_beq _ _).1 hc)
      | exact a4 ((ba_beq _ _).1 hc)
      | (have hz := (ba_beq _ _).1 hc; subst hz; simp at a1))
  | skip
 rename_i q1 q2 q3
 have n1 : s ≠ yesS := fun e => by rw [(ba_beq _ _).2 e] at q3; cases q3
 have n2 : s ≠ noS := fun e => by rw [(ba_beq _ _).2 e] at hc; cases hc
 have n0 : 1 ≤ s.data.toList.length := by
  rcases Nat.eq_zero_or_pos s.data.toList.length with h0 | h0
  · exfalso
    have : s = ⟨#[]⟩ := by
     obtain ⟨a⟩ := s
     have : a = #[] := by
      apply Array.toList_inj.1
      simpa using h0
     rw [this]
    rw [(ba_beq _ _).2 this] at q1; cases q1
  · exact h0
 refine J_loopV (X := Nat) (fun i => [(21, .d (bytesD s.data.toList)), (22, .int s.data.toList.length), (23, .int i)]) (fun _ => []) (fun i => i ≤ s.data.toList.length ∧ ∀ j (h : j < s.data.toList.length), j < i → letP j s.data.toList[j]) (fun i => s.data.toList.length - i) 0 ⟨Nat.zero_le _, fun _ _ h => absurd h (Nat.not_lt_zero _)⟩ (VS.of_le ?_) ?_
 · exact leD
 rintro i ⟨h1, h2⟩
 by_cases hi : ¬ i < s.data.toList.length
 · repeat' (first
    | ((with_reducible apply jp); (focus ((with_reducible apply pu_len_str); rfl; rfl)); (focus rfl))
    | ((with_reducible apply jp); (focus ((with_reducible apply pu_at_str); rfl; rfl; rfl; (focus exact bndD))); (focus rfl))
    | ((with_reducible apply jstrbytes); (focus rfl); (focus rfl); (focus rfl); (focus rfl); (focus omega); (focus rfl))
    | exact True.intro | refine stpH ?_ | refine two ?_ ?_ | refine allc fun c_ => ?_
    | (refine imp fun hc => ?_) <;> try exact cx1 hc
    | refine all fun v_ => ?_)
   refine retv (VS.drop (List.nil_sublist _)) ?_
   ((with_reducible apply rq1); rfl; rfl)
   exact ret_eq (congrArg AV.bool (decide_eq_true ⟨⟨n0, by omega⟩, n1, n2, fun j h => h2 j h (by omega)⟩).symm)
 replace hi := Decidable.not_not.1 hi
 by_cases hl : letP i s.data.toList[i]
 · have hl' := hl
   unfold letP at hl'
   repeat' (first
    | ((with_reducible apply jp); (focus ((with_reducible apply pu_len_str); rfl; rfl)); (focus rfl))
    | ((with_reducible apply jp); (focus ((with_reducible apply pu_at_str); rfl; rfl; rfl; (focus exact bndD))); (focus rfl))
    | ((with_reducible apply jstrbytes); (focus rfl); (focus rfl); (focus rfl); (focus rfl); (focus omega); (focus rfl))
    | exact True.intro | refine stpH ?_ | refine two ?_ ?_ | refine allc fun c_ => ?_
    | (refine imp fun hc => ?_) <;> try exact cx1 hc
    | refine all fun v_ => ?_)
   all_goals
    refine ⟨i + 1, ⟨by omega, fun j hj hji => ?_⟩, by omega, VS.of_le ?_⟩
    · by_cases e : j = i
      · subst e; exact hl
      · exact h2 j hj (by omega)
    · exact leD
 · have hl' := hl
   unfold letP at hl'
   repeat' (first
    | ((with_reducible apply jp); (focus ((with_reducible apply pu_len_str); rfl; rfl)); (focus rfl))
    | ((with_reducible apply jp); (focus ((with_reducible apply pu_at_str); rfl; rfl; rfl; (focus exact bndD))); (focus rfl))
    | ((with_reducible apply jstrbytes); (focus rfl); (focus rfl); (focus rfl); (focus rfl); (focus omega); (focus rfl))
    | exact True.intro | refine stpH ?_ | refine two ?_ ?_ | refine allc fun c_ => ?_
    | (refine imp fun hc => ?_) <;> try exact cx1 hc
    | refine all fun v_ => ?_)
   all_goals
    refine retv (VS.drop (List.nil_sublist _)) ?_
    ((with_reducible apply rq1); rfl; rfl)
    exact ret_eq (congrArg AV.bool (decide_eq_false fun k => hl (k.2.2.2 i hi)).symm)
theorem armXM1_3 {p q : Prop} (hp : p) (h : p → q := by
 apply cmp; (focus (first
  | ((with_reducible apply call0); (focus rfl); (focus exact cal_ECheck); (focus exact ECheck _ _); (focus rfl))
  | ((with_reducible apply je_call0); (focus rfl); (focus (decide +kernel)); (focus rfl); (focus exact cal_ECheck); (focus exact ECheck _ _); (focus rfl))
  ))
 exact fun h => h) : q := h hp
theorem kind (l : List Fo) (vars : Int) (t : Bool) : ACr Tryz.prog GP 135 [.d (opsD l), .int vars, .bool t] (.int (kindF l vars t)) := by
 refine AC_ofV (ts := [6]) Tryz.f135.ntmps Tryz.func135 rfl rfl rfl (by simp [Tryz.ntmps135]) fun W I => ?_
 repeat' (first
  | refine armXM1_3 ?_
  | exact True.intro | refine stpH ?_ | refine two ?_ ?_ | refine allc fun c_ => ?_
  | (refine imp fun hc => ?_) <;> try exact cx1 hc
  | refine all fun v_ => ?_)
 all_goals
  refine retv (VS.drop (List.nil_sublist _)) ?_
  ((with_reducible apply rq1); rfl; rfl)
  refine ret_eq (congrArg AV.int ?_)
  unfold kindF
  first
   | (rw [if_pos (by omega)]; done)
   | (rw [if_neg (by omega), if_pos (by simp_all)]; done)
   | (rw [if_neg (by omega), if_neg (by simp_all)]; omega)
   | (simp_all; done)
end Go.Proofs.YtniklgkoiaeipaaGreatDoor
