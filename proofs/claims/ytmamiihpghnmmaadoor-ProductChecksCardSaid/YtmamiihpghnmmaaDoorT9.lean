/- Contract: expr.Check. -/
import Derived.Test.YtmamiihpghnmmaaDoorT8
namespace Go.Proofs.YtmamiihpghnmmaaDoor
open Go Go.Av Go.Sp
set_option linter.unusedVariables false
set_option linter.unusedSimpArgs false
set_option maxRecDepth 100000
set_option maxHeartbeats 4000000

theorem ECheck (l : List Fo) (vars : Int) : ACr Tryd.prog GP 69 [.d (opsD l), .int vars] (.tup [.bool (exprC l vars).1, .int (exprC l vars).2]) := by
  have hE := Ends l
  generalize he : endsOf l = p at hE
  obtain ⟨es, e⟩ := p
  refine AC_ofV (ts := [4, 5]) 100 Tryd.func69 rfl rfl rfl (by simp) fun W I => ?_
  refine jfact (t := 0) rfl fun hl => ?_
  repeat' (first
    | ((with_reducible apply call0); (focus rfl); (focus exact cal_Ends); (focus exact hE); (focus rfl))
    | ((with_reducible apply je_call0); (focus rfl); (focus (decide +kernel)); (focus rfl); (focus exact cal_Ends); (focus exact hE); (focus rfl))
    | ((with_reducible apply call0); (focus rfl); (focus exact cal_op); (focus exact op _ _ _ _ (by omega) (by omega)); (focus rfl))
    | ((with_reducible apply je_call0); (focus rfl); (focus (decide +kernel)); (focus rfl); (focus exact cal_op); (focus exact op _ _ _ _ (by omega) (by omega)); (focus rfl))
    | ((with_reducible apply call0); (focus rfl); (focus exact cal_truth); (focus exact truth _ _); (focus rfl))
    | ((with_reducible apply je_call0); (focus rfl); (focus (decide +kernel)); (focus rfl); (focus exact cal_truth); (focus exact truth _ _); (focus rfl))
    | ((with_reducible apply jboxT); (focus rfl); (focus rfl); (focus rfl))
    | ((with_reducible apply jalloc1T); (focus (with_reducible exact ElC.h)); (focus rfl); (focus rfl))
    | ((with_reducible apply jallocN); (focus (with_reducible exact ElC.h)); (focus rfl))
    | ((with_reducible apply jmk_bool); (focus rfl); (focus rfl); (focus (with_reducible exact ElC.h)); (focus omega); (focus omega); (focus rfl))
    | ((with_reducible apply jmk_int); (focus rfl); (focus rfl); (focus (with_reducible exact ElC.h)); (focus omega); (focus omega); (focus rfl))
    | ((with_reducible apply js_um); (focus rfl); (focus ((repeat (first | with_reducible exact Upd.here | with_reducible apply Upd.there)); done)); (focus rfl); (focus rfl); (focus (with_reducible exact ElC.h)); (focus (first | omega | (simp only [List.length_map, List.length_range, List.length_append, List.length_cons, List.length_nil, List.length_take, List.length_drop, List.length_set, List.length_replicate]; omega))))
    | ((with_reducible apply js_uw); (focus rfl); (focus rfl); (focus rfl); (focus (with_reducible exact ElC.h)); (focus rfl); (focus ((repeat (first | with_reducible exact Upd.here | with_reducible apply Upd.there)); done)); (focus rfl))
    | ((with_reducible apply js_ur); (focus rfl); (focus rfl); (focus rfl); (focus (with_reducible exact ElC.h)); (focus ((repeat (first | with_reducible exact Upd.here | with_reducible apply Upd.there)); done)); (focus ((repeat (first | exact SetAR.nil | apply SetAR.put | apply SetAR.skip)); done)))
    | ((with_reducible apply js_us); (focus rfl); (focus rfl); (focus rfl); (focus (with_reducible exact ElC.h)); (focus rfl); (focus ((repeat (first | with_reducible exact Upd.here | with_reducible apply Upd.there)); done)); (focus ((repeat (first | exact SetAR.nil | apply SetAR.put | apply SetAR.skip)); done)))
    | exact True.intro
    | refine stp ?_
    | refine two ?_ ?_
    | (refine imp fun hc => ?_) <;> try (first | contradiction | (exfalso; omega))
    | refine all fun v_ => ?_)
  all_goals try (
    refine retv0 ?_
    ((with_reducible apply rq2); rfl; rfl; rfl)
    refine ret_eq ?_
    unfold exprC
    first
      | (rw [if_pos (by omega)])
      | (rw [if_neg (by omega), he, if_pos (by assumption)]))
  have hok0 : ¬ e ≠ 0 := by assumption
  have e0 : e = 0 := by simpa using hok0
  subst e0
  obtain ⟨h60, h0, hend, hlen, hes⟩ := endsOf_ok he
  have hs : exprC l vars = if opsE l vars ≠ 0 then (false, opsE l vars) else if typedP l then (decide (makesP (kindAt l 0)), 0) else (false, 5) := by
    rw [exprC, if_neg (by omega), he, if_neg (by simp)]
  have hv : 0 ≤ vars ∧ vars ≤ 6 := by omega
  have hall : ∀ (i : Nat) (hi : i < l.length), (Sp.endOf l i).2 = 0 := fun i hi =>
    (scan_nest l l.length 0 1 l.length (by omega) (by omega) (by unfold Sp.endOf at hend; exact hend) i (by omega) (by omega)).1
  dsimp only
  refine J_loopV (X := Nat) (fun i => [(0, .d (opsD l)), (1, .int vars), (6, .d (intsD es)), (37, .d (opsD l)), (38, .int l.length), (39, .int i)]) (fun _ => []) (fun i => i ≤ l.length ∧ opsE l vars = opsE (l.drop i) vars) (fun i => l.length - i) 0 ⟨Nat.zero_le _, rfl⟩ (VS.of_le ?_) ?_
  · repeat (first
      | exact Env.le_nil _
      | refine Env.le_cons (AV.le_refl _) ?_
      | refine Env.le_cons (AV.le_int rfl (by first | rfl | omega | (dsimp only; omega))) ?_)
  rintro i ⟨k1, k2⟩
  by_cases hi : i < l.length
  · rw [opsE_at l i hi] at k2
    repeat' (first
      | ((with_reducible apply call0); (focus rfl); (focus exact cal_Ends); (focus exact hE); (focus rfl))
      | ((with_reducible apply je_call0); (focus rfl); (focus (decide +kernel)); (focus rfl); (focus exact cal_Ends); (focus exact hE); (focus rfl))
      | ((with_reducible apply call0); (focus rfl); (focus exact cal_op); (focus exact op _ _ _ _ (by omega) (by omega)); (focus rfl))
      | ((with_reducible apply je_call0); (focus rfl); (focus (decide +kernel)); (focus rfl); (focus exact cal_op); (focus exact op _ _ _ _ (by omega) (by omega)); (focus rfl))
      | ((with_reducible apply call0); (focus rfl); (focus exact cal_truth); (focus exact truth _ _); (focus rfl))
      | ((with_reducible apply je_call0); (focus rfl); (focus (decide +kernel)); (focus rfl); (focus exact cal_truth); (focus exact truth _ _); (focus rfl))
      | ((with_reducible apply jboxT); (focus rfl); (focus rfl); (focus rfl))
      | ((with_reducible apply jalloc1T); (focus (with_reducible exact ElC.h)); (focus rfl); (focus rfl))
      | ((with_reducible apply jallocN); (focus (with_reducible exact ElC.h)); (focus rfl))
      | ((with_reducible apply jmk_bool); (focus rfl); (focus rfl); (focus (with_reducible exact ElC.h)); (focus omega); (focus omega); (focus rfl))
      | ((with_reducible apply jmk_int); (focus rfl); (focus rfl); (focus (with_reducible exact ElC.h)); (focus omega); (focus omega); (focus rfl))
      | ((with_reducible apply js_um); (focus rfl); (focus ((repeat (first | with_reducible exact Upd.here | with_reducible apply Upd.there)); done)); (focus rfl); (focus rfl); (focus (with_reducible exact ElC.h)); (focus (first | omega | (simp only [List.length_map, List.length_range, List.length_append, List.length_cons, List.length_nil, List.length_take, List.length_drop, List.length_set, List.length_replicate]; omega))))
      | ((with_reducible apply js_uw); (focus rfl); (focus rfl); (focus rfl); (focus (with_reducible exact ElC.h)); (focus rfl); (focus ((repeat (first | with_reducible exact Upd.here | with_reducible apply Upd.there)); done)); (focus rfl))
      | ((with_reducible apply js_ur); (focus rfl); (focus rfl); (focus rfl); (focus (with_reducible exact ElC.h)); (focus ((repeat (first | with_reducible exact Upd.here | with_reducible apply Upd.there)); done)); (focus ((repeat (first | exact SetAR.nil | apply SetAR.put | apply SetAR.skip)); done)))
      | ((with_reducible apply js_us); (focus rfl); (focus rfl); (focus rfl); (focus (with_reducible exact ElC.h)); (focus rfl); (focus ((repeat (first | with_reducible exact Upd.here | with_reducible apply Upd.there)); done)); (focus ((repeat (first | exact SetAR.nil | apply SetAR.put | apply SetAR.skip)); done)))
      | exact True.intro
      | refine stp ?_
      | refine two ?_ ?_
      | (refine imp fun hc => ?_) <;> try (first | contradiction | (exfalso; omega))
      | refine all fun v_ => ?_)
    · refine retv (VS.drop (List.nil_sublist _)) ?_
      ((with_reducible apply rq2); rfl; rfl; rfl)
      refine ret_eq ?_
      rw [if_pos hc] at k2
      rw [hs, k2, if_pos hc]
    · rw [if_neg hc] at k2
      refine ⟨i + 1, ⟨by omega, k2⟩, by omega, vle (List.nil_sublist _) ?_⟩
      repeat (first
        | exact Env.le_nil _
        | refine Env.le_cons (AV.le_refl _) ?_
        | refine Env.le_cons (AV.le_int rfl (by first | rfl | omega | (dsimp only; omega))) ?_)
  rw [opsE_end l i (by omega)] at k2
  rw [k2, if_neg (by decide)] at hs
  repeat' (first
    | ((with_reducible apply call0); (focus rfl); (focus exact cal_Ends); (focus exact hE); (focus rfl))
    | ((with_reducible apply je_call0); (focus rfl); (focus (decide +kernel)); (focus rfl); (focus exact cal_Ends); (focus exact hE); (focus rfl))
    | ((with_reducible apply call0); (focus rfl); (focus exact cal_op); (focus exact op _ _ _ _ (by omega) (by omega)); (focus rfl))
    | ((with_reducible apply je_call0); (focus rfl); (focus (decide +kernel)); (focus rfl); (focus exact cal_op); (focus exact op _ _ _ _ (by omega) (by omega)); (focus rfl))
    | ((with_reducible apply call0); (focus rfl); (focus exact cal_truth); (focus exact truth _ _); (focus rfl))
    | ((with_reducible apply je_call0); (focus rfl); (focus (decide +kernel)); (focus rfl); (focus exact cal_truth); (focus exact truth _ _); (focus rfl))
    | ((with_reducible apply jboxT); (focus rfl); (focus rfl); (focus rfl))
    | ((with_reducible apply jalloc1T); (focus (with_reducible exact ElC.h)); (focus rfl); (focus rfl))
    | ((with_reducible apply jallocN); (focus (with_reducible exact ElC.h)); (focus rfl))
    | ((with_reducible apply jmk_bool); (focus rfl); (focus rfl); (focus (with_reducible exact ElC.h)); (focus omega); (focus omega); (focus rfl))
    | ((with_reducible apply jmk_int); (focus rfl); (focus rfl); (focus (with_reducible exact ElC.h)); (focus omega); (focus omega); (focus rfl))
    | ((with_reducible apply js_um); (focus rfl); (focus ((repeat (first | with_reducible exact Upd.here | with_reducible apply Upd.there)); done)); (focus rfl); (focus rfl); (focus (with_reducible exact ElC.h)); (focus (first | omega | (simp only [List.length_map, List.length_range, List.length_append, List.length_cons, List.length_nil, List.length_take, List.length_drop, List.length_set, List.length_replicate]; omega))))
    | ((with_reducible apply js_uw); (focus rfl); (focus rfl); (focus rfl); (focus (with_reducible exact ElC.h)); (focus rfl); (focus ((repeat (first | with_reducible exact Upd.here | with_reducible apply Upd.there)); done)); (focus rfl))
    | ((with_reducible apply js_ur); (focus rfl); (focus rfl); (focus rfl); (focus (with_reducible exact ElC.h)); (focus ((repeat (first | with_reducible exact Upd.here | with_reducible apply Upd.there)); done)); (focus ((repeat (first | exact SetAR.nil | apply SetAR.put | apply SetAR.skip)); done)))
    | ((with_reducible apply js_us); (focus rfl); (focus rfl); (focus rfl); (focus (with_reducible exact ElC.h)); (focus rfl); (focus ((repeat (first | with_reducible exact Upd.here | with_reducible apply Upd.there)); done)); (focus ((repeat (first | exact SetAR.nil | apply SetAR.put | apply SetAR.skip)); done)))
    | exact True.intro
    | refine stp ?_
    | refine two ?_ ?_
    | (refine imp fun hc => ?_) <;> try (first | contradiction | (exfalso; omega))
    | refine all fun v_ => ?_)
  refine J_loopV (X := Nat) (fun i => [(0, .d (opsD l)), (6, .d (intsD es)), (50, .d (opsD l)), (51, .int l.length), (52, .int i)]) (fun _ => []) (fun i => i ≤ l.length ∧ ∀ q, q < i → tyAt l q) (fun i => l.length - i) 0 ⟨Nat.zero_le _, fun q hq => by omega⟩ (VS.of_le ?_) ?_
  · repeat (first
      | exact Env.le_nil _
      | refine Env.le_cons (AV.le_refl _) ?_
      | refine Env.le_cons (AV.le_int rfl (by first | rfl | omega | (dsimp only; omega))) ?_)
  rintro i ⟨g1, g2⟩
  by_cases hi : i < l.length
  · have hki := kindAt_eq l i hi
    have hei := hes i (by omega)
    have hbi := endOf_bound l i (hall i hi)
    have w0 := Within.start hi (hall i hi)
    generalize hn : (partsOf l[i].kind).1.toNat = n at w0
    have hty : tyAt l i ↔ ∀ p ∈ starts l (n - 0) (i + 1), fitAt l i p := by unfold tyAt; rw [hki, hn, Nat.sub_zero]
    repeat' (first
      | ((with_reducible apply call0); (focus rfl); (focus exact cal_Ends); (focus exact hE); (focus rfl))
      | ((with_reducible apply je_call0); (focus rfl); (focus (decide +kernel)); (focus rfl); (focus exact cal_Ends); (focus exact hE); (focus rfl))
      | ((with_reducible apply call0); (focus rfl); (focus exact cal_op); (focus exact op _ _ _ _ (by omega) (by omega)); (focus rfl))
      | ((with_reducible apply je_call0); (focus rfl); (focus (decide +kernel)); (focus rfl); (focus exact cal_op); (focus exact op _ _ _ _ (by omega) (by omega)); (focus rfl))
      | ((with_reducible apply call0); (focus rfl); (focus exact cal_truth); (focus exact truth _ _); (focus rfl))
      | ((with_reducible apply je_call0); (focus rfl); (focus (decide +kernel)); (focus rfl); (focus exact cal_truth); (focus exact truth _ _); (focus rfl))
      | ((with_reducible apply jboxT); (focus rfl); (focus rfl); (focus rfl))
      | ((with_reducible apply jalloc1T); (focus (with_reducible exact ElC.h)); (focus rfl); (focus rfl))
      | ((with_reducible apply jallocN); (focus (with_reducible exact ElC.h)); (focus rfl))
      | ((with_reducible apply jmk_bool); (focus rfl); (focus rfl); (focus (with_reducible exact ElC.h)); (focus omega); (focus omega); (focus rfl))
      | ((with_reducible apply jmk_int); (focus rfl); (focus rfl); (focus (with_reducible exact ElC.h)); (focus omega); (focus omega); (focus rfl))
      | ((with_reducible apply js_um); (focus rfl); (focus ((repeat (first | with_reducible exact Upd.here | with_reducible apply Upd.there)); done)); (focus rfl); (focus rfl); (focus (with_reducible exact ElC.h)); (focus (first | omega | (simp only [List.length_map, List.length_range, List.length_append, List.length_cons, List.length_nil, List.length_take, List.length_drop, List.length_set, List.length_replicate]; omega))))
      | ((with_reducible apply js_uw); (focus rfl); (focus rfl); (focus rfl); (focus (with_reducible exact ElC.h)); (focus rfl); (focus ((repeat (first | with_reducible exact Upd.here | with_reducible apply Upd.there)); done)); (focus rfl))
      | ((with_reducible apply js_ur); (focus rfl); (focus rfl); (focus rfl); (focus (with_reducible exact ElC.h)); (focus ((repeat (first | with_reducible exact Upd.here | with_reducible apply Upd.there)); done)); (focus ((repeat (first | exact SetAR.nil | apply SetAR.put | apply SetAR.skip)); done)))
      | ((with_reducible apply js_us); (focus rfl); (focus rfl); (focus rfl); (focus (with_reducible exact ElC.h)); (focus rfl); (focus ((repeat (first | with_reducible exact Upd.here | with_reducible apply Upd.there)); done)); (focus ((repeat (first | exact SetAR.nil | apply SetAR.put | apply SetAR.skip)); done)))
      | exact True.intro
      | refine stp ?_
      | refine two ?_ ?_
      | (refine imp fun hc => ?_) <;> try (first | contradiction | (exfalso; omega))
      | refine all fun v_ => ?_)
    refine J_loopV (X := Nat × Nat) (fun y => [(0, .d (opsD l)), (6, .d (intsD es)), (11, .int i), (14, .bool (decide (takesP l[i].kind))), (16, .int y.2), (50, .d (opsD l)), (51, .int l.length), (52, .int i)]) (fun _ => [])
      (fun y => Within l n y.1 y.2 (Sp.endOf l i).1.toNat ∧ (tyAt l i ↔ ∀ p ∈ starts l (n - y.1) y.2, fitAt l i p)) (fun y => n - y.1) (0, i + 1) ⟨w0, hty⟩ (vle (List.nil_sublist _) ?_) ?_
    · repeat (first
        | exact Env.le_nil _
        | refine Env.le_cons (AV.le_refl _) ?_
        | refine Env.le_cons (AV.le_int rfl (by first | rfl | omega | (dsimp only; omega))) ?_)
    rintro ⟨j, k⟩ ⟨w, hk⟩
    dsimp only at w hk ⊢
    have wlt := w.lt
    by_cases hj : j < n
    · obtain ⟨q1, q2, q3, q4⟩ := w.next hj
      have hkl : k < l.length := by omega
      have hkk := kindAt_eq l k hkl
      have hek := hes k (by omega)
      have e1 : n - j = (n - (j + 1)) + 1 := by omega
      rw [e1] at hk
      simp only [starts, List.mem_cons, forall_eq_or_imp] at hk
      repeat' (first
        | ((with_reducible apply call0); (focus rfl); (focus exact cal_Ends); (focus exact hE); (focus rfl))
        | ((with_reducible apply je_call0); (focus rfl); (focus (decide +kernel)); (focus rfl); (focus exact cal_Ends); (focus exact hE); (focus rfl))
        | ((with_reducible apply call0); (focus rfl); (focus exact cal_op); (focus exact op _ _ _ _ (by omega) (by omega)); (focus rfl))
        | ((with_reducible apply je_call0); (focus rfl); (focus (decide +kernel)); (focus rfl); (focus exact cal_op); (focus exact op _ _ _ _ (by omega) (by omega)); (focus rfl))
        | ((with_reducible apply call0); (focus rfl); (focus exact cal_truth); (focus exact truth _ _); (focus rfl))
        | ((with_reducible apply je_call0); (focus rfl); (focus (decide +kernel)); (focus rfl); (focus exact cal_truth); (focus exact truth _ _); (focus rfl))
        | ((with_reducible apply jboxT); (focus rfl); (focus rfl); (focus rfl))
        | ((with_reducible apply jalloc1T); (focus (with_reducible exact ElC.h)); (focus rfl); (focus rfl))
        | ((with_reducible apply jallocN); (focus (with_reducible exact ElC.h)); (focus rfl))
        | ((with_reducible apply jmk_bool); (focus rfl); (focus rfl); (focus (with_reducible exact ElC.h)); (focus omega); (focus omega); (focus rfl))
        | ((with_reducible apply jmk_int); (focus rfl); (focus rfl); (focus (with_reducible exact ElC.h)); (focus omega); (focus omega); (focus rfl))
        | ((with_reducible apply js_um); (focus rfl); (focus ((repeat (first | with_reducible exact Upd.here | with_reducible apply Upd.there)); done)); (focus rfl); (focus rfl); (focus (with_reducible exact ElC.h)); (focus (first | omega | (simp only [List.length_map, List.length_range, List.length_append, List.length_cons, List.length_nil, List.length_take, List.length_drop, List.length_set, List.length_replicate]; omega))))
        | ((with_reducible apply js_uw); (focus rfl); (focus rfl); (focus rfl); (focus (with_reducible exact ElC.h)); (focus rfl); (focus ((repeat (first | with_reducible exact Upd.here | with_reducible apply Upd.there)); done)); (focus rfl))
        | ((with_reducible apply js_ur); (focus rfl); (focus rfl); (focus rfl); (focus (with_reducible exact ElC.h)); (focus ((repeat (first | with_reducible exact Upd.here | with_reducible apply Upd.there)); done)); (focus ((repeat (first | exact SetAR.nil | apply SetAR.put | apply SetAR.skip)); done)))
        | ((with_reducible apply js_us); (focus rfl); (focus rfl); (focus rfl); (focus (with_reducible exact ElC.h)); (focus rfl); (focus ((repeat (first | with_reducible exact Upd.here | with_reducible apply Upd.there)); done)); (focus ((repeat (first | exact SetAR.nil | apply SetAR.put | apply SetAR.skip)); done)))
        | exact True.intro
        | refine stp ?_
        | refine two ?_ ?_
        | (refine imp fun hc => ?_) <;> try (first | contradiction | (exfalso; omega))
        | refine all fun v_ => ?_)
      · have hf : fitAt l i k := by
          unfold fitAt
          rw [hkk, hki]
          simp only [beq_iff_eq, decide_eq_decide] at hc
          exact hc
        refine ⟨(j + 1, (Sp.endOf l k).1.toNat), ⟨q4, ?_⟩, by dsimp only; omega, VS.of_le ?_⟩
        · rw [hk]
          exact ⟨fun h => h.2, fun h => ⟨hf, h⟩⟩
        · repeat (first
            | exact Env.le_nil _
            | refine Env.le_cons (AV.le_refl _) ?_
            | refine Env.le_cons (AV.le_int rfl (by first | rfl | omega | (dsimp only; omega))) ?_)
      · have hf : ¬ fitAt l i k := by
          unfold fitAt
          rw [hkk, hki]
          intro h
          rw [beq_eq_false_iff_ne] at hc
          exact hc (decide_eq_decide.2 h)
        refine retv0 ?_
        ((with_reducible apply rq2); rfl; rfl; rfl)
        refine ret_eq ?_
        have : ¬ typedP l := fun h => hf (hk.1 (h i hi)).1
        rw [hs, if_neg this]
    · have hjn : j = n := by have := w.le; omega
      repeat' (first
        | ((with_reducible apply call0); (focus rfl); (focus exact cal_Ends); (focus exact hE); (focus rfl))
        | ((with_reducible apply je_call0); (focus rfl); (focus (decide +kernel)); (focus rfl); (focus exact cal_Ends); (focus exact hE); (focus rfl))
        | ((with_reducible apply call0); (focus rfl); (focus exact cal_op); (focus exact op _ _ _ _ (by omega) (by omega)); (focus rfl))
        | ((with_reducible apply je_call0); (focus rfl); (focus (decide +kernel)); (focus rfl); (focus exact cal_op); (focus exact op _ _ _ _ (by omega) (by omega)); (focus rfl))
        | ((with_reducible apply call0); (focus rfl); (focus exact cal_truth); (focus exact truth _ _); (focus rfl))
        | ((with_reducible apply je_call0); (focus rfl); (focus (decide +kernel)); (focus rfl); (focus exact cal_truth); (focus exact truth _ _); (focus rfl))
        | ((with_reducible apply jboxT); (focus rfl); (focus rfl); (focus rfl))
        | ((with_reducible apply jalloc1T); (focus (with_reducible exact ElC.h)); (focus rfl); (focus rfl))
        | ((with_reducible apply jallocN); (focus (with_reducible exact ElC.h)); (focus rfl))
        | ((with_reducible apply jmk_bool); (focus rfl); (focus rfl); (focus (with_reducible exact ElC.h)); (focus omega); (focus omega); (focus rfl))
        | ((with_reducible apply jmk_int); (focus rfl); (focus rfl); (focus (with_reducible exact ElC.h)); (focus omega); (focus omega); (focus rfl))
        | ((with_reducible apply js_um); (focus rfl); (focus ((repeat (first | with_reducible exact Upd.here | with_reducible apply Upd.there)); done)); (focus rfl); (focus rfl); (focus (with_reducible exact ElC.h)); (focus (first | omega | (simp only [List.length_map, List.length_range, List.length_append, List.length_cons, List.length_nil, List.length_take, List.length_drop, List.length_set, List.length_replicate]; omega))))
        | ((with_reducible apply js_uw); (focus rfl); (focus rfl); (focus rfl); (focus (with_reducible exact ElC.h)); (focus rfl); (focus ((repeat (first | with_reducible exact Upd.here | with_reducible apply Upd.there)); done)); (focus rfl))
        | ((with_reducible apply js_ur); (focus rfl); (focus rfl); (focus rfl); (focus (with_reducible exact ElC.h)); (focus ((repeat (first | with_reducible exact Upd.here | with_reducible apply Upd.there)); done)); (focus ((repeat (first | exact SetAR.nil | apply SetAR.put | apply SetAR.skip)); done)))
        | ((with_reducible apply js_us); (focus rfl); (focus rfl); (focus rfl); (focus (with_reducible exact ElC.h)); (focus rfl); (focus ((repeat (first | with_reducible exact Upd.here | with_reducible apply Upd.there)); done)); (focus ((repeat (first | exact SetAR.nil | apply SetAR.put | apply SetAR.skip)); done)))
        | exact True.intro
        | refine stp ?_
        | refine two ?_ ?_
        | (refine imp fun hc => ?_) <;> try (first | contradiction | (exfalso; omega))
        | refine all fun v_ => ?_)
      refine ⟨i + 1, ⟨by omega, fun q hq => ?_⟩, by omega, VS.of_le ?_⟩
      · by_cases hqi : q < i
        · exact g2 q hqi
        · obtain rfl : q = i := by omega
          refine hk.2 fun p hp => ?_
          rw [hjn, Nat.sub_self] at hp
          simp [starts] at hp
      · repeat (first
          | exact Env.le_nil _
          | refine Env.le_cons (AV.le_refl _) ?_
          | refine Env.le_cons (AV.le_int rfl (by first | rfl | omega | (dsimp only; omega))) ?_)
  · repeat' (first
      | ((with_reducible apply call0); (focus rfl); (focus exact cal_Ends); (focus exact hE); (focus rfl))
      | ((with_reducible apply je_call0); (focus rfl); (focus (decide +kernel)); (focus rfl); (focus exact cal_Ends); (focus exact hE); (focus rfl))
      | ((with_reducible apply call0); (focus rfl); (focus exact cal_op); (focus exact op _ _ _ _ (by omega) (by omega)); (focus rfl))
      | ((with_reducible apply je_call0); (focus rfl); (focus (decide +kernel)); (focus rfl); (focus exact cal_op); (focus exact op _ _ _ _ (by omega) (by omega)); (focus rfl))
      | ((with_reducible apply call0); (focus rfl); (focus exact cal_truth); (focus exact truth _ _); (focus rfl))
      | ((with_reducible apply je_call0); (focus rfl); (focus (decide +kernel)); (focus rfl); (focus exact cal_truth); (focus exact truth _ _); (focus rfl))
      | ((with_reducible apply jboxT); (focus rfl); (focus rfl); (focus rfl))
      | ((with_reducible apply jalloc1T); (focus (with_reducible exact ElC.h)); (focus rfl); (focus rfl))
      | ((with_reducible apply jallocN); (focus (with_reducible exact ElC.h)); (focus rfl))
      | ((with_reducible apply jmk_bool); (focus rfl); (focus rfl); (focus (with_reducible exact ElC.h)); (focus omega); (focus omega); (focus rfl))
      | ((with_reducible apply jmk_int); (focus rfl); (focus rfl); (focus (with_reducible exact ElC.h)); (focus omega); (focus omega); (focus rfl))
      | ((with_reducible apply js_um); (focus rfl); (focus ((repeat (first | with_reducible exact Upd.here | with_reducible apply Upd.there)); done)); (focus rfl); (focus rfl); (focus (with_reducible exact ElC.h)); (focus (first | omega | (simp only [List.length_map, List.length_range, List.length_append, List.length_cons, List.length_nil, List.length_take, List.length_drop, List.length_set, List.length_replicate]; omega))))
      | ((with_reducible apply js_uw); (focus rfl); (focus rfl); (focus rfl); (focus (with_reducible exact ElC.h)); (focus rfl); (focus ((repeat (first | with_reducible exact Upd.here | with_reducible apply Upd.there)); done)); (focus rfl))
      | ((with_reducible apply js_ur); (focus rfl); (focus rfl); (focus rfl); (focus (with_reducible exact ElC.h)); (focus ((repeat (first | with_reducible exact Upd.here | with_reducible apply Upd.there)); done)); (focus ((repeat (first | exact SetAR.nil | apply SetAR.put | apply SetAR.skip)); done)))
      | ((with_reducible apply js_us); (focus rfl); (focus rfl); (focus rfl); (focus (with_reducible exact ElC.h)); (focus rfl); (focus ((repeat (first | with_reducible exact Upd.here | with_reducible apply Upd.there)); done)); (focus ((repeat (first | exact SetAR.nil | apply SetAR.put | apply SetAR.skip)); done)))
      | exact True.intro
      | refine stp ?_
      | refine two ?_ ?_
      | (refine imp fun hc => ?_) <;> try (first | contradiction | (exfalso; omega))
      | refine all fun v_ => ?_)
    refine retv0 ?_
    ((with_reducible apply rq2); rfl; rfl; rfl)
    refine ret_eq ?_
    have : typedP l := fun q hq => g2 q (by omega)
    rw [hs, if_pos this, kindAt_eq l 0 h0]
end Go.Proofs.YtmamiihpghnmmaaDoor
