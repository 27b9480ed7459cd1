/- Contracts: expr.truth, op, Check; foretellref.makesTruth, takesTruth, typed, ExprChecked. -/
import Derived.Test.YtmamiihpghnmmaaDoorT4
import Derived.Test.YtmamiihpghnmmaaDoorT6
import Derived.Test.YtmamiihpghnmmaaDoorSe
namespace Go.Proofs.YtmamiihpghnmmaaDoor
open Go Go.Av Go.Sp
set_option linter.unusedVariables false
set_option linter.unusedSimpArgs false
set_option maxRecDepth 100000
set_option maxHeartbeats 4000000

theorem cal_truth : Cal Tryd.prog 95 := Cal.of Tryd.func95 (by kernel_rfl) (by kernel_rfl)
theorem cal_op : Cal Tryd.prog 94 := Cal.of Tryd.func94 (by kernel_rfl) (by kernel_rfl)
theorem cal_ECheck : Cal Tryd.prog 69 := Cal.of Tryd.func69 (by kernel_rfl) (by kernel_rfl)
theorem cal_makesTruth : Cal Tryd.prog 105 := Cal.of Tryd.func105 (by kernel_rfl) (by kernel_rfl)
theorem cal_takesTruth : Cal Tryd.prog 123 := Cal.of Tryd.func123 (by kernel_rfl) (by kernel_rfl)
theorem cal_typed : Cal Tryd.prog 104 := Cal.of Tryd.func104 (by kernel_rfl) (by kernel_rfl)
theorem cal_ExprChecked : Cal Tryd.prog 74 := Cal.of Tryd.func74 (by kernel_rfl) (by kernel_rfl)
theorem truth (G : List (Nat × List D)) (x : Int) : ACr Tryd.prog G 95 [.int x] (.tup [.bool (decide (makesP x)), .bool (decide (takesP x)), .bool (decide (okP x))]) := by
  refine AC_of (ts := [2, 3, 4]) 21 Tryd.func95 rfl rfl rfl (by simp) fun W I => ?_
  repeat' (first
    | exact True.intro
    | refine stp ?_
    | refine two ?_ ?_
    | (refine imp fun hc => ?_) <;> try (first | contradiction | (exfalso; omega))
    | refine all fun v_ => ?_)
  all_goals
    ((with_reducible apply rq3); rfl; rfl; rfl; rfl)
    refine ret_eq (tup3 ?_ ?_ ?_) <;> (first | rfl | (refine decide_eq_decide.2 ?_; omega) | (refine (decide_eq_true ?_).symm; omega) | (refine (decide_eq_false ?_).symm; omega) | (refine decide_eq_true ?_; omega) | (refine decide_eq_false ?_; omega))
theorem makesTruth (G : List (Nat × List D)) (x : Int) : ACr Tryd.prog G 105 [.int x] (.bool (decide (makesP x))) := by
  refine AC_of (ts := [2]) 5 Tryd.func105 rfl rfl rfl (by simp) fun W I => ?_
  repeat' (first
    | ((with_reducible apply call0); (focus rfl); (focus exact cal_In); (focus exact In _ _ _ _); (focus rfl))
    | ((with_reducible apply je_call0); (focus rfl); (focus (decide +kernel)); (focus rfl); (focus exact cal_In); (focus exact In _ _ _ _); (focus rfl))
    | exact True.intro
    | refine stp ?_
    | refine two ?_ ?_
    | (refine imp fun hc => ?_) <;> try (first | contradiction | (exfalso; omega))
    | refine all fun v_ => ?_)
  ((with_reducible apply rq1); rfl; rfl)
  exact ret_eq rfl
theorem takesTruth (G : List (Nat × List D)) (x : Int) : ACr Tryd.prog G 123 [.int x] (.bool (decide (8 ≤ x ∧ x ≤ 10))) := by
  refine AC_of (ts := [2]) 5 Tryd.func123 rfl rfl rfl (by simp) fun W I => ?_
  repeat' (first
    | ((with_reducible apply call0); (focus rfl); (focus exact cal_In); (focus exact In _ _ _ _); (focus rfl))
    | ((with_reducible apply je_call0); (focus rfl); (focus (decide +kernel)); (focus rfl); (focus exact cal_In); (focus exact In _ _ _ _); (focus rfl))
    | exact True.intro
    | refine stp ?_
    | refine two ?_ ?_
    | (refine imp fun hc => ?_) <;> try (first | contradiction | (exfalso; omega))
    | refine all fun v_ => ?_)
  ((with_reducible apply rq1); rfl; rfl)
  exact ret_eq rfl
theorem op (G : List (Nat × List D)) (a b vars : Int) (h0 : 0 ≤ vars) (h1 : vars ≤ 6) : ACr Tryd.prog G 94 [.agg [.int a, .int b], .int vars] (.int (opZ a b vars)) := by
  refine AC_ofV (ts := [4]) 37 Tryd.func94 rfl rfl rfl (by simp) fun W I => ?_
  repeat' (first
    | ((with_reducible apply call0); (focus rfl); (focus exact cal_truth); (focus exact truth _ _); (focus rfl))
    | ((with_reducible apply je_call0); (focus rfl); (focus (decide +kernel)); (focus rfl); (focus exact cal_truth); (focus exact truth _ _); (focus rfl))
    | ((with_reducible apply jboxT); (focus rfl); (focus rfl); (focus rfl))
    | ((with_reducible apply jalloc1T); (focus (with_reducible exact ElC.h)); (focus rfl); (focus rfl))
    | ((with_reducible apply jallocN); (focus (with_reducible exact ElC.h)); (focus rfl))
    | ((with_reducible apply jmk_bool); (focus rfl); (focus rfl); (focus (with_reducible exact ElC.h)); (focus omega); (focus omega); (focus rfl))
    | ((with_reducible apply jmk_int); (focus rfl); (focus rfl); (focus (with_reducible exact ElC.h)); (focus omega); (focus omega); (focus rfl))
    | ((with_reducible apply js_um); (focus rfl); (focus ((repeat (first | with_reducible exact Upd.here | with_reducible apply Upd.there)); done)); (focus rfl); (focus rfl); (focus (with_reducible exact ElC.h)); (focus (first | omega | (simp only [List.length_map, List.length_range, List.length_append, List.length_cons, List.length_nil, List.length_take, List.length_drop, List.length_set, List.length_replicate]; omega))))
    | ((with_reducible apply js_uw); (focus rfl); (focus rfl); (focus rfl); (focus (with_reducible exact ElC.h)); (focus rfl); (focus ((repeat (first | with_reducible exact Upd.here | with_reducible apply Upd.there)); done)); (focus rfl))
    | ((with_reducible apply js_ur); (focus rfl); (focus rfl); (focus rfl); (focus (with_reducible exact ElC.h)); (focus ((repeat (first | with_reducible exact Upd.here | with_reducible apply Upd.there)); done)); (focus ((repeat (first | exact SetAR.nil | apply SetAR.put | apply SetAR.skip)); done)))
    | ((with_reducible apply js_us); (focus rfl); (focus rfl); (focus rfl); (focus (with_reducible exact ElC.h)); (focus rfl); (focus ((repeat (first | with_reducible exact Upd.here | with_reducible apply Upd.there)); done)); (focus ((repeat (first | exact SetAR.nil | apply SetAR.put | apply SetAR.skip)); done)))
    | exact True.intro
    | refine stp ?_
    | refine two ?_ ?_
    | (refine imp fun hc => ?_) <;> try (first | contradiction | (exfalso; omega))
    | refine all fun v_ => ?_)
  all_goals
    refine retv (VS.drop (List.nil_sublist _)) ?_
    ((with_reducible apply rq1); rfl; rfl)
    refine ret_eq (congrArg AV.int ?_)
    unfold opZ
    first
      | (rw [if_pos (by omega)])
      | (rw [if_neg (by omega), if_pos (by omega)])
      | (rw [if_neg (by omega), if_neg (by omega)])

theorem typed (G : List (Nat × List D)) : ∀ (m : Nat) (l : List Fo), l.length ≤ m → (endsOf l).2 = 0 → ACr Tryd.prog G 104 [.d (opsD l)] (.int (typedZ l)) := by
  intro m
  induction m using Nat.strongRecOn with
  | _ m ih =>
  intro l hm hok
  have hE := SplitOf G l
  have hT := typed_parts hok
  obtain ⟨_, hwell⟩ := deep_parts hok
  have hs : splitOf l = ((splitOf l).1, 0) := by rw [splitOf, if_neg (by simpa using hok)]
  generalize (splitOf l).1 = ps at hT hwell hs
  rw [hs] at hE
  obtain ⟨h60, h0, hend, _, _⟩ := endsOf_ok (l := l) (es := (endsOf l).1) (Prod.ext rfl hok)
  have hk0 := kindAt_eq l 0 h0
  have hleaf : 0 < ps.length → l[0].kind ≠ 11 ∧ l[0].kind ≠ 12 := by
    intro hps
    have : (splitOf l).1 = chunks l (partsOf l[0].kind).1.toNat 1 := by rw [splitOf, if_neg (by simpa using hok), List.getElem?_eq_getElem h0]; rfl
    rw [hs] at this
    dsimp only at this
    have e1 : (partsOf 11).1.toNat = 0 := by decide
    have e2 : (partsOf 12).1.toNat = 0 := by decide
    constructor <;> (intro hk; rw [hk] at this; first | rw [e1] at this | rw [e2] at this
                     rw [this] at hps; exact absurd hps (Nat.lt_irrefl 0))
  refine AC_of (ts := [2]) 39 Tryd.func104 rfl rfl rfl (by simp) fun W I => ?_
  refine jfact (t := 0) rfl fun hl => ?_
  repeat' (first
    | ((with_reducible apply call0); (focus rfl); (focus exact cal_SplitOf); (focus exact hE); (focus rfl))
    | ((with_reducible apply je_call0); (focus rfl); (focus (decide +kernel)); (focus rfl); (focus exact cal_SplitOf); (focus exact hE); (focus rfl))
    | ((with_reducible apply qcall); (focus rfl); (focus exact cal_makesTruth); (focus exact makesTruth _ _); (focus rfl))
    | ((with_reducible apply qcall); (focus rfl); (focus exact cal_takesTruth); (focus exact takesTruth _ _); (focus rfl))
    | ((with_reducible apply qcall); (focus rfl); (focus exact cal_typed); (focus exact hT'); (focus rfl))
    | exact True.intro
    | refine stp ?_
    | refine two ?_ ?_
    | (refine imp fun hc => ?_) <;> try (first | contradiction | (exfalso; omega))
    | refine all fun v_ => ?_)
  dsimp only
  refine jfact (t := 3) rfl fun hl3 => ?_
  refine J_loop (X := Nat) (fun i => [(0, .d (opsD l)), (3, .d (termsD ps)), (5, .int i)]) (fun _ => []) (fun i => i ≤ ps.length ∧ ∀ t ∈ ps.take i, (makesP (kindAt t 0) ↔ takesP (kindAt l 0)) ∧ typedP t) (fun i => ps.length - i) 0 ⟨Nat.zero_le _, by simp⟩ ?_ rfl ?_
  · repeat (first
      | exact Env.le_nil _
      | refine Env.le_cons (AV.le_refl _) ?_
      | refine Env.le_cons (AV.le_int rfl (by first | rfl | omega | (dsimp only; omega))) ?_)
  rintro i ⟨hi, hg⟩
  by_cases hil : i < ps.length
  · have hw := hwell ps[i] (List.getElem_mem hil)
    have hT' := ih ps[i].length (by omega) ps[i] (Nat.le_refl _) hw.1
    obtain ⟨_, h0', _, _, _⟩ := endsOf_ok (l := ps[i]) (es := (endsOf ps[i]).1) (Prod.ext rfl hw.1)
    have hk1 := kindAt_eq ps[i] 0 h0'
    have hleaf' := hleaf (by omega)
    have bad : ¬ ((makesP (kindAt ps[i] 0) ↔ takesP (kindAt l 0)) ∧ typedP ps[i]) → typedZ l = 5 := fun hb => by
      rw [typedZ, if_neg]
      intro ht
      exact hb (hT.1 ht _ (List.getElem_mem hil))
    repeat' (first
      | ((with_reducible apply call0); (focus rfl); (focus exact cal_SplitOf); (focus exact hE); (focus rfl))
      | ((with_reducible apply je_call0); (focus rfl); (focus (decide +kernel)); (focus rfl); (focus exact cal_SplitOf); (focus exact hE); (focus rfl))
      | ((with_reducible apply qcall); (focus rfl); (focus exact cal_makesTruth); (focus exact makesTruth _ _); (focus rfl))
      | ((with_reducible apply qcall); (focus rfl); (focus exact cal_takesTruth); (focus exact takesTruth _ _); (focus rfl))
      | ((with_reducible apply qcall); (focus rfl); (focus exact cal_typed); (focus exact hT'); (focus rfl))
      | exact True.intro
      | refine stp ?_
      | refine two ?_ ?_
      | (refine imp fun hc => ?_) <;> try (first | contradiction | (exfalso; omega))
      | refine all fun v_ => ?_)
    · ((with_reducible apply rq1); rfl; rfl)
      refine ret_eq (congrArg AV.int ?_)
      exact (bad fun ⟨_, h⟩ => hc (by rw [typedZ, if_pos h])).symm
    · have hbeq : (decide (makesP ps[i][0].kind) == decide (8 ≤ l[0].kind ∧ l[0].kind ≤ 10)) = true := by assumption
      have hz : typedP ps[i] := by
        unfold typedZ at hc
        by_cases h : typedP ps[i]
        · exact h
        · rw [if_neg h] at hc; exact absurd (by decide) hc
      refine ⟨i + 1, ⟨by omega, ?_⟩, by omega, ?_, rfl⟩
      · intro t ht
        rw [List.take_succ_eq_append_getElem hil] at ht
        rcases List.mem_append.1 ht with ht | ht
        · exact hg t ht
        · obtain rfl : t = ps[i] := by simpa using ht
          refine ⟨?_, hz⟩
          rw [hk1, hk0]
          simp only [beq_iff_eq, decide_eq_decide] at hbeq
          rw [hbeq]
          constructor <;> intro _ <;> constructor <;> omega
      · repeat (first
          | exact Env.le_nil _
          | refine Env.le_cons (AV.le_refl _) ?_
          | refine Env.le_cons (AV.le_int rfl (by first | rfl | omega | (dsimp only; omega))) ?_)
    · have hbeq : (decide (makesP ps[i][0].kind) == decide (8 ≤ l[0].kind ∧ l[0].kind ≤ 10)) = false := by assumption
      ((with_reducible apply rq1); rfl; rfl)
      refine ret_eq (congrArg AV.int ?_)
      refine (bad fun ⟨h, _⟩ => ?_).symm
      rw [hk1, hk0] at h
      have : decide (makesP ps[i][0].kind) = decide (8 ≤ l[0].kind ∧ l[0].kind ≤ 10) := by
        rw [decide_eq_decide, h]
        constructor <;> intro _ <;> constructor <;> omega
      rw [this] at hbeq
      simp at hbeq
  · repeat' (first
      | ((with_reducible apply call0); (focus rfl); (focus exact cal_SplitOf); (focus exact hE); (focus rfl))
      | ((with_reducible apply je_call0); (focus rfl); (focus (decide +kernel)); (focus rfl); (focus exact cal_SplitOf); (focus exact hE); (focus rfl))
      | ((with_reducible apply qcall); (focus rfl); (focus exact cal_makesTruth); (focus exact makesTruth _ _); (focus rfl))
      | ((with_reducible apply qcall); (focus rfl); (focus exact cal_takesTruth); (focus exact takesTruth _ _); (focus rfl))
      | ((with_reducible apply qcall); (focus rfl); (focus exact cal_typed); (focus exact hT'); (focus rfl))
      | exact True.intro
      | refine stp ?_
      | refine two ?_ ?_
      | (refine imp fun hc => ?_) <;> try (first | contradiction | (exfalso; omega))
      | refine all fun v_ => ?_)
    ((with_reducible apply rq1); rfl; rfl)
    refine ret_eq (congrArg AV.int ?_)
    rw [List.take_of_length_le (by omega)] at hg
    rw [typedZ, if_pos (hT.2 hg)]

theorem ExprChecked (G : List (Nat × List D)) (l : List Fo) (vars : Int) : ACr Tryd.prog G 74 [.d (opsD l), .int vars] (.tup [.bool (exprC l vars).1, .int (exprC l vars).2]) := by
  refine AC_ofV (ts := [4, 5]) 74 Tryd.func74 rfl rfl rfl (by simp) fun W I => ?_
  refine jfact (t := 0) rfl fun hl => ?_
  repeat' (first
    | ((with_reducible apply call0); (focus rfl); (focus exact cal_EndsOf); (focus exact EndsOf _ _); (focus rfl))
    | ((with_reducible apply je_call0); (focus rfl); (focus (decide +kernel)); (focus rfl); (focus exact cal_EndsOf); (focus exact EndsOf _ _); (focus rfl))
    | ((with_reducible apply call0); (focus rfl); (focus exact cal_In); (focus exact In _ _ _ _); (focus rfl))
    | ((with_reducible apply je_call0); (focus rfl); (focus (decide +kernel)); (focus rfl); (focus exact cal_In); (focus exact In _ _ _ _); (focus rfl))
    | ((with_reducible apply call0); (focus rfl); (focus exact cal_typed); (focus exact typed _ _ _ (Nat.le_refl _) hok); (focus rfl))
    | ((with_reducible apply je_call0); (focus rfl); (focus (decide +kernel)); (focus rfl); (focus exact cal_typed); (focus exact typed _ _ _ (Nat.le_refl _) hok); (focus rfl))
    | ((with_reducible apply call0); (focus rfl); (focus exact cal_makesTruth); (focus exact makesTruth _ _); (focus rfl))
    | ((with_reducible apply je_call0); (focus rfl); (focus (decide +kernel)); (focus rfl); (focus exact cal_makesTruth); (focus exact makesTruth _ _); (focus rfl))
    | ((with_reducible apply jboxT); (focus rfl); (focus rfl); (focus rfl))
    | ((with_reducible apply jalloc1T); (focus (with_reducible exact ElC.h)); (focus rfl); (focus rfl))
    | ((with_reducible apply jallocN); (focus (with_reducible exact ElC.h)); (focus rfl))
    | ((with_reducible apply jmk_bool); (focus rfl); (focus rfl); (focus (with_reducible exact ElC.h)); (focus omega); (focus omega); (focus rfl))
    | ((with_reducible apply jmk_int); (focus rfl); (focus rfl); (focus (with_reducible exact ElC.h)); (focus omega); (focus omega); (focus rfl))
    | ((with_reducible apply js_um); (focus rfl); (focus ((repeat (first | with_reducible exact Upd.here | with_reducible apply Upd.there)); done)); (focus rfl); (focus rfl); (focus (with_reducible exact ElC.h)); (focus (first | omega | (simp only [List.length_map, List.length_range, List.length_append, List.length_cons, List.length_nil, List.length_take, List.length_drop, List.length_set, List.length_replicate]; omega))))
    | ((with_reducible apply js_uw); (focus rfl); (focus rfl); (focus rfl); (focus (with_reducible exact ElC.h)); (focus rfl); (focus ((repeat (first | with_reducible exact Upd.here | with_reducible apply Upd.there)); done)); (focus rfl))
    | ((with_reducible apply js_ur); (focus rfl); (focus rfl); (focus rfl); (focus (with_reducible exact ElC.h)); (focus ((repeat (first | with_reducible exact Upd.here | with_reducible apply Upd.there)); done)); (focus ((repeat (first | exact SetAR.nil | apply SetAR.put | apply SetAR.skip)); done)))
    | ((with_reducible apply js_us); (focus rfl); (focus rfl); (focus rfl); (focus (with_reducible exact ElC.h)); (focus rfl); (focus ((repeat (first | with_reducible exact Upd.here | with_reducible apply Upd.there)); done)); (focus ((repeat (first | exact SetAR.nil | apply SetAR.put | apply SetAR.skip)); done)))
    | exact True.intro
    | refine stp ?_
    | refine two ?_ ?_
    | (refine imp fun hc => ?_) <;> try (first | contradiction | (exfalso; omega))
    | refine all fun v_ => ?_)
  all_goals try (
    refine retv0 ?_
    ((with_reducible apply rq2); rfl; rfl; rfl)
    refine ret_eq ?_
    unfold exprC
    first
      | (rw [if_pos (by omega)])
      | (rw [if_neg (by omega), if_pos (by assumption)]))
  have hok0 : ¬ (endsOf l).2 ≠ 0 := by assumption
  have hok : (endsOf l).2 = 0 := by simpa using hok0
  obtain ⟨h60, h0, hend, _, _⟩ := endsOf_ok (l := l) (es := (endsOf l).1) (Prod.ext rfl hok)
  have hkind : ∀ (i : Nat) (hi : i < l.length), 1 ≤ l[i].kind := fun i hi => by
    have hn := scan_nest l l.length 0 1 l.length (by omega) (by omega) (by unfold Sp.endOf at hend; exact hend) i (by omega) (by omega)
    have he := endOf_at l i hi
    by_cases hk : 1 ≤ l[i].kind
    · exact hk
    · rw [partsOf_no _ (by omega), if_pos (by decide)] at he
      rw [he] at hn
      exact absurd hn.1 (by decide)
  have hs : exprC l vars = if opsE l vars ≠ 0 then (false, opsE l vars) else if typedP l then (decide (makesP (kindAt l 0)), 0) else (false, 5) := by
    rw [exprC, if_neg (by omega), if_neg hok0]
  have hv : 0 ≤ vars ∧ vars ≤ 6 := by omega
  refine J_loopV (X := Nat) (fun i => [(0, .d (opsD l)), (1, .int vars), (8, .int i)]) (fun _ => []) (fun i => i ≤ l.length ∧ opsE l vars = opsE (l.drop i) vars) (fun i => l.length - i) 0 ⟨Nat.zero_le _, rfl⟩ (VS.of_le ?_) ?_
  · repeat (first
      | exact Env.le_nil _
      | refine Env.le_cons (AV.le_refl _) ?_
      | refine Env.le_cons (AV.le_int rfl (by first | rfl | omega | (dsimp only; omega))) ?_)
  rintro i ⟨k1, k2⟩
  by_cases hi : i < l.length
  · rw [opsE_at l i hi] at k2
    have hki := hkind i hi
    repeat' (first
      | ((with_reducible apply call0); (focus rfl); (focus exact cal_EndsOf); (focus exact EndsOf _ _); (focus rfl))
      | ((with_reducible apply je_call0); (focus rfl); (focus (decide +kernel)); (focus rfl); (focus exact cal_EndsOf); (focus exact EndsOf _ _); (focus rfl))
      | ((with_reducible apply call0); (focus rfl); (focus exact cal_In); (focus exact In _ _ _ _); (focus rfl))
      | ((with_reducible apply je_call0); (focus rfl); (focus (decide +kernel)); (focus rfl); (focus exact cal_In); (focus exact In _ _ _ _); (focus rfl))
      | ((with_reducible apply call0); (focus rfl); (focus exact cal_typed); (focus exact typed _ _ _ (Nat.le_refl _) hok); (focus rfl))
      | ((with_reducible apply je_call0); (focus rfl); (focus (decide +kernel)); (focus rfl); (focus exact cal_typed); (focus exact typed _ _ _ (Nat.le_refl _) hok); (focus rfl))
      | ((with_reducible apply call0); (focus rfl); (focus exact cal_makesTruth); (focus exact makesTruth _ _); (focus rfl))
      | ((with_reducible apply je_call0); (focus rfl); (focus (decide +kernel)); (focus rfl); (focus exact cal_makesTruth); (focus exact makesTruth _ _); (focus rfl))
      | ((with_reducible apply jboxT); (focus rfl); (focus rfl); (focus rfl))
      | ((with_reducible apply jalloc1T); (focus (with_reducible exact ElC.h)); (focus rfl); (focus rfl))
      | ((with_reducible apply jallocN); (focus (with_reducible exact ElC.h)); (focus rfl))
      | ((with_reducible apply jmk_bool); (focus rfl); (focus rfl); (focus (with_reducible exact ElC.h)); (focus omega); (focus omega); (focus rfl))
      | ((with_reducible apply jmk_int); (focus rfl); (focus rfl); (focus (with_reducible exact ElC.h)); (focus omega); (focus omega); (focus rfl))
      | ((with_reducible apply js_um); (focus rfl); (focus ((repeat (first | with_reducible exact Upd.here | with_reducible apply Upd.there)); done)); (focus rfl); (focus rfl); (focus (with_reducible exact ElC.h)); (focus (first | omega | (simp only [List.length_map, List.length_range, List.length_append, List.length_cons, List.length_nil, List.length_take, List.length_drop, List.length_set, List.length_replicate]; omega))))
      | ((with_reducible apply js_uw); (focus rfl); (focus rfl); (focus rfl); (focus (with_reducible exact ElC.h)); (focus rfl); (focus ((repeat (first | with_reducible exact Upd.here | with_reducible apply Upd.there)); done)); (focus rfl))
      | ((with_reducible apply js_ur); (focus rfl); (focus rfl); (focus rfl); (focus (with_reducible exact ElC.h)); (focus ((repeat (first | with_reducible exact Upd.here | with_reducible apply Upd.there)); done)); (focus ((repeat (first | exact SetAR.nil | apply SetAR.put | apply SetAR.skip)); done)))
      | ((with_reducible apply js_us); (focus rfl); (focus rfl); (focus rfl); (focus (with_reducible exact ElC.h)); (focus rfl); (focus ((repeat (first | with_reducible exact Upd.here | with_reducible apply Upd.there)); done)); (focus ((repeat (first | exact SetAR.nil | apply SetAR.put | apply SetAR.skip)); done)))
      | exact True.intro
      | refine stp ?_
      | refine two ?_ ?_
      | (refine imp fun hc => ?_) <;> try (first | contradiction | (exfalso; omega))
      | refine all fun v_ => ?_)
    all_goals first
      | (refine retv (VS.drop (List.nil_sublist _)) ?_
         ((with_reducible apply rq2); rfl; rfl; rfl)
         refine ret_eq ?_
         first
           | (have hz : opZ l[i].kind l[i].val vars = 13 := by unfold opZ; rw [if_pos (by omega)]
              rw [hz, if_pos (by decide)] at k2
              rw [hs, k2, if_pos (by decide)])
           | (have hz : opZ l[i].kind l[i].val vars = 2 := by unfold opZ; rw [if_neg (by omega), if_pos (by omega)]
              rw [hz, if_pos (by decide)] at k2
              rw [hs, k2, if_pos (by decide)]))
      | (have hz : opZ l[i].kind l[i].val vars = 0 := by unfold opZ; rw [if_neg (by omega), if_neg (by omega)]
         rw [hz, if_neg (by decide)] at k2
         refine ⟨i + 1, ⟨by omega, k2⟩, by omega, vle (List.nil_sublist _) ?_⟩
         repeat (first
           | exact Env.le_nil _
           | refine Env.le_cons (AV.le_refl _) ?_
           | refine Env.le_cons (AV.le_int rfl (by first | rfl | omega | (dsimp only; omega))) ?_))
  · rw [opsE_end l i (by omega)] at k2
    rw [k2, if_neg (by decide)] at hs
    repeat' (first
      | ((with_reducible apply call0); (focus rfl); (focus exact cal_EndsOf); (focus exact EndsOf _ _); (focus rfl))
      | ((with_reducible apply je_call0); (focus rfl); (focus (decide +kernel)); (focus rfl); (focus exact cal_EndsOf); (focus exact EndsOf _ _); (focus rfl))
      | ((with_reducible apply call0); (focus rfl); (focus exact cal_In); (focus exact In _ _ _ _); (focus rfl))
      | ((with_reducible apply je_call0); (focus rfl); (focus (decide +kernel)); (focus rfl); (focus exact cal_In); (focus exact In _ _ _ _); (focus rfl))
      | ((with_reducible apply call0); (focus rfl); (focus exact cal_typed); (focus exact typed _ _ _ (Nat.le_refl _) hok); (focus rfl))
      | ((with_reducible apply je_call0); (focus rfl); (focus (decide +kernel)); (focus rfl); (focus exact cal_typed); (focus exact typed _ _ _ (Nat.le_refl _) hok); (focus rfl))
      | ((with_reducible apply call0); (focus rfl); (focus exact cal_makesTruth); (focus exact makesTruth _ _); (focus rfl))
      | ((with_reducible apply je_call0); (focus rfl); (focus (decide +kernel)); (focus rfl); (focus exact cal_makesTruth); (focus exact makesTruth _ _); (focus rfl))
      | ((with_reducible apply jboxT); (focus rfl); (focus rfl); (focus rfl))
      | ((with_reducible apply jalloc1T); (focus (with_reducible exact ElC.h)); (focus rfl); (focus rfl))
      | ((with_reducible apply jallocN); (focus (with_reducible exact ElC.h)); (focus rfl))
      | ((with_reducible apply jmk_bool); (focus rfl); (focus rfl); (focus (with_reducible exact ElC.h)); (focus omega); (focus omega); (focus rfl))
      | ((with_reducible apply jmk_int); (focus rfl); (focus rfl); (focus (with_reducible exact ElC.h)); (focus omega); (focus omega); (focus rfl))
      | ((with_reducible apply js_um); (focus rfl); (focus ((repeat (first | with_reducible exact Upd.here | with_reducible apply Upd.there)); done)); (focus rfl); (focus rfl); (focus (with_reducible exact ElC.h)); (focus (first | omega | (simp only [List.length_map, List.length_range, List.length_append, List.length_cons, List.length_nil, List.length_take, List.length_drop, List.length_set, List.length_replicate]; omega))))
      | ((with_reducible apply js_uw); (focus rfl); (focus rfl); (focus rfl); (focus (with_reducible exact ElC.h)); (focus rfl); (focus ((repeat (first | with_reducible exact Upd.here | with_reducible apply Upd.there)); done)); (focus rfl))
      | ((with_reducible apply js_ur); (focus rfl); (focus rfl); (focus rfl); (focus (with_reducible exact ElC.h)); (focus ((repeat (first | with_reducible exact Upd.here | with_reducible apply Upd.there)); done)); (focus ((repeat (first | exact SetAR.nil | apply SetAR.put | apply SetAR.skip)); done)))
      | ((with_reducible apply js_us); (focus rfl); (focus rfl); (focus rfl); (focus (with_reducible exact ElC.h)); (focus rfl); (focus ((repeat (first | with_reducible exact Upd.here | with_reducible apply Upd.there)); done)); (focus ((repeat (first | exact SetAR.nil | apply SetAR.put | apply SetAR.skip)); done)))
      | exact True.intro
      | refine stp ?_
      | refine two ?_ ?_
      | (refine imp fun hc => ?_) <;> try (first | contradiction | (exfalso; omega))
      | refine all fun v_ => ?_)
    · refine retv0 ?_
      ((with_reducible apply rq2); rfl; rfl; rfl)
      refine ret_eq ?_
      have : ¬ typedP l := fun h => hc (by rw [typedZ, if_pos h])
      rw [hs, if_neg this]
    · refine retv0 ?_
      ((with_reducible apply rq2); rfl; rfl; rfl)
      refine ret_eq ?_
      have : typedP l := by
        unfold typedZ at hc
        by_cases h : typedP l
        · exact h
        · rw [if_neg h] at hc; exact absurd (by decide) hc
      rw [hs, if_pos this, kindAt_eq l 0 h0]
end Go.Proofs.YtmamiihpghnmmaaDoor
