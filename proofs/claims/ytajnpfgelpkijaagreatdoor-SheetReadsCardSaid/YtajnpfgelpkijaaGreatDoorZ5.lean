/- A bundle of this claim's own texts: T8 T9 G3. -/
import Derived.Test.YtajnpfgelpkijaaGreatDoorZ2
import Derived.Test.YtajnpfgelpkijaaGreatDoorZ3
import Derived.Test.YtajnpfgelpkijaaGreatDoorZ4
set_option linter.unusedVariables false
set_option linter.unusedSimpArgs false
set_option maxRecDepth 100000
set_option maxHeartbeats 4000000
namespace Go.Proofs.YtajnpfgelpkijaaGreatDoor
open Go Go.Av Go.Sp

theorem cal_truth : Cal Tryz.prog 158 := Cal.of Tryz.func158 (by kernel_rfl) (by kernel_rfl)
theorem cal_op : Cal Tryz.prog 157 := Cal.of Tryz.func157 (by kernel_rfl) (by kernel_rfl)
theorem cal_ECheck : Cal Tryz.prog 126 := Cal.of Tryz.func126 (by kernel_rfl) (by kernel_rfl)
theorem cal_makesTruth : Cal Tryz.prog 154 := Cal.of Tryz.func154 (by kernel_rfl) (by kernel_rfl)
theorem cal_takesTruth : Cal Tryz.prog 181 := Cal.of Tryz.func181 (by kernel_rfl) (by kernel_rfl)
theorem cal_typed : Cal Tryz.prog 153 := Cal.of Tryz.func153 (by kernel_rfl) (by kernel_rfl)
theorem cal_ExprChecked : Cal Tryz.prog 122 := Cal.of Tryz.func122 (by kernel_rfl) (by kernel_rfl)
theorem truth (G : List (Nat × List D)) (x : Int) : ACr Tryz.prog G 158 [.int x] (.tup [.bool (decide (makesP x)), .bool (decide (takesP x)), .bool (decide (okP x))]) := by
 refine AC_of (ts := [2, 3, 4]) 21 Tryz.func158 rfl rfl rfl (by simp) fun W I => ?_
 repeat' (first
  | exact True.intro
  | refine stp ?_
  | refine two ?_ ?_
  | (refine imp fun hc => ?_) <;> try exact cx hc
  | refine all fun v_ => ?_)
 all_goals
  ((with_reducible apply rq3); rfl; rfl; rfl; rfl)
  refine ret_eq (tup3 ?_ ?_ ?_) <;> (first | rfl | (refine decide_eq_decide.2 ?_; omega) | (refine (decide_eq_true ?_).symm; omega) | (refine (decide_eq_false ?_).symm; omega) | (refine decide_eq_true ?_; omega) | (refine decide_eq_false ?_; omega))
theorem makesTruth (G : List (Nat × List D)) (x : Int) : ACr Tryz.prog G 154 [.int x] (.bool (decide (makesP x))) := by
 refine AC_of (ts := [2]) 5 Tryz.func154 rfl rfl rfl (by simp) fun W I => ?_
 repeat' (first
  | refine ca cal_In (In _ _ _ _) ?_
  | exact True.intro
  | refine stp ?_
  | refine two ?_ ?_
  | (refine imp fun hc => ?_) <;> try exact cx hc
  | refine all fun v_ => ?_)
 ((with_reducible apply rq1); rfl; rfl)
 exact ret_eq rfl
theorem takesTruth (G : List (Nat × List D)) (x : Int) : ACr Tryz.prog G 181 [.int x] (.bool (decide (8 ≤ x ∧ x ≤ 10))) := by
 refine AC_of (ts := [2]) 5 Tryz.func181 rfl rfl rfl (by simp) fun W I => ?_
 repeat' (first
  | refine ca cal_In (In _ _ _ _) ?_
  | exact True.intro
  | refine stp ?_
  | refine two ?_ ?_
  | (refine imp fun hc => ?_) <;> try exact cx hc
  | refine all fun v_ => ?_)
 ((with_reducible apply rq1); rfl; rfl)
 exact ret_eq rfl
theorem op (G : List (Nat × List D)) (a b vars : Int) (h0 : 0 ≤ vars) (h1 : vars ≤ 6) : ACr Tryz.prog G 157 [.agg [.int a, .int b], .int vars] (.int (opZ a b vars)) := by
 refine AC_ofV (ts := [4]) 37 Tryz.func157 rfl rfl rfl (by simp) fun W I => ?_
 repeat' (first
  | refine ca cal_truth (truth _ _) ?_
  | refine allocD ?_
  | exact True.intro
  | refine stp ?_
  | refine two ?_ ?_
  | (refine imp fun hc => ?_) <;> try exact cx hc
  | refine all fun v_ => ?_)
 all_goals
  refine retv (VS.drop (List.nil_sublist _)) ?_
  ((with_reducible apply rq1); rfl; rfl)
  refine ret_eq (congrArg AV.int ?_)
  unfold opZ
  first
   | (rw [if_pos (by omega)])
   | (rw [if_neg (by omega), if_pos (by omega)])
   | (rw [if_neg (by omega), if_neg (by omega)])

theorem typed (G : List (Nat × List D)) : ∀ (m : Nat) (l : List Fo), l.length ≤ m → (endsOf l).2 = 0 → ACr Tryz.prog G 153 [.d (opsD l)] (.int (typedZ l)) := by
 intro m
 induction m using Nat.strongRecOn with
 | _ m ih =>
 intro l hm hok
 have hE := SplitOf G l
 have hT := typed_parts hok
 obtain ⟨_, hwell⟩ := deep_parts hok
 have hs : splitOf l = ((splitOf l).1, 0) := by rw [splitOf, if_neg (by simpa using hok)]
 generalize (splitOf l).1 = ps at hT hwell hs
 rw [hs] at hE
 obtain ⟨h60, h0, hend, _, _⟩ := endsOf_ok (l := l) (es := (endsOf l).1) (Prod.ext rfl hok)
 have hk0 := kindAt_eq l 0 h0
 have hleaf : 0 < ps.length → l[0].kind ≠ 11 ∧ l[0].kind ≠ 12 := by
  intro hps
  have : (splitOf l).1 = chunks l (partsOf l[0].kind).1.toNat 1 := by rw [splitOf, if_neg (by simpa using hok), List.getElem?_eq_getElem h0]; rfl
  rw [hs] at this
  dsimp only at this
  have e1 : (partsOf 11).1.toNat = 0 := by decide
  have e2 : (partsOf 12).1.toNat = 0 := by decide
  constructor <;> (intro hk; rw [hk] at this; first | rw [e1] at this | rw [e2] at this
                   rw [this] at hps; exact absurd hps (Nat.lt_irrefl 0))
 refine AC_of (ts := [2]) 39 Tryz.func153 rfl rfl rfl (by simp) fun W I => ?_
 refine jfact (t := 0) rfl fun hl => ?_
 repeat' (first
  | refine ca cal_SplitOf (hE) ?_
  | refine caq cal_makesTruth (makesTruth _ _) ?_
  | refine caq cal_takesTruth (takesTruth _ _) ?_
  | refine caq cal_typed (hT') ?_
  | exact True.intro
  | refine stp ?_
  | refine two ?_ ?_
  | (refine imp fun hc => ?_) <;> try exact cx hc
  | refine all fun v_ => ?_)
 dsimp only
 refine jfact (t := 3) rfl fun hl3 => ?_
 refine J_loop (X := Nat) (fun i => [(0, .d (opsD l)), (3, .d (termsD ps)), (5, .int i)]) (fun _ => []) (fun i => i ≤ ps.length ∧ ∀ t ∈ ps.take i, (makesP (kindAt t 0) ↔ takesP (kindAt l 0)) ∧ typedP t) (fun i => ps.length - i) 0 ⟨Nat.zero_le _, by simp⟩ ?_ rfl ?_
 · exact leD
 rintro i ⟨hi, hg⟩
 by_cases hil : i < ps.length
 · have hw := hwell ps[i] (List.getElem_mem hil)
   have hT' := ih ps[i].length (by omega) ps[i] (Nat.le_refl _) hw.1
   obtain ⟨_, h0', _, _, _⟩ := endsOf_ok (l := ps[i]) (es := (endsOf ps[i]).1) (Prod.ext rfl hw.1)
   have hk1 := kindAt_eq ps[i] 0 h0'
   have hleaf' := hleaf (by omega)
   have bad : ¬ ((makesP (kindAt ps[i] 0) ↔ takesP (kindAt l 0)) ∧ typedP ps[i]) → typedZ l = 5 := fun hb => by
    rw [typedZ, if_neg]
    intro ht
    exact hb (hT.1 ht _ (List.getElem_mem hil))
   repeat' (first
    | refine ca cal_SplitOf (hE) ?_
    | refine caq cal_makesTruth (makesTruth _ _) ?_
    | refine caq cal_takesTruth (takesTruth _ _) ?_
    | refine caq cal_typed (hT') ?_
    | exact True.intro
    | refine stp ?_
    | refine two ?_ ?_
    | (refine imp fun hc => ?_) <;> try exact cx hc
    | refine all fun v_ => ?_)
   · ((with_reducible apply rq1); rfl; rfl)
     refine ret_eq (congrArg AV.int ?_)
     exact (bad fun ⟨_, h⟩ => hc (by rw [typedZ, if_pos h])).symm
   · have hbeq : (decide (makesP ps[i][0].kind) == decide (8 ≤ l[0].kind ∧ l[0].kind ≤ 10)) = true := by assumption
     have hz : typedP ps[i] := by
      unfold typedZ at hc
      by_cases h : typedP ps[i]
      · exact h
      · rw [if_neg h] at hc; exact absurd (by decide) hc
     refine ⟨i + 1, ⟨by omega, ?_⟩, by omega, ?_, rfl⟩
     · intro t ht
       rw [List.take_succ_eq_append_getElem hil] at ht
       rcases List.mem_append.1 ht with ht | ht
       · exact hg t ht
       · obtain rfl : t = ps[i] := by simpa using ht
         refine ⟨?_, hz⟩
         rw [hk1, hk0]
         simp only [beq_iff_eq, decide_eq_decide] at hbeq
         rw [hbeq]
         constructor <;> intro _ <;> constructor <;> omega
     · exact leD
   · have hbeq : (decide (makesP ps[i][0].kind) == decide (8 ≤ l[0].kind ∧ l[0].kind ≤ 10)) = false := by assumption
     ((with_reducible apply rq1); rfl; rfl)
     refine ret_eq (congrArg AV.int ?_)
     refine (bad fun ⟨h, _⟩ => ?_).symm
     rw [hk1, hk0] at h
     have : decide (makesP ps[i][0].kind) = decide (8 ≤ l[0].kind ∧ l[0].kind ≤ 10) := by
      rw [decide_eq_decide, h]
      constructor <;> intro _ <;> constructor <;> omega
     rw [this] at hbeq
     simp at hbeq
 · repeat' (first
    | refine ca cal_SplitOf (hE) ?_
    | refine caq cal_makesTruth (makesTruth _ _) ?_
    | refine caq cal_takesTruth (takesTruth _ _) ?_
    | refine caq cal_typed (hT') ?_
    | exact True.intro
    | refine stp ?_
    | refine two ?_ ?_
    | (refine imp fun hc => ?_) <;> try exact cx hc
    | refine all fun v_ => ?_)
   ((with_reducible apply rq1); rfl; rfl)
   refine ret_eq (congrArg AV.int ?_)
   rw [List.take_of_length_le (by omega)] at hg
   rw [typedZ, if_pos (hT.2 hg)]

theorem ExprChecked (G : List (Nat × List D)) (l : List Fo) (vars : Int) : ACr Tryz.prog G 122 [.d (opsD l), .int vars] (.tup [.bool (exprC l vars).1, .int (exprC l vars).2]) := by
 refine AC_ofV (ts := [4, 5]) 74 Tryz.func122 rfl rfl rfl (by simp) fun W I => ?_
 refine jfact (t := 0) rfl fun hl => ?_
 repeat' (first
  | refine ca cal_EndsOf (EndsOf _ _) ?_
  | refine ca cal_In (In _ _ _ _) ?_
  | refine ca cal_typed (typed _ _ _ (Nat.le_refl _) hok) ?_
  | refine ca cal_makesTruth (makesTruth _ _) ?_
  | refine allocD ?_
  | exact True.intro
  | refine stp ?_
  | refine two ?_ ?_
  | (refine imp fun hc => ?_) <;> try exact cx hc
  | refine all fun v_ => ?_)
 all_goals try (
  refine retv0 ?_
  ((with_reducible apply rq2); rfl; rfl; rfl)
  refine ret_eq ?_
  unfold exprC
  first
   | (rw [if_pos (by omega)])
   | (rw [if_neg (by omega), if_pos (by assumption)]))
 have hok0 : ¬ (endsOf l).2 ≠ 0 := by assumption
 have hok : (endsOf l).2 = 0 := by simpa using hok0
 obtain ⟨h60, h0, hend, _, _⟩ := endsOf_ok (l := l) (es := (endsOf l).1) (Prod.ext rfl hok)
 have hkind : ∀ (i : Nat) (hi : i < l.length), 1 ≤ l[i].kind := fun i hi => by
  have hn := scan_nest l l.length 0 1 l.length (by omega) (by omega) (by unfold Sp.endOf at hend; exact hend) i (by omega) (by omega)
  have he := endOf_at l i hi
  by_cases hk : 1 ≤ l[i].kind
  · exact hk
  · rw [partsOf_no _ (by omega), if_pos (by decide)] at he
    rw [he] at hn
    exact absurd hn.1 (by decide)
 have hs : exprC l vars = if opsE l vars ≠ 0 then (false, opsE l vars) else if typedP l then (decide (makesP (kindAt l 0)), 0) else (false, 5) := by
  rw [exprC, if_neg (by omega), if_neg hok0]
 have hv : 0 ≤ vars ∧ vars ≤ 6 := by omega
 refine J_loopV (X := Nat) (fun i => [(0, .d (opsD l)), (1, .int vars), (8, .int i)]) (fun _ => []) (fun i => i ≤ l.length ∧ opsE l vars = opsE (l.drop i) vars) (fun i => l.length - i) 0 ⟨Nat.zero_le _, rfl⟩ (VS.of_le ?_) ?_
 · exact leD
 rintro i ⟨k1, k2⟩
 by_cases hi : i < l.length
 · rw [opsE_at l i hi] at k2
   have hki := hkind i hi
   repeat' (first
    | refine ca cal_EndsOf (EndsOf _ _) ?_
    | refine ca cal_In (In _ _ _ _) ?_
    | refine ca cal_typed (typed _ _ _ (Nat.le_refl _) hok) ?_
    | refine ca cal_makesTruth (makesTruth _ _) ?_
    | refine allocD ?_
    | exact True.intro
    | refine stp ?_
    | refine two ?_ ?_
    | (refine imp fun hc => ?_) <;> try exact cx hc
    | refine all fun v_ => ?_)
   all_goals first
    | (refine retv (VS.drop (List.nil_sublist _)) ?_
       ((with_reducible apply rq2); rfl; rfl; rfl)
       refine ret_eq ?_
       first
        | (have hz : opZ l[i].kind l[i].val vars = 13 := by unfold opZ; rw [if_pos (by omega)]
           rw [hz, if_pos (by decide)] at k2
           rw [hs, k2, if_pos (by decide)])
        | (have hz : opZ l[i].kind l[i].val vars = 2 := by unfold opZ; rw [if_neg (by omega), if_pos (by omega)]
           rw [hz, if_pos (by decide)] at k2
           rw [hs, k2, if_pos (by decide)]))
    | (have hz : opZ l[i].kind l[i].val vars = 0 := by unfold opZ; rw [if_neg (by omega), if_neg (by omega)]
       rw [hz, if_neg (by decide)] at k2
       refine ⟨i + 1, ⟨by omega, k2⟩, by omega, vle (List.nil_sublist _) ?_⟩
       exact leD)
 · rw [opsE_end l i (by omega)] at k2
   rw [k2, if_neg (by decide)] at hs
   repeat' (first
    | refine ca cal_EndsOf (EndsOf _ _) ?_
    | refine ca cal_In (In _ _ _ _) ?_
    | refine ca cal_typed (typed _ _ _ (Nat.le_refl _) hok) ?_
    | refine ca cal_makesTruth (makesTruth _ _) ?_
    | refine allocD ?_
    | exact True.intro
    | refine stp ?_
    | refine two ?_ ?_
    | (refine imp fun hc => ?_) <;> try exact cx hc
    | refine all fun v_ => ?_)
   · refine retv0 ?_
     ((with_reducible apply rq2); rfl; rfl; rfl)
     refine ret_eq ?_
     have : ¬ typedP l := fun h => hc (by rw [typedZ, if_pos h])
     rw [hs, if_neg this]
   · refine retv0 ?_
     ((with_reducible apply rq2); rfl; rfl; rfl)
     refine ret_eq ?_
     have : typedP l := by
      unfold typedZ at hc
      by_cases h : typedP l
      · exact h
      · rw [if_neg h] at hc; exact absurd (by decide) hc
     rw [hs, if_pos this, kindAt_eq l 0 h0]

theorem armXT9_1 {p q : Prop} (hp : p) (h : p → q := by
 apply cmp; (focus (first
  | ((with_reducible apply call0); (focus rfl); (focus exact cal_op); (focus exact op _ _ _ _ (by omega) (by omega)); (focus rfl))
  | ((with_reducible apply je_call0); (focus rfl); (focus (decide +kernel)); (focus rfl); (focus exact cal_op); (focus exact op _ _ _ _ (by omega) (by omega)); (focus rfl))
  ))
 exact fun h => h) : q := h hp
theorem ECheck (l : List Fo) (vars : Int) : ACr Tryz.prog GP 126 [.d (opsD l), .int vars] (.tup [.bool (exprC l vars).1, .int (exprC l vars).2]) := by
 have hE := Ends l
 generalize he : endsOf l = p at hE
 obtain ⟨es, e⟩ := p
 refine AC_ofV (ts := [4, 5]) 100 Tryz.func126 rfl rfl rfl (by simp) fun W I => ?_
 refine jfact (t := 0) rfl fun hl => ?_
 repeat' (first
  | refine ca cal_Ends (hE) ?_
  | refine armXT9_1 ?_
  | refine ca cal_truth (truth _ _) ?_
  | refine allocD ?_
  | exact True.intro
  | refine stp ?_
  | refine two ?_ ?_
  | (refine imp fun hc => ?_) <;> try exact cx hc
  | refine all fun v_ => ?_)
 all_goals try (
  refine retv0 ?_
  ((with_reducible apply rq2); rfl; rfl; rfl)
  refine ret_eq ?_
  unfold exprC
  first
   | (rw [if_pos (by omega)])
   | (rw [if_neg (by omega), he, if_pos (by assumption)]))
 have hok0 : ¬ e ≠ 0 := by assumption
 have e0 : e = 0 := by simpa using hok0
 subst e0
 obtain ⟨h60, h0, hend, hlen, hes⟩ := endsOf_ok he
 have hs : exprC l vars = if opsE l vars ≠ 0 then (false, opsE l vars) else if typedP l then (decide (makesP (kindAt l 0)), 0) else (false, 5) := by
  rw [exprC, if_neg (by omega), he, if_neg (by simp)]
 have hv : 0 ≤ vars ∧ vars ≤ 6 := by omega
 have hall : ∀ (i : Nat) (hi : i < l.length), (Sp.endOf l i).2 = 0 := fun i hi =>
  (scan_nest l l.length 0 1 l.length (by omega) (by omega) (by unfold Sp.endOf at hend; exact hend) i (by omega) (by omega)).1
 dsimp only
 refine J_loopV (X := Nat) (fun i => [(0, .d (opsD l)), (1, .int vars), (6, .d (intsD es)), (37, .d (opsD l)), (38, .int l.length), (39, .int i)]) (fun _ => []) (fun i => i ≤ l.length ∧ opsE l vars = opsE (l.drop i) vars) (fun i => l.length - i) 0 ⟨Nat.zero_le _, rfl⟩ (VS.of_le ?_) ?_
 · exact leD
 rintro i ⟨k1, k2⟩
 by_cases hi : i < l.length
 · rw [opsE_at l i hi] at k2
   repeat' (first
    | refine ca cal_Ends (hE) ?_
    | refine armXT9_1 ?_
    | refine ca cal_truth (truth _ _) ?_
    | refine allocD ?_
    | exact True.intro
    | refine stp ?_
    | refine two ?_ ?_
    | (refine imp fun hc => ?_) <;> try exact cx hc
    | refine all fun v_ => ?_)
   · refine retv (VS.drop (List.nil_sublist _)) ?_
     ((with_reducible apply rq2); rfl; rfl; rfl)
     refine ret_eq ?_
     rw [if_pos hc] at k2
     rw [hs, k2, if_pos hc]
   · rw [if_neg hc] at k2
     refine ⟨i + 1, ⟨by omega, k2⟩, by omega, vle (List.nil_sublist _) ?_⟩
     exact leD
 rw [opsE_end l i (by omega)] at k2
 rw [k2, if_neg (by decide)] at hs
 repeat' (first
  | refine ca cal_Ends (hE) ?_
  | refine armXT9_1 ?_
  | refine ca cal_truth (truth _ _) ?_
  | refine allocD ?_
  | exact True.intro
  | refine stp ?_
  | refine two ?_ ?_
  | (refine imp fun hc => ?_) <;> try exact cx hc
  | refine all fun v_ => ?_)
 refine J_loopV (X := Nat) (fun i => [(0, .d (opsD l)), (6, .d (intsD es)), (50, .d (opsD l)), (51, .int l.length), (52, .int i)]) (fun _ => []) (fun i => i ≤ l.length ∧ ∀ q, q < i → tyAt l q) (fun i => l.length - i) 0 ⟨Nat.zero_le _, fun q hq => by omega⟩ (VS.of_le ?_) ?_
 · exact leD
 rintro i ⟨g1, g2⟩
 by_cases hi : i < l.length
 · have hki := kindAt_eq l i hi
   have hei := hes i (by omega)
   have hbi := endOf_bound l i (hall i hi)
   have w0 := Within.start hi (hall i hi)
   generalize hn : (partsOf l[i].kind).1.toNat = n at w0
   have hty : tyAt l i ↔ ∀ p ∈ starts l (n - 0) (i + 1), fitAt l i p := by unfold tyAt; rw [hki, hn, Nat.sub_zero]
   repeat' (first
    | refine ca cal_Ends (hE) ?_
    | refine armXT9_1 ?_
    | refine ca cal_truth (truth _ _) ?_
    | refine allocD ?_
    | exact True.intro
    | refine stp ?_
    | refine two ?_ ?_
    | (refine imp fun hc => ?_) <;> try exact cx hc
    | refine all fun v_ => ?_)
   refine J_loopV (X := Nat × Nat) (fun y => [(0, .d (opsD l)), (6, .d (intsD es)), (11, .int i), (14, .bool (decide (takesP l[i].kind))), (16, .int y.2), (50, .d (opsD l)), (51, .int l.length), (52, .int i)]) (fun _ => [])
    (fun y => Within l n y.1 y.2 (Sp.endOf l i).1.toNat ∧ (tyAt l i ↔ ∀ p ∈ starts l (n - y.1) y.2, fitAt l i p)) (fun y => n - y.1) (0, i + 1) ⟨w0, hty⟩ (vle (List.nil_sublist _) ?_) ?_
   · exact leD
   rintro ⟨j, k⟩ ⟨w, hk⟩
   dsimp only at w hk ⊢
   have wlt := w.lt
   by_cases hj : j < n
   · obtain ⟨q1, q2, q3, q4⟩ := w.next hj
     have hkl : k < l.length := by omega
     have hkk := kindAt_eq l k hkl
     have hek := hes k (by omega)
     have e1 : n - j = (n - (j + 1)) + 1 := by omega
     rw [e1] at hk
     simp only [starts, List.mem_cons, forall_eq_or_imp] at hk
     repeat' (first
      | refine ca cal_Ends (hE) ?_
      | refine armXT9_1 ?_
      | refine ca cal_truth (truth _ _) ?_
      | refine allocD ?_
      | exact True.intro
      | refine stp ?_
      | refine two ?_ ?_
      | (refine imp fun hc => ?_) <;> try exact cx hc
      | refine all fun v_ => ?_)
     · have hf : fitAt l i k := by
        unfold fitAt
        rw [hkk, hki]
        simp only [beq_iff_eq, decide_eq_decide] at hc
        exact hc
       refine ⟨(j + 1, (Sp.endOf l k).1.toNat), ⟨q4, ?_⟩, by dsimp only; omega, VS.of_le ?_⟩
       · rw [hk]
         exact ⟨fun h => h.2, fun h => ⟨hf, h⟩⟩
       · exact leD
     · have hf : ¬ fitAt l i k := by
        unfold fitAt
        rw [hkk, hki]
        intro h
        rw [beq_eq_false_iff_ne] at hc
        exact hc (decide_eq_decide.2 h)
       refine retv0 ?_
       ((with_reducible apply rq2); rfl; rfl; rfl)
       refine ret_eq ?_
       have : ¬ typedP l := fun h => hf (hk.1 (h i hi)).1
       rw [hs, if_neg this]
   · have hjn : j = n := by have := w.le; omega
     repeat' (first
      | refine ca cal_Ends (hE) ?_
      | refine armXT9_1 ?_
      | refine ca cal_truth (truth _ _) ?_
      | refine allocD ?_
      | exact True.intro
      | refine stp ?_
      | refine two ?_ ?_
      | (refine imp fun hc => ?_) <;> try exact cx hc
      | refine all fun v_ => ?_)
     refine ⟨i + 1, ⟨by omega, fun q hq => ?_⟩, by omega, VS.of_le ?_⟩
     · by_cases hqi : q < i
       · exact g2 q hqi
       · obtain rfl : q = i := by omega
         refine hk.2 fun p hp => ?_
         rw [hjn, Nat.sub_self] at hp
         simp [starts] at hp
     · exact leD
 · repeat' (first
    | refine ca cal_Ends (hE) ?_
    | refine armXT9_1 ?_
    | refine ca cal_truth (truth _ _) ?_
    | refine allocD ?_
    | exact True.intro
    | refine stp ?_
    | refine two ?_ ?_
    | (refine imp fun hc => ?_) <;> try exact cx hc
    | refine all fun v_ => ?_)
   refine retv0 ?_
   ((with_reducible apply rq2); rfl; rfl; rfl)
   refine ret_eq ?_
   have : typedP l := fun q hq => g2 q (by omega)
   rw [hs, if_pos this, kindAt_eq l 0 h0]
end Go.Proofs.YtajnpfgelpkijaaGreatDoor
namespace Go.Sp
open Go Go.Av

structure Vr where
 name : ByteArray
 low : Int
 high : Int
 init : Int
def Vr.cells (v : Vr) : List D := [.s v.name, .i .i64 v.low, .i .i64 v.high, .i .i64 v.init]
abbrev varsD (l : List Vr) : D := .l 4 40 (l.map Vr.cells)
structure St where
 var : Int
 val : List Fo
def St.cells (s : St) : List D := [.i .i64 s.var, opsD s.val]
abbrev setsD (l : List St) : D := .l 2 32 (l.map St.cells)
structure Ru where
 guard : List Fo
 sets : List St
def Ru.cells (r : Ru) : List D := [opsD r.guard, setsD r.sets]
abbrev rulesD (l : List Ru) : D := .l 2 48 (l.map Ru.cells)
structure Md where
 vars : List Vr
 rules : List Ru
abbrev mdA (m : Md) : AV := .agg [.d (varsD m.vars), .d (rulesD m.rules)]

def letP (i : Nat) (c : UInt8) : Prop := (97 ≤ c.toNat ∧ c.toNat ≤ 122) ∨ (48 ≤ c.toNat ∧ c.toNat ≤ 57 ∧ i ≠ 0)
instance (i : Nat) (c : UInt8) : Decidable (letP i c) := by unfold letP; infer_instance
abbrev yesS : ByteArray := ⟨#[121, 101, 115]⟩
abbrev noS : ByteArray := ⟨#[110, 111]⟩
def nameP (s : ByteArray) : Prop := (1 ≤ s.data.toList.length ∧ s.data.toList.length ≤ 8) ∧ s ≠ yesS ∧ s ≠ noS ∧ ∀ (i : Nat) (h : i < s.data.toList.length), letP i s.data.toList[i]
noncomputable instance (s : ByteArray) : Decidable (nameP s) := Classical.propDecidable _

noncomputable instance (a : ByteArray) (l : List ByteArray) : Decidable (a ∈ l) := Classical.propDecidable _
def spanV (v : Vr) : Int := v.high - v.low + 1
def rangeV (v : Vr) : Prop := -1000 ≤ v.low ∧ v.high ≤ 1000 ∧ v.low ≤ v.high ∧ v.low ≤ v.init ∧ v.init ≤ v.high
instance (v : Vr) : Decidable (rangeV v) := by unfold rangeV; infer_instance
noncomputable def varsE : List Vr → List ByteArray → Int → Int
 | [], _, _ => 0
 | v :: l, seen, n =>
   if ¬ nameP v.name then 6 else if v.name ∈ seen then 7 else if ¬ rangeV v then 2 else if 64 < spanV v then 1 else if 4096 < n * spanV v then 1 else varsE l (seen ++ [v.name]) (n * spanV v)
noncomputable def varsF (l : List Vr) : Int := if 6 < l.length then 1 else varsE l [] 1
theorem varsE_at (l : List Vr) (i : Nat) (h : i < l.length) (seen : List ByteArray) (n : Int) : varsE (l.drop i) seen n =
 if ¬ nameP l[i].name then 6 else if l[i].name ∈ seen then 7 else if ¬ rangeV l[i] then 2 else if 64 < spanV l[i] then 1 else if 4096 < n * spanV l[i] then 1 else varsE (l.drop (i + 1)) (seen ++ [l[i].name]) (n * spanV l[i]) := by
 rw [List.drop_eq_getElem_cons h, varsE]
theorem varsE_end (l : List Vr) (i : Nat) (h : l.length ≤ i) (seen : List ByteArray) (n : Int) : varsE (l.drop i) seen n = 0 := by rw [List.drop_of_length_le h, varsE]

noncomputable def kindF (l : List Fo) (vars : Int) (truth : Bool) : Int := if (exprC l vars).2 ≠ 0 then (exprC l vars).2 else if (exprC l vars).1 ≠ truth then 5 else 0
noncomputable def setsE (vars : Int) : List St → List Int → Int
 | [], _ => 0
 | s :: l, seen => if ¬ (0 ≤ s.var ∧ s.var < vars) then 2 else if s.var ∈ seen then 7 else if kindF s.val vars false ≠ 0 then kindF s.val vars false else setsE vars l (seen ++ [s.var])
noncomputable def ruleF (r : Ru) (vars : Int) : Int := if 6 < r.sets.length then 1 else if kindF r.guard vars true ≠ 0 then kindF r.guard vars true else setsE vars r.sets []
theorem setsE_at (vars : Int) (l : List St) (i : Nat) (h : i < l.length) (seen : List Int) : setsE vars (l.drop i) seen =
 if ¬ (0 ≤ l[i].var ∧ l[i].var < vars) then 2 else if l[i].var ∈ seen then 7 else if kindF l[i].val vars false ≠ 0 then kindF l[i].val vars false else setsE vars (l.drop (i + 1)) (seen ++ [l[i].var]) := by
 rw [List.drop_eq_getElem_cons h, setsE]
theorem setsE_end (vars : Int) (l : List St) (i : Nat) (h : l.length ≤ i) (seen : List Int) : setsE vars (l.drop i) seen = 0 := by rw [List.drop_of_length_le h, setsE]
noncomputable def rulesE (vars : Int) : List Ru → Int
 | [] => 0
 | r :: l => if ruleF r vars ≠ 0 then ruleF r vars else rulesE vars l
theorem rulesE_at (vars : Int) (l : List Ru) (i : Nat) (h : i < l.length) : rulesE vars (l.drop i) = if ruleF l[i] vars ≠ 0 then ruleF l[i] vars else rulesE vars (l.drop (i + 1)) := by
 rw [List.drop_eq_getElem_cons h, rulesE]
theorem rulesE_end (vars : Int) (l : List Ru) (i : Nat) (h : l.length ≤ i) : rulesE vars (l.drop i) = 0 := by rw [List.drop_of_length_le h, rulesE]
noncomputable def modelF (m : Md) : Int := if varsF m.vars ≠ 0 then varsF m.vars else if 12 < m.rules.length then 1 else rulesE m.vars.length m.rules
end Go.Sp
