/- A bundle of this claim's own texts: T8 T9 E6 G3. -/
import Derived.Laws.IdiomStrings
import Derived.Lib.AppendZerosOnto
import Derived.Lib.SliceRun
import Derived.Test.YtniklgkoiaeipaaGreatDoorZ2
import Derived.Test.YtniklgkoiaeipaaGreatDoorZ3
namespace Go.Proofs.YtniklgkoiaeipaaGreatDoor
open Go Go.Av Go.Sp
set_option linter.unusedVariables false
set_option linter.unusedSimpArgs false
set_option maxRecDepth 100000
set_option maxHeartbeats 4000000

theorem cal_truth : Cal Tryz.prog 179 := Cal.of Tryz.func179 (by kernel_rfl) (by kernel_rfl)
theorem cal_op : Cal Tryz.prog 178 := Cal.of Tryz.func178 (by kernel_rfl) (by kernel_rfl)
theorem cal_ECheck : Cal Tryz.prog 136 := Cal.of Tryz.func136 (by kernel_rfl) (by kernel_rfl)
theorem cal_makesTruth : Cal Tryz.prog 190 := Cal.of Tryz.func190 (by kernel_rfl) (by kernel_rfl)
theorem cal_takesTruth : Cal Tryz.prog 210 := Cal.of Tryz.func210 (by kernel_rfl) (by kernel_rfl)
theorem cal_typed : Cal Tryz.prog 189 := Cal.of Tryz.func189 (by kernel_rfl) (by kernel_rfl)
theorem cal_ExprChecked : Cal Tryz.prog 146 := Cal.of Tryz.func146 (by kernel_rfl) (by kernel_rfl)
theorem truth (G : List (Nat × List D)) (x : Int) : ACr Tryz.prog G 179 [.int x] (.tup [.bool (decide (makesP x)), .bool (decide (takesP x)), .bool (decide (okP x))]) := by
 refine AC_of (ts := [2, 3, 4]) 21 Tryz.func179 rfl rfl rfl (by simp) fun W I => ?_
 repeat' (first
  | exact True.intro
  | refine stp ?_
  | refine two ?_ ?_
  | (refine imp fun hc => ?_) <;> try exact cx hc
  | refine all fun v_ => ?_)
 all_goals
  ((with_reducible apply rq3); rfl; rfl; rfl; rfl)
  refine ret_eq (tup3 ?_ ?_ ?_) <;> (first | rfl | (refine decide_eq_decide.2 ?_; omega) | (refine (decide_eq_true ?_).symm; omega) | (refine (decide_eq_false ?_).symm; omega) | (refine decide_eq_true ?_; omega) | (refine decide_eq_false ?_; omega))
theorem armXT8_1 {p q : Prop} (hp : p) (h : p → q := by
 apply cmp; (focus (first
  | ((with_reducible apply call0); (focus rfl); (focus exact cal_In); (focus exact In _ _ _ _); (focus rfl))
  | ((with_reducible apply je_call0); (focus rfl); (focus (decide +kernel)); (focus rfl); (focus exact cal_In); (focus exact In _ _ _ _); (focus rfl))
  ))
 exact fun h => h) : q := h hp
theorem makesTruth (G : List (Nat × List D)) (x : Int) : ACr Tryz.prog G 190 [.int x] (.bool (decide (makesP x))) := by
 refine AC_of (ts := [2]) 5 Tryz.func190 rfl rfl rfl (by simp) fun W I => ?_
 repeat' (first
  | refine armXT8_1 ?_
  | exact True.intro
  | refine stp ?_
  | refine two ?_ ?_
  | (refine imp fun hc => ?_) <;> try exact cx hc
  | refine all fun v_ => ?_)
 ((with_reducible apply rq1); rfl; rfl)
 exact ret_eq rfl
theorem takesTruth (G : List (Nat × List D)) (x : Int) : ACr Tryz.prog G 210 [.int x] (.bool (decide (8 ≤ x ∧ x ≤ 10))) := by
 refine AC_of (ts := [2]) 5 Tryz.func210 rfl rfl rfl (by simp) fun W I => ?_
 repeat' (first
  | refine armXT8_1 ?_
  | exact True.intro
  | refine stp ?_
  | refine two ?_ ?_
  | (refine imp fun hc => ?_) <;> try exact cx hc
  | refine all fun v_ => ?_)
 ((with_reducible apply rq1); rfl; rfl)
 exact ret_eq rfl
theorem armXT8_2 {p q : Prop} (hp : p) (h : p → q := by
 apply cmp; (focus (first
  | ((with_reducible apply call0); (focus rfl); (focus exact cal_truth); (focus exact truth _ _); (focus rfl))
  | ((with_reducible apply je_call0); (focus rfl); (focus (decide +kernel)); (focus rfl); (focus exact cal_truth); (focus exact truth _ _); (focus rfl))
  ))
 exact fun h => h) : q := h hp
theorem op (G : List (Nat × List D)) (a b vars : Int) (h0 : 0 ≤ vars) (h1 : vars ≤ 6) : ACr Tryz.prog G 178 [.agg [.int a, .int b], .int vars] (.int (opZ a b vars)) := by
 refine AC_ofV (ts := [4]) 37 Tryz.func178 rfl rfl rfl (by simp) fun W I => ?_
 repeat' (first
  | refine armXT8_2 ?_
  | refine allocD ?_
  | exact True.intro
  | refine stp ?_
  | refine two ?_ ?_
  | (refine imp fun hc => ?_) <;> try exact cx hc
  | refine all fun v_ => ?_)
 all_goals
  refine retv (VS.drop (List.nil_sublist _)) ?_
  ((with_reducible apply rq1); rfl; rfl)
  refine ret_eq (congrArg AV.int ?_)
  unfold opZ
  first
   | (rw [if_pos (by omega)])
   | (rw [if_neg (by omega), if_pos (by omega)])
   | (rw [if_neg (by omega), if_neg (by omega)])

theorem armXT8_3 {p q : Prop} (hp : p) (h : p → q := by
 apply cmp; (focus (first
  | ((with_reducible apply call0); (focus rfl); (focus exact cal_SplitOf); (focus exact hE); (focus rfl))
  | ((with_reducible apply je_call0); (focus rfl); (focus (decide +kernel)); (focus rfl); (focus exact cal_SplitOf); (focus exact hE); (focus rfl))
  | ((with_reducible apply qcall); (focus rfl); (focus exact cal_makesTruth); (focus exact makesTruth _ _); (focus rfl))
  | ((with_reducible apply qcall); (focus rfl); (focus exact cal_takesTruth); (focus exact takesTruth _ _); (focus rfl))
  | ((with_reducible apply qcall); (focus rfl); (focus exact cal_typed); (focus exact hT'); (focus rfl))
  ))
 exact fun h => h) : q := h hp
theorem typed (G : List (Nat × List D)) : ∀ (m : Nat) (l : List Fo), l.length ≤ m → (endsOf l).2 = 0 → ACr Tryz.prog G 189 [.d (opsD l)] (.int (typedZ l)) := by
 intro m
 induction m using Nat.strongRecOn with
 | _ m ih =>
 intro l hm hok
 have hE := SplitOf G l
 have hT := typed_parts hok
 obtain ⟨_, hwell⟩ := deep_parts hok
 have hs : splitOf l = ((splitOf l).1, 0) := by rw [splitOf, if_neg (by simpa using hok)]
 generalize (splitOf l).1 = ps at hT hwell hs
 rw [hs] at hE
 obtain ⟨h60, h0, hend, _, _⟩ := endsOf_ok (l := l) (es := (endsOf l).1) (Prod.ext rfl hok)
 have hk0 := kindAt_eq l 0 h0
 have hleaf : 0 < ps.length → l[0].kind ≠ 11 ∧ l[0].kind ≠ 12 := by
  intro hps
  have : (splitOf l).1 = chunks l (partsOf l[0].kind).1.toNat 1 := by rw [splitOf, if_neg (by simpa using hok), List.getElem?_eq_getElem h0]; rfl
  rw [hs] at this
  dsimp only at this
  have e1 : (partsOf 11).1.toNat = 0 := by decide
  have e2 : (partsOf 12).1.toNat = 0 := by decide
  constructor <;> (intro hk; rw [hk] at this; first | rw [e1] at this | rw [e2] at this
                   rw [this] at hps; exact absurd hps (Nat.lt_irrefl 0))
 refine AC_of (ts := [2]) 39 Tryz.func189 rfl rfl rfl (by simp) fun W I => ?_
 refine jfact (t := 0) rfl fun hl => ?_
 repeat' (first
  | refine armXT8_3 ?_
  | exact True.intro
  | refine stp ?_
  | refine two ?_ ?_
  | (refine imp fun hc => ?_) <;> try exact cx hc
  | refine all fun v_ => ?_)
 dsimp only
 refine jfact (t := 3) rfl fun hl3 => ?_
 refine J_loop (X := Nat) (fun i => [(0, .d (opsD l)), (3, .d (termsD ps)), (5, .int i)]) (fun _ => []) (fun i => i ≤ ps.length ∧ ∀ t ∈ ps.take i, (makesP (kindAt t 0) ↔ takesP (kindAt l 0)) ∧ typedP t) (fun i => ps.length - i) 0 ⟨Nat.zero_le _, by simp⟩ ?_ rfl ?_
 · exact leD
 rintro i ⟨hi, hg⟩
 by_cases hil : i < ps.length
 · have hw := hwell ps[i] (List.getElem_mem hil)
   have hT' := ih ps[i].length (by omega) ps[i] (Nat.le_refl _) hw.1
   obtain ⟨_, h0', _, _, _⟩ := endsOf_ok (l := ps[i]) (es := (endsOf ps[i]).1) (Prod.ext rfl hw.1)
   have hk1 := kindAt_eq ps[i] 0 h0'
   have hleaf' := hleaf (by omega)
   have bad : ¬ ((makesP (kindAt ps[i] 0) ↔ takesP (kindAt l 0)) ∧ typedP ps[i]) → typedZ l = 5 := fun hb => by
    rw [typedZ, if_neg]
    intro ht
    exact hb (hT.1 ht _ (List.getElem_mem hil))
   repeat' (first
    | refine armXT8_3 ?_
    | exact True.intro
    | refine stp ?_
    | refine two ?_ ?_
    | (refine imp fun hc => ?_) <;> try exact cx hc
    | refine all fun v_ => ?_)
   · ((with_reducible apply rq1); rfl; rfl)
     refine ret_eq (congrArg AV.int ?_)
     exact (bad fun ⟨_, h⟩ => hc (by rw [typedZ, if_pos h])).symm
   · have hbeq : (decide (makesP ps[i][0].kind) == decide (8 ≤ l[0].kind ∧ l[0].kind ≤ 10)) = true := by assumption
     have hz : typedP ps[i] := by
      unfold typedZ at hc
      by_cases h : typedP ps[i]
      · exact h
      · rw [if_neg h] at hc; exact absurd (by decide) hc
     refine ⟨i + 1, ⟨by omega, ?_⟩, by omega, ?_, rfl⟩
     · intro t ht
       rw [List.take_succ_eq_append_getElem hil] at ht
       rcases List.mem_append.1 ht with ht | ht
       · exact hg t ht
       · obtain rfl : t = ps[i] := by simpa using ht
         refine ⟨?_, hz⟩
         rw [hk1, hk0]
         simp only [beq_iff_eq, decide_eq_decide] at hbeq
         rw [hbeq]
         constructor <;> intro _ <;> constructor <;> omega
     · exact leD
   · have hbeq : (decide (makesP ps[i][0].kind) == decide (8 ≤ l[0].kind ∧ l[0].kind ≤ 10)) = false := by assumption
     ((with_reducible apply rq1); rfl; rfl)
     refine ret_eq (congrArg AV.int ?_)
     refine (bad fun ⟨h, _⟩ => ?_).symm
     rw [hk1, hk0] at h
     have : decide (makesP ps[i][0].kind) = decide (8 ≤ l[0].kind ∧ l[0].kind ≤ 10) := by
      rw [decide_eq_decide, h]
      constructor <;> intro _ <;> constructor <;> omega
     rw [this] at hbeq
     simp at hbeq
 · repeat' (first
    | refine armXT8_3 ?_
    | exact True.intro
    | refine stp ?_
    | refine two ?_ ?_
    | (refine imp fun hc => ?_) <;> try exact cx hc
    | refine all fun v_ => ?_)
   ((with_reducible apply rq1); rfl; rfl)
   refine ret_eq (congrArg AV.int ?_)
   rw [List.take_of_length_le (by omega)] at hg
   rw [typedZ, if_pos (hT.2 hg)]

theorem armXT8_4 {p q : Prop} (hp : p) (h : p → q := by
 apply cmp; (focus (first
  | ((with_reducible apply call0); (focus rfl); (focus exact cal_EndsOf); (focus exact EndsOf _ _); (focus rfl))
  | ((with_reducible apply je_call0); (focus rfl); (focus (decide +kernel)); (focus rfl); (focus exact cal_EndsOf); (focus exact EndsOf _ _); (focus rfl))
  | ((with_reducible apply call0); (focus rfl); (focus exact cal_In); (focus exact In _ _ _ _); (focus rfl))
  | ((with_reducible apply je_call0); (focus rfl); (focus (decide +kernel)); (focus rfl); (focus exact cal_In); (focus exact In _ _ _ _); (focus rfl))
  | ((with_reducible apply call0); (focus rfl); (focus exact cal_typed); (focus exact typed _ _ _ (Nat.le_refl _) hok); (focus rfl))
  | ((with_reducible apply je_call0); (focus rfl); (focus (decide +kernel)); (focus rfl); (focus exact cal_typed); (focus exact typed _ _ _ (Nat.le_refl _) hok); (focus rfl))
  | ((with_reducible apply call0); (focus rfl); (focus exact cal_makesTruth); (focus exact makesTruth _ _); (focus rfl))
  | ((with_reducible apply je_call0); (focus rfl); (focus (decide +kernel)); (focus rfl); (focus exact cal_makesTruth); (focus exact makesTruth _ _); (focus rfl))
  ))
 exact fun h => h) : q := h hp
theorem ExprChecked (G : List (Nat × List D)) (l : List Fo) (vars : Int) : ACr Tryz.prog G 146 [.d (opsD l), .int vars] (.tup [.bool (exprC l vars).1, .int (exprC l vars).2]) := by
 refine AC_ofV (ts := [4, 5]) 74 Tryz.func146 rfl rfl rfl (by simp) fun W I => ?_
 refine jfact (t := 0) rfl fun hl => ?_
 repeat' (first
  | refine armXT8_4 ?_
  | refine allocD ?_
  | exact True.intro
  | refine stp ?_
  | refine two ?_ ?_
  | (refine imp fun hc => ?_) <;> try exact cx hc
  | refine all fun v_ => ?_)
 all_goals try (
  refine retv0 ?_
  ((with_reducible apply rq2); rfl; rfl; rfl)
  refine ret_eq ?_
  unfold exprC
  first
   | (rw [if_pos (by omega)])
   | (rw [if_neg (by omega), if_pos (by assumption)]))
 have hok0 : ¬ (endsOf l).2 ≠ 0 := by assumption
 have hok : (endsOf l).2 = 0 := by simpa using hok0
 obtain ⟨h60, h0, hend, _, _⟩ := endsOf_ok (l := l) (es := (endsOf l).1) (Prod.ext rfl hok)
 have hkind : ∀ (i : Nat) (hi : i < l.length), 1 ≤ l[i].kind := fun i hi => by
  have hn := scan_nest l l.length 0 1 l.length (by omega) (by omega) (by unfold Sp.endOf at hend; exact hend) i (by omega) (by omega)
  have he := endOf_at l i hi
  by_cases hk : 1 ≤ l[i].kind
  · exact hk
  · rw [partsOf_no _ (by omega), if_pos (by decide)] at he
    rw [he] at hn
    exact absurd hn.1 (by decide)
 have hs : exprC l vars = if opsE l vars ≠ 0 then (false, opsE l vars) else if typedP l then (decide (makesP (kindAt l 0)), 0) else (false, 5) := by
  rw [exprC, if_neg (by omega), if_neg hok0]
 have hv : 0 ≤ vars ∧ vars ≤ 6 := by omega
 refine J_loopV (X := Nat) (fun i => [(0, .d (opsD l)), (1, .int vars), (8, .int i)]) (fun _ => []) (fun i => i ≤ l.length ∧ opsE l vars = opsE (l.drop i) vars) (fun i => l.length - i) 0 ⟨Nat.zero_le _, rfl⟩ (VS.of_le ?_) ?_
 · exact leD
 rintro i ⟨k1, k2⟩
 by_cases hi : i < l.length
 · rw [opsE_at l i hi] at k2
   have hki := hkind i hi
   repeat' (first
    | refine armXT8_4 ?_
    | refine allocD ?_
    | exact True.intro
    | refine stp ?_
    | refine two ?_ ?_
    | (refine imp fun hc => ?_) <;> try exact cx hc
    | refine all fun v_ => ?_)
   all_goals first
    | (refine retv (VS.drop (List.nil_sublist _)) ?_
       ((with_reducible apply rq2); rfl; rfl; rfl)
       refine ret_eq ?_
       first
        | (have hz : opZ l[i].kind l[i].val vars = 13 := by unfold opZ; rw [if_pos (by omega)]
           rw [hz, if_pos (by decide)] at k2
           rw [hs, k2, if_pos (by decide)])
        | (have hz : opZ l[i].kind l[i].val vars = 2 := by unfold opZ; rw [if_neg (by omega), if_pos (by omega)]
           rw [hz, if_pos (by decide)] at k2
           rw [hs, k2, if_pos (by decide)]))
    | (have hz : opZ l[i].kind l[i].val vars = 0 := by unfold opZ; rw [if_neg (by omega), if_neg (by omega)]
       rw [hz, if_neg (by decide)] at k2
       refine ⟨i + 1, ⟨by omega, k2⟩, by omega, vle (List.nil_sublist _) ?_⟩
       exact leD)
 · rw [opsE_end l i (by omega)] at k2
   rw [k2, if_neg (by decide)] at hs
   repeat' (first
    | refine armXT8_4 ?_
    | refine allocD ?_
    | exact True.intro
    | refine stp ?_
    | refine two ?_ ?_
    | (refine imp fun hc => ?_) <;> try exact cx hc
    | refine all fun v_ => ?_)
   · refine retv0 ?_
     ((with_reducible apply rq2); rfl; rfl; rfl)
     refine ret_eq ?_
     have : ¬ typedP l := fun h => hc (by rw [typedZ, if_pos h])
     rw [hs, if_neg this]
   · refine retv0 ?_
     ((with_reducible apply rq2); rfl; rfl; rfl)
     refine ret_eq ?_
     have : typedP l := by
      unfold typedZ at hc
      by_cases h : typedP l
      · exact h
      · rw [if_neg h] at hc; exact absurd (by decide) hc
     rw [hs, if_pos this, kindAt_eq l 0 h0]
end Go.Proofs.YtniklgkoiaeipaaGreatDoor
namespace Go.Proofs.YtniklgkoiaeipaaGreatDoor
open Go Go.Av Go.Sp
set_option linter.unusedVariables false
set_option linter.unusedSimpArgs false
set_option maxRecDepth 100000
set_option maxHeartbeats 4000000

theorem armXT9_1 {p q : Prop} (hp : p) (h : p → q := by
 apply cmp; (focus (first
  | ((with_reducible apply call0); (focus rfl); (focus exact cal_Ends); (focus exact hE); (focus rfl))
  | ((with_reducible apply je_call0); (focus rfl); (focus (decide +kernel)); (focus rfl); (focus exact cal_Ends); (focus exact hE); (focus rfl))
  | ((with_reducible apply call0); (focus rfl); (focus exact cal_op); (focus exact op _ _ _ _ (by omega) (by omega)); (focus rfl))
  | ((with_reducible apply je_call0); (focus rfl); (focus (decide +kernel)); (focus rfl); (focus exact cal_op); (focus exact op _ _ _ _ (by omega) (by omega)); (focus rfl))
  | ((with_reducible apply call0); (focus rfl); (focus exact cal_truth); (focus exact truth _ _); (focus rfl))
  | ((with_reducible apply je_call0); (focus rfl); (focus (decide +kernel)); (focus rfl); (focus exact cal_truth); (focus exact truth _ _); (focus rfl))
  ))
 exact fun h => h) : q := h hp
theorem ECheck (l : List Fo) (vars : Int) : ACr Tryz.prog GP 136 [.d (opsD l), .int vars] (.tup [.bool (exprC l vars).1, .int (exprC l vars).2]) := by
 have hE := Ends l
 generalize he : endsOf l = p at hE
 obtain ⟨es, e⟩ := p
 refine AC_ofV (ts := [4, 5]) 100 Tryz.func136 rfl rfl rfl (by simp) fun W I => ?_
 refine jfact (t := 0) rfl fun hl => ?_
 repeat' (first
  | refine armXT9_1 ?_
  | refine allocD ?_
  | exact True.intro
  | refine stp ?_
  | refine two ?_ ?_
  | (refine imp fun hc => ?_) <;> try exact cx hc
  | refine all fun v_ => ?_)
 all_goals try (
  refine retv0 ?_
  ((with_reducible apply rq2); rfl; rfl; rfl)
  refine ret_eq ?_
  unfold exprC
  first
   | (rw [if_pos (by omega)])
   | (rw [if_neg (by omega), he, if_pos (by assumption)]))
 have hok0 : ¬ e ≠ 0 := by assumption
 have e0 : e = 0 := by simpa using hok0
 subst e0
 obtain ⟨h60, h0, hend, hlen, hes⟩ := endsOf_ok he
 have hs : exprC l vars = if opsE l vars ≠ 0 then (false, opsE l vars) else if typedP l then (decide (makesP (kindAt l 0)), 0) else (false, 5) := by
  rw [exprC, if_neg (by omega), he, if_neg (by simp)]
 have hv : 0 ≤ vars ∧ vars ≤ 6 := by omega
 have hall : ∀ (i : Nat) (hi : i < l.length), (Sp.endOf l i).2 = 0 := fun i hi =>
  (scan_nest l l.length 0 1 l.length (by omega) (by omega) (by unfold Sp.endOf at hend; exact hend) i (by omega) (by omega)).1
 dsimp only
 refine J_loopV (X := Nat) (fun i => [(0, .d (opsD l)), (1, .int vars), (6, .d (intsD es)), (37, .d (opsD l)), (38, .int l.length), (39, .int i)]) (fun _ => []) (fun i => i ≤ l.length ∧ opsE l vars = opsE (l.drop i) vars) (fun i => l.length - i) 0 ⟨Nat.zero_le _, rfl⟩ (VS.of_le ?_) ?_
 · exact leD
 rintro i ⟨k1, k2⟩
 by_cases hi : i < l.length
 · rw [opsE_at l i hi] at k2
   repeat' (first
    | refine armXT9_1 ?_
    | refine allocD ?_
    | exact True.intro
    | refine stp ?_
    | refine two ?_ ?_
    | (refine imp fun hc => ?_) <;> try exact cx hc
    | refine all fun v_ => ?_)
   · refine retv (VS.drop (List.nil_sublist _)) ?_
     ((with_reducible apply rq2); rfl; rfl; rfl)
     refine ret_eq ?_
     rw [if_pos hc] at k2
     rw [hs, k2, if_pos hc]
   · rw [if_neg hc] at k2
     refine ⟨i + 1, ⟨by omega, k2⟩, by omega, vle (List.nil_sublist _) ?_⟩
     exact leD
 rw [opsE_end l i (by omega)] at k2
 rw [k2, if_neg (by decide)] at hs
 repeat' (first
  | refine armXT9_1 ?_
  | refine allocD ?_
  | exact True.intro
  | refine stp ?_
  | refine two ?_ ?_
  | (refine imp fun hc => ?_) <;> try exact cx hc
  | refine all fun v_ => ?_)
 refine J_loopV (X := Nat) (fun i => [(0, .d (opsD l)), (6, .d (intsD es)), (50, .d (opsD l)), (51, .int l.length), (52, .int i)]) (fun _ => []) (fun i => i ≤ l.length ∧ ∀ q, q < i → tyAt l q) (fun i => l.length - i) 0 ⟨Nat.zero_le _, fun q hq => by omega⟩ (VS.of_le ?_) ?_
 · exact leD
 rintro i ⟨g1, g2⟩
 by_cases hi : i < l.length
 · have hki := kindAt_eq l i hi
   have hei := hes i (by omega)
   have hbi := endOf_bound l i (hall i hi)
   have w0 := Within.start hi (hall i hi)
   generalize hn : (partsOf l[i].kind).1.toNat = n at w0
   have hty : tyAt l i ↔ ∀ p ∈ starts l (n - 0) (i + 1), fitAt l i p := by unfold tyAt; rw [hki, hn, Nat.sub_zero]
   repeat' (first
    | refine armXT9_1 ?_
    | refine allocD ?_
    | exact True.intro
    | refine stp ?_
    | refine two ?_ ?_
    | (refine imp fun hc => ?_) <;> try exact cx hc
    | refine all fun v_ => ?_)
   refine J_loopV (X := Nat × Nat) (fun y => [(0, .d (opsD l)), (6, .d (intsD es)), (11, .int i), (14, .bool (decide (takesP l[i].kind))), (16, .int y.2), (50, .d (opsD l)), (51, .int l.length), (52, .int i)]) (fun _ => [])
    (fun y => Within l n y.1 y.2 (Sp.endOf l i).1.toNat ∧ (tyAt l i ↔ ∀ p ∈ starts l (n - y.1) y.2, fitAt l i p)) (fun y => n - y.1) (0, i + 1) ⟨w0, hty⟩ (vle (List.nil_sublist _) ?_) ?_
   · exact leD
   rintro ⟨j, k⟩ ⟨w, hk⟩
   dsimp only at w hk ⊢
   have wlt := w.lt
   by_cases hj : j < n
   · obtain ⟨q1, q2, q3, q4⟩ := w.next hj
     have hkl : k < l.length := by omega
     have hkk := kindAt_eq l k hkl
     have hek := hes k (by omega)
     have e1 : n - j = (n - (j + 1)) + 1 := by omega
     rw [e1] at hk
     simp only [starts, List.mem_cons, forall_eq_or_imp] at hk
     repeat' (first
      | refine armXT9_1 ?_
      | refine allocD ?_
      | exact True.intro
      | refine stp ?_
      | refine two ?_ ?_
      | (refine imp fun hc => ?_) <;> try exact cx hc
      | refine all fun v_ => ?_)
     · have hf : fitAt l i k := by
        unfold fitAt
        rw [hkk, hki]
        simp only [beq_iff_eq, decide_eq_decide] at hc
        exact hc
       refine ⟨(j + 1, (Sp.endOf l k).1.toNat), ⟨q4, ?_⟩, by dsimp only; omega, VS.of_le ?_⟩
       · rw [hk]
         exact ⟨fun h => h.2, fun h => ⟨hf, h⟩⟩
       · exact leD
     · have hf : ¬ fitAt l i k := by
        unfold fitAt
        rw [hkk, hki]
        intro h
        rw [beq_eq_false_iff_ne] at hc
        exact hc (decide_eq_decide.2 h)
       refine retv0 ?_
       ((with_reducible apply rq2); rfl; rfl; rfl)
       refine ret_eq ?_
       have : ¬ typedP l := fun h => hf (hk.1 (h i hi)).1
       rw [hs, if_neg this]
   · have hjn : j = n := by have := w.le; omega
     repeat' (first
      | refine armXT9_1 ?_
      | refine allocD ?_
      | exact True.intro
      | refine stp ?_
      | refine two ?_ ?_
      | (refine imp fun hc => ?_) <;> try exact cx hc
      | refine all fun v_ => ?_)
     refine ⟨i + 1, ⟨by omega, fun q hq => ?_⟩, by omega, VS.of_le ?_⟩
     · by_cases hqi : q < i
       · exact g2 q hqi
       · obtain rfl : q = i := by omega
         refine hk.2 fun p hp => ?_
         rw [hjn, Nat.sub_self] at hp
         simp [starts] at hp
     · exact leD
 · repeat' (first
    | refine armXT9_1 ?_
    | refine allocD ?_
    | exact True.intro
    | refine stp ?_
    | refine two ?_ ?_
    | (refine imp fun hc => ?_) <;> try exact cx hc
    | refine all fun v_ => ?_)
   refine retv0 ?_
   ((with_reducible apply rq2); rfl; rfl; rfl)
   refine ret_eq ?_
   have : typedP l := fun q hq => g2 q (by omega)
   rw [hs, if_pos this, kindAt_eq l 0 h0]
end Go.Proofs.YtniklgkoiaeipaaGreatDoor
namespace Go.Av
open Go Go.Instr
set_option linter.unusedVariables false
set_option linter.unusedSimpArgs false

def mapEs : List (Value × Value) → Nat → List MapEntry
 | [], _ => []
 | p :: ps, i => ⟨p.1, p.2, i⟩ :: mapEs ps (i + 1)
def mapO (ps : List (Value × Value)) : Obj := .map (mapEs ps 0).toArray ps.length
theorem mapEs_append : ∀ (ps qs : List (Value × Value)) (i : Nat), mapEs (ps ++ qs) i = mapEs ps i ++ mapEs qs (i + ps.length)
 | [], qs, i => by simp [mapEs]
 | p :: ps, qs, i => by
   simp only [List.cons_append, mapEs, mapEs_append ps qs (i + 1), List.length_cons]
   rw [show i + 1 + ps.length = i + (ps.length + 1) by omega]
structure KeyK (kd : TypeDesc) {α : Type} (kv : α → Value) [DecidableEq α] : Prop where
 same : ∀ a b, sameNow kd (kv a) (kv b) = some (decide (a = b))
 easy : ∀ (P : Program) (T : TypeId) (e : Bool) (a : α) (w : World), P.underlying T = some kd → (checkKey e 10000 T (kv a)).run P w = .ok () w
theorem keyK_int (k : IntKind) : KeyK (.int k) (Value.int k) where
 same a b := by
  simp only [sameNow, if_pos trivial]
  exact congrArg some (Bool.eq_iff_iff.2 (by simp))
 easy P T e a w h := by
  unfold checkKey
  simp [run_underlying h]
theorem ba_beq (a b : ByteArray) : (a == b) = true ↔ a = b := by
 cases a; cases b
 rw [ByteArray.mk.injEq]
 show (_ == _) = true ↔ _
 simp only [BEq.beq]
 unfold ByteArray.beq
 simp
theorem keyK_string : KeyK .string Value.string where
 same a b := by
  simp only [sameNow]
  exact congrArg some (Bool.eq_iff_iff.2 (by rw [ba_beq]; simp))
 easy P T e a w h := by
  unfold checkKey
  simp [run_underlying h]
section
variable {α β : Type} [DecidableEq α] {kd : TypeDesc} {kv : α → Value} {vv : β → Value}
def entL (kv : α → Value) (vv : β → Value) (ps : List (α × β)) : List (Value × Value) := ps.map fun p => (kv p.1, vv p.2)
theorem find_no (K : KeyK kd kv) (a : α) : ∀ (ps : List (α × β)) (i j : Nat), (∀ p ∈ ps, p.1 ≠ a) → findNow kd (kv a) (mapEs (entL kv vv ps) i) j = some none
 | [], _, _, _ => rfl
 | p :: ps, i, j, h => by
   have h1 : a ≠ p.1 := fun e => h p List.mem_cons_self e.symm
   simp only [entL, List.map_cons, mapEs, findNow, K.same, decide_eq_false h1]
   exact find_no K a ps (i + 1) (j + 1) fun q hq => h q (List.mem_cons_of_mem _ hq)
theorem find_yes (K : KeyK kd kv) (a : α) (b : β) : ∀ (ps qs : List (α × β)) (i j : Nat), (∀ p ∈ ps, p.1 ≠ a) → findNow kd (kv a) (mapEs (entL kv vv (ps ++ (a, b) :: qs)) i) j = some (some (j + ps.length, vv b))
 | [], qs, i, j, _ => by simp [entL, mapEs, findNow, K.same]
 | p :: ps, qs, i, j, h => by
   have h1 : a ≠ p.1 := fun e => h p List.mem_cons_self e.symm
   have ih := find_yes K a b ps qs (i + 1) (j + 1) fun q hq => h q (List.mem_cons_of_mem _ hq)
   simp only [entL] at ih
   simp only [entL, List.cons_append, List.map_cons, mapEs, findNow, K.same, decide_eq_false h1, ih, List.length_cons]
   rw [show j + 1 + ps.length = j + (ps.length + 1) by omega]
def getM (ps : List (α × β)) (a : α) : Option β := (ps.find? fun p => p.1 == a).map (·.2)
theorem getM_no {ps : List (α × β)} {a : α} (h : ∀ p ∈ ps, p.1 ≠ a) : getM ps a = none := by
 simp only [getM, Option.map_eq_none_iff, List.find?_eq_none]
 intro p hp
 simpa using h p hp
theorem getM_split {ps : List (α × β)} {a : α} (h : ¬ ∀ p ∈ ps, p.1 ≠ a) : ∃ b l r, ps = l ++ (a, b) :: r ∧ (∀ p ∈ l, p.1 ≠ a) ∧ getM ps a = some b := by
 induction ps with
 | nil => exact absurd (by simp) h
 | cons p ps ih =>
   by_cases e : p.1 = a
   · refine ⟨p.2, [], ps, by rw [← e]; rfl, by simp, ?_⟩
     simp [getM, e]
   · obtain ⟨b, l, r, h1, h2, h3⟩ := ih fun k => h fun q hq => by
      rcases List.mem_cons.1 hq with rfl | hq
      · exact e
      · exact k q hq
     refine ⟨b, p :: l, r, by rw [h1]; rfl, fun q hq => ?_, ?_⟩
     · rcases List.mem_cons.1 hq with rfl | hq
       · exact e
       · exact h2 q hq
     · rw [← h3]
       have e' : (p.1 == a) = false := by simpa using e
       simp [getM, List.find?_cons, e']
theorem getM_none {ps : List (α × β)} {a : α} : getM ps a = none ↔ ∀ p ∈ ps, p.1 ≠ a := by
 constructor
 · intro h
   by_cases k : ∀ p ∈ ps, p.1 ≠ a
   · exact k
   · obtain ⟨b, l, r, _, _, h3⟩ := getM_split k
     rw [h] at h3; cases h3
 · exact getM_no
theorem run_find (K : KeyK kd kv) {P : Program} {T : TypeId} (hT : P.underlying T = some kd) (ps : List (α × β)) (a : α) (w : World) :
 ∃ r : Option (Nat × Value), (findKey T (kv a) (mapEs (entL kv vv ps) 0)).run P w = .ok r w ∧ r.map (·.2) = (getM ps a).map vv := by
 by_cases h : ∀ p ∈ ps, p.1 ≠ a
 · refine ⟨none, ?_, by rw [getM_no h]; rfl⟩
   simp [findKey, run_underlying hT, find_no K a ps 0 0 h]
 · obtain ⟨b, l, r, e, h2, h3⟩ := getM_split h
   refine ⟨some (0 + l.length, vv b), ?_, by rw [h3]; rfl⟩
   subst e
   simp [findKey, run_underlying hT, find_yes K a b l r 0 0 h2]
end
section
variable {k : Kx} {Q : Exit → Env → H → Prop} {ρ ρ' : Env} {h h' : H} {ops : Array Oper} {l : List Oper} {d : Nat} {dst : Option Tmp} {ty : TypeId} {pos : String} {after : Array Edge} {g : Option (Nat × Bool)}
theorem jmkmap {T : TypeId} (hd : Nat.blt d k.n = true) (hj : All fun b : Nat => JL k ops l Q ((d, .val (.map (some b))) :: ρ) (.raw b (mapO []) :: h)) : JL k ops (⟨some d, .makeMap T none, ty, pos, after, none⟩ :: l) Q ρ h := by
 refine JL_eff rfl (fun t ht => by cases ht; exact blt hd) fun I ac w h1 h2 => ?_
 refine ⟨.map (some w.heap.size), w.alloc (.map #[] 0), I, .val (.map (some w.heap.size)), _, ?_, h1.fresh _ (.raw w.heap.size (mapO [])) rfl (heap_alloc_new w _), h2.fresh h1 _, rfl, hj.get w.heap.size⟩
 have hm : (makeMap T none).run k.P w = .ok (.map (some w.heap.size)) (w.alloc (.map #[] 0)) := rfl
 simp [execOp, hm]
theorem run_setM {P : Program} {w : World} {r : Nat} {es : Array MapEntry} {clock : Nat} (o : Obj) (hb : w.heap[r]? = some (.map es clock)) : (setObj r o).run P w = .ok () { w with heap := w.heap.setIfInBounds r o } := by
 simp [setObj, Sem.run, hb]
theorem js_putMr {α β : Type} [DecidableEq α] {kd : TypeDesc} {kv : α → Value} {vv : β → Value} (K : KeyK kd kv) {T KT ET : TypeId} {x y u : Operand} {r : AV} {b : Nat} {ps : List (α × β)} {a : α} {c : β}
 (hx : evO ρ x = some (.val (.map (some b)))) (hy : evO ρ y = some (.val (kv a))) (hv : evO ρ u = some r) (hr : ∀ w I v, AV.rel w I r v → v = vv c) (hT : k.P.underlying T = some (.map KT ET)) (hK : k.P.underlying KT = some kd)
 (hu : Upd (.raw b (mapO (entL kv vv ps))) (.raw b (mapO (entL kv vv (ps ++ [(a, c)])))) h h') (hno : getM ps a = none)
 (hj : JL k ops l Q ρ h') : JL k ops (⟨none, .mapUpdate T x y u, ty, pos, after, none⟩ :: l) Q ρ h := by
 obtain ⟨h1, h2, rfl, rfl⟩ := hu.split
 refine JL_eff_skip rfl rfl fun I ac w k1 k2 => ?_
 have e1 := rel_val (k2.ev x) (ev_of_evO hx)
 have e2 := rel_val (k2.ev y) (ev_of_evO hy)
 have e3 := hr _ _ _ (rel_as (k2.ev u) (ev_of_evO hv))
 have hb : w.heap[b]? = some (mapO (entL kv vv ps)) := k1.ent (.raw b (mapO (entL kv vv ps))) (by simp)
 have hfind := find_no (vv := vv) K a ps 0 0 (getM_none.1 hno)
 have hnew : Obj.map (mapEs (entL kv vv ps) 0 ++ [(⟨kv a, vv c, (entL kv vv ps).length⟩ : MapEntry)]).toArray ((entL kv vv ps).length + 1) = mapO (entL kv vv (ps ++ [(a, c)])) := by
  have e : entL kv vv (ps ++ [(a, c)]) = entL kv vv ps ++ [(kv a, vv c)] := by simp [entL]
  unfold mapO
  rw [e, mapEs_append]
  simp [mapEs]
 obtain ⟨g1, g2⟩ := k1.write (w' := { w with heap := w.heap.setIfInBounds b (mapO (entL kv vv (ps ++ [(a, c)]))) }) (e' := .raw b (mapO (entL kv vv (ps ++ [(a, c)])))) (b := b) rfl rfl rfl rfl rfl (by simp)
  (fun x hx => by simp [Array.getElem?_setIfInBounds, Ne.symm hx]) (by
   have hlt := (Array.getElem?_eq_some_iff.1 hb).1
   show _ = _
   simp [Array.getElem?_setIfInBounds, hlt])
 refine ⟨{ w with heap := w.heap.setIfInBounds b (mapO (entL kv vv (ps ++ [(a, c)]))) }, I, h1 ++ .raw b (mapO (entL kv vv (ps ++ [(a, c)]))) :: h2, ?_, g1, k2.mono g2 (fun _ h => h), hj⟩
 have hobj : (getObj b).run k.P w = .ok (.map (mapEs (entL kv vv ps) 0).toArray (entL kv vv ps).length) w := by simp [getObj, Sem.run, hb, mapO]
 have hset := run_setM (P := k.P) (w := w) (r := b) (mapO (entL kv vv (ps ++ [(a, c)]))) (es := (mapEs (entL kv vv ps) 0).toArray) (clock := (entL kv vv ps).length) hb
 simp only [execOp, e1, e2, e3, mapUpdate]
 simp [run_underlying hT, hobj, K.easy k.P KT false a w hK, findKey, run_underlying hK, hfind, hnew, hset]
end
section
variable {P : Program} {G : List (Nat × List D)} {ρ : Env} {h : H} {dst : Option Tmp} {ty : TypeId} {pos : String} {after : Array Edge} {g : Option (Nat × Bool)}
theorem pu_lookM {α β : Type} [DecidableEq α] {kd : TypeDesc} {kv : α → Value} {vv : β → Value} (K : KeyK kd kv) {T KT ET : TypeId} {x y : Operand} {b : Nat} {ps : List (α × β)} {a : α} {z : Value} {sz eb : Nat}
 (hx : evO ρ x = some (.val (.map (some b)))) (hy : evO ρ y = some (.val (kv a))) (hT : P.underlying T = some (.map KT ET)) (hK : P.underlying KT = some kd) (hE : El P ET z sz eb) (hm : Ent.raw b (mapO (entL kv vv ps)) ∈ h) :
 Pure P G ⟨dst, .lookup T x y true, ty, pos, after, g⟩ ρ h (.tup [.val (((getM ps a).map vv).getD z), .bool (getM ps a).isSome]) := by
 intro c I n ac w _ hok hs
 obtain ⟨i, hi, hz, _, _⟩ := hE.get
 have e1 := rel_val (hs.ev x) (ev_of_evO hx)
 have e2 := rel_val (hs.ev y) (ev_of_evO hy)
 have hb : w.heap[b]? = some (mapO (entL kv vv ps)) := hok.ent _ hm
 refine ⟨.tuple #[((getM ps a).map vv).getD z, .bool (getM ps a).isSome], ⟨[_, _], rfl, rfl, rfl, trivial⟩, fun w' hw' => ?_⟩
 have hb' : w'.heap[b]? = some (mapO (entL kv vv ps)) := (hw'.own b (mem_blks hm rfl)).trans hb
 have hobj : (getObj b).run P w' = .ok (.map (mapEs (entL kv vv ps) 0).toArray (entL kv vv ps).length) w' := by simp [getObj, Sem.run, hb', mapO]
 obtain ⟨r, hr1, hr2⟩ := run_find (vv := vv) K hK ps a w'
 simp only [execOp, e1, e2, lookup]
 cases r with
 | none =>
   have hr3 : (getM ps a).map vv = none := hr2.symm
   have hr4 : getM ps a = none := by simpa using hr3
   simp [run_underlying hT, hobj, K.easy P KT _ a w' hK, hr1, hr4, zeroValue, typeInfo, hi, hz]
 | some r =>
   obtain ⟨j, v⟩ := r
   have hr3 : (getM ps a).map vv = some v := hr2.symm
   obtain ⟨bb, hb1, hb2⟩ := Option.map_eq_some_iff.1 hr3
   simp [run_underlying hT, hobj, K.easy P KT _ a w' hK, hr1, hb1, hb2]
end
def setO {α : Type} (kv : α → Value) (xs : List α) : Obj := mapO (entL kv (fun _ : Unit => .agg #[]) (xs.map fun x => (x, ())))
theorem getM_set {α : Type} [DecidableEq α] (xs : List α) (a : α) : (getM (xs.map fun x => (x, ())) a).isSome = decide (a ∈ xs) := by
 by_cases h : a ∈ xs
 · rw [decide_eq_true h]
   cases hg : getM (xs.map fun x => (x, ())) a with
   | none => exact absurd rfl (getM_none.1 hg (a, ()) (List.mem_map.2 ⟨a, h, rfl⟩))
   | some _ => rfl
 · rw [decide_eq_false h, getM_no]
   · rfl
   · intro p hp
     obtain ⟨x, hx, rfl⟩ := List.mem_map.1 hp
     exact fun e => h (by subst e; exact hx)
section
variable {k : Kx} {Q : Exit → Env → H → Prop} {ρ ρ' : Env} {h h' : H} {ops : Array Oper} {l : List Oper} {d : Nat} {dst : Option Tmp} {ty : TypeId} {pos : String} {after : Array Edge} {g : Option (Nat × Bool)}
theorem jmkset {α : Type} (kv : α → Value) {T : TypeId} (hd : Nat.blt d k.n = true) (hj : All fun b : Nat => JL k ops l Q ((d, .val (.map (some b))) :: ρ) (.raw b (setO kv []) :: h)) : JL k ops (⟨some d, .makeMap T none, ty, pos, after, none⟩ :: l) Q ρ h := jmkmap hd hj
theorem js_putS {α : Type} [DecidableEq α] {kd : TypeDesc} {kv : α → Value} (K : KeyK kd kv) {T KT ET : TypeId} {x y u : Operand} {b : Nat} {xs : List α} {a : α}
 (hx : evO ρ x = some (.val (.map (some b)))) (hy : evO ρ y = some (.val (kv a))) (hv : evO ρ u = some (.agg [])) (hT : k.P.underlying T = some (.map KT ET)) (hK : k.P.underlying KT = some kd)
 (hu : Upd (.raw b (setO kv xs)) (.raw b (setO kv (xs ++ [a]))) h h') (hno : a ∉ xs)
 (hj : JL k ops l Q ρ h') : JL k ops (⟨none, .mapUpdate T x y u, ty, pos, after, none⟩ :: l) Q ρ h := by
 have hno' : getM (xs.map fun x => (x, ())) a = none := getM_no fun p hp => by
  obtain ⟨x, hx, rfl⟩ := List.mem_map.1 hp
  exact fun e => hno (by subst e; exact hx)
 have hu' : Upd (.raw b (mapO (entL kv (fun _ : Unit => .agg #[]) (xs.map fun x => (x, ()))))) (.raw b (mapO (entL kv (fun _ : Unit => .agg #[]) (xs.map (fun x => (x, ())) ++ [(a, ())])))) h h' := by
  have := hu
  unfold setO at this
  rwa [List.map_append] at this
 exact js_putMr K (c := ()) hx hy hv (fun w I v hr => by
  obtain ⟨vs, e1, e2⟩ := hr
  cases vs with
  | nil => exact e1
  | cons _ _ => exact e2.elim) hT hK hu' hno' hj
end
section
variable {P : Program} {G : List (Nat × List D)} {ρ : Env} {h : H} {dst : Option Tmp} {ty : TypeId} {pos : String} {after : Array Edge} {g : Option (Nat × Bool)}
theorem pu_lookS {α : Type} [DecidableEq α] {kd : TypeDesc} {kv : α → Value} (K : KeyK kd kv) {T KT ET : TypeId} {x y : Operand} {b : Nat} {xs : List α} {a : α} {eb : Nat}
 (hx : evO ρ x = some (.val (.map (some b)))) (hy : evO ρ y = some (.val (kv a))) (hT : P.underlying T = some (.map KT ET)) (hK : P.underlying KT = some kd) (hE : El P ET (.agg #[]) 0 eb) (hm : Ent.raw b (setO kv xs) ∈ h) :
 Pure P G ⟨dst, .lookup T x y true, ty, pos, after, g⟩ ρ h (.tup [.agg [], .bool (decide (a ∈ xs))]) := by
 intro c I n ac w e1 e2 e3
 obtain ⟨v, hv, hrun⟩ := pu_lookM (P := P) (G := G) (ρ := ρ) (h := h) (dst := dst) (ty := ty) (pos := pos) (after := after) (g := g) (vv := fun _ : Unit => .agg #[]) K hx hy hT hK hE hm c I n ac w e1 e2 e3
 refine ⟨v, ?_, hrun⟩
 obtain ⟨vs, h1, h2⟩ := hv
 refine ⟨vs, h1, ?_⟩
 match vs, h2 with
 | [p, q], ⟨g1, g2, g3⟩ =>
   refine ⟨⟨[], ?_, trivial⟩, ?_, g3⟩
   · rw [show p = _ from g1]
     cases getM (xs.map fun x => (x, ())) a <;> rfl
   · rw [getM_set] at g2; exact g2
end
section
variable {k : Kx} {Q : Exit → Env → H → Prop} {ρ ρ' : Env} {h h' : H} {ops : Array Oper} {l : List Oper} {d : Nat} {ty : TypeId} {pos : String} {after : Array Edge}
theorem jstrbytes {S T E : TypeId} {x : Operand} {s : ByteArray} (hx : evO ρ x = some (.val (.string s))) (hS : k.P.underlying S = some .string) (hT : k.P.underlying T = some (.slice E)) (hE : k.P.underlying E = some (.int .u8)) (hb : s.data.toList.length ≤ 140737488355328) (hd : Nat.blt d k.n = true)
 (hj : JL k ops l Q ((d, .d (bytesD s.data.toList)) :: ρ) h) : JL k ops (⟨some d, .convert S T x, ty, pos, after, none⟩ :: l) Q ρ h := by
 refine JL_eff rfl (fun t ht => by cases ht; exact blt hd) fun I ac w h1 h2 => ?_
 have e1 := rel_val (h2.ev x) (ev_of_evO hx)
 have hrun := run_bytes_of_string (P := k.P) w S T E s hS hT hE
 have hge := grownCap_ge w s.size 0 E
 have hsz : s.size = s.data.toList.length := by rw [Array.length_toList]; rfl
 have hle := grownCap_le_maxLen w s.size 0 E (by unfold maxLen; omega)
 have hs : Same I h w w.drew := ⟨rfl, rfl, rfl, Nat.le_refl _, fun _ _ => rfl⟩
 have k1 := h1.same hs
 have k2 := SF.same h1 hs h2
 generalize grownCap w s.size 0 E = cap at hrun hge hle
 generalize ho : Obj.cells (bytesRow s cap) E ((bytesRow s cap).size, (bytesRow s cap).size + 1) = o at hrun
 have hok := Ok.release (h1 := []) (b := w.drew.heap.size) (k1.fresh o (.raw w.drew.heap.size o) rfl (heap_alloc_new w.drew o)) rfl
 have hmono : ∀ b, I b → (w.drew.alloc o).heap[b]? = w.drew.heap[b]? := fun b hb => Go.RowKit.Below.heap_alloc w.drew _ b (k1.imm b hb).1
 have hblk : (w.drew.alloc o).heap[w.drew.heap.size]? = some (.cells (bytesRow s cap) E ((bytesRow s cap).size, (bytesRow s cap).size + 1)) := by rw [ho]; exact heap_alloc_new w.drew o
 refine ⟨.slice (some ⟨w.drew.heap.size, 0, none⟩) s.size cap, w.drew.alloc o, _, .d (bytesD s.data.toList), _, ?_, hok, k2.mono hmono (fun _ h => .inl h), ?_, hj⟩
 · have hrun' : (convert S T (.string s)).run k.P w = .ok (.slice (some ⟨w.drew.heap.size, 0, none⟩) s.size cap) (w.drew.alloc o) := hrun
   simp [execOp, e1, hrun']
 · have hlen : (s.data.toList.map byteC).length = s.size := by rw [List.length_map, hsz]
   have := Rel.l (w := w.drew.alloc o) (I := fun x => I x ∨ x = w.drew.heap.size) 1 1 (s.data.toList.map byteC) ⟨w.drew.heap.size, 0, none⟩ cap (fun j _ => .int .u8 ((s.data.toList[j]?.getD 0).toNat : Int)) (.inr rfl) (by rw [hlen]; omega) hle (by rw [hlen]; omega)
    (fun r hr => by obtain ⟨a, _, rfl⟩ := List.mem_map.1 hr; rfl) (fun j u r x hr hx => ?_) (fun j u r x hr hx => ?_)
   · rw [hlen] at this
     exact this
   · rw [List.getElem?_map] at hr
     obtain ⟨b, hb1, rfl⟩ := Option.map_eq_some_iff.1 hr
     have hu : u = 0 := by
      have := (List.getElem?_eq_some_iff.1 hx).1
      simp [byteC] at this
      exact this
     subst hu
     have hjl : j < s.data.size := by
      have := (List.getElem?_eq_some_iff.1 hb1).1
      simpa using this
     rw [Addr.add_lit, cell_of_row (w.drew.alloc o) _ _ _ _ _ hblk, hb1]
     simp only [Nat.zero_add, Nat.mul_one, Nat.add_zero, Option.getD_some]
     rw [Array.getElem?_toList] at hb1
     have hjl' : j < s.size := hjl
     have hbb : s.data[j] = b := (Array.getElem?_eq_some_iff.1 hb1).2
     simp [bytesRow, Array.getElem?_append, hjl', hb1, hbb]
   · rw [List.getElem?_map] at hr
     obtain ⟨b, hb1, rfl⟩ := Option.map_eq_some_iff.1 hr
     have hu : u = 0 := by
      have := (List.getElem?_eq_some_iff.1 hx).1
      simp [byteC] at this
      exact this
     subst hu
     simp only [byteC, List.getElem?_cons_zero, Option.some.injEq] at hx
     subst hx
     simp only [hb1, Option.getD_some]
     exact .i _ _
end
section
variable {P : Program} {G : List (Nat × List D)} {ρ : Env} {h : H} {dst : Option Tmp} {ty : TypeId} {pos : String} {after : Array Edge} {g : Option (Nat × Bool)}
theorem pu_len_str {T : TypeId} {x : Operand} {s : ByteArray} (hx : evO ρ x = some (.val (.string s))) (hT : P.underlying T = some .string) : Pure P G ⟨dst, .call { callee := .builtin .len, args := #[x], argTypes := #[T] }, ty, pos, after, g⟩ ρ h (.int (s.data.toList.length : Nat)) := by
 have := pure_len_string (P := P) (G := G) (h := h) (dst := dst) (ty := ty) (pos := pos) (after := after) (g := g) hT (ev_of_evO hx)
 rwa [show s.size = s.data.toList.length by rw [Array.length_toList]; rfl] at this
theorem pu_at_str {T : TypeId} {x y : Operand} {s : ByteArray} {n : Nat} (hx : evO ρ x = some (.val (.string s))) (hy : evO ρ y = some (.int (n : Int))) (hT : P.underlying T = some .string) (hn : n < s.data.toList.length) : Pure P G ⟨dst, .index T x y, ty, pos, after, g⟩ ρ h (AV.byte s.data.toList[n]) :=
 pure_free fun w I _ a hs => ⟨_, rfl, fun w' => by
  have e1 := rel_val (hs.ev x) (ev_of_evO hx)
  have e2 := rel_val (hs.ev y) (ev_of_evO hy)
  have hn' : n < s.size := by rw [show s.size = s.data.toList.length by rw [Array.length_toList]; rfl]; exact hn
  have e3 : s[n]? = some s.data.toList[n] := by
   rw [getElem?_pos s n hn']
   rfl
  simp [execOp, e1, e2, index, asIntOf, run_underlying hT, e3]⟩
end
end Go.Av
namespace Go.Sp
open Go Go.Av
set_option linter.unusedVariables false
set_option linter.unusedSimpArgs false

structure Vr where
 name : ByteArray
 low : Int
 high : Int
 init : Int
def Vr.cells (v : Vr) : List D := [.s v.name, .i .i64 v.low, .i .i64 v.high, .i .i64 v.init]
abbrev varsD (l : List Vr) : D := .l 4 40 (l.map Vr.cells)
structure St where
 var : Int
 val : List Fo
def St.cells (s : St) : List D := [.i .i64 s.var, opsD s.val]
abbrev setsD (l : List St) : D := .l 2 32 (l.map St.cells)
structure Ru where
 guard : List Fo
 sets : List St
def Ru.cells (r : Ru) : List D := [opsD r.guard, setsD r.sets]
abbrev rulesD (l : List Ru) : D := .l 2 48 (l.map Ru.cells)
structure Md where
 vars : List Vr
 rules : List Ru
def Md.cells (m : Md) : List D := [varsD m.vars, rulesD m.rules]
abbrev mdA (m : Md) : AV := .agg [.d (varsD m.vars), .d (rulesD m.rules)]

def letP (i : Nat) (c : UInt8) : Prop := (97 ≤ c.toNat ∧ c.toNat ≤ 122) ∨ (48 ≤ c.toNat ∧ c.toNat ≤ 57 ∧ i ≠ 0)
instance (i : Nat) (c : UInt8) : Decidable (letP i c) := by unfold letP; infer_instance
abbrev yesS : ByteArray := ⟨#[121, 101, 115]⟩
abbrev noS : ByteArray := ⟨#[110, 111]⟩
def nameP (s : ByteArray) : Prop := (1 ≤ s.data.toList.length ∧ s.data.toList.length ≤ 8) ∧ s ≠ yesS ∧ s ≠ noS ∧ ∀ (i : Nat) (h : i < s.data.toList.length), letP i s.data.toList[i]
noncomputable instance (s : ByteArray) : Decidable (nameP s) := Classical.propDecidable _

noncomputable instance (a : ByteArray) (l : List ByteArray) : Decidable (a ∈ l) := Classical.propDecidable _
def spanV (v : Vr) : Int := v.high - v.low + 1
def rangeV (v : Vr) : Prop := -1000 ≤ v.low ∧ v.high ≤ 1000 ∧ v.low ≤ v.high ∧ v.low ≤ v.init ∧ v.init ≤ v.high
instance (v : Vr) : Decidable (rangeV v) := by unfold rangeV; infer_instance
noncomputable def varsE : List Vr → List ByteArray → Int → Int
 | [], _, _ => 0
 | v :: l, seen, n =>
   if ¬ nameP v.name then 6 else if v.name ∈ seen then 7 else if ¬ rangeV v then 2 else if 64 < spanV v then 1 else if 4096 < n * spanV v then 1 else varsE l (seen ++ [v.name]) (n * spanV v)
noncomputable def varsF (l : List Vr) : Int := if 6 < l.length then 1 else varsE l [] 1
theorem varsE_at (l : List Vr) (i : Nat) (h : i < l.length) (seen : List ByteArray) (n : Int) : varsE (l.drop i) seen n =
 if ¬ nameP l[i].name then 6 else if l[i].name ∈ seen then 7 else if ¬ rangeV l[i] then 2 else if 64 < spanV l[i] then 1 else if 4096 < n * spanV l[i] then 1 else varsE (l.drop (i + 1)) (seen ++ [l[i].name]) (n * spanV l[i]) := by
 rw [List.drop_eq_getElem_cons h, varsE]
theorem varsE_end (l : List Vr) (i : Nat) (h : l.length ≤ i) (seen : List ByteArray) (n : Int) : varsE (l.drop i) seen n = 0 := by rw [List.drop_of_length_le h, varsE]

noncomputable def kindF (l : List Fo) (vars : Int) (truth : Bool) : Int := if (exprC l vars).2 ≠ 0 then (exprC l vars).2 else if (exprC l vars).1 ≠ truth then 5 else 0
noncomputable def setsE (vars : Int) : List St → List Int → Int
 | [], _ => 0
 | s :: l, seen => if ¬ (0 ≤ s.var ∧ s.var < vars) then 2 else if s.var ∈ seen then 7 else if kindF s.val vars false ≠ 0 then kindF s.val vars false else setsE vars l (seen ++ [s.var])
noncomputable def ruleF (r : Ru) (vars : Int) : Int := if 6 < r.sets.length then 1 else if kindF r.guard vars true ≠ 0 then kindF r.guard vars true else setsE vars r.sets []
theorem setsE_at (vars : Int) (l : List St) (i : Nat) (h : i < l.length) (seen : List Int) : setsE vars (l.drop i) seen =
 if ¬ (0 ≤ l[i].var ∧ l[i].var < vars) then 2 else if l[i].var ∈ seen then 7 else if kindF l[i].val vars false ≠ 0 then kindF l[i].val vars false else setsE vars (l.drop (i + 1)) (seen ++ [l[i].var]) := by
 rw [List.drop_eq_getElem_cons h, setsE]
theorem setsE_end (vars : Int) (l : List St) (i : Nat) (h : l.length ≤ i) (seen : List Int) : setsE vars (l.drop i) seen = 0 := by rw [List.drop_of_length_le h, setsE]
noncomputable def rulesE (vars : Int) : List Ru → Int
 | [] => 0
 | r :: l => if ruleF r vars ≠ 0 then ruleF r vars else rulesE vars l
theorem rulesE_at (vars : Int) (l : List Ru) (i : Nat) (h : i < l.length) : rulesE vars (l.drop i) = if ruleF l[i] vars ≠ 0 then ruleF l[i] vars else rulesE vars (l.drop (i + 1)) := by
 rw [List.drop_eq_getElem_cons h, rulesE]
theorem rulesE_end (vars : Int) (l : List Ru) (i : Nat) (h : l.length ≤ i) : rulesE vars (l.drop i) = 0 := by rw [List.drop_of_length_le h, rulesE]
noncomputable def modelF (m : Md) : Int := if varsF m.vars ≠ 0 then varsF m.vars else if 12 < m.rules.length then 1 else rulesE m.vars.length m.rules
end Go.Sp
