/- A bundle of this claim's own texts: N14. -/
import Derived.Test.YtnlfhnbcdfdhgaaGreatDoorF16
import Derived.Test.YtnlfhnbcdfdhgaaGreatDoorF21
import Derived.Test.YtnlfhnbcdfdhgaaGreatDoorF22
set_option linter.unusedVariables false
set_option linter.unusedSimpArgs false
set_option maxRecDepth 100000
set_option maxHeartbeats 4000000
namespace Go.Proofs.YtnlfhnbcdfdhgaaGreatDoor
open Go Go.Av Go.Sp
theorem RV : Cal Tryz.prog 85 := Cal.of Tryz.func85 (by kernel_rfl) (by kernel_rfl)
theorem MW : Cal Tryz.prog 49 := Cal.of Tryz.func49 (by kernel_rfl) (by kernel_rfl)
theorem spot (t : Tk) (hm : Ag t.model = 0) (st cl : Int) : ACr Tryz.prog GP 85 [tkA t, .agg [.int st, .int cl]] (.bool (decide ((0 ≤ st ∧ st < AQ t.model.vars) ∧ 0 ≤ cl ∧ cl < BK t))) := by
 have hC := Count t.model
 unfold IF at hC
 rw [if_neg (fun k => k hm)] at hC
 dsimp only at hC
 have hM := SZ t
 generalize AQ t.model.vars = n at hC ⊢
 generalize BK t = N at hM ⊢
 refine AJ (ts := [4]) Tryz.f85.ntmps Tryz.func85 rfl rfl rfl (by simp [Tryz.ntmps85]) fun W I => ?_
 by_cases c0 : 0 ≤ st
 · by_cases c1 : st < n
   · by_cases c2 : 0 ≤ cl
     · by_cases c3 : cl < N
       · repeat' (first
          | refine ca Ca (hC) ?_
          | refine caq DA (hM) ?_
          | exact True.intro | refine AP ?_ | refine two ?_ ?_
          | (refine imp fun hc => ?_) <;> try exact cx hc
          | refine all fun v_ => ?_)
         all_goals
          refine AN (VS.drop (List.nil_sublist _)) ?_
          ((with_reducible apply rq1); rfl; rfl)
          refine AB (congrArg AV.bool ?_)
          (first | rfl | (refine decide_eq_decide.2 ?_; omega) | (refine (decide_eq_true ?_).symm; omega) | (refine (decide_eq_false ?_).symm; omega) | (refine decide_eq_true ?_; omega) | (refine decide_eq_false ?_; omega))
       · repeat' (first
          | refine ca Ca (hC) ?_
          | refine caq DA (hM) ?_
          | exact True.intro | refine AP ?_ | refine two ?_ ?_
          | (refine imp fun hc => ?_) <;> try exact cx hc
          | refine all fun v_ => ?_)
         all_goals
          refine AN (VS.drop (List.nil_sublist _)) ?_
          ((with_reducible apply rq1); rfl; rfl)
          refine AB (congrArg AV.bool ?_)
          (first | rfl | (refine decide_eq_decide.2 ?_; omega) | (refine (decide_eq_true ?_).symm; omega) | (refine (decide_eq_false ?_).symm; omega) | (refine decide_eq_true ?_; omega) | (refine decide_eq_false ?_; omega))
     · repeat' (first
        | refine ca Ca (hC) ?_
        | refine caq DA (hM) ?_
        | exact True.intro | refine AP ?_ | refine two ?_ ?_
        | (refine imp fun hc => ?_) <;> try exact cx hc
        | refine all fun v_ => ?_)
       all_goals
        refine AN (VS.drop (List.nil_sublist _)) ?_
        ((with_reducible apply rq1); rfl; rfl)
        refine AB (congrArg AV.bool ?_)
        (first | rfl | (refine decide_eq_decide.2 ?_; omega) | (refine (decide_eq_true ?_).symm; omega) | (refine (decide_eq_false ?_).symm; omega) | (refine decide_eq_true ?_; omega) | (refine decide_eq_false ?_; omega))
   · repeat' (first
      | refine ca Ca (hC) ?_
      | refine caq DA (hM) ?_
      | exact True.intro | refine AP ?_ | refine two ?_ ?_
      | (refine imp fun hc => ?_) <;> try exact cx hc
      | refine all fun v_ => ?_)
     all_goals
      refine AN (VS.drop (List.nil_sublist _)) ?_
      ((with_reducible apply rq1); rfl; rfl)
      refine AB (congrArg AV.bool ?_)
      (first | rfl | (refine decide_eq_decide.2 ?_; omega) | (refine (decide_eq_true ?_).symm; omega) | (refine (decide_eq_false ?_).symm; omega) | (refine decide_eq_true ?_; omega) | (refine decide_eq_false ?_; omega))
 · repeat' (first
    | refine ca Ca (hC) ?_
    | refine caq DA (hM) ?_
    | exact True.intro | refine AP ?_ | refine two ?_ ?_
    | (refine imp fun hc => ?_) <;> try exact cx hc
    | refine all fun v_ => ?_)
   all_goals
    refine AN (VS.drop (List.nil_sublist _)) ?_
    ((with_reducible apply rq1); rfl; rfl)
    refine AB (congrArg AV.bool ?_)
    (first | rfl | (refine decide_eq_decide.2 ?_; omega) | (refine (decide_eq_true ?_).symm; omega) | (refine (decide_eq_false ?_).symm; omega) | (refine decide_eq_true ?_; omega) | (refine decide_eq_false ?_; omega))
theorem ZQ (t : Tk) (st cl : Int) : ACr Tryz.prog GP 49 [tkA t, .agg [.int st, .int cl]] (.tup [.d (AO (Ad t st cl).1), .int (Ad t st cl).2]) := by
 have hP := Wm t
 refine AJ (ts := [4, 5]) Tryz.f49.ntmps Tryz.func49 rfl rfl rfl (by simp [Tryz.ntmps49]) fun W I => ?_
 unfold Ad
 by_cases h1 : BL t ≠ 0
 · rw [if_pos h1]
   generalize BL t = e at hP h1
   repeat' (first
    | refine ca FE (hP) ?_
    | exact True.intro | refine AG ?_ | refine two ?_ ?_ | refine AF fun c_ => ?_
    | (refine imp fun hc => ?_) <;> try exact cx1 hc
    | refine all fun v_ => ?_)
   refine AN (VS.trans (VS.drop (List.nil_sublist _)) (EZ (t := 4) 2 16 rfl)) ?_
   ((with_reducible apply rq2); rfl; rfl; rfl)
   exact AB rfl
 rw [if_neg h1]
 replace h1 := Decidable.not_not.1 h1
 rw [h1] at hP
 obtain ⟨a1, a2, a3⟩ := C0 h1
 obtain ⟨n, hn, n1, n2⟩ := FC a3
 have hS := spot t a3 st cl
 by_cases hin : ¬ ((0 ≤ st ∧ st < AQ t.model.vars) ∧ 0 ≤ cl ∧ cl < BK t)
 · rw [if_pos hin]
   rw [decide_eq_false hin] at hS
   repeat' (first
    | refine ca FE (hP) ?_
    | refine ca RV (hS) ?_
    | exact True.intro | refine AG ?_ | refine two ?_ ?_ | refine AF fun c_ => ?_
    | (refine imp fun hc => ?_) <;> try exact cx1 hc
    | refine all fun v_ => ?_)
   refine AN (VS.trans (VS.drop (List.nil_sublist _)) (EZ (t := 4) 2 16 rfl)) ?_
   ((with_reducible apply rq2); rfl; rfl; rfl)
   exact AB rfl
 rw [if_neg hin]
 replace hin := Decidable.not_not.1 hin
 rw [decide_eq_true hin] at hS
 have hsl := NA a3 st
 have hrg := KD a3 st
 have hlet := fun c k0 k1 => Lc (t := t) (c := c) h1 k0 k1
 have hfo := fun c d => Rz (t := t) (st := st) (cl := cl) (c := c) (d := d) h1
 have hyes := fun c k => Xs (t := t) (st := st) (cl := cl) (c := c) (k := k)
 have hno := fun c k => aa (t := t) (st := st) (cl := cl) (c := c) (k := k)
 have hfl := fun c k => Pj t st cl c k
 have hbs := fun cs i h => Vo t st cl cs i h
 have hbl := fun cs => Il t st cl cs
 have hm64 := Dr t
 have hb0 : Jd t st cl [] = [] := rfl
 have hf0 : ∀ c, IK t st cl c 0 = [] := fun c => rfl
 obtain ⟨⟨g1, g2⟩, g3, g4⟩ := hin
 have hL := PH t.model t.props st
 rw [Lc h1 g1 g2] at hL
 dsimp only at hL
 have hN := Next t.model st
 have hM := SZ t
 generalize EI t.model st = p at hN hsl hrg ⊢
 obtain ⟨cs, e⟩ := p
 dsimp only at hN hsl hrg ⊢
 repeat' (first
  | refine ca FE (hP) ?_
  | refine ca RV (hS) ?_
  | refine ca GG (hL) ?_
  | refine ca Wq (hN) ?_
  | exact True.intro | refine AG ?_ | refine two ?_ ?_ | refine AF fun c_ => ?_
  | (refine imp fun hc => ?_) <;> try exact cx1 hc
  | refine all fun v_ => ?_)
 obtain ⟨bs, rfl⟩ : ∃ x, x = v_ := ⟨v_, rfl⟩
 obtain ⟨bt, rfl⟩ : ∃ x, x = v_ := ⟨v_, rfl⟩
 refine F6 (E := 106) (sz := 2) Fo.cells ?_
 refine AM (X := Nat × Sl) (fun y => [(2, .val (.pointer (some ⟨bt, 0, none⟩))), (3, .val (.pointer (some ⟨bs, 0, none⟩))), (7, .d (Bt (Di t st))), (11, .val y.2.v), (46, .d (AK cs)), (47, .int cs.length), (48, .int y.1)]) (fun y => [AH y.2.v 106 2 Fo.cells (Jd t st cl (cs.take y.1)), .cells bs 106 [.int st, .int cl], .cells bt 29 [.d (BT t.model.vars), .d (A2 t.model.rules), .d (BU t.props), .d (AO t.formula)]]) (fun y => y.1 ≤ cs.length) (fun y => cs.length - y.1) (0, Sl.nil) (Nat.zero_le _) (VS.take (by exact AD) ?_) ?_
 · exact leD
 rintro ⟨i, q⟩ hi
 dsimp only at hi ⊢
 have hbi := hbl (cs.take i)
 rw [List.length_take] at hbi
 by_cases hil : i < cs.length
 · obtain ⟨r1, r2⟩ := hrg _ (List.getElem_mem hil)
   have hbs := hbs cs i hil
   have hL2 := PH t.model t.props cs[i]
   rw [hlet _ r1 r2] at hL2
   dsimp only at hL2
   have hfo := fun d => hfo cs[i] d g3 g4
   have hyes := hyes cs[i]
   have hno := hno cs[i]
   have hfl := hfl cs[i]
   have hf0 := hf0 cs[i]
   generalize hnx : Di t cs[i] = nx at hL2 hfo
   generalize Di t st = lt at hL hfo ⊢
   generalize IK t st cl cs[i] = F at hyes hno hfl hf0 hbs
   generalize Vp t st cl cs[i] = fb at hyes hno hfo
   generalize Jd t st cl (cs.take i) = B at hbi hbs ⊢
   generalize BK t = N at hM hfo hm64 hbs ⊢
   repeat' (first
    | refine ca GG (hL2) ?_
    | ((with_reducible apply Dg); (focus rfl); (focus exact DA); (focus exact hM); (focus rfl))
    | exact True.intro | refine AG ?_ | refine two ?_ ?_ | refine AF fun c_ => ?_
    | (refine imp fun hc => ?_) <;> try exact cx1 hc
    | refine all fun v_ => ?_)
   have e0 : B = B ++ F 0 := by rw [hf0, List.append_nil]
   refine AM (X := Nat × Sl) (fun y => [(2, .val (.pointer (some ⟨bt, 0, none⟩))), (3, .val (.pointer (some ⟨bs, 0, none⟩))), (7, .d (Bt lt)), (11, .val y.2.v), (13, .int cs[i]), (14, .d (Bt nx)), (46, .d (AK cs)), (47, .int cs.length), (48, .int i), (62, .int N), (63, .int y.1)]) (fun y => [AH y.2.v 106 2 Fo.cells (B ++ F y.1), .cells bs 106 [.int st, .int cl], .cells bt 29 [.d (BT t.model.vars), .d (A2 t.model.rules), .d (BU t.props), .d (AO t.formula)]]) (fun y => y.1 ≤ N) (fun y => N - y.1) (0, q) (Nat.zero_le _) (VS.take (by dsimp only; rw [← e0]; exact AD) ?_) ?_
   · exact leD
   clear e0
   rintro ⟨k, q⟩ hk
   dsimp only at hk ⊢
   have hfk := hfl k
   have hal : (B ++ F k).length = B.length + (F k).length := List.length_append
   by_cases hkl : k < N
   · have hFo := bc t.formula lt cl nx k
     rw [hfo k (by omega) (by omega)] at hFo
     dsimp only at hFo
     cases hb : fb k with
     | true =>
       rw [hb] at hFo
       have hy := hyes k hb
       repeat' (first
        | refine ca KN (hFo) ?_
        | ((with_reducible apply (BX (f := Fo.cells) (u := ⟨cs[i], (k : Int)⟩))); (focus rfl); (focus rfl); (focus (with_reducible exact ElC.h)); (focus exact BS); (focus rfl); (focus rfl); (focus rfl); (focus rfl); (focus exact Af); (focus exact Af))
        | exact True.intro | refine AG ?_ | refine two ?_ ?_ | refine AF fun c_ => ?_
        | (refine imp fun hc => ?_) <;> try exact cx1 hc
        | refine all fun v_ => ?_)
       refine ⟨(k + 1, v_), by dsimp only; omega, by dsimp only; omega, VS.take (by dsimp only; rw [hy, ← List.append_assoc]; exact AD) ?_⟩
       exact leD
     | false =>
       rw [hb] at hFo
       have hy := hno k hb
       repeat' (first
        | refine ca KN (hFo) ?_
        | ((with_reducible apply (BX (f := Fo.cells) (u := ⟨cs[i], (k : Int)⟩))); (focus rfl); (focus rfl); (focus (with_reducible exact ElC.h)); (focus exact BS); (focus rfl); (focus rfl); (focus rfl); (focus rfl); (focus exact Af); (focus exact Af))
        | exact True.intro | refine AG ?_ | refine two ?_ ?_ | refine AF fun c_ => ?_
        | (refine imp fun hc => ?_) <;> try exact cx1 hc
        | refine all fun v_ => ?_)
       refine ⟨(k + 1, q), by dsimp only; omega, by dsimp only; omega, VS.take (by dsimp only; rw [hy]; exact AD) ?_⟩
       exact leD
   obtain rfl : k = N := by omega
   repeat' (first
    | exact True.intro | refine AG ?_ | refine two ?_ ?_ | refine AF fun c_ => ?_
    | (refine imp fun hc => ?_) <;> try exact cx1 hc
    | refine all fun v_ => ?_)
   refine ⟨(i + 1, q), by dsimp only; omega, by dsimp only; omega, VS.take (by dsimp only; rw [hbs]; exact AD) ?_⟩
   exact leD
 obtain rfl : i = cs.length := by omega
 rw [List.take_length]
 repeat' (first
  | exact True.intro | refine AG ?_ | refine two ?_ ?_ | refine AF fun c_ => ?_
  | (refine imp fun hc => ?_) <;> try exact cx1 hc
  | refine all fun v_ => ?_)
 refine AN (VS.trans (By (t := 4) (eb := 16) rfl rfl (fun x => rfl) (by have := hbl cs; omega)) (VS.drop (List.nil_sublist _))) ?_
 ((with_reducible apply rq2); rfl; rfl; rfl)
 exact AB rfl
end Go.Proofs.YtnlfhnbcdfdhgaaGreatDoor
