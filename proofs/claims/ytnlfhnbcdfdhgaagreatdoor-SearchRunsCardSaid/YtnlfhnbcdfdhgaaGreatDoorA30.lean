/- Own texts. -/
import Derived.Test.YtnlfhnbcdfdhgaaGreatDoorA28
import Derived.Test.YtnlfhnbcdfdhgaaGreatDoorA29
set_option linter.unusedVariables false
set_option linter.unusedSimpArgs false
set_option maxRecDepth 100000
set_option maxHeartbeats 4000000
namespace Go.Proofs.YtnlfhnbcdfdhgaaGreatDoor
open Go Go.Av Go.Sp
theorem Sk : Cal Tryz.prog 85 := Cal.of Tryz.func85 (by kernel_rfl) (by kernel_rfl)
theorem NR : Cal Tryz.prog 49 := Cal.of Tryz.func49 (by kernel_rfl) (by kernel_rfl)
theorem Qq : Cal Tryz.prog 63 := Cal.of Tryz.func63 (by kernel_rfl) (by kernel_rfl)
theorem spot (t : Tk) (hm : AT t.model = 0) (st cl : Int) : ACr Tryz.prog GP 85 [tkA t, .agg [.int st, .int cl]] (.bool (decide ((0 ≤ st ∧ st < AR t.model.vars) ∧ 0 ≤ cl ∧ cl < A3 t))) := by
 have hC := Count t.model
 unfold Dv at hC
 rw [if_neg (fun k => k hm)] at hC
 dsimp only at hC
 have hM := VG t
 generalize AR t.model.vars = n at hC ⊢
 generalize A3 t = N at hM ⊢
 refine AK (ts := [4]) Tryz.f85.ntmps Tryz.func85 rfl rfl rfl (by simp [Tryz.ntmps85]) fun W I => ?_
 by_cases c0 : 0 ≤ st
 · by_cases c1 : st < n
   · by_cases c2 : 0 ≤ cl
     · by_cases c3 : cl < N
       · repeat' (first | refine ca DK (hC) ?_ | refine caq Dt (hM) ?_ | exact jA | refine AP ?_ | refine two ?_ ?_ | refine imp fun hc => ?_; try exact cx hc | refine all fun v_ => ?_)
         all_goals
          refine AI jE ?_
          ((with_reducible apply rq1); rfl; rfl)
          refine AA (congrArg AV.bool ?_)
          (first | rfl | (refine decide_eq_decide.2 ?_; omega) | (refine (decide_eq_true ?_).symm; omega) | (refine (decide_eq_false ?_).symm; omega) | (refine decide_eq_true ?_; omega) | (refine decide_eq_false ?_; omega))
       · repeat' (first | refine ca DK (hC) ?_ | refine caq Dt (hM) ?_ | exact jA | refine AP ?_ | refine two ?_ ?_ | refine imp fun hc => ?_; try exact cx hc | refine all fun v_ => ?_)
         all_goals
          refine AI jE ?_
          ((with_reducible apply rq1); rfl; rfl)
          refine AA (congrArg AV.bool ?_)
          (first | rfl | (refine decide_eq_decide.2 ?_; omega) | (refine (decide_eq_true ?_).symm; omega) | (refine (decide_eq_false ?_).symm; omega) | (refine decide_eq_true ?_; omega) | (refine decide_eq_false ?_; omega))
     · repeat' (first | refine ca DK (hC) ?_ | refine caq Dt (hM) ?_ | exact jA | refine AP ?_ | refine two ?_ ?_ | refine imp fun hc => ?_; try exact cx hc | refine all fun v_ => ?_)
       all_goals
        refine AI jE ?_
        ((with_reducible apply rq1); rfl; rfl)
        refine AA (congrArg AV.bool ?_)
        (first | rfl | (refine decide_eq_decide.2 ?_; omega) | (refine (decide_eq_true ?_).symm; omega) | (refine (decide_eq_false ?_).symm; omega) | (refine decide_eq_true ?_; omega) | (refine decide_eq_false ?_; omega))
   · repeat' (first | refine ca DK (hC) ?_ | refine caq Dt (hM) ?_ | exact jA | refine AP ?_ | refine two ?_ ?_ | refine imp fun hc => ?_; try exact cx hc | refine all fun v_ => ?_)
     all_goals
      refine AI jE ?_
      ((with_reducible apply rq1); rfl; rfl)
      refine AA (congrArg AV.bool ?_)
      (first | rfl | (refine decide_eq_decide.2 ?_; omega) | (refine (decide_eq_true ?_).symm; omega) | (refine (decide_eq_false ?_).symm; omega) | (refine decide_eq_true ?_; omega) | (refine decide_eq_false ?_; omega))
 · repeat' (first | refine ca DK (hC) ?_ | refine caq Dt (hM) ?_ | exact jA | refine AP ?_ | refine two ?_ ?_ | refine imp fun hc => ?_; try exact cx hc | refine all fun v_ => ?_)
   all_goals
    refine AI jE ?_
    ((with_reducible apply rq1); rfl; rfl)
    refine AA (congrArg AV.bool ?_)
    (first | rfl | (refine decide_eq_decide.2 ?_; omega) | (refine (decide_eq_true ?_).symm; omega) | (refine (decide_eq_false ?_).symm; omega) | (refine decide_eq_true ?_; omega) | (refine decide_eq_false ?_; omega))
theorem aq (t : Tk) (st cl : Int) : ACr Tryz.prog GP 49 [tkA t, .agg [.int st, .int cl]] (.tup [.d (AO (Ai t st cl).1), .int (Ai t st cl).2]) := by
 have hP := aZ t
 refine AK (ts := [4, 5]) Tryz.f49.ntmps Tryz.func49 rfl rfl rfl (by simp [Tryz.ntmps49]) fun W I => ?_
 unfold Ai
 by_cases h1 : BE t ≠ 0
 · rw [if_pos h1]
   generalize BE t = e at hP h1
   repeat' (first | refine ca Fw (hP) ?_ | exact jA | refine AF ?_ | refine two ?_ ?_ | refine AB fun c_ => ?_ | refine imp fun hc => ?_; try exact cx1 hc | refine all fun v_ => ?_)
   refine AI (VS.trans jE (Cj (t := 4) 2 16 rfl)) ?_
   ((with_reducible apply rq2); rfl; rfl; rfl)
   exact AA rfl
 rw [if_neg h1]
 replace h1 := jY h1
 rw [h1] at hP
 obtain ⟨a1, a2, a3⟩ := Cg h1
 obtain ⟨n, hn, n1, n2⟩ := Du a3
 have hS := spot t a3 st cl
 by_cases hin : ¬ ((0 ≤ st ∧ st < AR t.model.vars) ∧ 0 ≤ cl ∧ cl < A3 t)
 · rw [if_pos hin]
   rw [decide_eq_false hin] at hS
   repeat' (first | refine ca Fw (hP) ?_ | refine ca Sk (hS) ?_ | exact jA | refine AF ?_ | refine two ?_ ?_ | refine AB fun c_ => ?_ | refine imp fun hc => ?_; try exact cx1 hc | refine all fun v_ => ?_)
   refine AI (VS.trans jE (Cj (t := 4) 2 16 rfl)) ?_
   ((with_reducible apply rq2); rfl; rfl; rfl)
   exact AA rfl
 rw [if_neg hin]
 replace hin := jY hin
 rw [decide_eq_true hin] at hS
 have hsl := LL a3 st
 have hrg := Ig a3 st
 have hlet := fun c k0 k1 => F7 (t := t) (c := c) h1 k0 k1
 have hfo := fun c d => MU (t := t) (st := st) (cl := cl) (c := c) (d := d) h1
 have hyes := fun c k => Si (t := t) (st := st) (cl := cl) (c := c) (k := k)
 have hno := fun c k => Vh (t := t) (st := st) (cl := cl) (c := c) (k := k)
 have hfl := fun c k => N0 t st cl c k
 have hbs := fun cs i h => O4 t st cl cs i h
 have hbl := fun cs => I7 t st cl cs
 have hm64 := DA t
 have hb0 : JW t st cl [] = [] := rfl
 have hf0 : ∀ c, Im t st cl c 0 = [] := fun c => rfl
 obtain ⟨⟨g1, g2⟩, g3, g4⟩ := hin
 have hL := RA t.model t.props st
 rw [F7 h1 g1 g2] at hL
 dsimp only at hL
 have hN := Next t.model st
 have hM := VG t
 generalize D3 t.model st = p at hN hsl hrg ⊢
 obtain ⟨cs, e⟩ := p
 dsimp only at hN hsl hrg ⊢
 repeat' (first | refine ca Fw (hP) ?_ | refine ca Sk (hS) ?_ | refine ca Hm (hL) ?_ | refine ca ZO (hN) ?_ | exact jA | refine AF ?_ | refine two ?_ ?_ | refine AB fun c_ => ?_ | refine imp fun hc => ?_; try exact cx1 hc | refine all fun v_ => ?_)
 obtain ⟨bs, rfl⟩ : ∃ x, x = v_ := ⟨v_, rfl⟩
 obtain ⟨bt, rfl⟩ : ∃ x, x = v_ := ⟨v_, rfl⟩
 refine Db (E := 106) (sz := 2) Fo.cells ?_
 refine AG (X := Nat × Sl) (fun y => [(2, .val (.pointer (some ⟨bt, 0, none⟩))), (3, .val (.pointer (some ⟨bs, 0, none⟩))), (7, .d (Ap (Cu t st))), (11, .val y.2.v), (46, .d (AJ cs)), (47, .int cs.length), (48, .int y.1)]) (fun y => [AL y.2.v 106 2 Fo.cells (JW t st cl (cs.take y.1)), .cells bs 106 [.int st, .int cl], .cells bt 29 [.d (Au t.model.vars), .d (Ae t.model.rules), .d (Ar t.props), .d (AO t.formula)]]) (fun y => y.1 ≤ cs.length) (fun y => cs.length - y.1) (0, Sl.nil) (Nat.zero_le _) (VS.take AH ?_) ?_
 · exact leD
 rintro ⟨i, q⟩ hi
 dsimp only at hi ⊢
 have hbi := hbl (cs.take i)
 rw [List.length_take] at hbi
 by_cases hil : i < cs.length
 · obtain ⟨r1, r2⟩ := hrg _ (jb hil)
   have hbs := hbs cs i hil
   have hL2 := RA t.model t.props cs[i]
   rw [hlet _ r1 r2] at hL2
   dsimp only at hL2
   have hfo := fun d => hfo cs[i] d g3 g4
   have hyes := hyes cs[i]
   have hno := hno cs[i]
   have hfl := hfl cs[i]
   have hf0 := hf0 cs[i]
   generalize hnx : Cu t cs[i] = nx at hL2 hfo
   generalize Cu t st = lt at hL hfo ⊢
   generalize Im t st cl cs[i] = F at hyes hno hfl hf0 hbs
   generalize Uz t st cl cs[i] = fb at hyes hno hfo
   generalize JW t st cl (cs.take i) = B at hbi hbs ⊢
   generalize A3 t = N at hM hfo hm64 hbs ⊢
   repeat' (first | refine ca Hm (hL2) ?_ | ((with_reducible apply GR); rfl; exact Dt; exact hM; rfl) | exact jA | refine AF ?_ | refine two ?_ ?_ | refine AB fun c_ => ?_ | refine imp fun hc => ?_; try exact cx1 hc | refine all fun v_ => ?_)
   have e0 : B = B ++ F 0 := by rw [hf0, List.append_nil]
   refine AG (X := Nat × Sl) (fun y => [(2, .val (.pointer (some ⟨bt, 0, none⟩))), (3, .val (.pointer (some ⟨bs, 0, none⟩))), (7, .d (Ap lt)), (11, .val y.2.v), (13, .int cs[i]), (14, .d (Ap nx)), (46, .d (AJ cs)), (47, .int cs.length), (48, .int i), (62, .int N), (63, .int y.1)]) (fun y => [AL y.2.v 106 2 Fo.cells (B ++ F y.1), .cells bs 106 [.int st, .int cl], .cells bt 29 [.d (Au t.model.vars), .d (Ae t.model.rules), .d (Ar t.props), .d (AO t.formula)]]) (fun y => y.1 ≤ N) (fun y => N - y.1) (0, q) (Nat.zero_le _) (VS.take (by dsimp only; rw [← e0]; exact AH) ?_) ?_
   · exact leD
   clear e0
   rintro ⟨k, q⟩ hk
   dsimp only at hk ⊢
   have hfk := hfl k
   have hal : (B ++ F k).length = B.length + (F k).length := List.length_append
   by_cases hkl : k < N
   · have hFo := cS t.formula lt cl nx k
     rw [hfo k jB jB] at hFo
     dsimp only at hFo
     cases hb : fb k with
     | true =>
       rw [hb] at hFo
       have hy := hyes k hb
       repeat' (first | refine ca Lm (hFo) ?_ | refine i7 (DP (f := Fo.cells) (u := ⟨cs[i], (k : Int)⟩)) ?_ | exact jA | refine AF ?_ | refine two ?_ ?_ | refine AB fun c_ => ?_ | refine imp fun hc => ?_; try exact cx1 hc | refine all fun v_ => ?_)
       refine ⟨(k + 1, v_), jC, jC, VS.take (by dsimp only; rw [hy, ← List.append_assoc]; exact AH) ?_⟩
       exact leD
     | false =>
       rw [hb] at hFo
       have hy := hno k hb
       repeat' (first | refine ca Lm (hFo) ?_ | refine i7 (DP (f := Fo.cells) (u := ⟨cs[i], (k : Int)⟩)) ?_ | exact jA | refine AF ?_ | refine two ?_ ?_ | refine AB fun c_ => ?_ | refine imp fun hc => ?_; try exact cx1 hc | refine all fun v_ => ?_)
       refine ⟨(k + 1, q), jC, jC, VS.take (by dsimp only; rw [hy]; exact AH) ?_⟩
       exact leD
   obtain rfl : k = N := by omega
   repeat' (first | exact jA | refine AF ?_ | refine two ?_ ?_ | refine AB fun c_ => ?_ | refine imp fun hc => ?_; try exact cx1 hc | refine all fun v_ => ?_)
   refine ⟨(i + 1, q), jC, jC, VS.take (by dsimp only; rw [hbs]; exact AH) ?_⟩
   exact leD
 obtain rfl : i = cs.length := by omega
 rw [List.take_length]
 repeat' (first | exact jA | refine AF ?_ | refine two ?_ ?_ | refine AB fun c_ => ?_ | refine imp fun hc => ?_; try exact cx1 hc | refine all fun v_ => ?_)
 refine AI (VS.trans (Bq (t := 4) (eb := 16) rfl rfl (fun x => rfl) (by have := hbl cs; omega)) jE) ?_
 ((with_reducible apply rq2); rfl; rfl; rfl)
 exact AA rfl
theorem aI (G : List (Nat × List D)) (t : Tk) (st cl : Int) : ACr Tryz.prog G 63 [tkA t, .agg [.int st, .int cl]] (.tup [.d (AO (Ai t st cl).1), .int (Ai t st cl).2]) := by
 have hP := K9 G t
 refine AK (ts := [4, 5]) Tryz.f63.ntmps Tryz.func63 rfl rfl rfl (by simp [Tryz.ntmps63]) fun W I => ?_
 unfold Ai
 by_cases h1 : BE t ≠ 0
 · rw [if_pos h1]
   generalize BE t = e at hP h1
   repeat' (first | refine ca Ci (hP) ?_ | exact jA | refine AF ?_ | refine two ?_ ?_ | refine AB fun c_ => ?_ | refine imp fun hc => ?_; try exact cx1 hc | refine all fun v_ => ?_)
   refine AI (VS.trans jE (Cj (t := 4) 2 16 rfl)) ?_
   ((with_reducible apply rq2); rfl; rfl; rfl)
   exact AA rfl
 rw [if_neg h1]
 replace h1 := jY h1
 rw [h1] at hP
 obtain ⟨a1, a2, a3⟩ := Cg h1
 obtain ⟨n, hn, n1, n2⟩ := Du a3
 have hC := Jz G t.model
 unfold Dv at hC
 rw [if_neg (fun k => k a3)] at hC
 dsimp only at hC
 have hM := KE G t
 have hm64 := DA t
 by_cases hin : ¬ ((0 ≤ st ∧ st < AR t.model.vars) ∧ 0 ≤ cl ∧ cl < A3 t)
 · rw [if_pos hin]
   rw [hn] at hC hin
   generalize A3 t = N at hM hin hm64
   by_cases c0 : 0 ≤ st ∧ st ≤ (n : Int) - 1
   · by_cases c1 : 0 ≤ cl ∧ cl ≤ (N : Int) - 1
     · exact absurd ⟨⟨c0.1, by omega⟩, c1.1, by omega⟩ hin
     · repeat' (first | refine ca Ci (hP) ?_ | refine ca BC (hC) ?_ | refine ca DV (hM) ?_ | refine ca AN (In _ _ _ _) ?_ | exact jA | refine AF ?_ | refine two ?_ ?_ | refine AB fun c_ => ?_ | refine imp fun hc => ?_; try exact cx1 hc | refine all fun v_ => ?_)
       all_goals
        refine AI (VS.trans jE (Cj (t := 4) 2 16 rfl)) ?_
        ((with_reducible apply rq2); rfl; rfl; rfl)
        exact AA rfl
   · repeat' (first | refine ca Ci (hP) ?_ | refine ca BC (hC) ?_ | refine ca DV (hM) ?_ | refine ca AN (In _ _ _ _) ?_ | exact jA | refine AF ?_ | refine two ?_ ?_ | refine AB fun c_ => ?_ | refine imp fun hc => ?_; try exact cx1 hc | refine all fun v_ => ?_)
     all_goals
      refine AI (VS.trans jE (Cj (t := 4) 2 16 rfl)) ?_
      ((with_reducible apply rq2); rfl; rfl; rfl)
      exact AA rfl
 rw [if_neg hin]
 replace hin := jY hin
 have hsl := LL a3 st
 have hrg := Ig a3 st
 have hlet := fun c k0 k1 => F7 (t := t) (c := c) h1 k0 k1
 have hfo := fun c d => MU (t := t) (st := st) (cl := cl) (c := c) (d := d) h1
 have hyes := fun c k => Si (t := t) (st := st) (cl := cl) (c := c) (k := k)
 have hno := fun c k => Vh (t := t) (st := st) (cl := cl) (c := c) (k := k)
 have hfl := fun c k => N0 t st cl c k
 have hbs := fun cs i h => O4 t st cl cs i h
 have hbl := fun cs => I7 t st cl cs
 have hm64 := DA t
 have hb0 : JW t st cl [] = [] := rfl
 have hf0 : ∀ c, Im t st cl c 0 = [] := fun c => rfl
 obtain ⟨⟨g1, g2⟩, g3, g4⟩ := hin
 have hL := II G t.model t.props st
 rw [F7 h1 g1 g2] at hL
 dsimp only at hL
 have hN := eT G t.model st
 rw [hn] at hC g2
 generalize D3 t.model st = p at hN hsl hrg ⊢
 obtain ⟨cs, e⟩ := p
 dsimp only at hN hsl hrg ⊢
 have hcl0 : 0 ≤ cl ∧ cl ≤ (A3 t : Int) - 1 := ⟨g3, by omega⟩
 have hst0 : 0 ≤ st ∧ st ≤ (n : Int) - 1 := ⟨g1, by omega⟩
 repeat' (first | refine ca Ci (hP) ?_ | refine ca BC (hC) ?_ | refine ca DV (hM) ?_ | refine ca AN (In _ _ _ _) ?_ | refine ca EK (hL) ?_ | refine ca Uw (hN) ?_ | exact jA | refine AF ?_ | refine two ?_ ?_ | refine AB fun c_ => ?_ | refine imp fun hc => ?_; try exact cx1 hc | refine all fun v_ => ?_)
 obtain ⟨bs, rfl⟩ : ∃ x, x = v_ := ⟨v_, rfl⟩
 obtain ⟨bt, rfl⟩ : ∃ x, x = v_ := ⟨v_, rfl⟩
 refine Db (E := 106) (sz := 2) Fo.cells ?_
 refine AG (X := Nat × Sl) (fun y => [(2, .val (.pointer (some ⟨bt, 0, none⟩))), (3, .val (.pointer (some ⟨bs, 0, none⟩))), (9, .int (A3 t)), (10, .d (Ap (Cu t st))), (12, .d (AJ cs)), (14, .val y.2.v), (15, .int y.1)]) (fun y => [AL y.2.v 106 2 Fo.cells (JW t st cl (cs.take y.1)), .cells bs 106 [.int st, .int cl], .cells bt 29 [.d (Au t.model.vars), .d (Ae t.model.rules), .d (Ar t.props), .d (AO t.formula)]]) (fun y => y.1 ≤ cs.length) (fun y => cs.length - y.1) (0, Sl.nil) (Nat.zero_le _) (VS.take AH ?_) ?_
 · exact leD
 rintro ⟨i, q⟩ hi
 dsimp only at hi ⊢
 have hbi := hbl (cs.take i)
 rw [List.length_take] at hbi
 by_cases hil : i < cs.length
 · obtain ⟨r1, r2⟩ := hrg _ (jb hil)
   have hbs := hbs cs i hil
   have hL2 := II G t.model t.props cs[i]
   rw [hlet _ r1 r2] at hL2
   dsimp only at hL2
   have hfo := fun d => hfo cs[i] d g3 g4
   have hyes := hyes cs[i]
   have hno := hno cs[i]
   have hfl := hfl cs[i]
   have hf0 := hf0 cs[i]
   generalize hnx : Cu t cs[i] = nx at hL2 hfo
   generalize Cu t st = lt at hL hfo ⊢
   generalize Im t st cl cs[i] = F at hyes hno hfl hf0 hbs
   generalize Uz t st cl cs[i] = fb at hyes hno hfo
   generalize JW t st cl (cs.take i) = B at hbi hbs ⊢
   generalize A3 t = N at hM hfo hm64 hbs ⊢
   repeat' (first | refine ca EK (hL2) ?_ | exact jA | refine AF ?_ | refine two ?_ ?_ | refine AB fun c_ => ?_ | refine imp fun hc => ?_; try exact cx1 hc | refine all fun v_ => ?_)
   have e0 : B = B ++ F 0 := by rw [hf0, List.append_nil]
   refine AG (X := Nat × Sl) (fun y => [(2, .val (.pointer (some ⟨bt, 0, none⟩))), (3, .val (.pointer (some ⟨bs, 0, none⟩))), (9, .int N), (10, .d (Ap lt)), (12, .d (AJ cs)), (14, .val y.2.v), (15, .int i), (16, .d (Ap nx)), (18, .int y.1)]) (fun y => [AL y.2.v 106 2 Fo.cells (B ++ F y.1), .cells bs 106 [.int st, .int cl], .cells bt 29 [.d (Au t.model.vars), .d (Ae t.model.rules), .d (Ar t.props), .d (AO t.formula)]]) (fun y => y.1 ≤ N) (fun y => N - y.1) (0, q) (Nat.zero_le _) (VS.take (by dsimp only; rw [← e0]; exact AH) ?_) ?_
   · exact leD
   clear e0
   rintro ⟨k, q⟩ hk
   dsimp only at hk ⊢
   have hfk := hfl k
   have hal : (B ++ F k).length = B.length + (F k).length := List.length_append
   by_cases hkl : k < N
   · have hFo := Xp G t.formula lt cl nx k
     rw [hfo k jB jB] at hFo
     dsimp only at hFo
     cases hb : fb k with
     | true =>
       rw [hb] at hFo
       have hy := hyes k hb
       repeat' (first | refine ca Je (hFo) ?_ | refine i7 (DP (f := Fo.cells) (u := ⟨cs[i], (k : Int)⟩)) ?_ | exact jA | refine AF ?_ | refine two ?_ ?_ | refine AB fun c_ => ?_ | refine imp fun hc => ?_; try exact cx1 hc | refine all fun v_ => ?_)
       refine ⟨(k + 1, v_), jC, jC, VS.take (by dsimp only; rw [hy, ← List.append_assoc]; exact AH) ?_⟩
       exact leD
     | false =>
       rw [hb] at hFo
       have hy := hno k hb
       repeat' (first | refine ca Je (hFo) ?_ | refine i7 (DP (f := Fo.cells) (u := ⟨cs[i], (k : Int)⟩)) ?_ | exact jA | refine AF ?_ | refine two ?_ ?_ | refine AB fun c_ => ?_ | refine imp fun hc => ?_; try exact cx1 hc | refine all fun v_ => ?_)
       refine ⟨(k + 1, q), jC, jC, VS.take (by dsimp only; rw [hy]; exact AH) ?_⟩
       exact leD
   obtain rfl : k = N := by omega
   repeat' (first | exact jA | refine AF ?_ | refine two ?_ ?_ | refine AB fun c_ => ?_ | refine imp fun hc => ?_; try exact cx1 hc | refine all fun v_ => ?_)
   refine ⟨(i + 1, q), jC, jC, VS.take (by dsimp only; rw [hbs]; exact AH) ?_⟩
   exact leD
 obtain rfl : i = cs.length := by omega
 rw [List.take_length]
 repeat' (first | exact jA | refine AF ?_ | refine two ?_ ?_ | refine AB fun c_ => ?_ | refine imp fun hc => ?_; try exact cx1 hc | refine all fun v_ => ?_)
 refine AI (VS.trans (Bq (t := 4) (eb := 16) rfl rfl (fun x => rfl) (by have := hbl cs; omega)) jE) ?_
 ((with_reducible apply rq2); rfl; rfl; rfl)
 exact AA rfl
end Go.Proofs.YtnlfhnbcdfdhgaaGreatDoor
