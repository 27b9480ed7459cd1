/- A bundle of this claim's own texts: N14. -/
import Derived.Test.YtibahljljjkceaaGreatDoorA24
import Derived.Test.YtibahljljjkceaaGreatDoorA25
import Derived.Test.YtibahljljjkceaaGreatDoorA28
import Derived.Test.YtibahljljjkceaaGreatDoorA29
set_option linter.unusedVariables false
set_option linter.unusedSimpArgs false
set_option maxRecDepth 100000
set_option maxHeartbeats 4000000
namespace Go.Proofs.YtibahljljjkceaaGreatDoor
open Go Go.Av Go.Sp
theorem Oj : Cal Tryz.prog 107 := Cal.of Tryz.func107 (by kernel_rfl) (by kernel_rfl)
theorem Qz : Cal Tryz.prog 60 := Cal.of Tryz.func60 (by kernel_rfl) (by kernel_rfl)
theorem Nj : Cal Tryz.prog 71 := Cal.of Tryz.func71 (by kernel_rfl) (by kernel_rfl)
theorem spot (t : Tk) (hm : AU t.model = 0) (st cl : Int) : ACr Tryz.prog GP 107 [tkA t, .agg [.int st, .int cl]] (.bool (decide ((0 ≤ st ∧ st < AS t.model.vars) ∧ 0 ≤ cl ∧ cl < A4 t))) := by
 have hC := Count t.model
 unfold DX at hC
 rw [if_neg (fun k => k hm)] at hC
 dsimp only at hC
 have hM := Qj t
 generalize AS t.model.vars = n at hC ⊢
 generalize A4 t = N at hM ⊢
 refine AN (ts := [4]) Tryz.f107.ntmps Tryz.func107 rfl rfl rfl (by simp [Tryz.ntmps107]) fun W I => ?_
 by_cases c0 : 0 ≤ st
 · by_cases c1 : st < n
   · by_cases c2 : 0 ≤ cl
     · by_cases c3 : cl < N
       · repeat' (first
          | refine ca C0 (hC) ?_
          | refine caq Dg (hM) ?_
          | exact True.intro | refine AR ?_ | refine two ?_ ?_
          | (refine imp fun hc => ?_) <;> try exact cx hc
          | refine all fun v_ => ?_)
         all_goals
          refine AH (VS.drop (List.nil_sublist _)) ?_
          ((with_reducible apply rq1); rfl; rfl)
          refine AA (congrArg AV.bool ?_)
          (first | rfl | (refine decide_eq_decide.2 ?_; omega) | (refine (decide_eq_true ?_).symm; omega) | (refine (decide_eq_false ?_).symm; omega) | (refine decide_eq_true ?_; omega) | (refine decide_eq_false ?_; omega))
       · repeat' (first
          | refine ca C0 (hC) ?_
          | refine caq Dg (hM) ?_
          | exact True.intro | refine AR ?_ | refine two ?_ ?_
          | (refine imp fun hc => ?_) <;> try exact cx hc
          | refine all fun v_ => ?_)
         all_goals
          refine AH (VS.drop (List.nil_sublist _)) ?_
          ((with_reducible apply rq1); rfl; rfl)
          refine AA (congrArg AV.bool ?_)
          (first | rfl | (refine decide_eq_decide.2 ?_; omega) | (refine (decide_eq_true ?_).symm; omega) | (refine (decide_eq_false ?_).symm; omega) | (refine decide_eq_true ?_; omega) | (refine decide_eq_false ?_; omega))
     · repeat' (first
        | refine ca C0 (hC) ?_
        | refine caq Dg (hM) ?_
        | exact True.intro | refine AR ?_ | refine two ?_ ?_
        | (refine imp fun hc => ?_) <;> try exact cx hc
        | refine all fun v_ => ?_)
       all_goals
        refine AH (VS.drop (List.nil_sublist _)) ?_
        ((with_reducible apply rq1); rfl; rfl)
        refine AA (congrArg AV.bool ?_)
        (first | rfl | (refine decide_eq_decide.2 ?_; omega) | (refine (decide_eq_true ?_).symm; omega) | (refine (decide_eq_false ?_).symm; omega) | (refine decide_eq_true ?_; omega) | (refine decide_eq_false ?_; omega))
   · repeat' (first
      | refine ca C0 (hC) ?_
      | refine caq Dg (hM) ?_
      | exact True.intro | refine AR ?_ | refine two ?_ ?_
      | (refine imp fun hc => ?_) <;> try exact cx hc
      | refine all fun v_ => ?_)
     all_goals
      refine AH (VS.drop (List.nil_sublist _)) ?_
      ((with_reducible apply rq1); rfl; rfl)
      refine AA (congrArg AV.bool ?_)
      (first | rfl | (refine decide_eq_decide.2 ?_; omega) | (refine (decide_eq_true ?_).symm; omega) | (refine (decide_eq_false ?_).symm; omega) | (refine decide_eq_true ?_; omega) | (refine decide_eq_false ?_; omega))
 · repeat' (first
    | refine ca C0 (hC) ?_
    | refine caq Dg (hM) ?_
    | exact True.intro | refine AR ?_ | refine two ?_ ?_
    | (refine imp fun hc => ?_) <;> try exact cx hc
    | refine all fun v_ => ?_)
   all_goals
    refine AH (VS.drop (List.nil_sublist _)) ?_
    ((with_reducible apply rq1); rfl; rfl)
    refine AA (congrArg AV.bool ?_)
    (first | rfl | (refine decide_eq_decide.2 ?_; omega) | (refine (decide_eq_true ?_).symm; omega) | (refine (decide_eq_false ?_).symm; omega) | (refine decide_eq_true ?_; omega) | (refine decide_eq_false ?_; omega))
theorem Za (t : Tk) (st cl : Int) : ACr Tryz.prog GP 60 [tkA t, .agg [.int st, .int cl]] (.tup [.d (AO (A2 t st cl).1), .int (A2 t st cl).2]) := by
 have hP := Wn t
 refine AN (ts := [4, 5]) Tryz.f60.ntmps Tryz.func60 rfl rfl rfl (by simp [Tryz.ntmps60]) fun W I => ?_
 unfold A2
 by_cases h1 : BH t ≠ 0
 · rw [if_pos h1]
   generalize BH t = e at hP h1
   repeat' (first
    | refine ca FY (hP) ?_
    | exact True.intro | refine AD ?_ | refine two ?_ ?_ | refine AB fun c_ => ?_
    | (refine imp fun hc => ?_) <;> try exact cx1 hc
    | refine all fun v_ => ?_)
   refine AH (VS.trans (VS.drop (List.nil_sublist _)) (Cn (t := 4) 2 16 rfl)) ?_
   ((with_reducible apply rq2); rfl; rfl; rfl)
   exact AA rfl
 rw [if_neg h1]
 replace h1 := Decidable.not_not.1 h1
 rw [h1] at hP
 obtain ⟨a1, a2, a3⟩ := Bz h1
 obtain ⟨n, hn, n1, n2⟩ := DJ a3
 have hS := spot t a3 st cl
 by_cases hin : ¬ ((0 ≤ st ∧ st < AS t.model.vars) ∧ 0 ≤ cl ∧ cl < A4 t)
 · rw [if_pos hin]
   rw [decide_eq_false hin] at hS
   repeat' (first
    | refine ca FY (hP) ?_
    | refine ca Oj (hS) ?_
    | exact True.intro | refine AD ?_ | refine two ?_ ?_ | refine AB fun c_ => ?_
    | (refine imp fun hc => ?_) <;> try exact cx1 hc
    | refine all fun v_ => ?_)
   refine AH (VS.trans (VS.drop (List.nil_sublist _)) (Cn (t := 4) 2 16 rfl)) ?_
   ((with_reducible apply rq2); rfl; rfl; rfl)
   exact AA rfl
 rw [if_neg hin]
 replace hin := Decidable.not_not.1 hin
 rw [decide_eq_true hin] at hS
 have hsl := Jm a3 st
 have hrg := HO a3 st
 have hlet := fun c k0 k1 => DZ (t := t) (c := c) h1 k0 k1
 have hfo := fun c d => L1 (t := t) (st := st) (cl := cl) (c := c) (d := d) h1
 have hyes := fun c k => Pb (t := t) (st := st) (cl := cl) (c := c) (k := k)
 have hno := fun c k => SI (t := t) (st := st) (cl := cl) (c := c) (k := k)
 have hfl := fun c k => Ld t st cl c k
 have hbs := fun cs i h => Mr t st cl cs i h
 have hbl := fun cs => Jb t st cl cs
 have hm64 := DA t
 have hb0 : H7 t st cl [] = [] := rfl
 have hf0 : ∀ c, Ht t st cl c 0 = [] := fun c => rfl
 obtain ⟨⟨g1, g2⟩, g3, g4⟩ := hin
 have hL := OR t.model t.props st
 rw [DZ h1 g1 g2] at hL
 dsimp only at hL
 have hN := Next t.model st
 have hM := Qj t
 generalize DV t.model st = p at hN hsl hrg ⊢
 obtain ⟨cs, e⟩ := p
 dsimp only at hN hsl hrg ⊢
 repeat' (first
  | refine ca FY (hP) ?_
  | refine ca Oj (hS) ?_
  | refine ca Gv (hL) ?_
  | refine ca Vm (hN) ?_
  | exact True.intro | refine AD ?_ | refine two ?_ ?_ | refine AB fun c_ => ?_
  | (refine imp fun hc => ?_) <;> try exact cx1 hc
  | refine all fun v_ => ?_)
 obtain ⟨bs, rfl⟩ : ∃ x, x = v_ := ⟨v_, rfl⟩
 obtain ⟨bt, rfl⟩ : ∃ x, x = v_ := ⟨v_, rfl⟩
 refine C4 (E := 82) (sz := 2) Fo.cells ?_
 refine AG (X := Nat × Sl) (fun y => [(2, .val (.pointer (some ⟨bt, 0, none⟩))), (3, .val (.pointer (some ⟨bs, 0, none⟩))), (7, .d (Ai (Bh t st))), (11, .val y.2.v), (46, .d (AK cs)), (47, .int cs.length), (48, .int y.1)]) (fun y => [AM y.2.v 82 2 Fo.cells (H7 t st cl (cs.take y.1)), .cells bs 82 [.int st, .int cl], .cells bt 29 [.d (Aq t.model.vars), .d (Ad t.model.rules), .d (Aw t.props), .d (AO t.formula)]]) (fun y => y.1 ≤ cs.length) (fun y => cs.length - y.1) (0, Sl.nil) (Nat.zero_le _) (VS.take (by exact AI) ?_) ?_
 · exact leD
 rintro ⟨i, q⟩ hi
 dsimp only at hi ⊢
 have hbi := hbl (cs.take i)
 rw [List.length_take] at hbi
 by_cases hil : i < cs.length
 · obtain ⟨r1, r2⟩ := hrg _ (List.getElem_mem hil)
   have hbs := hbs cs i hil
   have hL2 := OR t.model t.props cs[i]
   rw [hlet _ r1 r2] at hL2
   dsimp only at hL2
   have hfo := fun d => hfo cs[i] d g3 g4
   have hyes := hyes cs[i]
   have hno := hno cs[i]
   have hfl := hfl cs[i]
   have hf0 := hf0 cs[i]
   generalize hnx : Bh t cs[i] = nx at hL2 hfo
   generalize Bh t st = lt at hL hfo ⊢
   generalize Ht t st cl cs[i] = F at hyes hno hfl hf0 hbs
   generalize QY t st cl cs[i] = fb at hyes hno hfo
   generalize H7 t st cl (cs.take i) = B at hbi hbs ⊢
   generalize A4 t = N at hM hfo hm64 hbs ⊢
   repeat' (first
    | refine ca Gv (hL2) ?_
    | ((with_reducible apply JW); (focus rfl); (focus exact Dg); (focus exact hM); (focus rfl))
    | exact True.intro | refine AD ?_ | refine two ?_ ?_ | refine AB fun c_ => ?_
    | (refine imp fun hc => ?_) <;> try exact cx1 hc
    | refine all fun v_ => ?_)
   have e0 : B = B ++ F 0 := by rw [hf0, List.append_nil]
   refine AG (X := Nat × Sl) (fun y => [(2, .val (.pointer (some ⟨bt, 0, none⟩))), (3, .val (.pointer (some ⟨bs, 0, none⟩))), (7, .d (Ai lt)), (11, .val y.2.v), (13, .int cs[i]), (14, .d (Ai nx)), (46, .d (AK cs)), (47, .int cs.length), (48, .int i), (62, .int N), (63, .int y.1)]) (fun y => [AM y.2.v 82 2 Fo.cells (B ++ F y.1), .cells bs 82 [.int st, .int cl], .cells bt 29 [.d (Aq t.model.vars), .d (Ad t.model.rules), .d (Aw t.props), .d (AO t.formula)]]) (fun y => y.1 ≤ N) (fun y => N - y.1) (0, q) (Nat.zero_le _) (VS.take (by dsimp only; rw [← e0]; exact AI) ?_) ?_
   · exact leD
   clear e0
   rintro ⟨k, q⟩ hk
   dsimp only at hk ⊢
   have hfk := hfl k
   have hal : (B ++ F k).length = B.length + (F k).length := List.length_append
   by_cases hkl : k < N
   · have hFo := XJ t.formula lt cl nx k
     rw [hfo k (by omega) (by omega)] at hFo
     dsimp only at hFo
     cases hb : fb k with
     | true =>
       rw [hb] at hFo
       have hy := hyes k hb
       repeat' (first
        | refine ca J7 (hFo) ?_
        | ((with_reducible apply (Ea (f := Fo.cells) (u := ⟨cs[i], (k : Int)⟩))); (focus rfl); (focus rfl); (focus (with_reducible exact ElC.h)); (focus exact Db); (focus rfl); (focus rfl); (focus rfl); (focus rfl); (focus exact BI); (focus exact BI))
        | exact True.intro | refine AD ?_ | refine two ?_ ?_ | refine AB fun c_ => ?_
        | (refine imp fun hc => ?_) <;> try exact cx1 hc
        | refine all fun v_ => ?_)
       refine ⟨(k + 1, v_), by dsimp only; omega, by dsimp only; omega, VS.take (by dsimp only; rw [hy, ← List.append_assoc]; exact AI) ?_⟩
       exact leD
     | false =>
       rw [hb] at hFo
       have hy := hno k hb
       repeat' (first
        | refine ca J7 (hFo) ?_
        | ((with_reducible apply (Ea (f := Fo.cells) (u := ⟨cs[i], (k : Int)⟩))); (focus rfl); (focus rfl); (focus (with_reducible exact ElC.h)); (focus exact Db); (focus rfl); (focus rfl); (focus rfl); (focus rfl); (focus exact BI); (focus exact BI))
        | exact True.intro | refine AD ?_ | refine two ?_ ?_ | refine AB fun c_ => ?_
        | (refine imp fun hc => ?_) <;> try exact cx1 hc
        | refine all fun v_ => ?_)
       refine ⟨(k + 1, q), by dsimp only; omega, by dsimp only; omega, VS.take (by dsimp only; rw [hy]; exact AI) ?_⟩
       exact leD
   obtain rfl : k = N := by omega
   repeat' (first
    | exact True.intro | refine AD ?_ | refine two ?_ ?_ | refine AB fun c_ => ?_
    | (refine imp fun hc => ?_) <;> try exact cx1 hc
    | refine all fun v_ => ?_)
   refine ⟨(i + 1, q), by dsimp only; omega, by dsimp only; omega, VS.take (by dsimp only; rw [hbs]; exact AI) ?_⟩
   exact leD
 obtain rfl : i = cs.length := by omega
 rw [List.take_length]
 repeat' (first
  | exact True.intro | refine AD ?_ | refine two ?_ ?_ | refine AB fun c_ => ?_
  | (refine imp fun hc => ?_) <;> try exact cx1 hc
  | refine all fun v_ => ?_)
 refine AH (VS.trans (Bf (t := 4) (eb := 16) rfl rfl (fun x => rfl) (by have := hbl cs; omega)) (VS.drop (List.nil_sublist _))) ?_
 ((with_reducible apply rq2); rfl; rfl; rfl)
 exact AA rfl
theorem Wy (G : List (Nat × List D)) (t : Tk) (st cl : Int) : ACr Tryz.prog G 71 [tkA t, .agg [.int st, .int cl]] (.tup [.d (AO (A2 t st cl).1), .int (A2 t st cl).2]) := by
 have hP := Jf G t
 refine AN (ts := [4, 5]) Tryz.f71.ntmps Tryz.func71 rfl rfl rfl (by simp [Tryz.ntmps71]) fun W I => ?_
 unfold A2
 by_cases h1 : BH t ≠ 0
 · rw [if_pos h1]
   generalize BH t = e at hP h1
   repeat' (first
    | refine ca CW (hP) ?_
    | exact True.intro | refine AD ?_ | refine two ?_ ?_ | refine AB fun c_ => ?_
    | (refine imp fun hc => ?_) <;> try exact cx1 hc
    | refine all fun v_ => ?_)
   refine AH (VS.trans (VS.drop (List.nil_sublist _)) (Cn (t := 4) 2 16 rfl)) ?_
   ((with_reducible apply rq2); rfl; rfl; rfl)
   exact AA rfl
 rw [if_neg h1]
 replace h1 := Decidable.not_not.1 h1
 rw [h1] at hP
 obtain ⟨a1, a2, a3⟩ := Bz h1
 obtain ⟨n, hn, n1, n2⟩ := DJ a3
 have hC := Gi G t.model
 unfold DX at hC
 rw [if_neg (fun k => k a3)] at hC
 dsimp only at hC
 have hM := Im G t
 have hm64 := DA t
 by_cases hin : ¬ ((0 ≤ st ∧ st < AS t.model.vars) ∧ 0 ≤ cl ∧ cl < A4 t)
 · rw [if_pos hin]
   rw [hn] at hC hin
   generalize A4 t = N at hM hin hm64
   by_cases c0 : 0 ≤ st ∧ st ≤ (n : Int) - 1
   · by_cases c1 : 0 ≤ cl ∧ cl ≤ (N : Int) - 1
     · exact absurd ⟨⟨c0.1, by omega⟩, c1.1, by omega⟩ hin
     · repeat' (first
        | refine ca CW (hP) ?_
        | refine ca A1 (hC) ?_
        | refine ca DB (hM) ?_
        | refine ca AL (In _ _ _ _) ?_
        | exact True.intro | refine AD ?_ | refine two ?_ ?_ | refine AB fun c_ => ?_
        | (refine imp fun hc => ?_) <;> try exact cx1 hc
        | refine all fun v_ => ?_)
       all_goals
        refine AH (VS.trans (VS.drop (List.nil_sublist _)) (Cn (t := 4) 2 16 rfl)) ?_
        ((with_reducible apply rq2); rfl; rfl; rfl)
        exact AA rfl
   · repeat' (first
      | refine ca CW (hP) ?_
      | refine ca A1 (hC) ?_
      | refine ca DB (hM) ?_
      | refine ca AL (In _ _ _ _) ?_
      | exact True.intro | refine AD ?_ | refine two ?_ ?_ | refine AB fun c_ => ?_
      | (refine imp fun hc => ?_) <;> try exact cx1 hc
      | refine all fun v_ => ?_)
     all_goals
      refine AH (VS.trans (VS.drop (List.nil_sublist _)) (Cn (t := 4) 2 16 rfl)) ?_
      ((with_reducible apply rq2); rfl; rfl; rfl)
      exact AA rfl
 rw [if_neg hin]
 replace hin := Decidable.not_not.1 hin
 have hsl := Jm a3 st
 have hrg := HO a3 st
 have hlet := fun c k0 k1 => DZ (t := t) (c := c) h1 k0 k1
 have hfo := fun c d => L1 (t := t) (st := st) (cl := cl) (c := c) (d := d) h1
 have hyes := fun c k => Pb (t := t) (st := st) (cl := cl) (c := c) (k := k)
 have hno := fun c k => SI (t := t) (st := st) (cl := cl) (c := c) (k := k)
 have hfl := fun c k => Ld t st cl c k
 have hbs := fun cs i h => Mr t st cl cs i h
 have hbl := fun cs => Jb t st cl cs
 have hm64 := DA t
 have hb0 : H7 t st cl [] = [] := rfl
 have hf0 : ∀ c, Ht t st cl c 0 = [] := fun c => rfl
 obtain ⟨⟨g1, g2⟩, g3, g4⟩ := hin
 have hL := Ff G t.model t.props st
 rw [DZ h1 g1 g2] at hL
 dsimp only at hL
 have hN := WO G t.model st
 rw [hn] at hC g2
 generalize DV t.model st = p at hN hsl hrg ⊢
 obtain ⟨cs, e⟩ := p
 dsimp only at hN hsl hrg ⊢
 have hcl0 : 0 ≤ cl ∧ cl ≤ (A4 t : Int) - 1 := ⟨g3, by omega⟩
 have hst0 : 0 ≤ st ∧ st ≤ (n : Int) - 1 := ⟨g1, by omega⟩
 repeat' (first
  | refine ca CW (hP) ?_
  | refine ca A1 (hC) ?_
  | refine ca DB (hM) ?_
  | refine ca AL (In _ _ _ _) ?_
  | refine ca Cr (hL) ?_
  | refine ca Lp (hN) ?_
  | exact True.intro | refine AD ?_ | refine two ?_ ?_ | refine AB fun c_ => ?_
  | (refine imp fun hc => ?_) <;> try exact cx1 hc
  | refine all fun v_ => ?_)
 obtain ⟨bs, rfl⟩ : ∃ x, x = v_ := ⟨v_, rfl⟩
 obtain ⟨bt, rfl⟩ : ∃ x, x = v_ := ⟨v_, rfl⟩
 refine C4 (E := 82) (sz := 2) Fo.cells ?_
 refine AG (X := Nat × Sl) (fun y => [(2, .val (.pointer (some ⟨bt, 0, none⟩))), (3, .val (.pointer (some ⟨bs, 0, none⟩))), (9, .int (A4 t)), (10, .d (Ai (Bh t st))), (12, .d (AK cs)), (14, .val y.2.v), (15, .int y.1)]) (fun y => [AM y.2.v 82 2 Fo.cells (H7 t st cl (cs.take y.1)), .cells bs 82 [.int st, .int cl], .cells bt 29 [.d (Aq t.model.vars), .d (Ad t.model.rules), .d (Aw t.props), .d (AO t.formula)]]) (fun y => y.1 ≤ cs.length) (fun y => cs.length - y.1) (0, Sl.nil) (Nat.zero_le _) (VS.take (by exact AI) ?_) ?_
 · exact leD
 rintro ⟨i, q⟩ hi
 dsimp only at hi ⊢
 have hbi := hbl (cs.take i)
 rw [List.length_take] at hbi
 by_cases hil : i < cs.length
 · obtain ⟨r1, r2⟩ := hrg _ (List.getElem_mem hil)
   have hbs := hbs cs i hil
   have hL2 := Ff G t.model t.props cs[i]
   rw [hlet _ r1 r2] at hL2
   dsimp only at hL2
   have hfo := fun d => hfo cs[i] d g3 g4
   have hyes := hyes cs[i]
   have hno := hno cs[i]
   have hfl := hfl cs[i]
   have hf0 := hf0 cs[i]
   generalize hnx : Bh t cs[i] = nx at hL2 hfo
   generalize Bh t st = lt at hL hfo ⊢
   generalize Ht t st cl cs[i] = F at hyes hno hfl hf0 hbs
   generalize QY t st cl cs[i] = fb at hyes hno hfo
   generalize H7 t st cl (cs.take i) = B at hbi hbs ⊢
   generalize A4 t = N at hM hfo hm64 hbs ⊢
   repeat' (first
    | refine ca Cr (hL2) ?_
    | exact True.intro | refine AD ?_ | refine two ?_ ?_ | refine AB fun c_ => ?_
    | (refine imp fun hc => ?_) <;> try exact cx1 hc
    | refine all fun v_ => ?_)
   have e0 : B = B ++ F 0 := by rw [hf0, List.append_nil]
   refine AG (X := Nat × Sl) (fun y => [(2, .val (.pointer (some ⟨bt, 0, none⟩))), (3, .val (.pointer (some ⟨bs, 0, none⟩))), (9, .int N), (10, .d (Ai lt)), (12, .d (AK cs)), (14, .val y.2.v), (15, .int i), (16, .d (Ai nx)), (18, .int y.1)]) (fun y => [AM y.2.v 82 2 Fo.cells (B ++ F y.1), .cells bs 82 [.int st, .int cl], .cells bt 29 [.d (Aq t.model.vars), .d (Ad t.model.rules), .d (Aw t.props), .d (AO t.formula)]]) (fun y => y.1 ≤ N) (fun y => N - y.1) (0, q) (Nat.zero_le _) (VS.take (by dsimp only; rw [← e0]; exact AI) ?_) ?_
   · exact leD
   clear e0
   rintro ⟨k, q⟩ hk
   dsimp only at hk ⊢
   have hfk := hfl k
   have hal : (B ++ F k).length = B.length + (F k).length := List.length_append
   by_cases hkl : k < N
   · have hFo := Tt G t.formula lt cl nx k
     rw [hfo k (by omega) (by omega)] at hFo
     dsimp only at hFo
     cases hb : fb k with
     | true =>
       rw [hb] at hFo
       have hy := hyes k hb
       repeat' (first
        | refine ca IG (hFo) ?_
        | ((with_reducible apply (Ea (f := Fo.cells) (u := ⟨cs[i], (k : Int)⟩))); (focus rfl); (focus rfl); (focus (with_reducible exact ElC.h)); (focus exact Db); (focus rfl); (focus rfl); (focus rfl); (focus rfl); (focus exact BI); (focus exact BI))
        | exact True.intro | refine AD ?_ | refine two ?_ ?_ | refine AB fun c_ => ?_
        | (refine imp fun hc => ?_) <;> try exact cx1 hc
        | refine all fun v_ => ?_)
       refine ⟨(k + 1, v_), by dsimp only; omega, by dsimp only; omega, VS.take (by dsimp only; rw [hy, ← List.append_assoc]; exact AI) ?_⟩
       exact leD
     | false =>
       rw [hb] at hFo
       have hy := hno k hb
       repeat' (first
        | refine ca IG (hFo) ?_
        | ((with_reducible apply (Ea (f := Fo.cells) (u := ⟨cs[i], (k : Int)⟩))); (focus rfl); (focus rfl); (focus (with_reducible exact ElC.h)); (focus exact Db); (focus rfl); (focus rfl); (focus rfl); (focus rfl); (focus exact BI); (focus exact BI))
        | exact True.intro | refine AD ?_ | refine two ?_ ?_ | refine AB fun c_ => ?_
        | (refine imp fun hc => ?_) <;> try exact cx1 hc
        | refine all fun v_ => ?_)
       refine ⟨(k + 1, q), by dsimp only; omega, by dsimp only; omega, VS.take (by dsimp only; rw [hy]; exact AI) ?_⟩
       exact leD
   obtain rfl : k = N := by omega
   repeat' (first
    | exact True.intro | refine AD ?_ | refine two ?_ ?_ | refine AB fun c_ => ?_
    | (refine imp fun hc => ?_) <;> try exact cx1 hc
    | refine all fun v_ => ?_)
   refine ⟨(i + 1, q), by dsimp only; omega, by dsimp only; omega, VS.take (by dsimp only; rw [hbs]; exact AI) ?_⟩
   exact leD
 obtain rfl : i = cs.length := by omega
 rw [List.take_length]
 repeat' (first
  | exact True.intro | refine AD ?_ | refine two ?_ ?_ | refine AB fun c_ => ?_
  | (refine imp fun hc => ?_) <;> try exact cx1 hc
  | refine all fun v_ => ?_)
 refine AH (VS.trans (Bf (t := 4) (eb := 16) rfl rfl (fun x => rfl) (by have := hbl cs; omega)) (VS.drop (List.nil_sublist _))) ?_
 ((with_reducible apply rq2); rfl; rfl; rfl)
 exact AA rfl
end Go.Proofs.YtibahljljjkceaaGreatDoor
