/- A bundle of this claim's own texts: P14. -/
import Derived.Test.YtnlfhnbcdfdhgaaGreatDoorD1
set_option linter.unusedVariables false
set_option linter.unusedSimpArgs false
set_option maxRecDepth 100000
set_option maxHeartbeats 4000000
namespace Go.Proofs.YtnlfhnbcdfdhgaaGreatDoor
open Go Go.Av Go.Sp
theorem fp (d : De) (hd : TY d) (raw : List Fo) (hr : BH raw) (l : List Fo) (hl : BH l) (m : List Fo) (hmm : BH m) : ACr Tryz.prog GP 11 [deA d, .d (AO raw), .d (AO l), .d (AO m)] (.bool true) := by
 have hT := Td GP d hd raw hr 2 (by decide)
 have hf := FoG.of raw (t := 2) (by decide)
 obtain ⟨e, he⟩ := Ho d hf
 have hE := GK (DP d (Bi raw 2))
 rw [ON he, he] at hE
 dsimp only at hE
 have g := HO he
 have ei : (A3 (DP d (Bi raw 2))).1.length = nkF (DP d (Bi raw 2)) 0 := rfl
 rw [ei] at hE
 generalize (Ai (DP d (Bi raw 2)).formula (DP d (Bi raw 2)).props.length).1.length = am at hE
 generalize DP d (Bi raw 2) = t at hT he hE g
 clear ei hf
 have hN := g.few
 have hMa := fY l hl 20 (by decide)
 have hMb := fY m hmm 20 (by decide)
 have oka := Ie l 20
 have okb := Ie m 20
 have la := F2 l 20
 have lb := F2 m 20
 generalize C8 l 20 = ma at hMa oka la
 generalize C8 m 20 = mb at hMb okb lb
 have ok4 : ∀ x ∈ [(⟨4, 0⟩ : Fo)], okM x := fun x h => by rw [List.mem_singleton.1 h]; unfold okM; decide
 have hSa := Hk t e he (ma ++ [⟨4, 0⟩]) (Kf (fU oka ok4) (by simp; omega))
 have hSb := Hk t e he (mb ++ [⟨4, 0⟩]) (Kf (fU okb ok4) (by simp; omega))
 have hua : (runM t (ma ++ [⟨4, 0⟩])).up = true := by rw [Wr, HG]
 have hub : (runM t (mb ++ [⟨4, 0⟩])).up = true := by rw [Wr, HG]
 have ra := g.runI (ma ++ [⟨4, 0⟩])
 have rb := g.runI (mb ++ [⟨4, 0⟩])
 unfold ML at hSa hSb
 generalize runM t (ma ++ [⟨4, 0⟩]) = x at hSa hua ra
 generalize runM t (mb ++ [⟨4, 0⟩]) = y at hSb hub rb
 rw [hua, Bool.true_and] at hSa
 rw [hub, Bool.true_and] at hSb
 have hxy : x.n ≤ y.n → nkF t x.n ≤ nkF t y.n := OQ t
 have hyx : y.n ≤ x.n → nkF t y.n ≤ nkF t x.n := OQ t
 have hla : (ma ++ [(⟨4, 0⟩ : Fo)]).length ≤ 21 := by simp; omega
 have hlb : (mb ++ [(⟨4, 0⟩ : Fo)]).length ≤ 21 := by simp; omega
 generalize hda : decide (x.n = nkF t x.n) = daz9 at hSa
 generalize hdb : decide (y.n = nkF t y.n) = dbz9 at hSb
 generalize hha : (daz9 && decide ((C5 (exG t)).2 ≠ 0)) = ha at hSa
 generalize hhb : (dbz9 && decide ((C5 (exG t)).2 ≠ 0)) = hb at hSb
 refine AJ (ts := [8]) Tryz.f11.ntmps Tryz.func11 rfl rfl rfl (by simp [Tryz.ntmps11]) fun W I => ?_
 repeat' (first
  | refine ca Hv (hT) ?_
  | exact True.intro | refine Ps ?_ | refine two ?_ ?_ | refine AF fun c_ => ?_
  | (refine imp fun hc => ?_) <;> try exact cx hc
  | refine all fun v_ => ?_)
 obtain ⟨bt, rfl⟩ : ∃ x, x = v_ := ⟨v_, rfl⟩
 refine ⟨?_⟩
 refine GW (X := Nat) (fun z => [(3, .d (AO m)), (9, .val (.pointer (some ⟨bt, 0, none⟩))), (10, .val (.pointer (some ⟨z, 0, none⟩))), (11, .bool true)]) (fun z => [.cells z 33 [.bool true, .int (nkF t x.n), .int x.n, .int x.s, .int x.a, .bool daz9, .bool ha],  .cells bt 29 [.d (BT t.model.vars), .d (A2 t.model.rules), .d (BU t.props), .d (AO t.formula)]]) ?_ ?_
 · as_aux_lemma =>
    refine Cm [] mixed rfl (by (repeat (with_reducible apply AU)); exact len_nil) (by decide +kernel) (by exact AW) ?_
    repeat' (first
     | refine cae GO (hMa) ?_
     | ((refine C3 (VS.of_le (Env.le_cons (t := 21) (x := .agg [.int 4, .int 0]) (AV.le_agg ⟨fun _ _ _ h => h, fun _ _ _ h => h, trivial⟩) (Env.le_refl _))) ?_); (with_reducible apply Sx); (focus rfl); (focus rfl); (focus (with_reducible exact ElC.h)); (focus rfl); (focus rfl))
     | ((with_reducible apply (BX (f := Fo.cells) (u := ⟨4, 0⟩))); (focus rfl); (focus rfl); (focus (with_reducible exact ElC.h)); (focus exact BS); (iterate 4 focus rfl); (focus exact Af); (focus exact Af))
     | ((refine C3 (By (t := 23) (eb := 16) rfl rfl (fun x => rfl) (by omega)) ?_); (refine ca Bo hSa ?_))
     | ((refine C3 (D1 (h1 := [_]) (h' := [_]) 16 rfl rfl (fun _ => rfl) (by omega) (CvE.cons (t := 23) rfl .here (CvE.refl _ _ _)) (CvH.refl _)) ?_); (refine ca Bo hSa ?_))
     | exact True.intro | refine AG ?_ | refine two ?_ ?_ | refine AF fun c_ => ?_
     | (refine imp fun hc => ?_) <;> try exact cx1 hc
     | refine all fun v_ => ?_)
    all_goals
     refine ⟨_, VS.take (by exact AD) ?_⟩
     exact leD
 intro ba
 repeat' (first
  | exact True.intro | refine Ps ?_ | refine two ?_ ?_ | refine AF fun c_ => ?_
  | (refine imp fun hc => ?_) <;> try exact cx hc
  | refine all fun v_ => ?_)
 refine ⟨?_⟩
 refine GW (X := Nat) (fun z => [(10, .val (.pointer (some ⟨ba, 0, none⟩))), (11, .bool true), (9, .val (.pointer (some ⟨bt, 0, none⟩))), (12, .val (.pointer (some ⟨z, 0, none⟩))), (13, .bool true)]) (fun z => [.cells z 33 [.bool true, .int (nkF t y.n), .int y.n, .int y.s, .int y.a, .bool dbz9, .bool hb], .cells ba 33 [.bool true, .int (nkF t x.n), .int x.n, .int x.s, .int x.a, .bool daz9, .bool ha], .cells bt 29 [.d (BT t.model.vars), .d (A2 t.model.rules), .d (BU t.props), .d (AO t.formula)]]) ?_ ?_
 · as_aux_lemma =>
    refine Cm [] mixed rfl (by (repeat (with_reducible apply AU)); exact len_nil) (by decide +kernel) (by exact AW) ?_
    repeat' (first
     | refine cae GO (hMb) ?_
     | ((refine C3 (VS.of_le (Env.le_cons (t := 31) (x := .agg [.int 4, .int 0]) (AV.le_agg ⟨fun _ _ _ h => h, fun _ _ _ h => h, trivial⟩) (Env.le_refl _))) ?_); (with_reducible apply Sx); (focus rfl); (focus rfl); (focus (with_reducible exact ElC.h)); (focus rfl); (focus rfl))
     | ((with_reducible apply (BX (f := Fo.cells) (u := ⟨4, 0⟩))); (focus rfl); (focus rfl); (focus (with_reducible exact ElC.h)); (focus exact BS); (iterate 4 focus rfl); (focus exact Af); (focus exact Af))
     | ((refine C3 (By (t := 33) (eb := 16) rfl rfl (fun x => rfl) (by omega)) ?_); (refine ca Bo hSb ?_))
     | ((refine C3 (D1 (h1 := [_]) (h' := [_]) 16 rfl rfl (fun _ => rfl) (by omega) (CvE.cons (t := 33) rfl .here (CvE.refl _ _ _)) (CvH.refl _)) ?_); (refine ca Bo hSb ?_))
     | exact True.intro | refine AG ?_ | refine two ?_ ?_ | refine AF fun c_ => ?_
     | (refine imp fun hc => ?_) <;> try exact cx1 hc
     | refine all fun v_ => ?_)
    all_goals
     refine ⟨_, VS.take (by exact AD) ?_⟩
     exact leD
 intro bb
 clear hSa hSb hT hE hMa hMb oka okb
 have fin1 : x.n < y.n ∨ x.n = y.n ∨ y.n < x.n := by omega
 rcases fin1 with h | h | h
 · as_aux_lemma =>
    have h1 := hxy (by omega)
    repeat' (first
     | exact True.intro
     | refine stp ?_
     | refine two ?_ ?_
     | (refine imp fun hc => ?_) <;> try exact cx hc
     | refine all fun v_ => ?_)
    all_goals
     refine AN (VS.drop (List.nil_sublist _)) ?_
     ((with_reducible apply rq1); rfl; rfl)
     exact AB (congrArg AV.bool (decide_eq_true (by omega)))
 · as_aux_lemma =>
    have e1 : nkF t x.n = nkF t y.n := by rw [h]
    have e2 : daz9 = dbz9 := by rw [← hda, ← hdb, h]
    subst e2
    have e3 : ha = hb := by rw [← hha, ← hhb]
    subst e3
    repeat' (first
     | exact True.intro
     | refine stp ?_
     | refine two ?_ ?_
     | (refine imp fun hc => ?_) <;> try exact cx hc
     | refine all fun v_ => ?_)
    all_goals
     refine AN (VS.drop (List.nil_sublist _)) ?_
     ((with_reducible apply rq1); rfl; rfl)
     exact AB (by simp_all)
 · as_aux_lemma =>
    have h1 := hyx (by omega)
    repeat' (first
     | exact True.intro
     | refine stp ?_
     | refine two ?_ ?_
     | (refine imp fun hc => ?_) <;> try exact cx hc
     | refine all fun v_ => ?_)
    all_goals
     refine AN (VS.drop (List.nil_sublist _)) ?_
     ((with_reducible apply rq1); rfl; rfl)
     exact AB (congrArg AV.bool (decide_eq_true (by omega)))
end Go.Proofs.YtnlfhnbcdfdhgaaGreatDoor
