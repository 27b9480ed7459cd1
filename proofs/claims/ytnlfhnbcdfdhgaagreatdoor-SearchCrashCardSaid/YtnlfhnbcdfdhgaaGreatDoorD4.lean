/- A bundle of this claim's own texts: P18. -/
import Derived.Test.YtnlfhnbcdfdhgaaGreatDoorD3
set_option linter.unusedVariables false
set_option linter.unusedSimpArgs false
set_option maxRecDepth 100000
set_option maxHeartbeats 4000000
namespace Go.Proofs.YtnlfhnbcdfdhgaaGreatDoor
open Go Go.Av Go.Sp
theorem fg (d : De) (hd : TY d) (raw : List Fo) (hr : BH raw) (l : List Fo) (hl : BH l) (keep : Int) (hk : AX keep) : ACr Tryz.prog GP 6 [deA d, .d (AO raw), .d (AO l), .int keep] (.bool true) := by
 have hT := Td GP d hd raw hr 2 (by decide)
 have hf := FoG.of raw (t := 2) (by decide)
 obtain ⟨e, he⟩ := Ho d hf
 have hE := GK (DP d (Bi raw 2))
 rw [ON he, he] at hE
 dsimp only at hE
 have g := HO he
 have ei : (A3 (DP d (Bi raw 2))).1.length = nkF (DP d (Bi raw 2)) 0 := rfl
 rw [ei] at hE
 generalize (Ai (DP d (Bi raw 2)).formula (DP d (Bi raw 2)).props.length).1.length = am at hE
 generalize DP d (Bi raw 2) = t at hT he hE g
 clear ei hf
 have hN := g.few
 have hM := fY l hl 30 (by decide)
 have hok := Ie l 30
 have hml := F2 l 30
 generalize C8 l 30 = ms at hM hok hml
 have hP := TK GP keep 100 (by decide) hk
 have hpb := BE keep (many := 100) (by decide)
 generalize pk keep 100 = kp at hP hpb
 have ok1 : ∀ (k v : Int), (1 ≤ k ∧ k ≤ 4) → 0 ≤ v → v ≤ 2147483647 → okM ⟨k, v⟩ := fun k v h1 h2 h3 => ⟨h1, h2, h3⟩
 have ok3 : ∀ v : Int, 0 ≤ v → v ≤ 2147483647 → Hy (ms ++ [⟨3, v⟩]) = 0 := fun v h1 h2 => Kf (fU hok fun x h => by rw [List.mem_singleton.1 h]; exact ok1 3 v (by decide) h1 h2) (by simp; omega)
 have hSa := Hk t e he ms (Kf hok (by omega))
 have hSb := Hk t e he (ms ++ [⟨3, kp⟩]) (ok3 kp (by omega) (by omega))
 have hSc := Hk t e he (ms ++ [⟨3, 0⟩]) (ok3 0 (by decide) (by decide))
 have hSe := Hk t e he (ms ++ [⟨3, 2147483647⟩]) (ok3 2147483647 (by decide) (by decide))
 have hSf := Hk t e he [⟨3, 0⟩] (by decide)
 have hSg := AC.argsLe (xs := [tkA t, .val (.slice none 0 0)]) (ys := [tkA t, .d (AO [])]) ⟨AV.le_refl _, AV.le_nil 2 16, trivial⟩ (Hk t e he [] (by decide))
 have r := g.runI ms
 have hcf := ((DL.nil (t := t) (e := e)).crash g 0).1
 rw [Wr] at hSb hSc hSe
 rw [show runM t [⟨3, 0⟩] = mvF t B7 ⟨3, 0⟩ from rfl] at hSf
 rw [show runM t [] = B7 from rfl] at hSg
 have cbz9 := r.crash g kp
 have c0 := r.crash0
 have cAz9 := r.crashAll
 have hmo : ∀ {i j : Nat}, i ≤ j → nkF t i ≤ nkF t j := OQ t
 have hmb := hmo cbz9.2.2.1
 unfold ML at hSa hSb hSc hSe hSf hSg
 generalize runM t ms = x at hSa hSb hSc hSe cbz9 c0 cAz9 hmb r
 generalize mvF t x ⟨3, kp⟩ = xb at hSb cbz9 hmb
 generalize mvF t x ⟨3, 0⟩ = xc at hSc c0
 generalize mvF t x ⟨3, 2147483647⟩ = xe at hSe cAz9
 generalize mvF t B7 ⟨3, 0⟩ = xf at hSf hcf
 have hgu : B7.up = true := rfl
 generalize B7 = xg at hSg hgu
 obtain ⟨cb1, cb2, cb3, cb4⟩ := cbz9
 clear r hmo
 generalize hd_x : (x.up && decide (x.n = nkF t x.n)) = dxz9 at hSa
 generalize hh_x : (dxz9 && decide ((C5 (exG t)).2 ≠ 0)) = ox at hSa
 generalize hd_xb : (xb.up && decide (xb.n = nkF t xb.n)) = dbz9 at hSb
 generalize hh_xb : (dbz9 && decide ((C5 (exG t)).2 ≠ 0)) = ob at hSb
 generalize hd_xc : (xc.up && decide (xc.n = nkF t xc.n)) = dcz9 at hSc
 generalize hh_xc : (dcz9 && decide ((C5 (exG t)).2 ≠ 0)) = oc at hSc
 generalize hd_xe : (xe.up && decide (xe.n = nkF t xe.n)) = de' at hSe
 generalize hh_xe : (de' && decide ((C5 (exG t)).2 ≠ 0)) = oe at hSe
 generalize hd_xf : (xf.up && decide (xf.n = nkF t xf.n)) = df at hSf
 generalize hh_xf : (df && decide ((C5 (exG t)).2 ≠ 0)) = of' at hSf
 generalize hd_xg : (xg.up && decide (xg.n = nkF t xg.n)) = dgz9 at hSg
 generalize hh_xg : (dgz9 && decide ((C5 (exG t)).2 ≠ 0)) = og at hSg
 have hSa' := ACr.le hSa (gL x.up (nkF t x.n) x.n x.s x.a dxz9 ox true)
 refine AJ (ts := [8]) Tryz.f6.ntmps Tryz.func6 rfl rfl rfl (by simp [Tryz.ntmps6]) fun W I => ?_
 repeat' (first
  | refine ca Hv (hT) ?_
  | refine cae GO (hM) ?_
  | ((with_reducible apply gM); (focus rfl); (focus exact Bo); (focus exact hSa'); (focus exact gE x.up (nkF t x.n) x.n x.s x.a dxz9 ox true); (focus exact ⟨GD _ _, DZ (E := 59) 16 (by exact Ab) rfl (fun _ => rfl) (by omega), trivial⟩); (focus rfl))
  | exact True.intro | refine Ps ?_ | refine two ?_ ?_ | refine AF fun c_ => ?_
  | (refine imp fun hc => ?_) <;> try exact cx hc
  | refine all fun v_ => ?_)
 obtain ⟨ba, rfl⟩ : ∃ x, x = v_ := ⟨v_, rfl⟩
 obtain ⟨q, rfl⟩ : ∃ x, x = v_ := ⟨v_, rfl⟩
 obtain ⟨bt, rfl⟩ : ∃ x, x = v_ := ⟨v_, rfl⟩
 refine ⟨?_⟩
 refine GW (X := Nat) (fun z => [(9, .val (.pointer (some ⟨bt, 0, none⟩))), (10, .val q.v), (11, .val (.pointer (some ⟨ba, 0, none⟩))), (12, .bool true), (13, .val (.pointer (some ⟨z, 0, none⟩))), (14, .bool true)]) (fun z => [.cells z 33 [.bool xb.up, .int (nkF t xb.n), .int xb.n, .int xb.s, .int xb.a, .bool dbz9, .bool ob], .cells ba 33 [.bool x.up, .int (nkF t x.n), .int x.n, .int x.s, .int x.a, .bool dxz9, .bool ox], AH q.v 59 2 Fo.cells ms, .cells bt 29 [.d (BT t.model.vars), .d (A2 t.model.rules), .d (BU t.props), .d (AO t.formula)]]) ?_ ?_
 · as_aux_lemma =>
    refine Cm [] mixed rfl (by (repeat (with_reducible apply AU)); exact len_nil) (by decide +kernel) (by exact AW) ?_
    repeat' (first
     | exact True.intro
     | ((with_reducible apply fV); (focus (decide +kernel)))
     | refine caq CS (hP) ?_
     | refine ca CS (hP) ?_
     | ((with_reducible apply Kk); (focus rfl); (focus (decide +kernel)); (focus ((with_reducible apply (fS (f := Fo.cells) (xs := ms))); (iterate 4 focus rfl); (focus (with_reducible exact ElC.h)); (focus exact Ab); (focus rfl))); (focus rfl))
     | ((refine C3 (VS.of_le (Env.le_cons (t := 44) (x := .agg [.int 3, .int kp]) (AV.le_agg ⟨fun _ _ _ h => h, fun _ _ _ h => h, trivial⟩) (Env.le_refl _))) ?_); (with_reducible apply Sx); (focus rfl); (focus rfl); (focus (with_reducible exact ElC.h)); (focus rfl); (focus rfl))
     | ((with_reducible apply (fT (f' := Fo.cells) (xs := ms) (ys := [⟨3, kp⟩]))); (iterate 3 focus rfl); (focus (with_reducible exact ElC.h)); (focus exact Ab); (iterate 3 focus rfl); (focus exact fun _ => rfl); (focus (simp only [List.length_cons, List.length_nil]; omega)); (focus rfl); (focus (simp only [List.length_cons, List.length_nil]; omega)); (focus (simp only [List.length_cons, List.length_nil]; omega)))
     | refine ca Bo hSb ?_
     | refine fX ?_
     | refine AP ?_ | refine two ?_ ?_ | refine AF fun c_ => ?_
     | (refine imp fun hc => ?_) <;> try exact cx1 hc
     | refine all fun v_ => ?_)
    all_goals
     refine ⟨_, VS.take (by exact AD) ?_⟩
     exact leD
 intro bb
 repeat' (first
  | exact True.intro | refine Ps ?_ | refine two ?_ ?_ | refine AF fun c_ => ?_
  | (refine imp fun hc => ?_) <;> try exact cx hc
  | refine all fun v_ => ?_)
 refine ⟨?_⟩
 refine GW (X := Nat) (fun z => [(9, .val (.pointer (some ⟨bt, 0, none⟩))), (10, .val q.v), (11, .val (.pointer (some ⟨ba, 0, none⟩))), (12, .bool true), (13, .val (.pointer (some ⟨bb, 0, none⟩))), (14, .bool true), (15, .val (.pointer (some ⟨z, 0, none⟩))), (16, .bool true)]) (fun z => [.cells z 33 [.bool xc.up, .int (nkF t xc.n), .int xc.n, .int xc.s, .int xc.a, .bool dcz9, .bool oc], .cells ba 33 [.bool x.up, .int (nkF t x.n), .int x.n, .int x.s, .int x.a, .bool dxz9, .bool ox], .cells bb 33 [.bool xb.up, .int (nkF t xb.n), .int xb.n, .int xb.s, .int xb.a, .bool dbz9, .bool ob], AH q.v 59 2 Fo.cells ms, .cells bt 29 [.d (BT t.model.vars), .d (A2 t.model.rules), .d (BU t.props), .d (AO t.formula)]]) ?_ ?_
 · as_aux_lemma =>
    refine Cm [] mixed rfl (by (repeat (with_reducible apply AU)); exact len_nil) (by decide +kernel) (by exact AW) ?_
    repeat' (first
     | exact True.intro
     | ((with_reducible apply fV); (focus (decide +kernel)))
     | ((with_reducible apply Kk); (focus rfl); (focus (decide +kernel)); (focus ((with_reducible apply (fS (f := Fo.cells) (xs := ms))); (iterate 4 focus rfl); (focus (with_reducible exact ElC.h)); (focus exact Ab); (focus rfl))); (focus rfl))
     | ((refine C3 (VS.of_le (Env.le_cons (t := 58) (x := .agg [.int 3, .int 0]) (AV.le_agg ⟨fun _ _ _ h => h, fun _ _ _ h => h, trivial⟩) (Env.le_refl _))) ?_); (with_reducible apply Sx); (focus rfl); (focus rfl); (focus (with_reducible exact ElC.h)); (focus rfl); (focus rfl))
     | ((with_reducible apply (fT (f' := Fo.cells) (xs := ms) (ys := [⟨3, 0⟩]))); (iterate 3 focus rfl); (focus (with_reducible exact ElC.h)); (focus exact Ab); (iterate 3 focus rfl); (focus exact fun _ => rfl); (focus (simp only [List.length_cons, List.length_nil]; omega)); (focus rfl); (focus (simp only [List.length_cons, List.length_nil]; omega)); (focus (simp only [List.length_cons, List.length_nil]; omega)))
     | refine ca Bo hSc ?_
     | refine fX ?_
     | refine AP ?_ | refine two ?_ ?_ | refine AF fun c_ => ?_
     | (refine imp fun hc => ?_) <;> try exact cx1 hc
     | refine all fun v_ => ?_)
    all_goals
     refine ⟨_, VS.take (by exact AD) ?_⟩
     exact leD
 intro bcz9
 repeat' (first
  | exact True.intro | refine Ps ?_ | refine two ?_ ?_ | refine AF fun c_ => ?_
  | (refine imp fun hc => ?_) <;> try exact cx hc
  | refine all fun v_ => ?_)
 refine ⟨?_⟩
 refine GW (X := Nat) (fun z => [(9, .val (.pointer (some ⟨bt, 0, none⟩))), (10, .val q.v), (11, .val (.pointer (some ⟨ba, 0, none⟩))), (12, .bool true), (13, .val (.pointer (some ⟨bb, 0, none⟩))), (14, .bool true), (15, .val (.pointer (some ⟨bcz9, 0, none⟩))), (16, .bool true), (17, .val (.pointer (some ⟨z, 0, none⟩))), (18, .bool true)]) (fun z => [.cells z 33 [.bool xe.up, .int (nkF t xe.n), .int xe.n, .int xe.s, .int xe.a, .bool de', .bool oe], .cells ba 33 [.bool x.up, .int (nkF t x.n), .int x.n, .int x.s, .int x.a, .bool dxz9, .bool ox], .cells bb 33 [.bool xb.up, .int (nkF t xb.n), .int xb.n, .int xb.s, .int xb.a, .bool dbz9, .bool ob], .cells bcz9 33 [.bool xc.up, .int (nkF t xc.n), .int xc.n, .int xc.s, .int xc.a, .bool dcz9, .bool oc], AH q.v 59 2 Fo.cells ms, .cells bt 29 [.d (BT t.model.vars), .d (A2 t.model.rules), .d (BU t.props), .d (AO t.formula)]]) ?_ ?_
 · as_aux_lemma =>
    refine Cm [] mixed rfl (by (repeat (with_reducible apply AU)); exact len_nil) (by decide +kernel) (by exact AW) ?_
    repeat' (first
     | exact True.intro
     | ((with_reducible apply fV); (focus (decide +kernel)))
     | ((with_reducible apply Kk); (focus rfl); (focus (decide +kernel)); (focus ((with_reducible apply (fS (f := Fo.cells) (xs := ms))); (iterate 4 focus rfl); (focus (with_reducible exact ElC.h)); (focus exact Ab); (focus rfl))); (focus rfl))
     | ((refine C3 (VS.of_le (Env.le_cons (t := 72) (x := .agg [.int 3, .int 2147483647]) (AV.le_agg ⟨fun _ _ _ h => h, fun _ _ _ h => h, trivial⟩) (Env.le_refl _))) ?_); (with_reducible apply Sx); (focus rfl); (focus rfl); (focus (with_reducible exact ElC.h)); (focus rfl); (focus rfl))
     | ((with_reducible apply (fT (f' := Fo.cells) (xs := ms) (ys := [⟨3, 2147483647⟩]))); (iterate 3 focus rfl); (focus (with_reducible exact ElC.h)); (focus exact Ab); (iterate 3 focus rfl); (focus exact fun _ => rfl); (focus (simp only [List.length_cons, List.length_nil]; omega)); (focus rfl); (focus (simp only [List.length_cons, List.length_nil]; omega)); (focus (simp only [List.length_cons, List.length_nil]; omega)))
     | refine ca Bo hSe ?_
     | refine fX ?_
     | refine AP ?_ | refine two ?_ ?_ | refine AF fun c_ => ?_
     | (refine imp fun hc => ?_) <;> try exact cx1 hc
     | refine all fun v_ => ?_)
    all_goals
     refine ⟨_, VS.take (by exact AD) ?_⟩
     exact leD
 intro be
 repeat' (first
  | refine ca Bo (hSf) ?_
  | ((refine C3 (VS.of_le (Env.le_cons (t := 80) (x := .agg [.int 3, .int 0]) (AV.le_agg ⟨fun _ _ _ h => h, fun _ _ _ h => h, trivial⟩) (Env.le_refl _))) ?_); (with_reducible apply Sx); (focus rfl); (focus rfl); (focus (with_reducible exact ElC.h)); (focus rfl); (focus rfl))
  | exact True.intro | refine Ps ?_ | refine two ?_ ?_ | refine AF fun c_ => ?_
  | (refine imp fun hc => ?_) <;> try exact cx hc
  | refine all fun v_ => ?_)
 clear hSa hSb hSc hSe hSf hSa' hT hE hM hP hok ok3
 repeat' (first
  | refine ca Bo hSg ?_
  | exact True.intro | refine AP ?_ | refine two ?_ ?_
  | (refine imp fun hc => ?_) <;> try exact cx hc
  | refine all fun v_ => ?_)
 clear hSg
 dsimp only [List.append]
 repeat' (first
  | exact True.intro
  | refine stp ?_
  | refine two ?_ ?_
  | (refine imp fun hc => ?_) <;> try exact cx hc
  | refine all fun v_ => ?_)
 all_goals
  refine AN (VS.drop (List.nil_sublist _)) ?_
  ((with_reducible apply rq1); rfl; rfl)
  first
   | exact AB rfl
   | (refine AB (congrArg AV.bool (decide_eq_true ?_)); first | omega | (dsimp only; omega))
   | exact AB (by simp_all)
end Go.Proofs.YtnlfhnbcdfdhgaaGreatDoor
