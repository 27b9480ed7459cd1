/- A bundle of this claim's own texts: P19. -/
import Derived.Test.YtnlfhnbcdfdhgaaGreatDoorD3
set_option linter.unusedVariables false
set_option linter.unusedSimpArgs false
set_option maxRecDepth 100000
set_option maxHeartbeats 4000000
namespace Go.Proofs.YtnlfhnbcdfdhgaaGreatDoor
open Go Go.Av Go.Sp
theorem fm (d : De) (hd : TY d) (raw : List Fo) (hr : BH raw) (l : List Fo) (hl : BH l) (n : Int) (hn : AX n) : ACr Tryz.prog GP 8 [deA d, .d (AO raw), .d (AO l), .int n] (.bool true) := by
 have hT := Td GP d hd raw hr 2 (by decide)
 have hf := FoG.of raw (t := 2) (by decide)
 obtain ⟨e, he⟩ := Ho d hf
 have hE := GK (DP d (Bi raw 2))
 rw [ON he, he] at hE
 dsimp only at hE
 have g := HO he
 have ei : (A3 (DP d (Bi raw 2))).1.length = nkF (DP d (Bi raw 2)) 0 := rfl
 rw [ei] at hE
 generalize (Ai (DP d (Bi raw 2)).formula (DP d (Bi raw 2)).props.length).1.length = am at hE
 generalize DP d (Bi raw 2) = t at hT he hE g
 clear ei hf
 have hN := g.few
 have hM := fY l hl 30 (by decide)
 have hok0 := Ie l 30
 have hml0 := F2 l 30
 generalize C8 l 30 = m0 at hM hok0 hml0
 have hP := TK GP n 10 (by decide) hn
 have hpb := BE n (many := 10) (by decide)
 generalize pk n 10 = kp at hP hpb
 have ok1 : ∀ (k v : Int), (1 ≤ k ∧ k ≤ 4) → 0 ≤ v → v ≤ 2147483647 → okM ⟨k, v⟩ := fun k v h1 h2 h3 => ⟨h1, h2, h3⟩
 have hok : ∀ x ∈ m0 ++ [⟨3, 20⟩], okM x := fU hok0 fun x h => by rw [List.mem_singleton.1 h]; exact ok1 3 20 (by decide) (by decide) (by decide)
 have hml : (m0 ++ [(⟨3, 20⟩ : Fo)]).length ≤ 31 := by simp; omega
 have hdn := ((g.runI m0).crash g 20).1
 rw [← Wr] at hdn
 generalize hms : m0 ++ [⟨3, 20⟩] = ms at hok hml hdn
 have hSa := Hk t e he ms (Kf hok (by omega))
 have hSb := Hk t e he (ms ++ [⟨1, kp⟩, ⟨2, 0⟩, ⟨3, 0⟩]) (Kf (fU hok fun x h => by
  simp only [List.mem_cons, List.not_mem_nil, or_false] at h
  rcases h with rfl | rfl | rfl
  · exact ok1 1 kp (by decide) (by omega) (by omega)
  · exact ok1 2 0 (by decide) (by decide) (by decide)
  · exact ok1 3 0 (by decide) (by decide) (by decide)) (by simp; omega))
 have hSc := Hk t e he (ms ++ [⟨4, 0⟩]) (Kf (fU hok fun x h => by rw [List.mem_singleton.1 h]; exact ok1 4 0 (by decide) (by decide) (by decide)) (by simp; omega))
 have hSe := Hk t e he (ms ++ [⟨4, 0⟩, ⟨4, 0⟩]) (Kf (fU hok fun x h => by
  simp only [List.mem_cons, List.not_mem_nil, or_false] at h
  rcases h with rfl | rfl
  · exact ok1 4 0 (by decide) (by decide) (by decide)
  · exact ok1 4 0 (by decide) (by decide) (by decide)) (by simp; omega))
 have eb : runM t (ms ++ [⟨1, kp⟩, ⟨2, 0⟩, ⟨3, 0⟩]) = runM t ms := by
  rw [fZ]
  show mvF t (mvF t (mvF t (runM t ms) ⟨1, kp⟩) ⟨2, 0⟩) ⟨3, 0⟩ = _
  rw [Ip hdn (by dsimp only; decide), Ip hdn (by dsimp only; decide), Ip hdn (by dsimp only; decide)]
 have eez9 : runM t (ms ++ [⟨4, 0⟩, ⟨4, 0⟩]) = runM t (ms ++ [⟨4, 0⟩]) := by
  rw [fZ, fZ]
  show mvF t (mvF t (runM t ms) ⟨4, 0⟩) ⟨4, 0⟩ = mvF t (runM t ms) ⟨4, 0⟩
  rw [HG, HG]
 have ec : runM t (ms ++ [⟨4, 0⟩]) = ⟨true, (runM t ms).n, (runM t ms).s, (runM t ms).m, (runM t ms).a⟩ := by rw [Wr, HG]
 rw [eb] at hSb
 rw [eez9, ec] at hSe
 rw [ec] at hSc
 clear eb eez9 ec
 unfold ML at hSa hSb hSc hSe
 generalize runM t ms = x at hSa hSb hSc hSe hdn
 try dsimp only at hSa hSb hSc hSe
 rw [hdn] at hSa hSb
 simp only [Bool.false_and, Bool.true_and] at hSa hSb hSc hSe
 generalize decide (x.n = nkF t x.n) = dcz9 at hSc hSe
 generalize (dcz9 && decide ((C5 (exG t)).2 ≠ 0)) = oc at hSc hSe
 have hSa' := ACr.le hSa (gL false (nkF t x.n) x.n x.s x.a false false true)
 refine AJ (ts := [8]) Tryz.f8.ntmps Tryz.func8 rfl rfl rfl (by simp [Tryz.ntmps8]) fun W I => ?_
 repeat' (first
  | refine ca Hv (hT) ?_
  | refine cae GO (hM) ?_
  | ((refine C3 (VS.of_le (Env.le_cons (t := 24) (x := .agg [.int 3, .int 20]) (AV.le_agg ⟨fun _ _ _ h => h, fun _ _ _ h => h, trivial⟩) (Env.le_refl _))) ?_); (with_reducible apply Sx); (focus rfl); (focus rfl); (focus (with_reducible exact ElC.h)); (focus rfl); (focus rfl))
  | ((with_reducible apply (BX (f := Fo.cells) (u := ⟨3, 20⟩))); (focus rfl); (focus rfl); (focus (with_reducible exact ElC.h)); (focus exact BS); (iterate 4 focus rfl); (focus exact Af); (focus exact Af))
  | exact True.intro | refine Ps ?_ | refine two ?_ ?_ | refine AF fun c_ => ?_
  | (refine imp fun hc => ?_) <;> try exact cx hc
  | refine all fun v_ => ?_)
 all_goals rw [hms]
 repeat' (first
  | ((with_reducible apply gM); (focus rfl); (focus exact Bo); (focus exact hSa'); (focus exact gE false (nkF t x.n) x.n x.s x.a false false true); (focus exact ⟨GD _ _, DZ (E := 59) 16 (by exact Ab) rfl (fun _ => rfl) (by omega), trivial⟩); (focus rfl))
  | exact True.intro | refine Ps ?_ | refine two ?_ ?_ | refine AF fun c_ => ?_
  | (refine imp fun hc => ?_) <;> try exact cx hc
  | refine all fun v_ => ?_)
 obtain ⟨ba, rfl⟩ : ∃ x, x = v_ := ⟨v_, rfl⟩
 obtain ⟨q, rfl⟩ : ∃ x, x = v_ := ⟨v_, rfl⟩
 obtain ⟨q0, rfl⟩ : ∃ x, x = v_ := ⟨v_, rfl⟩
 obtain ⟨bt, rfl⟩ : ∃ x, x = v_ := ⟨v_, rfl⟩
 refine ⟨?_⟩
 refine GW (X := Nat) (fun z => [(9, .val (.pointer (some ⟨bt, 0, none⟩))), (10, .val q.v), (11, .val (.pointer (some ⟨ba, 0, none⟩))), (12, .bool true), (13, .val (.pointer (some ⟨z, 0, none⟩))), (14, .bool true)]) (fun z => [.cells z 33 [.bool false, .int (nkF t x.n), .int x.n, .int x.s, .int x.a, .bool false, .bool false], .cells ba 33 [.bool false, .int (nkF t x.n), .int x.n, .int x.s, .int x.a, .bool false, .bool false], AH q.v 59 2 Fo.cells ms, .cells bt 29 [.d (BT t.model.vars), .d (A2 t.model.rules), .d (BU t.props), .d (AO t.formula)]]) ?_ ?_
 · as_aux_lemma =>
    refine Cm [] mixed rfl (by (repeat (with_reducible apply AU)); exact len_nil) (by decide +kernel) (by exact AW) ?_
    repeat' (first
     | exact True.intro
     | ((with_reducible apply fV); (focus (decide +kernel)))
     | refine caq CS (hP) ?_
     | refine ca CS (hP) ?_
     | ((with_reducible apply Kk); (focus rfl); (focus (decide +kernel)); (focus ((with_reducible apply (fS (f := Fo.cells) (xs := ms))); (iterate 4 focus rfl); (focus (with_reducible exact ElC.h)); (focus exact Ab); (focus rfl))); (focus rfl))
     | ((refine C3 (VS.of_le (Env.le_cons (t := 43) (x := .agg [.int 1, .int kp]) (AV.le_agg ⟨fun _ _ _ h => h, fun _ _ _ h => h, trivial⟩) (Env.le_cons (t := 44) (x := .agg [.int 2, .int 0]) (AV.le_agg ⟨fun _ _ _ h => h, fun _ _ _ h => h, trivial⟩) (Env.le_cons (t := 45) (x := .agg [.int 3, .int 0]) (AV.le_agg ⟨fun _ _ _ h => h, fun _ _ _ h => h, trivial⟩) (Env.le_refl _))))) ?_); (with_reducible apply fe); (iterate 4 focus rfl); (focus (with_reducible exact ElC.h)); (focus rfl); (focus rfl))
     | ((with_reducible apply (fT (f' := Fo.cells) (xs := ms) (ys := [⟨1, kp⟩, ⟨2, 0⟩, ⟨3, 0⟩]))); (iterate 3 focus rfl); (focus (with_reducible exact ElC.h)); (focus exact Ab); (iterate 3 focus rfl); (focus exact fun _ => rfl); (focus (simp only [List.length_cons, List.length_nil]; omega)); (focus rfl); (focus (simp only [List.length_cons, List.length_nil]; omega)); (focus (simp only [List.length_cons, List.length_nil]; omega)))
     | refine ca Bo hSb ?_
     | refine fX ?_
     | refine AP ?_ | refine two ?_ ?_ | refine AF fun c_ => ?_
     | (refine imp fun hc => ?_) <;> try exact cx1 hc
     | refine all fun v_ => ?_)
    all_goals
     refine ⟨_, VS.take (by exact AD) ?_⟩
     exact leD
 intro bb
 repeat' (first
  | exact True.intro | refine Ps ?_ | refine two ?_ ?_ | refine AF fun c_ => ?_
  | (refine imp fun hc => ?_) <;> try exact cx hc
  | refine all fun v_ => ?_)
 refine ⟨?_⟩
 refine GW (X := Nat) (fun z => [(9, .val (.pointer (some ⟨bt, 0, none⟩))), (10, .val q.v), (11, .val (.pointer (some ⟨ba, 0, none⟩))), (12, .bool true), (13, .val (.pointer (some ⟨bb, 0, none⟩))), (14, .bool true), (15, .val (.pointer (some ⟨z, 0, none⟩))), (16, .bool true)]) (fun z => [.cells z 33 [.bool true, .int (nkF t x.n), .int x.n, .int x.s, .int x.a, .bool dcz9, .bool oc], .cells ba 33 [.bool false, .int (nkF t x.n), .int x.n, .int x.s, .int x.a, .bool false, .bool false], .cells bb 33 [.bool false, .int (nkF t x.n), .int x.n, .int x.s, .int x.a, .bool false, .bool false], AH q.v 59 2 Fo.cells ms, .cells bt 29 [.d (BT t.model.vars), .d (A2 t.model.rules), .d (BU t.props), .d (AO t.formula)]]) ?_ ?_
 · as_aux_lemma =>
    refine Cm [] mixed rfl (by (repeat (with_reducible apply AU)); exact len_nil) (by decide +kernel) (by exact AW) ?_
    repeat' (first
     | exact True.intro
     | ((with_reducible apply fV); (focus (decide +kernel)))
     | ((with_reducible apply Kk); (focus rfl); (focus (decide +kernel)); (focus ((with_reducible apply (fS (f := Fo.cells) (xs := ms))); (iterate 4 focus rfl); (focus (with_reducible exact ElC.h)); (focus exact Ab); (focus rfl))); (focus rfl))
     | ((refine C3 (VS.of_le (Env.le_cons (t := 59) (x := .agg [.int 4, .int 0]) (AV.le_agg ⟨fun _ _ _ h => h, fun _ _ _ h => h, trivial⟩) (Env.le_refl _))) ?_); (with_reducible apply Sx); (focus rfl); (focus rfl); (focus (with_reducible exact ElC.h)); (focus rfl); (focus rfl))
     | ((with_reducible apply (fT (f' := Fo.cells) (xs := ms) (ys := [⟨4, 0⟩]))); (iterate 3 focus rfl); (focus (with_reducible exact ElC.h)); (focus exact Ab); (iterate 3 focus rfl); (focus exact fun _ => rfl); (focus (simp only [List.length_cons, List.length_nil]; omega)); (focus rfl); (focus (simp only [List.length_cons, List.length_nil]; omega)); (focus (simp only [List.length_cons, List.length_nil]; omega)))
     | refine ca Bo hSc ?_
     | refine fX ?_
     | refine AP ?_ | refine two ?_ ?_ | refine AF fun c_ => ?_
     | (refine imp fun hc => ?_) <;> try exact cx1 hc
     | refine all fun v_ => ?_)
    all_goals
     refine ⟨_, VS.take (by exact AD) ?_⟩
     exact leD
 intro bcz9
 repeat' (first
  | exact True.intro | refine Ps ?_ | refine two ?_ ?_ | refine AF fun c_ => ?_
  | (refine imp fun hc => ?_) <;> try exact cx hc
  | refine all fun v_ => ?_)
 refine ⟨?_⟩
 refine GW (X := Nat) (fun z => [(9, .val (.pointer (some ⟨bt, 0, none⟩))), (10, .val q.v), (11, .val (.pointer (some ⟨ba, 0, none⟩))), (12, .bool true), (13, .val (.pointer (some ⟨bb, 0, none⟩))), (14, .bool true), (15, .val (.pointer (some ⟨bcz9, 0, none⟩))), (16, .bool true), (17, .val (.pointer (some ⟨z, 0, none⟩))), (18, .bool true)]) (fun z => [.cells z 33 [.bool true, .int (nkF t x.n), .int x.n, .int x.s, .int x.a, .bool dcz9, .bool oc], .cells ba 33 [.bool false, .int (nkF t x.n), .int x.n, .int x.s, .int x.a, .bool false, .bool false], .cells bb 33 [.bool false, .int (nkF t x.n), .int x.n, .int x.s, .int x.a, .bool false, .bool false], .cells bcz9 33 [.bool true, .int (nkF t x.n), .int x.n, .int x.s, .int x.a, .bool dcz9, .bool oc], AH q.v 59 2 Fo.cells ms, .cells bt 29 [.d (BT t.model.vars), .d (A2 t.model.rules), .d (BU t.props), .d (AO t.formula)]]) ?_ ?_
 · as_aux_lemma =>
    refine Cm [] mixed rfl (by (repeat (with_reducible apply AU)); exact len_nil) (by decide +kernel) (by exact AW) ?_
    repeat' (first
     | exact True.intro
     | ((with_reducible apply fV); (focus (decide +kernel)))
     | ((with_reducible apply Kk); (focus rfl); (focus (decide +kernel)); (focus ((with_reducible apply (fS (f := Fo.cells) (xs := ms))); (iterate 4 focus rfl); (focus (with_reducible exact ElC.h)); (focus exact Ab); (focus rfl))); (focus rfl))
     | ((refine C3 (VS.of_le (Env.le_cons (t := 73) (x := .agg [.int 4, .int 0]) (AV.le_agg ⟨fun _ _ _ h => h, fun _ _ _ h => h, trivial⟩) (Env.le_cons (t := 74) (x := .agg [.int 4, .int 0]) (AV.le_agg ⟨fun _ _ _ h => h, fun _ _ _ h => h, trivial⟩) (Env.le_refl _)))) ?_); (with_reducible apply Rg); (iterate 3 focus rfl); (focus (with_reducible exact ElC.h)); (focus rfl); (focus rfl))
     | ((with_reducible apply (fT (f' := Fo.cells) (xs := ms) (ys := [⟨4, 0⟩, ⟨4, 0⟩]))); (iterate 3 focus rfl); (focus (with_reducible exact ElC.h)); (focus exact Ab); (iterate 3 focus rfl); (focus exact fun _ => rfl); (focus (simp only [List.length_cons, List.length_nil]; omega)); (focus rfl); (focus (simp only [List.length_cons, List.length_nil]; omega)); (focus (simp only [List.length_cons, List.length_nil]; omega)))
     | refine ca Bo hSe ?_
     | refine fX ?_
     | refine AP ?_ | refine two ?_ ?_ | refine AF fun c_ => ?_
     | (refine imp fun hc => ?_) <;> try exact cx1 hc
     | refine all fun v_ => ?_)
    all_goals
     refine ⟨_, VS.take (by exact AD) ?_⟩
     exact leD
 intro be
 clear hSa hSb hSc hSe hSa' hT hE hM hP hok hok0
 repeat' (first
  | ((with_reducible apply jp); (focus ((with_reducible apply (fk fW)); (focus rfl); (focus rfl))); (focus rfl))
  | ((with_reducible apply jqp); (focus ((with_reducible apply (fk fW)); (focus rfl); (focus rfl))); (focus rfl))
  | exact True.intro
  | refine stp ?_
  | refine two ?_ ?_
  | (refine imp fun hc => ?_) <;> try exact cx hc
  | refine all fun v_ => ?_)
 all_goals
  refine AN (VS.drop (List.nil_sublist _)) ?_
  ((with_reducible apply rq1); rfl; rfl)
  first
   | exact AB rfl
   | (refine AB (congrArg AV.bool (decide_eq_true ?_)); first | omega | (dsimp only; omega))
   | exact AB (by simp_all)
end Go.Proofs.YtnlfhnbcdfdhgaaGreatDoor
