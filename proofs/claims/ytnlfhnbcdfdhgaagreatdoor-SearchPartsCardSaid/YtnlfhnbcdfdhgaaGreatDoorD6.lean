/- A bundle of this claim's own texts: P20. -/
import Derived.Test.YtnlfhnbcdfdhgaaGreatDoorD3
set_option linter.unusedVariables false
set_option linter.unusedSimpArgs false
set_option maxRecDepth 100000
set_option maxHeartbeats 4000000
namespace Go.Sp
open Go Go.Av
theorem gK (t : Tk) : ∀ (k : Nat) (x : Ms), (wkF t k x).up = x.up
 | 0, _ => rfl
 | k + 1, x => by
   rw [wkF]; split
   · rw [gK t k]; rfl
   · rfl
theorem gA (t : Tk) (ms : List Fo) (x y : Int) (hx : 0 ≤ x) (hy : 0 ≤ y) : runM t (ms ++ [⟨1, x⟩, ⟨1, y⟩]) = runM t (ms ++ [⟨1, x + y⟩]) := by
 rw [fZ, fZ]
 show mvF t (mvF t (runM t ms) ⟨1, x⟩) ⟨1, y⟩ = mvF t (runM t ms) ⟨1, x + y⟩
 generalize runM t ms = r
 cases hu : r.up with
 | false => rw [Ip hu (by dsimp only; decide), Ip hu (by dsimp only; decide), Ip hu (by dsimp only; decide)]
 | true =>
   have h1 : (wkF t x.toNat r).up = true := by rw [gK]; exact hu
   rw [Hh hu, Hh h1, Hh hu, ← gP, Int.toNat_add hx hy]
theorem fv {t : Tk} {e : Exp} (g : Grown t e) (k : Int) : (runM t [⟨1, k⟩]).up = true ∧ (runM t [⟨1, k⟩]).n = min k.toNat e.spots.length := by
 have h1 : runM t [⟨1, k⟩] = mvF t B7 ⟨1, k⟩ := rfl
 obtain ⟨a1, a2, a3, a4⟩ := HE g k.toNat (MsI.nil (t := t) (e := e))
 rw [h1, Hh (x := B7) rfl]
 refine ⟨by rw [a1]; rfl, ?_⟩
 rw [a3]; show min (0 + k.toNat) _ = _; rw [Nat.zero_add]
end Go.Sp
namespace Go.Proofs.YtnlfhnbcdfdhgaaGreatDoor
open Go Go.Av Go.Sp
theorem fh (d : De) (hd : TY d) (raw : List Fo) (hr : BH raw) (l : List Fo) (hl : BH l) (a b : Int) (ha : AX a) (hb : AX b) : ACr Tryz.prog GP 9 [deA d, .d (AO raw), .d (AO l), .int a, .int b] (.bool true) := by
 have hT := Td GP d hd raw hr 2 (by decide)
 have hf := FoG.of raw (t := 2) (by decide)
 obtain ⟨e, he⟩ := Ho d hf
 have hE := GK (DP d (Bi raw 2))
 rw [ON he, he] at hE
 dsimp only at hE
 have g := HO he
 have ei : (A3 (DP d (Bi raw 2))).1.length = nkF (DP d (Bi raw 2)) 0 := rfl
 rw [ei] at hE
 generalize (Ai (DP d (Bi raw 2)).formula (DP d (Bi raw 2)).props.length).1.length = am at hE
 generalize DP d (Bi raw 2) = t at hT he hE g
 clear ei hf
 have hN := g.few
 have hM := fY l hl 20 (by decide)
 have hok := Ie l 20
 have hml := F2 l 20
 generalize C8 l 20 = ms at hM hok hml
 have hPa := TK GP a 20 (by decide) ha
 have hPb := TK GP b 20 (by decide) hb
 have hba := BE a (many := 20) (by decide)
 have hbb := BE b (many := 20) (by decide)
 generalize pk a 20 = x at hPa hba
 generalize pk b 20 = y at hPb hbb
 have ok1 : ∀ (k v : Int), (1 ≤ k ∧ k ≤ 4) → 0 ≤ v → v ≤ 2147483647 → okM ⟨k, v⟩ := fun k v h1 h2 h3 => ⟨h1, h2, h3⟩
 have hSp := Hk t e he (ms ++ [⟨1, x⟩, ⟨1, y⟩]) (Kf (fU hok fun x' h => by
  simp only [List.mem_cons, List.not_mem_nil, or_false] at h
  rcases h with rfl | rfl
  · exact ok1 1 x (by decide) (by omega) (by omega)
  · exact ok1 1 y (by decide) (by omega) (by omega)) (by simp; omega))
 have hSq := Hk t e he (ms ++ [⟨1, x + y⟩]) (Kf (fU hok fun x' h => by rw [List.mem_singleton.1 h]; exact ok1 1 (x + y) (by decide) (by omega) (by omega)) (by simp; omega))
 have hSo := Hk t e he [⟨1, x⟩] (Kf (fun x' h => by rw [List.mem_singleton.1 h]; exact ok1 1 x (by decide) (by omega) (by omega)) (by simp))
 rw [gA t ms x y (by omega) (by omega)] at hSp
 obtain ⟨hou, hon⟩ := fv g x
 unfold ML at hSp hSq hSo
 generalize runM t (ms ++ [⟨1, x + y⟩]) = z1 at hSp hSq
 generalize runM t [⟨1, x⟩] = zo at hSo hou hon
 generalize (z1.up && decide (z1.n = nkF t z1.n)) = dzz9 at hSp hSq
 generalize (dzz9 && decide ((C5 (exG t)).2 ≠ 0)) = oz at hSp hSq
 generalize (zo.up && decide (zo.n = nkF t zo.n)) = do' at hSo
 generalize (do' && decide ((C5 (exG t)).2 ≠ 0)) = oo at hSo
 refine AJ (ts := [10]) Tryz.f9.ntmps Tryz.func9 rfl rfl rfl (by simp [Tryz.ntmps9]) fun W I => ?_
 repeat' (first
  | refine ca Hv (hT) ?_
  | refine cae GO (hM) ?_
  | refine ca CS (hPa) ?_
  | refine ca CS (hPb) ?_
  | exact True.intro | refine Ps ?_ | refine two ?_ ?_ | refine AF fun c_ => ?_
  | (refine imp fun hc => ?_) <;> try exact cx hc
  | refine all fun v_ => ?_)
 obtain ⟨q, rfl⟩ : ∃ x, x = v_ := ⟨v_, rfl⟩
 obtain ⟨bt, rfl⟩ : ∃ x, x = v_ := ⟨v_, rfl⟩
 refine ⟨?_⟩
 refine GW (X := Nat) (fun z => [(11, .val (.pointer (some ⟨bt, 0, none⟩))), (12, .val q.v), (13, .int x), (14, .int y), (15, .val (.pointer (some ⟨z, 0, none⟩))), (16, .bool true)]) (fun z => [.cells z 33 [.bool z1.up, .int (nkF t z1.n), .int z1.n, .int z1.s, .int z1.a, .bool dzz9, .bool oz], AH q.v 59 2 Fo.cells ms, .cells bt 29 [.d (BT t.model.vars), .d (A2 t.model.rules), .d (BU t.props), .d (AO t.formula)]]) ?_ ?_
 · as_aux_lemma =>
    refine Cm [] mixed rfl (by (repeat (with_reducible apply AU)); exact len_nil) (by decide +kernel) (by exact AW) ?_
    repeat' (first
     | exact True.intro
     | ((with_reducible apply fV); (focus (decide +kernel)))
     | ((with_reducible apply Kk); (focus rfl); (focus (decide +kernel)); (focus ((with_reducible apply (fS (f := Fo.cells) (xs := ms))); (iterate 4 focus rfl); (focus (with_reducible exact ElC.h)); (focus exact Ab); (focus rfl))); (focus rfl))
     | ((refine C3 (VS.of_le (Env.le_cons (t := 41) (x := .agg [.int 1, .int x]) (AV.le_agg ⟨fun _ _ _ h => h, fun _ _ _ h => h, trivial⟩) (Env.le_cons (t := 43) (x := .agg [.int 1, .int y]) (AV.le_agg ⟨fun _ _ _ h => h, fun _ _ _ h => h, trivial⟩) (Env.le_refl _)))) ?_); (with_reducible apply Rg); (iterate 3 focus rfl); (focus (with_reducible exact ElC.h)); (focus rfl); (focus rfl))
     | ((with_reducible apply (fT (f' := Fo.cells) (xs := ms) (ys := [⟨1, x⟩, ⟨1, y⟩]))); (iterate 3 focus rfl); (focus (with_reducible exact ElC.h)); (focus exact Ab); (iterate 3 focus rfl); (focus exact fun _ => rfl); (focus (simp only [List.length_cons, List.length_nil]; omega)); (focus rfl); (focus (simp only [List.length_cons, List.length_nil]; omega)); (focus (simp only [List.length_cons, List.length_nil]; omega)))
     | refine ca Bo hSp ?_
     | refine fX ?_
     | refine AP ?_ | refine two ?_ ?_ | refine AF fun c_ => ?_
     | (refine imp fun hc => ?_) <;> try exact cx1 hc
     | refine all fun v_ => ?_)
    all_goals
     refine ⟨_, VS.take (by exact AD) ?_⟩
     exact leD
 intro bp
 repeat' (first
  | exact True.intro | refine Ps ?_ | refine two ?_ ?_ | refine AF fun c_ => ?_
  | (refine imp fun hc => ?_) <;> try exact cx hc
  | refine all fun v_ => ?_)
 refine ⟨?_⟩
 refine GW (X := Nat) (fun z => [(11, .val (.pointer (some ⟨bt, 0, none⟩))), (12, .val q.v), (13, .int x), (14, .int y), (15, .val (.pointer (some ⟨bp, 0, none⟩))), (16, .bool true), (17, .val (.pointer (some ⟨z, 0, none⟩))), (18, .bool true)]) (fun z => [.cells z 33 [.bool z1.up, .int (nkF t z1.n), .int z1.n, .int z1.s, .int z1.a, .bool dzz9, .bool oz], .cells bp 33 [.bool z1.up, .int (nkF t z1.n), .int z1.n, .int z1.s, .int z1.a, .bool dzz9, .bool oz], AH q.v 59 2 Fo.cells ms, .cells bt 29 [.d (BT t.model.vars), .d (A2 t.model.rules), .d (BU t.props), .d (AO t.formula)]]) ?_ ?_
 · as_aux_lemma =>
    refine Cm [] mixed rfl (by (repeat (with_reducible apply AU)); exact len_nil) (by decide +kernel) (by exact AW) ?_
    repeat' (first
     | exact True.intro
     | ((with_reducible apply fV); (focus (decide +kernel)))
     | ((with_reducible apply Kk); (focus rfl); (focus (decide +kernel)); (focus ((with_reducible apply (fS (f := Fo.cells) (xs := ms))); (iterate 4 focus rfl); (focus (with_reducible exact ElC.h)); (focus exact Ab); (focus rfl))); (focus rfl))
     | ((refine C3 (VS.of_le (Env.le_cons (t := 60) (x := .agg [.int 1, .int (x + y)]) (AV.le_agg ⟨fun _ _ _ h => h, fun _ _ _ h => h, trivial⟩) (Env.le_refl _))) ?_); (with_reducible apply Sx); (focus rfl); (focus rfl); (focus (with_reducible exact ElC.h)); (focus rfl); (focus rfl))
     | ((with_reducible apply (fT (f' := Fo.cells) (xs := ms) (ys := [⟨1, x + y⟩]))); (iterate 3 focus rfl); (focus (with_reducible exact ElC.h)); (focus exact Ab); (iterate 3 focus rfl); (focus exact fun _ => rfl); (focus (simp only [List.length_cons, List.length_nil]; omega)); (focus rfl); (focus (simp only [List.length_cons, List.length_nil]; omega)); (focus (simp only [List.length_cons, List.length_nil]; omega)))
     | refine ca Bo hSq ?_
     | refine fX ?_
     | refine AP ?_ | refine two ?_ ?_ | refine AF fun c_ => ?_
     | (refine imp fun hc => ?_) <;> try exact cx1 hc
     | refine all fun v_ => ?_)
    all_goals
     refine ⟨_, VS.take (by exact AD) ?_⟩
     exact leD
 intro bqz9
 clear hSp hSq hT hM hPa hPb hok
 repeat' (first
  | refine ca Ci (hE) ?_
  | refine ca Bo (hSo) ?_
  | ((refine C3 (VS.of_le (Env.le_cons (t := 74) (x := .agg [.int 1, .int x]) (AV.le_agg ⟨fun _ _ _ h => h, fun _ _ _ h => h, trivial⟩) (Env.le_refl _))) ?_); (with_reducible apply Sx); (focus rfl); (focus rfl); (focus (with_reducible exact ElC.h)); (focus rfl); (focus rfl))
  | ((with_reducible apply jp); (focus ((with_reducible apply (fk fW)); (focus rfl); (focus rfl))); (focus rfl))
  | ((with_reducible apply jqp); (focus ((with_reducible apply (fk fW)); (focus rfl); (focus rfl))); (focus rfl))
  | exact True.intro | refine AP ?_ | refine two ?_ ?_
  | (refine imp fun hc => ?_) <;> try exact cx hc
  | refine all fun v_ => ?_)
 all_goals
  refine AN (VS.drop (List.nil_sublist _)) ?_
  ((with_reducible apply rq1); rfl; rfl)
  first
   | exact AB rfl
   | (refine AB (congrArg AV.bool (decide_eq_true ?_)); first | omega | (dsimp only; omega))
   | exact AB (by simp_all)
end Go.Proofs.YtnlfhnbcdfdhgaaGreatDoor
