/- A bundle of this claim's own texts: P21. -/
import Derived.Test.YtnlfhnbcdfdhgaaGreatDoorD3
import Derived.Test.YtnlfhnbcdfdhgaaGreatDoorF43
set_option linter.unusedVariables false
set_option linter.unusedSimpArgs false
set_option maxRecDepth 100000
set_option maxHeartbeats 4000000
namespace Go.Sp
open Go Go.Av
def crF (l : List Int) : List Fo := l.flatMap fun c => [⟨1, pk c 15⟩, ⟨3, 0⟩, ⟨4, 0⟩]
def wsF (l : List Int) : Nat := (l.map fun c => (pk c 15).toNat).sum
theorem gC (l : List Int) (c : Int) : crF (l ++ [c]) = crF l ++ [⟨1, pk c 15⟩, ⟨3, 0⟩, ⟨4, 0⟩] := by unfold crF; simp
theorem gD (l : List Int) (c : Int) : wsF (l ++ [c]) = wsF l + (pk c 15).toNat := by unfold wsF; simp
theorem fz (l : List Int) : (crF l).length = l.length * 3 := by
 unfold crF
 induction l with
 | nil => rfl
 | cons c l ih => simp at ih ⊢; omega
theorem gO (l : List Int) : ∀ m ∈ crF l, okM m := fun m h => by
 unfold crF at h
 obtain ⟨c, _, h⟩ := List.mem_flatMap.1 h
 have hb := BE c (many := 15) (by decide)
 simp only [List.mem_cons, List.not_mem_nil, or_false] at h
 rcases h with rfl | rfl | rfl
 · unfold okM; dsimp only; omega
 · unfold okM; decide
 · unfold okM; decide
theorem fq (l : List Int) : wsF l ≤ l.length * 15 := by
 induction l with
 | nil => exact Nat.zero_le _
 | cons c l ih =>
   have hb := BE c (many := 15) (by decide)
   unfold wsF at ih ⊢
   simp only [List.map_cons, List.sum_cons, List.length_cons]; omega
section
variable {t : Tk} {e : Exp}
theorem fy (g : Grown t e) {x : Ms} (h : MsI t e x) (hu : x.up = true) (hn : x.n = 0) (hs : x.s = 0) (k : Int) :
 (mvF t (mvF t (mvF t x ⟨1, k⟩) ⟨3, 0⟩) ⟨4, 0⟩).up = true ∧ (mvF t (mvF t (mvF t x ⟨1, k⟩) ⟨3, 0⟩) ⟨4, 0⟩).n = 0 ∧ (mvF t (mvF t (mvF t x ⟨1, k⟩) ⟨3, 0⟩) ⟨4, 0⟩).s = 0 ∧
 (mvF t (mvF t (mvF t x ⟨1, k⟩) ⟨3, 0⟩) ⟨4, 0⟩).a + (mvF t (mvF t (mvF t x ⟨1, k⟩) ⟨3, 0⟩) ⟨4, 0⟩).m ≤ x.a + x.m + k.toNat := by
 obtain ⟨a1, a2, a3, a4⟩ := HE g k.toNat h
 have m1 := bZ t k.toNat x h.n
 have hz : (wkF t k.toNat x).up = true := by rw [a1]; exact hu
 have e2 : mvF t (mvF t x ⟨1, k⟩) ⟨3, 0⟩ = ⟨false, 0, 0, (wkF t k.toNat x).m, (wkF t k.toNat x).a⟩ := by
  rw [Hh hu, Ij hz, a2, hs, show kpF t (byF t 0 + (0 : Int).toNat) (wkF t k.toNat x).n = 0 from Ta t (Nat.zero_le _)]
 rw [e2, HG]
 refine ⟨rfl, rfl, rfl, ?_⟩
 dsimp only
 omega
theorem fu (g : Grown t e) : ∀ (l : List Int) (x : Ms), DL t e x → x.up = true → x.n = 0 → x.s = 0 →
 ((crF l).foldl (mvF t) x).up = true ∧ ((crF l).foldl (mvF t) x).n = 0 ∧ ((crF l).foldl (mvF t) x).s = 0 ∧ ((crF l).foldl (mvF t) x).a + ((crF l).foldl (mvF t) x).m ≤ x.a + x.m + wsF l
 | [], x, _, hu, hn, hs => ⟨hu, hn, hs, Nat.le_refl _⟩
 | c :: l, x, h, hu, hn, hs => by
   obtain ⟨q1, q2, q3, q4⟩ := fy g h.ms hu hn hs (pk c 15)
   have r := ((h.mv g ⟨1, pk c 15⟩).mv g ⟨3, 0⟩).mv g ⟨4, 0⟩
   obtain ⟨i1, i2, i3, i4⟩ := fu g l _ r q1 q2 q3
   have e : crF (c :: l) = ⟨1, pk c 15⟩ :: ⟨3, 0⟩ :: ⟨4, 0⟩ :: crF l := by unfold crF; simp
   have ew : wsF (c :: l) = (pk c 15).toNat + wsF l := by unfold wsF; simp
   rw [e, ew]
   exact ⟨i1, i2, i3, by simp only [List.foldl_cons] at i4 ⊢; omega⟩
theorem fw (g : Grown t e) (l : List Int) : (runM t (crF l)).up = true ∧ (runM t (crF l)).n = 0 ∧ (runM t (crF l)).s = 0 ∧ (runM t (crF l)).a + (runM t (crF l)).m ≤ wsF l := by
 obtain ⟨h1, h2, h3, h4⟩ := fu g l B7 DL.nil rfl rfl rfl
 have : B7.a + B7.m = 0 := rfl
 exact ⟨h1, h2, h3, by unfold runM; omega⟩
theorem gF (g : Grown t e) (l : List Int) : (runM t (crF l ++ [⟨1, (e.spots.length : Nat)⟩])).up = true ∧ (runM t (crF l ++ [⟨1, (e.spots.length : Nat)⟩])).n = e.spots.length ∧ (runM t (crF l ++ [⟨1, (e.spots.length : Nat)⟩])).a ≤ wsF l := by
 obtain ⟨h1, h2, h3, h4⟩ := fw g l
 rw [Wr, Hh h1]
 obtain ⟨a1, a2, a3, a4⟩ := HE g ((e.spots.length : Nat) : Int).toNat (g.runI (crF l)).ms
 have := (g.runI (crF l)).ms.n
 refine ⟨by rw [a1]; exact h1, by rw [a3, h2]; omega, by omega⟩
theorem gB (g : Grown t e) (l : List Int) {k : Int} (hk : k = max ((e.spots.length : Nat) - 1 : Int) 0) : (runM t (crF l ++ [⟨1, k⟩])).up = true ∧ decide ((runM t (crF l ++ [⟨1, k⟩])).n = nkF t (runM t (crF l ++ [⟨1, k⟩])).n) = decide (((e.spots.length : Nat) : Int) = 0) := by
 obtain ⟨h1, h2, h3, h4⟩ := fw g l
 rw [Wr, Hh h1]
 obtain ⟨a1, a2, a3, a4⟩ := HE g k.toNat (g.runI (crF l)).ms
 refine ⟨by rw [a1]; exact h1, ?_⟩
 generalize wkF t k.toNat (runM t (crF l)) = y at a3
 rw [h2] at a3
 by_cases h0 : e.spots.length = 0
 · have hy : y.n = e.spots.length := by omega
   rw [decide_eq_true (by rw [hy, g.nk_end]), decide_eq_true (by omega)]
 · have hy : y.n < e.spots.length := by omega
   have := g.nk_at hy
   rw [decide_eq_false (by omega), decide_eq_false (by omega)]
end
end Go.Sp
namespace Go.Proofs.YtnlfhnbcdfdhgaaGreatDoor
open Go Go.Av Go.Sp
theorem fx {g : Nat} {xs : List D} (h : Bf Tryz.prog (g + 2) 49 xs) : ∃ l : List Int, xs = [AK l] ∧ ∀ c ∈ l, AX c := by
 obtain ⟨l, rfl, _⟩ := Fg (sz := 1) (eb := 8) Tryz.underlying49 (by kernel_rfl) (by kernel_rfl) (f := fun o : {n : Int // AX n} => Aa o.1) (fun _ h => by
  obtain ⟨n, rfl, hn⟩ := C7 h
  exact ⟨⟨n, hn⟩, rfl⟩) h
 refine ⟨l.map Subtype.val, by show _ = [D.l 1 8 ((l.map Subtype.val).map Aa)]; rw [List.map_map]; rfl, fun c hc => ?_⟩
 obtain ⟨x, _, rfl⟩ := List.mem_map.1 hc
 exact x.2
theorem fa (d : De) (hd : TY d) (raw : List Fo) (hr : BH raw) (l : List Int) (hl : ∀ c ∈ l, AX c) : ACr Tryz.prog GP 12 [deA d, .d (AO raw), .d (AK l)] (.bool true) := by
 have hT := Td GP d hd raw hr 2 (by decide)
 have hf := FoG.of raw (t := 2) (by decide)
 obtain ⟨e, he⟩ := Ho d hf
 have hE := GK (DP d (Bi raw 2))
 rw [ON he, he] at hE
 dsimp only at hE
 have g := HO he
 have ei : (A3 (DP d (Bi raw 2))).1.length = nkF (DP d (Bi raw 2)) 0 := rfl
 rw [ei] at hE
 generalize (Ai (DP d (Bi raw 2)).formula (DP d (Bi raw 2)).props.length).1.length = am at hE
 generalize DP d (Bi raw 2) = t at hT he hE g
 clear ei hf
 have hN := g.few
 refine AJ (ts := [6]) Tryz.f12.ntmps Tryz.func12 rfl rfl rfl (by simp [Tryz.ntmps12]) fun W I => ?_
 repeat' (first
  | refine ca Hv (hT) ?_
  | refine ca Ci (hE) ?_
  | exact True.intro | refine AP ?_ | refine two ?_ ?_
  | (refine imp fun hc => ?_) <;> try exact cx hc
  | refine all fun v_ => ?_)
 obtain ⟨bg, rfl⟩ : ∃ x, x = v_ := ⟨v_, rfl⟩
 obtain ⟨bt, rfl⟩ : ∃ x, x = v_ := ⟨v_, rfl⟩
 refine F6 (E := 59) (sz := 2) Fo.cells ?_
 repeat' (first
  | refine ca Hv (hT) ?_
  | refine ca Ci (hE) ?_
  | exact True.intro | refine AP ?_ | refine two ?_ ?_
  | (refine imp fun hc => ?_) <;> try exact cx hc
  | refine all fun v_ => ?_)
 refine gN (X := {y : Nat × Sl // y.1 ≤ 8}) (fun y => [(7, .val (.pointer (some ⟨bt, 0, none⟩))), (9, .int 0), (10, .int e.spots.length), (11, .val y.1.2.v), (12, .int (wsF (l.take y.1.1) : Nat))]) (fun y => [AH y.1.2.v 59 2 Fo.cells (crF (l.take y.1.1)), .cells bt 29 [.d (BT t.model.vars), .d (A2 t.model.rules), .d (BU t.props), .d (AO t.formula)]]) ?_ ?_
 · refine AM (X := Nat × Sl) (fun y => [(2, .d (AK l)), (7, .val (.pointer (some ⟨bt, 0, none⟩))), (9, .int 0), (10, .int e.spots.length), (11, .val y.2.v), (12, .int (wsF (l.take y.1) : Nat)), (13, .int y.1)]) (fun y => [AH y.2.v 59 2 Fo.cells (crF (l.take y.1)), .cells bt 29 [.d (BT t.model.vars), .d (A2 t.model.rules), .d (BU t.props), .d (AO t.formula)]]) (fun y => y.1 ≤ l.length ∧ y.1 ≤ 8) (fun y => l.length - y.1) (0, Sl.nil) ⟨Nat.zero_le _, Nat.zero_le _⟩ (VS.take (by exact AD) ?_) ?_
   · exact leD
   rintro ⟨i, q⟩ ⟨h1, h2⟩
   dsimp only at h1 h2 ⊢
   have hcl := fz (l.take i)
   have htl : (l.take i).length = i := by rw [List.length_take]; omega
   have hwb := fq (l.take i)
   by_cases hi8 : i < l.length ∧ i < 8
   · obtain ⟨hil, hi8⟩ := hi8
     have et : l.take (i + 1) = l.take i ++ [l[i]] := List.take_succ_eq_append_getElem hil
     have hP := TK GP l[i] 15 (by decide) (hl _ (List.getElem_mem hil))
     have hpb := BE l[i] (many := 15) (by decide)
     have ew : ((wsF (l.take (i + 1)) : Nat) : Int) = (wsF (l.take i) : Int) + pk l[i] 15 := by rw [et, gD]; omega
     have ec : crF (l.take (i + 1)) = crF (l.take i) ++ [⟨1, pk l[i] 15⟩, ⟨3, 0⟩, ⟨4, 0⟩] := by rw [et, gC]
     generalize pk l[i] 15 = kp at hP hpb ew ec
     repeat' (first
      | refine ca CS (hP) ?_
      | ((refine C3 (VS.of_le (Env.le_cons (t := 47) (x := .agg [.int 1, .int kp]) (AV.le_agg ⟨fun _ _ _ h => h, fun _ _ _ h => h, trivial⟩) (Env.le_cons (t := 48) (x := .agg [.int 3, .int 0]) (AV.le_agg ⟨fun _ _ _ h => h, fun _ _ _ h => h, trivial⟩) (Env.le_cons (t := 49) (x := .agg [.int 4, .int 0]) (AV.le_agg ⟨fun _ _ _ h => h, fun _ _ _ h => h, trivial⟩) (Env.le_refl _))))) ?_); (with_reducible apply fe); (iterate 4 focus rfl); (focus (with_reducible exact ElC.h)); (focus rfl); (focus rfl))
      | ((with_reducible apply (fI (f := Fo.cells) (ys := [⟨1, kp⟩, ⟨3, 0⟩, ⟨4, 0⟩]))); (focus rfl); (focus rfl); (focus (with_reducible exact ElC.h)); (focus exact BS); (iterate 4 focus rfl); (focus (simp only [List.length_cons, List.length_nil]; omega)); (focus (simp only [List.length_cons, List.length_nil]; omega)))
      | exact True.intro | refine AP ?_ | refine two ?_ ?_
      | (refine imp fun hc => ?_) <;> try exact cx hc
      | refine all fun v_ => ?_)
     refine ⟨(i + 1, v_), ⟨hil, hi8⟩, by dsimp only; omega, VS.take (by dsimp only; rw [ec]; exact AD) ?_⟩
     dsimp only
     rw [ew]
     exact leD
   repeat' (first
    | exact True.intro | refine AP ?_ | refine two ?_ ?_
    | (refine imp fun hc => ?_) <;> try exact cx hc
    | refine all fun v_ => ?_)
   all_goals
    refine ⟨⟨(i, q), h2⟩, VS.take (by exact AD) ?_⟩
    exact leD
 rintro ⟨⟨i, q⟩, h2⟩
 dsimp only at h2 ⊢
 have hcl := fz (l.take i)
 have htl : (l.take i).length ≤ 8 := by rw [List.length_take]; omega
 have hwb := fq (l.take i)
 generalize hL : l.take i = lt at hcl htl hwb ⊢
 have hok := gO lt
 obtain ⟨ua, na, aaz9⟩ := gF g lt
 obtain ⟨ub, dbz9⟩ := gB g lt (k := max ((e.spots.length : Nat) - 1 : Int) 0) rfl
 have hSa := Hk t e he (crF lt ++ [⟨1, (e.spots.length : Nat)⟩]) (Kf (fU hok fun x h => by rw [List.mem_singleton.1 h]; unfold okM; dsimp only; omega) (by simp; omega))
 have hSb := Hk t e he (crF lt ++ [⟨1, max ((e.spots.length : Nat) - 1 : Int) 0⟩]) (Kf (fU hok fun x h => by rw [List.mem_singleton.1 h]; unfold okM; dsimp only; omega) (by simp; omega))
 unfold ML at hSa hSb
 generalize runM t (crF lt ++ [⟨1, (e.spots.length : Nat)⟩]) = za at hSa ua na aaz9
 generalize runM t (crF lt ++ [⟨1, max ((e.spots.length : Nat) - 1 : Int) 0⟩]) = zb at hSb ub dbz9
 have hda : decide (za.n = nkF t za.n) = true := decide_eq_true (by rw [na, g.nk_end])
 rw [ua, hda] at hSa
 rw [ub, dbz9] at hSb
 simp only [Bool.true_and] at hSa hSb
 generalize decide ((C5 (exG t)).2 ≠ 0) = oa at hSa hSb
 generalize (decide (((e.spots.length : Nat) : Int) = 0) && oa) = ob at hSb
 generalize hms : crF lt = ms at hSa hSb hcl hok
 repeat' (first
  | ((with_reducible apply Kk); (focus rfl); (focus (decide +kernel)); (focus ((with_reducible apply (fS (f := Fo.cells) (xs := ms))); (iterate 4 focus rfl); (focus (with_reducible exact ElC.h)); (focus exact Ab); (focus rfl))); (focus rfl))
  | ((refine C3 (VS.of_le (Env.le_cons (t := 64) (x := .agg [.int 1, .int (e.spots.length : Nat)]) (AV.le_agg ⟨fun _ _ _ h => h, fun _ _ _ h => h, trivial⟩) (Env.le_refl _))) ?_); (with_reducible apply Sx); (focus rfl); (focus rfl); (focus (with_reducible exact ElC.h)); (focus rfl); (focus rfl))
  | ((with_reducible apply (fT (f' := Fo.cells) (xs := ms) (ys := [⟨1, (e.spots.length : Nat)⟩]))); (iterate 3 focus rfl); (focus (with_reducible exact ElC.h)); (focus exact Ab); (iterate 3 focus rfl); (focus exact fun _ => rfl); (focus (simp only [List.length_cons, List.length_nil]; omega)); (focus rfl); (focus (simp only [List.length_cons, List.length_nil]; omega)); (focus (simp only [List.length_cons, List.length_nil]; omega)))
  | refine ca Bo hSa ?_
  | exact True.intro | refine Ps ?_ | refine two ?_ ?_ | refine AF fun c_ => ?_
  | (refine imp fun hc => ?_) <;> try exact cx hc
  | refine all fun v_ => ?_)
 refine ⟨?_⟩
 refine GW (X := Nat) (fun z => [(7, .val (.pointer (some ⟨bt, 0, none⟩))), (9, .int 0), (10, .int e.spots.length), (11, .val q.v), (12, .int (wsF lt : Nat)), (15, .val (.pointer (some ⟨z, 0, none⟩))), (16, .bool true)]) (fun z => [.cells z 33 [.bool true, .int (nkF t za.n), .int za.n, .int za.s, .int za.a, .bool true, .bool oa], AH q.v 59 2 Fo.cells ms, .cells bt 29 [.d (BT t.model.vars), .d (A2 t.model.rules), .d (BU t.props), .d (AO t.formula)]]) ?_ ?_
 · as_aux_lemma =>
    refine Cm [] mixed rfl (by (repeat (with_reducible apply AU)); exact len_nil) (by decide +kernel) (by exact AW) ?_
    repeat' (first
     | exact True.intro
     | ((with_reducible apply fV); (focus (decide +kernel)))
     | ((with_reducible apply Kk); (focus rfl); (focus (decide +kernel)); (focus ((with_reducible apply (fS (f := Fo.cells) (xs := ms))); (iterate 4 focus rfl); (focus (with_reducible exact ElC.h)); (focus exact Ab); (focus rfl))); (focus rfl))
     | ((refine C3 (VS.of_le (Env.le_cons (t := 64) (x := .agg [.int 1, .int (e.spots.length : Nat)]) (AV.le_agg ⟨fun _ _ _ h => h, fun _ _ _ h => h, trivial⟩) (Env.le_refl _))) ?_); (with_reducible apply Sx); (focus rfl); (focus rfl); (focus (with_reducible exact ElC.h)); (focus rfl); (focus rfl))
     | ((with_reducible apply (fT (f' := Fo.cells) (xs := ms) (ys := [⟨1, (e.spots.length : Nat)⟩]))); (iterate 3 focus rfl); (focus (with_reducible exact ElC.h)); (focus exact Ab); (iterate 3 focus rfl); (focus exact fun _ => rfl); (focus (simp only [List.length_cons, List.length_nil]; omega)); (focus rfl); (focus (simp only [List.length_cons, List.length_nil]; omega)); (focus (simp only [List.length_cons, List.length_nil]; omega)))
     | refine ca Bo hSa ?_
     | refine fX ?_
     | refine AP ?_ | refine two ?_ ?_ | refine AF fun c_ => ?_
     | (refine imp fun hc => ?_) <;> try exact cx1 hc
     | refine all fun v_ => ?_)
    all_goals
     refine ⟨_, VS.take (by exact AD) ?_⟩
     exact leD
 intro ba
 repeat' (first
  | ((with_reducible apply Kk); (focus rfl); (focus (decide +kernel)); (focus ((with_reducible apply (fS (f := Fo.cells) (xs := ms))); (iterate 4 focus rfl); (focus (with_reducible exact ElC.h)); (focus exact Ab); (focus rfl))); (focus rfl))
  | ((refine C3 (VS.of_le (Env.le_cons (t := 81) (x := .agg [.int 1, .int (max ((e.spots.length : Nat) - 1 : Int) 0)]) (AV.le_agg ⟨fun _ _ _ h => h, fun _ _ _ h => h, trivial⟩) (Env.le_refl _))) ?_); (with_reducible apply Sx); (focus rfl); (focus rfl); (focus (with_reducible exact ElC.h)); (focus rfl); (focus rfl))
  | ((with_reducible apply (fT (f' := Fo.cells) (xs := ms) (ys := [⟨1, max ((e.spots.length : Nat) - 1 : Int) 0⟩]))); (iterate 3 focus rfl); (focus (with_reducible exact ElC.h)); (focus exact Ab); (iterate 3 focus rfl); (focus exact fun _ => rfl); (focus (simp only [List.length_cons, List.length_nil]; omega)); (focus rfl); (focus (simp only [List.length_cons, List.length_nil]; omega)); (focus (simp only [List.length_cons, List.length_nil]; omega)))
  | refine ca Bo hSb ?_
  | exact True.intro | refine Ps ?_ | refine two ?_ ?_ | refine AF fun c_ => ?_
  | (refine imp fun hc => ?_) <;> try exact cx hc
  | refine all fun v_ => ?_)
 refine ⟨?_⟩
 refine GW (X := Nat) (fun z => [(9, .int 0), (10, .int e.spots.length), (12, .int (wsF lt : Nat)), (15, .val (.pointer (some ⟨ba, 0, none⟩))), (16, .bool true), (17, .val (.pointer (some ⟨z, 0, none⟩))), (18, .bool true)]) (fun z => [.cells z 33 [.bool true, .int (nkF t zb.n), .int zb.n, .int zb.s, .int zb.a, .bool (decide (((e.spots.length : Nat) : Int) = 0)), .bool ob], .cells ba 33 [.bool true, .int (nkF t za.n), .int za.n, .int za.s, .int za.a, .bool true, .bool oa]]) ?_ ?_
 · as_aux_lemma =>
    refine Cm [] mixed rfl (by (repeat (with_reducible apply AU)); exact len_nil) (by decide +kernel) (by exact AW) ?_
    repeat' (first
     | exact True.intro
     | ((with_reducible apply fV); (focus (decide +kernel)))
     | ((with_reducible apply Kk); (focus rfl); (focus (decide +kernel)); (focus ((with_reducible apply (fS (f := Fo.cells) (xs := ms))); (iterate 4 focus rfl); (focus (with_reducible exact ElC.h)); (focus exact Ab); (focus rfl))); (focus rfl))
     | ((refine C3 (VS.of_le (Env.le_cons (t := 81) (x := .agg [.int 1, .int (max ((e.spots.length : Nat) - 1 : Int) 0)]) (AV.le_agg ⟨fun _ _ _ h => h, fun _ _ _ h => h, trivial⟩) (Env.le_refl _))) ?_); (with_reducible apply Sx); (focus rfl); (focus rfl); (focus (with_reducible exact ElC.h)); (focus rfl); (focus rfl))
     | ((with_reducible apply (fT (f' := Fo.cells) (xs := ms) (ys := [⟨1, max ((e.spots.length : Nat) - 1 : Int) 0⟩]))); (iterate 3 focus rfl); (focus (with_reducible exact ElC.h)); (focus exact Ab); (iterate 3 focus rfl); (focus exact fun _ => rfl); (focus (simp only [List.length_cons, List.length_nil]; omega)); (focus rfl); (focus (simp only [List.length_cons, List.length_nil]; omega)); (focus (simp only [List.length_cons, List.length_nil]; omega)))
     | refine ca Bo hSb ?_
     | refine fX ?_
     | refine AP ?_ | refine two ?_ ?_ | refine AF fun c_ => ?_
     | (refine imp fun hc => ?_) <;> try exact cx1 hc
     | refine all fun v_ => ?_)
    all_goals
     refine ⟨_, VS.take (by exact AD) ?_⟩
     exact leD
 intro bb
 clear hSa hSb hT hE hok
 repeat' (first
  | exact True.intro
  | refine stp ?_
  | refine two ?_ ?_
  | (refine imp fun hc => ?_) <;> try exact cx hc
  | refine all fun v_ => ?_)
 all_goals
  refine AN (VS.drop (List.nil_sublist _)) ?_
  ((with_reducible apply rq1); rfl; rfl)
  first
   | exact AB rfl
   | exact AB (congrArg AV.bool (beq_self_eq_true _))
   | (refine AB (congrArg AV.bool (decide_eq_true ?_)); first | omega | (dsimp only; omega))
   | exact AB (by simp_all)
end Go.Proofs.YtnlfhnbcdfdhgaaGreatDoor
