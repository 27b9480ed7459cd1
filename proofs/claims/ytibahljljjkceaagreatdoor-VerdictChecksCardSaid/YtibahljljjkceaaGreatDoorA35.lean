/- A bundle of this claim's own texts: N18. -/
import Derived.Test.YtibahljljjkceaaGreatDoorA30
import Derived.Test.YtibahljljjkceaaGreatDoorA31
import Derived.Test.YtibahljljjkceaaGreatDoorA32
import Derived.Test.YtibahljljjkceaaGreatDoorA33
import Derived.Test.YtibahljljjkceaaGreatDoorA34
set_option linter.unusedVariables false
set_option linter.unusedSimpArgs false
set_option maxRecDepth 100000
set_option maxHeartbeats 4000000
namespace Go.Proofs.YtibahljljjkceaaGreatDoor
open Go Go.Av Go.Sp
theorem JU : Cal Tryz.prog 33 := Cal.of Tryz.func33 (by kernel_rfl) (by kernel_rfl)
theorem Yp {p q : Prop} (hp : p) (h : p → q := by
 apply cmp; (focus (first
  | (first
    | ((with_reducible apply KS); (focus exact mixed); (focus rfl); (focus ((repeat ((with_reducible apply Hd.cons); (focus rfl))); exact Hd.nil)); (focus ((repeat (with_reducible apply Ax)); exact len_nil)); (focus (decide +kernel)))
    | ((with_reducible apply Rn); (focus (decide +kernel)); (focus ((repeat (with_reducible apply App.cons)); exact App.nil)))
    | ((with_reducible apply Iu); (focus rfl); (focus (decide +kernel)); (focus exact HD); (focus rfl))
    | ((with_reducible apply YZ); (focus rfl); (focus rfl); (focus rfl); (focus rfl); (focus rfl); (focus (decide +kernel)); (focus exact HD); (focus rfl))
    | ((with_reducible apply Yl); (focus rfl); (focus rfl); (focus rfl); (focus rfl); (focus rfl); (focus (decide +kernel)); (focus rfl))
    | ((with_reducible apply jh_gu); (focus rfl); (focus rfl); (focus rfl); (focus rfl); (focus (decide +kernel)); (focus rfl))
    | ((with_reducible apply PF); (focus rfl); (focus rfl); (focus rfl); (focus rfl); (focus (decide +kernel)))
    | with_reducible apply SD
    | with_reducible apply Rt
    | ((with_reducible apply Wg); (focus (decide +kernel)); (focus (decide +kernel)))
    | with_reducible exact SP
    | ((with_reducible apply Uc); (focus (decide +kernel)))
    | ((with_reducible apply R3); (focus rfl))
    | with_reducible apply Wr
    )
  ))
 exact fun h => h) : q := h hp
theorem QP (G : List (Nat × List D)) (t : Tk) (h : BH t ≠ 0) : ACr Tryz.prog G 33 [tkA t] (.tup [grA (exG t), .int (Ae t).2]) := by
 have hB := X4 G t
 have e1 : Ae t = (none, BH t) := by unfold Ae; rw [if_pos h]
 have e2 : A7 t = ([], BH t) := by unfold A7; rw [if_pos h]
 unfold exG
 rw [e1]
 rw [e2] at hB
 dsimp only at hB ⊢
 generalize BH t = e at h hB ⊢
 refine Ec (rs := [.cell 2 62, .tmp 3]) Tryz.f33.ntmps Tryz.func33 rfl rfl rfl (by simp [Tryz.ntmps33]) fun W I => ?_
 repeat' (first
  | refine ca KP (hB) ?_
  | exact True.intro | refine AD ?_ | refine two ?_ ?_ | refine AB fun c_ => ?_
  | (refine imp fun hc => ?_) <;> try exact cx1 hc
  | refine all fun v_ => ?_)
 exact J9 (xs := [.agg [.val (.slice none 0 0), .int 0, .val (.slice none 0 0), .val (.slice none 0 0), .int 0], .int e]) (ys := [.agg [.d (AO []), .int 0, .d (Cd []), .d (AK []), .int 0], .int e]) vid ⟨Dt rfl (by (with_reducible exact ElC.h)) rfl (by exact Az) rfl, FP rfl, trivial⟩ ⟨AV.le_agg ⟨AV.le_nil 2 16, AV.le_refl _, AV.le_nil 1 24, AV.le_nil 1 8, AV.le_refl _, trivial⟩, AV.le_refl _, trivial⟩ rfl (h' := []) (List.nil_sublist _) (AA rfl)
theorem NS (G : List (Nat × List D)) (t : Tk) (h : BH t = 0) : ACr Tryz.prog G 33 [tkA t] (.tup [grA (exG t), .int (Ae t).2]) := by
 have hB := WJ G t h
 obtain ⟨h1, h2, h3⟩ := Bz h
 have hA := NX G t.formula t.props.length
 have eA : (AZ t.formula t.props.length).2 = 0 := by unfold AZ; rw [if_neg (fun k => k h2)]
 rw [eA] at hA
 have hAl := EH t.formula t.props.length
 have hBl := Jp t
 have e0 : spF t 0 = (A7 t).1 := rfl
 generalize eBB : (A7 t).1 = B at hB hBl e0
 generalize eAA : (AZ t.formula t.props.length).1 = A at hA hAl
 refine Ec (rs := [.cell 2 62, .tmp 3]) Tryz.f33.ntmps Tryz.func33 rfl rfl rfl (by simp [Tryz.ntmps33]) fun W I => ?_
 repeat' (first
  | refine cag KP (hB) ?_
  | refine ca CS (hA) ?_
  | exact True.intro | refine AR ?_ | refine two ?_ ?_
  | (refine imp fun hc => ?_) <;> try exact cx hc
  | refine all fun v_ => ?_)
 obtain ⟨bg, rfl⟩ : ∃ x, x = v_ := ⟨v_, rfl⟩
 obtain ⟨q, rfl⟩ : ∃ x, x = v_ := ⟨v_, rfl⟩
 obtain ⟨br, rfl⟩ : ∃ x, x = v_ := ⟨v_, rfl⟩
 obtain ⟨bt, rfl⟩ : ∃ x, x = v_ := ⟨v_, rfl⟩
 refine C4 (E := 31) (sz := 1) EX ?_
 refine C4 (E := 3) (sz := 1) AW ?_
 refine AG (X := Nat × Sl × Sl × Sl) (fun y => [(1, .val (.pointer (some ⟨bt, 0, none⟩))), (2, .val (.pointer (some ⟨br, 0, none⟩))), (8, .val (.pointer (some ⟨bg, 0, none⟩))), (9, .int y.1)]) (fun y => [.cells bg 62 [.val y.2.1.v, .int B.length, .val y.2.2.1.v, .val y.2.2.2.v, .int A.length], AM y.2.1.v 82 2 Fo.cells (spF t y.1), AM y.2.2.1.v 31 1 EX ((List.range y.1).map (plF t)), AM y.2.2.2.v 3 1 AW ((List.range y.1).map (seF t)), .cells br 62 [.val (.slice none 0 0), .int 0, .val (.slice none 0 0), .val (.slice none 0 0), .int 0], .cells bt 29 [.d (Aq t.model.vars), .d (Ad t.model.rules), .d (Aw t.props), .d (AO t.formula)]]) (fun y => FR t y.1) (fun y => 20001 - y.1) (0, q, Sl.nil, Sl.nil) ⟨h, fun j hj => absurd hj (Nat.not_lt_zero j)⟩ (VS.take (by dsimp only; rw [e0]; exact AI) ?_) ?_
 · exact leD
 clear e0 q
 rintro ⟨i, q, qn, qs⟩ hg
 dsimp only at hg ⊢
 have hfew := hg.few
 have hle := hg.le
 have hln : ((List.range i).map (plF t)).length = i := by simp
 have hls : ((List.range i).map (seF t)).length = i := by simp
 by_cases hil : i < (spF t i).length
 · obtain ⟨e1, e2, e3⟩ := Lz hil
   have hil2 : i < (spF t (i + 1)).length := Nat.lt_of_lt_of_le hil (Nd t (by omega))
   have es : (spF t (i + 1))[i] = (spF t i)[i] := by
    have := OU t (i := i) (j := i + 1) (by omega) (List.getElem?_eq_getElem hil)
    rw [List.getElem?_eq_getElem hil2] at this
    exact Option.some.inj this
   have hful := fun hl => hg.full hil hl
   have hnext := fun hl => hg.next hil hl
   have hL := Ff G t.model t.props (spF t (i + 1))[i].kind
   have hM := aM G t.formula (EU t.model t.props (spF t i)[i].kind).1 (spF t (i + 1))[i].val
   have eL : EU t.model t.props (spF t (i + 1))[i].kind = EU t.model t.props (spF t i)[i].kind := by rw [es]
   have eM : CI t.formula (EU t.model t.props (spF t i)[i].kind).1 (spF t (i + 1))[i].val = CI t.formula (EU t.model t.props (spF t i)[i].kind).1 (spF t i)[i].val := by rw [es]
   rw [eL] at hL
   rw [eM, ← e3] at hM
   have hBh := Wy G t (spF t i)[i].kind (spF t i)[i].val
   have hbl := IX t (spF t i)[i].kind (spF t i)[i].val h3
   clear eL eM
   generalize (EU t.model t.props (spF t i)[i].kind) = lp at hL hM
   generalize hse : seF t i = se at hM e3
   generalize A2 t (spF t i)[i].kind (spF t i)[i].val = bp at hBh hbl e1 e2 hful
   obtain ⟨bs, be⟩ := bp
   dsimp only at hBh hbl e1 e2 hful
   repeat' (first
    | refine ca Nj (hBh) ?_
    | exact True.intro
    | ((with_reducible apply Iu); (focus rfl); (focus (decide +kernel)); (focus ((with_reducible apply Dc); (focus rfl); (focus (with_reducible exact ElC.h)); (focus rfl); (focus exact Az); (focus exact fun _ => rfl); (focus omega))); (focus rfl))
    | refine Yp ?_
    | with_reducible apply Stop.mk
    | refine WK ?_ | refine two ?_ ?_ | refine AB fun c_ => ?_
    | (refine imp fun hc => ?_) <;> try (first | contradiction | (exfalso; omega))
    | refine all fun v_ => ?_)
   refine C4 (E := 3) (sz := 1) AW ?_
   refine AG (X := Nat × Sl × Sl) (fun y => [(1, .val (.pointer (some ⟨bt, 0, none⟩))), (2, .val (.pointer (some ⟨br, 0, none⟩))), (8, .val (.pointer (some ⟨bg, 0, none⟩))), (9, .int i), (10, .d (AO bs)), (12, .val y.2.2.v), (13, .int y.1)]) (fun y => [AM y.2.2.v 3 1 AW (Be (spF t i) (bs.take y.1)).2, .cells bg 62 [.val y.2.1.v, .int B.length, .val qn.v, .val qs.v, .int A.length], AM y.2.1.v 82 2 Fo.cells ((Be (spF t i) (bs.take y.1)).1), AM qn.v 31 1 EX ((List.range i).map (plF t)), AM qs.v 3 1 AW ((List.range i).map (seF t)), .cells br 62 [.val (.slice none 0 0), .int 0, .val (.slice none 0 0), .val (.slice none 0 0), .int 0], .cells bt 29 [.d (Aq t.model.vars), .d (Ad t.model.rules), .d (Aw t.props), .d (AO t.formula)]]) (fun y => y.1 ≤ bs.length) (fun y => bs.length - y.1) (0, q, Sl.nil) (Nat.zero_le _) (VS.take (by exact AI) ?_) ?_
   · exact leD
   clear q
   rintro ⟨k, q, p⟩ hk
   dsimp only at hk ⊢
   have hpl : (Be (spF t i) (bs.take k)).2.length = k := by rw [EV, List.length_take]; omega
   have hkl := Ms (bs.take k) (spF t i)
   rw [List.length_take] at hkl
   by_cases hkb : k < bs.length
   · have hst := J4 bs (spF t i) k hkb
     have hS := ZY G (Be (spF t i) (bs.take k)).1 bs[k] (by omega)
     generalize Be (spF t i) (bs.take k) = R at hst hkl hpl hS ⊢
     by_cases hb : bs[k] ∈ R.1
     · rw [if_pos hb] at hS
       rw [SH hb] at hst
       repeat' (first
        | refine WK ?_ | refine two ?_ ?_
        | (refine imp fun hc => ?_) <;> try (first | contradiction | (exfalso; omega))
        | refine all fun v_ => ?_)
       refine ⟨?_⟩
       refine B7 [AM q.v 82 2 Fo.cells (R.1)] mixed rfl (by (repeat ((with_reducible apply Hd.cons); (focus rfl))); exact Hd.nil) (by (repeat (with_reducible apply Ax)); exact len_nil) (by decide +kernel) (by exact Ap) ?_
       repeat' (first
        | refine YX rfl K9 hS ⟨Ry (E := 82) 16 (by exact Az) rfl (fun _ => rfl) (by omega), Ou _ _, trivial⟩ rfl ?_
        | exact True.intro
        | ((with_reducible apply Iu); (focus rfl); (focus (decide +kernel)); (focus ((with_reducible apply Dc); (focus rfl); (focus (with_reducible exact ElC.h)); (focus rfl); (focus exact Az); (focus exact fun _ => rfl); (focus omega))); (focus rfl))
        | refine Yp ?_
        | with_reducible apply Stop.mk
        | refine WK ?_ | refine two ?_ ?_ | refine AB fun c_ => ?_
        | (refine imp fun hc => ?_) <;> try (first | contradiction | (exfalso; omega))
        | refine all fun v_ => ?_)
       refine ⟨(k + 1, q, v_), by dsimp only; omega, by dsimp only; omega, VS.take (by dsimp only; rw [hst]; exact AI) ?_⟩
       exact leD
     · rw [if_neg hb] at hS
       have hpo := Nt hb
       rw [QB hb] at hst
       repeat' (first
        | refine WK ?_ | refine two ?_ ?_
        | (refine imp fun hc => ?_) <;> try (first | contradiction | (exfalso; omega))
        | refine all fun v_ => ?_)
       refine ⟨?_⟩
       refine B7 [AM q.v 82 2 Fo.cells (R.1)] mixed rfl (by (repeat ((with_reducible apply Hd.cons); (focus rfl))); exact Hd.nil) (by (repeat (with_reducible apply Ax)); exact len_nil) (by decide +kernel) (by exact Ap) ?_
       repeat' (first
        | refine YX rfl K9 hS ⟨Ry (E := 82) 16 (by exact Az) rfl (fun _ => rfl) (by omega), Ou _ _, trivial⟩ rfl ?_
        | exact True.intro
        | ((with_reducible apply Iu); (focus rfl); (focus (decide +kernel)); (focus ((with_reducible apply Dc); (focus rfl); (focus (with_reducible exact ElC.h)); (focus rfl); (focus exact Az); (focus exact fun _ => rfl); (focus omega))); (focus rfl))
        | refine Yp ?_
        | refine WK ?_ | refine two ?_ ?_ | refine AB fun c_ => ?_
        | (refine imp fun hc => ?_) <;> try (first | contradiction | (exfalso; omega))
        | refine all fun v_ => ?_)
       refine ⟨?_⟩
       refine B7 [AM q.v 82 2 Fo.cells (R.1)] mixed rfl (by (repeat ((with_reducible apply Hd.cons); (focus rfl))); exact Hd.nil) (by (repeat (with_reducible apply Ax)); exact len_nil) (by decide +kernel) (by exact Ap) ?_
       repeat' (first
        | ((with_reducible apply (Ea (f := Fo.cells) (u := bs[k]))); (focus rfl); (focus rfl); (focus (with_reducible exact ElC.h)); (focus exact Db); (focus rfl); (focus rfl); (focus rfl); (focus rfl); (focus exact BI); (focus exact BI))
        | exact True.intro | refine AD ?_ | refine two ?_ ?_ | refine AB fun c_ => ?_
        | (refine imp fun hc => ?_) <;> try exact cx1 hc
        | refine all fun v_ => ?_)
       obtain ⟨p2, rfl⟩ : ∃ x, x = v_ := ⟨v_, rfl⟩
       refine ⟨(k + 1, v_, p2), by dsimp only; omega, by dsimp only; omega, VS.take (by dsimp only; rw [hst, hpo]; exact AI) ?_⟩
       exact leD
   obtain rfl : k = bs.length := by omega
   rw [List.take_length] at hkl hpl ⊢
   rw [← e1] at hkl hful
   rw [← e1, ← e2]
   rw [← e2] at hpl
   refine Ho (Bf (t := 12) (eb := 8) rfl rfl (fun x => rfl) (by omega)) ?_
   by_cases hl : 20000 < (spF t (i + 1)).length
   · have hx := hful hl
     repeat' (first
      | exact True.intro | refine AR ?_ | refine two ?_ ?_
      | (refine imp fun hc => ?_) <;> try exact cx hc
      | refine all fun v_ => ?_)
     unfold exG
     rw [hx]
     exact J9 (xs := [.agg [.val (.slice none 0 0), .int 0, .val (.slice none 0 0), .val (.slice none 0 0), .int 0], .int 12]) (ys := [.agg [.d (AO []), .int 0, .d (Cd []), .d (AK []), .int 0], .int 12]) vid ⟨Dt rfl (by (with_reducible exact ElC.h)) rfl (by exact Az) rfl, FP rfl, trivial⟩ ⟨AV.le_agg ⟨AV.le_nil 2 16, AV.le_refl _, AV.le_nil 1 24, AV.le_nil 1 8, AV.le_refl _, trivial⟩, AV.le_refl _, trivial⟩ rfl (h' := []) (List.nil_sublist _) (AA rfl)
   repeat' (first
    | refine ca Cr (hL) ?_
    | refine ca TT (hM) ?_
    | ((with_reducible apply (Ea (f := EX) (u := plF t i))); (focus rfl); (focus rfl); (focus (with_reducible exact ElC.h)); (focus exact Db); (focus rfl); (focus rfl); (focus rfl); (focus rfl); (focus exact BI); (focus exact BI))
    | exact True.intro | refine AD ?_ | refine two ?_ ?_ | refine AB fun c_ => ?_
    | (refine imp fun hc => ?_) <;> try exact cx1 hc
    | refine all fun v_ => ?_)
   obtain ⟨qs2, rfl⟩ : ∃ x, x = v_ := ⟨v_, rfl⟩
   obtain ⟨qn2, rfl⟩ : ∃ x, x = v_ := ⟨v_, rfl⟩
   have ep : (List.range (i + 1)).map (plF t) = (List.range i).map (plF t) ++ [plF t i] := by rw [List.range_succ, List.map_append]; rfl
   have es : (List.range (i + 1)).map (seF t) = (List.range i).map (seF t) ++ [se] := by rw [List.range_succ, List.map_append, ← hse]; rfl
   refine ⟨(i + 1, q, qn2, qs2), hnext (by omega), by dsimp only; omega, VS.take (by dsimp only; rw [ep, es]; exact AI) ?_⟩
   exact leD
 have hx := hg.all (by omega)
 have hi2 : i ≤ 20000 := by omega
 repeat' (first
  | exact True.intro | refine AR ?_ | refine two ?_ ?_
  | (refine imp fun hc => ?_) <;> try exact cx hc
  | refine all fun v_ => ?_)
 have eG : exG t = ⟨spF t i, B.length, (List.range i).map (plF t), (List.range i).map (seF t), A.length⟩ := by
  unfold exG; rw [hx]; dsimp only; rw [eBB, eAA]
 rw [eG, hx]
 generalize (List.range i).map (plF t) = nx at hln ⊢
 generalize (List.range i).map (seF t) = st at hls ⊢
 generalize spF t i = sp at hfew ⊢
 refine Tl (VS.trans (VS.take (hc := [AM q.v 82 2 Fo.cells sp, AM qn.v 31 1 EX nx, AM qs.v 3 1 AW st, .cells br 62 [.val q.v, .int B.length, .val qn.v, .val qs.v, .int A.length]]) (by exact AI) (Env.le_refl _))
  (VS.trans (Gj (h1 := []) (h' := [AM qn.v 31 1 EX nx, AM qs.v 3 1 AW st, .cells br 62 [.d (AO sp), .int B.length, .val qn.v, .val qs.v, .int A.length]]) 16 rfl rfl (fun _ => rfl) (by omega) (CvE.refl _ _ _) ?_)
  (VS.trans (Gj (h1 := []) (h' := [AM qs.v 3 1 AW st, .cells br 62 [.d (AO sp), .int B.length, .d (Cd nx), .val qs.v, .int A.length]]) 24 rfl rfl (fun _ => rfl) (by omega) (CvE.refl _ _ _) ?_)
  (Gj (h1 := []) (h' := [.cells br 62 [.d (AO sp), .int B.length, .d (Cd nx), .d (AK st), .int A.length]]) 8 rfl rfl (fun _ => rfl) (by omega) (CvE.refl _ _ _) ?_)))) (xs := [.agg [.d (AO sp), .int B.length, .d (Cd nx), .d (AK st), .int A.length], .int 0]) ⟨Dt rfl (by (with_reducible exact ElC.h)) rfl (by exact Az) rfl, FP rfl, trivial⟩ rfl (h' := []) (List.nil_sublist _) (AA rfl)
 · exact .keep (.keep (.cells (.cons .here (.cons (.same _) (.cons (.same _) (.cons (.same _) (.cons (.same _) .nil))))) (.refl _)))
 · exact .keep (.cells (.cons (.same _) (.cons (.same _) (.cons .here (.cons (.same _) (.cons (.same _) .nil))))) (.refl _))
 · exact .cells (.cons (.same _) (.cons (.same _) (.cons (.same _) (.cons .here (.cons (.same _) .nil))))) (.refl _)
theorem UL (G : List (Nat × List D)) (t : Tk) : ACr Tryz.prog G 33 [tkA t] (.tup [grA (exG t), .int (Ae t).2]) := by
 by_cases h : BH t = 0
 · exact NS G t h
 · exact QP G t h
end Go.Proofs.YtibahljljjkceaaGreatDoor
