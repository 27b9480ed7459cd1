/- Own texts. -/
import Derived.Test.YtnlfhnbcdfdhgaaGreatDoorA30
import Derived.Test.YtnlfhnbcdfdhgaaGreatDoorA31
import Derived.Test.YtnlfhnbcdfdhgaaGreatDoorA32
set_option linter.unusedVariables false
set_option linter.unusedSimpArgs false
set_option maxRecDepth 100000
set_option maxHeartbeats 4000000
namespace Go.Proofs.YtnlfhnbcdfdhgaaGreatDoor
open Go Go.Av Go.Sp
theorem Iz : Cal Tryz.prog 20 := Cal.of Tryz.func20 (by kernel_rfl) (by kernel_rfl)
theorem T5 (t : Tk) (h : BE t ≠ 0) : ACr Tryz.prog GP 20 [tkA t] (.tup [grA (exG t), .int (An t).2]) := by
 have hB := YK t
 have e1 : An t = (none, BE t) := by unfold An; rw [if_pos h]
 have e2 : BB t = ([], BE t) := by unfold BB; rw [if_pos h]
 unfold exG
 rw [e1]
 rw [e2] at hB
 dsimp only at hB ⊢
 generalize BE t = e at h hB ⊢
 refine BV (rs := [.cell 2 51, .tmp 3]) Tryz.f20.ntmps Tryz.func20 rfl rfl rfl (by simp [Tryz.ntmps20]) fun W I => ?_
 repeat' (first | refine ca LB (hB) ?_ | exact jA | refine AF ?_ | refine two ?_ ?_ | refine AB fun c_ => ?_ | refine imp fun hc => ?_; try exact cx1 hc | refine all fun v_ => ?_)
 exact D1 (xs := [.agg [.val (.slice none 0 0), .int 0, .val (.slice none 0 0), .val (.slice none 0 0), .int 0], .int e]) (ys := [.agg [.d (AO []), .int 0, .d (AX []), .d (AJ []), .int 0], .int e]) vid ⟨Ax rfl (by (with_reducible exact ElC.h)) rfl AW rfl, A4 rfl, trivial⟩ ⟨AV.le_agg ⟨AV.le_nil 2 16, AV.le_refl _, AV.le_nil 1 24, AV.le_nil 1 8, AV.le_refl _, trivial⟩, AV.le_refl _, trivial⟩ rfl (h' := []) (jc _) (AA rfl)
theorem SW (t : Tk) (h : BE t = 0) : ACr Tryz.prog GP 20 [tkA t] (.tup [grA (exG t), .int (An t).2]) := by
 have hB := YK t
 have eB : (BB t).2 = 0 := by unfold BB; rw [if_neg (fun k => k h)]
 rw [eB] at hB
 obtain ⟨h1, h2, h3⟩ := Cg h
 have hA := aO t.formula t.props.length
 have eA : (Ac t.formula t.props.length).2 = 0 := by unfold Ac; rw [if_neg (fun k => k h2)]
 rw [eA] at hA
 have hAl := GC t.formula t.props.length
 have hBl := JJ t
 refine BV (rs := [.cell 2 51, .tmp 3]) Tryz.f20.ntmps Tryz.func20 rfl rfl rfl (by simp [Tryz.ntmps20]) fun W I => ?_
 repeat' (first | refine ca LB (hB) ?_ | refine ca Ct (hA) ?_ | ((with_reducible apply (Ga spV Gx)); rfl) | exact jA | refine AP ?_ | refine two ?_ ?_ | refine imp fun hc => ?_; try exact cx hc | refine all fun v_ => ?_)
 obtain ⟨ba, rfl⟩ : ∃ x, x = v_ := ⟨v_, rfl⟩
 obtain ⟨bm, rfl⟩ : ∃ x, x = v_ := ⟨v_, rfl⟩
 obtain ⟨br, rfl⟩ : ∃ x, x = v_ := ⟨v_, rfl⟩
 obtain ⟨bt, rfl⟩ : ∃ x, x = v_ := ⟨v_, rfl⟩
 have hnd : (BB t).1.Nodup := Fc t 0
 have e0 : spF t 0 = (BB t).1 := rfl
 generalize eBB : (BB t).1 = B at hB hBl hnd e0
 generalize eAA : (Ac t.formula t.props.length).1 = A at hA hAl
 refine Db (E := 106) (sz := 2) Fo.cells ?_
 refine Db (E := 49) (sz := 1) BP ?_
 refine Db (E := 3) (sz := 1) AS ?_
 refine AG (X := Nat × Sl) (fun y => [(1, .val (.pointer (some ⟨bt, 0, none⟩))), (2, .val (.pointer (some ⟨br, 0, none⟩))), (8, .val (.pointer (some ⟨ba, 0, none⟩))), (57, .d (AO B)), (58, .int B.length), (59, .int y.1)]) (fun y => [.cells ba 104 [.val y.2.v, .int B.length, .val Sl.nil.v, .val Sl.nil.v, .int A.length, .val (.map (some bm))], AL y.2.v 106 2 Fo.cells (B.take y.1), .raw bm (BT (Am spV Gx (IM (B.take y.1)))), AL Sl.nil.v 49 1 BP ([]), AL Sl.nil.v 3 1 AS ([]), .cells br 51 [.val (.slice none 0 0), .int 0, .val (.slice none 0 0), .val (.slice none 0 0), .int 0], .cells bt 29 [.d (Au t.model.vars), .d (Ae t.model.rules), .d (Ar t.props), .d (AO t.formula)]]) (fun y => y.1 ≤ B.length) (fun y => B.length - y.1) (0, Sl.nil) (Nat.zero_le _) (VS.take AH ?_) ?_
 · exact leD
 rintro ⟨j, q⟩ hj
 dsimp only at hj ⊢
 by_cases hjl : j < B.length
 · have hnew : B[j] ∉ B.take j := fun hm => by
    obtain ⟨i, hi, e⟩ := List.getElem_of_mem hm
    rw [List.getElem_take] at e
    have := (List.getElem_inj hnd).1 e
    rw [List.length_take] at hi; omega
   have et : B.take j ++ [B[j]] = B.take (j + 1) := (jZ hjl).symm
   have F := PT ba bm q B.length A.length (.val (.slice none 0 0)) (.val (.slice none 0 0)) (B.take j) B[j] hnew (by rw [List.length_take]; omega)
   rw [et] at F
   repeat' (first | refine cgv JS (F) ?_ | exact jA | refine AP ?_ | refine two ?_ ?_ | refine imp fun hc => ?_; try exact cx hc | refine all fun v_ => ?_)
   refine ⟨(j + 1, v_), jC, jC, VS.take AH ?_⟩
   exact leD
 obtain rfl : j = B.length := by omega
 rw [List.take_length]
 repeat' (first | exact jA | refine AP ?_ | refine two ?_ ?_ | refine imp fun hc => ?_; try exact cx hc | refine all fun v_ => ?_)
 refine AG (X := Nat × Sl × Sl × Sl) (fun y => [(1, .val (.pointer (some ⟨bt, 0, none⟩))), (2, .val (.pointer (some ⟨br, 0, none⟩))), (8, .val (.pointer (some ⟨ba, 0, none⟩))), (11, .int y.1)]) (fun y => [.cells ba 104 [.val y.2.1.v, .int B.length, .val y.2.2.1.v, .val y.2.2.2.v, .int A.length, .val (.map (some bm))], AL y.2.1.v 106 2 Fo.cells (spF t y.1), .raw bm (BT (Am spV Gx (IM (spF t y.1)))), AL y.2.2.1.v 49 1 BP ((List.range y.1).map (plF t)), AL y.2.2.2.v 3 1 AS ((List.range y.1).map (seF t)), .cells br 51 [.val (.slice none 0 0), .int 0, .val (.slice none 0 0), .val (.slice none 0 0), .int 0], .cells bt 29 [.d (Au t.model.vars), .d (Ae t.model.rules), .d (Ar t.props), .d (AO t.formula)]]) (fun y => F2 t y.1) (fun y => 20001 - y.1) (0, q, Sl.nil, Sl.nil) ⟨h, fun j hj => absurd hj (Nat.not_lt_zero j)⟩ (VS.take (by dsimp only; rw [e0]; exact AH) ?_) ?_
 · exact leD
 clear hnd e0
 rintro ⟨i, q, qn, qs⟩ hg
 dsimp only at hg ⊢
 have hfew := hg.few
 have hle := hg.le
 have hln : ((List.range i).map (plF t)).length = i := by simp
 have hls : ((List.range i).map (seF t)).length = i := by simp
 by_cases hil : i < (spF t i).length
 · obtain ⟨e1, e2, e3⟩ := MR hil
   have hful := fun hl => hg.full hil hl
   have hnext := fun hl => hg.next hil hl
   have hL := RA t.model t.props (spF t i)[i].kind
   have hM := gu t.formula (Gm t.model t.props (spF t i)[i].kind).1 (spF t i)[i].val
   have hBh := aq t (spF t i)[i].kind (spF t i)[i].val
   have hbl := NQ t (spF t i)[i].kind (spF t i)[i].val h3
   rw [← e3] at hM
   generalize (Gm t.model t.props (spF t i)[i].kind) = lp at hL hM
   generalize hse : seF t i = se at hM e3
   generalize Ai t (spF t i)[i].kind (spF t i)[i].val = bp at hBh hbl e1 e2 hful
   obtain ⟨bs, be⟩ := bp
   dsimp only at hBh hbl e1 e2 hful
   repeat' (first | refine ca Hm (hL) ?_ | refine ca Xa (hM) ?_ | refine ca NR (hBh) ?_ | ((with_reducible apply jp); (focus ((with_reducible apply DE); rfl; (with_reducible exact ElC.h); rfl; exact AW; exact fun _ => rfl; omega)); rfl) | exact jA | refine AP ?_ | refine two ?_ ?_ | refine imp fun hc => ?_; try exact cx hc | refine all fun v_ => ?_)
   refine Db (E := 3) (sz := 1) AS ?_
   refine AG (X := Nat × Sl × Sl) (fun y => [(1, .val (.pointer (some ⟨bt, 0, none⟩))), (2, .val (.pointer (some ⟨br, 0, none⟩))), (8, .val (.pointer (some ⟨ba, 0, none⟩))), (11, .int i), (15, .int se), (17, .val y.2.2.v), (110, .d (AO bs)), (111, .int bs.length), (112, .int y.1)]) (fun y => [AL y.2.2.v 3 1 AS (BQ (spF t i) (bs.take y.1)).2, .cells ba 104 [.val y.2.1.v, .int B.length, .val qn.v, .val qs.v, .int A.length, .val (.map (some bm))], AL y.2.1.v 106 2 Fo.cells ((BQ (spF t i) (bs.take y.1)).1), .raw bm (BT (Am spV Gx (IM ((BQ (spF t i) (bs.take y.1)).1)))), AL qn.v 49 1 BP ((List.range i).map (plF t)), AL qs.v 3 1 AS ((List.range i).map (seF t)), .cells br 51 [.val (.slice none 0 0), .int 0, .val (.slice none 0 0), .val (.slice none 0 0), .int 0], .cells bt 29 [.d (Au t.model.vars), .d (Ae t.model.rules), .d (Ar t.props), .d (AO t.formula)]]) (fun y => y.1 ≤ bs.length ∧ (BQ (spF t i) (bs.take y.1)).1.length ≤ 20000) (fun y => bs.length - y.1) (0, q, Sl.nil) ⟨Nat.zero_le _, hfew⟩ (VS.take AH ?_) ?_
   · exact leD
   clear q
   rintro ⟨k, q, p⟩ ⟨hk, hkl⟩
   dsimp only at hk hkl ⊢
   have hpl : (BQ (spF t i) (bs.take k)).2.length = k := by rw [Ez, List.length_take]; omega
   by_cases hkb : k < bs.length
   · have hst := JO bs (spF t i) k hkb
     have hgr := O8 bs (spF t i) (k + 1) (bs.length - (k + 1))
     rw [show k + 1 + (bs.length - (k + 1)) = bs.length by omega, List.take_length] at hgr
     rw [hst] at hgr
     dsimp only at hgr
     generalize BQ (spF t i) (bs.take k) = R at hst hgr hkl hpl ⊢
     by_cases hb : bs[k] ∈ R.1
     · have F := Wp ba bm q B.length A.length (.val qn.v) (.val qs.v) R.1 bs[k] hb
       rw [Qn hb] at hst
       repeat' (first | refine cgv JS (F) ?_ | exact jA | refine AP ?_ | refine two ?_ ?_ | refine imp fun hc => ?_; try exact cx hc | refine all fun v_ => ?_)
       refine ⟨(k + 1, q, v_), ⟨by dsimp only; omega, by dsimp only; rw [hst]; exact hkl⟩, jC, VS.take (by dsimp only; rw [hst]; exact AH) ?_⟩
       exact leD
     rw [MV hb] at hst hgr
     by_cases hl : R.1.length < 20000
     · have F := PT ba bm q B.length A.length (.val qn.v) (.val qs.v) R.1 bs[k] hb hl
       repeat' (first | refine cgv JS (F) ?_ | exact jA | refine AP ?_ | refine two ?_ ?_ | refine imp fun hc => ?_; try exact cx hc | refine all fun v_ => ?_)
       obtain ⟨p2, rfl⟩ : ∃ x, x = v_ := ⟨v_, rfl⟩
       refine ⟨(k + 1, v_, p2), ⟨by dsimp only; omega, by dsimp only; rw [hst]; simp; omega⟩, jC, VS.take (by dsimp only; rw [hst]; exact AH) ?_⟩
       exact leD
     · have F := UP ba bm q B.length A.length (.val qn.v) (.val qs.v) R.1 bs[k] hb jB
       have hx := hful (by rw [List.length_append, List.length_singleton] at hgr; omega)
       repeat' (first | refine cgv JS (F) ?_ | exact jA | refine AP ?_ | refine two ?_ ?_ | refine imp fun hc => ?_; try exact cx hc | refine all fun v_ => ?_)
       unfold exG
       rw [hx]
       exact D1 (xs := [.agg [.val (.slice none 0 0), .int 0, .val (.slice none 0 0), .val (.slice none 0 0), .int 0], .int 12]) (ys := [.agg [.d (AO []), .int 0, .d (AX []), .d (AJ []), .int 0], .int 12]) vid ⟨Ax rfl (by (with_reducible exact ElC.h)) rfl AW rfl, A4 rfl, trivial⟩ ⟨AV.le_agg ⟨AV.le_nil 2 16, AV.le_refl _, AV.le_nil 1 24, AV.le_nil 1 8, AV.le_refl _, trivial⟩, AV.le_refl _, trivial⟩ rfl (h' := []) (jc _) (AA rfl)
   obtain rfl : k = bs.length := by omega
   rw [List.take_length] at hkl hpl ⊢
   rw [← e1] at hkl
   rw [← e1, ← e2]
   rw [← e2] at hpl
   refine IH (Bq (t := 17) (eb := 8) rfl rfl (fun x => rfl) jB) ?_
   repeat' (first | refine i7 (DP (f := BP) (u := plF t i)) ?_ | exact jA | refine AP ?_ | refine two ?_ ?_ | refine imp fun hc => ?_; try exact cx hc | refine all fun v_ => ?_)
   obtain ⟨qs2, rfl⟩ : ∃ x, x = v_ := ⟨v_, rfl⟩
   obtain ⟨qn2, rfl⟩ : ∃ x, x = v_ := ⟨v_, rfl⟩
   have ep : (List.range (i + 1)).map (plF t) = (List.range i).map (plF t) ++ [plF t i] := by rw [List.range_succ, List.map_append]; rfl
   have es : (List.range (i + 1)).map (seF t) = (List.range i).map (seF t) ++ [se] := by rw [List.range_succ, List.map_append, ← hse]; rfl
   refine ⟨(i + 1, q, qn2, qs2), hnext hkl, jC, VS.take (by dsimp only; rw [ep, es]; exact AH) ?_⟩
   exact leD
 have hx := hg.all jB
 have hi2 : i ≤ 20000 := by omega
 repeat' (first | exact jA | refine AP ?_ | refine two ?_ ?_ | refine imp fun hc => ?_; try exact cx hc | refine all fun v_ => ?_)
 have eG : exG t = ⟨spF t i, B.length, (List.range i).map (plF t), (List.range i).map (seF t), A.length⟩ := by
  unfold exG; rw [hx]; dsimp only; rw [eBB, eAA]
 rw [eG, hx]
 generalize (List.range i).map (plF t) = nx at hln ⊢
 generalize (List.range i).map (seF t) = st at hls ⊢
 generalize spF t i = sp at hfew ⊢
 refine FM (VS.trans (VS.take (hc := [AL q.v 106 2 Fo.cells sp, AL qn.v 49 1 BP nx, AL qs.v 3 1 AS st, .cells br 51 [.val q.v, .int B.length, .val qn.v, .val qs.v, .int A.length]]) AH (Env.le_refl _))
  (VS.trans (EA (h1 := []) (h' := [AL qn.v 49 1 BP nx, AL qs.v 3 1 AS st, .cells br 51 [.d (AO sp), .int B.length, .val qn.v, .val qs.v, .int A.length]]) 16 rfl rfl (fun _ => rfl) jB (CvE.refl _ _ _) ?_)
  (VS.trans (EA (h1 := []) (h' := [AL qs.v 3 1 AS st, .cells br 51 [.d (AO sp), .int B.length, .d (AX nx), .val qs.v, .int A.length]]) 24 rfl rfl (fun _ => rfl) jB (CvE.refl _ _ _) ?_)
  (EA (h1 := []) (h' := [.cells br 51 [.d (AO sp), .int B.length, .d (AX nx), .d (AJ st), .int A.length]]) 8 rfl rfl (fun _ => rfl) jB (CvE.refl _ _ _) ?_)))) (xs := [.agg [.d (AO sp), .int B.length, .d (AX nx), .d (AJ st), .int A.length], .int 0]) ⟨Ax rfl (by (with_reducible exact ElC.h)) rfl AW rfl, A4 rfl, trivial⟩ rfl (h' := []) (jc _) (AA rfl)
 · exact .keep (.keep (.cells (.cons .here (.cons (.same _) (.cons (.same _) (.cons (.same _) (.cons (.same _) .nil))))) (.refl _)))
 · exact .keep (.cells (.cons (.same _) (.cons (.same _) (.cons .here (.cons (.same _) (.cons (.same _) .nil))))) (.refl _))
 · exact .cells (.cons (.same _) (.cons (.same _) (.cons (.same _) (.cons .here (.cons (.same _) .nil))))) (.refl _)
theorem Q6 (t : Tk) : ACr Tryz.prog GP 20 [tkA t] (.tup [grA (exG t), .int (An t).2]) := by
 by_cases h : BE t = 0
 · exact SW t h
 · exact T5 t h
theorem Hq : Cal Tryz.prog 33 := Cal.of Tryz.func33 (by kernel_rfl) (by kernel_rfl)
theorem cN {p q : Prop} (hp : p) (h : p → q := by
 apply cmp; (focus (first
  | (first
    | ((with_reducible apply Iq); exact mixed; rfl; (focus ((repeat ((with_reducible apply Hd.cons); rfl)); exact Hd.nil)); (focus ((repeat (with_reducible apply Al)); exact len_nil)); decide +kernel)
    | ((with_reducible apply QV); decide +kernel; (focus ((repeat (with_reducible apply App.cons)); exact App.nil)))
    | ((with_reducible apply Hh); rfl; decide +kernel; exact Fq; rfl)
    | ((with_reducible apply aU); (iterate 5 rfl); decide +kernel; exact Fq; rfl)
    | ((with_reducible apply aA); (iterate 5 rfl); decide +kernel; rfl)
    | ((with_reducible apply jh_gu); (iterate 4 rfl); decide +kernel; rfl)
    | ((with_reducible apply Nz); (iterate 4 rfl); decide +kernel)
    | with_reducible apply Qc
    | with_reducible apply QI
    | ((with_reducible apply ay); decide +kernel; decide +kernel)
    | with_reducible exact Vp
    | ((with_reducible apply Yk); decide +kernel)
    | ((with_reducible apply Vg); rfl)
    | with_reducible apply UW
    )
  ))
 exact fun h => h) : q := h hp
theorem TP (G : List (Nat × List D)) (t : Tk) (h : BE t ≠ 0) : ACr Tryz.prog G 33 [tkA t] (.tup [grA (exG t), .int (An t).2]) := by
 have hB := dF G t
 have e1 : An t = (none, BE t) := by unfold An; rw [if_pos h]
 have e2 : BB t = ([], BE t) := by unfold BB; rw [if_pos h]
 unfold exG
 rw [e1]
 rw [e2] at hB
 dsimp only at hB ⊢
 generalize BE t = e at h hB ⊢
 refine BV (rs := [.cell 2 51, .tmp 3]) Tryz.f33.ntmps Tryz.func33 rfl rfl rfl (by simp [Tryz.ntmps33]) fun W I => ?_
 repeat' (first | refine ca Lp (hB) ?_ | exact jA | refine AF ?_ | refine two ?_ ?_ | refine AB fun c_ => ?_ | refine imp fun hc => ?_; try exact cx1 hc | refine all fun v_ => ?_)
 exact D1 (xs := [.agg [.val (.slice none 0 0), .int 0, .val (.slice none 0 0), .val (.slice none 0 0), .int 0], .int e]) (ys := [.agg [.d (AO []), .int 0, .d (AX []), .d (AJ []), .int 0], .int e]) vid ⟨Ax rfl (by (with_reducible exact ElC.h)) rfl AW rfl, A4 rfl, trivial⟩ ⟨AV.le_agg ⟨AV.le_nil 2 16, AV.le_refl _, AV.le_nil 1 24, AV.le_nil 1 8, AV.le_refl _, trivial⟩, AV.le_refl _, trivial⟩ rfl (h' := []) (jc _) (AA rfl)
theorem iY {p q : Prop} (hp : p) (h : p → q := by
 apply cmp; (focus ((with_reducible apply Hh); rfl; decide +kernel; (focus ((with_reducible apply DE); rfl; (with_reducible exact ElC.h); rfl; exact AW; exact fun _ => rfl; omega)); rfl))
 exact fun h => h) : q := h hp
theorem Qf (G : List (Nat × List D)) (t : Tk) (h : BE t = 0) : ACr Tryz.prog G 33 [tkA t] (.tup [grA (exG t), .int (An t).2]) := by
 have hB := aB G t h
 obtain ⟨h1, h2, h3⟩ := Cg h
 have hA := Qe G t.formula t.props.length
 have eA : (Ac t.formula t.props.length).2 = 0 := by unfold Ac; rw [if_neg (fun k => k h2)]
 rw [eA] at hA
 have hAl := GC t.formula t.props.length
 have hBl := JJ t
 have e0 : spF t 0 = (BB t).1 := rfl
 generalize eBB : (BB t).1 = B at hB hBl e0
 generalize eAA : (Ac t.formula t.props.length).1 = A at hA hAl
 refine BV (rs := [.cell 2 51, .tmp 3]) Tryz.f33.ntmps Tryz.func33 rfl rfl rfl (by simp [Tryz.ntmps33]) fun W I => ?_
 repeat' (first | refine cag Lp (hB) ?_ | refine ca Ch (hA) ?_ | exact jA | refine AP ?_ | refine two ?_ ?_ | refine imp fun hc => ?_; try exact cx hc | refine all fun v_ => ?_)
 obtain ⟨bg, rfl⟩ : ∃ x, x = v_ := ⟨v_, rfl⟩
 obtain ⟨q, rfl⟩ : ∃ x, x = v_ := ⟨v_, rfl⟩
 obtain ⟨br, rfl⟩ : ∃ x, x = v_ := ⟨v_, rfl⟩
 obtain ⟨bt, rfl⟩ : ∃ x, x = v_ := ⟨v_, rfl⟩
 refine Db (E := 49) (sz := 1) BP ?_
 refine Db (E := 3) (sz := 1) AS ?_
 refine AG (X := Nat × Sl × Sl × Sl) (fun y => [(1, .val (.pointer (some ⟨bt, 0, none⟩))), (2, .val (.pointer (some ⟨br, 0, none⟩))), (8, .val (.pointer (some ⟨bg, 0, none⟩))), (9, .int y.1)]) (fun y => [.cells bg 51 [.val y.2.1.v, .int B.length, .val y.2.2.1.v, .val y.2.2.2.v, .int A.length], AL y.2.1.v 106 2 Fo.cells (spF t y.1), AL y.2.2.1.v 49 1 BP ((List.range y.1).map (plF t)), AL y.2.2.2.v 3 1 AS ((List.range y.1).map (seF t)), .cells br 51 [.val (.slice none 0 0), .int 0, .val (.slice none 0 0), .val (.slice none 0 0), .int 0], .cells bt 29 [.d (Au t.model.vars), .d (Ae t.model.rules), .d (Ar t.props), .d (AO t.formula)]]) (fun y => F2 t y.1) (fun y => 20001 - y.1) (0, q, Sl.nil, Sl.nil) ⟨h, fun j hj => absurd hj (Nat.not_lt_zero j)⟩ (VS.take (by dsimp only; rw [e0]; exact AH) ?_) ?_
 · exact leD
 clear e0 q
 rintro ⟨i, q, qn, qs⟩ hg
 dsimp only at hg ⊢
 have hfew := hg.few
 have hle := hg.le
 have hln : ((List.range i).map (plF t)).length = i := by simp
 have hls : ((List.range i).map (seF t)).length = i := by simp
 by_cases hil : i < (spF t i).length
 · obtain ⟨e1, e2, e3⟩ := MR hil
   have hil2 : i < (spF t (i + 1)).length := Nat.lt_of_lt_of_le hil (LM t jB)
   have es : (spF t (i + 1))[i] = (spF t i)[i] := by
    have := QQ t (i := i) (j := i + 1) jB (List.getElem?_eq_getElem hil)
    rw [List.getElem?_eq_getElem hil2] at this
    exact Option.some.inj this
   have hful := fun hl => hg.full hil hl
   have hnext := fun hl => hg.next hil hl
   have hL := II G t.model t.props (spF t (i + 1))[i].kind
   have hM := iA G t.formula (Gm t.model t.props (spF t i)[i].kind).1 (spF t (i + 1))[i].val
   have eL : Gm t.model t.props (spF t (i + 1))[i].kind = Gm t.model t.props (spF t i)[i].kind := by rw [es]
   have eM : Ca t.formula (Gm t.model t.props (spF t i)[i].kind).1 (spF t (i + 1))[i].val = Ca t.formula (Gm t.model t.props (spF t i)[i].kind).1 (spF t i)[i].val := by rw [es]
   rw [eL] at hL
   rw [eM, ← e3] at hM
   have hBh := aI G t (spF t i)[i].kind (spF t i)[i].val
   have hbl := NQ t (spF t i)[i].kind (spF t i)[i].val h3
   clear eL eM
   generalize (Gm t.model t.props (spF t i)[i].kind) = lp at hL hM
   generalize hse : seF t i = se at hM e3
   generalize Ai t (spF t i)[i].kind (spF t i)[i].val = bp at hBh hbl e1 e2 hful
   obtain ⟨bs, be⟩ := bp
   dsimp only at hBh hbl e1 e2 hful
   repeat' (first | refine ca Qq (hBh) ?_ | exact jA | refine iY ?_ | refine cN ?_ | with_reducible apply Stop.mk | refine XW ?_ | refine two ?_ ?_ | refine AB fun c_ => ?_ | (refine imp fun hc => ?_) <;> try (first | contradiction | (exfalso; omega)) | refine all fun v_ => ?_)
   refine Db (E := 3) (sz := 1) AS ?_
   refine AG (X := Nat × Sl × Sl) (fun y => [(1, .val (.pointer (some ⟨bt, 0, none⟩))), (2, .val (.pointer (some ⟨br, 0, none⟩))), (8, .val (.pointer (some ⟨bg, 0, none⟩))), (9, .int i), (10, .d (AO bs)), (12, .val y.2.2.v), (13, .int y.1)]) (fun y => [AL y.2.2.v 3 1 AS (BQ (spF t i) (bs.take y.1)).2, .cells bg 51 [.val y.2.1.v, .int B.length, .val qn.v, .val qs.v, .int A.length], AL y.2.1.v 106 2 Fo.cells ((BQ (spF t i) (bs.take y.1)).1), AL qn.v 49 1 BP ((List.range i).map (plF t)), AL qs.v 3 1 AS ((List.range i).map (seF t)), .cells br 51 [.val (.slice none 0 0), .int 0, .val (.slice none 0 0), .val (.slice none 0 0), .int 0], .cells bt 29 [.d (Au t.model.vars), .d (Ae t.model.rules), .d (Ar t.props), .d (AO t.formula)]]) (fun y => y.1 ≤ bs.length) (fun y => bs.length - y.1) (0, q, Sl.nil) (Nat.zero_le _) (VS.take AH ?_) ?_
   · exact leD
   clear q
   rintro ⟨k, q, p⟩ hk
   dsimp only at hk ⊢
   have hpl : (BQ (spF t i) (bs.take k)).2.length = k := by rw [Ez, List.length_take]; omega
   have hkl := Po (bs.take k) (spF t i)
   rw [List.length_take] at hkl
   by_cases hkb : k < bs.length
   · have hst := JO bs (spF t i) k hkb
     have hS := fQ G (BQ (spF t i) (bs.take k)).1 bs[k] jB
     generalize BQ (spF t i) (bs.take k) = R at hst hkl hpl hS ⊢
     by_cases hb : bs[k] ∈ R.1
     · rw [if_pos hb] at hS
       rw [Qn hb] at hst
       repeat' (first | refine XW ?_ | refine two ?_ ?_ | (refine imp fun hc => ?_) <;> try (first | contradiction | (exfalso; omega)) | refine all fun v_ => ?_)
       refine ⟨?_⟩
       refine CL [AL q.v 106 2 Fo.cells (R.1)] mixed rfl (by (repeat ((with_reducible apply Hd.cons); rfl)); exact Hd.nil) (by (repeat (with_reducible apply Al)); exact len_nil) (by decide +kernel) BF ?_
       repeat' (first | refine IF rfl OI hS ⟨Dc (E := 106) 16 AW rfl (fun _ => rfl) jB, Ey _ _, trivial⟩ rfl ?_ | exact jA | refine iY ?_ | refine cN ?_ | with_reducible apply Stop.mk | refine XW ?_ | refine two ?_ ?_ | refine AB fun c_ => ?_ | (refine imp fun hc => ?_) <;> try (first | contradiction | (exfalso; omega)) | refine all fun v_ => ?_)
       refine ⟨(k + 1, q, v_), jC, jC, VS.take (by dsimp only; rw [hst]; exact AH) ?_⟩
       exact leD
     · rw [if_neg hb] at hS
       have hpo := MC hb
       rw [MV hb] at hst
       repeat' (first | refine XW ?_ | refine two ?_ ?_ | (refine imp fun hc => ?_) <;> try (first | contradiction | (exfalso; omega)) | refine all fun v_ => ?_)
       refine ⟨?_⟩
       refine CL [AL q.v 106 2 Fo.cells (R.1)] mixed rfl (by (repeat ((with_reducible apply Hd.cons); rfl)); exact Hd.nil) (by (repeat (with_reducible apply Al)); exact len_nil) (by decide +kernel) BF ?_
       repeat' (first | refine IF rfl OI hS ⟨Dc (E := 106) 16 AW rfl (fun _ => rfl) jB, Ey _ _, trivial⟩ rfl ?_ | exact jA | refine iY ?_ | refine cN ?_ | refine XW ?_ | refine two ?_ ?_ | refine AB fun c_ => ?_ | (refine imp fun hc => ?_) <;> try (first | contradiction | (exfalso; omega)) | refine all fun v_ => ?_)
       refine ⟨?_⟩
       refine CL [AL q.v 106 2 Fo.cells (R.1)] mixed rfl (by (repeat ((with_reducible apply Hd.cons); rfl)); exact Hd.nil) (by (repeat (with_reducible apply Al)); exact len_nil) (by decide +kernel) BF ?_
       repeat' (first | refine i7 (DP (f := Fo.cells) (u := bs[k])) ?_ | exact jA | refine AF ?_ | refine two ?_ ?_ | refine AB fun c_ => ?_ | refine imp fun hc => ?_; try exact cx1 hc | refine all fun v_ => ?_)
       obtain ⟨p2, rfl⟩ : ∃ x, x = v_ := ⟨v_, rfl⟩
       refine ⟨(k + 1, v_, p2), jC, jC, VS.take (by dsimp only; rw [hst, hpo]; exact AH) ?_⟩
       exact leD
   obtain rfl : k = bs.length := by omega
   rw [List.take_length] at hkl hpl ⊢
   rw [← e1] at hkl hful
   rw [← e1, ← e2]
   rw [← e2] at hpl
   refine IH (Bq (t := 12) (eb := 8) rfl rfl (fun x => rfl) jB) ?_
   by_cases hl : 20000 < (spF t (i + 1)).length
   · have hx := hful hl
     repeat' (first | exact jA | refine AP ?_ | refine two ?_ ?_ | refine imp fun hc => ?_; try exact cx hc | refine all fun v_ => ?_)
     unfold exG
     rw [hx]
     exact D1 (xs := [.agg [.val (.slice none 0 0), .int 0, .val (.slice none 0 0), .val (.slice none 0 0), .int 0], .int 12]) (ys := [.agg [.d (AO []), .int 0, .d (AX []), .d (AJ []), .int 0], .int 12]) vid ⟨Ax rfl (by (with_reducible exact ElC.h)) rfl AW rfl, A4 rfl, trivial⟩ ⟨AV.le_agg ⟨AV.le_nil 2 16, AV.le_refl _, AV.le_nil 1 24, AV.le_nil 1 8, AV.le_refl _, trivial⟩, AV.le_refl _, trivial⟩ rfl (h' := []) (jc _) (AA rfl)
   repeat' (first | refine ca EK (hL) ?_ | refine ca XU (hM) ?_ | refine i7 (DP (f := BP) (u := plF t i)) ?_ | exact jA | refine AF ?_ | refine two ?_ ?_ | refine AB fun c_ => ?_ | refine imp fun hc => ?_; try exact cx1 hc | refine all fun v_ => ?_)
   obtain ⟨qs2, rfl⟩ : ∃ x, x = v_ := ⟨v_, rfl⟩
   obtain ⟨qn2, rfl⟩ : ∃ x, x = v_ := ⟨v_, rfl⟩
   have ep : (List.range (i + 1)).map (plF t) = (List.range i).map (plF t) ++ [plF t i] := by rw [List.range_succ, List.map_append]; rfl
   have es : (List.range (i + 1)).map (seF t) = (List.range i).map (seF t) ++ [se] := by rw [List.range_succ, List.map_append, ← hse]; rfl
   refine ⟨(i + 1, q, qn2, qs2), hnext jB, jC, VS.take (by dsimp only; rw [ep, es]; exact AH) ?_⟩
   exact leD
 have hx := hg.all jB
 have hi2 : i ≤ 20000 := by omega
 repeat' (first | exact jA | refine AP ?_ | refine two ?_ ?_ | refine imp fun hc => ?_; try exact cx hc | refine all fun v_ => ?_)
 have eG : exG t = ⟨spF t i, B.length, (List.range i).map (plF t), (List.range i).map (seF t), A.length⟩ := by
  unfold exG; rw [hx]; dsimp only; rw [eBB, eAA]
 rw [eG, hx]
 generalize (List.range i).map (plF t) = nx at hln ⊢
 generalize (List.range i).map (seF t) = st at hls ⊢
 generalize spF t i = sp at hfew ⊢
 refine FM (VS.trans (VS.take (hc := [AL q.v 106 2 Fo.cells sp, AL qn.v 49 1 BP nx, AL qs.v 3 1 AS st, .cells br 51 [.val q.v, .int B.length, .val qn.v, .val qs.v, .int A.length]]) AH (Env.le_refl _))
  (VS.trans (EA (h1 := []) (h' := [AL qn.v 49 1 BP nx, AL qs.v 3 1 AS st, .cells br 51 [.d (AO sp), .int B.length, .val qn.v, .val qs.v, .int A.length]]) 16 rfl rfl (fun _ => rfl) jB (CvE.refl _ _ _) ?_)
  (VS.trans (EA (h1 := []) (h' := [AL qs.v 3 1 AS st, .cells br 51 [.d (AO sp), .int B.length, .d (AX nx), .val qs.v, .int A.length]]) 24 rfl rfl (fun _ => rfl) jB (CvE.refl _ _ _) ?_)
  (EA (h1 := []) (h' := [.cells br 51 [.d (AO sp), .int B.length, .d (AX nx), .d (AJ st), .int A.length]]) 8 rfl rfl (fun _ => rfl) jB (CvE.refl _ _ _) ?_)))) (xs := [.agg [.d (AO sp), .int B.length, .d (AX nx), .d (AJ st), .int A.length], .int 0]) ⟨Ax rfl (by (with_reducible exact ElC.h)) rfl AW rfl, A4 rfl, trivial⟩ rfl (h' := []) (jc _) (AA rfl)
 · exact .keep (.keep (.cells (.cons .here (.cons (.same _) (.cons (.same _) (.cons (.same _) (.cons (.same _) .nil))))) (.refl _)))
 · exact .keep (.cells (.cons (.same _) (.cons (.same _) (.cons .here (.cons (.same _) (.cons (.same _) .nil))))) (.refl _))
 · exact .cells (.cons (.same _) (.cons (.same _) (.cons (.same _) (.cons .here (.cons (.same _) .nil))))) (.refl _)
theorem Nt (G : List (Nat × List D)) (t : Tk) : ACr Tryz.prog G 33 [tkA t] (.tup [grA (exG t), .int (An t).2]) := by
 by_cases h : BE t = 0
 · exact Qf G t h
 · exact TP G t h
end Go.Proofs.YtnlfhnbcdfdhgaaGreatDoor
