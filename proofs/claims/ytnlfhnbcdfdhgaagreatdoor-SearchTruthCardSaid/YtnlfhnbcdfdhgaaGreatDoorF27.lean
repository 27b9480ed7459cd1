/- A bundle of this claim's own texts: N17 N18. -/
import Derived.Test.YtnlfhnbcdfdhgaaGreatDoorF9
import Derived.Test.YtnlfhnbcdfdhgaaGreatDoorF16
import Derived.Test.YtnlfhnbcdfdhgaaGreatDoorF17
import Derived.Test.YtnlfhnbcdfdhgaaGreatDoorF23
import Derived.Test.YtnlfhnbcdfdhgaaGreatDoorF24
import Derived.Test.YtnlfhnbcdfdhgaaGreatDoorF25
import Derived.Test.YtnlfhnbcdfdhgaaGreatDoorF26
set_option linter.unusedVariables false
set_option linter.unusedSimpArgs false
set_option maxRecDepth 100000
set_option maxHeartbeats 4000000
namespace Go.Proofs.YtnlfhnbcdfdhgaaGreatDoor
open Go Go.Av Go.Sp
theorem Ci : Cal Tryz.prog 20 := Cal.of Tryz.func20 (by kernel_rfl) (by kernel_rfl)
theorem S9 (t : Tk) (h : BL t ≠ 0) : ACr Tryz.prog GP 20 [tkA t] (.tup [grA (exG t), .int (An t).2]) := by
 have hB := Wy t
 have e1 : An t = (none, BL t) := by unfold An; rw [if_pos h]
 have e2 : A3 t = ([], BL t) := by unfold A3; rw [if_pos h]
 unfold exG
 rw [e1]
 rw [e2] at hB
 dsimp only at hB ⊢
 generalize BL t = e at h hB ⊢
 refine Bm (rs := [.cell 2 51, .tmp 3]) Tryz.f20.ntmps Tryz.func20 rfl rfl rfl (by simp [Tryz.ntmps20]) fun W I => ?_
 repeat' (first
  | refine ca Jm (hB) ?_
  | exact True.intro | refine AG ?_ | refine two ?_ ?_ | refine AF fun c_ => ?_
  | (refine imp fun hc => ?_) <;> try exact cx1 hc
  | refine all fun v_ => ?_)
 exact Eo (xs := [.agg [.val (.slice none 0 0), .int 0, .val (.slice none 0 0), .val (.slice none 0 0), .int 0], .int e]) (ys := [.agg [.d (AO []), .int 0, .d (Ah []), .d (AK []), .int 0], .int e]) vid ⟨Ax rfl (by (with_reducible exact ElC.h)) rfl (by exact Ab) rfl, Az rfl, trivial⟩ ⟨AV.le_agg ⟨AV.le_nil 2 16, AV.le_refl _, AV.le_nil 1 24, AV.le_nil 1 8, AV.le_refl _, trivial⟩, AV.le_refl _, trivial⟩ rfl (h' := []) (List.nil_sublist _) (AB rfl)
theorem Pm (t : Tk) (h : BL t = 0) : ACr Tryz.prog GP 20 [tkA t] (.tup [grA (exG t), .int (An t).2]) := by
 have hB := Wy t
 have eB : (A3 t).2 = 0 := by unfold A3; rw [if_neg (fun k => k h)]
 rw [eB] at hB
 obtain ⟨h1, h2, h3⟩ := C0 h
 have hA := YX t.formula t.props.length
 have eA : (Ai t.formula t.props.length).2 = 0 := by unfold Ai; rw [if_neg (fun k => k h2)]
 rw [eA] at hA
 have hAl := IN t.formula t.props.length
 have hBl := Jv t
 refine Bm (rs := [.cell 2 51, .tmp 3]) Tryz.f20.ntmps Tryz.func20 rfl rfl rfl (by simp [Tryz.ntmps20]) fun W I => ?_
 repeat' (first
  | refine ca Jm (hB) ?_
  | refine ca CL (hA) ?_
  | ((with_reducible apply (FR spV Fu)); (focus rfl))
  | exact True.intro | refine AP ?_ | refine two ?_ ?_
  | (refine imp fun hc => ?_) <;> try exact cx hc
  | refine all fun v_ => ?_)
 obtain ⟨ba, rfl⟩ : ∃ x, x = v_ := ⟨v_, rfl⟩
 obtain ⟨bm, rfl⟩ : ∃ x, x = v_ := ⟨v_, rfl⟩
 obtain ⟨br, rfl⟩ : ∃ x, x = v_ := ⟨v_, rfl⟩
 obtain ⟨bt, rfl⟩ : ∃ x, x = v_ := ⟨v_, rfl⟩
 have hnd : (A3 t).1.Nodup := Dv t 0
 have e0 : spF t 0 = (A3 t).1 := rfl
 generalize eBB : (A3 t).1 = B at hB hBl hnd e0
 generalize eAA : (Ai t.formula t.props.length).1 = A at hA hAl
 refine F6 (E := 106) (sz := 2) Fo.cells ?_
 refine F6 (E := 49) (sz := 1) BP ?_
 refine F6 (E := 3) (sz := 1) Aa ?_
 refine AM (X := Nat × Sl) (fun y => [(1, .val (.pointer (some ⟨bt, 0, none⟩))), (2, .val (.pointer (some ⟨br, 0, none⟩))), (8, .val (.pointer (some ⟨ba, 0, none⟩))), (57, .d (AO B)), (58, .int B.length), (59, .int y.1)]) (fun y => [.cells ba 104 [.val y.2.v, .int B.length, .val Sl.nil.v, .val Sl.nil.v, .int A.length, .val (.map (some bm))], AH y.2.v 106 2 Fo.cells (B.take y.1), .raw bm (A1 (Ac spV Fu (HK (B.take y.1)))), AH Sl.nil.v 49 1 BP ([]), AH Sl.nil.v 3 1 Aa ([]), .cells br 51 [.val (.slice none 0 0), .int 0, .val (.slice none 0 0), .val (.slice none 0 0), .int 0], .cells bt 29 [.d (BT t.model.vars), .d (A2 t.model.rules), .d (BU t.props), .d (AO t.formula)]]) (fun y => y.1 ≤ B.length) (fun y => B.length - y.1) (0, Sl.nil) (Nat.zero_le _) (VS.take (by exact AD) ?_) ?_
 · exact leD
 rintro ⟨j, q⟩ hj
 dsimp only at hj ⊢
 by_cases hjl : j < B.length
 · have hnew : B[j] ∉ B.take j := fun hm => by
    obtain ⟨i, hi, e⟩ := List.getElem_of_mem hm
    rw [List.getElem_take] at e
    have := (List.getElem_inj hnd).1 e
    rw [List.length_take] at hi; omega
   have et : B.take j ++ [B[j]] = B.take (j + 1) := (List.take_succ_eq_append_getElem hjl).symm
   have F := NT ba bm q B.length A.length (.val (.slice none 0 0)) (.val (.slice none 0 0)) (B.take j) B[j] hnew (by rw [List.length_take]; omega)
   rw [et] at F
   repeat' (first
    | refine cgv Hn (F) ?_
    | exact True.intro | refine AP ?_ | refine two ?_ ?_
    | (refine imp fun hc => ?_) <;> try exact cx hc
    | refine all fun v_ => ?_)
   refine ⟨(j + 1, v_), by dsimp only; omega, by dsimp only; omega, VS.take (by exact AD) ?_⟩
   exact leD
 obtain rfl : j = B.length := by omega
 rw [List.take_length]
 repeat' (first
  | exact True.intro | refine AP ?_ | refine two ?_ ?_
  | (refine imp fun hc => ?_) <;> try exact cx hc
  | refine all fun v_ => ?_)
 refine AM (X := Nat × Sl × Sl × Sl) (fun y => [(1, .val (.pointer (some ⟨bt, 0, none⟩))), (2, .val (.pointer (some ⟨br, 0, none⟩))), (8, .val (.pointer (some ⟨ba, 0, none⟩))), (11, .int y.1)]) (fun y => [.cells ba 104 [.val y.2.1.v, .int B.length, .val y.2.2.1.v, .val y.2.2.2.v, .int A.length, .val (.map (some bm))], AH y.2.1.v 106 2 Fo.cells (spF t y.1), .raw bm (A1 (Ac spV Fu (HK (spF t y.1)))), AH y.2.2.1.v 49 1 BP ((List.range y.1).map (plF t)), AH y.2.2.2.v 3 1 Aa ((List.range y.1).map (seF t)), .cells br 51 [.val (.slice none 0 0), .int 0, .val (.slice none 0 0), .val (.slice none 0 0), .int 0], .cells bt 29 [.d (BT t.model.vars), .d (A2 t.model.rules), .d (BU t.props), .d (AO t.formula)]]) (fun y => FT t y.1) (fun y => 20001 - y.1) (0, q, Sl.nil, Sl.nil) ⟨h, fun j hj => absurd hj (Nat.not_lt_zero j)⟩ (VS.take (by dsimp only; rw [e0]; exact AD) ?_) ?_
 · exact leD
 clear hnd e0
 rintro ⟨i, q, qn, qs⟩ hg
 dsimp only at hg ⊢
 have hfew := hg.few
 have hle := hg.le
 have hln : ((List.range i).map (plF t)).length = i := by simp
 have hls : ((List.range i).map (seF t)).length = i := by simp
 by_cases hil : i < (spF t i).length
 · obtain ⟨e1, e2, e3⟩ := Pg hil
   have hful := fun hl => hg.full hil hl
   have hnext := fun hl => hg.next hil hl
   have hL := PH t.model t.props (spF t i)[i].kind
   have hM := eY t.formula (KQ t.model t.props (spF t i)[i].kind).1 (spF t i)[i].val
   have hBh := ZQ t (spF t i)[i].kind (spF t i)[i].val
   have hbl := TC t (spF t i)[i].kind (spF t i)[i].val h3
   rw [← e3] at hM
   generalize (KQ t.model t.props (spF t i)[i].kind) = lp at hL hM
   generalize hse : seF t i = se at hM e3
   generalize Ad t (spF t i)[i].kind (spF t i)[i].val = bp at hBh hbl e1 e2 hful
   obtain ⟨bs, be⟩ := bp
   dsimp only at hBh hbl e1 e2 hful
   repeat' (first
    | refine ca GG (hL) ?_
    | refine ca Ve (hM) ?_
    | refine ca MW (hBh) ?_
    | ((with_reducible apply jp); (focus ((with_reducible apply Gk); (focus rfl); (focus (with_reducible exact ElC.h)); (focus rfl); (focus exact Ab); (focus exact fun _ => rfl); (focus omega))); (focus rfl))
    | exact True.intro | refine AP ?_ | refine two ?_ ?_
    | (refine imp fun hc => ?_) <;> try exact cx hc
    | refine all fun v_ => ?_)
   refine F6 (E := 3) (sz := 1) Aa ?_
   refine AM (X := Nat × Sl × Sl) (fun y => [(1, .val (.pointer (some ⟨bt, 0, none⟩))), (2, .val (.pointer (some ⟨br, 0, none⟩))), (8, .val (.pointer (some ⟨ba, 0, none⟩))), (11, .int i), (15, .int se), (17, .val y.2.2.v), (110, .d (AO bs)), (111, .int bs.length), (112, .int y.1)]) (fun y => [AH y.2.2.v 3 1 Aa (BM (spF t i) (bs.take y.1)).2, .cells ba 104 [.val y.2.1.v, .int B.length, .val qn.v, .val qs.v, .int A.length, .val (.map (some bm))], AH y.2.1.v 106 2 Fo.cells ((BM (spF t i) (bs.take y.1)).1), .raw bm (A1 (Ac spV Fu (HK ((BM (spF t i) (bs.take y.1)).1)))), AH qn.v 49 1 BP ((List.range i).map (plF t)), AH qs.v 3 1 Aa ((List.range i).map (seF t)), .cells br 51 [.val (.slice none 0 0), .int 0, .val (.slice none 0 0), .val (.slice none 0 0), .int 0], .cells bt 29 [.d (BT t.model.vars), .d (A2 t.model.rules), .d (BU t.props), .d (AO t.formula)]]) (fun y => y.1 ≤ bs.length ∧ (BM (spF t i) (bs.take y.1)).1.length ≤ 20000) (fun y => bs.length - y.1) (0, q, Sl.nil) ⟨Nat.zero_le _, hfew⟩ (VS.take (by exact AD) ?_) ?_
   · exact leD
   clear q
   rintro ⟨k, q, p⟩ ⟨hk, hkl⟩
   dsimp only at hk hkl ⊢
   have hpl : (BM (spF t i) (bs.take k)).2.length = k := by rw [HC, List.length_take]; omega
   by_cases hkb : k < bs.length
   · have hst := Jk bs (spF t i) k hkb
     have hgr := NR bs (spF t i) (k + 1) (bs.length - (k + 1))
     rw [show k + 1 + (bs.length - (k + 1)) = bs.length by omega, List.take_length] at hgr
     rw [hst] at hgr
     dsimp only at hgr
     generalize BM (spF t i) (bs.take k) = R at hst hgr hkl hpl ⊢
     by_cases hb : bs[k] ∈ R.1
     · have F := Uu ba bm q B.length A.length (.val qn.v) (.val qs.v) R.1 bs[k] hb
       rw [bT hb] at hst
       repeat' (first
        | refine cgv Hn (F) ?_
        | exact True.intro | refine AP ?_ | refine two ?_ ?_
        | (refine imp fun hc => ?_) <;> try exact cx hc
        | refine all fun v_ => ?_)
       refine ⟨(k + 1, q, v_), ⟨by dsimp only; omega, by dsimp only; rw [hst]; exact hkl⟩, by dsimp only; omega, VS.take (by dsimp only; rw [hst]; exact AD) ?_⟩
       exact leD
     rw [Yk hb] at hst hgr
     by_cases hl : R.1.length < 20000
     · have F := NT ba bm q B.length A.length (.val qn.v) (.val qs.v) R.1 bs[k] hb hl
       repeat' (first
        | refine cgv Hn (F) ?_
        | exact True.intro | refine AP ?_ | refine two ?_ ?_
        | (refine imp fun hc => ?_) <;> try exact cx hc
        | refine all fun v_ => ?_)
       obtain ⟨p2, rfl⟩ : ∃ x, x = v_ := ⟨v_, rfl⟩
       refine ⟨(k + 1, v_, p2), ⟨by dsimp only; omega, by dsimp only; rw [hst]; simp; omega⟩, by dsimp only; omega, VS.take (by dsimp only; rw [hst]; exact AD) ?_⟩
       exact leD
     · have F := SL ba bm q B.length A.length (.val qn.v) (.val qs.v) R.1 bs[k] hb (by omega)
       have hx := hful (by rw [List.length_append, List.length_singleton] at hgr; omega)
       repeat' (first
        | refine cgv Hn (F) ?_
        | exact True.intro | refine AP ?_ | refine two ?_ ?_
        | (refine imp fun hc => ?_) <;> try exact cx hc
        | refine all fun v_ => ?_)
       unfold exG
       rw [hx]
       exact Eo (xs := [.agg [.val (.slice none 0 0), .int 0, .val (.slice none 0 0), .val (.slice none 0 0), .int 0], .int 12]) (ys := [.agg [.d (AO []), .int 0, .d (Ah []), .d (AK []), .int 0], .int 12]) vid ⟨Ax rfl (by (with_reducible exact ElC.h)) rfl (by exact Ab) rfl, Az rfl, trivial⟩ ⟨AV.le_agg ⟨AV.le_nil 2 16, AV.le_refl _, AV.le_nil 1 24, AV.le_nil 1 8, AV.le_refl _, trivial⟩, AV.le_refl _, trivial⟩ rfl (h' := []) (List.nil_sublist _) (AB rfl)
   obtain rfl : k = bs.length := by omega
   rw [List.take_length] at hkl hpl ⊢
   rw [← e1] at hkl
   rw [← e1, ← e2]
   rw [← e2] at hpl
   refine Ox (By (t := 17) (eb := 8) rfl rfl (fun x => rfl) (by omega)) ?_
   repeat' (first
    | ((with_reducible apply (BX (f := BP) (u := plF t i))); (focus rfl); (focus rfl); (focus (with_reducible exact ElC.h)); (focus exact BS); (focus rfl); (focus rfl); (focus rfl); (focus rfl); (focus exact Af); (focus exact Af))
    | exact True.intro | refine AP ?_ | refine two ?_ ?_
    | (refine imp fun hc => ?_) <;> try exact cx hc
    | refine all fun v_ => ?_)
   obtain ⟨qs2, rfl⟩ : ∃ x, x = v_ := ⟨v_, rfl⟩
   obtain ⟨qn2, rfl⟩ : ∃ x, x = v_ := ⟨v_, rfl⟩
   have ep : (List.range (i + 1)).map (plF t) = (List.range i).map (plF t) ++ [plF t i] := by rw [List.range_succ, List.map_append]; rfl
   have es : (List.range (i + 1)).map (seF t) = (List.range i).map (seF t) ++ [se] := by rw [List.range_succ, List.map_append, ← hse]; rfl
   refine ⟨(i + 1, q, qn2, qs2), hnext hkl, by dsimp only; omega, VS.take (by dsimp only; rw [ep, es]; exact AD) ?_⟩
   exact leD
 have hx := hg.all (by omega)
 have hi2 : i ≤ 20000 := by omega
 repeat' (first
  | exact True.intro | refine AP ?_ | refine two ?_ ?_
  | (refine imp fun hc => ?_) <;> try exact cx hc
  | refine all fun v_ => ?_)
 have eG : exG t = ⟨spF t i, B.length, (List.range i).map (plF t), (List.range i).map (seF t), A.length⟩ := by
  unfold exG; rw [hx]; dsimp only; rw [eBB, eAA]
 rw [eG, hx]
 generalize (List.range i).map (plF t) = nx at hln ⊢
 generalize (List.range i).map (seF t) = st at hls ⊢
 generalize spF t i = sp at hfew ⊢
 refine HA (VS.trans (VS.take (hc := [AH q.v 106 2 Fo.cells sp, AH qn.v 49 1 BP nx, AH qs.v 3 1 Aa st, .cells br 51 [.val q.v, .int B.length, .val qn.v, .val qs.v, .int A.length]]) (by exact AD) (Env.le_refl _))
  (VS.trans (D1 (h1 := []) (h' := [AH qn.v 49 1 BP nx, AH qs.v 3 1 Aa st, .cells br 51 [.d (AO sp), .int B.length, .val qn.v, .val qs.v, .int A.length]]) 16 rfl rfl (fun _ => rfl) (by omega) (CvE.refl _ _ _) ?_)
  (VS.trans (D1 (h1 := []) (h' := [AH qs.v 3 1 Aa st, .cells br 51 [.d (AO sp), .int B.length, .d (Ah nx), .val qs.v, .int A.length]]) 24 rfl rfl (fun _ => rfl) (by omega) (CvE.refl _ _ _) ?_)
  (D1 (h1 := []) (h' := [.cells br 51 [.d (AO sp), .int B.length, .d (Ah nx), .d (AK st), .int A.length]]) 8 rfl rfl (fun _ => rfl) (by omega) (CvE.refl _ _ _) ?_)))) (xs := [.agg [.d (AO sp), .int B.length, .d (Ah nx), .d (AK st), .int A.length], .int 0]) ⟨Ax rfl (by (with_reducible exact ElC.h)) rfl (by exact Ab) rfl, Az rfl, trivial⟩ rfl (h' := []) (List.nil_sublist _) (AB rfl)
 · exact .keep (.keep (.cells (.cons .here (.cons (.same _) (.cons (.same _) (.cons (.same _) (.cons (.same _) .nil))))) (.refl _)))
 · exact .keep (.cells (.cons (.same _) (.cons (.same _) (.cons .here (.cons (.same _) (.cons (.same _) .nil))))) (.refl _))
 · exact .cells (.cons (.same _) (.cons (.same _) (.cons (.same _) (.cons .here (.cons (.same _) .nil))))) (.refl _)
theorem GK (t : Tk) : ACr Tryz.prog GP 20 [tkA t] (.tup [grA (exG t), .int (An t).2]) := by
 by_cases h : BL t = 0
 · exact Pm t h
 · exact S9 t h
theorem hstp {p q : Prop} (hp : p) (h : p → q := by
 apply cmp; (focus (first
  | (first
    | ((with_reducible apply HB); (focus exact mixed); (focus rfl); (focus ((repeat ((with_reducible apply Hd.cons); (focus rfl))); exact Hd.nil)); (focus ((repeat (with_reducible apply AU)); exact len_nil)); (focus (decide +kernel)))
    | ((with_reducible apply PU); (focus (decide +kernel)); (focus ((repeat (with_reducible apply App.cons)); exact App.nil)))
    | ((with_reducible apply Kk); (focus rfl); (focus (decide +kernel)); (focus exact ER); (focus rfl))
    | ((with_reducible apply Yf); (focus rfl); (focus rfl); (focus rfl); (focus rfl); (focus rfl); (focus (decide +kernel)); (focus exact ER); (focus rfl))
    | ((with_reducible apply Xj); (focus rfl); (focus rfl); (focus rfl); (focus rfl); (focus rfl); (focus (decide +kernel)); (focus rfl))
    | ((with_reducible apply jh_gu); (focus rfl); (focus rfl); (focus rfl); (focus rfl); (focus (decide +kernel)); (focus rfl))
    | ((with_reducible apply MY); (focus rfl); (focus rfl); (focus rfl); (focus rfl); (focus (decide +kernel)))
    | with_reducible apply Nu
    | with_reducible apply OF
    | ((with_reducible apply X0); (focus (decide +kernel)); (focus (decide +kernel)))
    | with_reducible exact Tj
    | ((with_reducible apply XS); (focus (decide +kernel)))
    | ((with_reducible apply Ts); (focus rfl))
    | with_reducible apply SO
    )
  ))
 exact fun h => h) : q := h hp
end Go.Proofs.YtnlfhnbcdfdhgaaGreatDoor
