/- A bundle of this claim's own texts: N17 V2 E10. -/
import Derived.Test.YtniklgkoiaeipaaGreatDoorD1
import Derived.Test.YtniklgkoiaeipaaGreatDoorD8
import Derived.Test.YtniklgkoiaeipaaGreatDoorD14
import Derived.Test.YtniklgkoiaeipaaGreatDoorD21
import Derived.Test.YtniklgkoiaeipaaGreatDoorD25
import Derived.Test.YtniklgkoiaeipaaGreatDoorD26
import Derived.Test.YtniklgkoiaeipaaGreatDoorD27
import Derived.Test.YtniklgkoiaeipaaGreatDoorD28
set_option linter.unusedVariables false
set_option linter.unusedSimpArgs false
set_option maxRecDepth 100000
set_option maxHeartbeats 4000000
namespace Go.Proofs.YtniklgkoiaeipaaGreatDoor
open Go Go.Av Go.Sp
theorem cal_Explore : Cal Tryz.prog 15 := Cal.of Tryz.func15 (by kernel_rfl) (by kernel_rfl)
theorem armXN17_1 {p q : Prop} (hp : p) (h : p → q := by
 apply cmp; (focus (first
  | ((with_reducible apply call0); (focus rfl); (focus exact cal_Begin); (focus exact hB); (focus rfl))
  | ((with_reducible apply je_call0); (focus rfl); (focus (decide +kernel)); (focus rfl); (focus exact cal_Begin); (focus exact hB); (focus rfl))
  ))
 exact fun h => h) : q := h hp
theorem Explore_no (t : Tk) (h : taskF t ≠ 0) : ACr Tryz.prog GP 15 [tkA t] (.tup [grA (exG t), .int (exploreF t).2]) := by
 have hB := Begin t
 have e1 : exploreF t = (none, taskF t) := by unfold exploreF; rw [if_pos h]
 have e2 : beginF t = ([], taskF t) := by unfold beginF; rw [if_pos h]
 unfold exG
 rw [e1]
 rw [e2] at hB
 dsimp only at hB ⊢
 generalize taskF t = e at h hB ⊢
 refine AC_ofR (rs := [.cell 2 35, .tmp 3]) Tryz.f15.ntmps Tryz.func15 rfl rfl rfl (by simp [Tryz.ntmps15]) fun W I => ?_
 repeat' (first
  | refine armXN17_1 ?_
  | exact True.intro | refine stpH ?_ | refine two ?_ ?_ | refine allc fun c_ => ?_
  | (refine imp fun hc => ?_) <;> try exact cx1 hc
  | refine all fun v_ => ?_)
 exact retrl (xs := [.agg [.val (.slice none 0 0), .int 0, .val (.slice none 0 0), .val (.slice none 0 0), .int 0], .int e]) (ys := [.agg [.d (opsD []), .int 0, .d (listsD []), .d (intsD []), .int 0], .int e]) vid ⟨rv_agg rfl (by (with_reducible exact ElC.h)) rfl (by exact memD) rfl, rv_tmp rfl, trivial⟩ ⟨AV.le_agg ⟨AV.le_nil 2 16, AV.le_refl _, AV.le_nil 1 24, AV.le_nil 1 8, AV.le_refl _, trivial⟩, AV.le_refl _, trivial⟩ rfl (h' := []) (List.nil_sublist _) (ret_eq rfl)
theorem armXN17_2 {p q : Prop} (hp : p) (h : p → q := by
 apply cmp; (focus (first
  | ((with_reducible apply call0); (focus rfl); (focus exact cal_Begin); (focus exact hB); (focus rfl))
  | ((with_reducible apply je_call0); (focus rfl); (focus (decide +kernel)); (focus rfl); (focus exact cal_Begin); (focus exact hB); (focus rfl))
  | ((with_reducible apply call0); (focus rfl); (focus exact cal_Ahead); (focus exact hA); (focus rfl))
  | ((with_reducible apply je_call0); (focus rfl); (focus (decide +kernel)); (focus rfl); (focus exact cal_Ahead); (focus exact hA); (focus rfl))
  ))
 exact fun h => h) : q := h hp
theorem armXN17_3 {p q : Prop} (hp : p) (h : p → q := by
 apply cmp; (focus (first
  | ((with_reducible apply call0); (focus rfl); (focus exact cal_Letter); (focus exact hL); (focus rfl))
  | ((with_reducible apply je_call0); (focus rfl); (focus (decide +kernel)); (focus rfl); (focus exact cal_Letter); (focus exact hL); (focus rfl))
  | ((with_reducible apply call0); (focus rfl); (focus exact cal_Meets); (focus exact hM); (focus rfl))
  | ((with_reducible apply je_call0); (focus rfl); (focus (decide +kernel)); (focus rfl); (focus exact cal_Meets); (focus exact hM); (focus rfl))
  | ((with_reducible apply call0); (focus rfl); (focus exact cal_Behind); (focus exact hBh); (focus rfl))
  | ((with_reducible apply je_call0); (focus rfl); (focus (decide +kernel)); (focus rfl); (focus exact cal_Behind); (focus exact hBh); (focus rfl))
  ))
 exact fun h => h) : q := h hp
theorem Explore_yes (t : Tk) (h : taskF t = 0) : ACr Tryz.prog GP 15 [tkA t] (.tup [grA (exG t), .int (exploreF t).2]) := by
 have hB := Begin t
 have eB : (beginF t).2 = 0 := by unfold beginF; rw [if_neg (fun k => k h)]
 rw [eB] at hB
 obtain ⟨h1, h2, h3⟩ := taskF_ok h
 have hA := Ahead t.formula t.props.length
 have eA : (aheadsOf t.formula t.props.length).2 = 0 := by unfold aheadsOf; rw [if_neg (fun k => k h2)]
 rw [eA] at hA
 have hAl := aheads_few t.formula t.props.length
 have hBl := begin_few t
 refine AC_ofR (rs := [.cell 2 35, .tmp 3]) Tryz.f15.ntmps Tryz.func15 rfl rfl rfl (by simp [Tryz.ntmps15]) fun W I => ?_
 repeat' (first
  | refine armXN17_2 ?_
  | ((with_reducible apply (jmkmapE spV natV)); (focus rfl))
  | exact True.intro | refine stpA ?_ | refine two ?_ ?_
  | (refine imp fun hc => ?_) <;> try exact cx hc
  | refine all fun v_ => ?_)
 obtain ⟨ba, rfl⟩ : ∃ x, x = v_ := ⟨v_, rfl⟩
 obtain ⟨bm, rfl⟩ : ∃ x, x = v_ := ⟨v_, rfl⟩
 obtain ⟨br, rfl⟩ : ∃ x, x = v_ := ⟨v_, rfl⟩
 obtain ⟨bt, rfl⟩ : ∃ x, x = v_ := ⟨v_, rfl⟩
 have hnd : (beginF t).1.Nodup := spF_nodup t 0
 have e0 : spF t 0 = (beginF t).1 := rfl
 generalize eBB : (beginF t).1 = B at hB hBl hnd e0
 generalize eAA : (aheadsOf t.formula t.props.length).1 = A at hA hAl
 refine jrow (E := 98) (sz := 2) Fo.cells ?_
 refine jrow (E := 33) (sz := 1) listC ?_
 refine jrow (E := 3) (sz := 1) intC ?_
 refine J_loopV (X := Nat × Sl) (fun y => [(1, .val (.pointer (some ⟨bt, 0, none⟩))), (2, .val (.pointer (some ⟨br, 0, none⟩))), (8, .val (.pointer (some ⟨ba, 0, none⟩))), (57, .d (opsD B)), (58, .int B.length), (59, .int y.1)]) (fun y => [.cells ba 96 [.val y.2.v, .int B.length, .val Sl.nil.v, .val Sl.nil.v, .int A.length, .val (.map (some bm))], rowE y.2.v 98 2 Fo.cells (B.take y.1), .raw bm (mapO (entL spV natV (plcs (B.take y.1)))), rowE Sl.nil.v 33 1 listC ([]), rowE Sl.nil.v 3 1 intC ([]), .cells br 35 [.val (.slice none 0 0), .int 0, .val (.slice none 0 0), .val (.slice none 0 0), .int 0], .cells bt 29 [.d (varsD t.model.vars), .d (rulesD t.model.rules), .d (termsD t.props), .d (opsD t.formula)]]) (fun y => y.1 ≤ B.length) (fun y => B.length - y.1) (0, Sl.nil) (Nat.zero_le _) (VS.take (by exact takedD) ?_) ?_
 · exact leD
 rintro ⟨j, q⟩ hj
 dsimp only at hj ⊢
 by_cases hjl : j < B.length
 · have hnew : B[j] ∉ B.take j := fun hm => by
    obtain ⟨i, hi, e⟩ := List.getElem_of_mem hm
    rw [List.getElem_take] at e
    have := (List.getElem_inj hnd).1 e
    rw [List.length_take] at hi; omega
   have et : B.take j ++ [B[j]] = B.take (j + 1) := (List.take_succ_eq_append_getElem hjl).symm
   have F := place_new ba bm q B.length A.length (.val (.slice none 0 0)) (.val (.slice none 0 0)) (B.take j) B[j] hnew (by rw [List.length_take]; omega)
   rw [et] at F
   repeat' (first
    | ((with_reducible apply callGV); (focus rfl); (focus rfl); (focus exact cal_place); (focus exact F); (focus exact takeD); (focus rfl); (focus exact appD))
    | exact True.intro | refine stpA ?_ | refine two ?_ ?_
    | (refine imp fun hc => ?_) <;> try exact cx hc
    | refine all fun v_ => ?_)
   refine ⟨(j + 1, v_), by dsimp only; omega, by dsimp only; omega, VS.take (by exact takedD) ?_⟩
   exact leD
 obtain rfl : j = B.length := by omega
 rw [List.take_length]
 repeat' (first
  | exact True.intro | refine stpA ?_ | refine two ?_ ?_
  | (refine imp fun hc => ?_) <;> try exact cx hc
  | refine all fun v_ => ?_)
 refine J_loopV (X := Nat × Sl × Sl × Sl) (fun y => [(1, .val (.pointer (some ⟨bt, 0, none⟩))), (2, .val (.pointer (some ⟨br, 0, none⟩))), (8, .val (.pointer (some ⟨ba, 0, none⟩))), (11, .int y.1)]) (fun y => [.cells ba 96 [.val y.2.1.v, .int B.length, .val y.2.2.1.v, .val y.2.2.2.v, .int A.length, .val (.map (some bm))], rowE y.2.1.v 98 2 Fo.cells (spF t y.1), .raw bm (mapO (entL spV natV (plcs (spF t y.1)))), rowE y.2.2.1.v 33 1 listC ((List.range y.1).map (plF t)), rowE y.2.2.2.v 3 1 intC ((List.range y.1).map (seF t)), .cells br 35 [.val (.slice none 0 0), .int 0, .val (.slice none 0 0), .val (.slice none 0 0), .int 0], .cells bt 29 [.d (varsD t.model.vars), .d (rulesD t.model.rules), .d (termsD t.props), .d (opsD t.formula)]]) (fun y => GoneI t y.1) (fun y => 20001 - y.1) (0, q, Sl.nil, Sl.nil) ⟨h, fun j hj => absurd hj (Nat.not_lt_zero j)⟩ (VS.take (by dsimp only; rw [e0]; exact takedD) ?_) ?_
 · exact leD
 clear hnd e0
 rintro ⟨i, q, qn, qs⟩ hg
 dsimp only at hg ⊢
 have hfew := hg.few
 have hle := hg.le
 have hln : ((List.range i).map (plF t)).length = i := by simp
 have hls : ((List.range i).map (seF t)).length = i := by simp
 by_cases hil : i < (spF t i).length
 · obtain ⟨e1, e2, e3⟩ := spF_next hil
   have hful := fun hl => hg.full hil hl
   have hnext := fun hl => hg.next hil hl
   have hL := Letter t.model t.props (spF t i)[i].kind
   have hM := Meets t.formula (letF t.model t.props (spF t i)[i].kind).1 (spF t i)[i].val
   have hBh := Behind t (spF t i)[i].kind (spF t i)[i].val
   have hbl := behind_few t (spF t i)[i].kind (spF t i)[i].val h3
   rw [← e3] at hM
   generalize (letF t.model t.props (spF t i)[i].kind) = lp at hL hM
   generalize hse : seF t i = se at hM e3
   generalize behindF t (spF t i)[i].kind (spF t i)[i].val = bp at hBh hbl e1 e2 hful
   obtain ⟨bs, be⟩ := bp
   dsimp only at hBh hbl e1 e2 hful
   repeat' (first
    | refine armXN17_3 ?_
    | ((with_reducible apply jp); (focus ((with_reducible apply pu_load_row_agg); (focus rfl); (focus (with_reducible exact ElC.h)); (focus rfl); (focus exact memD); (focus exact fun _ => rfl); (focus omega))); (focus rfl))
    | exact True.intro | refine stpA ?_ | refine two ?_ ?_
    | (refine imp fun hc => ?_) <;> try exact cx hc
    | refine all fun v_ => ?_)
   refine jrow (E := 3) (sz := 1) intC ?_
   refine J_loopV (X := Nat × Sl × Sl) (fun y => [(1, .val (.pointer (some ⟨bt, 0, none⟩))), (2, .val (.pointer (some ⟨br, 0, none⟩))), (8, .val (.pointer (some ⟨ba, 0, none⟩))), (11, .int i), (15, .int se), (17, .val y.2.2.v), (110, .d (opsD bs)), (111, .int bs.length), (112, .int y.1)]) (fun y => [rowE y.2.2.v 3 1 intC (rndF (spF t i) (bs.take y.1)).2, .cells ba 96 [.val y.2.1.v, .int B.length, .val qn.v, .val qs.v, .int A.length, .val (.map (some bm))], rowE y.2.1.v 98 2 Fo.cells ((rndF (spF t i) (bs.take y.1)).1), .raw bm (mapO (entL spV natV (plcs ((rndF (spF t i) (bs.take y.1)).1)))), rowE qn.v 33 1 listC ((List.range i).map (plF t)), rowE qs.v 3 1 intC ((List.range i).map (seF t)), .cells br 35 [.val (.slice none 0 0), .int 0, .val (.slice none 0 0), .val (.slice none 0 0), .int 0], .cells bt 29 [.d (varsD t.model.vars), .d (rulesD t.model.rules), .d (termsD t.props), .d (opsD t.formula)]]) (fun y => y.1 ≤ bs.length ∧ (rndF (spF t i) (bs.take y.1)).1.length ≤ 20000) (fun y => bs.length - y.1) (0, q, Sl.nil) ⟨Nat.zero_le _, hfew⟩ (VS.take (by exact takedD) ?_) ?_
   · exact leD
   clear q
   rintro ⟨k, q, p⟩ ⟨hk, hkl⟩
   dsimp only at hk hkl ⊢
   have hpl : (rndF (spF t i) (bs.take k)).2.length = k := by rw [rndF_places, List.length_take]; omega
   by_cases hkb : k < bs.length
   · have hst := rndF_take bs (spF t i) k hkb
     have hgr := rndF_grow bs (spF t i) (k + 1) (bs.length - (k + 1))
     rw [show k + 1 + (bs.length - (k + 1)) = bs.length by omega, List.take_length] at hgr
     rw [hst] at hgr
     dsimp only at hgr
     generalize rndF (spF t i) (bs.take k) = R at hst hgr hkl hpl ⊢
     by_cases hb : bs[k] ∈ R.1
     · have F := place_old ba bm q B.length A.length (.val qn.v) (.val qs.v) R.1 bs[k] hb
       rw [addS_in hb] at hst
       repeat' (first
        | ((with_reducible apply callGV); (focus rfl); (focus rfl); (focus exact cal_place); (focus exact F); (focus exact takeD); (focus rfl); (focus exact appD))
        | exact True.intro | refine stpA ?_ | refine two ?_ ?_
        | (refine imp fun hc => ?_) <;> try exact cx hc
        | refine all fun v_ => ?_)
       refine ⟨(k + 1, q, v_), ⟨by dsimp only; omega, by dsimp only; rw [hst]; exact hkl⟩, by dsimp only; omega, VS.take (by dsimp only; rw [hst]; exact takedD) ?_⟩
       exact leD
     rw [addS_out hb] at hst hgr
     by_cases hl : R.1.length < 20000
     · have F := place_new ba bm q B.length A.length (.val qn.v) (.val qs.v) R.1 bs[k] hb hl
       repeat' (first
        | ((with_reducible apply callGV); (focus rfl); (focus rfl); (focus exact cal_place); (focus exact F); (focus exact takeD); (focus rfl); (focus exact appD))
        | exact True.intro | refine stpA ?_ | refine two ?_ ?_
        | (refine imp fun hc => ?_) <;> try exact cx hc
        | refine all fun v_ => ?_)
       obtain ⟨p2, rfl⟩ : ∃ x, x = v_ := ⟨v_, rfl⟩
       refine ⟨(k + 1, v_, p2), ⟨by dsimp only; omega, by dsimp only; rw [hst]; simp; omega⟩, by dsimp only; omega, VS.take (by dsimp only; rw [hst]; exact takedD) ?_⟩
       exact leD
     · have F := place_full ba bm q B.length A.length (.val qn.v) (.val qs.v) R.1 bs[k] hb (by omega)
       have hx := hful (by rw [List.length_append, List.length_singleton] at hgr; omega)
       repeat' (first
        | ((with_reducible apply callGV); (focus rfl); (focus rfl); (focus exact cal_place); (focus exact F); (focus exact takeD); (focus rfl); (focus exact appD))
        | exact True.intro | refine stpA ?_ | refine two ?_ ?_
        | (refine imp fun hc => ?_) <;> try exact cx hc
        | refine all fun v_ => ?_)
       unfold exG
       rw [hx]
       exact retrl (xs := [.agg [.val (.slice none 0 0), .int 0, .val (.slice none 0 0), .val (.slice none 0 0), .int 0], .int 12]) (ys := [.agg [.d (opsD []), .int 0, .d (listsD []), .d (intsD []), .int 0], .int 12]) vid ⟨rv_agg rfl (by (with_reducible exact ElC.h)) rfl (by exact memD) rfl, rv_tmp rfl, trivial⟩ ⟨AV.le_agg ⟨AV.le_nil 2 16, AV.le_refl _, AV.le_nil 1 24, AV.le_nil 1 8, AV.le_refl _, trivial⟩, AV.le_refl _, trivial⟩ rfl (h' := []) (List.nil_sublist _) (ret_eq rfl)
   obtain rfl : k = bs.length := by omega
   rw [List.take_length] at hkl hpl ⊢
   rw [← e1] at hkl
   rw [← e1, ← e2]
   rw [← e2] at hpl
   refine J_vs (vfreeze (t := 17) (eb := 8) rfl rfl (fun x => rfl) (by omega)) ?_
   repeat' (first
    | ((with_reducible apply (japU1 (f := listC) (u := plF t i))); (focus rfl); (focus rfl); (focus (with_reducible exact ElC.h)); (focus exact updqD); (focus rfl); (focus rfl); (focus rfl); (focus rfl); (focus exact bndD); (focus exact bndD))
    | exact True.intro | refine stpA ?_ | refine two ?_ ?_
    | (refine imp fun hc => ?_) <;> try exact cx hc
    | refine all fun v_ => ?_)
   obtain ⟨qs2, rfl⟩ : ∃ x, x = v_ := ⟨v_, rfl⟩
   obtain ⟨qn2, rfl⟩ : ∃ x, x = v_ := ⟨v_, rfl⟩
   have ep : (List.range (i + 1)).map (plF t) = (List.range i).map (plF t) ++ [plF t i] := by rw [List.range_succ, List.map_append]; rfl
   have es : (List.range (i + 1)).map (seF t) = (List.range i).map (seF t) ++ [se] := by rw [List.range_succ, List.map_append, ← hse]; rfl
   refine ⟨(i + 1, q, qn2, qs2), hnext hkl, by dsimp only; omega, VS.take (by dsimp only; rw [ep, es]; exact takedD) ?_⟩
   exact leD
 have hx := hg.all (by omega)
 have hi2 : i ≤ 20000 := by omega
 repeat' (first
  | exact True.intro | refine stpA ?_ | refine two ?_ ?_
  | (refine imp fun hc => ?_) <;> try exact cx hc
  | refine all fun v_ => ?_)
 have eG : exG t = ⟨spF t i, B.length, (List.range i).map (plF t), (List.range i).map (seF t), A.length⟩ := by
  unfold exG; rw [hx]; dsimp only; rw [eBB, eAA]
 rw [eG, hx]
 generalize (List.range i).map (plF t) = nx at hln ⊢
 generalize (List.range i).map (seF t) = st at hls ⊢
 generalize spF t i = sp at hfew ⊢
 refine retr (VS.trans (VS.take (hc := [rowE q.v 98 2 Fo.cells sp, rowE qn.v 33 1 listC nx, rowE qs.v 3 1 intC st, .cells br 35 [.val q.v, .int B.length, .val qn.v, .val qs.v, .int A.length]]) (by exact takedD) (Env.le_refl _))
  (VS.trans (vdat (h1 := []) (h' := [rowE qn.v 33 1 listC nx, rowE qs.v 3 1 intC st, .cells br 35 [.d (opsD sp), .int B.length, .val qn.v, .val qs.v, .int A.length]]) 16 rfl rfl (fun _ => rfl) (by omega) (CvE.refl _ _ _) ?_)
  (VS.trans (vdat (h1 := []) (h' := [rowE qs.v 3 1 intC st, .cells br 35 [.d (opsD sp), .int B.length, .d (listsD nx), .val qs.v, .int A.length]]) 24 rfl rfl (fun _ => rfl) (by omega) (CvE.refl _ _ _) ?_)
  (vdat (h1 := []) (h' := [.cells br 35 [.d (opsD sp), .int B.length, .d (listsD nx), .d (intsD st), .int A.length]]) 8 rfl rfl (fun _ => rfl) (by omega) (CvE.refl _ _ _) ?_)))) (xs := [.agg [.d (opsD sp), .int B.length, .d (listsD nx), .d (intsD st), .int A.length], .int 0]) ⟨rv_agg rfl (by (with_reducible exact ElC.h)) rfl (by exact memD) rfl, rv_tmp rfl, trivial⟩ rfl (h' := []) (List.nil_sublist _) (ret_eq rfl)
 · exact .keep (.keep (.cells (.cons .here (.cons (.same _) (.cons (.same _) (.cons (.same _) (.cons (.same _) .nil))))) (.refl _)))
 · exact .keep (.cells (.cons (.same _) (.cons (.same _) (.cons .here (.cons (.same _) (.cons (.same _) .nil))))) (.refl _))
 · exact .cells (.cons (.same _) (.cons (.same _) (.cons (.same _) (.cons .here (.cons (.same _) .nil))))) (.refl _)
theorem Explore (t : Tk) : ACr Tryz.prog GP 15 [tkA t] (.tup [grA (exG t), .int (exploreF t).2]) := by
 by_cases h : taskF t = 0
 · exact Explore_yes t h
 · exact Explore_no t h

theorem cal_SReached : Cal Tryz.prog 149 := Cal.of Tryz.func149 (by kernel_rfl) (by kernel_rfl)
theorem cal_visit : Cal Tryz.prog 193 := Cal.of Tryz.func193 (by kernel_rfl) (by kernel_rfl)
abbrev gnA (g : Gn) : AV := .agg [.d (opsD g.spots), .int g.init, .d (natLD g.next), .d (natsD g.sets), .int g.many]
theorem gnA_eq (g : Gn) : grA g.gr = gnA g := by
 unfold grA gnA Gn.gr
 rw [natsD_eq, natLD_eq]
end Go.Proofs.YtniklgkoiaeipaaGreatDoor
namespace Go.Av
open Go Go.Instr

structure Qu where
 g : Nat
 off : Nat
 c : Nat
 pre : List AV
 post : List AV
abbrev Qu.v (q : Qu) (n : Nat) : Value := .slice (some ⟨q.g, q.off, none⟩) n q.c
abbrev quE (E : TypeId) (q : Qu) (xs : List Int) : Ent := .cells q.g E (q.pre ++ xs.map AV.int ++ q.post)
structure Qu.Ok (q : Qu) (n : Nat) : Prop where
 pre : q.pre.length = q.off
 lo : n ≤ q.c
 hi : q.c ≤ n + q.post.length
def Qu.tl (q : Qu) (x : Int) : Qu := if q.c = 1 then ⟨q.g, q.off, 0, q.pre, .int x :: q.post⟩ else ⟨q.g, q.off + 1, q.c - 1, q.pre ++ [.int x], q.post⟩
theorem quE_tl (E : TypeId) (q : Qu) (x : Int) (t : List Int) (ok : q.Ok (t.length + 1)) : quE E (q.tl x) t = quE E q (x :: t) := by
 unfold Qu.tl
 by_cases h : q.c = 1
 · have h1 := ok.lo
   obtain rfl : t = [] := List.length_eq_zero_iff.1 (by omega)
   rw [if_pos h]; simp [quE]
 · rw [if_neg h]; simp [quE]
theorem Qu.Ok.tl {q : Qu} {x : Int} {n : Nat} (ok : q.Ok (n + 1)) : (q.tl x).Ok n := by
 obtain ⟨h1, h2, h3⟩ := ok
 unfold Qu.tl
 by_cases h : q.c = 1
 · rw [if_pos h]; exact ⟨h1, by dsimp only; omega, by simp⟩
 · rw [if_neg h]; exact ⟨by simp [h1], by dsimp only; omega, by dsimp only; omega⟩
theorem qu_head (q : Qu) (x : Int) (t : List Int) (ok : q.Ok (t.length + 1)) : (q.pre ++ (x :: t).map AV.int ++ q.post)[q.off]? = some (.int x) := by
 rw [← ok.pre, List.append_assoc, List.getElem?_append_right (Nat.le_refl _), Nat.sub_self]; rfl
section
variable {P : Program} {G : List (Nat × List D)} {ρ : Env} {h : H} {dst : Option Tmp} {ty : TypeId} {pos : String} {after : Array Edge} {g : Option (Nat × Bool)}
theorem pu_qu_tl {T E : TypeId} {x lo : Operand} {q : Qu} {n : Nat} {z : Value} {eb : Nat} (a : Int) (hx : evO ρ x = some (.val (q.v (n + 1)))) (hlo : evO ρ lo = some (.int 1)) (hT : P.underlying T = some (.slice E)) (hE : El P E z 1 eb) (ok : q.Ok (n + 1)) :
 Pure P G ⟨dst, .slice T x (some lo) none none, ty, pos, after, g⟩ ρ h (.val ((q.tl a).v n)) :=
 pure_free fun w I _ ac k => by
  have e1 := rel_val (k.ev x) (ev_of_evO hx)
  have e2 := rel_val (k.ev lo) (ev_of_evO hlo)
  obtain ⟨i, hi, _, hsz, _⟩ := hE.get
  refine ⟨_, rfl, fun w' => ?_⟩
  have hlo := ok.lo
  unfold Qu.tl
  by_cases hc : q.c = 1
  · obtain rfl : n = 0 := by omega
    rw [if_pos hc]
    simp [execOp, e1, e2, hc, Instr.sliceAt, run_underlying hT, Instr.slice, Instr.sliceBounds, Instr.sliceBound, asIntOf, sizeOf, typeInfo, hi, hsz]
  · rw [if_neg hc]
    have h1 : ¬ ((q.c : Int) - 1 = 0) := by omega
    have h2 : (1 : Int) ≤ n + 1 := by omega
    have h3 : ((n : Int) + 1) ≤ q.c := by omega
    simp [execOp, e1, e2, hc, Instr.sliceAt, run_underlying hT, Instr.slice, Instr.sliceBounds, Instr.sliceBound, asIntOf, sizeOf, typeInfo, hi, hsz, Addr.add_lit]
    intro hh; omega
theorem pu_qu_at0 {T E : TypeId} {x y : Operand} {q : Qu} {n : Nat} {z : Value} {eb : Nat} (hx : evO ρ x = some (.val (q.v n))) (hy : evO ρ y = some (.int 0)) (hT : P.underlying T = some (.slice E)) (hE : El P E z 1 eb) (h1 : 0 < n) :
 Pure P G ⟨dst, .indexAddr T x y, ty, pos, after, g⟩ ρ h (.val (.pointer (some ⟨q.g, q.off, none⟩))) :=
 pure_free fun w I _ ac k => by
  have e1 := rel_val (k.ev x) (ev_of_evO hx)
  have e2 := rel_val (k.ev y) (ev_of_evO hy)
  obtain ⟨i, hi, _, hsz, _⟩ := hE.get
  refine ⟨_, rfl, fun w' => ?_⟩
  have h2 : (0 : Int) < n := by omega
  simp [execOp, e1, e2, Instr.indexAt, run_underlying hT, asIntOf, h2, h1, sizeOf, typeInfo, hi, hsz, Addr.add_lit]
end
section
variable {k : Kx} {Q : Exit → Env → H → Prop} {ρ : Env} {h h' : H} {ops : Array Oper} {l : List Oper} {d : Nat} {ty : TypeId} {pos : String} {after : Array Edge}
theorem J_openQ {x : Code} {q : Sl} {xs : List Int} {E : TypeId} {h1 h2 : H} (hn : 0 < xs.length) (hj : ∀ q' : Qu, q'.Ok xs.length → q.v = q'.v xs.length → J k x Q ρ (h1 ++ quE E q' xs :: h2)) : J k x Q ρ (h1 ++ rowE q.v E 1 Sp.intC xs :: h2) := by
 intro I a w k1 k2 k3
 obtain ⟨g, cap, cur, rfl, hg, hnc, hcm, hcs, hrel⟩ := Ent.row_form (k1.ent (rowE q.v E 1 Sp.intC xs) (by simp)) hn
 rw [Nat.mul_one] at hcs hrel
 have hmap : ((xs.map Sp.intC).flatten).map D.av = xs.map AV.int := by
  clear hn hnc hrel k1 hj
  induction xs with
  | nil => rfl
  | cons x xs ih => simp only [List.map_cons, List.flatten_cons, List.map_append, ih]; rfl
 rw [hmap] at hrel
 let q' : Qu := ⟨g, 0, cap, [], (cur.toList.drop xs.length).map AV.val⟩
 have hok : q'.Ok xs.length := ⟨rfl, hnc, by
  show cap ≤ xs.length + ((cur.toList.drop xs.length).map AV.val).length
  have ecl : cur.toList.length = cap := hcs
  rw [List.length_map, List.length_drop, ecl]; omega⟩
 have he : Ent.rel w I (quE E q' xs) := by
  refine ⟨cur, hg, ?_⟩
  have := AV.rels_append hrel (rels_vals w I (cur.toList.drop xs.length))
  rw [List.take_append_drop] at this
  exact this
 exact hj q' hok rfl I a w (k1.reent (e := rowE (Sl.v ⟨some ⟨g, 0, none⟩, xs.length, cap⟩) E 1 Sp.intC xs) (e' := quE E q' xs) rfl he) k2 k3
theorem jqu_app {T E : TypeId} {x y : Operand} {z : Value} {eb eb' : Nat} {q : Qu} {n : Nat} {xs : List Int} {kk : Int} {H' : Qu → H} (hx : evO ρ x = some (.val (q.v n))) (hy : evO ρ y = some (.d (.l 1 eb' [[.i .i64 kk]]))) (hT : k.P.underlying T = some (.slice E)) (he : El k.P E z 1 eb) (hz : z.cells.size = 1) (hn : n = xs.length)
 (ok : q.Ok n) (hd : Nat.blt d k.n = true) (hb : (n + 1) * eb ≤ 140737488355328) (hm : n + 1 ≤ 140737488355328)
 (hu : ∀ q', Upd (quE E q xs) (quE E q' (xs ++ [kk])) h (H' q')) (hj : All fun q' : Qu => Imp (q'.Ok (n + 1)) (JL k ops l Q ((d, .val (q'.v (n + 1))) :: ρ) (H' q'))) :
 JL k ops (⟨some d, .call { callee := .builtin .append, args := #[x, y], argTypes := #[T, T] }, ty, pos, after, none⟩ :: l) Q ρ h := by
 subst hn
 obtain ⟨i, hi, hz0, hz1, hz2⟩ := he.get
 refine JL_eff rfl (fun t ht => by cases ht; exact blt hd) fun I a w k1 k2 => ?_
 have e1 : a.eval x = q.v xs.length := rel_val (k2.ev x) (ev_of_evO hx)
 have e2 := rel_as (k2.ev y) (ev_of_evO hy)
 have hmem : quE E q xs ∈ h := by obtain ⟨h1, h2, e, _⟩ := (hu q).split; rw [e]; simp
 obtain ⟨cs, hc1, hc2⟩ := k1.ent _ hmem
 have hcl : cs.toList.length = q.off + xs.length + q.post.length := by
  rw [(AV.rels_length hc2).symm, List.length_append, List.length_append, List.length_map, ok.pre]
 have hpl : (q.pre ++ xs.map AV.int).length = q.off + xs.length := by rw [List.length_append, List.length_map, ok.pre]
 rcases Rel.cells_of (by decide) e2 with ⟨e3, e4⟩ | ⟨ad, cap, us, e3, hl, hc, h1c, hrel⟩
 · cases e4
 obtain ⟨u, rfl⟩ : ∃ u, us = [u] := List.length_eq_one_iff.1 hl
 obtain rfl : u = .int .i64 kk := hrel.1
 have hlo := ok.lo
 have hhi := ok.hi
 by_cases hroom : xs.length + 1 ≤ q.c
 · obtain ⟨p, ps, hps⟩ : ∃ p ps, q.post = p :: ps := by
    cases hq : q.post with
    | nil => rw [hq] at hhi; simp at hhi; omega
    | cons p ps => exact ⟨p, ps, rfl⟩
   let q' : Qu := ⟨q.g, q.off, q.c, q.pre, ps⟩
   have hq' : q'.Ok (xs.length + 1) := ⟨ok.pre, hroom, by rw [hps, List.length_cons] at hhi; show q.c ≤ xs.length + 1 + ps.length; omega⟩
   obtain ⟨h1, h2, eh, eH⟩ := (hu q').split
   have hj' := (hj.get q').get hq'
   rw [eH] at hj'
   rw [eh] at k1
   have hst := run_storeCells_at k.P q.g (q.off + xs.length) E [.int .i64 kk] 0 cs w hc1 (by rw [hps, List.length_cons] at hcl; simp only [Array.length_toList] at hcl; simp only [List.length_singleton]; omega) h1c
   simp only [Nat.add_zero, List.length_singleton] at hst
   have hkeep := fun (y : Nat) (hy : y ≠ q.g) => setRow_other w q.g y (cs.toList.take (q.off + xs.length) ++ [Value.int .i64 kk] ++ cs.toList.drop (q.off + xs.length + 1)).toArray hy
   have hb : blks (h1 ++ quE E q xs :: h2) = blks h1 ++ q.g :: blks h2 := by simp [blks, Ent.blk]
   have hI : ∀ z, I z → z ≠ q.g := fun z hz e => by subst e; exact (k1.imm _ hz).2 (by rw [hb]; simp)
   have hre : Ent.rel (w.setRow q.g (cs.toList.take (q.off + xs.length) ++ [Value.int .i64 kk] ++ cs.toList.drop (q.off + xs.length + 1)).toArray) I (quE E q' (xs ++ [kk])) := by
    refine ⟨_, setRow_heap w q.g cs _ E (0, 0) hc1, ?_⟩
    have m : ∀ {ys : List AV} {us : List Value}, AV.rels w I ys us → AV.rels (w.setRow q.g (cs.toList.take (q.off + xs.length) ++ [Value.int .i64 kk] ++ cs.toList.drop (q.off + xs.length + 1)).toArray) I ys us := fun h => AV.rels_mono (fun y hy => hkeep y (hI y hy)) (fun _ h => h) h
    have t1 := rels_take (q.off + xs.length) hc2
    have t2 := rels_drop (q.off + xs.length + 1) hc2
    rw [List.take_append_of_le_length (by omega), List.take_of_length_le (by omega)] at t1
    rw [hps, show q.off + xs.length + 1 = (q.pre ++ xs.map AV.int).length + 1 by rw [hpl], List.drop_append, List.drop_of_length_le (by omega), List.nil_append, show (q.pre ++ xs.map AV.int).length + 1 - (q.pre ++ xs.map AV.int).length = 1 by omega, List.drop_succ_cons, List.drop_zero, hpl] at t2
    have e : q'.pre ++ (xs ++ [kk]).map AV.int ++ q'.post = (q.pre ++ xs.map AV.int) ++ [AV.int kk] ++ ps := by simp [q']
    rw [e]
    exact AV.rels_append (AV.rels_append (m t1) ⟨rfl, trivial⟩) (m t2)
   obtain ⟨m1, m2⟩ := k1.write (e := quE E q xs) (e' := quE E q' (xs ++ [kk])) (b := q.g) (w' := w.setRow q.g _) rfl rfl rfl rfl rfl (by simp) hkeep hre
   refine ⟨.slice (some ⟨q.g, q.off, none⟩) (xs.length + 1) q.c, _, I, .val (q'.v (xs.length + 1)), _, ?_, m1, k2.mono m2 (fun _ h => h), rfl, hj'⟩
   have hf : (Builtin.firstCells 1 1 (.slice (some ad) 1 cap)).run k.P w = .ok [Value.int .i64 kk].toArray w := run_firstCells_some (P := k.P) w 1 1 ad 1 cap [.int .i64 kk] rfl hc
   have e3' : a.eval y = .slice (some ad) 1 cap := e3
   simp [execOp, resolve, invoke, builtin, e1, e3', Builtin.append_, run_underlying hT, sizeOf, typeInfo, hi, Builtin.lenOf, hroom, hz1, hf, Addr.add_lit, hst]
 · have holds : ∀ j u, (xs.map (Value.int .i64))[j]? = some u → w.cell? ((⟨q.g, q.off, none⟩ : Addr).add j) = some u := fun j u hu => by
    rw [Addr.add_lit, cell_of_row w q.g (q.off + j) cs E (0, 0) hc1]
    have hj : j < xs.length := by
     have := (List.getElem?_eq_some_iff.1 hu).1
     simpa using this
    obtain ⟨v, h1, h2⟩ := AV.rels_get hc2 (q.off + j) (.int xs[j]) (by
     rw [List.getElem?_append_left (by omega), List.getElem?_append_right (by rw [ok.pre]; omega), ok.pre, Nat.add_sub_cancel_left, List.getElem?_map, List.getElem?_eq_getElem hj]; rfl)
    rw [List.getElem?_map, List.getElem?_eq_getElem hj] at hu
    cases hu
    obtain rfl : v = .int .i64 xs[j] := h2
    simpa using h1
   have e3' : a.eval y = .slice (some ad) 1 cap := e3
   have hr := run_append_grow (P := k.P) w T ty E i z hT hi hz0 ⟨q.g, q.off, none⟩ xs.length q.c (xs.map (Value.int .i64)) (by rw [hz1]; simp) holds ad 1 cap [.int .i64 kk] (by rw [hz1]; rfl) hc (by omega) (by omega) (growslice_fits (by omega) (by rw [hz2]; exact hb))
   generalize hzc : Builtin.zeroCells z.cells (grownCap w (xs.length + 1) q.c E - (xs.length + 1)) = zc at hr
   have hge := grownCap_ge w (xs.length + 1) q.c E
   have hzs : zc.size = grownCap w (xs.length + 1) q.c E - (xs.length + 1) := by rw [← hzc, size_zeroCells, hz, Nat.mul_one]
   generalize grownCap w (xs.length + 1) q.c E = cp at hr hge hzs
   obtain ⟨O, hO⟩ : ∃ O, O = Obj.cells ((xs.map (Value.int .i64)).toArray ++ [Value.int .i64 kk].toArray ++ zc) E := ⟨_, rfl⟩
   rw [← hO] at hr
   let q' : Qu := ⟨w.heap.size, 0, cp, [], zc.toList.map AV.val⟩
   have hq' : q'.Ok (xs.length + 1) := ⟨rfl, hge, by
    have ezc : zc.toList.length = cp - (xs.length + 1) := hzs
    show cp ≤ xs.length + 1 + (zc.toList.map AV.val).length
    rw [List.length_map, ezc]; omega⟩
   obtain ⟨h1, h2, eh, eH⟩ := (hu q').split
   have hj' := (hj.get q').get hq'
   rw [eH] at hj'
   rw [eh] at k1
   have hdr : Same I (h1 ++ quE E q xs :: h2) w w.drew := ⟨rfl, rfl, rfl, Nat.le_refl _, fun _ _ => rfl⟩
   have kd := k1.same hdr
   have sd := k2.same k1 hdr
   have hmapv : ∀ l : List Int, l.map AV.int = (l.map (Value.int .i64)).map AV.val := fun l => by rw [List.map_map]; rfl
   have hre : Ent.rel (w.drew.alloc O) I (quE E q' (xs ++ [kk])) := by
    rw [hO]
    refine ⟨_, heap_alloc_new w.drew _, ?_⟩
    have e : q'.pre ++ (xs ++ [kk]).map AV.int ++ q'.post = ((xs.map (Value.int .i64)) ++ [Value.int .i64 kk] ++ zc.toList).map AV.val := by simp [q', hmapv]
    rw [e]
    have := rels_vals (w.drew.alloc (Obj.cells ((xs.map (Value.int .i64)).toArray ++ [Value.int .i64 kk].toArray ++ zc) E)) I ((xs.map (Value.int .i64)) ++ [Value.int .i64 kk] ++ zc.toList)
    simpa using this
   have kf := kd.fresh O (quE E q' (xs ++ [kk])) rfl hre
   have sf := sd.fresh kd O
   have hp : (quE E q' (xs ++ [kk]) :: (h1 ++ quE E q xs :: h2)).Perm (quE E q xs :: (h1 ++ quE E q' (xs ++ [kk]) :: h2)) := by
    refine (List.Perm.cons _ List.perm_middle).trans ((List.Perm.swap _ _ _).trans (List.Perm.cons _ List.perm_middle.symm))
   obtain ⟨I', m1, m2⟩ := VS.trans (VS.perm (ρ := ρ) hp) (VS.drop (List.sublist_cons_self _ _)) _ _ _ _ _ kf sf
   exact ⟨_, _, I', .val (q'.v (xs.length + 1)), _, by simp [execOp, resolve, invoke, builtin, e1, e3', hr]; exact ⟨⟨rfl, rfl⟩, rfl⟩, m1, m2, rfl, hj'⟩
end
section
variable {P : Program} {G : List (Nat × List D)} {ρ : Env} {h : H} {dst : Option Tmp} {ty : TypeId} {pos : String} {after : Array Edge} {g : Option (Nat × Bool)}
theorem pu_lookM0 {α β : Type} [DecidableEq α] {kd : TypeDesc} {kv : α → Value} {vv : β → Value} (K : KeyK kd kv) {T KT ET : TypeId} {x y : Operand} {b : Nat} {ps : List (α × β)} {a : α} {z : Value} {sz eb : Nat}
 (hx : evO ρ x = some (.val (.map (some b)))) (hy : evO ρ y = some (.val (kv a))) (hT : P.underlying T = some (.map KT ET)) (hK : P.underlying KT = some kd) (hE : El P ET z sz eb) (hm : Ent.raw b (mapO (entL kv vv ps)) ∈ h) (hg : getM ps a = none) :
 Pure P G ⟨dst, .lookup T x y true, ty, pos, after, g⟩ ρ h (.tup [.val z, .bool false]) := by
 have := pu_lookM (G := G) (dst := dst) (ty := ty) (pos := pos) (after := after) (g := g) K hx hy hT hK hE hm
 rw [hg] at this; exact this
theorem pu_lookM2 {α β : Type} [DecidableEq α] {kd : TypeDesc} {kv : α → Value} {vv : β → Value} (K : KeyK kd kv) {T KT ET : TypeId} {x y : Operand} {b : Nat} {ps : List (α × β)} {a : α} {c : β} {z : Value} {sz eb : Nat}
 (hx : evO ρ x = some (.val (.map (some b)))) (hy : evO ρ y = some (.val (kv a))) (hT : P.underlying T = some (.map KT ET)) (hK : P.underlying KT = some kd) (hE : El P ET z sz eb) (hm : Ent.raw b (mapO (entL kv vv ps)) ∈ h) (hg : getM ps a = some c) :
 Pure P G ⟨dst, .lookup T x y true, ty, pos, after, g⟩ ρ h (.tup [.val (vv c), .bool true]) := by
 have := pu_lookM (G := G) (dst := dst) (ty := ty) (pos := pos) (after := after) (g := g) K hx hy hT hK hE hm
 rw [hg] at this; exact this
end
section
variable {k : Kx} {Q : Exit → Env → H → Prop} {ρ : Env} {h h' : H} {ops : Array Oper} {l : List Oper} {d : Nat} {ty : TypeId} {pos : String} {after : Array Edge}
theorem jrow_i1 {T E : TypeId} {x : Operand} {a : Int} {z : Value} {eb : Nat} (h0 : evO ρ x = some (.int a)) (hT : k.P.underlying T = some (.slice E)) (he : El k.P E z 1 eb)
 (hd : Nat.blt d k.n = true) (hj : All fun q : Sl => JL k ops l Q ((d, .val q.v) :: ρ) (rowE q.v E 1 Sp.intC [a] :: h)) : JL k ops (⟨some d, .buildSlice T 1 #[(0, x)], ty, pos, after, none⟩ :: l) Q ρ h := by
 refine JL_buildRow (f := Sp.intC) (ys := [a]) (xs := [x]) hT he (by decide) (by simp) rfl ?_ ?_ (fun _ => rfl) (by simp) hd ⟨fun v => JL_slice (h1 := []) rfl fun q e => by subst e; exact hj.get q⟩
 · simp only [List.map_cons, List.map_nil, ev_of_evO h0]; rfl
 · intro x hx
   simp only [List.mem_cons, List.not_mem_nil, or_false] at hx
   rw [hx, ev_of_evO h0]; rfl
end
end Go.Av
