/- A bundle of this claim's own texts: N17 E12 N18. -/
import Derived.Test.YtniklgkoiaeipaaGreatDoorZ2
import Derived.Test.YtniklgkoiaeipaaGreatDoorZ9
import Derived.Test.YtniklgkoiaeipaaGreatDoorZ25
import Derived.Test.YtniklgkoiaeipaaGreatDoorZ26
import Derived.Test.YtniklgkoiaeipaaGreatDoorZ27
import Derived.Test.YtniklgkoiaeipaaGreatDoorZ28
namespace Go.Proofs.YtniklgkoiaeipaaGreatDoor
open Go Go.Av Go.Sp
set_option linter.unusedVariables false
set_option linter.unusedSimpArgs false
set_option maxRecDepth 100000
set_option maxHeartbeats 4000000
theorem cal_Explore : Cal Tryz.prog 15 := Cal.of Tryz.func15 (by kernel_rfl) (by kernel_rfl)
theorem armXN17_1 {p q : Prop} (hp : p) (h : p → q := by
 apply cmp; (focus (first
  | ((with_reducible apply call0); (focus rfl); (focus exact cal_Begin); (focus exact hB); (focus rfl))
  | ((with_reducible apply je_call0); (focus rfl); (focus (decide +kernel)); (focus rfl); (focus exact cal_Begin); (focus exact hB); (focus rfl))
  ))
 exact fun h => h) : q := h hp
theorem Explore_no (t : Tk) (h : taskF t ≠ 0) : ACr Tryz.prog GP 15 [tkA t] (.tup [grA (exG t), .int (exploreF t).2]) := by
 have hB := Begin t
 have e1 : exploreF t = (none, taskF t) := by unfold exploreF; rw [if_pos h]
 have e2 : beginF t = ([], taskF t) := by unfold beginF; rw [if_pos h]
 unfold exG
 rw [e1]
 rw [e2] at hB
 dsimp only at hB ⊢
 generalize taskF t = e at h hB ⊢
 refine AC_ofR (rs := [.cell 2 35, .tmp 3]) Tryz.f15.ntmps Tryz.func15 rfl rfl rfl (by simp [Tryz.ntmps15]) fun W I => ?_
 all_goals haveI fA_ : FlagA := ⟨⟩
 all_goals haveI fH_ : FlagH := ⟨⟩
 repeat' (first
  | refine armXN17_1 ?_
  | exact True.intro
  | refine stp ?_
  | refine two ?_ ?_
  | refine allc fun c_ => ?_
  | (refine imp fun hc => ?_) <;> try exact cx1 hc
  | refine all fun v_ => ?_)
 all_goals clear fA_ fH_
 exact retrl (xs := [.agg [.val (.slice none 0 0), .int 0, .val (.slice none 0 0), .val (.slice none 0 0), .int 0], .int e]) (ys := [.agg [.d (opsD []), .int 0, .d (listsD []), .d (intsD []), .int 0], .int e]) vid ⟨rv_agg rfl (by (with_reducible exact ElC.h)) rfl (by exact memD) rfl, rv_tmp rfl, trivial⟩ ⟨AV.le_agg ⟨AV.le_nil 2 16, AV.le_refl _, AV.le_nil 1 24, AV.le_nil 1 8, AV.le_refl _, trivial⟩, AV.le_refl _, trivial⟩ rfl (h' := []) (List.nil_sublist _) (ret_eq rfl)
theorem armXN17_2 {p q : Prop} (hp : p) (h : p → q := by
 apply cmp; (focus (first
  | ((with_reducible apply call0); (focus rfl); (focus exact cal_Begin); (focus exact hB); (focus rfl))
  | ((with_reducible apply je_call0); (focus rfl); (focus (decide +kernel)); (focus rfl); (focus exact cal_Begin); (focus exact hB); (focus rfl))
  | ((with_reducible apply call0); (focus rfl); (focus exact cal_Ahead); (focus exact hA); (focus rfl))
  | ((with_reducible apply je_call0); (focus rfl); (focus (decide +kernel)); (focus rfl); (focus exact cal_Ahead); (focus exact hA); (focus rfl))
  ))
 exact fun h => h) : q := h hp
theorem armXN17_3 {p q : Prop} (hp : p) (h : p → q := by
 apply cmp; (focus (first
  | ((with_reducible apply call0); (focus rfl); (focus exact cal_Letter); (focus exact hL); (focus rfl))
  | ((with_reducible apply je_call0); (focus rfl); (focus (decide +kernel)); (focus rfl); (focus exact cal_Letter); (focus exact hL); (focus rfl))
  | ((with_reducible apply call0); (focus rfl); (focus exact cal_Meets); (focus exact hM); (focus rfl))
  | ((with_reducible apply je_call0); (focus rfl); (focus (decide +kernel)); (focus rfl); (focus exact cal_Meets); (focus exact hM); (focus rfl))
  | ((with_reducible apply call0); (focus rfl); (focus exact cal_Behind); (focus exact hBh); (focus rfl))
  | ((with_reducible apply je_call0); (focus rfl); (focus (decide +kernel)); (focus rfl); (focus exact cal_Behind); (focus exact hBh); (focus rfl))
  ))
 exact fun h => h) : q := h hp
theorem Explore_yes (t : Tk) (h : taskF t = 0) : ACr Tryz.prog GP 15 [tkA t] (.tup [grA (exG t), .int (exploreF t).2]) := by
 have hB := Begin t
 have eB : (beginF t).2 = 0 := by unfold beginF; rw [if_neg (fun k => k h)]
 rw [eB] at hB
 obtain ⟨h1, h2, h3⟩ := taskF_ok h
 have hA := Ahead t.formula t.props.length
 have eA : (aheadsOf t.formula t.props.length).2 = 0 := by unfold aheadsOf; rw [if_neg (fun k => k h2)]
 rw [eA] at hA
 have hAl := aheads_few t.formula t.props.length
 have hBl := begin_few t
 refine AC_ofR (rs := [.cell 2 35, .tmp 3]) Tryz.f15.ntmps Tryz.func15 rfl rfl rfl (by simp [Tryz.ntmps15]) fun W I => ?_
 all_goals haveI fA_ : FlagA := ⟨⟩
 repeat' (first
  | refine armXN17_2 ?_
  | ((with_reducible apply (jmkmapE spV natV)); (focus rfl))
  | exact True.intro
  | refine stp ?_
  | refine two ?_ ?_
  | (refine imp fun hc => ?_) <;> try exact cx hc
  | refine all fun v_ => ?_)
 all_goals clear fA_
 obtain ⟨ba, rfl⟩ : ∃ x, x = v_ := ⟨v_, rfl⟩
 obtain ⟨bm, rfl⟩ : ∃ x, x = v_ := ⟨v_, rfl⟩
 obtain ⟨br, rfl⟩ : ∃ x, x = v_ := ⟨v_, rfl⟩
 obtain ⟨bt, rfl⟩ : ∃ x, x = v_ := ⟨v_, rfl⟩
 have hnd : (beginF t).1.Nodup := spF_nodup t 0
 have e0 : spF t 0 = (beginF t).1 := rfl
 generalize eBB : (beginF t).1 = B at hB hBl hnd e0
 generalize eAA : (aheadsOf t.formula t.props.length).1 = A at hA hAl
 refine jrow (E := 98) (sz := 2) Fo.cells ?_
 refine jrow (E := 33) (sz := 1) listC ?_
 refine jrow (E := 3) (sz := 1) intC ?_
 refine J_loopV (X := Nat × Sl) (fun y => [(1, .val (.pointer (some ⟨bt, 0, none⟩))), (2, .val (.pointer (some ⟨br, 0, none⟩))), (8, .val (.pointer (some ⟨ba, 0, none⟩))), (57, .d (opsD B)), (58, .int B.length), (59, .int y.1)]) (fun y => [.cells ba 96 [.val y.2.v, .int B.length, .val Sl.nil.v, .val Sl.nil.v, .int A.length, .val (.map (some bm))], rowE y.2.v 98 2 Fo.cells (B.take y.1), .raw bm (mapO (entL spV natV (plcs (B.take y.1)))), rowE Sl.nil.v 33 1 listC ([]), rowE Sl.nil.v 3 1 intC ([]), .cells br 35 [.val (.slice none 0 0), .int 0, .val (.slice none 0 0), .val (.slice none 0 0), .int 0], .cells bt 29 [.d (varsD t.model.vars), .d (rulesD t.model.rules), .d (termsD t.props), .d (opsD t.formula)]]) (fun y => y.1 ≤ B.length) (fun y => B.length - y.1) (0, Sl.nil) (Nat.zero_le _) (VS.take (by exact takedD) ?_) ?_
 · exact leD
 rintro ⟨j, q⟩ hj
 dsimp only at hj ⊢
 by_cases hjl : j < B.length
 · have hnew : B[j] ∉ B.take j := fun hm => by
    obtain ⟨i, hi, e⟩ := List.getElem_of_mem hm
    rw [List.getElem_take] at e
    have := (List.getElem_inj hnd).1 e
    rw [List.length_take] at hi; omega
   have et : B.take j ++ [B[j]] = B.take (j + 1) := (List.take_succ_eq_append_getElem hjl).symm
   have F := place_new ba bm q B.length A.length (.val (.slice none 0 0)) (.val (.slice none 0 0)) (B.take j) B[j] hnew (by rw [List.length_take]; omega)
   rw [et] at F
   all_goals haveI fA_ : FlagA := ⟨⟩
   repeat' (first
    | ((with_reducible apply callGV); (focus rfl); (focus rfl); (focus exact cal_place); (focus exact F); (focus ((repeat (first | with_reducible exact Take.nil | ((with_reducible apply Take.cons); (focus ((repeat (first | with_reducible exact Sel.here | with_reducible apply Sel.there)); done))))); done)); (focus rfl); (focus (intro v_; (repeat (first | exact App.nil | apply App.cons)); done)))
    | exact True.intro
    | refine stp ?_
    | refine two ?_ ?_
    | (refine imp fun hc => ?_) <;> try exact cx hc
    | refine all fun v_ => ?_)
   all_goals clear fA_
   refine ⟨(j + 1, v_), by dsimp only; omega, by dsimp only; omega, VS.take (by exact takedD) ?_⟩
   exact leD
 obtain rfl : j = B.length := by omega
 rw [List.take_length]
 all_goals haveI fA_ : FlagA := ⟨⟩
 repeat' (first
  | exact True.intro
  | refine stp ?_
  | refine two ?_ ?_
  | (refine imp fun hc => ?_) <;> try exact cx hc
  | refine all fun v_ => ?_)
 all_goals clear fA_
 refine J_loopV (X := Nat × Sl × Sl × Sl) (fun y => [(1, .val (.pointer (some ⟨bt, 0, none⟩))), (2, .val (.pointer (some ⟨br, 0, none⟩))), (8, .val (.pointer (some ⟨ba, 0, none⟩))), (11, .int y.1)]) (fun y => [.cells ba 96 [.val y.2.1.v, .int B.length, .val y.2.2.1.v, .val y.2.2.2.v, .int A.length, .val (.map (some bm))], rowE y.2.1.v 98 2 Fo.cells (spF t y.1), .raw bm (mapO (entL spV natV (plcs (spF t y.1)))), rowE y.2.2.1.v 33 1 listC ((List.range y.1).map (plF t)), rowE y.2.2.2.v 3 1 intC ((List.range y.1).map (seF t)), .cells br 35 [.val (.slice none 0 0), .int 0, .val (.slice none 0 0), .val (.slice none 0 0), .int 0], .cells bt 29 [.d (varsD t.model.vars), .d (rulesD t.model.rules), .d (termsD t.props), .d (opsD t.formula)]]) (fun y => GoneI t y.1) (fun y => 20001 - y.1) (0, q, Sl.nil, Sl.nil) ⟨h, fun j hj => absurd hj (Nat.not_lt_zero j)⟩ (VS.take (by dsimp only; rw [e0]; exact takedD) ?_) ?_
 · exact leD
 clear hnd e0
 rintro ⟨i, q, qn, qs⟩ hg
 dsimp only at hg ⊢
 have hfew := hg.few
 have hle := hg.le
 have hln : ((List.range i).map (plF t)).length = i := by simp
 have hls : ((List.range i).map (seF t)).length = i := by simp
 by_cases hil : i < (spF t i).length
 · obtain ⟨e1, e2, e3⟩ := spF_next hil
   have hful := fun hl => hg.full hil hl
   have hnext := fun hl => hg.next hil hl
   have hL := Letter t.model t.props (spF t i)[i].kind
   have hM := Meets t.formula (letF t.model t.props (spF t i)[i].kind).1 (spF t i)[i].val
   have hBh := Behind t (spF t i)[i].kind (spF t i)[i].val
   have hbl := behind_few t (spF t i)[i].kind (spF t i)[i].val h3
   rw [← e3] at hM
   generalize (letF t.model t.props (spF t i)[i].kind) = lp at hL hM
   generalize hse : seF t i = se at hM e3
   generalize behindF t (spF t i)[i].kind (spF t i)[i].val = bp at hBh hbl e1 e2 hful
   obtain ⟨bs, be⟩ := bp
   dsimp only at hBh hbl e1 e2 hful
   all_goals haveI fA_ : FlagA := ⟨⟩
   repeat' (first
    | refine armXN17_3 ?_
    | ((with_reducible apply jp); (focus ((with_reducible apply pu_load_row_agg); (focus rfl); (focus (with_reducible exact ElC.h)); (focus rfl); (focus exact memD); (focus exact fun _ => rfl); (focus omega))); (focus rfl))
    | exact True.intro
    | refine stp ?_
    | refine two ?_ ?_
    | (refine imp fun hc => ?_) <;> try exact cx hc
    | refine all fun v_ => ?_)
   all_goals clear fA_
   refine jrow (E := 3) (sz := 1) intC ?_
   refine J_loopV (X := Nat × Sl × Sl) (fun y => [(1, .val (.pointer (some ⟨bt, 0, none⟩))), (2, .val (.pointer (some ⟨br, 0, none⟩))), (8, .val (.pointer (some ⟨ba, 0, none⟩))), (11, .int i), (15, .int se), (17, .val y.2.2.v), (110, .d (opsD bs)), (111, .int bs.length), (112, .int y.1)]) (fun y => [rowE y.2.2.v 3 1 intC (rndF (spF t i) (bs.take y.1)).2, .cells ba 96 [.val y.2.1.v, .int B.length, .val qn.v, .val qs.v, .int A.length, .val (.map (some bm))], rowE y.2.1.v 98 2 Fo.cells ((rndF (spF t i) (bs.take y.1)).1), .raw bm (mapO (entL spV natV (plcs ((rndF (spF t i) (bs.take y.1)).1)))), rowE qn.v 33 1 listC ((List.range i).map (plF t)), rowE qs.v 3 1 intC ((List.range i).map (seF t)), .cells br 35 [.val (.slice none 0 0), .int 0, .val (.slice none 0 0), .val (.slice none 0 0), .int 0], .cells bt 29 [.d (varsD t.model.vars), .d (rulesD t.model.rules), .d (termsD t.props), .d (opsD t.formula)]]) (fun y => y.1 ≤ bs.length ∧ (rndF (spF t i) (bs.take y.1)).1.length ≤ 20000) (fun y => bs.length - y.1) (0, q, Sl.nil) ⟨Nat.zero_le _, hfew⟩ (VS.take (by exact takedD) ?_) ?_
   · exact leD
   clear q
   rintro ⟨k, q, p⟩ ⟨hk, hkl⟩
   dsimp only at hk hkl ⊢
   have hpl : (rndF (spF t i) (bs.take k)).2.length = k := by rw [rndF_places, List.length_take]; omega
   by_cases hkb : k < bs.length
   · have hst := rndF_take bs (spF t i) k hkb
     have hgr := rndF_grow bs (spF t i) (k + 1) (bs.length - (k + 1))
     rw [show k + 1 + (bs.length - (k + 1)) = bs.length by omega, List.take_length] at hgr
     rw [hst] at hgr
     dsimp only at hgr
     generalize rndF (spF t i) (bs.take k) = R at hst hgr hkl hpl ⊢
     by_cases hb : bs[k] ∈ R.1
     · have F := place_old ba bm q B.length A.length (.val qn.v) (.val qs.v) R.1 bs[k] hb
       rw [addS_in hb] at hst
       all_goals haveI fA_ : FlagA := ⟨⟩
       repeat' (first
        | ((with_reducible apply callGV); (focus rfl); (focus rfl); (focus exact cal_place); (focus exact F); (focus ((repeat (first | with_reducible exact Take.nil | ((with_reducible apply Take.cons); (focus ((repeat (first | with_reducible exact Sel.here | with_reducible apply Sel.there)); done))))); done)); (focus rfl); (focus (intro v_; (repeat (first | exact App.nil | apply App.cons)); done)))
        | exact True.intro
        | refine stp ?_
        | refine two ?_ ?_
        | (refine imp fun hc => ?_) <;> try exact cx hc
        | refine all fun v_ => ?_)
       all_goals clear fA_
       refine ⟨(k + 1, q, v_), ⟨by dsimp only; omega, by dsimp only; rw [hst]; exact hkl⟩, by dsimp only; omega, VS.take (by dsimp only; rw [hst]; exact takedD) ?_⟩
       exact leD
     rw [addS_out hb] at hst hgr
     by_cases hl : R.1.length < 20000
     · have F := place_new ba bm q B.length A.length (.val qn.v) (.val qs.v) R.1 bs[k] hb hl
       all_goals haveI fA_ : FlagA := ⟨⟩
       repeat' (first
        | ((with_reducible apply callGV); (focus rfl); (focus rfl); (focus exact cal_place); (focus exact F); (focus ((repeat (first | with_reducible exact Take.nil | ((with_reducible apply Take.cons); (focus ((repeat (first | with_reducible exact Sel.here | with_reducible apply Sel.there)); done))))); done)); (focus rfl); (focus (intro v_; (repeat (first | exact App.nil | apply App.cons)); done)))
        | exact True.intro
        | refine stp ?_
        | refine two ?_ ?_
        | (refine imp fun hc => ?_) <;> try exact cx hc
        | refine all fun v_ => ?_)
       all_goals clear fA_
       obtain ⟨p2, rfl⟩ : ∃ x, x = v_ := ⟨v_, rfl⟩
       refine ⟨(k + 1, v_, p2), ⟨by dsimp only; omega, by dsimp only; rw [hst]; simp; omega⟩, by dsimp only; omega, VS.take (by dsimp only; rw [hst]; exact takedD) ?_⟩
       exact leD
     · have F := place_full ba bm q B.length A.length (.val qn.v) (.val qs.v) R.1 bs[k] hb (by omega)
       have hx := hful (by rw [List.length_append, List.length_singleton] at hgr; omega)
       all_goals haveI fA_ : FlagA := ⟨⟩
       repeat' (first
        | ((with_reducible apply callGV); (focus rfl); (focus rfl); (focus exact cal_place); (focus exact F); (focus ((repeat (first | with_reducible exact Take.nil | ((with_reducible apply Take.cons); (focus ((repeat (first | with_reducible exact Sel.here | with_reducible apply Sel.there)); done))))); done)); (focus rfl); (focus (intro v_; (repeat (first | exact App.nil | apply App.cons)); done)))
        | exact True.intro
        | refine stp ?_
        | refine two ?_ ?_
        | (refine imp fun hc => ?_) <;> try exact cx hc
        | refine all fun v_ => ?_)
       all_goals clear fA_
       unfold exG
       rw [hx]
       exact retrl (xs := [.agg [.val (.slice none 0 0), .int 0, .val (.slice none 0 0), .val (.slice none 0 0), .int 0], .int 12]) (ys := [.agg [.d (opsD []), .int 0, .d (listsD []), .d (intsD []), .int 0], .int 12]) vid ⟨rv_agg rfl (by (with_reducible exact ElC.h)) rfl (by exact memD) rfl, rv_tmp rfl, trivial⟩ ⟨AV.le_agg ⟨AV.le_nil 2 16, AV.le_refl _, AV.le_nil 1 24, AV.le_nil 1 8, AV.le_refl _, trivial⟩, AV.le_refl _, trivial⟩ rfl (h' := []) (List.nil_sublist _) (ret_eq rfl)
   obtain rfl : k = bs.length := by omega
   rw [List.take_length] at hkl hpl ⊢
   rw [← e1] at hkl
   rw [← e1, ← e2]
   rw [← e2] at hpl
   refine J_vs (vfreeze (t := 17) (eb := 8) rfl rfl (fun x => rfl) (by omega)) ?_
   all_goals haveI fA_ : FlagA := ⟨⟩
   repeat' (first
    | ((with_reducible apply (japU1 (f := listC) (u := plF t i))); (focus rfl); (focus rfl); (focus (with_reducible exact ElC.h)); (focus exact updqD); (focus rfl); (focus rfl); (focus rfl); (focus rfl); (focus exact bndD); (focus exact bndD))
    | exact True.intro
    | refine stp ?_
    | refine two ?_ ?_
    | (refine imp fun hc => ?_) <;> try exact cx hc
    | refine all fun v_ => ?_)
   all_goals clear fA_
   obtain ⟨qs2, rfl⟩ : ∃ x, x = v_ := ⟨v_, rfl⟩
   obtain ⟨qn2, rfl⟩ : ∃ x, x = v_ := ⟨v_, rfl⟩
   have ep : (List.range (i + 1)).map (plF t) = (List.range i).map (plF t) ++ [plF t i] := by rw [List.range_succ, List.map_append]; rfl
   have es : (List.range (i + 1)).map (seF t) = (List.range i).map (seF t) ++ [se] := by rw [List.range_succ, List.map_append, ← hse]; rfl
   refine ⟨(i + 1, q, qn2, qs2), hnext hkl, by dsimp only; omega, VS.take (by dsimp only; rw [ep, es]; exact takedD) ?_⟩
   exact leD
 have hx := hg.all (by omega)
 have hi2 : i ≤ 20000 := by omega
 all_goals haveI fA_ : FlagA := ⟨⟩
 repeat' (first
  | exact True.intro
  | refine stp ?_
  | refine two ?_ ?_
  | (refine imp fun hc => ?_) <;> try exact cx hc
  | refine all fun v_ => ?_)
 all_goals clear fA_
 have eG : exG t = ⟨spF t i, B.length, (List.range i).map (plF t), (List.range i).map (seF t), A.length⟩ := by
  unfold exG; rw [hx]; dsimp only; rw [eBB, eAA]
 rw [eG, hx]
 generalize (List.range i).map (plF t) = nx at hln ⊢
 generalize (List.range i).map (seF t) = st at hls ⊢
 generalize spF t i = sp at hfew ⊢
 refine retr (VS.trans (VS.take (hc := [rowE q.v 98 2 Fo.cells sp, rowE qn.v 33 1 listC nx, rowE qs.v 3 1 intC st, .cells br 35 [.val q.v, .int B.length, .val qn.v, .val qs.v, .int A.length]]) (by exact takedD) (Env.le_refl _))
  (VS.trans (vdat (h1 := []) (h' := [rowE qn.v 33 1 listC nx, rowE qs.v 3 1 intC st, .cells br 35 [.d (opsD sp), .int B.length, .val qn.v, .val qs.v, .int A.length]]) 16 rfl rfl (fun _ => rfl) (by omega) (CvE.refl _ _ _) ?_)
  (VS.trans (vdat (h1 := []) (h' := [rowE qs.v 3 1 intC st, .cells br 35 [.d (opsD sp), .int B.length, .d (listsD nx), .val qs.v, .int A.length]]) 24 rfl rfl (fun _ => rfl) (by omega) (CvE.refl _ _ _) ?_)
  (vdat (h1 := []) (h' := [.cells br 35 [.d (opsD sp), .int B.length, .d (listsD nx), .d (intsD st), .int A.length]]) 8 rfl rfl (fun _ => rfl) (by omega) (CvE.refl _ _ _) ?_)))) (xs := [.agg [.d (opsD sp), .int B.length, .d (listsD nx), .d (intsD st), .int A.length], .int 0]) ⟨rv_agg rfl (by (with_reducible exact ElC.h)) rfl (by exact memD) rfl, rv_tmp rfl, trivial⟩ rfl (h' := []) (List.nil_sublist _) (ret_eq rfl)
 · exact .keep (.keep (.cells (.cons .here (.cons (.same _) (.cons (.same _) (.cons (.same _) (.cons (.same _) .nil))))) (.refl _)))
 · exact .keep (.cells (.cons (.same _) (.cons (.same _) (.cons .here (.cons (.same _) (.cons (.same _) .nil))))) (.refl _))
 · exact .cells (.cons (.same _) (.cons (.same _) (.cons (.same _) (.cons .here (.cons (.same _) .nil))))) (.refl _)
theorem Explore (t : Tk) : ACr Tryz.prog GP 15 [tkA t] (.tup [grA (exG t), .int (exploreF t).2]) := by
 by_cases h : taskF t = 0
 · exact Explore_yes t h
 · exact Explore_no t h
end Go.Proofs.YtniklgkoiaeipaaGreatDoor
namespace Go.Av
open Go
set_option linter.unusedVariables false
set_option linter.unusedSimpArgs false
section
variable {k : Kx} {Q : Exit → Env → H → Prop} {ρ : Env} {h : H} {ops : Array Oper} {l : List Oper} {d : Nat} {ty : TypeId} {pos : String} {after : Array Edge}
theorem jborF {f : FuncId} {xs : Array Operand} {ats : Array TypeId} {es args : List AV} {v : Value} (hxs : evsO ρ xs.toList = some es) (hcal : Cal k.P f) (hac : ACr k.P k.c.G f args (.val v)) (hb : Bors h es args) (hd : Nat.blt d k.n = true)
 (hj : JL k ops l Q ((d, .val v) :: ρ) h) : JL k ops (⟨some d, .call { callee := .value (.func f), args := xs, argTypes := ats }, ty, pos, after, none⟩ :: l) Q ρ h :=
 jbor (caps := #[]) rfl hxs hcal hac (by simpa using hb) hd hj
end
end Go.Av
namespace Go.Proofs.YtniklgkoiaeipaaGreatDoor
open Go Go.Av Go.Sp
set_option linter.unusedVariables false
set_option linter.unusedSimpArgs false
set_option maxRecDepth 100000
set_option maxHeartbeats 4000000
theorem cal_Explored : Cal Tryz.prog 16 := Cal.of Tryz.func16 (by kernel_rfl) (by kernel_rfl)
theorem hstp {p q : Prop} (hp : p) (h : p → q := by
 apply cmp; (focus (first
  | (first
    | ((with_reducible apply J_region_HA); (focus exact mixed); (focus rfl); (focus ((repeat ((with_reducible apply Hd.cons); (focus rfl))); exact Hd.nil)); (focus ((repeat (with_reducible apply len_cons)); exact len_nil)); (focus (decide +kernel)))
    | ((with_reducible apply jh_done); (focus (decide +kernel)); (focus ((repeat (with_reducible apply App.cons)); exact App.nil)))
    | ((with_reducible apply jh_pure); (focus rfl); (focus (decide +kernel)); (focus exact pureD); (focus rfl))
    | ((with_reducible apply jh_gy); (focus rfl); (focus rfl); (focus rfl); (focus rfl); (focus rfl); (focus (decide +kernel)); (focus exact pureD); (focus rfl))
    | ((with_reducible apply jh_gn); (focus rfl); (focus rfl); (focus rfl); (focus rfl); (focus rfl); (focus (decide +kernel)); (focus rfl))
    | ((with_reducible apply jh_gu); (focus rfl); (focus rfl); (focus rfl); (focus rfl); (focus (decide +kernel)); (focus rfl))
    | ((with_reducible apply jh_split); (focus rfl); (focus rfl); (focus rfl); (focus rfl); (focus (decide +kernel)))
    | with_reducible apply jh_skip
    | with_reducible apply jh_wrap
    | ((with_reducible apply jh_end); (focus (decide +kernel)); (focus (decide +kernel)))
    | with_reducible exact jhs_nil
    | ((with_reducible apply jhs_no); (focus (decide +kernel)))
    | ((with_reducible apply jhs_yes); (focus rfl))
    | with_reducible apply jh_nil
    )
  ))
 exact fun h => h) : q := h hp
theorem armXN18_1 {p q : Prop} (hp : p) (h : p → q := by
 apply cmp; (focus (first
  | ((with_reducible apply call0); (focus rfl); (focus exact cal_BeginOf); (focus exact hB); (focus rfl))
  | ((with_reducible apply je_call0); (focus rfl); (focus (decide +kernel)); (focus rfl); (focus exact cal_BeginOf); (focus exact hB); (focus rfl))
  ))
 exact fun h => h) : q := h hp
theorem Explored_no (G : List (Nat × List D)) (t : Tk) (h : taskF t ≠ 0) : ACr Tryz.prog G 16 [tkA t] (.tup [grA (exG t), .int (exploreF t).2]) := by
 have hB := BeginOf G t
 have e1 : exploreF t = (none, taskF t) := by unfold exploreF; rw [if_pos h]
 have e2 : beginF t = ([], taskF t) := by unfold beginF; rw [if_pos h]
 unfold exG
 rw [e1]
 rw [e2] at hB
 dsimp only at hB ⊢
 generalize taskF t = e at h hB ⊢
 refine AC_ofR (rs := [.cell 2 35, .tmp 3]) Tryz.f16.ntmps Tryz.func16 rfl rfl rfl (by simp [Tryz.ntmps16]) fun W I => ?_
 all_goals haveI fA_ : FlagA := ⟨⟩
 all_goals haveI fH_ : FlagH := ⟨⟩
 repeat' (first
  | refine armXN18_1 ?_
  | exact True.intro
  | refine stp ?_
  | refine two ?_ ?_
  | refine allc fun c_ => ?_
  | (refine imp fun hc => ?_) <;> try exact cx1 hc
  | refine all fun v_ => ?_)
 all_goals clear fA_ fH_
 exact retrl (xs := [.agg [.val (.slice none 0 0), .int 0, .val (.slice none 0 0), .val (.slice none 0 0), .int 0], .int e]) (ys := [.agg [.d (opsD []), .int 0, .d (listsD []), .d (intsD []), .int 0], .int e]) vid ⟨rv_agg rfl (by (with_reducible exact ElC.h)) rfl (by exact memD) rfl, rv_tmp rfl, trivial⟩ ⟨AV.le_agg ⟨AV.le_nil 2 16, AV.le_refl _, AV.le_nil 1 24, AV.le_nil 1 8, AV.le_refl _, trivial⟩, AV.le_refl _, trivial⟩ rfl (h' := []) (List.nil_sublist _) (ret_eq rfl)
theorem armXN18_2 {p q : Prop} (hp : p) (h : p → q := by
 apply cmp; (focus (first
  | ((with_reducible apply call0); (focus rfl); (focus exact cal_AheadOf); (focus exact hA); (focus rfl))
  | ((with_reducible apply je_call0); (focus rfl); (focus (decide +kernel)); (focus rfl); (focus exact cal_AheadOf); (focus exact hA); (focus rfl))
  ))
 exact fun h => h) : q := h hp
theorem armXN18_3 {p q : Prop} (hp : p) (h : p → q := by
 apply cmp; (focus (first
  | ((with_reducible apply call0); (focus rfl); (focus exact cal_BehindOf); (focus exact hBh); (focus rfl))
  | ((with_reducible apply je_call0); (focus rfl); (focus (decide +kernel)); (focus rfl); (focus exact cal_BehindOf); (focus exact hBh); (focus rfl))
  ))
 exact fun h => h) : q := h hp
theorem armXN18_4 {p q : Prop} (hp : p) (h : p → q := by
 apply cmp; (focus (first
  | ((with_reducible apply call0); (focus rfl); (focus exact cal_LetterOf); (focus exact hL); (focus rfl))
  | ((with_reducible apply je_call0); (focus rfl); (focus (decide +kernel)); (focus rfl); (focus exact cal_LetterOf); (focus exact hL); (focus rfl))
  | ((with_reducible apply call0); (focus rfl); (focus exact cal_MetBy); (focus exact hM); (focus rfl))
  | ((with_reducible apply je_call0); (focus rfl); (focus (decide +kernel)); (focus rfl); (focus exact cal_MetBy); (focus exact hM); (focus rfl))
  ))
 exact fun h => h) : q := h hp
theorem Explored_yes (G : List (Nat × List D)) (t : Tk) (h : taskF t = 0) : ACr Tryz.prog G 16 [tkA t] (.tup [grA (exG t), .int (exploreF t).2]) := by
 have hB := BeginOfR G t h
 obtain ⟨h1, h2, h3⟩ := taskF_ok h
 have hA := AheadOf G t.formula t.props.length
 have eA : (aheadsOf t.formula t.props.length).2 = 0 := by unfold aheadsOf; rw [if_neg (fun k => k h2)]
 rw [eA] at hA
 have hAl := aheads_few t.formula t.props.length
 have hBl := begin_few t
 have e0 : spF t 0 = (beginF t).1 := rfl
 generalize eBB : (beginF t).1 = B at hB hBl e0
 generalize eAA : (aheadsOf t.formula t.props.length).1 = A at hA hAl
 refine AC_ofR (rs := [.cell 2 35, .tmp 3]) Tryz.f16.ntmps Tryz.func16 rfl rfl rfl (by simp [Tryz.ntmps16]) fun W I => ?_
 all_goals haveI fA_ : FlagA := ⟨⟩
 repeat' (first
  | ((with_reducible apply callG); (focus rfl); (focus exact cal_BeginOf); (focus exact hB); (focus ((repeat (first | with_reducible exact Take.nil | ((with_reducible apply Take.cons); (focus ((repeat (first | with_reducible exact Sel.here | with_reducible apply Sel.there)); done))))); done)); (focus rfl); (focus (intro v_; (repeat (first | exact App.nil | apply App.cons)); done)))
  | refine armXN18_2 ?_
  | exact True.intro
  | refine stp ?_
  | refine two ?_ ?_
  | (refine imp fun hc => ?_) <;> try exact cx hc
  | refine all fun v_ => ?_)
 all_goals clear fA_
 obtain ⟨bg, rfl⟩ : ∃ x, x = v_ := ⟨v_, rfl⟩
 obtain ⟨q, rfl⟩ : ∃ x, x = v_ := ⟨v_, rfl⟩
 obtain ⟨br, rfl⟩ : ∃ x, x = v_ := ⟨v_, rfl⟩
 obtain ⟨bt, rfl⟩ : ∃ x, x = v_ := ⟨v_, rfl⟩
 refine jrow (E := 33) (sz := 1) listC ?_
 refine jrow (E := 3) (sz := 1) intC ?_
 refine J_loopV (X := Nat × Sl × Sl × Sl) (fun y => [(1, .val (.pointer (some ⟨bt, 0, none⟩))), (2, .val (.pointer (some ⟨br, 0, none⟩))), (8, .val (.pointer (some ⟨bg, 0, none⟩))), (9, .int y.1)]) (fun y => [.cells bg 35 [.val y.2.1.v, .int B.length, .val y.2.2.1.v, .val y.2.2.2.v, .int A.length], rowE y.2.1.v 98 2 Fo.cells (spF t y.1), rowE y.2.2.1.v 33 1 listC ((List.range y.1).map (plF t)), rowE y.2.2.2.v 3 1 intC ((List.range y.1).map (seF t)), .cells br 35 [.val (.slice none 0 0), .int 0, .val (.slice none 0 0), .val (.slice none 0 0), .int 0], .cells bt 29 [.d (varsD t.model.vars), .d (rulesD t.model.rules), .d (termsD t.props), .d (opsD t.formula)]]) (fun y => GoneI t y.1) (fun y => 20001 - y.1) (0, q, Sl.nil, Sl.nil) ⟨h, fun j hj => absurd hj (Nat.not_lt_zero j)⟩ (VS.take (by dsimp only; rw [e0]; exact takedD) ?_) ?_
 · exact leD
 clear e0 q
 rintro ⟨i, q, qn, qs⟩ hg
 dsimp only at hg ⊢
 have hfew := hg.few
 have hle := hg.le
 have hln : ((List.range i).map (plF t)).length = i := by simp
 have hls : ((List.range i).map (seF t)).length = i := by simp
 by_cases hil : i < (spF t i).length
 · obtain ⟨e1, e2, e3⟩ := spF_next hil
   have hil2 : i < (spF t (i + 1)).length := Nat.lt_of_lt_of_le hil (spF_le t (by omega))
   have es : (spF t (i + 1))[i] = (spF t i)[i] := by
    have := spF_at t (i := i) (j := i + 1) (by omega) (List.getElem?_eq_getElem hil)
    rw [List.getElem?_eq_getElem hil2] at this
    exact Option.some.inj this
   have hful := fun hl => hg.full hil hl
   have hnext := fun hl => hg.next hil hl
   have hL := LetterOf G t.model t.props (spF t (i + 1))[i].kind
   have hM := MetBy G t.formula (letF t.model t.props (spF t i)[i].kind).1 (spF t (i + 1))[i].val
   have eL : letF t.model t.props (spF t (i + 1))[i].kind = letF t.model t.props (spF t i)[i].kind := by rw [es]
   have eM : meetsOf t.formula (letF t.model t.props (spF t i)[i].kind).1 (spF t (i + 1))[i].val = meetsOf t.formula (letF t.model t.props (spF t i)[i].kind).1 (spF t i)[i].val := by rw [es]
   rw [eL] at hL
   rw [eM, ← e3] at hM
   have hBh := BehindOf G t (spF t i)[i].kind (spF t i)[i].val
   have hbl := behind_few t (spF t i)[i].kind (spF t i)[i].val h3
   clear eL eM
   generalize (letF t.model t.props (spF t i)[i].kind) = lp at hL hM
   generalize hse : seF t i = se at hM e3
   generalize behindF t (spF t i)[i].kind (spF t i)[i].val = bp at hBh hbl e1 e2 hful
   obtain ⟨bs, be⟩ := bp
   dsimp only at hBh hbl e1 e2 hful
   all_goals haveI fA_ : FlagA := ⟨⟩
   all_goals haveI fH_ : FlagH := ⟨⟩
   all_goals haveI fS_ : StopAt 1 := ⟨⟩
   repeat' (first
    | refine armXN18_3 ?_
    | exact True.intro
    | ((with_reducible apply jh_pure); (focus rfl); (focus (decide +kernel)); (focus ((with_reducible apply pu_load_row_agg); (focus rfl); (focus (with_reducible exact ElC.h)); (focus rfl); (focus exact memD); (focus exact fun _ => rfl); (focus omega))); (focus rfl))
    | refine hstp ?_
    | with_reducible apply Stop.mk
    | refine stp ?_
    | refine two ?_ ?_
    | refine allc fun c_ => ?_
    | (refine imp fun hc => ?_) <;> try (first | contradiction | (exfalso; omega))
    | refine all fun v_ => ?_)
   all_goals clear fA_ fH_ fS_
   refine jrow (E := 3) (sz := 1) intC ?_
   refine J_loopV (X := Nat × Sl × Sl) (fun y => [(1, .val (.pointer (some ⟨bt, 0, none⟩))), (2, .val (.pointer (some ⟨br, 0, none⟩))), (8, .val (.pointer (some ⟨bg, 0, none⟩))), (9, .int i), (10, .d (opsD bs)), (12, .val y.2.2.v), (13, .int y.1)]) (fun y => [rowE y.2.2.v 3 1 intC (rndF (spF t i) (bs.take y.1)).2, .cells bg 35 [.val y.2.1.v, .int B.length, .val qn.v, .val qs.v, .int A.length], rowE y.2.1.v 98 2 Fo.cells ((rndF (spF t i) (bs.take y.1)).1), rowE qn.v 33 1 listC ((List.range i).map (plF t)), rowE qs.v 3 1 intC ((List.range i).map (seF t)), .cells br 35 [.val (.slice none 0 0), .int 0, .val (.slice none 0 0), .val (.slice none 0 0), .int 0], .cells bt 29 [.d (varsD t.model.vars), .d (rulesD t.model.rules), .d (termsD t.props), .d (opsD t.formula)]]) (fun y => y.1 ≤ bs.length) (fun y => bs.length - y.1) (0, q, Sl.nil) (Nat.zero_le _) (VS.take (by exact takedD) ?_) ?_
   · exact leD
   clear q
   rintro ⟨k, q, p⟩ hk
   dsimp only at hk ⊢
   have hpl : (rndF (spF t i) (bs.take k)).2.length = k := by rw [rndF_places, List.length_take]; omega
   have hkl := rndF_more (bs.take k) (spF t i)
   rw [List.length_take] at hkl
   by_cases hkb : k < bs.length
   · have hst := rndF_take bs (spF t i) k hkb
     have hS := spotAt G (rndF (spF t i) (bs.take k)).1 bs[k] (by omega)
     generalize rndF (spF t i) (bs.take k) = R at hst hkl hpl hS ⊢
     by_cases hb : bs[k] ∈ R.1
     · rw [if_pos hb] at hS
       rw [addS_in hb] at hst
       all_goals haveI fA_ : FlagA := ⟨⟩
       all_goals haveI fH_ : FlagH := ⟨⟩
       all_goals haveI fS_ : StopAt 1 := ⟨⟩
       repeat' (first
        | refine stp ?_
        | refine two ?_ ?_
        | (refine imp fun hc => ?_) <;> try (first | contradiction | (exfalso; omega))
        | refine all fun v_ => ?_)
       all_goals clear fA_ fH_ fS_
       refine ⟨?_⟩
       refine J_region_HB [rowE q.v 98 2 Fo.cells (R.1)] mixed rfl (by (repeat ((with_reducible apply Hd.cons); (focus rfl))); exact Hd.nil) (by (repeat (with_reducible apply len_cons)); exact len_nil) (by decide +kernel) (by ((repeat (first | with_reducible exact Take.nil | ((with_reducible apply Take.cons); (focus ((repeat (first | with_reducible exact Sel.here | with_reducible apply Sel.there)); done))))); done)) ?_
       all_goals haveI fA_ : FlagA := ⟨⟩
       all_goals haveI fH_ : FlagH := ⟨⟩
       all_goals haveI fS_ : StopAt 1 := ⟨⟩
       repeat' (first
        | refine jborF rfl cal_spotAt hS ⟨bor_row (E := 98) 16 (by exact memD) rfl (fun _ => rfl) (by omega), bor_same _ _, trivial⟩ rfl ?_
        | exact True.intro
        | ((with_reducible apply jh_pure); (focus rfl); (focus (decide +kernel)); (focus ((with_reducible apply pu_load_row_agg); (focus rfl); (focus (with_reducible exact ElC.h)); (focus rfl); (focus exact memD); (focus exact fun _ => rfl); (focus omega))); (focus rfl))
        | refine hstp ?_
        | with_reducible apply Stop.mk
        | refine stp ?_
        | refine two ?_ ?_
        | refine allc fun c_ => ?_
        | (refine imp fun hc => ?_) <;> try (first | contradiction | (exfalso; omega))
        | refine all fun v_ => ?_)
       all_goals clear fA_ fH_ fS_
       refine ⟨(k + 1, q, v_), by dsimp only; omega, by dsimp only; omega, VS.take (by dsimp only; rw [hst]; exact takedD) ?_⟩
       exact leD
     · rw [if_neg hb] at hS
       have hpo := plc_out hb
       rw [addS_out hb] at hst
       all_goals haveI fA_ : FlagA := ⟨⟩
       all_goals haveI fH_ : FlagH := ⟨⟩
       all_goals haveI fS_ : StopAt 1 := ⟨⟩
       repeat' (first
        | refine stp ?_
        | refine two ?_ ?_
        | (refine imp fun hc => ?_) <;> try (first | contradiction | (exfalso; omega))
        | refine all fun v_ => ?_)
       all_goals clear fA_ fH_ fS_
       refine ⟨?_⟩
       refine J_region_HB [rowE q.v 98 2 Fo.cells (R.1)] mixed rfl (by (repeat ((with_reducible apply Hd.cons); (focus rfl))); exact Hd.nil) (by (repeat (with_reducible apply len_cons)); exact len_nil) (by decide +kernel) (by ((repeat (first | with_reducible exact Take.nil | ((with_reducible apply Take.cons); (focus ((repeat (first | with_reducible exact Sel.here | with_reducible apply Sel.there)); done))))); done)) ?_
       all_goals haveI fA_ : FlagA := ⟨⟩
       all_goals haveI fH_ : FlagH := ⟨⟩
       all_goals haveI fS_ : StopAt 1 := ⟨⟩
       repeat' (first
        | refine jborF rfl cal_spotAt hS ⟨bor_row (E := 98) 16 (by exact memD) rfl (fun _ => rfl) (by omega), bor_same _ _, trivial⟩ rfl ?_
        | exact True.intro
        | ((with_reducible apply jh_pure); (focus rfl); (focus (decide +kernel)); (focus ((with_reducible apply pu_load_row_agg); (focus rfl); (focus (with_reducible exact ElC.h)); (focus rfl); (focus exact memD); (focus exact fun _ => rfl); (focus omega))); (focus rfl))
        | refine hstp ?_
        | refine stp ?_
        | refine two ?_ ?_
        | refine allc fun c_ => ?_
        | (refine imp fun hc => ?_) <;> try (first | contradiction | (exfalso; omega))
        | refine all fun v_ => ?_)
       all_goals clear fA_ fH_ fS_
       refine ⟨?_⟩
       refine J_region_HB [rowE q.v 98 2 Fo.cells (R.1)] mixed rfl (by (repeat ((with_reducible apply Hd.cons); (focus rfl))); exact Hd.nil) (by (repeat (with_reducible apply len_cons)); exact len_nil) (by decide +kernel) (by ((repeat (first | with_reducible exact Take.nil | ((with_reducible apply Take.cons); (focus ((repeat (first | with_reducible exact Sel.here | with_reducible apply Sel.there)); done))))); done)) ?_
       all_goals haveI fA_ : FlagA := ⟨⟩
       all_goals haveI fH_ : FlagH := ⟨⟩
       repeat' (first
        | ((with_reducible apply (japU1 (f := Fo.cells) (u := bs[k]))); (focus rfl); (focus rfl); (focus (with_reducible exact ElC.h)); (focus exact updqD); (focus rfl); (focus rfl); (focus rfl); (focus rfl); (focus exact bndD); (focus exact bndD))
        | exact True.intro
        | refine stp ?_
        | refine two ?_ ?_
        | refine allc fun c_ => ?_
        | (refine imp fun hc => ?_) <;> try exact cx1 hc
        | refine all fun v_ => ?_)
       all_goals clear fA_ fH_
       obtain ⟨p2, rfl⟩ : ∃ x, x = v_ := ⟨v_, rfl⟩
       refine ⟨(k + 1, v_, p2), by dsimp only; omega, by dsimp only; omega, VS.take (by dsimp only; rw [hst, hpo]; exact takedD) ?_⟩
       exact leD
   obtain rfl : k = bs.length := by omega
   rw [List.take_length] at hkl hpl ⊢
   rw [← e1] at hkl hful
   rw [← e1, ← e2]
   rw [← e2] at hpl
   refine J_vs (vfreeze (t := 12) (eb := 8) rfl rfl (fun x => rfl) (by omega)) ?_
   by_cases hl : 20000 < (spF t (i + 1)).length
   · have hx := hful hl
     all_goals haveI fA_ : FlagA := ⟨⟩
     repeat' (first
      | exact True.intro
      | refine stp ?_
      | refine two ?_ ?_
      | (refine imp fun hc => ?_) <;> try exact cx hc
      | refine all fun v_ => ?_)
     all_goals clear fA_
     unfold exG
     rw [hx]
     exact retrl (xs := [.agg [.val (.slice none 0 0), .int 0, .val (.slice none 0 0), .val (.slice none 0 0), .int 0], .int 12]) (ys := [.agg [.d (opsD []), .int 0, .d (listsD []), .d (intsD []), .int 0], .int 12]) vid ⟨rv_agg rfl (by (with_reducible exact ElC.h)) rfl (by exact memD) rfl, rv_tmp rfl, trivial⟩ ⟨AV.le_agg ⟨AV.le_nil 2 16, AV.le_refl _, AV.le_nil 1 24, AV.le_nil 1 8, AV.le_refl _, trivial⟩, AV.le_refl _, trivial⟩ rfl (h' := []) (List.nil_sublist _) (ret_eq rfl)
   all_goals haveI fA_ : FlagA := ⟨⟩
   all_goals haveI fH_ : FlagH := ⟨⟩
   repeat' (first
    | refine armXN18_4 ?_
    | ((with_reducible apply (japU1 (f := listC) (u := plF t i))); (focus rfl); (focus rfl); (focus (with_reducible exact ElC.h)); (focus exact updqD); (focus rfl); (focus rfl); (focus rfl); (focus rfl); (focus exact bndD); (focus exact bndD))
    | exact True.intro
    | refine stp ?_
    | refine two ?_ ?_
    | refine allc fun c_ => ?_
    | (refine imp fun hc => ?_) <;> try exact cx1 hc
    | refine all fun v_ => ?_)
   all_goals clear fA_ fH_
   obtain ⟨qs2, rfl⟩ : ∃ x, x = v_ := ⟨v_, rfl⟩
   obtain ⟨qn2, rfl⟩ : ∃ x, x = v_ := ⟨v_, rfl⟩
   have ep : (List.range (i + 1)).map (plF t) = (List.range i).map (plF t) ++ [plF t i] := by rw [List.range_succ, List.map_append]; rfl
   have es : (List.range (i + 1)).map (seF t) = (List.range i).map (seF t) ++ [se] := by rw [List.range_succ, List.map_append, ← hse]; rfl
   refine ⟨(i + 1, q, qn2, qs2), hnext (by omega), by dsimp only; omega, VS.take (by dsimp only; rw [ep, es]; exact takedD) ?_⟩
   exact leD
 have hx := hg.all (by omega)
 have hi2 : i ≤ 20000 := by omega
 all_goals haveI fA_ : FlagA := ⟨⟩
 repeat' (first
  | exact True.intro
  | refine stp ?_
  | refine two ?_ ?_
  | (refine imp fun hc => ?_) <;> try exact cx hc
  | refine all fun v_ => ?_)
 all_goals clear fA_
 have eG : exG t = ⟨spF t i, B.length, (List.range i).map (plF t), (List.range i).map (seF t), A.length⟩ := by
  unfold exG; rw [hx]; dsimp only; rw [eBB, eAA]
 rw [eG, hx]
 generalize (List.range i).map (plF t) = nx at hln ⊢
 generalize (List.range i).map (seF t) = st at hls ⊢
 generalize spF t i = sp at hfew ⊢
 refine retr (VS.trans (VS.take (hc := [rowE q.v 98 2 Fo.cells sp, rowE qn.v 33 1 listC nx, rowE qs.v 3 1 intC st, .cells br 35 [.val q.v, .int B.length, .val qn.v, .val qs.v, .int A.length]]) (by exact takedD) (Env.le_refl _))
  (VS.trans (vdat (h1 := []) (h' := [rowE qn.v 33 1 listC nx, rowE qs.v 3 1 intC st, .cells br 35 [.d (opsD sp), .int B.length, .val qn.v, .val qs.v, .int A.length]]) 16 rfl rfl (fun _ => rfl) (by omega) (CvE.refl _ _ _) ?_)
  (VS.trans (vdat (h1 := []) (h' := [rowE qs.v 3 1 intC st, .cells br 35 [.d (opsD sp), .int B.length, .d (listsD nx), .val qs.v, .int A.length]]) 24 rfl rfl (fun _ => rfl) (by omega) (CvE.refl _ _ _) ?_)
  (vdat (h1 := []) (h' := [.cells br 35 [.d (opsD sp), .int B.length, .d (listsD nx), .d (intsD st), .int A.length]]) 8 rfl rfl (fun _ => rfl) (by omega) (CvE.refl _ _ _) ?_)))) (xs := [.agg [.d (opsD sp), .int B.length, .d (listsD nx), .d (intsD st), .int A.length], .int 0]) ⟨rv_agg rfl (by (with_reducible exact ElC.h)) rfl (by exact memD) rfl, rv_tmp rfl, trivial⟩ rfl (h' := []) (List.nil_sublist _) (ret_eq rfl)
 · exact .keep (.keep (.cells (.cons .here (.cons (.same _) (.cons (.same _) (.cons (.same _) (.cons (.same _) .nil))))) (.refl _)))
 · exact .keep (.cells (.cons (.same _) (.cons (.same _) (.cons .here (.cons (.same _) (.cons (.same _) .nil))))) (.refl _))
 · exact .cells (.cons (.same _) (.cons (.same _) (.cons (.same _) (.cons .here (.cons (.same _) .nil))))) (.refl _)
theorem Explored (G : List (Nat × List D)) (t : Tk) : ACr Tryz.prog G 16 [tkA t] (.tup [grA (exG t), .int (exploreF t).2]) := by
 by_cases h : taskF t = 0
 · exact Explored_yes G t h
 · exact Explored_no G t h
end Go.Proofs.YtniklgkoiaeipaaGreatDoor
