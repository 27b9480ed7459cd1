/- What does not look ahead holds, just if the first state says so; the next moment's, if all next states do: for every input the law returns true. Conditions: none. -/
import Derived.Test.YtniklgkoiaeipaaGreatDoorD35
import Derived.Test.YtniklgkoiaeipaaGreatDoorD40
import Derived.Test.YtniklgkoiaeipaaGreatDoorF2
namespace Go.Proofs.YtniklgkoiaeipaaGreatDoor
open Go Go.Av Go.Sp
set_option linter.unusedVariables false
set_option linter.unusedSimpArgs false
set_option maxRecDepth 100000
set_option maxHeartbeats 4000000

theorem armXLTopNow_1 {p q : Prop} (hp : p) (h : p → q := by
 apply cmp; (focus (first
  | ((with_reducible apply call0); (focus rfl); (focus exact cal_KFormula); (focus exact hF); (focus rfl))
  | ((with_reducible apply je_call0); (focus rfl); (focus (decide +kernel)); (focus rfl); (focus exact cal_KFormula); (focus exact hF); (focus rfl))
  | ((with_reducible apply call0); (focus rfl); (focus exact cal_kworld); (focus exact hW); (focus rfl))
  | ((with_reducible apply je_call0); (focus rfl); (focus (decide +kernel)); (focus rfl); (focus exact cal_kworld); (focus exact hW); (focus rfl))
  | ((with_reducible apply call0); (focus rfl); (focus exact cal_KJoined); (focus exact hJ); (focus rfl))
  | ((with_reducible apply je_call0); (focus rfl); (focus (decide +kernel)); (focus rfl); (focus exact cal_KJoined); (focus exact hJ); (focus rfl))
  | ((with_reducible apply qcall); (focus rfl); (focus exact cal_KJoined); (focus exact hJ); (focus rfl))
  | ((with_reducible apply call0); (focus rfl); (focus exact cal_kholds); (focus exact hA); (focus rfl))
  | ((with_reducible apply je_call0); (focus rfl); (focus (decide +kernel)); (focus rfl); (focus exact cal_kholds); (focus exact hA); (focus rfl))
  | ((with_reducible apply call0); (focus rfl); (focus exact cal_kholds); (focus exact hB); (focus rfl))
  | ((with_reducible apply je_call0); (focus rfl); (focus (decide +kernel)); (focus rfl); (focus exact cal_kholds); (focus exact hB); (focus rfl))
  ))
 exact fun h => h) : q := h hp
theorem armXLTopNow_2 {p q : Prop} (hp : p) (h : p → q := by
 apply cmp; (focus (first
  | ((with_reducible apply call0); (focus rfl); (focus exact cal_WHolds); (focus exact hO); (focus rfl))
  | ((with_reducible apply je_call0); (focus rfl); (focus (decide +kernel)); (focus rfl); (focus exact cal_WHolds); (focus exact hO); (focus rfl))
  ))
 exact fun h => h) : q := h hp
theorem armXLTopNow_3 {p q : Prop} (hp : p) (h : p → q := by
 apply cmp; (focus (first
  | ((with_reducible apply call0); (focus rfl); (focus exact cal_WHolds); (focus exact hO2); (focus rfl))
  | ((with_reducible apply je_call0); (focus rfl); (focus (decide +kernel)); (focus rfl); (focus exact cal_WHolds); (focus exact hO2); (focus rfl))
  ))
 exact fun h => h) : q := h hp
theorem law_TopNow (d : De) (hd : DeOk d) (raw : List Fo) (hr : rawOk raw) : ACr Tryz.prog GP 9 [deA d, .d (opsD raw)] (.bool true) := by
 have hF := KFormula GP raw hr 0 (by decide)
 obtain ⟨hw, ha, hl⟩ := formG_wf raw 0
 generalize formG raw 0 = f at hF hw ha hl
 have ha0 : nAh f = 0 := by omega
 have hf : FoG f := ⟨hw, by omega, by omega⟩
 have hA := kholds d hd hf
 have hB := kholds d hd (FoG.next hw (by omega) (by omega))
 have hJ := Join1 GP 14 f (by omega)
 have hW := kworld d hd
 obtain ⟨f1, f2, f3⟩ := first_ok (modelF_G d)
 have hN := manyG_eq d
 rw [hN.1] at f3
 have hll := letsG_len d (manyG d)
 have hnl := nxtG_len d (manyG d)
 have hlg := letsG_get d
 have hng := nxtG_get d
 have h3 := lettF_3 d
 have hAe : hldF (tskG d f) = wAt f [lettF (tskG d []) (firstF (modG d))] 0 0 0 := by
  refine Bool.eq_iff_iff.2 ?_
  rw [hldF_iff]
  exact top_now d hw ha0
 have hBe : hldF (tskG d (⟨14, 0⟩ :: f)) = allB (fun c => wAt f [lettF (tskG d []) c] 0 0 0) (nextF (modG d) (firstF (modG d))).1 := by
  refine Bool.eq_iff_iff.2 ?_
  rw [hldF_iff, top_next d hw ha0]
  unfold allB
  rw [List.all_eq_true]
 rw [hAe] at hA
 rw [hBe] at hB
 obtain ⟨_, n2, n3, n4⟩ := nextF_G d (c := firstF (modG d)) f2 f3
 generalize firstF (modG d) = fst at hA hB hW f2 f3 n2 n3 n4
 have hx : fst.toNat < (letsG d (manyG d)).length := by omega
 have hy : fst.toNat < (nxtG d (manyG d)).length := by omega
 have hgx := hlg fst.toNat hx
 have hgy := hng fst.toNat hy
 rw [show ((fst.toNat : Nat) : Int) = fst by omega] at hgx hgy
 generalize letsG d (manyG d) = L at hW hll hlg hx hgx
 generalize nxtG d (manyG d) = X at hW hnl hng hy hgy
 have hO := WHolds f ⟨[], [L[fst.toNat]'hx]⟩ 3
 rw [holds_one hf _ (by rw [hgx]; exact h3 _), hgx] at hO
 dsimp only at hO
 generalize wAt f [lettF (tskG d []) fst] 0 0 0 = a at hA hO
 rw [← hgx] at hO
 have hOk : ∀ (k : Nat) (hk : k < (X[fst.toNat]'hy).length) (hz : ((X[fst.toNat]'hy)[k]).toNat < L.length), ACr Tryz.prog GP 31 [.d (opsD f), wdA ⟨[], [L[((X[fst.toNat]'hy)[k]).toNat]'hz]⟩, .int 3] (.tup [.bool (wAt f [lettF (tskG d []) ((X[fst.toNat]'hy)[k])] 0 0 0), .int 0]) := fun k hk hz => by
  have h := WHolds f ⟨[], [L[((X[fst.toNat]'hy)[k]).toNat]'hz]⟩ 3
  have hm := n4 _ (by rw [← hgy]; exact List.getElem_mem hk)
  have e := hlg _ hz
  rw [show ((((X[fst.toNat]'hy)[k]).toNat : Nat) : Int) = (X[fst.toNat]'hy)[k] by omega] at e
  rw [holds_one hf _ (by rw [e]; exact h3 _)] at h
  rw [e] at h
  rw [e]
  exact h
 have n4' : ∀ (k : Nat) (hk : k < (X[fst.toNat]'hy).length), 0 ≤ (X[fst.toNat]'hy)[k] ∧ (X[fst.toNat]'hy)[k] < manyG d := fun k hk => n4 _ (by rw [← hgy]; exact List.getElem_mem hk)
 rw [← hgy] at hB n2 n3
 clear n4 hng hgy hAe hBe
 refine AC_ofV (ts := [4]) Tryz.f9.ntmps Tryz.func9 rfl rfl rfl (by simp [Tryz.ntmps9]) fun W I => ?_
 repeat' (first
  | refine armXLTopNow_1 ?_
  | exact True.intro | refine stpH ?_ | refine two ?_ ?_ | refine allc fun c_ => ?_
  | (refine imp fun hc => ?_) <;> try exact cx1 hc
  | refine all fun v_ => ?_)
 all_goals
  refine JL_vs (VS.trans (VS.nilrow 72 1) (vdat (f := lettC) (xs := []) (h1 := []) 24 rfl rfl (fun _ => rfl) (by decide) (CvE.cons (t := 60) rfl (.agg (.cons .here (.cons (.same _) .nil))) (CvE.refl _ _ _)) (CvH.refl _))) ?_
  repeat' (first
   | refine armXLTopNow_2 ?_
   | exact True.intro | refine stpH ?_ | refine two ?_ ?_ | refine allc fun c_ => ?_
   | (refine imp fun hc => ?_) <;> try exact cx1 hc
   | refine all fun v_ => ?_)
  refine J_loopV (X := Nat) (fun k => [(5, .d (opsD f)), (6, .d (lettD L)), (7, .d (listsD X)), (8, .int fst), (10, .bool a), (12, .bool (allB (fun c => wAt f [lettF (tskG d []) c] 0 0 0) (X[fst.toNat]'hy))), (14, .bool a), (15, .int 0), (16, .bool (allB (fun c => wAt f [lettF (tskG d []) c] 0 0 0) ((X[fst.toNat]'hy).take k))), (17, .int k)]) (fun _ => []) (fun k => k ≤ (X[fst.toNat]'hy).length) (fun k => (X[fst.toNat]'hy).length - k) 0 (Nat.zero_le _) (VS.trans (VS.drop (List.nil_sublist _)) (VS.of_le ?_)) ?_
  · exact leD
  intro k hk
  by_cases hkl : k < (X[fst.toNat]'hy).length
  · have hm := n4' k hkl
    have hz : ((X[fst.toNat]'hy)[k]).toNat < L.length := by omega
    have hO2 := hOk k hkl hz
    have hs := allB_take (fun c => wAt f [lettF (tskG d []) c] 0 0 0) (X[fst.toNat]'hy) k hkl
    generalize wAt f [lettF (tskG d []) ((X[fst.toNat]'hy)[k])] 0 0 0 = y at hO2 hs
    repeat' (first
     | exact True.intro | refine stpH ?_ | refine two ?_ ?_ | refine allc fun c_ => ?_
     | (refine imp fun hc => ?_) <;> try exact cx1 hc
     | refine all fun v_ => ?_)
    refine JL_vs (VS.trans (VS.nilrow 72 1) (vdat (f := lettC) (xs := []) (h1 := []) 24 rfl rfl (fun _ => rfl) (by decide) (CvE.cons (t := 86) rfl (.agg (.cons .here (.cons (.same _) .nil))) (CvE.refl _ _ _)) (CvH.refl _))) ?_
    cases hv : allB (fun c => wAt f [lettF (tskG d []) c] 0 0 0) ((X[fst.toNat]'hy).take k)
    · rw [hv, Bool.false_and] at hs
      repeat' (first
       | refine armXLTopNow_3 ?_
       | exact True.intro | refine stpH ?_ | refine two ?_ ?_ | refine allc fun c_ => ?_
       | (refine imp fun hc => ?_) <;> try exact cx1 hc
       | refine all fun v_ => ?_)
      refine ⟨k + 1, by omega, by omega, VS.of_le ?_⟩
      rw [hs]
      exact leD
    · rw [hv, Bool.true_and] at hs
      repeat' (first
       | refine armXLTopNow_3 ?_
       | exact True.intro | refine stpH ?_ | refine two ?_ ?_ | refine allc fun c_ => ?_
       | (refine imp fun hc => ?_) <;> try exact cx1 hc
       | refine all fun v_ => ?_)
      refine ⟨k + 1, by omega, by omega, VS.of_le ?_⟩
      rw [hs]
      exact leD
  obtain rfl : k = (X[fst.toNat]'hy).length := by omega
  rw [List.take_length]
  repeat' (first
   | exact True.intro | refine stpH ?_ | refine two ?_ ?_ | refine allc fun c_ => ?_
   | (refine imp fun hc => ?_) <;> try exact cx1 hc
   | refine all fun v_ => ?_)
  all_goals
   refine retv (VS.drop (List.nil_sublist _)) ?_
   ((with_reducible apply rq1); rfl; rfl)
   exact ret_eq (by simp_all)
namespace CardTopNow
set_option linter.unusedVariables false
set_option linter.unusedSimpArgs false
theorem laws : ∀ xss : List (List D), xss.length = Tryz.f9.params.toList.length → (∀ (j : Nat) t xs, Tryz.f9.params.toList[j]? = some t → xss[j]? = some xs → Conf Tryz.prog 12 t xs) → ACr Tryz.prog GP 9 ((Tryz.f9.params.toList.zip xss).map fun p => argAV (isStructB Tryz.prog p.1) p.2) (.bool true) := by
 rw [Tryz.params9]
 intro xss hl hc
 match xss, hl with
 | [x0, x1], _ =>
   (obtain ⟨d, rfl, hd⟩ := conf_Design (hc 0 _ x0 rfl rfl)); (obtain ⟨raw, rfl, hr⟩ := conf_raws (hc 1 _ x1 rfl rfl))
   exact law_TopNow d hd raw hr
end CardTopNow
namespace CardTopNow
open Go.ChangeShapes Go.WideShapes Go.ChangeAt Go.RowKit
set_option linter.unusedVariables false
set_option linter.unusedSimpArgs false
theorem laid_met (os : Os) : laidMet Tryz.prog Rows.topNowRow.laid ((laidWorld os).forCall (fun _ _ => 0) ⟨#[], #[.agg #[.int .i64 0, .int .i64 0, .int .i64 0, .int .i64 0, .int .i64 0, .int .i64 0, .slice none 0 0], .slice none 0 0], []⟩).memory :=
 laidMet_of_run' 24 (by kernel_rfl) (by kernel_rfl)
theorem reads (os : Os) {H : Type} (enc : TypeId × Value → H) : ∃ places, DataW.whole enc Tryz.prog ((laidWorld os).forCall (fun _ _ => 0) ⟨#[], #[.agg #[.int .i64 0, .int .i64 0, .int .i64 0, .int .i64 0, .int .i64 0, .int .i64 0, .slice none 0 0], .slice none 0 0], []⟩).memory Tryz.f9.params.toList Rows.topNowSpec.vars false (#[.agg #[.int .i64 0, .int .i64 0, .int .i64 0, .int .i64 0, .int .i64 0, .int .i64 0, .slice none 0 0], .slice none 0 0] : Array Value).toList 24 = some ([.agg [.agg [.lit (.int .i64 0), .lit (.int .i64 0)], .agg [.lit (.int .i64 0), .lit (.int .i64 0)], .agg [.lit (.int .i64 0), .lit (.int .i64 0)], .nil], .nil], [], places) :=
 ⟨[], by kernel_rfl⟩

theorem params : ∀ t ∈ Tryz.f9.params.toList, plainB Tryz.prog 12 t = true ∧ Tryz.prog.readableRec t = true ∧ t < Tryz.prog.types.size := by
 rw [Tryz.params9]
 intro t ht
 simp only [List.mem_cons, List.not_mem_nil, or_false] at ht
 rcases ht with rfl | rfl <;> exact ⟨by kernel_rfl, by kernel_rfl, of_decide_eq_true (by kernel_rfl)⟩

set_option maxRecDepth 100000 in
theorem lifted (os : Os) (started : os.Started) (H : Type) (enc : TypeId × Value → H) (F : Stop.Interp) :
 ReturnsInHanded {} Tryz.checked os 9 .any ((OpenSpec.ofChange Rows.topNowSpec).preRow enc Tryz.prog Tryz.f9 Rows.topNowRow.domain false Rows.topNowRow.laid) (((OpenSpec.ofChange Rows.topNowSpec).at F).post enc Tryz.prog Tryz.f9 false true false false) := by
 obtain ⟨places, hx⟩ := reads os enc
 refine returnsInHanded_of_row (C := Tryz.checked) (s := OpenSpec.ofChange Rows.topNowSpec) own started (by kernel_rfl) Tryz.func9
  (witness_row_at (enc := enc) (C := Tryz.checked) false (laidWorld os) #[.agg #[.int .i64 0, .int .i64 0, .int .i64 0, .int .i64 0, .int .i64 0, .int .i64 0, .slice none 0 0], .slice none 0 0] rfl (by kernel_rfl) (by kernel_rfl) (by kernel_rfl)
   (OpenSpec.preRow_of_cond 24 hx (by kernel_rfl) (fun k hk => by cases hk) (by kernel_rfl) (laid_met os))) ?_
 intro W base args ds gs before hval hW _ _ hz hL _ _
 refine law_of (G := GP) (g := 12) laidOutAll params rfl Tryz.underlying4 rfl ?_ ?_ (globPD hL) hval hW ?_
 · intro ds hds
   rw [Tryz.params9] at hds
   match ds, hds with
   | [d0, d1], _ => exact ⟨rfl, rfl, rfl⟩
 · exact laws
 · obtain ⟨p, q, _, hV, _⟩ := hW
   obtain rfl : gs = [] := by cases gs with | nil => rfl | cons _ _ => simp [Rows.topNowSpec, OpenSpec.ofChange, DataW.TrodVars] at hV
   simpa [Rows.topNowSpec, OpenSpec.ofChange, OpenSpec.bare, ChangeSpec.plain, DataSpec.varTypes] using hz

theorem said : Rows.topNowRow.holds Tryz.pinned (OpenSpec.ofChange Rows.topNowSpec) :=
 OpenClaim.holds_of_cond 9 Tryz.f9 rfl rfl rfl rfl rfl rfl rfl ⟨rfl, rfl, rfl, rfl, rfl⟩ rfl rfl rfl rfl rfl (by as_aux_lemma => kernel_rfl) Tryz.func9 (by as_aux_lemma => kernel_rfl)
  (of_decide_eq_true (by as_aux_lemma => kernel_rfl)) (by as_aux_lemma => unfold Func.isWrapper; first | (rw [if_pos (by decide +kernel)]; kernel_rfl) | (rw [if_neg (by decide +kernel)]; exact ⟨rfl, rfl⟩))
  (fun os started H enc _ F => by rw [OpenClaim.pre_eq_preRow]; exact lifted os started H enc F)

theorem plain (f : FuncId) (fn : Func) (hf : Tryz.pinned.checked.prog.funcNamed "foretell/foretelltop.TopNow" = some f) (hfn : Tryz.pinned.checked.prog.funcs[f]? = some fn) :
 true = Tryz.pinned.checked.prog.looks [] ∧ ∀ (j : Nat) t, fn.params[j]? = some t → Tryz.pinned.checked.prog.wantsStandIn t = false := by
 obtain rfl : f = 9 := Option.some.inj ((show Tryz.prog.funcNamed "foretell/foretelltop.TopNow" = some 9 by kernel_rfl).symm.trans hf) |>.symm
 obtain rfl : fn = Tryz.f9 := (Option.some.inj (Tryz.func9.symm.trans hfn)).symm
 refine ⟨by kernel_rfl, fun j t ht => ?_⟩
 have hm : t ∈ Tryz.f9.params.toList := by simpa using Array.mem_of_getElem? ht
 rw [Tryz.params9] at hm
 simp only [List.mem_cons, List.not_mem_nil, or_false] at hm
 rcases hm with rfl | rfl <;> (show _ = false; kernel_rfl)

theorem card : Rows.TopNowCardSaid :=
 Claim7.holds_tied_plain_at .later [] _ _ _ _ said (fun _ h => by cases h) (by as_aux_lemma => kernel_rfl) (fun _ h => by cases h) topNow_row_tie rfl ⟨rfl, rfl⟩ (by as_aux_lemma => kernel_rfl) rfl plain (by as_aux_lemma => kernel_rfl)
end CardTopNow
end Go.Proofs.YtniklgkoiaeipaaGreatDoor
