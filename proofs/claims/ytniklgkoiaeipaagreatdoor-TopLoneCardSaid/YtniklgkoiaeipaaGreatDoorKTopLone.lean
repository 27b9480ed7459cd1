/- A model that cannot move has one run (it stays in its first state): for every input the law returns true. Conditions: none. -/
import Derived.Test.YtniklgkoiaeipaaGreatDoorD35
import Derived.Test.YtniklgkoiaeipaaGreatDoorD40
namespace Go.Proofs.YtniklgkoiaeipaaGreatDoor
open Go Go.Av Go.Sp
set_option linter.unusedVariables false
set_option linter.unusedSimpArgs false
set_option maxRecDepth 100000
set_option maxHeartbeats 4000000

theorem armXLTopLone_1 {p q : Prop} (hp : p) (h : p → q := by
 apply cmp; (focus (first
  | ((with_reducible apply call0); (focus rfl); (focus exact cal_KFormula); (focus exact hF); (focus rfl))
  | ((with_reducible apply je_call0); (focus rfl); (focus (decide +kernel)); (focus rfl); (focus exact cal_KFormula); (focus exact hF); (focus rfl))
  ))
 exact fun h => h) : q := h hp
theorem armXLTopLone_2 {p q : Prop} (hp : p) (h : p → q := by
 apply cmp; (focus (first
  | ((with_reducible apply call0); (focus rfl); (focus exact cal_kworld); (focus exact hW); (focus rfl))
  | ((with_reducible apply je_call0); (focus rfl); (focus (decide +kernel)); (focus rfl); (focus exact cal_kworld); (focus exact hW); (focus rfl))
  | ((with_reducible apply call0); (focus rfl); (focus exact cal_kholds); (focus exact hA); (focus rfl))
  | ((with_reducible apply je_call0); (focus rfl); (focus (decide +kernel)); (focus rfl); (focus exact cal_kholds); (focus exact hA); (focus rfl))
  ))
 exact fun h => h) : q := h hp
theorem armXLTopLone_3 {p q : Prop} (hp : p) (h : p → q := by
 apply cmp; (focus (first
  | ((with_reducible apply call0); (focus rfl); (focus exact cal_WHolds); (focus exact hO); (focus rfl))
  | ((with_reducible apply je_call0); (focus rfl); (focus (decide +kernel)); (focus rfl); (focus exact cal_WHolds); (focus exact hO); (focus rfl))
  ))
 exact fun h => h) : q := h hp
theorem law_TopLone (d : De) (hd : DeOk d) (raw : List Fo) (hr : rawOk raw) : ACr Tryz.prog GP 10 [deA d, .d (opsD raw)] (.bool true) := by
 have hF := KFormula GP raw hr 4 (by decide)
 obtain ⟨hw, ha, hl⟩ := formG_wf raw 4
 generalize formG raw 4 = f at hF hw ha hl
 obtain ⟨d0, hd0⟩ : ∃ d0 : De, d0 = { d with rules := [] } := ⟨_, rfl⟩
 have hdk : DeOk d0 := by subst hd0; exact ⟨hd.s0, hd.s1, hd.l0, hd.l1, hd.i0, hd.i1, fun p hp => by cases hp⟩
 have hA := kholds d0 hdk (f := f) ⟨hw, by omega, by omega⟩
 have hW := kworld d0 hdk
 have e0 : deA d0 = .agg [.int d.s0, .int d.s1, .int d.l0, .int d.l1, .int d.i0, .int d.i1, .d (.l 4 64 [])] := by subst hd0; rfl
 rw [e0] at hA hW
 obtain ⟨f1, f2, f3⟩ := first_ok (modelF_G d0)
 have hN := manyG_eq d0
 rw [hN.1] at f3
 have hll := letsG_len d0 (manyG d0)
 have hlg := letsG_get d0
 have h3 := lettF_3 d0 (firstF (modG d0))
 have hH : hldF (tskG d0 f) = wAt f [lettF (tskG d0 []) (firstF (modG d0))] 0 0 0 := by
  refine Bool.eq_iff_iff.2 ?_
  rw [hldF_iff]
  exact top_lone d0 (by rw [hd0])
 generalize hfst : firstF (modG d0) = fst at hW f2 f3 h3 hH
 have hx : fst.toNat < (letsG d0 (manyG d0)).length := by omega
 have hg := hlg fst.toNat hx
 rw [show ((fst.toNat : Nat) : Int) = fst by omega] at hg
 generalize letsG d0 (manyG d0) = L at hW hll hx hg
 generalize nxtG d0 (manyG d0) = X at hW
 have hO := WHolds f ⟨[], [L[fst.toNat]'hx]⟩ 3
 rw [holds_one (f := f) ⟨hw, by omega, by omega⟩ _ (by rw [hg]; exact h3), hg, ← hH] at hO
 dsimp only at hO
 rw [← hg] at hO
 generalize hldF (tskG d0 f) = a at hA hO
 refine AC_ofV (ts := [4]) Tryz.f10.ntmps Tryz.func10 rfl rfl rfl (by simp [Tryz.ntmps10]) fun W I => ?_
 repeat' (first
  | refine armXLTopLone_1 ?_
  | exact True.intro | refine stpH ?_ | refine two ?_ ?_ | refine allc fun c_ => ?_
  | (refine imp fun hc => ?_) <;> try exact cx1 hc
  | refine all fun v_ => ?_)
 refine JL_vs (VS.trans (VS.nilrow 133 4) (vdat (f := Pl.cells) (xs := []) (h1 := []) 64 rfl rfl (fun _ => rfl) (by decide) (CvE.cons (t := 18) rfl (.agg (.cons (.same _) (.cons (.same _) (.cons (.same _) (.cons (.same _) (.cons (.same _) (.cons (.same _) (.cons .here .nil)))))))) (CvE.refl _ _ _)) (CvH.cells (.cons (.same _) (.cons (.same _) (.cons (.same _) (.cons (.same _) (.cons (.same _) (.cons (.same _) (.cons .here .nil))))))) (.refl _)))) ?_
 repeat' (first
  | refine armXLTopLone_2 ?_
  | exact True.intro | refine stpH ?_ | refine two ?_ ?_ | refine allc fun c_ => ?_
  | (refine imp fun hc => ?_) <;> try exact cx1 hc
  | refine all fun v_ => ?_)
 all_goals
  refine JL_vs (VS.trans (VS.nilrow 72 1) (vdat (f := lettC) (xs := []) (h1 := []) 24 rfl rfl (fun _ => rfl) (by decide) (CvE.cons (t := 43) rfl (.agg (.cons .here (.cons (.same _) .nil))) (CvE.refl _ _ _)) (CvH.refl _))) ?_
  repeat' (first
   | refine armXLTopLone_3 ?_
   | exact True.intro | refine stpH ?_ | refine two ?_ ?_ | refine allc fun c_ => ?_
   | (refine imp fun hc => ?_) <;> try exact cx1 hc
   | refine all fun v_ => ?_)
  all_goals
   refine retv (VS.drop (List.nil_sublist _)) ?_
   ((with_reducible apply rq1); rfl; rfl)
   exact ret_eq (by simp)
namespace CardTopLone
set_option linter.unusedVariables false
set_option linter.unusedSimpArgs false
theorem laws : ∀ xss : List (List D), xss.length = Tryz.f10.params.toList.length → (∀ (j : Nat) t xs, Tryz.f10.params.toList[j]? = some t → xss[j]? = some xs → Conf Tryz.prog 12 t xs) → ACr Tryz.prog GP 10 ((Tryz.f10.params.toList.zip xss).map fun p => argAV (isStructB Tryz.prog p.1) p.2) (.bool true) := by
 rw [Tryz.params10]
 intro xss hl hc
 match xss, hl with
 | [x0, x1], _ =>
   (obtain ⟨d, rfl, hd⟩ := conf_Design (hc 0 _ x0 rfl rfl)); (obtain ⟨raw, rfl, hr⟩ := conf_raws (hc 1 _ x1 rfl rfl))
   exact law_TopLone d hd raw hr
end CardTopLone
namespace CardTopLone
open Go.ChangeShapes Go.WideShapes Go.ChangeAt Go.RowKit
set_option linter.unusedVariables false
set_option linter.unusedSimpArgs false
theorem laid_met (os : Os) : laidMet Tryz.prog Rows.topLoneRow.laid ((laidWorld os).forCall (fun _ _ => 0) ⟨#[], #[.agg #[.int .i64 0, .int .i64 0, .int .i64 0, .int .i64 0, .int .i64 0, .int .i64 0, .slice none 0 0], .slice none 0 0], []⟩).memory :=
 laidMet_of_run' 24 (by kernel_rfl) (by kernel_rfl)
theorem reads (os : Os) {H : Type} (enc : TypeId × Value → H) : ∃ places, DataW.whole enc Tryz.prog ((laidWorld os).forCall (fun _ _ => 0) ⟨#[], #[.agg #[.int .i64 0, .int .i64 0, .int .i64 0, .int .i64 0, .int .i64 0, .int .i64 0, .slice none 0 0], .slice none 0 0], []⟩).memory Tryz.f10.params.toList Rows.topLoneSpec.vars false (#[.agg #[.int .i64 0, .int .i64 0, .int .i64 0, .int .i64 0, .int .i64 0, .int .i64 0, .slice none 0 0], .slice none 0 0] : Array Value).toList 24 = some ([.agg [.agg [.lit (.int .i64 0), .lit (.int .i64 0)], .agg [.lit (.int .i64 0), .lit (.int .i64 0)], .agg [.lit (.int .i64 0), .lit (.int .i64 0)], .nil], .nil], [], places) :=
 ⟨[], by kernel_rfl⟩

theorem params : ∀ t ∈ Tryz.f10.params.toList, plainB Tryz.prog 12 t = true ∧ Tryz.prog.readableRec t = true ∧ t < Tryz.prog.types.size := by
 rw [Tryz.params10]
 intro t ht
 simp only [List.mem_cons, List.not_mem_nil, or_false] at ht
 rcases ht with rfl | rfl <;> exact ⟨by kernel_rfl, by kernel_rfl, of_decide_eq_true (by kernel_rfl)⟩

set_option maxRecDepth 100000 in
theorem lifted (os : Os) (started : os.Started) (H : Type) (enc : TypeId × Value → H) (F : Stop.Interp) :
 ReturnsInHanded {} Tryz.checked os 10 .any ((OpenSpec.ofChange Rows.topLoneSpec).preRow enc Tryz.prog Tryz.f10 Rows.topLoneRow.domain false Rows.topLoneRow.laid) (((OpenSpec.ofChange Rows.topLoneSpec).at F).post enc Tryz.prog Tryz.f10 false true false false) := by
 obtain ⟨places, hx⟩ := reads os enc
 refine returnsInHanded_of_row (C := Tryz.checked) (s := OpenSpec.ofChange Rows.topLoneSpec) own started (by kernel_rfl) Tryz.func10
  (witness_row_at (enc := enc) (C := Tryz.checked) false (laidWorld os) #[.agg #[.int .i64 0, .int .i64 0, .int .i64 0, .int .i64 0, .int .i64 0, .int .i64 0, .slice none 0 0], .slice none 0 0] rfl (by kernel_rfl) (by kernel_rfl) (by kernel_rfl)
   (OpenSpec.preRow_of_cond 24 hx (by kernel_rfl) (fun k hk => by cases hk) (by kernel_rfl) (laid_met os))) ?_
 intro W base args ds gs before hval hW _ _ hz hL _ _
 refine law_of (G := GP) (g := 12) laidOutAll params rfl Tryz.underlying4 rfl ?_ ?_ (globPD hL) hval hW ?_
 · intro ds hds
   rw [Tryz.params10] at hds
   match ds, hds with
   | [d0, d1], _ => exact ⟨rfl, rfl, rfl⟩
 · exact laws
 · obtain ⟨p, q, _, hV, _⟩ := hW
   obtain rfl : gs = [] := by cases gs with | nil => rfl | cons _ _ => simp [Rows.topLoneSpec, OpenSpec.ofChange, DataW.TrodVars] at hV
   simpa [Rows.topLoneSpec, OpenSpec.ofChange, OpenSpec.bare, ChangeSpec.plain, DataSpec.varTypes] using hz

theorem said : Rows.topLoneRow.holds Tryz.pinned (OpenSpec.ofChange Rows.topLoneSpec) :=
 OpenClaim.holds_of_cond 10 Tryz.f10 rfl rfl rfl rfl rfl rfl rfl ⟨rfl, rfl, rfl, rfl, rfl⟩ rfl rfl rfl rfl rfl (by as_aux_lemma => kernel_rfl) Tryz.func10 (by as_aux_lemma => kernel_rfl)
  (of_decide_eq_true (by as_aux_lemma => kernel_rfl)) (by as_aux_lemma => unfold Func.isWrapper; first | (rw [if_pos (by decide +kernel)]; kernel_rfl) | (rw [if_neg (by decide +kernel)]; exact ⟨rfl, rfl⟩))
  (fun os started H enc _ F => by rw [OpenClaim.pre_eq_preRow]; exact lifted os started H enc F)

theorem plain (f : FuncId) (fn : Func) (hf : Tryz.pinned.checked.prog.funcNamed "foretell/foretelltop.TopLone" = some f) (hfn : Tryz.pinned.checked.prog.funcs[f]? = some fn) :
 true = Tryz.pinned.checked.prog.looks [] ∧ ∀ (j : Nat) t, fn.params[j]? = some t → Tryz.pinned.checked.prog.wantsStandIn t = false := by
 obtain rfl : f = 10 := Option.some.inj ((show Tryz.prog.funcNamed "foretell/foretelltop.TopLone" = some 10 by kernel_rfl).symm.trans hf) |>.symm
 obtain rfl : fn = Tryz.f10 := (Option.some.inj (Tryz.func10.symm.trans hfn)).symm
 refine ⟨by kernel_rfl, fun j t ht => ?_⟩
 have hm : t ∈ Tryz.f10.params.toList := by simpa using Array.mem_of_getElem? ht
 rw [Tryz.params10] at hm
 simp only [List.mem_cons, List.not_mem_nil, or_false] at hm
 rcases hm with rfl | rfl <;> (show _ = false; kernel_rfl)

theorem card : Rows.TopLoneCardSaid :=
 Claim7.holds_tied_plain_at .later [] _ _ _ _ said (fun _ h => by cases h) (by as_aux_lemma => kernel_rfl) (fun _ h => by cases h) topLone_row_tie rfl ⟨rfl, rfl⟩ (by as_aux_lemma => kernel_rfl) rfl plain (by as_aux_lemma => kernel_rfl)
end CardTopLone
end Go.Proofs.YtniklgkoiaeipaaGreatDoor
