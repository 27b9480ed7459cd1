/- A formula and its not never hold both (there is a run): for every input the law returns true. Conditions: none. -/
import Derived.Test.YtniklgkoiaeipaaGreatDoorA35
namespace Go.Proofs.YtniklgkoiaeipaaGreatDoor
open Go Go.Av Go.Sp
set_option linter.unusedVariables false
set_option linter.unusedSimpArgs false
set_option maxRecDepth 100000
set_option maxHeartbeats 4000000

theorem armXLTopNot_1 {p q : Prop} (hp : p) (h : p → q := by
 apply cmp; (focus (first
  | ((with_reducible apply call0); (focus rfl); (focus exact cal_KFormula); (focus exact hF); (focus rfl))
  | ((with_reducible apply je_call0); (focus rfl); (focus (decide +kernel)); (focus rfl); (focus exact cal_KFormula); (focus exact hF); (focus rfl))
  | ((with_reducible apply call0); (focus rfl); (focus exact cal_KJoined); (focus exact hJ); (focus rfl))
  | ((with_reducible apply je_call0); (focus rfl); (focus (decide +kernel)); (focus rfl); (focus exact cal_KJoined); (focus exact hJ); (focus rfl))
  | ((with_reducible apply qcall); (focus rfl); (focus exact cal_KJoined); (focus exact hJ); (focus rfl))
  | ((with_reducible apply call0); (focus rfl); (focus exact cal_kholds); (focus exact hA); (focus rfl))
  | ((with_reducible apply je_call0); (focus rfl); (focus (decide +kernel)); (focus rfl); (focus exact cal_kholds); (focus exact hA); (focus rfl))
  | ((with_reducible apply call0); (focus rfl); (focus exact cal_kholds); (focus exact hB); (focus rfl))
  | ((with_reducible apply je_call0); (focus rfl); (focus (decide +kernel)); (focus rfl); (focus exact cal_kholds); (focus exact hB); (focus rfl))
  | ((with_reducible apply call0); (focus rfl); (focus exact cal_kholds); (focus exact hC); (focus rfl))
  | ((with_reducible apply je_call0); (focus rfl); (focus (decide +kernel)); (focus rfl); (focus exact cal_kholds); (focus exact hC); (focus rfl))
  ))
 exact fun h => h) : q := h hp
theorem law_TopNot (d : De) (hd : DeOk d) (raw : List Fo) (hr : rawOk raw) : ACr Tryz.prog GP 5 [deA d, .d (opsD raw)] (.bool true) := by
 have hF := KFormula GP raw hr 4 (by decide)
 obtain ⟨hw, ha, hl⟩ := formG_wf raw 4
 generalize formG raw 4 = f at hF hw ha hl
 have hA := kholds d hd (f := f) ⟨hw, by omega, by omega⟩
 have hB := kholds d hd (FoG.not hw (by omega) (by omega))
 have hC := kholds d hd FoG.yes
 have hJ := Join1 GP 10 f (by omega)
 have hT := hldF_T (top_yes d)
 have hN : ¬ (hldF (tskG d f) = true ∧ hldF (tskG d (⟨10, 0⟩ :: f)) = true) := fun h => top_not d hw (hldF_iff.1 h.1) (hldF_iff.1 h.2)
 rw [hT] at hC
 generalize hldF (tskG d f) = a at hA hN
 generalize hldF (tskG d (⟨10, 0⟩ :: f)) = b at hB hN
 refine AC_ofV (ts := [4]) Tryz.f5.ntmps Tryz.func5 rfl rfl rfl (by simp [Tryz.ntmps5]) fun W I => ?_
 all_goals haveI fA_ : FlagA := ⟨⟩
 all_goals haveI fH_ : FlagH := ⟨⟩
 repeat' (first
  | refine armXLTopNot_1 ?_
  | exact True.intro
  | refine stp ?_
  | refine two ?_ ?_
  | refine allc fun c_ => ?_
  | (refine imp fun hc => ?_) <;> try exact cx1 hc
  | refine all fun v_ => ?_)
 all_goals clear fA_ fH_
 all_goals
  refine retv (VS.drop (List.nil_sublist _)) ?_
  ((with_reducible apply rq1); rfl; rfl)
  exact ret_eq (by cases a <;> cases b <;> simp_all)
namespace CardTopNot
set_option linter.unusedVariables false
set_option linter.unusedSimpArgs false
theorem laws : ∀ xss : List (List D), xss.length = Tryz.f5.params.toList.length → (∀ (j : Nat) t xs, Tryz.f5.params.toList[j]? = some t → xss[j]? = some xs → Conf Tryz.prog 12 t xs) → ACr Tryz.prog GP 5 ((Tryz.f5.params.toList.zip xss).map fun p => argAV (isStructB Tryz.prog p.1) p.2) (.bool true) := by
 rw [Tryz.params5]
 intro xss hl hc
 match xss, hl with
 | [x0, x1], _ =>
   (obtain ⟨d, rfl, hd⟩ := conf_Design (hc 0 _ x0 rfl rfl)); (obtain ⟨raw, rfl, hr⟩ := conf_raws (hc 1 _ x1 rfl rfl))
   exact law_TopNot d hd raw hr
end CardTopNot
namespace CardTopNot
open Go.ChangeShapes Go.WideShapes Go.ChangeAt Go.RowKit
set_option linter.unusedVariables false
set_option linter.unusedSimpArgs false
theorem laid_met (os : Os) : laidMet Tryz.prog Rows.topNotRow.laid ((laidWorld os).forCall (fun _ _ => 0) ⟨#[], #[.agg #[.int .i64 0, .int .i64 0, .int .i64 0, .int .i64 0, .int .i64 0, .int .i64 0, .slice none 0 0], .slice none 0 0], []⟩).memory :=
 laidMet_of_run' 24 (by kernel_rfl) (by kernel_rfl)
theorem reads (os : Os) {H : Type} (enc : TypeId × Value → H) : ∃ places, DataW.whole enc Tryz.prog ((laidWorld os).forCall (fun _ _ => 0) ⟨#[], #[.agg #[.int .i64 0, .int .i64 0, .int .i64 0, .int .i64 0, .int .i64 0, .int .i64 0, .slice none 0 0], .slice none 0 0], []⟩).memory Tryz.f5.params.toList Rows.topNotSpec.vars false (#[.agg #[.int .i64 0, .int .i64 0, .int .i64 0, .int .i64 0, .int .i64 0, .int .i64 0, .slice none 0 0], .slice none 0 0] : Array Value).toList 24 = some ([.agg [.agg [.lit (.int .i64 0), .lit (.int .i64 0)], .agg [.lit (.int .i64 0), .lit (.int .i64 0)], .agg [.lit (.int .i64 0), .lit (.int .i64 0)], .nil], .nil], [], places) :=
 ⟨[], by kernel_rfl⟩

theorem params : ∀ t ∈ Tryz.f5.params.toList, plainB Tryz.prog 12 t = true ∧ Tryz.prog.readableRec t = true ∧ t < Tryz.prog.types.size := by
 rw [Tryz.params5]
 intro t ht
 simp only [List.mem_cons, List.not_mem_nil, or_false] at ht
 rcases ht with rfl | rfl <;> exact ⟨by kernel_rfl, by kernel_rfl, of_decide_eq_true (by kernel_rfl)⟩

set_option maxRecDepth 100000 in
theorem lifted (os : Os) (started : os.Started) (H : Type) (enc : TypeId × Value → H) (F : Stop.Interp) :
 ReturnsInHanded {} Tryz.checked os 5 .any ((OpenSpec.ofChange Rows.topNotSpec).preRow enc Tryz.prog Tryz.f5 Rows.topNotRow.domain false Rows.topNotRow.laid) (((OpenSpec.ofChange Rows.topNotSpec).at F).post enc Tryz.prog Tryz.f5 false true false false) := by
 obtain ⟨places, hx⟩ := reads os enc
 refine returnsInHanded_of_row (C := Tryz.checked) (s := OpenSpec.ofChange Rows.topNotSpec) own started (by kernel_rfl) Tryz.func5
  (witness_row_at (enc := enc) (C := Tryz.checked) false (laidWorld os) #[.agg #[.int .i64 0, .int .i64 0, .int .i64 0, .int .i64 0, .int .i64 0, .int .i64 0, .slice none 0 0], .slice none 0 0] rfl (by kernel_rfl) (by kernel_rfl) (by kernel_rfl)
   (OpenSpec.preRow_of_cond 24 hx (by kernel_rfl) (fun k hk => by cases hk) (by kernel_rfl) (laid_met os))) ?_
 intro W base args ds gs before hval hW _ _ hz hL _ _
 refine law_of (G := GP) (g := 12) laidOutAll params rfl Tryz.underlying4 rfl ?_ ?_ (globPD hL) hval hW ?_
 · intro ds hds
   rw [Tryz.params5] at hds
   match ds, hds with
   | [d0, d1], _ => exact ⟨rfl, rfl, rfl⟩
 · exact laws
 · obtain ⟨p, q, _, hV, _⟩ := hW
   obtain rfl : gs = [] := by cases gs with | nil => rfl | cons _ _ => simp [Rows.topNotSpec, OpenSpec.ofChange, DataW.TrodVars] at hV
   simpa [Rows.topNotSpec, OpenSpec.ofChange, OpenSpec.bare, ChangeSpec.plain, DataSpec.varTypes] using hz

theorem said : Rows.topNotRow.holds Tryz.pinned (OpenSpec.ofChange Rows.topNotSpec) :=
 OpenClaim.holds_of_cond 5 Tryz.f5 rfl rfl rfl rfl rfl rfl rfl ⟨rfl, rfl, rfl, rfl, rfl⟩ rfl rfl rfl rfl rfl (by as_aux_lemma => kernel_rfl) Tryz.func5 (by as_aux_lemma => kernel_rfl)
  (of_decide_eq_true (by as_aux_lemma => kernel_rfl)) (by as_aux_lemma => unfold Func.isWrapper; first | (rw [if_pos (by decide +kernel)]; kernel_rfl) | (rw [if_neg (by decide +kernel)]; exact ⟨rfl, rfl⟩))
  (fun os started H enc _ F => by rw [OpenClaim.pre_eq_preRow]; exact lifted os started H enc F)

theorem plain (f : FuncId) (fn : Func) (hf : Tryz.pinned.checked.prog.funcNamed "foretell/foretelltop.TopNot" = some f) (hfn : Tryz.pinned.checked.prog.funcs[f]? = some fn) :
 true = Tryz.pinned.checked.prog.looks [] ∧ ∀ (j : Nat) t, fn.params[j]? = some t → Tryz.pinned.checked.prog.wantsStandIn t = false := by
 obtain rfl : f = 5 := Option.some.inj ((show Tryz.prog.funcNamed "foretell/foretelltop.TopNot" = some 5 by kernel_rfl).symm.trans hf) |>.symm
 obtain rfl : fn = Tryz.f5 := (Option.some.inj (Tryz.func5.symm.trans hfn)).symm
 refine ⟨by kernel_rfl, fun j t ht => ?_⟩
 have hm : t ∈ Tryz.f5.params.toList := by simpa using Array.mem_of_getElem? ht
 rw [Tryz.params5] at hm
 simp only [List.mem_cons, List.not_mem_nil, or_false] at hm
 rcases hm with rfl | rfl <;> (show _ = false; kernel_rfl)

theorem card : Rows.TopNotCardSaid :=
 Claim7.holds_tied_plain_at .later [] _ _ _ _ said (fun _ h => by cases h) (by as_aux_lemma => kernel_rfl) (fun _ h => by cases h) topNot_row_tie rfl ⟨rfl, rfl⟩ (by as_aux_lemma => kernel_rfl) rfl plain (by as_aux_lemma => kernel_rfl)
end CardTopNot
end Go.Proofs.YtniklgkoiaeipaaGreatDoor
