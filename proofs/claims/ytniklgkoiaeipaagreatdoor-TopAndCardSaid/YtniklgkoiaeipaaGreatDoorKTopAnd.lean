/- Both hold just if each does: for every input the law returns true. Conditions: none. -/
import Derived.Test.YtniklgkoiaeipaaGreatDoorA35
namespace Go.Proofs.YtniklgkoiaeipaaGreatDoor
open Go Go.Av Go.Sp
set_option linter.unusedVariables false
set_option linter.unusedSimpArgs false
set_option maxRecDepth 100000
set_option maxHeartbeats 4000000

theorem armXLTopAnd_1 {p q : Prop} (hp : p) (h : p → q := by
 apply cmp; (focus (first
  | ((with_reducible apply call0); (focus rfl); (focus exact cal_KFormula); (focus exact hF); (focus rfl))
  | ((with_reducible apply je_call0); (focus rfl); (focus (decide +kernel)); (focus rfl); (focus exact cal_KFormula); (focus exact hF); (focus rfl))
  | ((with_reducible apply call0); (focus rfl); (focus exact cal_KFormula); (focus exact hG); (focus rfl))
  | ((with_reducible apply je_call0); (focus rfl); (focus (decide +kernel)); (focus rfl); (focus exact cal_KFormula); (focus exact hG); (focus rfl))
  | ((with_reducible apply call0); (focus rfl); (focus exact cal_KJoined); (focus exact hJ); (focus rfl))
  | ((with_reducible apply je_call0); (focus rfl); (focus (decide +kernel)); (focus rfl); (focus exact cal_KJoined); (focus exact hJ); (focus rfl))
  | ((with_reducible apply qcall); (focus rfl); (focus exact cal_KJoined); (focus exact hJ); (focus rfl))
  | ((with_reducible apply call0); (focus rfl); (focus exact cal_kholds); (focus exact hA); (focus rfl))
  | ((with_reducible apply je_call0); (focus rfl); (focus (decide +kernel)); (focus rfl); (focus exact cal_kholds); (focus exact hA); (focus rfl))
  | ((with_reducible apply call0); (focus rfl); (focus exact cal_kholds); (focus exact hB); (focus rfl))
  | ((with_reducible apply je_call0); (focus rfl); (focus (decide +kernel)); (focus rfl); (focus exact cal_kholds); (focus exact hB); (focus rfl))
  | ((with_reducible apply call0); (focus rfl); (focus exact cal_kholds); (focus exact hC); (focus rfl))
  | ((with_reducible apply je_call0); (focus rfl); (focus (decide +kernel)); (focus rfl); (focus exact cal_kholds); (focus exact hC); (focus rfl))
  | ((with_reducible apply call0); (focus rfl); (focus exact cal_kholds); (focus exact hY); (focus rfl))
  | ((with_reducible apply je_call0); (focus rfl); (focus (decide +kernel)); (focus rfl); (focus exact cal_kholds); (focus exact hY); (focus rfl))
  ))
 exact fun h => h) : q := h hp
theorem law_TopAnd (d : De) (hd : DeOk d) (x : List Fo) (hx : rawOk x) (y : List Fo) (hy : rawOk y) : ACr Tryz.prog GP 6 [deA d, .d (opsD x), .d (opsD y)] (.bool true) := by
 have hF := KFormula GP x hx 2 (by decide)
 have hG := KFormula GP y hy 2 (by decide)
 obtain ⟨hw, ha, hl⟩ := formG_wf x 2
 obtain ⟨gw, ga, gl⟩ := formG_wf y 2
 generalize formG x 2 = f at hF hw ha hl
 generalize formG y 2 = g at hG gw ga gl
 have hA := kholds d hd (f := f) ⟨hw, by omega, by omega⟩
 have hB := kholds d hd (f := g) ⟨gw, by omega, by omega⟩
 have hC := kholds d hd (FoG.two 8 (.inl rfl) hw gw (by omega) (by omega))
 have hJ := Join2 GP 8 f g (by omega)
 have hY := kholds d hd FoG.yes
 have hT := hldF_T (top_yes d)
 have hN : hldF (tskG d (⟨8, 0⟩ :: (f ++ g))) = (hldF (tskG d f) && hldF (tskG d g)) := by
  refine Bool.eq_iff_iff.2 ?_
  rw [Bool.and_eq_true, hldF_iff, hldF_iff, hldF_iff]
  exact top_and d hw gw
 rw [hT] at hY
 rw [hN] at hC
 generalize hldF (tskG d f) = a at hA hC
 generalize hldF (tskG d g) = b at hB hC
 refine AC_ofV (ts := [6]) Tryz.f6.ntmps Tryz.func6 rfl rfl rfl (by simp [Tryz.ntmps6]) fun W I => ?_
 all_goals haveI fA_ : FlagA := ⟨⟩
 all_goals haveI fH_ : FlagH := ⟨⟩
 repeat' (first
  | refine armXLTopAnd_1 ?_
  | ((with_reducible apply jbuild_list2); (focus rfl); (focus rfl); (focus rfl); (focus (with_reducible exact ElC.h)); (focus rfl); (focus rfl))
  | exact True.intro
  | refine stp ?_
  | refine two ?_ ?_
  | refine allc fun c_ => ?_
  | (refine imp fun hc => ?_) <;> try exact cx1 hc
  | refine all fun v_ => ?_)
 all_goals clear fA_ fH_
 all_goals
  refine retv (VS.drop (List.nil_sublist _)) ?_
  ((with_reducible apply rq1); rfl; rfl)
  exact ret_eq (by cases a <;> cases b <;> simp_all)
namespace CardTopAnd
set_option linter.unusedVariables false
set_option linter.unusedSimpArgs false
theorem laws : ∀ xss : List (List D), xss.length = Tryz.f6.params.toList.length → (∀ (j : Nat) t xs, Tryz.f6.params.toList[j]? = some t → xss[j]? = some xs → Conf Tryz.prog 12 t xs) → ACr Tryz.prog GP 6 ((Tryz.f6.params.toList.zip xss).map fun p => argAV (isStructB Tryz.prog p.1) p.2) (.bool true) := by
 rw [Tryz.params6]
 intro xss hl hc
 match xss, hl with
 | [x0, x1, x2], _ =>
   (obtain ⟨d, rfl, hd⟩ := conf_Design (hc 0 _ x0 rfl rfl)); (obtain ⟨x, rfl, hx⟩ := conf_raws (hc 1 _ x1 rfl rfl)); (obtain ⟨y, rfl, hy⟩ := conf_raws (hc 2 _ x2 rfl rfl))
   exact law_TopAnd d hd x hx y hy
end CardTopAnd
namespace CardTopAnd
open Go.ChangeShapes Go.WideShapes Go.ChangeAt Go.RowKit
set_option linter.unusedVariables false
set_option linter.unusedSimpArgs false
theorem laid_met (os : Os) : laidMet Tryz.prog Rows.topAndRow.laid ((laidWorld os).forCall (fun _ _ => 0) ⟨#[], #[.agg #[.int .i64 0, .int .i64 0, .int .i64 0, .int .i64 0, .int .i64 0, .int .i64 0, .slice none 0 0], .slice none 0 0, .slice none 0 0], []⟩).memory :=
 laidMet_of_run' 24 (by kernel_rfl) (by kernel_rfl)
theorem reads (os : Os) {H : Type} (enc : TypeId × Value → H) : ∃ places, DataW.whole enc Tryz.prog ((laidWorld os).forCall (fun _ _ => 0) ⟨#[], #[.agg #[.int .i64 0, .int .i64 0, .int .i64 0, .int .i64 0, .int .i64 0, .int .i64 0, .slice none 0 0], .slice none 0 0, .slice none 0 0], []⟩).memory Tryz.f6.params.toList Rows.topAndSpec.vars false (#[.agg #[.int .i64 0, .int .i64 0, .int .i64 0, .int .i64 0, .int .i64 0, .int .i64 0, .slice none 0 0], .slice none 0 0, .slice none 0 0] : Array Value).toList 24 = some ([.agg [.agg [.lit (.int .i64 0), .lit (.int .i64 0)], .agg [.lit (.int .i64 0), .lit (.int .i64 0)], .agg [.lit (.int .i64 0), .lit (.int .i64 0)], .nil], .nil, .nil], [], places) :=
 ⟨[], by kernel_rfl⟩

theorem params : ∀ t ∈ Tryz.f6.params.toList, plainB Tryz.prog 12 t = true ∧ Tryz.prog.readableRec t = true ∧ t < Tryz.prog.types.size := by
 rw [Tryz.params6]
 intro t ht
 simp only [List.mem_cons, List.not_mem_nil, or_false] at ht
 rcases ht with rfl | rfl | rfl <;> exact ⟨by kernel_rfl, by kernel_rfl, of_decide_eq_true (by kernel_rfl)⟩

set_option maxRecDepth 100000 in
theorem lifted (os : Os) (started : os.Started) (H : Type) (enc : TypeId × Value → H) (F : Stop.Interp) :
 ReturnsInHanded {} Tryz.checked os 6 .any ((OpenSpec.ofChange Rows.topAndSpec).preRow enc Tryz.prog Tryz.f6 Rows.topAndRow.domain false Rows.topAndRow.laid) (((OpenSpec.ofChange Rows.topAndSpec).at F).post enc Tryz.prog Tryz.f6 false true false false) := by
 obtain ⟨places, hx⟩ := reads os enc
 refine returnsInHanded_of_row (C := Tryz.checked) (s := OpenSpec.ofChange Rows.topAndSpec) own started (by kernel_rfl) Tryz.func6
  (witness_row_at (enc := enc) (C := Tryz.checked) false (laidWorld os) #[.agg #[.int .i64 0, .int .i64 0, .int .i64 0, .int .i64 0, .int .i64 0, .int .i64 0, .slice none 0 0], .slice none 0 0, .slice none 0 0] rfl (by kernel_rfl) (by kernel_rfl) (by kernel_rfl)
   (OpenSpec.preRow_of_cond 24 hx (by kernel_rfl) (fun k hk => by cases hk) (by kernel_rfl) (laid_met os))) ?_
 intro W base args ds gs before hval hW _ _ hz hL _ _
 refine law_of (G := GP) (g := 12) laidOutAll params rfl Tryz.underlying4 rfl ?_ ?_ (globPD hL) hval hW ?_
 · intro ds hds
   rw [Tryz.params6] at hds
   match ds, hds with
   | [d0, d1, d2], _ => exact ⟨rfl, rfl, rfl⟩
 · exact laws
 · obtain ⟨p, q, _, hV, _⟩ := hW
   obtain rfl : gs = [] := by cases gs with | nil => rfl | cons _ _ => simp [Rows.topAndSpec, OpenSpec.ofChange, DataW.TrodVars] at hV
   simpa [Rows.topAndSpec, OpenSpec.ofChange, OpenSpec.bare, ChangeSpec.plain, DataSpec.varTypes] using hz

theorem said : Rows.topAndRow.holds Tryz.pinned (OpenSpec.ofChange Rows.topAndSpec) :=
 OpenClaim.holds_of_cond 6 Tryz.f6 rfl rfl rfl rfl rfl rfl rfl ⟨rfl, rfl, rfl, rfl, rfl⟩ rfl rfl rfl rfl rfl (by as_aux_lemma => kernel_rfl) Tryz.func6 (by as_aux_lemma => kernel_rfl)
  (of_decide_eq_true (by as_aux_lemma => kernel_rfl)) (by as_aux_lemma => unfold Func.isWrapper; first | (rw [if_pos (by decide +kernel)]; kernel_rfl) | (rw [if_neg (by decide +kernel)]; exact ⟨rfl, rfl⟩))
  (fun os started H enc _ F => by rw [OpenClaim.pre_eq_preRow]; exact lifted os started H enc F)

theorem plain (f : FuncId) (fn : Func) (hf : Tryz.pinned.checked.prog.funcNamed "foretell/foretelltop.TopAnd" = some f) (hfn : Tryz.pinned.checked.prog.funcs[f]? = some fn) :
 true = Tryz.pinned.checked.prog.looks [] ∧ ∀ (j : Nat) t, fn.params[j]? = some t → Tryz.pinned.checked.prog.wantsStandIn t = false := by
 obtain rfl : f = 6 := Option.some.inj ((show Tryz.prog.funcNamed "foretell/foretelltop.TopAnd" = some 6 by kernel_rfl).symm.trans hf) |>.symm
 obtain rfl : fn = Tryz.f6 := (Option.some.inj (Tryz.func6.symm.trans hfn)).symm
 refine ⟨by kernel_rfl, fun j t ht => ?_⟩
 have hm : t ∈ Tryz.f6.params.toList := by simpa using Array.mem_of_getElem? ht
 rw [Tryz.params6] at hm
 simp only [List.mem_cons, List.not_mem_nil, or_false] at hm
 rcases hm with rfl | rfl | rfl <;> (show _ = false; kernel_rfl)

theorem card : Rows.TopAndCardSaid :=
 Claim7.holds_tied_plain_at .later [] _ _ _ _ said (fun _ h => by cases h) (by as_aux_lemma => kernel_rfl) (fun _ h => by cases h) topAnd_row_tie rfl ⟨rfl, rfl⟩ (by as_aux_lemma => kernel_rfl) rfl plain (by as_aux_lemma => kernel_rfl)
end CardTopAnd
end Go.Proofs.YtniklgkoiaeipaaGreatDoor
