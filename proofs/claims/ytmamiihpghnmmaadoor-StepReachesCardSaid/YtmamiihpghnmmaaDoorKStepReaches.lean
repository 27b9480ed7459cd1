/- step.Reach answers what P4.4 says, at every argument: for every input the law returns true. Conditions: none. -/
import Derived.Test.YtmamiihpghnmmaaDoorZ17
import Derived.Test.YtmamiihpghnmmaaDoorZ20
namespace Go.Proofs.YtmamiihpghnmmaaDoor
open Go Go.Av Go.Sp
set_option linter.unusedVariables false
set_option linter.unusedSimpArgs false
set_option maxRecDepth 100000
set_option maxHeartbeats 4000000

theorem law_StepReaches (m : Md) : ACr Tryd.prog GP 8 [mdA m] (.bool true) := by
  have e9 := ACr_true (sameInts GP (reachF m).1 (reachF m).1) rfl
  refine AC_ofV (ts := [2]) Tryd.f8.ntmps Tryd.func8 rfl rfl rfl (by simp [Tryd.ntmps8]) fun W I => ?_
  all_goals haveI fA_ : FlagA := ⟨⟩
  all_goals haveI fH_ : FlagH := ⟨⟩
  repeat' (first
    | ((with_reducible apply call0); (focus rfl); (focus exact cal_models); (focus exact models _ _); (focus rfl))
    | ((with_reducible apply je_call0); (focus rfl); (focus (decide +kernel)); (focus rfl); (focus exact cal_models); (focus exact models _ _); (focus rfl))
    | ((with_reducible apply call0); (focus rfl); (focus exact cal_Reach); (focus exact Reach _); (focus rfl))
    | ((with_reducible apply je_call0); (focus rfl); (focus (decide +kernel)); (focus rfl); (focus exact cal_Reach); (focus exact Reach _); (focus rfl))
    | ((with_reducible apply call0); (focus rfl); (focus exact cal_ReachOf); (focus exact ReachOf _ _); (focus rfl))
    | ((with_reducible apply je_call0); (focus rfl); (focus (decide +kernel)); (focus rfl); (focus exact cal_ReachOf); (focus exact ReachOf _ _); (focus rfl))
    | ((with_reducible apply call0); (focus rfl); (focus exact cal_sameInts); (focus exact e9); (focus rfl))
    | ((with_reducible apply je_call0); (focus rfl); (focus (decide +kernel)); (focus rfl); (focus exact cal_sameInts); (focus exact e9); (focus rfl))
    | exact True.intro
    | refine stp ?_
    | refine two ?_ ?_
    | refine allc fun c_ => ?_
    | (refine imp fun hc => ?_) <;> try (first | contradiction | (exfalso; omega) | (exfalso; exact absurd (of_dT hc) (by assumption)) | (exfalso; exact of_dF hc (by assumption)))
    | refine all fun v_ => ?_)
  all_goals clear fA_ fH_
  all_goals
    refine retv (VS.drop (List.nil_sublist _)) ?_
    ((with_reducible apply rq1); rfl; rfl)
    exact ret_eq (by simp_all)
namespace CardStepReaches
set_option linter.unusedVariables false
set_option linter.unusedSimpArgs false
theorem laws : ∀ xss : List (List D), xss.length = Tryd.f8.params.toList.length → (∀ (j : Nat) t xs, Tryd.f8.params.toList[j]? = some t → xss[j]? = some xs → Conf Tryd.prog 12 t xs) → ACr Tryd.prog GP 8 ((Tryd.f8.params.toList.zip xss).map fun p => argAV (isStructB Tryd.prog p.1) p.2) (.bool true) := by
  rw [Tryd.params8]
  intro xss hl hc
  match xss, hl with
  | [x0], _ =>
    (obtain ⟨m, rfl⟩ := conf_Model (hc 0 _ x0 rfl rfl))
    exact law_StepReaches m
end CardStepReaches
namespace CardStepReaches
open Go.ChangeShapes Go.WideShapes Go.ChangeAt Go.RowKit
set_option linter.unusedVariables false
set_option linter.unusedSimpArgs false
theorem laid_met (os : Os) : laidMet Tryd.prog Rows.stepReachesRow.laid ((laidWorld os).forCall (fun _ _ => 0) ⟨#[], #[.agg #[.slice none 0 0, .slice none 0 0]], []⟩).memory :=
  laidMet_of_run' 24 (by kernel_rfl) (by kernel_rfl)
theorem reads (os : Os) {H : Type} (enc : TypeId × Value → H) : ∃ places, DataW.whole enc Tryd.prog ((laidWorld os).forCall (fun _ _ => 0) ⟨#[], #[.agg #[.slice none 0 0, .slice none 0 0]], []⟩).memory Tryd.f8.params.toList Rows.stepReachesSpec.vars false (#[.agg #[.slice none 0 0, .slice none 0 0]] : Array Value).toList 24 = some ([.agg [.nil, .nil]], [], places) :=
  ⟨[], by kernel_rfl⟩

theorem params : ∀ t ∈ Tryd.f8.params.toList, plainB Tryd.prog 12 t = true ∧ Tryd.prog.readableRec t = true ∧ t < Tryd.prog.types.size := by
  rw [Tryd.params8]
  intro t ht
  simp only [List.mem_cons, List.not_mem_nil, or_false] at ht
  rcases ht with rfl <;> exact ⟨by kernel_rfl, by kernel_rfl, of_decide_eq_true (by kernel_rfl)⟩

set_option maxRecDepth 100000 in
theorem lifted (os : Os) (started : os.Started) (H : Type) (enc : TypeId × Value → H) (F : Stop.Interp) :
    ReturnsInHanded {} Tryd.checked os 8 .any ((OpenSpec.ofChange Rows.stepReachesSpec).preRow enc Tryd.prog Tryd.f8 Rows.stepReachesRow.domain false Rows.stepReachesRow.laid) (((OpenSpec.ofChange Rows.stepReachesSpec).at F).post enc Tryd.prog Tryd.f8 false true false false) := by
  obtain ⟨places, hx⟩ := reads os enc
  refine returnsInHanded_of_row (C := Tryd.checked) (s := OpenSpec.ofChange Rows.stepReachesSpec) own started (by kernel_rfl) Tryd.func8
    (witness_row_at (enc := enc) (C := Tryd.checked) false (laidWorld os) #[.agg #[.slice none 0 0, .slice none 0 0]] rfl (by kernel_rfl) (by kernel_rfl) (by kernel_rfl)
      (OpenSpec.preRow_of_cond 24 hx (by kernel_rfl) (fun k hk => by cases hk) (by kernel_rfl) (laid_met os))) ?_
  intro W base args ds gs before hval hW _ _ hz hL _ _
  refine law_of (G := GP) (g := 12) laidOutAll params rfl Tryd.underlying4 rfl ?_ ?_ (globPD hL) hval hW ?_
  · intro ds hds
    rw [Tryd.params8] at hds
    match ds, hds with
    | [d0], _ => exact ⟨rfl, rfl, rfl⟩
  · exact laws
  · obtain ⟨p, q, _, hV, _⟩ := hW
    obtain rfl : gs = [] := by cases gs with | nil => rfl | cons _ _ => simp [Rows.stepReachesSpec, OpenSpec.ofChange, DataW.TrodVars] at hV
    simpa [Rows.stepReachesSpec, OpenSpec.ofChange, OpenSpec.bare, ChangeSpec.plain, DataSpec.varTypes] using hz

theorem said : Rows.stepReachesRow.holds Tryd.pinned (OpenSpec.ofChange Rows.stepReachesSpec) :=
  OpenClaim.holds_of_cond 8 Tryd.f8 rfl rfl rfl rfl rfl rfl rfl ⟨rfl, rfl, rfl, rfl, rfl⟩ rfl rfl rfl rfl rfl (by kernel_rfl) Tryd.func8 (by kernel_rfl)
    (of_decide_eq_true (by kernel_rfl)) (by unfold Func.isWrapper; first | (rw [if_pos (by decide +kernel)]; kernel_rfl) | (rw [if_neg (by decide +kernel)]; exact ⟨rfl, rfl⟩))
    (fun os started H enc _ F => by rw [OpenClaim.pre_eq_preRow]; exact lifted os started H enc F)

theorem plain (f : FuncId) (fn : Func) (hf : Tryd.pinned.checked.prog.funcNamed "foretell/foretelllaw.StepReaches" = some f) (hfn : Tryd.pinned.checked.prog.funcs[f]? = some fn) :
    true = Tryd.pinned.checked.prog.looks [] ∧ ∀ (j : Nat) t, fn.params[j]? = some t → Tryd.pinned.checked.prog.wantsStandIn t = false := by
  obtain rfl : f = 8 := Option.some.inj ((show Tryd.prog.funcNamed "foretell/foretelllaw.StepReaches" = some 8 by kernel_rfl).symm.trans hf) |>.symm
  obtain rfl : fn = Tryd.f8 := (Option.some.inj (Tryd.func8.symm.trans hfn)).symm
  refine ⟨by kernel_rfl, fun j t ht => ?_⟩
  have hm : t ∈ Tryd.f8.params.toList := by simpa using Array.mem_of_getElem? ht
  rw [Tryd.params8] at hm
  simp only [List.mem_cons, List.not_mem_nil, or_false] at hm
  rcases hm with rfl <;> (show _ = false; kernel_rfl)

theorem card : Rows.StepReachesCardSaid :=
  Claim7.holds_tied_plain_at .later [] _ _ _ _ said (fun _ h => by cases h) (by kernel_rfl) (fun _ h => by cases h) stepReaches_row_tie rfl ⟨rfl, rfl⟩ (by kernel_rfl) rfl plain (by kernel_rfl)
end CardStepReaches
end Go.Proofs.YtmamiihpghnmmaaDoor
