/- product.Begin answers what P7.2 says, at every argument: for every input the law returns true. Conditions: none. -/
import Derived.Test.YtmamiihpghnmmaaDoorZ17
import Derived.Test.YtmamiihpghnmmaaDoorZ19
namespace Go.Proofs.YtmamiihpghnmmaaDoor
open Go Go.Av Go.Sp
set_option linter.unusedVariables false
set_option linter.unusedSimpArgs false
set_option maxRecDepth 100000
set_option maxHeartbeats 4000000

theorem law_ProductBegins (t : Tk) : ACr Tryd.prog GP 6 [tkA t] (.bool true) := by
  have e9 := ACr_true (sameSpots GP (beginF t).1 (beginF t).1) rfl
  refine AC_ofV (ts := [2]) Tryd.f6.ntmps Tryd.func6 rfl rfl rfl (by simp [Tryd.ntmps6]) fun W I => ?_
  all_goals haveI fA_ : FlagA := ⟨⟩
  all_goals haveI fH_ : FlagH := ⟨⟩
  repeat' (first
    | ((with_reducible apply call0); (focus rfl); (focus exact cal_tasks); (focus exact tasks _ _); (focus rfl))
    | ((with_reducible apply je_call0); (focus rfl); (focus (decide +kernel)); (focus rfl); (focus exact cal_tasks); (focus exact tasks _ _); (focus rfl))
    | ((with_reducible apply call0); (focus rfl); (focus exact cal_Begin); (focus exact Begin _); (focus rfl))
    | ((with_reducible apply je_call0); (focus rfl); (focus (decide +kernel)); (focus rfl); (focus exact cal_Begin); (focus exact Begin _); (focus rfl))
    | ((with_reducible apply call0); (focus rfl); (focus exact cal_BeginOf); (focus exact BeginOf _ _); (focus rfl))
    | ((with_reducible apply je_call0); (focus rfl); (focus (decide +kernel)); (focus rfl); (focus exact cal_BeginOf); (focus exact BeginOf _ _); (focus rfl))
    | ((with_reducible apply call0); (focus rfl); (focus exact cal_sameSpots); (focus exact e9); (focus rfl))
    | ((with_reducible apply je_call0); (focus rfl); (focus (decide +kernel)); (focus rfl); (focus exact cal_sameSpots); (focus exact e9); (focus rfl))
    | exact True.intro
    | refine stp ?_
    | refine two ?_ ?_
    | refine allc fun c_ => ?_
    | (refine imp fun hc => ?_) <;> try (first | contradiction | (exfalso; omega) | (exfalso; exact absurd (of_dT hc) (by assumption)) | (exfalso; exact of_dF hc (by assumption)))
    | refine all fun v_ => ?_)
  all_goals clear fA_ fH_
  all_goals
    refine retv (VS.drop (List.nil_sublist _)) ?_
    ((with_reducible apply rq1); rfl; rfl)
    exact ret_eq (by simp_all)
namespace CardProductBegins
set_option linter.unusedVariables false
set_option linter.unusedSimpArgs false
theorem laws : ∀ xss : List (List D), xss.length = Tryd.f6.params.toList.length → (∀ (j : Nat) t xs, Tryd.f6.params.toList[j]? = some t → xss[j]? = some xs → Conf Tryd.prog 12 t xs) → ACr Tryd.prog GP 6 ((Tryd.f6.params.toList.zip xss).map fun p => argAV (isStructB Tryd.prog p.1) p.2) (.bool true) := by
  rw [Tryd.params6]
  intro xss hl hc
  match xss, hl with
  | [x0], _ =>
    (obtain ⟨t, rfl⟩ := conf_Task (hc 0 _ x0 rfl rfl))
    exact law_ProductBegins t
end CardProductBegins
namespace CardProductBegins
open Go.ChangeShapes Go.WideShapes Go.ChangeAt Go.RowKit
set_option linter.unusedVariables false
set_option linter.unusedSimpArgs false
theorem laid_met (os : Os) : laidMet Tryd.prog Rows.productBeginsRow.laid ((laidWorld os).forCall (fun _ _ => 0) ⟨#[], #[.agg #[.slice none 0 0, .slice none 0 0, .slice none 0 0, .slice none 0 0]], []⟩).memory :=
  laidMet_of_run' 24 (by kernel_rfl) (by kernel_rfl)
theorem reads (os : Os) {H : Type} (enc : TypeId × Value → H) : ∃ places, DataW.whole enc Tryd.prog ((laidWorld os).forCall (fun _ _ => 0) ⟨#[], #[.agg #[.slice none 0 0, .slice none 0 0, .slice none 0 0, .slice none 0 0]], []⟩).memory Tryd.f6.params.toList Rows.productBeginsSpec.vars false (#[.agg #[.slice none 0 0, .slice none 0 0, .slice none 0 0, .slice none 0 0]] : Array Value).toList 24 = some ([.agg [.agg [.nil, .nil], .nil, .nil]], [], places) :=
  ⟨[], by kernel_rfl⟩

theorem params : ∀ t ∈ Tryd.f6.params.toList, plainB Tryd.prog 12 t = true ∧ Tryd.prog.readableRec t = true ∧ t < Tryd.prog.types.size := by
  rw [Tryd.params6]
  intro t ht
  simp only [List.mem_cons, List.not_mem_nil, or_false] at ht
  rcases ht with rfl <;> exact ⟨by kernel_rfl, by kernel_rfl, of_decide_eq_true (by kernel_rfl)⟩

set_option maxRecDepth 100000 in
theorem lifted (os : Os) (started : os.Started) (H : Type) (enc : TypeId × Value → H) (F : Stop.Interp) :
    ReturnsInHanded {} Tryd.checked os 6 .any ((OpenSpec.ofChange Rows.productBeginsSpec).preRow enc Tryd.prog Tryd.f6 Rows.productBeginsRow.domain false Rows.productBeginsRow.laid) (((OpenSpec.ofChange Rows.productBeginsSpec).at F).post enc Tryd.prog Tryd.f6 false true false false) := by
  obtain ⟨places, hx⟩ := reads os enc
  refine returnsInHanded_of_row (C := Tryd.checked) (s := OpenSpec.ofChange Rows.productBeginsSpec) own started (by kernel_rfl) Tryd.func6
    (witness_row_at (enc := enc) (C := Tryd.checked) false (laidWorld os) #[.agg #[.slice none 0 0, .slice none 0 0, .slice none 0 0, .slice none 0 0]] rfl (by kernel_rfl) (by kernel_rfl) (by kernel_rfl)
      (OpenSpec.preRow_of_cond 24 hx (by kernel_rfl) (fun k hk => by cases hk) (by kernel_rfl) (laid_met os))) ?_
  intro W base args ds gs before hval hW _ _ hz hL _ _
  refine law_of (G := GP) (g := 12) laidOutAll params rfl Tryd.underlying4 rfl ?_ ?_ (globPD hL) hval hW ?_
  · intro ds hds
    rw [Tryd.params6] at hds
    match ds, hds with
    | [d0], _ => exact ⟨rfl, rfl, rfl⟩
  · exact laws
  · obtain ⟨p, q, _, hV, _⟩ := hW
    obtain rfl : gs = [] := by cases gs with | nil => rfl | cons _ _ => simp [Rows.productBeginsSpec, OpenSpec.ofChange, DataW.TrodVars] at hV
    simpa [Rows.productBeginsSpec, OpenSpec.ofChange, OpenSpec.bare, ChangeSpec.plain, DataSpec.varTypes] using hz

theorem said : Rows.productBeginsRow.holds Tryd.pinned (OpenSpec.ofChange Rows.productBeginsSpec) :=
  OpenClaim.holds_of_cond 6 Tryd.f6 rfl rfl rfl rfl rfl rfl rfl ⟨rfl, rfl, rfl, rfl, rfl⟩ rfl rfl rfl rfl rfl (by kernel_rfl) Tryd.func6 (by kernel_rfl)
    (of_decide_eq_true (by kernel_rfl)) (by unfold Func.isWrapper; first | (rw [if_pos (by decide +kernel)]; kernel_rfl) | (rw [if_neg (by decide +kernel)]; exact ⟨rfl, rfl⟩))
    (fun os started H enc _ F => by rw [OpenClaim.pre_eq_preRow]; exact lifted os started H enc F)

theorem plain (f : FuncId) (fn : Func) (hf : Tryd.pinned.checked.prog.funcNamed "foretell/foretelllaw.ProductBegins" = some f) (hfn : Tryd.pinned.checked.prog.funcs[f]? = some fn) :
    true = Tryd.pinned.checked.prog.looks [] ∧ ∀ (j : Nat) t, fn.params[j]? = some t → Tryd.pinned.checked.prog.wantsStandIn t = false := by
  obtain rfl : f = 6 := Option.some.inj ((show Tryd.prog.funcNamed "foretell/foretelllaw.ProductBegins" = some 6 by kernel_rfl).symm.trans hf) |>.symm
  obtain rfl : fn = Tryd.f6 := (Option.some.inj (Tryd.func6.symm.trans hfn)).symm
  refine ⟨by kernel_rfl, fun j t ht => ?_⟩
  have hm : t ∈ Tryd.f6.params.toList := by simpa using Array.mem_of_getElem? ht
  rw [Tryd.params6] at hm
  simp only [List.mem_cons, List.not_mem_nil, or_false] at hm
  rcases hm with rfl <;> (show _ = false; kernel_rfl)

theorem card : Rows.ProductBeginsCardSaid :=
  Claim7.holds_tied_plain_at .later [] _ _ _ _ said (fun _ h => by cases h) (by kernel_rfl) (fun _ h => by cases h) productBegins_row_tie rfl ⟨rfl, rfl⟩ (by kernel_rfl) rfl plain (by kernel_rfl)
end CardProductBegins
end Go.Proofs.YtmamiihpghnmmaaDoor
