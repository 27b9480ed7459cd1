/- sheet.Show answers what P10.2 says, at every argument, and changes none of them: for every input the law returns true. Conditions: the listed package-level variables hold what the program's text lays in them (the card ties this). -/
import Derived.Test.YtajnpfgelpkijaaDoorZ12
namespace Go.Proofs.YtajnpfgelpkijaaDoor
open Go Go.Av Go.Sp
set_option linter.unusedVariables false
set_option linter.unusedSimpArgs false
set_option maxRecDepth 100000
set_option maxHeartbeats 4000000

theorem law_SheetShows (t : Tk) : ACr Tryd.prog GP 3 [tkA t] (.bool true) := by
 have e1 := Show t
 have e2 := TaskShown GP t
 generalize (shownF t).1 = s at e1 e2
 generalize (shownF t).2 = e at e1 e2
 have hbe : (s == s) = true := (ba_beq s s).2 rfl
 refine AC_ofV (ts := [2]) Tryd.f3.ntmps Tryd.func3 rfl rfl rfl (by simp [Tryd.ntmps3]) fun W I => ?_
 repeat' (first
  | refine ca cal_tasks (tasks _ _) ?_
  | refine ca cal_Show (e1) ?_
  | refine ca cal_TaskShown (e2) ?_
  | refine ca cal_sameTask (sameTask _ _) ?_
  | exact True.intro | refine stpH ?_ | refine two ?_ ?_ | refine allc fun c_ => ?_
  | (refine imp fun hc => ?_) <;> try exact cx1 hc
  | refine all fun v_ => ?_)
 rw [hbe]
 repeat' (first
  | refine ca cal_tasks (tasks _ _) ?_
  | refine ca cal_Show (e1) ?_
  | refine ca cal_TaskShown (e2) ?_
  | refine ca cal_sameTask (sameTask _ _) ?_
  | exact True.intro | refine stpH ?_ | refine two ?_ ?_ | refine allc fun c_ => ?_
  | (refine imp fun hc => ?_) <;> try exact cx1 hc
  | refine all fun v_ => ?_)
 all_goals
  refine retv (VS.drop (List.nil_sublist _)) ?_
  ((with_reducible apply rq1); rfl; rfl)
  exact ret_eq (by simp_all)
namespace CardSheetShows
set_option linter.unusedVariables false
set_option linter.unusedSimpArgs false
theorem laws : ∀ xss : List (List D), xss.length = Tryd.f3.params.toList.length → (∀ (j : Nat) t xs, Tryd.f3.params.toList[j]? = some t → xss[j]? = some xs → Conf Tryd.prog 12 t xs) → ACr Tryd.prog GP 3 ((Tryd.f3.params.toList.zip xss).map fun p => argAV (isStructB Tryd.prog p.1) p.2) (.bool true) := by
 rw [Tryd.params3]
 intro xss hl hc
 match xss, hl with
 | [x0], _ =>
   (obtain ⟨t, rfl⟩ := conf_Task (hc 0 _ x0 rfl rfl))
   exact law_SheetShows t
end CardSheetShows
namespace CardSheetShows
open Go.ChangeShapes Go.WideShapes Go.ChangeAt Go.RowKit
set_option linter.unusedVariables false
set_option linter.unusedSimpArgs false
theorem laid_met (os : Os) : laidMet Tryd.prog Rows.sheetShowsRow.laid ((laidWorld os).forCall (fun _ _ => 0) ⟨#[], #[.agg #[.slice none 0 0, .slice none 0 0, .slice none 0 0, .slice none 0 0]], []⟩).memory :=
 laidMet_of_run' 24 (by kernel_rfl) (by kernel_rfl)
theorem reads (os : Os) {H : Type} (enc : TypeId × Value → H) : ∃ places, DataW.whole enc Tryd.prog ((laidWorld os).forCall (fun _ _ => 0) ⟨#[], #[.agg #[.slice none 0 0, .slice none 0 0, .slice none 0 0, .slice none 0 0]], []⟩).memory Tryd.f3.params.toList Rows.sheetShowsSpec.vars false (#[.agg #[.slice none 0 0, .slice none 0 0, .slice none 0 0, .slice none 0 0]] : Array Value).toList 24 = some ([.agg [.agg [.nil, .nil], .nil, .nil]], [], places) :=
 ⟨[], by kernel_rfl⟩

theorem params : ∀ t ∈ Tryd.f3.params.toList, plainB Tryd.prog 12 t = true ∧ Tryd.prog.readableRec t = true ∧ t < Tryd.prog.types.size := by
 rw [Tryd.params3]
 intro t ht
 simp only [List.mem_cons, List.not_mem_nil, or_false] at ht
 rcases ht with rfl <;> exact ⟨by kernel_rfl, by kernel_rfl, of_decide_eq_true (by kernel_rfl)⟩

set_option maxRecDepth 100000 in
theorem lifted (os : Os) (started : os.Started) (H : Type) (enc : TypeId × Value → H) (F : Stop.Interp) :
 ReturnsInHanded {} Tryd.checked os 3 .any ((OpenSpec.ofChange Rows.sheetShowsSpec).preRow enc Tryd.prog Tryd.f3 Rows.sheetShowsRow.domain false Rows.sheetShowsRow.laid) (((OpenSpec.ofChange Rows.sheetShowsSpec).at F).post enc Tryd.prog Tryd.f3 false true false false) := by
 obtain ⟨places, hx⟩ := reads os enc
 refine returnsInHanded_of_row (C := Tryd.checked) (s := OpenSpec.ofChange Rows.sheetShowsSpec) ownKn started (by kernel_rfl) Tryd.func3
  (witness_row_at (enc := enc) (C := Tryd.checked) false (laidWorld os) #[.agg #[.slice none 0 0, .slice none 0 0, .slice none 0 0, .slice none 0 0]] rfl (by kernel_rfl) (by kernel_rfl) (by kernel_rfl)
   (OpenSpec.preRow_of_cond 24 hx (by kernel_rfl) (fun k hk => by cases hk) (by kernel_rfl) (laid_met os))) ?_
 intro W base args ds gs before hval hW _ _ hz hL _ _
 refine law_of (G := GP) (g := 12) laidOutAll params rfl Tryd.underlying4 rfl ?_ ?_ (globPD hL) hval hW ?_
 · intro ds hds
   rw [Tryd.params3] at hds
   match ds, hds with
   | [d0], _ => exact ⟨rfl, rfl, rfl⟩
 · exact laws
 · obtain ⟨p, q, _, hV, _⟩ := hW
   obtain rfl : gs = [] := by cases gs with | nil => rfl | cons _ _ => simp [Rows.sheetShowsSpec, OpenSpec.ofChange, DataW.TrodVars] at hV
   simpa [Rows.sheetShowsSpec, OpenSpec.ofChange, OpenSpec.bare, ChangeSpec.plain, DataSpec.varTypes] using hz

theorem said : Rows.sheetShowsRow.holds Tryd.pinned (OpenSpec.ofChange Rows.sheetShowsSpec) :=
 OpenClaim.holds_of_cond 3 Tryd.f3 rfl rfl rfl rfl rfl rfl rfl ⟨rfl, rfl, rfl, rfl, rfl⟩ rfl rfl rfl rfl rfl (by as_aux_lemma => kernel_rfl) Tryd.func3 (by as_aux_lemma => kernel_rfl)
  (of_decide_eq_true (by as_aux_lemma => kernel_rfl)) (by as_aux_lemma => unfold Func.isWrapper; first | (rw [if_pos (by decide +kernel)]; kernel_rfl) | (rw [if_neg (by decide +kernel)]; exact ⟨rfl, rfl⟩))
  (fun os started H enc _ F => by rw [OpenClaim.pre_eq_preRow]; exact lifted os started H enc F)

theorem plain (f : FuncId) (fn : Func) (hf : Tryd.pinned.checked.prog.funcNamed "foretell/foretelllaw.SheetShows" = some f) (hfn : Tryd.pinned.checked.prog.funcs[f]? = some fn) :
 true = Tryd.pinned.checked.prog.looks [] ∧ ∀ (j : Nat) t, fn.params[j]? = some t → Tryd.pinned.checked.prog.wantsStandIn t = false := by
 obtain rfl : f = 3 := Option.some.inj ((show Tryd.prog.funcNamed "foretell/foretelllaw.SheetShows" = some 3 by kernel_rfl).symm.trans hf) |>.symm
 obtain rfl : fn = Tryd.f3 := (Option.some.inj (Tryd.func3.symm.trans hfn)).symm
 refine ⟨by kernel_rfl, fun j t ht => ?_⟩
 have hm : t ∈ Tryd.f3.params.toList := by simpa using Array.mem_of_getElem? ht
 rw [Tryd.params3] at hm
 simp only [List.mem_cons, List.not_mem_nil, or_false] at hm
 rcases hm with rfl <;> (show _ = false; kernel_rfl)

theorem card : Rows.SheetShowsCardSaid :=
 Claim7.holds_tied_plain_at .later [] _ _ _ _ said (fun _ h => by cases h) (by as_aux_lemma => kernel_rfl) (fun _ h => by cases h) sheetShows_row_tie rfl ⟨rfl, rfl⟩ (by as_aux_lemma => kernel_rfl) rfl plain (by as_aux_lemma => kernel_rfl)
end CardSheetShows
end Go.Proofs.YtajnpfgelpkijaaDoor
