/- verdict.Keeps answers what P9.3 says, at every argument: for every input the law returns true. Conditions: none. -/
import Derived.Test.YtcikppldaepodaaGreatDoorZ35
import Derived.Test.YtcikppldaepodaaGreatDoorZ36
namespace Go.Proofs.YtcikppldaepodaaGreatDoor
open Go Go.Av Go.Sp
set_option linter.unusedVariables false
set_option linter.unusedSimpArgs false
set_option maxRecDepth 100000
set_option maxHeartbeats 4000000

theorem conf_Lasso {g : Nat} {xs : List D} (h : Conf Tryz.prog (g + 4) 32 xs) : ∃ s l : List Int, xs = [intsD s, intsD l] := by
  obtain ⟨p0, p1, rfl, h0, h1⟩ := conf_struct2_of Tryz.underlying32 h
  obtain ⟨s, rfl, _⟩ := conf_ints h0
  obtain ⟨l, rfl, _⟩ := conf_ints h1
  exact ⟨s, l, rfl⟩
theorem law_VerdictKeeps (t : Tk) (s l : List Int) : ACr Tryz.prog GP 3 [tkA t, .agg [.d (intsD s), .d (intsD l)]] (.bool true) := by
  refine AC_ofV (ts := [4]) Tryz.f3.ntmps Tryz.func3 rfl rfl rfl (by simp [Tryz.ntmps3]) fun W I => ?_
  all_goals haveI fA_ : FlagA := ⟨⟩
  all_goals haveI fH_ : FlagH := ⟨⟩
  repeat' (first
    | ((with_reducible apply call0); (focus rfl); (focus exact cal_tasks); (focus exact tasks _ _); (focus rfl))
    | ((with_reducible apply je_call0); (focus rfl); (focus (decide +kernel)); (focus rfl); (focus exact cal_tasks); (focus exact tasks _ _); (focus rfl))
    | ((with_reducible apply call0); (focus rfl); (focus exact cal_ints); (focus exact intsU _ _); (focus rfl))
    | ((with_reducible apply je_call0); (focus rfl); (focus (decide +kernel)); (focus rfl); (focus exact cal_ints); (focus exact intsU _ _); (focus rfl))
    | ((with_reducible apply call0); (focus rfl); (focus exact cal_Keeps); (focus exact Keeps _ _ _); (focus rfl))
    | ((with_reducible apply je_call0); (focus rfl); (focus (decide +kernel)); (focus rfl); (focus exact cal_Keeps); (focus exact Keeps _ _ _); (focus rfl))
    | ((with_reducible apply call0); (focus rfl); (focus exact cal_KeepsOn); (focus exact KeepsOn _ _ _ _); (focus rfl))
    | ((with_reducible apply je_call0); (focus rfl); (focus (decide +kernel)); (focus rfl); (focus exact cal_KeepsOn); (focus exact KeepsOn _ _ _ _); (focus rfl))
    | exact True.intro
    | refine stp ?_
    | refine two ?_ ?_
    | refine allc fun c_ => ?_
    | (refine imp fun hc => ?_) <;> try (first | contradiction | (exfalso; omega) | (exfalso; exact absurd (of_dT hc) (by assumption)) | (exfalso; exact of_dF hc (by assumption)))
    | refine all fun v_ => ?_)
  all_goals clear fA_ fH_
  all_goals
    refine retv (VS.drop (List.nil_sublist _)) ?_
    ((with_reducible apply rq1); rfl; rfl)
    exact ret_eq (by simp_all)
namespace CardVerdictKeeps
set_option linter.unusedVariables false
set_option linter.unusedSimpArgs false
theorem laws : ∀ xss : List (List D), xss.length = Tryz.f3.params.toList.length → (∀ (j : Nat) t xs, Tryz.f3.params.toList[j]? = some t → xss[j]? = some xs → Conf Tryz.prog 12 t xs) → ACr Tryz.prog GP 3 ((Tryz.f3.params.toList.zip xss).map fun p => argAV (isStructB Tryz.prog p.1) p.2) (.bool true) := by
  rw [Tryz.params3]
  intro xss hl hc
  match xss, hl with
  | [x0, x1], _ =>
    (obtain ⟨t, rfl⟩ := conf_Task (hc 0 _ x0 rfl rfl)); (obtain ⟨s, l, rfl⟩ := conf_Lasso (hc 1 _ x1 rfl rfl))
    exact law_VerdictKeeps t s l
end CardVerdictKeeps
namespace CardVerdictKeeps
open Go.ChangeShapes Go.WideShapes Go.ChangeAt Go.RowKit
set_option linter.unusedVariables false
set_option linter.unusedSimpArgs false
theorem laid_met (os : Os) : laidMet Tryz.prog Rows.verdictKeepsRow.laid ((laidWorld os).forCall (fun _ _ => 0) ⟨#[], #[.agg #[.slice none 0 0, .slice none 0 0, .slice none 0 0, .slice none 0 0], .agg #[.slice none 0 0, .slice none 0 0]], []⟩).memory :=
  laidMet_of_run' 24 (by kernel_rfl) (by kernel_rfl)
theorem reads (os : Os) {H : Type} (enc : TypeId × Value → H) : ∃ places, DataW.whole enc Tryz.prog ((laidWorld os).forCall (fun _ _ => 0) ⟨#[], #[.agg #[.slice none 0 0, .slice none 0 0, .slice none 0 0, .slice none 0 0], .agg #[.slice none 0 0, .slice none 0 0]], []⟩).memory Tryz.f3.params.toList Rows.verdictKeepsSpec.vars false (#[.agg #[.slice none 0 0, .slice none 0 0, .slice none 0 0, .slice none 0 0], .agg #[.slice none 0 0, .slice none 0 0]] : Array Value).toList 24 = some ([.agg [.agg [.nil, .nil], .nil, .nil], .agg [.nil, .nil]], [], places) :=
  ⟨[], by kernel_rfl⟩

theorem params : ∀ t ∈ Tryz.f3.params.toList, plainB Tryz.prog 12 t = true ∧ Tryz.prog.readableRec t = true ∧ t < Tryz.prog.types.size := by
  rw [Tryz.params3]
  intro t ht
  simp only [List.mem_cons, List.not_mem_nil, or_false] at ht
  rcases ht with rfl | rfl <;> exact ⟨by kernel_rfl, by kernel_rfl, of_decide_eq_true (by kernel_rfl)⟩

set_option maxRecDepth 100000 in
theorem lifted (os : Os) (started : os.Started) (H : Type) (enc : TypeId × Value → H) (F : Stop.Interp) :
    ReturnsInHanded {} Tryz.checked os 3 .any ((OpenSpec.ofChange Rows.verdictKeepsSpec).preRow enc Tryz.prog Tryz.f3 Rows.verdictKeepsRow.domain false Rows.verdictKeepsRow.laid) (((OpenSpec.ofChange Rows.verdictKeepsSpec).at F).post enc Tryz.prog Tryz.f3 false true false false) := by
  obtain ⟨places, hx⟩ := reads os enc
  refine returnsInHanded_of_row (C := Tryz.checked) (s := OpenSpec.ofChange Rows.verdictKeepsSpec) own started (by kernel_rfl) Tryz.func3
    (witness_row_at (enc := enc) (C := Tryz.checked) false (laidWorld os) #[.agg #[.slice none 0 0, .slice none 0 0, .slice none 0 0, .slice none 0 0], .agg #[.slice none 0 0, .slice none 0 0]] rfl (by kernel_rfl) (by kernel_rfl) (by kernel_rfl)
      (OpenSpec.preRow_of_cond 24 hx (by kernel_rfl) (fun k hk => by cases hk) (by kernel_rfl) (laid_met os))) ?_
  intro W base args ds gs before hval hW _ _ hz hL _ _
  refine law_of (G := GP) (g := 12) laidOutAll params rfl Tryz.underlying4 rfl ?_ ?_ (globPD hL) hval hW ?_
  · intro ds hds
    rw [Tryz.params3] at hds
    match ds, hds with
    | [d0, d1], _ => exact ⟨rfl, rfl, rfl⟩
  · exact laws
  · obtain ⟨p, q, _, hV, _⟩ := hW
    obtain rfl : gs = [] := by cases gs with | nil => rfl | cons _ _ => simp [Rows.verdictKeepsSpec, OpenSpec.ofChange, DataW.TrodVars] at hV
    simpa [Rows.verdictKeepsSpec, OpenSpec.ofChange, OpenSpec.bare, ChangeSpec.plain, DataSpec.varTypes] using hz

theorem said : Rows.verdictKeepsRow.holds Tryz.pinned (OpenSpec.ofChange Rows.verdictKeepsSpec) :=
  OpenClaim.holds_of_cond 3 Tryz.f3 rfl rfl rfl rfl rfl rfl rfl ⟨rfl, rfl, rfl, rfl, rfl⟩ rfl rfl rfl rfl rfl (by as_aux_lemma => kernel_rfl) Tryz.func3 (by as_aux_lemma => kernel_rfl)
    (of_decide_eq_true (by as_aux_lemma => kernel_rfl)) (by as_aux_lemma => unfold Func.isWrapper; first | (rw [if_pos (by decide +kernel)]; kernel_rfl) | (rw [if_neg (by decide +kernel)]; exact ⟨rfl, rfl⟩))
    (fun os started H enc _ F => by rw [OpenClaim.pre_eq_preRow]; exact lifted os started H enc F)

theorem plain (f : FuncId) (fn : Func) (hf : Tryz.pinned.checked.prog.funcNamed "foretell/foretelllaw.VerdictKeeps" = some f) (hfn : Tryz.pinned.checked.prog.funcs[f]? = some fn) :
    true = Tryz.pinned.checked.prog.looks [] ∧ ∀ (j : Nat) t, fn.params[j]? = some t → Tryz.pinned.checked.prog.wantsStandIn t = false := by
  obtain rfl : f = 3 := Option.some.inj ((show Tryz.prog.funcNamed "foretell/foretelllaw.VerdictKeeps" = some 3 by kernel_rfl).symm.trans hf) |>.symm
  obtain rfl : fn = Tryz.f3 := (Option.some.inj (Tryz.func3.symm.trans hfn)).symm
  refine ⟨by kernel_rfl, fun j t ht => ?_⟩
  have hm : t ∈ Tryz.f3.params.toList := by simpa using Array.mem_of_getElem? ht
  rw [Tryz.params3] at hm
  simp only [List.mem_cons, List.not_mem_nil, or_false] at hm
  rcases hm with rfl | rfl <;> (show _ = false; kernel_rfl)

theorem card : Rows.VerdictKeepsCardSaid :=
  Claim7.holds_tied_plain_at .later [] _ _ _ _ said (fun _ h => by cases h) (by as_aux_lemma => kernel_rfl) (fun _ h => by cases h) verdictKeeps_row_tie rfl ⟨rfl, rfl⟩ (by as_aux_lemma => kernel_rfl) rfl plain (by as_aux_lemma => kernel_rfl)
end CardVerdictKeeps
end Go.Proofs.YtcikppldaepodaaGreatDoor
