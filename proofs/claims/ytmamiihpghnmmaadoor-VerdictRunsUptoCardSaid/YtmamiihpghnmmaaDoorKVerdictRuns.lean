/- verdict.Runs answers what P9.2 says, at every argument of bulk at most 1048576: for every such input the law returns true. Conditions: none. -/
import Derived.Test.YtmamiihpghnmmaaDoorZ17
import Derived.Test.YtmamiihpghnmmaaDoorZ21
import Derived.Test.YtmamiihpghnmmaaDoorZ22
namespace Go.Sp
open Go Go.Av
set_option linter.unusedVariables false
set_option linter.unusedSimpArgs false
theorem bulk_intsR : ∀ l : List Int, bulkR (l.map intC) = l.length
  | [] => rfl
  | x :: l => by rw [List.map_cons, bulkR, bulk_intsR l]; simp only [intC, bulkS, D.bulk, List.length_cons]; omega
theorem bulk_intsD (l : List Int) : l.length ≤ (intsD l).bulk := by
  simp only [D.bulk, bulk_intsR]; omega
end Go.Sp
namespace Go.Proofs.YtmamiihpghnmmaaDoor
open Go Go.Av Go.Sp
set_option linter.unusedVariables false
set_option linter.unusedSimpArgs false
set_option maxRecDepth 100000
set_option maxHeartbeats 4000000

theorem conf_Lasso {g : Nat} {xs : List D} (h : Conf Tryd.prog (g + 4) 58 xs) : ∃ s l : List Int, xs = [intsD s, intsD l] := by
  obtain ⟨p0, p1, rfl, h0, h1⟩ := conf_struct2_of Tryd.underlying58 h
  obtain ⟨s, rfl, _⟩ := conf_ints h0
  obtain ⟨l, rfl, _⟩ := conf_ints h1
  exact ⟨s, l, rfl⟩
theorem law_VerdictRuns (m : Md) (s l : List Int) (hb : s.length + l.length ≤ 1048576) : ACr Tryd.prog GP 9 [mdA m, .agg [.d (intsD s), .d (intsD l)]] (.bool true) := by
  refine AC_ofV (ts := [4]) Tryd.f9.ntmps Tryd.func9 rfl rfl rfl (by simp [Tryd.ntmps9]) fun W I => ?_
  all_goals haveI fA_ : FlagA := ⟨⟩
  all_goals haveI fH_ : FlagH := ⟨⟩
  repeat' (first
    | ((with_reducible apply call0); (focus rfl); (focus exact cal_models); (focus exact models _ _); (focus rfl))
    | ((with_reducible apply je_call0); (focus rfl); (focus (decide +kernel)); (focus rfl); (focus exact cal_models); (focus exact models _ _); (focus rfl))
    | ((with_reducible apply call0); (focus rfl); (focus exact cal_ints); (focus exact intsU _ _); (focus rfl))
    | ((with_reducible apply je_call0); (focus rfl); (focus (decide +kernel)); (focus rfl); (focus exact cal_ints); (focus exact intsU _ _); (focus rfl))
    | ((with_reducible apply call0); (focus rfl); (focus exact cal_Runs); (focus exact Runs _ _ _ hb); (focus rfl))
    | ((with_reducible apply je_call0); (focus rfl); (focus (decide +kernel)); (focus rfl); (focus exact cal_Runs); (focus exact Runs _ _ _ hb); (focus rfl))
    | ((with_reducible apply call0); (focus rfl); (focus exact cal_RunsOn); (focus exact RunsOn _ _ _ _ hb); (focus rfl))
    | ((with_reducible apply je_call0); (focus rfl); (focus (decide +kernel)); (focus rfl); (focus exact cal_RunsOn); (focus exact RunsOn _ _ _ _ hb); (focus rfl))
    | exact True.intro
    | refine stp ?_
    | refine two ?_ ?_
    | refine allc fun c_ => ?_
    | (refine imp fun hc => ?_) <;> try (first | contradiction | (exfalso; omega) | (exfalso; exact absurd (of_dT hc) (by assumption)) | (exfalso; exact of_dF hc (by assumption)))
    | refine all fun v_ => ?_)
  all_goals clear fA_ fH_
  all_goals
    refine retv (VS.drop (List.nil_sublist _)) ?_
    ((with_reducible apply rq1); rfl; rfl)
    exact ret_eq (by simp_all)
namespace CardVerdictRuns
set_option linter.unusedVariables false
set_option linter.unusedSimpArgs false
theorem laws : ∀ xss : List (List D), xss.length = Tryd.f9.params.toList.length → (∀ (j : Nat) t xs, Tryd.f9.params.toList[j]? = some t → xss[j]? = some xs → Conf Tryd.prog 12 t xs) → bulkR xss ≤ 1048576 → ACr Tryd.prog GP 9 ((Tryd.f9.params.toList.zip xss).map fun p => argAV (isStructB Tryd.prog p.1) p.2) (.bool true) := by
  rw [Tryd.params9]
  intro xss hl hc hb
  match xss, hl with
  | [x0, x1], _ =>
    simp only [bulkR, Nat.add_zero] at hb
    (obtain ⟨m, rfl⟩ := conf_Model (hc 0 _ x0 rfl rfl)); (obtain ⟨s, l, rfl⟩ := conf_Lasso (hc 1 _ x1 rfl rfl))
    exact law_VerdictRuns m s l (by have h1 := bulk_intsD s; have h2 := bulk_intsD l; simp only [bulkS] at hb; omega)
end CardVerdictRuns
namespace CardVerdictRuns
open Go.ChangeShapes Go.WideShapes Go.ChangeAt Go.RowKit
set_option linter.unusedVariables false
set_option linter.unusedSimpArgs false
theorem laid_met (os : Os) : laidMet Tryd.prog Rows.verdictRunsUptoRow.laid ((laidWorld os).forCall (fun _ _ => 0) ⟨#[], #[.agg #[.slice none 0 0, .slice none 0 0], .agg #[.slice none 0 0, .slice none 0 0]], []⟩).memory :=
  laidMet_of_run' 24 (by kernel_rfl) (by kernel_rfl)
theorem reads (os : Os) {H : Type} (enc : TypeId × Value → H) : ∃ places, DataW.whole enc Tryd.prog ((laidWorld os).forCall (fun _ _ => 0) ⟨#[], #[.agg #[.slice none 0 0, .slice none 0 0], .agg #[.slice none 0 0, .slice none 0 0]], []⟩).memory Tryd.f9.params.toList Rows.verdictRunsSpec.vars false (#[.agg #[.slice none 0 0, .slice none 0 0], .agg #[.slice none 0 0, .slice none 0 0]] : Array Value).toList 24 = some ([.agg [.nil, .nil], .agg [.nil, .nil]], [], places) :=
  ⟨[], by kernel_rfl⟩

theorem params : ∀ t ∈ Tryd.f9.params.toList, plainB Tryd.prog 12 t = true ∧ Tryd.prog.readableRec t = true ∧ t < Tryd.prog.types.size := by
  rw [Tryd.params9]
  intro t ht
  simp only [List.mem_cons, List.not_mem_nil, or_false] at ht
  rcases ht with rfl | rfl <;> exact ⟨by kernel_rfl, by kernel_rfl, of_decide_eq_true (by kernel_rfl)⟩

set_option maxRecDepth 100000 in
theorem lifted (os : Os) (started : os.Started) (H : Type) (enc : TypeId × Value → H) (F : Stop.Interp) :
    ReturnsInHanded {} Tryd.checked os 9 .any ((Rows.OpenSpec.upto Rows.verdictRunsSpec).preRow enc Tryd.prog Tryd.f9 Rows.verdictRunsUptoRow.domain false Rows.verdictRunsUptoRow.laid) (((Rows.OpenSpec.upto Rows.verdictRunsSpec).at F).post enc Tryd.prog Tryd.f9 false true false false) := by
  obtain ⟨places, hx⟩ := reads os enc
  refine returnsInHanded_of_row (C := Tryd.checked) (s := Rows.OpenSpec.upto Rows.verdictRunsSpec) own started (by kernel_rfl) Tryd.func9
    (witness_row_at (enc := enc) (C := Tryd.checked) false (laidWorld os) #[.agg #[.slice none 0 0, .slice none 0 0], .agg #[.slice none 0 0, .slice none 0 0]] rfl (by kernel_rfl) (by kernel_rfl) (by kernel_rfl)
      (OpenSpec.preRow_of_cond 24 hx (by kernel_rfl) (fun k hk => by cases hk; kernel_rfl) (by kernel_rfl) (laid_met os))) ?_
  intro W base args ds gs before hval hW _ hk hz hL _ _
  refine law_ofB (G := GP) (g := 12) laidOutAll params rfl Tryd.underlying4 rfl ?_ Rows.uptoBulk ?_ (globPD hL) hval hW ?_
  · intro ds hds
    rw [Tryd.params9] at hds
    match ds, hds with
    | [d0, d1], _ => exact ⟨rfl, rfl, rfl⟩
  · obtain ⟨p, q, _, hV, _⟩ := hW
    obtain rfl : gs = [] := by cases gs with | nil => rfl | cons _ _ => simp [Rows.verdictRunsSpec, Rows.OpenSpec.upto, OpenSpec.ofChange, DataW.TrodVars] at hV
    have hu := hk _ rfl
    rw [List.append_nil] at hu
    intro xss x1 x2 x3
    exact laws xss x1 x2 (Nat.le_trans (x3 bulkOk) (by rw [← bulkAll_sum]; exact of_decide_eq_true hu))
  · obtain ⟨p, q, _, hV, _⟩ := hW
    obtain rfl : gs = [] := by cases gs with | nil => rfl | cons _ _ => simp [Rows.verdictRunsSpec, Rows.OpenSpec.upto, OpenSpec.ofChange, DataW.TrodVars] at hV
    simpa [Rows.verdictRunsSpec, Rows.OpenSpec.upto, OpenSpec.ofChange, OpenSpec.bare, ChangeSpec.plain, DataSpec.varTypes] using hz

theorem said : Rows.verdictRunsUptoRow.holds Tryd.pinned (Rows.OpenSpec.upto Rows.verdictRunsSpec) :=
  OpenClaim.holds_of_cond 9 Tryd.f9 rfl rfl rfl rfl rfl rfl rfl ⟨rfl, rfl, rfl, rfl, rfl⟩ rfl rfl rfl rfl rfl (by kernel_rfl) Tryd.func9 (by kernel_rfl)
    (of_decide_eq_true (by kernel_rfl)) (by unfold Func.isWrapper; first | (rw [if_pos (by decide +kernel)]; kernel_rfl) | (rw [if_neg (by decide +kernel)]; exact ⟨rfl, rfl⟩))
    (fun os started H enc _ F => by rw [OpenClaim.pre_eq_preRow]; exact lifted os started H enc F)

theorem plain (f : FuncId) (fn : Func) (hf : Tryd.pinned.checked.prog.funcNamed "foretell/foretelllaw.VerdictRuns" = some f) (hfn : Tryd.pinned.checked.prog.funcs[f]? = some fn) :
    true = Tryd.pinned.checked.prog.looks [] ∧ ∀ (j : Nat) t, fn.params[j]? = some t → Tryd.pinned.checked.prog.wantsStandIn t = false := by
  obtain rfl : f = 9 := Option.some.inj ((show Tryd.prog.funcNamed "foretell/foretelllaw.VerdictRuns" = some 9 by kernel_rfl).symm.trans hf) |>.symm
  obtain rfl : fn = Tryd.f9 := (Option.some.inj (Tryd.func9.symm.trans hfn)).symm
  refine ⟨by kernel_rfl, fun j t ht => ?_⟩
  have hm : t ∈ Tryd.f9.params.toList := by simpa using Array.mem_of_getElem? ht
  rw [Tryd.params9] at hm
  simp only [List.mem_cons, List.not_mem_nil, or_false] at hm
  rcases hm with rfl | rfl <;> (show _ = false; kernel_rfl)

theorem card : Rows.VerdictRunsUptoCardSaid :=
  Claim7.holds_tied_plain_at .later [] _ _ _ _ said (fun _ h => by cases h) (by kernel_rfl) (fun _ h => by cases h) verdictRunsUpto_row_tie rfl ⟨rfl, rfl⟩ (by kernel_rfl) rfl plain (by kernel_rfl)
end CardVerdictRuns
end Go.Proofs.YtmamiihpghnmmaaDoor
