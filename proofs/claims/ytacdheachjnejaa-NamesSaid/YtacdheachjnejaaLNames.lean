/- The error numbers, kinds and limits of package api are the document's: the law returns true. Conditions: none. -/
import Derived.Test.YtacdheachjnejaaT0
import Derived.Test.YtacdheachjnejaaE6
import Derived.Test.YtacdheachjnejaaTopP
namespace Go.Proofs.Ytacdheachjnejaa
open Go Go.Av Go.Sp
set_option linter.unusedVariables false
set_option linter.unusedSimpArgs false
set_option maxRecDepth 100000
set_option maxHeartbeats 4000000

abbrev nsA : List Int := [0, 1, 2, 3, 4, 5, 6, 7, 8, 9, 10, 11, 12, 13]
abbrev nsB : List Int := [1, 2, 3, 4, 5, 6, 7, 8, 9, 10, 11, 12, 13, 14, 15, 16, 17, 18]
abbrev nsC : List Int := [1, 2, 3, 4]
abbrev nsD : List Int := [60, 1000, 1000000, 6, 64, 4096, 12, 6, 6, 8, 10000, 12, 6, 20000, 1048576, 4000, 2147483647, 8, 20000, 5000]
theorem nsA_all : ∀ i : Fin nsA.length, nsA[i] = (i.val : Int) := by decide
theorem nsB_all : ∀ i : Fin nsB.length, nsB[i] = (i.val : Int) + 1 := by decide
theorem nsA_at (i : Nat) (h : i < nsA.length) : nsA[i] = i := nsA_all ⟨i, h⟩
theorem nsB_at (i : Nat) (h : i < nsB.length) : nsB[i] = i + 1 := nsB_all ⟨i, h⟩
theorem law_Names : ACr Try.prog GP 3 [] (.bool true) := by
  refine AC_ofV (ts := [0]) Try.f3.ntmps Try.func3 rfl rfl rfl (by simp [Try.ntmps3]) fun W I => ?_
  repeat' (first
    | ((with_reducible apply (jbuild_ns nsA)); (focus rfl); (focus rfl); (focus rfl); (focus (with_reducible exact ElC.h)); (focus rfl); (focus rfl); (focus rfl))
    | ((with_reducible apply (jbuild_ns nsB)); (focus rfl); (focus rfl); (focus rfl); (focus (with_reducible exact ElC.h)); (focus rfl); (focus rfl); (focus rfl))
    | ((with_reducible apply (jbuild_ns nsC)); (focus rfl); (focus rfl); (focus rfl); (focus (with_reducible exact ElC.h)); (focus rfl); (focus rfl); (focus rfl))
    | ((with_reducible apply (jbuild_ns nsD)); (focus rfl); (focus rfl); (focus rfl); (focus (with_reducible exact ElC.h)); (focus rfl); (focus rfl); (focus rfl))
    | ((with_reducible apply call0); (focus rfl); (focus exact cal_sameInts); (focus exact ACr_true (sameInts GP nsC nsC) rfl); (focus rfl))
    | ((with_reducible apply je_call0); (focus rfl); (focus (decide +kernel)); (focus rfl); (focus exact cal_sameInts); (focus exact ACr_true (sameInts GP nsC nsC) rfl); (focus rfl))
    | ((with_reducible apply call0); (focus rfl); (focus exact cal_sameInts); (focus exact ACr_true (sameInts GP nsD nsD) rfl); (focus rfl))
    | ((with_reducible apply je_call0); (focus rfl); (focus (decide +kernel)); (focus rfl); (focus exact cal_sameInts); (focus exact ACr_true (sameInts GP nsD nsD) rfl); (focus rfl))
    | exact True.intro
    | refine stph ?_
    | refine two ?_ ?_
    | refine allc fun c_ => ?_
    | (refine imp fun hc => ?_) <;> try (first | contradiction | (exfalso; omega))
    | refine all fun v_ => ?_)
  refine J_loopV (X := Nat) (fun i => [(1, .d (intsD nsA)), (2, .int i)]) (fun _ => []) (fun i => i ≤ 14) (fun i => 14 - i) 0 (Nat.zero_le _) (VS.of_le ?_) ?_
  · repeat (first
      | exact Env.le_nil _
      | refine Env.le_cons (AV.le_refl _) ?_
      | refine Env.le_cons (AV.le_int rfl (by first | rfl | omega | (dsimp only; omega))) ?_)
  rintro i h1
  have hlA : nsA.length = 14 := rfl
  by_cases hi : i < 14
  · have e := nsA_at i (by omega)
    repeat' (first
      | ((with_reducible apply (jbuild_ns nsA)); (focus rfl); (focus rfl); (focus rfl); (focus (with_reducible exact ElC.h)); (focus rfl); (focus rfl); (focus rfl))
      | ((with_reducible apply (jbuild_ns nsB)); (focus rfl); (focus rfl); (focus rfl); (focus (with_reducible exact ElC.h)); (focus rfl); (focus rfl); (focus rfl))
      | ((with_reducible apply (jbuild_ns nsC)); (focus rfl); (focus rfl); (focus rfl); (focus (with_reducible exact ElC.h)); (focus rfl); (focus rfl); (focus rfl))
      | ((with_reducible apply (jbuild_ns nsD)); (focus rfl); (focus rfl); (focus rfl); (focus (with_reducible exact ElC.h)); (focus rfl); (focus rfl); (focus rfl))
      | ((with_reducible apply call0); (focus rfl); (focus exact cal_sameInts); (focus exact ACr_true (sameInts GP nsC nsC) rfl); (focus rfl))
      | ((with_reducible apply je_call0); (focus rfl); (focus (decide +kernel)); (focus rfl); (focus exact cal_sameInts); (focus exact ACr_true (sameInts GP nsC nsC) rfl); (focus rfl))
      | ((with_reducible apply call0); (focus rfl); (focus exact cal_sameInts); (focus exact ACr_true (sameInts GP nsD nsD) rfl); (focus rfl))
      | ((with_reducible apply je_call0); (focus rfl); (focus (decide +kernel)); (focus rfl); (focus exact cal_sameInts); (focus exact ACr_true (sameInts GP nsD nsD) rfl); (focus rfl))
      | exact True.intro
      | refine stph ?_
      | refine two ?_ ?_
      | refine allc fun c_ => ?_
      | (refine imp fun hc => ?_) <;> try (first | contradiction | (exfalso; omega))
      | refine all fun v_ => ?_)
    refine ⟨i + 1, by omega, by omega, VS.of_le ?_⟩
    repeat (first
      | exact Env.le_nil _
      | refine Env.le_cons (AV.le_refl _) ?_
      | refine Env.le_cons (AV.le_int rfl (by first | rfl | omega | (dsimp only; omega))) ?_)
  obtain rfl : i = 14 := by omega
  repeat' (first
    | ((with_reducible apply (jbuild_ns nsA)); (focus rfl); (focus rfl); (focus rfl); (focus (with_reducible exact ElC.h)); (focus rfl); (focus rfl); (focus rfl))
    | ((with_reducible apply (jbuild_ns nsB)); (focus rfl); (focus rfl); (focus rfl); (focus (with_reducible exact ElC.h)); (focus rfl); (focus rfl); (focus rfl))
    | ((with_reducible apply (jbuild_ns nsC)); (focus rfl); (focus rfl); (focus rfl); (focus (with_reducible exact ElC.h)); (focus rfl); (focus rfl); (focus rfl))
    | ((with_reducible apply (jbuild_ns nsD)); (focus rfl); (focus rfl); (focus rfl); (focus (with_reducible exact ElC.h)); (focus rfl); (focus rfl); (focus rfl))
    | ((with_reducible apply call0); (focus rfl); (focus exact cal_sameInts); (focus exact ACr_true (sameInts GP nsC nsC) rfl); (focus rfl))
    | ((with_reducible apply je_call0); (focus rfl); (focus (decide +kernel)); (focus rfl); (focus exact cal_sameInts); (focus exact ACr_true (sameInts GP nsC nsC) rfl); (focus rfl))
    | ((with_reducible apply call0); (focus rfl); (focus exact cal_sameInts); (focus exact ACr_true (sameInts GP nsD nsD) rfl); (focus rfl))
    | ((with_reducible apply je_call0); (focus rfl); (focus (decide +kernel)); (focus rfl); (focus exact cal_sameInts); (focus exact ACr_true (sameInts GP nsD nsD) rfl); (focus rfl))
    | exact True.intro
    | refine stph ?_
    | refine two ?_ ?_
    | refine allc fun c_ => ?_
    | (refine imp fun hc => ?_) <;> try (first | contradiction | (exfalso; omega))
    | refine all fun v_ => ?_)
  refine J_loopV (X := Nat) (fun i => [(3, .d (intsD nsB)), (4, .int i)]) (fun _ => []) (fun i => i ≤ 18) (fun i => 18 - i) 0 (Nat.zero_le _) (VS.of_le ?_) ?_
  · repeat (first
      | exact Env.le_nil _
      | refine Env.le_cons (AV.le_refl _) ?_
      | refine Env.le_cons (AV.le_int rfl (by first | rfl | omega | (dsimp only; omega))) ?_)
  rintro i h1
  have hlB : nsB.length = 18 := rfl
  by_cases hi : i < 18
  · have e := nsB_at i (by omega)
    repeat' (first
      | ((with_reducible apply (jbuild_ns nsA)); (focus rfl); (focus rfl); (focus rfl); (focus (with_reducible exact ElC.h)); (focus rfl); (focus rfl); (focus rfl))
      | ((with_reducible apply (jbuild_ns nsB)); (focus rfl); (focus rfl); (focus rfl); (focus (with_reducible exact ElC.h)); (focus rfl); (focus rfl); (focus rfl))
      | ((with_reducible apply (jbuild_ns nsC)); (focus rfl); (focus rfl); (focus rfl); (focus (with_reducible exact ElC.h)); (focus rfl); (focus rfl); (focus rfl))
      | ((with_reducible apply (jbuild_ns nsD)); (focus rfl); (focus rfl); (focus rfl); (focus (with_reducible exact ElC.h)); (focus rfl); (focus rfl); (focus rfl))
      | ((with_reducible apply call0); (focus rfl); (focus exact cal_sameInts); (focus exact ACr_true (sameInts GP nsC nsC) rfl); (focus rfl))
      | ((with_reducible apply je_call0); (focus rfl); (focus (decide +kernel)); (focus rfl); (focus exact cal_sameInts); (focus exact ACr_true (sameInts GP nsC nsC) rfl); (focus rfl))
      | ((with_reducible apply call0); (focus rfl); (focus exact cal_sameInts); (focus exact ACr_true (sameInts GP nsD nsD) rfl); (focus rfl))
      | ((with_reducible apply je_call0); (focus rfl); (focus (decide +kernel)); (focus rfl); (focus exact cal_sameInts); (focus exact ACr_true (sameInts GP nsD nsD) rfl); (focus rfl))
      | exact True.intro
      | refine stph ?_
      | refine two ?_ ?_
      | refine allc fun c_ => ?_
      | (refine imp fun hc => ?_) <;> try (first | contradiction | (exfalso; omega))
      | refine all fun v_ => ?_)
    refine ⟨i + 1, by omega, by omega, VS.of_le ?_⟩
    repeat (first
      | exact Env.le_nil _
      | refine Env.le_cons (AV.le_refl _) ?_
      | refine Env.le_cons (AV.le_int rfl (by first | rfl | omega | (dsimp only; omega))) ?_)
  obtain rfl : i = 18 := by omega
  repeat' (first
    | ((with_reducible apply (jbuild_ns nsA)); (focus rfl); (focus rfl); (focus rfl); (focus (with_reducible exact ElC.h)); (focus rfl); (focus rfl); (focus rfl))
    | ((with_reducible apply (jbuild_ns nsB)); (focus rfl); (focus rfl); (focus rfl); (focus (with_reducible exact ElC.h)); (focus rfl); (focus rfl); (focus rfl))
    | ((with_reducible apply (jbuild_ns nsC)); (focus rfl); (focus rfl); (focus rfl); (focus (with_reducible exact ElC.h)); (focus rfl); (focus rfl); (focus rfl))
    | ((with_reducible apply (jbuild_ns nsD)); (focus rfl); (focus rfl); (focus rfl); (focus (with_reducible exact ElC.h)); (focus rfl); (focus rfl); (focus rfl))
    | ((with_reducible apply call0); (focus rfl); (focus exact cal_sameInts); (focus exact ACr_true (sameInts GP nsC nsC) rfl); (focus rfl))
    | ((with_reducible apply je_call0); (focus rfl); (focus (decide +kernel)); (focus rfl); (focus exact cal_sameInts); (focus exact ACr_true (sameInts GP nsC nsC) rfl); (focus rfl))
    | ((with_reducible apply call0); (focus rfl); (focus exact cal_sameInts); (focus exact ACr_true (sameInts GP nsD nsD) rfl); (focus rfl))
    | ((with_reducible apply je_call0); (focus rfl); (focus (decide +kernel)); (focus rfl); (focus exact cal_sameInts); (focus exact ACr_true (sameInts GP nsD nsD) rfl); (focus rfl))
    | exact True.intro
    | refine stph ?_
    | refine two ?_ ?_
    | refine allc fun c_ => ?_
    | (refine imp fun hc => ?_) <;> try (first | contradiction | (exfalso; omega))
    | refine all fun v_ => ?_)
  refine retv (VS.drop (List.nil_sublist _)) ?_
  ((with_reducible apply rq1); rfl; rfl)
  exact ret_eq rfl
namespace PlainNames
set_option linter.unusedVariables false
set_option linter.unusedSimpArgs false
theorem laws : ∀ xss : List (List D), xss.length = Try.f3.params.toList.length → (∀ (j : Nat) t xs, Try.f3.params.toList[j]? = some t → xss[j]? = some xs → Conf Try.prog 12 t xs) → ACr Try.prog GP 3 ((Try.f3.params.toList.zip xss).map fun p => argAV (isStructB Try.prog p.1) p.2) (.bool true) := by
  rw [Try.params3]
  intro xss hl hc
  match xss, hl with
  | [], _ => exact law_Names
end PlainNames
namespace PlainNames
open Go.ChangeShapes Go.WideShapes Go.ChangeAt Go.RowKit
set_option linter.unusedVariables false
set_option linter.unusedSimpArgs false
theorem laid_met (os : Os) : laidMet Try.prog Rows.namesRow.laid ((laidWorld os).forCall (fun _ _ => 0) ⟨#[], #[], []⟩).memory :=
  laidMet_of_run' 24 (by kernel_rfl) (by kernel_rfl)
theorem reads (os : Os) {H : Type} (enc : TypeId × Value → H) : ∃ places, DataW.whole enc Try.prog ((laidWorld os).forCall (fun _ _ => 0) ⟨#[], #[], []⟩).memory Try.f3.params.toList Rows.namesSpec.vars false (#[] : Array Value).toList 24 = some ([], [], places) :=
  ⟨[], by kernel_rfl⟩

theorem params : ∀ t ∈ Try.f3.params.toList, plainB Try.prog 12 t = true ∧ Try.prog.readableRec t = true ∧ t < Try.prog.types.size := by
  rw [Try.params3]
  intro t ht
  cases ht

set_option maxRecDepth 100000 in
theorem lifted (os : Os) (started : os.Started) (H : Type) (enc : TypeId × Value → H) (F : Stop.Interp) :
    ReturnsInHanded {} Try.checked os 3 .any ((OpenSpec.ofChange Rows.namesSpec).preRow enc Try.prog Try.f3 Rows.namesRow.domain false Rows.namesRow.laid) (((OpenSpec.ofChange Rows.namesSpec).at F).post enc Try.prog Try.f3 false true false false) := by
  obtain ⟨places, hx⟩ := reads os enc
  refine returnsInHanded_of_row (C := Try.checked) (s := OpenSpec.ofChange Rows.namesSpec) own started (by kernel_rfl) Try.func3
    (witness_row_at (enc := enc) (C := Try.checked) false (laidWorld os) #[] rfl (by kernel_rfl) (by kernel_rfl) (by kernel_rfl)
      (OpenSpec.preRow_of_cond 24 hx (by kernel_rfl) (fun k hk => by cases hk) (by kernel_rfl) (laid_met os))) ?_
  intro W base args ds gs before hval hW _ _ hz hL _ _
  refine law_of (G := GP) (g := 12) laidOutAll params rfl Try.underlying4 rfl ?_ ?_ (fun q hq => by cases hq) hval hW ?_
  · intro ds hds
    rw [Try.params3] at hds
    match ds, hds with
    | [], _ => exact ⟨rfl, rfl, rfl⟩
  · exact laws
  · obtain ⟨p, q, _, hV, _⟩ := hW
    obtain rfl : gs = [] := by cases gs with | nil => rfl | cons _ _ => simp [Rows.namesSpec, OpenSpec.ofChange, DataW.TrodVars] at hV
    simpa [Rows.namesSpec, OpenSpec.ofChange, OpenSpec.bare, ChangeSpec.plain, DataSpec.varTypes] using hz

theorem said : Rows.namesRow.holds Try.pinned (OpenSpec.ofChange Rows.namesSpec) :=
  OpenClaim.holds_of_cond 3 Try.f3 rfl rfl rfl rfl rfl rfl rfl ⟨rfl, rfl, rfl, rfl, rfl⟩ rfl rfl rfl rfl rfl (by kernel_rfl) Try.func3 (by kernel_rfl)
    (of_decide_eq_true (by kernel_rfl)) (by unfold Func.isWrapper; first | (rw [if_pos (by decide +kernel)]; kernel_rfl) | (rw [if_neg (by decide +kernel)]; exact ⟨rfl, rfl⟩))
    (fun os started H enc _ F => by rw [OpenClaim.pre_eq_preRow]; exact lifted os started H enc F)

theorem card : Rows.NamesSaid := said
end PlainNames
end Go.Proofs.Ytacdheachjnejaa
