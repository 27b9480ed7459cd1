/- It holds always, just if it holds in each state that is reached: for every input the law returns true. Conditions: none. -/
import Derived.Test.YtniklgkoiaeipaaGreatDoorD35
namespace Go.Sp
open Go Go.Av
set_option linter.unusedVariables false
set_option linter.unusedSimpArgs false
theorem reachF_G (d : De) : reachF (modG d) = (reachL (modG d) (manyG d), 0) := by
 unfold reachF
 rw [if_neg (fun c => c (modelF_G d))]
 rfl
theorem reachL_mem (d : De) (x : Int) : x ∈ reachL (modG d) (manyG d) ↔ ∃ c : Nat, c < manyG d ∧ fromP (nxM (modG d)) [(firstF (modG d)).toNat] c ∧ x = c := by
 unfold reachL
 simp only [List.mem_map, List.mem_filter, List.mem_range, decide_eq_true_eq]
 constructor
 · rintro ⟨c, ⟨h1, h2⟩, rfl⟩
   exact ⟨c, h1, h2, rfl⟩
 · rintro ⟨c, h1, h2, rfl⟩
   exact ⟨c, ⟨h1, h2⟩, rfl⟩
theorem reachL_len (d : De) : (reachL (modG d) (manyG d)).length ≤ manyG d := by
 unfold reachL
 rw [List.length_map]
 exact Nat.le_trans (List.length_filter_le _ _) (by simp)
theorem from_lt (d : De) {c : Nat} (h : fromP (nxM (modG d)) [(firstF (modG d)).toNat] c) : c < manyG d := by
 obtain ⟨π, hp, j, hj⟩ := run_through (modelF_G d) h
 have := runP.range (t := tskG d [⟨11, 0⟩]) (taskF_G d FoG.yes) hp j
 rw [hj] at this
 have h2 := (manyG_eq d).1
 have h3 : (c : Int) < prodV (modG d).vars := this.2
 omega
theorem always_G (d : De) (n : Int) : hldF (tskG d [⟨18, 0⟩, ⟨13, n⟩]) = allB (fun c => saysG d c n.toNat) (reachL (modG d) (manyG d)) := by
 refine Bool.eq_iff_iff.2 ?_
 rw [hldF_iff, top_always]
 unfold allB
 rw [List.all_eq_true]
 constructor
 · intro h x hx
   obtain ⟨c, h1, h2, rfl⟩ := (reachL_mem d x).1 hx
   exact h c h2
 · intro h c hc
   exact h c ((reachL_mem d c).2 ⟨c, from_lt d hc, hc, rfl⟩)
end Go.Sp
namespace Go.Proofs.YtniklgkoiaeipaaGreatDoor
open Go Go.Av Go.Sp
set_option linter.unusedVariables false
set_option linter.unusedSimpArgs false
set_option maxRecDepth 100000
set_option maxHeartbeats 4000000

theorem armXLTopAlways_1 {p q : Prop} (hp : p) (h : p → q := by
 apply cmp; (focus (first
  | ((with_reducible apply call0); (focus rfl); (focus exact cal_kworld); (focus exact hW); (focus rfl))
  | ((with_reducible apply je_call0); (focus rfl); (focus (decide +kernel)); (focus rfl); (focus exact cal_kworld); (focus exact hW); (focus rfl))
  | ((with_reducible apply call0); (focus rfl); (focus exact cal_KModel); (focus exact hM); (focus rfl))
  | ((with_reducible apply je_call0); (focus rfl); (focus (decide +kernel)); (focus rfl); (focus exact cal_KModel); (focus exact hM); (focus rfl))
  | ((with_reducible apply call0); (focus rfl); (focus exact cal_Reach); (focus exact hR); (focus rfl))
  | ((with_reducible apply je_call0); (focus rfl); (focus (decide +kernel)); (focus rfl); (focus exact cal_Reach); (focus exact hR); (focus rfl))
  | ((with_reducible apply call0); (focus rfl); (focus exact cal_kprop); (focus exact hP); (focus rfl))
  | ((with_reducible apply je_call0); (focus rfl); (focus (decide +kernel)); (focus rfl); (focus exact cal_kprop); (focus exact hP); (focus rfl))
  | ((with_reducible apply qcall); (focus rfl); (focus exact cal_kprop); (focus exact hP); (focus rfl))
  | ((with_reducible apply call0); (focus rfl); (focus exact cal_KJoined); (focus exact hJ); (focus rfl))
  | ((with_reducible apply je_call0); (focus rfl); (focus (decide +kernel)); (focus rfl); (focus exact cal_KJoined); (focus exact hJ); (focus rfl))
  | ((with_reducible apply qcall); (focus rfl); (focus exact cal_KJoined); (focus exact hJ); (focus rfl))
  | ((with_reducible apply call0); (focus rfl); (focus exact cal_kholds); (focus exact hA); (focus rfl))
  | ((with_reducible apply je_call0); (focus rfl); (focus (decide +kernel)); (focus rfl); (focus exact cal_kholds); (focus exact hA); (focus rfl))
  ))
 exact fun h => h) : q := h hp
theorem armXLTopAlways_2 {p q : Prop} (hp : p) (h : p → q := by
 apply cmp; (focus (first
  | ((with_reducible apply call0); (focus rfl); (focus exact cal_Picked); (focus exact hK); (focus rfl))
  | ((with_reducible apply je_call0); (focus rfl); (focus (decide +kernel)); (focus rfl); (focus exact cal_Picked); (focus exact hK); (focus rfl))
  | ((with_reducible apply qcall); (focus rfl); (focus exact cal_Picked); (focus exact hK); (focus rfl))
  ))
 exact fun h => h) : q := h hp
theorem law_TopAlways (d : De) (hd : DeOk d) (n : Int) (hn : inI64 n) : ACr Tryz.prog GP 8 [deA d, .int n] (.bool true) := by
 have hW := kworld d hd
 have hM := KModel GP d hd
 have hR := Reach (modG d)
 have hP := kprop GP n hn
 have hK := Picked GP n 3 (by decide) hn
 have hJ := Join1 GP 18 [⟨13, pk n 3⟩] (by simp)
 have hA := kholds d hd (FoG.always n)
 rw [always_G] at hA
 rw [reachF_G] at hR
 have hb := pkb n (many := 3) (by decide)
 have hll := letsG_len d (manyG d)
 have hrl := reachL_len d
 have hN := manyG_eq d
 have hrm : ∀ x ∈ reachL (modG d) (manyG d), 0 ≤ x ∧ x < manyG d := fun x hx => by
  obtain ⟨c, h1, _, rfl⟩ := (reachL_mem d x).1 hx
  omega
 have hlg := letsG_get d
 have h3 := lettF_3 d
 generalize letsG d (manyG d) = L at hW hll hlg
 generalize nxtG d (manyG d) = X at hW
 generalize reachL (modG d) (manyG d) = R at hR hA hrl hrm
 generalize firstF (modG d) = fst at hW
 refine AC_ofV (ts := [4]) Tryz.f8.ntmps Tryz.func8 rfl rfl rfl (by simp [Tryz.ntmps8]) fun W I => ?_
 repeat' (first
  | refine armXLTopAlways_1 ?_
  | exact True.intro | refine stpH ?_ | refine two ?_ ?_ | refine allc fun c_ => ?_
  | (refine imp fun hc => ?_) <;> try exact cx1 hc
  | refine all fun v_ => ?_)
 all_goals
  refine J_loopV (X := Nat) (fun i => [(1, .int n), (5, .d (lettD L)), (9, .d (intsD R)), (11, .bool (allB (fun c => saysG d c (pk n 3).toNat) R)), (13, .bool (allB (fun c => saysG d c (pk n 3).toNat) (R.take i))), (14, .int i)]) (fun _ => []) (fun i => i ≤ R.length) (fun i => R.length - i) 0 (Nat.zero_le _) (VS.trans (VS.drop (List.nil_sublist _)) (VS.of_le ?_)) ?_
  · exact leD
 all_goals
  intro i hi
  by_cases hil : i < R.length
  · have hs := allB_take (fun c => saysG d c (pk n 3).toNat) R i hil
    have hr := hrm R[i] (List.getElem_mem hil)
    have hx : R[i].toNat < L.length := by omega
    have hlt : (L[R[i].toNat]'hx).length = 3 := by rw [hlg]; exact h3 _
    have hsay : saysG d R[i] (pk n 3).toNat = (L[R[i].toNat]'hx)[(pk n 3).toNat]'(by omega) := by
     have e := hlg R[i].toNat hx
     unfold saysG
     have e2 : ((R[i].toNat : Nat) : Int) = R[i] := by omega
     rw [e2] at e
     rw [← e, List.getElem?_eq_getElem (by omega)]
     rfl
    rw [hsay] at hs
    cases hv : allB (fun c => saysG d c (pk n 3).toNat) (R.take i)
    · rw [hv, Bool.false_and] at hs
      repeat' (first
       | refine armXLTopAlways_2 ?_
       | exact True.intro | refine stpA ?_ | refine two ?_ ?_
       | (refine imp fun hc => ?_) <;> try exact cx hc
       | refine all fun v_ => ?_)
      refine ⟨i + 1, by omega, by omega, VS.of_le ?_⟩
      rw [hs]
      exact leD
    · rw [hv, Bool.true_and] at hs
      repeat' (first
       | refine armXLTopAlways_2 ?_
       | exact True.intro | refine stpA ?_ | refine two ?_ ?_
       | (refine imp fun hc => ?_) <;> try exact cx hc
       | refine all fun v_ => ?_)
      refine ⟨i + 1, by omega, by omega, VS.of_le ?_⟩
      rw [hs]
      exact leD
  obtain rfl : i = R.length := by omega
  rw [List.take_length]
  repeat' (first
   | exact True.intro | refine stpH ?_ | refine two ?_ ?_ | refine allc fun c_ => ?_
   | (refine imp fun hc => ?_) <;> try exact cx1 hc
   | refine all fun v_ => ?_)
  refine retv (VS.drop (List.nil_sublist _)) ?_
  ((with_reducible apply rq1); rfl; rfl)
  exact ret_eq (by simp)
namespace CardTopAlways
set_option linter.unusedVariables false
set_option linter.unusedSimpArgs false
theorem laws : ∀ xss : List (List D), xss.length = Tryz.f8.params.toList.length → (∀ (j : Nat) t xs, Tryz.f8.params.toList[j]? = some t → xss[j]? = some xs → Conf Tryz.prog 12 t xs) → ACr Tryz.prog GP 8 ((Tryz.f8.params.toList.zip xss).map fun p => argAV (isStructB Tryz.prog p.1) p.2) (.bool true) := by
 rw [Tryz.params8]
 intro xss hl hc
 match xss, hl with
 | [x0, x1], _ =>
   (obtain ⟨d, rfl, hd⟩ := conf_Design (hc 0 _ x0 rfl rfl)); (obtain ⟨n, rfl, hn⟩ := conf_int64 (hc 1 _ x1 rfl rfl))
   exact law_TopAlways d hd n hn
end CardTopAlways
namespace CardTopAlways
open Go.ChangeShapes Go.WideShapes Go.ChangeAt Go.RowKit
set_option linter.unusedVariables false
set_option linter.unusedSimpArgs false
theorem laid_met (os : Os) : laidMet Tryz.prog Rows.topAlwaysRow.laid ((laidWorld os).forCall (fun _ _ => 0) ⟨#[], #[.agg #[.int .i64 0, .int .i64 0, .int .i64 0, .int .i64 0, .int .i64 0, .int .i64 0, .slice none 0 0], .int .i64 0], []⟩).memory :=
 laidMet_of_run' 24 (by kernel_rfl) (by kernel_rfl)
theorem reads (os : Os) {H : Type} (enc : TypeId × Value → H) : ∃ places, DataW.whole enc Tryz.prog ((laidWorld os).forCall (fun _ _ => 0) ⟨#[], #[.agg #[.int .i64 0, .int .i64 0, .int .i64 0, .int .i64 0, .int .i64 0, .int .i64 0, .slice none 0 0], .int .i64 0], []⟩).memory Tryz.f8.params.toList Rows.topAlwaysSpec.vars false (#[.agg #[.int .i64 0, .int .i64 0, .int .i64 0, .int .i64 0, .int .i64 0, .int .i64 0, .slice none 0 0], .int .i64 0] : Array Value).toList 24 = some ([.agg [.agg [.lit (.int .i64 0), .lit (.int .i64 0)], .agg [.lit (.int .i64 0), .lit (.int .i64 0)], .agg [.lit (.int .i64 0), .lit (.int .i64 0)], .nil], .lit (.int .i64 0)], [], places) :=
 ⟨[], by kernel_rfl⟩

theorem params : ∀ t ∈ Tryz.f8.params.toList, plainB Tryz.prog 12 t = true ∧ Tryz.prog.readableRec t = true ∧ t < Tryz.prog.types.size := by
 rw [Tryz.params8]
 intro t ht
 simp only [List.mem_cons, List.not_mem_nil, or_false] at ht
 rcases ht with rfl | rfl <;> exact ⟨by kernel_rfl, by kernel_rfl, of_decide_eq_true (by kernel_rfl)⟩

set_option maxRecDepth 100000 in
theorem lifted (os : Os) (started : os.Started) (H : Type) (enc : TypeId × Value → H) (F : Stop.Interp) :
 ReturnsInHanded {} Tryz.checked os 8 .any ((OpenSpec.ofChange Rows.topAlwaysSpec).preRow enc Tryz.prog Tryz.f8 Rows.topAlwaysRow.domain false Rows.topAlwaysRow.laid) (((OpenSpec.ofChange Rows.topAlwaysSpec).at F).post enc Tryz.prog Tryz.f8 false true false false) := by
 obtain ⟨places, hx⟩ := reads os enc
 refine returnsInHanded_of_row (C := Tryz.checked) (s := OpenSpec.ofChange Rows.topAlwaysSpec) own started (by kernel_rfl) Tryz.func8
  (witness_row_at (enc := enc) (C := Tryz.checked) false (laidWorld os) #[.agg #[.int .i64 0, .int .i64 0, .int .i64 0, .int .i64 0, .int .i64 0, .int .i64 0, .slice none 0 0], .int .i64 0] rfl (by kernel_rfl) (by kernel_rfl) (by kernel_rfl)
   (OpenSpec.preRow_of_cond 24 hx (by kernel_rfl) (fun k hk => by cases hk) (by kernel_rfl) (laid_met os))) ?_
 intro W base args ds gs before hval hW _ _ hz hL _ _
 refine law_of (G := GP) (g := 12) laidOutAll params rfl Tryz.underlying4 rfl ?_ ?_ (globPD hL) hval hW ?_
 · intro ds hds
   rw [Tryz.params8] at hds
   match ds, hds with
   | [d0, d1], _ => exact ⟨rfl, rfl, rfl⟩
 · exact laws
 · obtain ⟨p, q, _, hV, _⟩ := hW
   obtain rfl : gs = [] := by cases gs with | nil => rfl | cons _ _ => simp [Rows.topAlwaysSpec, OpenSpec.ofChange, DataW.TrodVars] at hV
   simpa [Rows.topAlwaysSpec, OpenSpec.ofChange, OpenSpec.bare, ChangeSpec.plain, DataSpec.varTypes] using hz

theorem said : Rows.topAlwaysRow.holds Tryz.pinned (OpenSpec.ofChange Rows.topAlwaysSpec) :=
 OpenClaim.holds_of_cond 8 Tryz.f8 rfl rfl rfl rfl rfl rfl rfl ⟨rfl, rfl, rfl, rfl, rfl⟩ rfl rfl rfl rfl rfl (by as_aux_lemma => kernel_rfl) Tryz.func8 (by as_aux_lemma => kernel_rfl)
  (of_decide_eq_true (by as_aux_lemma => kernel_rfl)) (by as_aux_lemma => unfold Func.isWrapper; first | (rw [if_pos (by decide +kernel)]; kernel_rfl) | (rw [if_neg (by decide +kernel)]; exact ⟨rfl, rfl⟩))
  (fun os started H enc _ F => by rw [OpenClaim.pre_eq_preRow]; exact lifted os started H enc F)

theorem plain (f : FuncId) (fn : Func) (hf : Tryz.pinned.checked.prog.funcNamed "foretell/foretelltop.TopAlways" = some f) (hfn : Tryz.pinned.checked.prog.funcs[f]? = some fn) :
 true = Tryz.pinned.checked.prog.looks [] ∧ ∀ (j : Nat) t, fn.params[j]? = some t → Tryz.pinned.checked.prog.wantsStandIn t = false := by
 obtain rfl : f = 8 := Option.some.inj ((show Tryz.prog.funcNamed "foretell/foretelltop.TopAlways" = some 8 by kernel_rfl).symm.trans hf) |>.symm
 obtain rfl : fn = Tryz.f8 := (Option.some.inj (Tryz.func8.symm.trans hfn)).symm
 refine ⟨by kernel_rfl, fun j t ht => ?_⟩
 have hm : t ∈ Tryz.f8.params.toList := by simpa using Array.mem_of_getElem? ht
 rw [Tryz.params8] at hm
 simp only [List.mem_cons, List.not_mem_nil, or_false] at hm
 rcases hm with rfl | rfl <;> (show _ = false; kernel_rfl)

theorem card : Rows.TopAlwaysCardSaid :=
 Claim7.holds_tied_plain_at .later [] _ _ _ _ said (fun _ h => by cases h) (by as_aux_lemma => kernel_rfl) (fun _ h => by cases h) topAlways_row_tie rfl ⟨rfl, rfl⟩ (by as_aux_lemma => kernel_rfl) rfl plain (by as_aux_lemma => kernel_rfl)
end CardTopAlways
end Go.Proofs.YtniklgkoiaeipaaGreatDoor
