/- A run that is told is a run, and does not keep the formula: for every input the law returns true. Conditions: none. -/
import Derived.Test.YtniklgkoiaeipaaGreatDoorD35
import Derived.Test.YtniklgkoiaeipaaGreatDoorD42
namespace Go.Proofs.YtniklgkoiaeipaaGreatDoor
open Go Go.Av Go.Sp
set_option linter.unusedVariables false
set_option linter.unusedSimpArgs false
set_option maxRecDepth 100000
set_option maxHeartbeats 4000000

theorem armXLTopSound_1 {p q : Prop} (hp : p) (h : p → q := by
 apply cmp; (focus (first
  | ((with_reducible apply call0); (focus rfl); (focus exact cal_KTask); (focus exact hT); (focus rfl))
  | ((with_reducible apply je_call0); (focus rfl); (focus (decide +kernel)); (focus rfl); (focus exact cal_KTask); (focus exact hT); (focus rfl))
  ))
 exact fun h => h) : q := h hp
theorem armXLTopSound_2 {p q : Prop} (hp : p) (h : p → q := by
 apply cmp; (focus (first
  | ((with_reducible apply call0); (focus rfl); (focus exact cal_VRuns); (focus exact hRn); (focus rfl))
  | ((with_reducible apply je_call0); (focus rfl); (focus (decide +kernel)); (focus rfl); (focus exact cal_VRuns); (focus exact hRn); (focus rfl))
  | ((with_reducible apply call0); (focus rfl); (focus exact cal_Keeps); (focus exact hK); (focus rfl))
  | ((with_reducible apply je_call0); (focus rfl); (focus (decide +kernel)); (focus rfl); (focus exact cal_Keeps); (focus exact hK); (focus rfl))
  ))
 exact fun h => h) : q := h hp
theorem armXLTopSound_3 {p q : Prop} (hp : p) (h : p → q := by
 apply cmp; (focus (first
  | ((with_reducible apply call0); (focus rfl); (focus exact cal_KTask); (focus exact hT); (focus rfl))
  | ((with_reducible apply je_call0); (focus rfl); (focus (decide +kernel)); (focus rfl); (focus exact cal_KTask); (focus exact hT); (focus rfl))
  | ((with_reducible apply call0); (focus rfl); (focus exact cal_VCheck); (focus exact hV); (focus rfl))
  | ((with_reducible apply je_call0); (focus rfl); (focus (decide +kernel)); (focus rfl); (focus exact cal_VCheck); (focus exact hV); (focus rfl))
  ))
 exact fun h => h) : q := h hp
theorem law_TopSound (d : De) (hd : DeOk d) (raw : List Fo) (hr : rawOk raw) : ACr Tryz.prog GP 11 [deA d, .d (opsD raw)] (.bool true) := by
 have hT := KTask GP d hd raw hr 3 (by decide)
 have hf := FoG.of raw (t := 3) (by decide)
 have ht := taskF_G d hf
 obtain ⟨e, he⟩ := explore_G d hf
 have hx : (exploreF (tskG d (formG raw 3))).2 = 0 := by rw [he]
 by_cases h : (fairOf (exG (tskG d (formG raw 3)))).2 = 0
 · obtain ⟨_, g⟩ := exG_some he
   have hV := VCheck_no (tskG d (formG raw 3)) e he h
   generalize htt : tskG d (formG raw 3) = t at hT ht he hx h g hV
   refine AC_ofV (ts := [4]) Tryz.f11.ntmps Tryz.func11 rfl rfl rfl (by simp [Tryz.ntmps11]) fun W I => ?_
   repeat' (first
    | refine armXLTopSound_1 ?_
    | ((with_reducible apply callG); (focus rfl); (focus exact cal_VCheck); (focus exact hV); (focus exact takeD); (focus rfl); (focus exact appD))
    | exact True.intro | refine stpH ?_ | refine two ?_ ?_ | refine allc fun c_ => ?_
    | (refine imp fun hc => ?_) <;> try exact cx1 hc
    | refine all fun v_ => ?_)
   obtain ⟨ba, rfl⟩ : ∃ x, x = v_ := ⟨v_, rfl⟩
   obtain ⟨v, rfl⟩ : ∃ x, x = v_ := ⟨v_, rfl⟩
   obtain ⟨⟨stem, loop⟩, hp⟩ := v
   have hw := hp.1
   have hsl := hp.2.1
   have hll := hp.2.2
   dsimp only at hw hsl hll ⊢
   have q1 := stS_len e.spots stem
   have q2 := stS_len e.spots loop
   have hne : stS e.spots loop ≠ [] := fun e' => by
    have h1 := congrArg List.length e'
    rw [stS_len, List.length_nil] at h1
    have hlp := List.length_pos_iff.2 hw.ne
    omega
   have hRn := Runs t.model (stS e.spots stem) (stS e.spots loop) (by omega)
   have hrun := g.runs hw
   rw [hrun] at hRn
   have hb := g.word_bad hw
   have hst := g.states hw
   have hK := Keeps t (stS e.spots stem) (stS e.spots loop)
   by_cases h12 : (stS e.spots stem).length ≤ 12 ∧ (stS e.spots loop).length ≤ 12
   · rw [keepsF_word ht _ _ hne hst (by rw [hrun]) h12.1 h12.2, hb] at hK
     have h12a := h12.1
     have h12b := h12.2
     repeat' (first
      | refine armXLTopSound_2 ?_
      | exact True.intro | refine stpH ?_ | refine two ?_ ?_ | refine allc fun c_ => ?_
      | (refine imp fun hc => ?_) <;> try exact cx1 hc
      | refine all fun v_ => ?_)
     all_goals
      refine retv (VS.drop (List.nil_sublist _)) ?_
      ((with_reducible apply rq1); rfl; rfl)
      exact ret_eq (by simp_all)
   · rw [keepsF_long ht _ _ (by omega)] at hK
     have h12' : 12 < (stS e.spots stem).length ∨ 12 < (stS e.spots loop).length := by omega
     rcases h12' with h12a | h12a
     all_goals
      repeat' (first
       | refine armXLTopSound_2 ?_
       | exact True.intro | refine stpH ?_ | refine two ?_ ?_ | refine allc fun c_ => ?_
       | (refine imp fun hc => ?_) <;> try exact cx1 hc
       | refine all fun v_ => ?_)
      all_goals
       refine retv (VS.drop (List.nil_sublist _)) ?_
       ((with_reducible apply rq1); rfl; rfl)
       exact ret_eq (by simp_all)
 · have hV := VCheck_holds (tskG d (formG raw 3)) hx h
   refine AC_ofV (ts := [4]) Tryz.f11.ntmps Tryz.func11 rfl rfl rfl (by simp [Tryz.ntmps11]) fun W I => ?_
   repeat' (first
    | refine armXLTopSound_3 ?_
    | exact True.intro | refine stpH ?_ | refine two ?_ ?_ | refine allc fun c_ => ?_
    | (refine imp fun hc => ?_) <;> try exact cx1 hc
    | refine all fun v_ => ?_)
   all_goals
    refine retv (VS.drop (List.nil_sublist _)) ?_
    ((with_reducible apply rq1); rfl; rfl)
    exact ret_eq (by simp_all)
namespace CardTopSound
set_option linter.unusedVariables false
set_option linter.unusedSimpArgs false
theorem laws : ∀ xss : List (List D), xss.length = Tryz.f11.params.toList.length → (∀ (j : Nat) t xs, Tryz.f11.params.toList[j]? = some t → xss[j]? = some xs → Conf Tryz.prog 12 t xs) → ACr Tryz.prog GP 11 ((Tryz.f11.params.toList.zip xss).map fun p => argAV (isStructB Tryz.prog p.1) p.2) (.bool true) := by
 rw [Tryz.params11]
 intro xss hl hc
 match xss, hl with
 | [x0, x1], _ =>
   (obtain ⟨d, rfl, hd⟩ := conf_Design (hc 0 _ x0 rfl rfl)); (obtain ⟨raw, rfl, hr⟩ := conf_raws (hc 1 _ x1 rfl rfl))
   exact law_TopSound d hd raw hr
end CardTopSound
namespace CardTopSound
open Go.ChangeShapes Go.WideShapes Go.ChangeAt Go.RowKit
set_option linter.unusedVariables false
set_option linter.unusedSimpArgs false
theorem laid_met (os : Os) : laidMet Tryz.prog Rows.topSoundRow.laid ((laidWorld os).forCall (fun _ _ => 0) ⟨#[], #[.agg #[.int .i64 0, .int .i64 0, .int .i64 0, .int .i64 0, .int .i64 0, .int .i64 0, .slice none 0 0], .slice none 0 0], []⟩).memory :=
 laidMet_of_run' 24 (by kernel_rfl) (by kernel_rfl)
theorem reads (os : Os) {H : Type} (enc : TypeId × Value → H) : ∃ places, DataW.whole enc Tryz.prog ((laidWorld os).forCall (fun _ _ => 0) ⟨#[], #[.agg #[.int .i64 0, .int .i64 0, .int .i64 0, .int .i64 0, .int .i64 0, .int .i64 0, .slice none 0 0], .slice none 0 0], []⟩).memory Tryz.f11.params.toList Rows.topSoundSpec.vars false (#[.agg #[.int .i64 0, .int .i64 0, .int .i64 0, .int .i64 0, .int .i64 0, .int .i64 0, .slice none 0 0], .slice none 0 0] : Array Value).toList 24 = some ([.agg [.agg [.lit (.int .i64 0), .lit (.int .i64 0)], .agg [.lit (.int .i64 0), .lit (.int .i64 0)], .agg [.lit (.int .i64 0), .lit (.int .i64 0)], .nil], .nil], [], places) :=
 ⟨[], by kernel_rfl⟩

theorem params : ∀ t ∈ Tryz.f11.params.toList, plainB Tryz.prog 12 t = true ∧ Tryz.prog.readableRec t = true ∧ t < Tryz.prog.types.size := by
 rw [Tryz.params11]
 intro t ht
 simp only [List.mem_cons, List.not_mem_nil, or_false] at ht
 rcases ht with rfl | rfl <;> exact ⟨by kernel_rfl, by kernel_rfl, of_decide_eq_true (by kernel_rfl)⟩

set_option maxRecDepth 100000 in
theorem lifted (os : Os) (started : os.Started) (H : Type) (enc : TypeId × Value → H) (F : Stop.Interp) :
 ReturnsInHanded {} Tryz.checked os 11 .any ((OpenSpec.ofChange Rows.topSoundSpec).preRow enc Tryz.prog Tryz.f11 Rows.topSoundRow.domain false Rows.topSoundRow.laid) (((OpenSpec.ofChange Rows.topSoundSpec).at F).post enc Tryz.prog Tryz.f11 false true false false) := by
 obtain ⟨places, hx⟩ := reads os enc
 refine returnsInHanded_of_row (C := Tryz.checked) (s := OpenSpec.ofChange Rows.topSoundSpec) own started (by kernel_rfl) Tryz.func11
  (witness_row_at (enc := enc) (C := Tryz.checked) false (laidWorld os) #[.agg #[.int .i64 0, .int .i64 0, .int .i64 0, .int .i64 0, .int .i64 0, .int .i64 0, .slice none 0 0], .slice none 0 0] rfl (by kernel_rfl) (by kernel_rfl) (by kernel_rfl)
   (OpenSpec.preRow_of_cond 24 hx (by kernel_rfl) (fun k hk => by cases hk) (by kernel_rfl) (laid_met os))) ?_
 intro W base args ds gs before hval hW _ _ hz hL _ _
 refine law_of (G := GP) (g := 12) laidOutAll params rfl Tryz.underlying4 rfl ?_ ?_ (globPD hL) hval hW ?_
 · intro ds hds
   rw [Tryz.params11] at hds
   match ds, hds with
   | [d0, d1], _ => exact ⟨rfl, rfl, rfl⟩
 · exact laws
 · obtain ⟨p, q, _, hV, _⟩ := hW
   obtain rfl : gs = [] := by cases gs with | nil => rfl | cons _ _ => simp [Rows.topSoundSpec, OpenSpec.ofChange, DataW.TrodVars] at hV
   simpa [Rows.topSoundSpec, OpenSpec.ofChange, OpenSpec.bare, ChangeSpec.plain, DataSpec.varTypes] using hz

theorem said : Rows.topSoundRow.holds Tryz.pinned (OpenSpec.ofChange Rows.topSoundSpec) :=
 OpenClaim.holds_of_cond 11 Tryz.f11 rfl rfl rfl rfl rfl rfl rfl ⟨rfl, rfl, rfl, rfl, rfl⟩ rfl rfl rfl rfl rfl (by as_aux_lemma => kernel_rfl) Tryz.func11 (by as_aux_lemma => kernel_rfl)
  (of_decide_eq_true (by as_aux_lemma => kernel_rfl)) (by as_aux_lemma => unfold Func.isWrapper; first | (rw [if_pos (by decide +kernel)]; kernel_rfl) | (rw [if_neg (by decide +kernel)]; exact ⟨rfl, rfl⟩))
  (fun os started H enc _ F => by rw [OpenClaim.pre_eq_preRow]; exact lifted os started H enc F)

theorem plain (f : FuncId) (fn : Func) (hf : Tryz.pinned.checked.prog.funcNamed "foretell/foretelltop.TopSound" = some f) (hfn : Tryz.pinned.checked.prog.funcs[f]? = some fn) :
 true = Tryz.pinned.checked.prog.looks [] ∧ ∀ (j : Nat) t, fn.params[j]? = some t → Tryz.pinned.checked.prog.wantsStandIn t = false := by
 obtain rfl : f = 11 := Option.some.inj ((show Tryz.prog.funcNamed "foretell/foretelltop.TopSound" = some 11 by kernel_rfl).symm.trans hf) |>.symm
 obtain rfl : fn = Tryz.f11 := (Option.some.inj (Tryz.func11.symm.trans hfn)).symm
 refine ⟨by kernel_rfl, fun j t ht => ?_⟩
 have hm : t ∈ Tryz.f11.params.toList := by simpa using Array.mem_of_getElem? ht
 rw [Tryz.params11] at hm
 simp only [List.mem_cons, List.not_mem_nil, or_false] at hm
 rcases hm with rfl | rfl <;> (show _ = false; kernel_rfl)

theorem card : Rows.TopSoundCardSaid :=
 Claim7.holds_tied_plain_at .later [] _ _ _ _ said (fun _ h => by cases h) (by as_aux_lemma => kernel_rfl) (fun _ h => by cases h) topSound_row_tie rfl ⟨rfl, rfl⟩ (by as_aux_lemma => kernel_rfl) rfl plain (by as_aux_lemma => kernel_rfl)
end CardTopSound
end Go.Proofs.YtniklgkoiaeipaaGreatDoor
