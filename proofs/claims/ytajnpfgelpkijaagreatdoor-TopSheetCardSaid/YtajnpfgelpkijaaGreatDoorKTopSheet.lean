/- A drawn task's text is read as the task, and the verdict on both is one (P10.4); every drawn task holds what always holds: for every input the law returns true. Conditions: the listed package-level variables hold what the program's text lays in them (the card ties this). -/
import Derived.Test.YtajnpfgelpkijaaGreatDoorA10
import Derived.Test.YtajnpfgelpkijaaGreatDoorA18
import Derived.Test.YtajnpfgelpkijaaGreatDoorA46
import Derived.Test.YtajnpfgelpkijaaGreatDoorA48
import Derived.Test.YtajnpfgelpkijaaGreatDoorA51
namespace Go.Proofs.YtajnpfgelpkijaaGreatDoor
open Go Go.Av Go.Sp
set_option linter.unusedVariables false
set_option linter.unusedSimpArgs false
set_option maxRecDepth 100000
set_option maxHeartbeats 4000000

theorem PL (d : De) (hd : XA d) (raw : List Fo) (hr : Bd raw) : ACr Tryz.prog GP 4 [deA d, .d (AN raw)] (.bool true) := by
 have hT := gk GP d hd raw hr 3 (by decide)
 obtain ⟨hw, ha, hl⟩ := LK raw 3
 generalize IA raw 3 = f at hT hw ha hl
 have hf : FoG f := ⟨hw, by omega, by omega⟩
 obtain ⟨r1, r2⟩ := dI d hf 1 3
 have hS := Show (C4 d f)
 rw [r1] at hS
 have hR := Read (Bo (C4 d f))
 rw [We Zl, r2] at hR
 have hV := gW d hf
 have hY := fT d hd FoG.yes
 rw [LW.2 (bT d)] at hY
 generalize Pn (C4 d f) = b at hV
 generalize Bo (C4 d f) = s at hS hR
 generalize C4 d f = t at hT hS hR hV
 refine AK (ts := [4]) Tryz.f4.ntmps Tryz.func4 rfl rfl rfl (by simp [Tryz.ntmps4]) fun W I => ?_
 repeat' (first
  | refine ca Vt (hT) ?_
  | refine ca RY (hS) ?_
  | refine ca X5 (hR) ?_
  | refine cag Mi (hV) ?_
  | refine ca UD (hY) ?_
  | exact True.intro | refine AJ ?_ | refine two ?_ ?_ | refine AG fun c_ => ?_
  | (refine imp fun hc => ?_) <;> try exact cx1 hc
  | refine all fun v_ => ?_)
 all_goals
  refine AO (VS.drop (List.nil_sublist _)) ?_
  ((with_reducible apply rq1); rfl; rfl)
  exact AD (by simp_all)
namespace CardTopSheet
set_option linter.unusedVariables false
set_option linter.unusedSimpArgs false
theorem laws : ∀ xss : List (List D), xss.length = Tryz.f4.params.toList.length → (∀ (j : Nat) t xs, Tryz.f4.params.toList[j]? = some t → xss[j]? = some xs → Bn Tryz.prog 12 t xs) → ACr Tryz.prog GP 4 ((Tryz.f4.params.toList.zip xss).map fun p => NZ (EW Tryz.prog p.1) p.2) (.bool true) := by
 rw [Tryz.params4]
 intro xss hl hc
 match xss, hl with
 | [x0, x1], _ =>
   (obtain ⟨d, rfl, hd⟩ := Q9 (hc 0 _ x0 rfl rfl)); (obtain ⟨raw, rfl, hr⟩ := J9 (hc 1 _ x1 rfl rfl))
   exact PL d hd raw hr
end CardTopSheet
namespace CardTopSheet
open Go.ChangeShapes Go.WideShapes Go.ChangeAt Go.RowKit
set_option linter.unusedVariables false
set_option linter.unusedSimpArgs false
theorem laid_met (os : Os) : laidMet Tryz.prog Rows.topSheetRow.laid ((World.laidAll Tryz.prog os Rows.topSheetRow.laid).forCall (fun _ _ => 0) ⟨#[], #[.agg #[.int .i64 0, .int .i64 0, .int .i64 0, .int .i64 0, .int .i64 0, .int .i64 0, .slice none 0 0], .slice none 0 0], []⟩).memory :=
 laidMet_laidAll _ (by kernel_rfl) (by kernel_rfl)
theorem reads (os : Os) {H : Type} (enc : TypeId × Value → H) : ∃ places, DataW.whole enc Tryz.prog ((World.laidAll Tryz.prog os Rows.topSheetRow.laid).forCall (fun _ _ => 0) ⟨#[], #[.agg #[.int .i64 0, .int .i64 0, .int .i64 0, .int .i64 0, .int .i64 0, .int .i64 0, .slice none 0 0], .slice none 0 0], []⟩).memory Tryz.f4.params.toList Rows.topSheetSpec.vars false (#[.agg #[.int .i64 0, .int .i64 0, .int .i64 0, .int .i64 0, .int .i64 0, .int .i64 0, .slice none 0 0], .slice none 0 0] : Array Value).toList 24 = some ([.agg [.agg [.lit (.int .i64 0), .lit (.int .i64 0)], .agg [.lit (.int .i64 0), .lit (.int .i64 0)], .agg [.lit (.int .i64 0), .lit (.int .i64 0)], .nil], .nil], [], places) :=
 ⟨[], by kernel_rfl⟩

theorem params : ∀ t ∈ Tryz.f4.params.toList, FW Tryz.prog 12 t = true ∧ Tryz.prog.readableRec t = true ∧ t < Tryz.prog.types.size := by
 rw [Tryz.params4]
 intro t ht
 simp only [List.mem_cons, List.not_mem_nil, or_false] at ht
 rcases ht with rfl | rfl <;> exact ⟨by kernel_rfl, by kernel_rfl, of_decide_eq_true (by kernel_rfl)⟩

set_option maxRecDepth 100000 in
theorem lifted (os : Os) (started : os.Started) (H : Type) (enc : TypeId × Value → H) (F : Stop.Interp) :
 ReturnsInHanded {} Tryz.checked os 4 .any ((OpenSpec.ofChange Rows.topSheetSpec).preRow enc Tryz.prog Tryz.f4 Rows.topSheetRow.domain false Rows.topSheetRow.laid) (((OpenSpec.ofChange Rows.topSheetSpec).at F).post enc Tryz.prog Tryz.f4 false true false false) := by
 obtain ⟨places, hx⟩ := reads os enc
 refine returnsInHanded_of_row (C := Tryz.checked) (s := OpenSpec.ofChange Rows.topSheetSpec) hZ started (by kernel_rfl) Tryz.func4
  (Ic (enc := enc) (C := Tryz.checked) false (World.laidAll Tryz.prog os Rows.topSheetRow.laid) #[.agg #[.int .i64 0, .int .i64 0, .int .i64 0, .int .i64 0, .int .i64 0, .int .i64 0, .slice none 0 0], .slice none 0 0] (World.laidAll_os _ _ _) (World.shaped_of_ZipB (by kernel_rfl) (by kernel_rfl)) (by kernel_rfl)
   (OpenSpec.preRow_of_cond 24 hx (by kernel_rfl) (fun k hk => by cases hk) (by kernel_rfl) (laid_met os))) ?_
 intro W base args ds gs before hval hW _ _ hz hL hSh _
 refine eR (G := GP) (g := 12) UG params rfl Tryz.underlying4 rfl ?_ ?_ (fE hL hSh) hval hW ?_
 · intro ds hds
   rw [Tryz.params4] at hds
   match ds, hds with
   | [d0, d1], _ => exact ⟨rfl, rfl, rfl⟩
 · exact laws
 · obtain ⟨p, q, _, hV, _⟩ := hW
   obtain rfl : gs = [] := by cases gs with | nil => rfl | cons _ _ => simp [Rows.topSheetSpec, OpenSpec.ofChange, DataW.TrodVars] at hV
   simpa [Rows.topSheetSpec, OpenSpec.ofChange, OpenSpec.bare, ChangeSpec.plain, DataSpec.varTypes] using hz

theorem said : Rows.topSheetRow.holds Tryz.pinned (OpenSpec.ofChange Rows.topSheetSpec) :=
 OpenClaim.holds_of_cond 4 Tryz.f4 rfl rfl rfl rfl rfl rfl rfl ⟨rfl, rfl, rfl, rfl, rfl⟩ rfl rfl rfl rfl rfl (by as_aux_lemma => kernel_rfl) Tryz.func4 (by as_aux_lemma => kernel_rfl)
  (of_decide_eq_true (by as_aux_lemma => kernel_rfl)) (by as_aux_lemma => unfold Func.isWrapper; first | (rw [if_pos (by decide +kernel)]; kernel_rfl) | (rw [if_neg (by decide +kernel)]; exact ⟨rfl, rfl⟩))
  (fun os started H enc _ F => by rw [OpenClaim.pre_eq_preRow]; exact lifted os started H enc F)

theorem plain (f : FuncId) (fn : Func) (hf : Tryz.pinned.checked.prog.funcNamed "foretell/foretelltop.TopSheet" = some f) (hfn : Tryz.pinned.checked.prog.funcs[f]? = some fn) :
 true = Tryz.pinned.checked.prog.looks [] ∧ ∀ (j : Nat) t, fn.params[j]? = some t → Tryz.pinned.checked.prog.wantsStandIn t = false := by
 obtain rfl : f = 4 := Option.some.inj ((show Tryz.prog.funcNamed "foretell/foretelltop.TopSheet" = some 4 by kernel_rfl).symm.trans hf) |>.symm
 obtain rfl : fn = Tryz.f4 := (Option.some.inj (Tryz.func4.symm.trans hfn)).symm
 refine ⟨by kernel_rfl, fun j t ht => ?_⟩
 have hm : t ∈ Tryz.f4.params.toList := by simpa using Array.mem_of_getElem? ht
 rw [Tryz.params4] at hm
 simp only [List.mem_cons, List.not_mem_nil, or_false] at hm
 rcases hm with rfl | rfl <;> (show _ = false; kernel_rfl)

theorem card : Rows.TopSheetCardSaid :=
 Claim7.holds_tied_plain_at .later [] _ _ _ _ said (fun _ h => by cases h) (by as_aux_lemma => kernel_rfl) (fun _ h => by cases h) topSheet_row_tie rfl ⟨rfl, rfl⟩ (by as_aux_lemma => kernel_rfl) rfl plain (by as_aux_lemma => kernel_rfl)
end CardTopSheet
end Go.Proofs.YtajnpfgelpkijaaGreatDoor
