/- sheet.Read answers what P10.3 says, at every text, and changes nothing: for every input the law returns true. Conditions: the listed package-level variables hold what the program's text lays in them (the card ties this). -/
import Derived.Test.YtajnpfgelpkijaaGreatDoorZ24
import Derived.Test.YtajnpfgelpkijaaGreatDoorZ26
import Derived.Test.YtajnpfgelpkijaaGreatDoorZ27
import Derived.Test.YtajnpfgelpkijaaGreatDoorZ28
namespace Go.Proofs.YtajnpfgelpkijaaGreatDoor
open Go Go.Av Go.Sp
set_option linter.unusedVariables false
set_option linter.unusedSimpArgs false
set_option maxRecDepth 100000
set_option maxHeartbeats 4000000

theorem law_read (s : List UInt8) : ACr Tryz.prog GP 3 [.val (.string (tx s))] (.bool true) := by
 have e1 := Read s
 rw [prog_read atoi_num] at e1
 have e2 := TaskRead s
 generalize (readF 1 3 (tx s)).1 = t at e1 e2
 generalize (readF 1 3 (tx s)).2 = e at e1 e2
 refine AC_ofV (ts := [2]) Tryz.f3.ntmps Tryz.func3 rfl rfl rfl (by simp [Tryz.ntmps3]) fun W I => ?_
 repeat' (first
  | refine ca cal_Read (e1) ?_
  | refine ca cal_TaskRead (e2) ?_
  | refine ca cal_sameTask (sameTask _ _) ?_
  | exact True.intro | refine stpH ?_ | refine two ?_ ?_ | refine allc fun c_ => ?_
  | (refine imp fun hc => ?_) <;> try exact cx1 hc
  | refine all fun v_ => ?_)
 all_goals
  refine retv (VS.drop (List.nil_sublist _)) ?_
  ((with_reducible apply rq1); rfl; rfl)
  exact ret_eq (by simp_all)
theorem law_SheetReads (s : ByteArray) : ACr Tryz.prog GP 3 [.val (.string s)] (.bool true) := by
 have h := law_read s.data.toList
 rw [tx_list] at h
 exact h
theorem conf_txt {g : Nat} {xs : List D} (h : Conf Tryz.prog (g + 1) 9 xs) : ∃ s, xs = [.s s] := by obtain ⟨s, h, _⟩ := conf_string_of Tryz.underlying9 h; exact ⟨s, h⟩
namespace CardSheetReads
set_option linter.unusedVariables false
set_option linter.unusedSimpArgs false
theorem laws : ∀ xss : List (List D), xss.length = Tryz.f3.params.toList.length → (∀ (j : Nat) t xs, Tryz.f3.params.toList[j]? = some t → xss[j]? = some xs → Conf Tryz.prog 12 t xs) → ACr Tryz.prog GP 3 ((Tryz.f3.params.toList.zip xss).map fun p => argAV (isStructB Tryz.prog p.1) p.2) (.bool true) := by
 rw [Tryz.params3]
 intro xss hl hc
 match xss, hl with
 | [x0], _ =>
   (obtain ⟨s, rfl⟩ := conf_txt (hc 0 _ x0 rfl rfl))
   exact law_SheetReads s
end CardSheetReads
namespace CardSheetReads
open Go.ChangeShapes Go.WideShapes Go.ChangeAt Go.RowKit
set_option linter.unusedVariables false
set_option linter.unusedSimpArgs false
theorem laid_met (os : Os) : laidMet Tryz.prog Rows.sheetReadsRow.laid ((World.laidAll Tryz.prog os Rows.sheetReadsRow.laid).forCall (fun _ _ => 0) ⟨#[], #[.string ⟨#[]⟩], []⟩).memory :=
 laidMet_laidAll _ (by kernel_rfl) (by kernel_rfl)
theorem reads (os : Os) {H : Type} (enc : TypeId × Value → H) : ∃ places, DataW.whole enc Tryz.prog ((World.laidAll Tryz.prog os Rows.sheetReadsRow.laid).forCall (fun _ _ => 0) ⟨#[], #[.string ⟨#[]⟩], []⟩).memory Tryz.f3.params.toList Rows.sheetReadsSpec.vars false (#[.string ⟨#[]⟩] : Array Value).toList 24 = some ([.lit (.string [])], [], places) :=
 ⟨[], by kernel_rfl⟩

theorem params : ∀ t ∈ Tryz.f3.params.toList, plainB Tryz.prog 12 t = true ∧ Tryz.prog.readableRec t = true ∧ t < Tryz.prog.types.size := by
 rw [Tryz.params3]
 intro t ht
 simp only [List.mem_cons, List.not_mem_nil, or_false] at ht
 rcases ht with rfl <;> exact ⟨by kernel_rfl, by kernel_rfl, of_decide_eq_true (by kernel_rfl)⟩

set_option maxRecDepth 100000 in
theorem lifted (os : Os) (started : os.Started) (H : Type) (enc : TypeId × Value → H) (F : Stop.Interp) :
 ReturnsInHanded {} Tryz.checked os 3 .any ((OpenSpec.ofChange Rows.sheetReadsSpec).preRow enc Tryz.prog Tryz.f3 Rows.sheetReadsRow.domain false Rows.sheetReadsRow.laid) (((OpenSpec.ofChange Rows.sheetReadsSpec).at F).post enc Tryz.prog Tryz.f3 false true false false) := by
 obtain ⟨places, hx⟩ := reads os enc
 refine returnsInHanded_of_row (C := Tryz.checked) (s := OpenSpec.ofChange Rows.sheetReadsSpec) ownKn started (by kernel_rfl) Tryz.func3
  (witness_row_shaped (enc := enc) (C := Tryz.checked) false (World.laidAll Tryz.prog os Rows.sheetReadsRow.laid) #[.string ⟨#[]⟩] (World.laidAll_os _ _ _) (World.shaped_of_ZipB (by kernel_rfl) (by kernel_rfl)) (by kernel_rfl)
   (OpenSpec.preRow_of_cond 24 hx (by kernel_rfl) (fun k hk => by cases hk) (by kernel_rfl) (laid_met os))) ?_
 intro W base args ds gs before hval hW _ _ hz hL hSh _
 refine law_of (G := GP) (g := 12) laidOutAll params rfl Tryz.underlying4 rfl ?_ ?_ (globPD hL hSh) hval hW ?_
 · intro ds hds
   rw [Tryz.params3] at hds
   match ds, hds with
   | [d0], _ => exact ⟨rfl, rfl, rfl⟩
 · exact laws
 · obtain ⟨p, q, _, hV, _⟩ := hW
   obtain rfl : gs = [] := by cases gs with | nil => rfl | cons _ _ => simp [Rows.sheetReadsSpec, OpenSpec.ofChange, DataW.TrodVars] at hV
   simpa [Rows.sheetReadsSpec, OpenSpec.ofChange, OpenSpec.bare, ChangeSpec.plain, DataSpec.varTypes] using hz

theorem said : Rows.sheetReadsRow.holds Tryz.pinned (OpenSpec.ofChange Rows.sheetReadsSpec) :=
 OpenClaim.holds_of_cond 3 Tryz.f3 rfl rfl rfl rfl rfl rfl rfl ⟨rfl, rfl, rfl, rfl, rfl⟩ rfl rfl rfl rfl rfl (by as_aux_lemma => kernel_rfl) Tryz.func3 (by as_aux_lemma => kernel_rfl)
  (of_decide_eq_true (by as_aux_lemma => kernel_rfl)) (by as_aux_lemma => unfold Func.isWrapper; first | (rw [if_pos (by decide +kernel)]; kernel_rfl) | (rw [if_neg (by decide +kernel)]; exact ⟨rfl, rfl⟩))
  (fun os started H enc _ F => by rw [OpenClaim.pre_eq_preRow]; exact lifted os started H enc F)

theorem plain (f : FuncId) (fn : Func) (hf : Tryz.pinned.checked.prog.funcNamed "foretell/foretelllaw.SheetReads" = some f) (hfn : Tryz.pinned.checked.prog.funcs[f]? = some fn) :
 true = Tryz.pinned.checked.prog.looks [] ∧ ∀ (j : Nat) t, fn.params[j]? = some t → Tryz.pinned.checked.prog.wantsStandIn t = false := by
 obtain rfl : f = 3 := Option.some.inj ((show Tryz.prog.funcNamed "foretell/foretelllaw.SheetReads" = some 3 by kernel_rfl).symm.trans hf) |>.symm
 obtain rfl : fn = Tryz.f3 := (Option.some.inj (Tryz.func3.symm.trans hfn)).symm
 refine ⟨by kernel_rfl, fun j t ht => ?_⟩
 have hm : t ∈ Tryz.f3.params.toList := by simpa using Array.mem_of_getElem? ht
 rw [Tryz.params3] at hm
 simp only [List.mem_cons, List.not_mem_nil, or_false] at hm
 rcases hm with rfl <;> (show _ = false; kernel_rfl)

theorem card : Rows.SheetReadsCardSaid :=
 Claim7.holds_tied_plain_at .later [] _ _ _ _ said (fun _ h => by cases h) (by as_aux_lemma => kernel_rfl) (fun _ h => by cases h) sheetReads_row_tie rfl ⟨rfl, rfl⟩ (by as_aux_lemma => kernel_rfl) rfl plain (by as_aux_lemma => kernel_rfl)
end CardSheetReads
end Go.Proofs.YtajnpfgelpkijaaGreatDoor
