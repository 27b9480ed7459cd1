/- store.Add answers what P12.3 says, at every argument, and changes none of them: for every input the law returns true. Conditions: none. -/
import Derived.Test.YtnlfhnbcdfdhgaaO8
import Derived.Test.YtnlfhnbcdfdhgaaO10
import Derived.Test.YtnlfhnbcdfdhgaaO11
namespace Go.Proofs.Ytnlfhnbcdfdhgaa
open Go Go.Av Go.Sp
set_option linter.unusedVariables false
set_option linter.unusedSimpArgs false
set_option maxRecDepth 100000
set_option maxHeartbeats 4000000

theorem law_StoreAdds (s : Sto) (n : Int) : ACr Try.prog GP 3 [stA s, .int n] (.bool true) := by
 refine AC_ofV (ts := [4]) Try.f3.ntmps Try.func3 rfl rfl rfl (by simp [Try.ntmps3]) fun W I => ?_
 all_goals haveI fA_ : FlagA := ⟨⟩
 all_goals haveI fH_ : FlagH := ⟨⟩
 repeat' (first
  | refine ca cal_stores (stores _ _) ?_
  | refine ca cal_SAdd (SAdd _ _ _) ?_
  | refine ca cal_KeyAdded (KeyAdded _ _ _) ?_
  | refine ca cal_sameStore (sameStore _ _) ?_
  | refine caq cal_sameStore (sameStore _ _) ?_
  | exact True.intro
  | refine stp ?_
  | refine two ?_ ?_
  | refine allc fun c_ => ?_
  | (refine imp fun hc => ?_) <;> try exact cx1 hc
  | refine all fun v_ => ?_)
 all_goals clear fA_ fH_
 all_goals
  refine retv (VS.drop (List.nil_sublist _)) ?_
  ((with_reducible apply rq1); rfl; rfl)
  exact ret_eq (by simp_all)
namespace PlainStoreAdds
set_option linter.unusedVariables false
set_option linter.unusedSimpArgs false
theorem laws : ∀ xss : List (List D), xss.length = Try.f3.params.toList.length → (∀ (j : Nat) t xs, Try.f3.params.toList[j]? = some t → xss[j]? = some xs → Conf Try.prog 12 t xs) → ACr Try.prog GP 3 ((Try.f3.params.toList.zip xss).map fun p => argAV (isStructB Try.prog p.1) p.2) (.bool true) := by
 rw [Try.params3]
 intro xss hl hc
 match xss, hl with
 | [x0, x1], _ =>
   (obtain ⟨s, rfl⟩ := conf_Store (hc 0 _ x0 rfl rfl)); (obtain ⟨n, rfl⟩ := conf_int (hc 1 _ x1 rfl rfl))
   exact law_StoreAdds s n
end PlainStoreAdds
namespace PlainStoreAdds
open Go.ChangeShapes Go.WideShapes Go.ChangeAt Go.RowKit
set_option linter.unusedVariables false
set_option linter.unusedSimpArgs false
theorem laid_met (os : Os) : laidMet Try.prog Rows.storeAddsRow.laid ((laidWorld os).forCall (fun _ _ => 0) ⟨#[], #[.agg #[.slice none 0 0, .slice none 0 0], .int .i64 0], []⟩).memory :=
 laidMet_of_run' 24 (by kernel_rfl) (by kernel_rfl)
theorem reads (os : Os) {H : Type} (enc : TypeId × Value → H) : ∃ places, DataW.whole enc Try.prog ((laidWorld os).forCall (fun _ _ => 0) ⟨#[], #[.agg #[.slice none 0 0, .slice none 0 0], .int .i64 0], []⟩).memory Try.f3.params.toList Rows.storeAddsSpec.vars false (#[.agg #[.slice none 0 0, .slice none 0 0], .int .i64 0] : Array Value).toList 24 = some ([.agg [.nil, .nil], .lit (.int .i64 0)], [], places) :=
 ⟨[], by kernel_rfl⟩

theorem params : ∀ t ∈ Try.f3.params.toList, plainB Try.prog 12 t = true ∧ Try.prog.readableRec t = true ∧ t < Try.prog.types.size := by
 rw [Try.params3]
 intro t ht
 simp only [List.mem_cons, List.not_mem_nil, or_false] at ht
 rcases ht with rfl | rfl <;> exact ⟨by kernel_rfl, by kernel_rfl, of_decide_eq_true (by kernel_rfl)⟩

set_option maxRecDepth 100000 in
theorem lifted (os : Os) (started : os.Started) (H : Type) (enc : TypeId × Value → H) (F : Stop.Interp) :
 ReturnsInHanded {} Try.checked os 3 .any ((OpenSpec.ofChange Rows.storeAddsSpec).preRow enc Try.prog Try.f3 Rows.storeAddsRow.domain false Rows.storeAddsRow.laid) (((OpenSpec.ofChange Rows.storeAddsSpec).at F).post enc Try.prog Try.f3 false true false false) := by
 obtain ⟨places, hx⟩ := reads os enc
 refine returnsInHanded_of_row (C := Try.checked) (s := OpenSpec.ofChange Rows.storeAddsSpec) ownKn started (by kernel_rfl) Try.func3
  (witness_row_at (enc := enc) (C := Try.checked) false (laidWorld os) #[.agg #[.slice none 0 0, .slice none 0 0], .int .i64 0] rfl (by kernel_rfl) (by kernel_rfl) (by kernel_rfl)
   (OpenSpec.preRow_of_cond 24 hx (by kernel_rfl) (fun k hk => by cases hk) (by kernel_rfl) (laid_met os))) ?_
 intro W base args ds gs before hval hW _ _ hz hL _ _
 refine law_of (G := GP) (g := 12) laidOutAll params rfl Try.underlying4 rfl ?_ ?_ (fun q hq => by cases hq) hval hW ?_
 · intro ds hds
   rw [Try.params3] at hds
   match ds, hds with
   | [d0, d1], _ => exact ⟨rfl, rfl, rfl⟩
 · exact laws
 · obtain ⟨p, q, _, hV, _⟩ := hW
   obtain rfl : gs = [] := by cases gs with | nil => rfl | cons _ _ => simp [Rows.storeAddsSpec, OpenSpec.ofChange, DataW.TrodVars] at hV
   simpa [Rows.storeAddsSpec, OpenSpec.ofChange, OpenSpec.bare, ChangeSpec.plain, DataSpec.varTypes] using hz

theorem said : Rows.storeAddsRow.holds Try.pinned (OpenSpec.ofChange Rows.storeAddsSpec) :=
 OpenClaim.holds_of_cond 3 Try.f3 rfl rfl rfl rfl rfl rfl rfl ⟨rfl, rfl, rfl, rfl, rfl⟩ rfl rfl rfl rfl rfl (by as_aux_lemma => kernel_rfl) Try.func3 (by as_aux_lemma => kernel_rfl)
  (of_decide_eq_true (by as_aux_lemma => kernel_rfl)) (by as_aux_lemma => unfold Func.isWrapper; first | (rw [if_pos (by decide +kernel)]; kernel_rfl) | (rw [if_neg (by decide +kernel)]; exact ⟨rfl, rfl⟩))
  (fun os started H enc _ F => by rw [OpenClaim.pre_eq_preRow]; exact lifted os started H enc F)

theorem card : Rows.StoreAddsSaid := said
end PlainStoreAdds
end Go.Proofs.Ytnlfhnbcdfdhgaa
