/- search.Check answers what P13.1 says, at every argument: for every input the law returns true. Conditions: none. -/
import Derived.Test.YtffdlpjbbkhcnaaU1
import Derived.Test.YtffdlpjbbkhcnaaTopP
namespace Go.Proofs.Ytffdlpjbbkhcnaa
open Go Go.Av Go.Sp
set_option maxRecDepth 100000

theorem law_SearchChecks (l : List Fo) : ACr Try.prog GP 9 [.d (opsD l)] (.bool true) := by
  refine AC_of (ts := [2]) Try.f9.ntmps Try.func9 rfl rfl rfl (by simp [Try.ntmps9]) fun W I => ?_
  refine jfact (t := 0) rfl fun hl0 => ?_
  repeat' (first
    | ((with_reducible apply call0); (focus rfl); (focus exact cal_moves); (focus exact moves _ _ (by omega)); (focus rfl))
    | ((with_reducible apply call0); (focus rfl); (focus exact cal_MCheck); (focus exact MCheck _ _); (focus rfl))
    | ((with_reducible apply call0); (focus rfl); (focus exact cal_MovesFault); (focus exact MovesFault _ _); (focus rfl))
    | refine stp ?_
    | refine two ?_ ?_
    | (refine imp fun hc => ?_) <;> try (first | contradiction | (exfalso; omega))
    | refine all fun v_ => ?_)
  ((with_reducible apply rq1); rfl; rfl)
  exact ret_eq (by simp)
namespace PlainSearchChecks
theorem laws : ∀ xss : List (List D), xss.length = Try.f9.params.toList.length → (∀ (j : Nat) t xs, Try.f9.params.toList[j]? = some t → xss[j]? = some xs → Conf Try.prog 12 t xs) → ACr Try.prog GP 9 ((Try.f9.params.toList.zip xss).map fun p => argAV (isStructB Try.prog p.1) p.2) (.bool true) := by
  rw [Try.params9]
  intro xss hl hc
  match xss, hl with
  | [x0], _ =>
    (obtain ⟨l, rfl, _⟩ := conf_moves (hc 0 _ x0 rfl rfl))
    exact law_SearchChecks l
end PlainSearchChecks
namespace PlainSearchChecks
open Go.ChangeShapes Go.WideShapes Go.ChangeAt Go.RowKit
theorem laid_met (os : Os) : laidMet Try.prog Rows.searchChecksRow.laid ((laidWorld os).forCall (fun _ _ => 0) ⟨#[], #[.slice none 0 0], []⟩).memory :=
  laidMet_of_run' 24 (by kernel_rfl) (by kernel_rfl)
theorem reads (os : Os) {H : Type} (enc : TypeId × Value → H) : ∃ places, DataW.whole enc Try.prog ((laidWorld os).forCall (fun _ _ => 0) ⟨#[], #[.slice none 0 0], []⟩).memory Try.f9.params.toList Rows.searchChecksSpec.vars false (#[.slice none 0 0] : Array Value).toList 24 = some ([.nil], [], places) :=
  ⟨[], by kernel_rfl⟩

theorem params : ∀ t ∈ Try.f9.params.toList, plainB Try.prog 12 t = true ∧ Try.prog.readableRec t = true ∧ t < Try.prog.types.size := by
  rw [Try.params9]
  intro t ht
  simp only [List.mem_cons, List.not_mem_nil, or_false] at ht
  rcases ht with rfl <;> exact ⟨by kernel_rfl, by kernel_rfl, of_decide_eq_true (by kernel_rfl)⟩

set_option maxRecDepth 100000 in
theorem lifted (os : Os) (started : os.Started) (H : Type) (enc : TypeId × Value → H) (F : Stop.Interp) :
    ReturnsInHanded {} Try.checked os 9 .any ((OpenSpec.ofChange Rows.searchChecksSpec).preRow enc Try.prog Try.f9 Rows.searchChecksRow.domain false Rows.searchChecksRow.laid) (((OpenSpec.ofChange Rows.searchChecksSpec).at F).post enc Try.prog Try.f9 false true false false) := by
  obtain ⟨places, hx⟩ := reads os enc
  refine returnsInHanded_of_row (C := Try.checked) (s := OpenSpec.ofChange Rows.searchChecksSpec) own started (by kernel_rfl) Try.func9
    (witness_row_at (enc := enc) (C := Try.checked) false (laidWorld os) #[.slice none 0 0] rfl (by kernel_rfl) (by kernel_rfl) (by kernel_rfl)
      (OpenSpec.preRow_of_cond 24 hx (by kernel_rfl) (fun k hk => by cases hk) (by kernel_rfl) (laid_met os))) ?_
  intro W base args ds gs before hval hW _ _ hz hL _ _
  refine law_of (G := GP) (g := 12) laidOutAll params rfl Try.underlying4 rfl ?_ ?_ (fun q hq => by cases hq) hval hW ?_
  · intro ds hds
    rw [Try.params9] at hds
    match ds, hds with
    | [d0], _ => exact ⟨rfl, rfl, rfl⟩
  · exact laws
  · obtain ⟨p, q, _, hV, _⟩ := hW
    obtain rfl : gs = [] := by cases gs with | nil => rfl | cons _ _ => simp [Rows.searchChecksSpec, OpenSpec.ofChange, DataW.TrodVars] at hV
    simpa [Rows.searchChecksSpec, OpenSpec.ofChange, OpenSpec.bare, ChangeSpec.plain, DataSpec.varTypes] using hz

theorem said : Rows.searchChecksRow.holds Try.pinned (OpenSpec.ofChange Rows.searchChecksSpec) :=
  OpenClaim.holds_of_cond 9 Try.f9 rfl rfl rfl rfl rfl rfl rfl ⟨rfl, rfl, rfl, rfl, rfl⟩ rfl rfl rfl rfl rfl (by kernel_rfl) Try.func9 (by kernel_rfl)
    (of_decide_eq_true (by kernel_rfl)) (by unfold Func.isWrapper; first | (rw [if_pos (by decide +kernel)]; kernel_rfl) | (rw [if_neg (by decide +kernel)]; exact ⟨rfl, rfl⟩))
    (fun os started H enc _ F => by rw [OpenClaim.pre_eq_preRow]; exact lifted os started H enc F)

theorem card : Rows.SearchChecksSaid := said
end PlainSearchChecks
end Go.Proofs.Ytffdlpjbbkhcnaa
