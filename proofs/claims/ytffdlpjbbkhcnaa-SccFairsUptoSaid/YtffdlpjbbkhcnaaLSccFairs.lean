/- scc.Fair answers what P8.4 says, at every argument of bulk at most 1048576: for every such input the law returns true. Conditions: none. -/
import Derived.Test.YtffdlpjbbkhcnaaW3
import Derived.Test.YtffdlpjbbkhcnaaLSccParts
namespace Go.Proofs.Ytffdlpjbbkhcnaa
open Go Go.Av Go.Sp
set_option linter.unusedVariables false
set_option linter.unusedSimpArgs false
set_option maxRecDepth 100000
set_option maxHeartbeats 4000000

theorem law_SccFairs (g : Gr) (hw : ∀ g' : Gn, g'.gr = g → g'.ways g'.next.length ≤ 1048576) : ACr Try.prog GP 13 [grA g] (.bool true) := by
  refine AC_ofV (ts := [2]) Try.f13.ntmps Try.func13 rfl rfl rfl (by simp [Try.ntmps13]) fun W I => ?_
  repeat' (first
    | ((with_reducible apply call0); (focus rfl); (focus exact cal_graphs); (focus exact graphs _ _); (focus rfl))
    | ((with_reducible apply je_call0); (focus rfl); (focus (decide +kernel)); (focus rfl); (focus exact cal_graphs); (focus exact graphs _ _); (focus rfl))
    | ((with_reducible apply call0); (focus rfl); (focus exact cal_SFair); (focus exact SFair _ _); (focus rfl))
    | ((with_reducible apply je_call0); (focus rfl); (focus (decide +kernel)); (focus rfl); (focus exact cal_SFair); (focus exact SFair _ _); (focus rfl))
    | ((with_reducible apply call0); (focus rfl); (focus exact cal_FairOf); (focus exact FairOf _ _ hw); (focus rfl))
    | ((with_reducible apply je_call0); (focus rfl); (focus (decide +kernel)); (focus rfl); (focus exact cal_FairOf); (focus exact FairOf _ _ hw); (focus rfl))
    | exact True.intro
    | refine stph ?_
    | refine two ?_ ?_
    | refine allc fun c_ => ?_
    | (refine imp fun hc => ?_) <;> try (first | contradiction | (exfalso; omega))
    | refine all fun v_ => ?_)
  all_goals
    refine retv (VS.drop (List.nil_sublist _)) ?_
    ((with_reducible apply rq1); rfl; rfl)
    exact ret_eq (by simp_all)
namespace PlainSccFairs
set_option linter.unusedVariables false
set_option linter.unusedSimpArgs false
theorem laws : ∀ xss : List (List D), xss.length = Try.f13.params.toList.length → (∀ (j : Nat) t xs, Try.f13.params.toList[j]? = some t → xss[j]? = some xs → Conf Try.prog 12 t xs) → bulkR xss ≤ 1048576 → ACr Try.prog GP 13 ((Try.f13.params.toList.zip xss).map fun p => argAV (isStructB Try.prog p.1) p.2) (.bool true) := by
  rw [Try.params13]
  intro xss hl hc hb
  match xss, hl with
  | [x0], _ =>
    simp only [bulkR, Nat.add_zero] at hb
    (obtain ⟨g, rfl⟩ := conf_Graph (hc 0 _ x0 rfl rfl))
    exact law_SccFairs g (ways_bulk hb)
end PlainSccFairs
namespace PlainSccFairs
open Go.ChangeShapes Go.WideShapes Go.ChangeAt Go.RowKit
set_option linter.unusedVariables false
set_option linter.unusedSimpArgs false
theorem laid_met (os : Os) : laidMet Try.prog Rows.sccFairsUptoRow.laid ((laidWorld os).forCall (fun _ _ => 0) ⟨#[], #[.agg #[.slice none 0 0, .int .i64 0, .slice none 0 0, .slice none 0 0, .int .i64 0]], []⟩).memory :=
  laidMet_of_run' 24 (by kernel_rfl) (by kernel_rfl)
theorem reads (os : Os) {H : Type} (enc : TypeId × Value → H) : ∃ places, DataW.whole enc Try.prog ((laidWorld os).forCall (fun _ _ => 0) ⟨#[], #[.agg #[.slice none 0 0, .int .i64 0, .slice none 0 0, .slice none 0 0, .int .i64 0]], []⟩).memory Try.f13.params.toList Rows.sccFairsSpec.vars false (#[.agg #[.slice none 0 0, .int .i64 0, .slice none 0 0, .slice none 0 0, .int .i64 0]] : Array Value).toList 24 = some ([.agg [.nil, .lit (.int .i64 0), .nil, .nil, .lit (.int .i64 0)]], [], places) :=
  ⟨[], by kernel_rfl⟩

theorem params : ∀ t ∈ Try.f13.params.toList, plainB Try.prog 12 t = true ∧ Try.prog.readableRec t = true ∧ t < Try.prog.types.size := by
  rw [Try.params13]
  intro t ht
  simp only [List.mem_cons, List.not_mem_nil, or_false] at ht
  rcases ht with rfl <;> exact ⟨by kernel_rfl, by kernel_rfl, of_decide_eq_true (by kernel_rfl)⟩

set_option maxRecDepth 100000 in
theorem lifted (os : Os) (started : os.Started) (H : Type) (enc : TypeId × Value → H) (F : Stop.Interp) :
    ReturnsInHanded {} Try.checked os 13 .any ((Rows.OpenSpec.upto Rows.sccFairsSpec).preRow enc Try.prog Try.f13 Rows.sccFairsUptoRow.domain false Rows.sccFairsUptoRow.laid) (((Rows.OpenSpec.upto Rows.sccFairsSpec).at F).post enc Try.prog Try.f13 false true false false) := by
  obtain ⟨places, hx⟩ := reads os enc
  refine returnsInHanded_of_row (C := Try.checked) (s := Rows.OpenSpec.upto Rows.sccFairsSpec) own started (by kernel_rfl) Try.func13
    (witness_row_at (enc := enc) (C := Try.checked) false (laidWorld os) #[.agg #[.slice none 0 0, .int .i64 0, .slice none 0 0, .slice none 0 0, .int .i64 0]] rfl (by kernel_rfl) (by kernel_rfl) (by kernel_rfl)
      (OpenSpec.preRow_of_cond 24 hx (by kernel_rfl) (fun k hk => by cases hk; kernel_rfl) (by kernel_rfl) (laid_met os))) ?_
  intro W base args ds gs before hval hW _ hk hz hL _ _
  refine law_ofB (G := GP) (g := 12) laidOutAll params rfl Try.underlying4 rfl ?_ Rows.uptoBulk ?_ (fun q hq => by cases hq) hval hW ?_
  · intro ds hds
    rw [Try.params13] at hds
    match ds, hds with
    | [d0], _ => exact ⟨rfl, rfl, rfl⟩
  · obtain ⟨p, q, _, hV, _⟩ := hW
    obtain rfl : gs = [] := by cases gs with | nil => rfl | cons _ _ => simp [Rows.sccFairsSpec, Rows.OpenSpec.upto, OpenSpec.ofChange, DataW.TrodVars] at hV
    have hu := hk _ rfl
    rw [List.append_nil] at hu
    intro xss x1 x2 x3
    exact laws xss x1 x2 (Nat.le_trans (x3 bulkOk) (by rw [← bulkAll_sum]; exact of_decide_eq_true hu))
  · obtain ⟨p, q, _, hV, _⟩ := hW
    obtain rfl : gs = [] := by cases gs with | nil => rfl | cons _ _ => simp [Rows.sccFairsSpec, Rows.OpenSpec.upto, OpenSpec.ofChange, DataW.TrodVars] at hV
    simpa [Rows.sccFairsSpec, Rows.OpenSpec.upto, OpenSpec.ofChange, OpenSpec.bare, ChangeSpec.plain, DataSpec.varTypes] using hz

theorem said : Rows.sccFairsUptoRow.holds Try.pinned (Rows.OpenSpec.upto Rows.sccFairsSpec) :=
  OpenClaim.holds_of_cond 13 Try.f13 rfl rfl rfl rfl rfl rfl rfl ⟨rfl, rfl, rfl, rfl, rfl⟩ rfl rfl rfl rfl rfl (by kernel_rfl) Try.func13 (by kernel_rfl)
    (of_decide_eq_true (by kernel_rfl)) (by unfold Func.isWrapper; first | (rw [if_pos (by decide +kernel)]; kernel_rfl) | (rw [if_neg (by decide +kernel)]; exact ⟨rfl, rfl⟩))
    (fun os started H enc _ F => by rw [OpenClaim.pre_eq_preRow]; exact lifted os started H enc F)

theorem card : Rows.SccFairsUptoSaid := said
end PlainSccFairs
end Go.Proofs.Ytffdlpjbbkhcnaa
