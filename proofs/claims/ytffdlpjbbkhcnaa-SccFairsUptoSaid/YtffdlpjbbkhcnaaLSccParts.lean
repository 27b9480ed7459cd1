/- scc.Parts answers what P8.2 says and changes none of its arguments, at every argument of bulk at most 1048576: for every such input the law returns true. Conditions: none. -/
import Derived.Test.YtffdlpjbbkhcnaaV8
import Derived.Test.YtffdlpjbbkhcnaaV9
import Derived.Test.YtffdlpjbbkhcnaaTopU
import Derived.Test.YtffdlpjbbkhcnaaCg
namespace Go.Sp
open Go Go.Av
set_option linter.unusedVariables false
set_option linter.unusedSimpArgs false
theorem bulk_row1 : ∀ l : List Int, bulkR (l.map intC) = l.length
  | [] => rfl
  | x :: l => by simp only [List.map_cons, bulkR, bulk_row1 l, intC, bulkS, D.bulk, List.length_cons]; omega
theorem bulk_lists : ∀ l : List (List Int), (l.map List.length).sum ≤ bulkR (l.map listC)
  | [] => by simp
  | x :: l => by
    have := bulk_lists l
    simp only [List.map_cons, List.sum_cons, bulkR, listC, bulkS, D.bulk, bulk_row1]
    omega
theorem ways_bulk {g : Gr} {n : Nat} (h : bulkS g.cells ≤ n) : ∀ g' : Gn, g'.gr = g → g'.ways g'.next.length ≤ n := fun g' e => by
  subst e
  have h1 := bulk_lists (g'.next.map (·.map fun k : Nat => (k : Int)))
  have h2 : g'.ways g'.next.length = ((g'.next.map (·.map fun k : Nat => (k : Int))).map List.length).sum := by
    unfold Gn.ways
    rw [List.take_length, List.map_map]
    congr 1
    apply List.map_congr_left
    intro l _
    simp
  rw [h2]
  simp only [Gr.cells, Gn.gr, bulkS, D.bulk] at h
  omega
end Go.Sp
namespace Go.Proofs.Ytffdlpjbbkhcnaa
open Go Go.Av Go.Sp
set_option linter.unusedVariables false
set_option linter.unusedSimpArgs false
set_option maxRecDepth 100000
set_option maxHeartbeats 4000000

theorem law_SccParts (g : Gr) (hw : ∀ g' : Gn, g'.gr = g → g'.ways g'.next.length ≤ 1048576) : ACr Try.prog GP 12 [grA g] (.bool true) := by
  refine AC_ofV (ts := [2]) Try.f12.ntmps Try.func12 rfl rfl rfl (by simp [Try.ntmps12]) fun W I => ?_
  repeat' (first
    | ((with_reducible apply call0); (focus rfl); (focus exact cal_graphs); (focus exact graphs _ _); (focus rfl))
    | ((with_reducible apply je_call0); (focus rfl); (focus (decide +kernel)); (focus rfl); (focus exact cal_graphs); (focus exact graphs _ _); (focus rfl))
    | ((with_reducible apply call0); (focus rfl); (focus exact cal_SParts); (focus exact SParts _ _); (focus rfl))
    | ((with_reducible apply je_call0); (focus rfl); (focus (decide +kernel)); (focus rfl); (focus exact cal_SParts); (focus exact SParts _ _); (focus rfl))
    | ((with_reducible apply call0); (focus rfl); (focus exact cal_PartsOfGraph); (focus exact PartsOfGraph _ _ hw); (focus rfl))
    | ((with_reducible apply je_call0); (focus rfl); (focus (decide +kernel)); (focus rfl); (focus exact cal_PartsOfGraph); (focus exact PartsOfGraph _ _ hw); (focus rfl))
    | ((with_reducible apply call0); (focus rfl); (focus exact cal_sameInts); (focus exact sameInts _ _ _); (focus rfl))
    | ((with_reducible apply je_call0); (focus rfl); (focus (decide +kernel)); (focus rfl); (focus exact cal_sameInts); (focus exact sameInts _ _ _); (focus rfl))
    | ((with_reducible apply qcall); (focus rfl); (focus exact cal_sameInts); (focus exact sameInts _ _ _); (focus rfl))
    | ((with_reducible apply call0); (focus rfl); (focus exact cal_sameGraph); (focus exact sameGraph _ _); (focus rfl))
    | ((with_reducible apply je_call0); (focus rfl); (focus (decide +kernel)); (focus rfl); (focus exact cal_sameGraph); (focus exact sameGraph _ _); (focus rfl))
    | ((with_reducible apply qcall); (focus rfl); (focus exact cal_sameGraph); (focus exact sameGraph _ _); (focus rfl))
    | exact True.intro
    | refine stph ?_
    | refine two ?_ ?_
    | refine allc fun c_ => ?_
    | (refine imp fun hc => ?_) <;> try (first | contradiction | (exfalso; omega))
    | refine all fun v_ => ?_)
  all_goals
    refine retv (VS.drop (List.nil_sublist _)) ?_
    ((with_reducible apply rq1); rfl; rfl)
    exact ret_eq (by simp_all)
namespace PlainSccParts
set_option linter.unusedVariables false
set_option linter.unusedSimpArgs false
theorem laws : ∀ xss : List (List D), xss.length = Try.f12.params.toList.length → (∀ (j : Nat) t xs, Try.f12.params.toList[j]? = some t → xss[j]? = some xs → Conf Try.prog 12 t xs) → bulkR xss ≤ 1048576 → ACr Try.prog GP 12 ((Try.f12.params.toList.zip xss).map fun p => argAV (isStructB Try.prog p.1) p.2) (.bool true) := by
  rw [Try.params12]
  intro xss hl hc hb
  match xss, hl with
  | [x0], _ =>
    simp only [bulkR, Nat.add_zero] at hb
    (obtain ⟨g, rfl⟩ := conf_Graph (hc 0 _ x0 rfl rfl))
    exact law_SccParts g (ways_bulk hb)
end PlainSccParts
namespace PlainSccParts
open Go.ChangeShapes Go.WideShapes Go.ChangeAt Go.RowKit
set_option linter.unusedVariables false
set_option linter.unusedSimpArgs false
theorem laid_met (os : Os) : laidMet Try.prog Rows.sccPartsUptoRow.laid ((laidWorld os).forCall (fun _ _ => 0) ⟨#[], #[.agg #[.slice none 0 0, .int .i64 0, .slice none 0 0, .slice none 0 0, .int .i64 0]], []⟩).memory :=
  laidMet_of_run' 24 (by kernel_rfl) (by kernel_rfl)
theorem reads (os : Os) {H : Type} (enc : TypeId × Value → H) : ∃ places, DataW.whole enc Try.prog ((laidWorld os).forCall (fun _ _ => 0) ⟨#[], #[.agg #[.slice none 0 0, .int .i64 0, .slice none 0 0, .slice none 0 0, .int .i64 0]], []⟩).memory Try.f12.params.toList Rows.sccPartsSpec.vars false (#[.agg #[.slice none 0 0, .int .i64 0, .slice none 0 0, .slice none 0 0, .int .i64 0]] : Array Value).toList 24 = some ([.agg [.nil, .lit (.int .i64 0), .nil, .nil, .lit (.int .i64 0)]], [], places) :=
  ⟨[], by kernel_rfl⟩

theorem params : ∀ t ∈ Try.f12.params.toList, plainB Try.prog 12 t = true ∧ Try.prog.readableRec t = true ∧ t < Try.prog.types.size := by
  rw [Try.params12]
  intro t ht
  simp only [List.mem_cons, List.not_mem_nil, or_false] at ht
  rcases ht with rfl <;> exact ⟨by kernel_rfl, by kernel_rfl, of_decide_eq_true (by kernel_rfl)⟩

set_option maxRecDepth 100000 in
theorem lifted (os : Os) (started : os.Started) (H : Type) (enc : TypeId × Value → H) (F : Stop.Interp) :
    ReturnsInHanded {} Try.checked os 12 .any ((Rows.OpenSpec.upto Rows.sccPartsSpec).preRow enc Try.prog Try.f12 Rows.sccPartsUptoRow.domain false Rows.sccPartsUptoRow.laid) (((Rows.OpenSpec.upto Rows.sccPartsSpec).at F).post enc Try.prog Try.f12 false true false false) := by
  obtain ⟨places, hx⟩ := reads os enc
  refine returnsInHanded_of_row (C := Try.checked) (s := Rows.OpenSpec.upto Rows.sccPartsSpec) own started (by kernel_rfl) Try.func12
    (witness_row_at (enc := enc) (C := Try.checked) false (laidWorld os) #[.agg #[.slice none 0 0, .int .i64 0, .slice none 0 0, .slice none 0 0, .int .i64 0]] rfl (by kernel_rfl) (by kernel_rfl) (by kernel_rfl)
      (OpenSpec.preRow_of_cond 24 hx (by kernel_rfl) (fun k hk => by cases hk; kernel_rfl) (by kernel_rfl) (laid_met os))) ?_
  intro W base args ds gs before hval hW _ hk hz hL _ _
  refine law_ofB (G := GP) (g := 12) laidOutAll params rfl Try.underlying4 rfl ?_ Rows.uptoBulk ?_ (fun q hq => by cases hq) hval hW ?_
  · intro ds hds
    rw [Try.params12] at hds
    match ds, hds with
    | [d0], _ => exact ⟨rfl, rfl, rfl⟩
  · obtain ⟨p, q, _, hV, _⟩ := hW
    obtain rfl : gs = [] := by cases gs with | nil => rfl | cons _ _ => simp [Rows.sccPartsSpec, Rows.OpenSpec.upto, OpenSpec.ofChange, DataW.TrodVars] at hV
    have hu := hk _ rfl
    rw [List.append_nil] at hu
    intro xss x1 x2 x3
    exact laws xss x1 x2 (Nat.le_trans (x3 bulkOk) (by rw [← bulkAll_sum]; exact of_decide_eq_true hu))
  · obtain ⟨p, q, _, hV, _⟩ := hW
    obtain rfl : gs = [] := by cases gs with | nil => rfl | cons _ _ => simp [Rows.sccPartsSpec, Rows.OpenSpec.upto, OpenSpec.ofChange, DataW.TrodVars] at hV
    simpa [Rows.sccPartsSpec, Rows.OpenSpec.upto, OpenSpec.ofChange, OpenSpec.bare, ChangeSpec.plain, DataSpec.varTypes] using hz

theorem said : Rows.sccPartsUptoRow.holds Try.pinned (Rows.OpenSpec.upto Rows.sccPartsSpec) :=
  OpenClaim.holds_of_cond 12 Try.f12 rfl rfl rfl rfl rfl rfl rfl ⟨rfl, rfl, rfl, rfl, rfl⟩ rfl rfl rfl rfl rfl (by kernel_rfl) Try.func12 (by kernel_rfl)
    (of_decide_eq_true (by kernel_rfl)) (by unfold Func.isWrapper; first | (rw [if_pos (by decide +kernel)]; kernel_rfl) | (rw [if_neg (by decide +kernel)]; exact ⟨rfl, rfl⟩))
    (fun os started H enc _ F => by rw [OpenClaim.pre_eq_preRow]; exact lifted os started H enc F)

theorem card : Rows.SccPartsUptoSaid := said
end PlainSccParts
end Go.Proofs.Ytffdlpjbbkhcnaa
