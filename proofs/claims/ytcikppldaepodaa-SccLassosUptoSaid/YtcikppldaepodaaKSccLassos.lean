/- scc.Lasso answers what P8.5 says (a lasso that the document lets be) and changes none of its arguments, at every argument of bulk at most 1048576: for every such input the law returns true. Conditions: none. -/
import Derived.Test.YtcikppldaepodaaZ10
import Derived.Test.YtcikppldaepodaaZ13
import Derived.Test.YtcikppldaepodaaZ14
namespace Go.Sp
open Go Go.Av
set_option linter.unusedVariables false
set_option linter.unusedSimpArgs false
theorem bulk_row1 : ∀ l : List Int, bulkR (l.map intC) = l.length
  | [] => rfl
  | x :: l => by simp only [List.map_cons, bulkR, bulk_row1 l, intC, bulkS, D.bulk, List.length_cons]; omega
theorem bulk_lists : ∀ l : List (List Int), (l.map List.length).sum ≤ bulkR (l.map listC)
  | [] => by simp
  | x :: l => by
    have := bulk_lists l
    simp only [List.map_cons, List.sum_cons, bulkR, listC, bulkS, D.bulk, bulk_row1]
    omega
theorem ways_bulk {g : Gr} {n : Nat} (h : bulkS g.cells ≤ n) : ∀ g' : Gn, g'.gr = g → g'.ways g'.next.length ≤ n := fun g' e => by
  subst e
  have h1 := bulk_lists (g'.next.map (·.map fun k : Nat => (k : Int)))
  have h2 : g'.ways g'.next.length = ((g'.next.map (·.map fun k : Nat => (k : Int))).map List.length).sum := by
    unfold Gn.ways
    rw [List.take_length, List.map_map]
    congr 1
    apply List.map_congr_left
    intro l _
    simp
  rw [h2]
  simp only [Gr.cells, Gn.gr, bulkS, D.bulk] at h
  omega
theorem fair_some {g : Gr} (h : (fairOf g).2 = 0) : ∃ (gn : Gn) (home : Nat), gn.gr = g ∧ gn.ok ∧ home < gn.spots.length ∧ goodP gn home ∧ fairOf gn.gr = ((home : Int), 0) := by
  by_cases c : okG g
  · obtain ⟨gn, rfl, hok⟩ := okG_nat c
    rw [fairOf_ok hok] at h
    cases hf : (List.range gn.spots.length).find? fun i => decide (goodP gn i) with
    | none => rw [fairN, hf] at h; cases h
    | some i =>
      have hi := List.mem_range.1 (List.mem_of_find?_eq_some hf)
      have hg : goodP gn i := by have := List.find?_some hf; exact of_decide_eq_true this
      exact ⟨gn, i, rfl, hok, hi, hg, by rw [fairOf_ok hok, fairN, hf]⟩
  · rw [fairOf_no c] at h; cases h
end Go.Sp
namespace Go.Proofs.Ytcikppldaepodaa
open Go Go.Av Go.Sp
set_option linter.unusedVariables false
set_option linter.unusedSimpArgs false
set_option maxRecDepth 100000
set_option maxHeartbeats 4000000

theorem law_SccLassos (g : Gr) (hw : ∀ g' : Gn, g'.gr = g → g'.ways g'.next.length ≤ 1048576) : ACr Try.prog GP 3 [grA g] (.bool true) := by
  by_cases h : (fairOf g).2 ≠ 0
  · have hL := Lasso_no g h
    have hF := FairOf GP g hw
    generalize fairOf g = p at h hL hF
    obtain ⟨home, e⟩ := p
    dsimp only at h hL hF
    refine AC_ofV (ts := [2]) Try.f3.ntmps Try.func3 rfl rfl rfl (by simp [Try.ntmps3]) fun W I => ?_
    all_goals haveI fA_ : FlagA := ⟨⟩
    all_goals haveI fH_ : FlagH := ⟨⟩
    repeat' (first
      | ((with_reducible apply call0); (focus rfl); (focus exact cal_graphs); (focus exact graphs _ _); (focus rfl))
      | ((with_reducible apply je_call0); (focus rfl); (focus (decide +kernel)); (focus rfl); (focus exact cal_graphs); (focus exact graphs _ _); (focus rfl))
      | ((with_reducible apply call0); (focus rfl); (focus exact cal_Lasso); (focus exact hL); (focus rfl))
      | ((with_reducible apply je_call0); (focus rfl); (focus (decide +kernel)); (focus rfl); (focus exact cal_Lasso); (focus exact hL); (focus rfl))
      | ((with_reducible apply call0); (focus rfl); (focus exact cal_FairOf); (focus exact hF); (focus rfl))
      | ((with_reducible apply je_call0); (focus rfl); (focus (decide +kernel)); (focus rfl); (focus exact cal_FairOf); (focus exact hF); (focus rfl))
      | ((with_reducible apply call0); (focus rfl); (focus exact cal_sameGraph); (focus exact sameGraph _ _); (focus rfl))
      | ((with_reducible apply je_call0); (focus rfl); (focus (decide +kernel)); (focus rfl); (focus exact cal_sameGraph); (focus exact sameGraph _ _); (focus rfl))
      | ((with_reducible apply qcall); (focus rfl); (focus exact cal_sameGraph); (focus exact sameGraph _ _); (focus rfl))
      | exact True.intro
      | refine stp ?_
      | refine two ?_ ?_
      | refine allc fun c_ => ?_
      | (refine imp fun hc => ?_) <;> try (first | contradiction | (exfalso; omega) | (exfalso; exact absurd (of_dT hc) (by assumption)) | (exfalso; exact of_dF hc (by assumption)))
      | refine all fun v_ => ?_)
    all_goals clear fA_ fH_
    all_goals
      refine retv (VS.drop (List.nil_sublist _)) ?_
      ((with_reducible apply rq1); rfl; rfl)
      exact ret_eq (by simp_all)
  · obtain ⟨gn, home, rfl, hok, hh, hg, hf⟩ := fair_some (Decidable.not_not.1 h)
    have hL := Lasso_yes gn hok home hh hg hf
    have hF := FairOf GP gn.gr hw
    have hG := graphs GP gn.gr
    have hS := sameGraph GP gn.gr
    rw [hf] at hF
    rw [gnA_eq] at hF hG hS ⊢
    dsimp only at hF
    have hLF : ∀ v : {p : List Nat × List Nat // LasP gn p}, ACr Try.prog GP 12 [gnA gn, .agg [.d (intsD (castL v.1.1)), .d (intsD (castL v.1.2))]] (.bool true) := fun v => by
      have := LassoFits GP gn hok v.1.1 v.1.2 v.2.1 (by have := v.2.2; omega)
      rw [natsD_eq, natsD_eq v.1.2] at this
      exact this
    refine AC_ofV (ts := [2]) Try.f3.ntmps Try.func3 rfl rfl rfl (by simp [Try.ntmps3]) fun W I => ?_
    all_goals haveI fA_ : FlagA := ⟨⟩
    all_goals haveI fH_ : FlagH := ⟨⟩
    repeat' (first
      | ((with_reducible apply call0); (focus rfl); (focus exact cal_graphs); (focus exact hG); (focus rfl))
      | ((with_reducible apply je_call0); (focus rfl); (focus (decide +kernel)); (focus rfl); (focus exact cal_graphs); (focus exact hG); (focus rfl))
      | ((with_reducible apply callG); (focus rfl); (focus exact cal_Lasso); (focus exact hL); (focus ((repeat (first | with_reducible exact Take.nil | ((with_reducible apply Take.cons); (focus ((repeat (first | with_reducible exact Sel.here | with_reducible apply Sel.there)); done))))); done)); (focus rfl); (focus (intro v_; (repeat (first | exact App.nil | apply App.cons)); done)))
      | ((with_reducible apply call0); (focus rfl); (focus exact cal_FairOf); (focus exact hF); (focus rfl))
      | ((with_reducible apply je_call0); (focus rfl); (focus (decide +kernel)); (focus rfl); (focus exact cal_FairOf); (focus exact hF); (focus rfl))
      | ((with_reducible apply call0); (focus rfl); (focus exact cal_sameGraph); (focus exact hS); (focus rfl))
      | ((with_reducible apply je_call0); (focus rfl); (focus (decide +kernel)); (focus rfl); (focus exact cal_sameGraph); (focus exact hS); (focus rfl))
      | ((with_reducible apply qcall); (focus rfl); (focus exact cal_sameGraph); (focus exact hS); (focus rfl))
      | ((with_reducible apply call0); (focus rfl); (focus exact cal_LassoFits); (focus exact hLF _); (focus rfl))
      | ((with_reducible apply je_call0); (focus rfl); (focus (decide +kernel)); (focus rfl); (focus exact cal_LassoFits); (focus exact hLF _); (focus rfl))
      | ((with_reducible apply qcall); (focus rfl); (focus exact cal_LassoFits); (focus exact hLF _); (focus rfl))
      | exact True.intro
      | refine stp ?_
      | refine two ?_ ?_
      | refine allc fun c_ => ?_
      | (refine imp fun hc => ?_) <;> try (first | contradiction | (exfalso; omega) | (exfalso; exact absurd (of_dT hc) (by assumption)) | (exfalso; exact of_dF hc (by assumption)))
      | refine all fun v_ => ?_)
    all_goals clear fA_ fH_
    all_goals
      refine retv (VS.drop (List.nil_sublist _)) ?_
      ((with_reducible apply rq1); rfl; rfl)
      exact ret_eq (by simp_all)
namespace PlainSccLassos
set_option linter.unusedVariables false
set_option linter.unusedSimpArgs false
theorem laws : ∀ xss : List (List D), xss.length = Try.f3.params.toList.length → (∀ (j : Nat) t xs, Try.f3.params.toList[j]? = some t → xss[j]? = some xs → Conf Try.prog 12 t xs) → bulkR xss ≤ 1048576 → ACr Try.prog GP 3 ((Try.f3.params.toList.zip xss).map fun p => argAV (isStructB Try.prog p.1) p.2) (.bool true) := by
  rw [Try.params3]
  intro xss hl hc hb
  match xss, hl with
  | [x0], _ =>
    simp only [bulkR, Nat.add_zero] at hb
    (obtain ⟨g, rfl⟩ := conf_Graph (hc 0 _ x0 rfl rfl))
    exact law_SccLassos g (ways_bulk hb)
end PlainSccLassos
namespace PlainSccLassos
open Go.ChangeShapes Go.WideShapes Go.ChangeAt Go.RowKit
set_option linter.unusedVariables false
set_option linter.unusedSimpArgs false
theorem laid_met (os : Os) : laidMet Try.prog Rows.sccLassosUptoRow.laid ((laidWorld os).forCall (fun _ _ => 0) ⟨#[], #[.agg #[.slice none 0 0, .int .i64 0, .slice none 0 0, .slice none 0 0, .int .i64 0]], []⟩).memory :=
  laidMet_of_run' 24 (by kernel_rfl) (by kernel_rfl)
theorem reads (os : Os) {H : Type} (enc : TypeId × Value → H) : ∃ places, DataW.whole enc Try.prog ((laidWorld os).forCall (fun _ _ => 0) ⟨#[], #[.agg #[.slice none 0 0, .int .i64 0, .slice none 0 0, .slice none 0 0, .int .i64 0]], []⟩).memory Try.f3.params.toList Rows.sccLassosSpec.vars false (#[.agg #[.slice none 0 0, .int .i64 0, .slice none 0 0, .slice none 0 0, .int .i64 0]] : Array Value).toList 24 = some ([.agg [.nil, .lit (.int .i64 0), .nil, .nil, .lit (.int .i64 0)]], [], places) :=
  ⟨[], by kernel_rfl⟩

theorem params : ∀ t ∈ Try.f3.params.toList, plainB Try.prog 12 t = true ∧ Try.prog.readableRec t = true ∧ t < Try.prog.types.size := by
  rw [Try.params3]
  intro t ht
  simp only [List.mem_cons, List.not_mem_nil, or_false] at ht
  rcases ht with rfl <;> exact ⟨by kernel_rfl, by kernel_rfl, of_decide_eq_true (by kernel_rfl)⟩

set_option maxRecDepth 100000 in
theorem lifted (os : Os) (started : os.Started) (H : Type) (enc : TypeId × Value → H) (F : Stop.Interp) :
    ReturnsInHanded {} Try.checked os 3 .any ((Rows.OpenSpec.upto Rows.sccLassosSpec).preRow enc Try.prog Try.f3 Rows.sccLassosUptoRow.domain false Rows.sccLassosUptoRow.laid) (((Rows.OpenSpec.upto Rows.sccLassosSpec).at F).post enc Try.prog Try.f3 false true false false) := by
  obtain ⟨places, hx⟩ := reads os enc
  refine returnsInHanded_of_row (C := Try.checked) (s := Rows.OpenSpec.upto Rows.sccLassosSpec) own started (by kernel_rfl) Try.func3
    (witness_row_at (enc := enc) (C := Try.checked) false (laidWorld os) #[.agg #[.slice none 0 0, .int .i64 0, .slice none 0 0, .slice none 0 0, .int .i64 0]] rfl (by kernel_rfl) (by kernel_rfl) (by kernel_rfl)
      (OpenSpec.preRow_of_cond 24 hx (by kernel_rfl) (fun k hk => by cases hk; kernel_rfl) (by kernel_rfl) (laid_met os))) ?_
  intro W base args ds gs before hval hW _ hk hz hL _ _
  refine law_ofB (G := GP) (g := 12) laidOutAll params rfl Try.underlying4 rfl ?_ Rows.uptoBulk ?_ (fun q hq => by cases hq) hval hW ?_
  · intro ds hds
    rw [Try.params3] at hds
    match ds, hds with
    | [d0], _ => exact ⟨rfl, rfl, rfl⟩
  · obtain ⟨p, q, _, hV, _⟩ := hW
    obtain rfl : gs = [] := by cases gs with | nil => rfl | cons _ _ => simp [Rows.sccLassosSpec, Rows.OpenSpec.upto, OpenSpec.ofChange, DataW.TrodVars] at hV
    have hu := hk _ rfl
    rw [List.append_nil] at hu
    intro xss x1 x2 x3
    exact laws xss x1 x2 (Nat.le_trans (x3 bulkOk) (by rw [← bulkAll_sum]; exact of_decide_eq_true hu))
  · obtain ⟨p, q, _, hV, _⟩ := hW
    obtain rfl : gs = [] := by cases gs with | nil => rfl | cons _ _ => simp [Rows.sccLassosSpec, Rows.OpenSpec.upto, OpenSpec.ofChange, DataW.TrodVars] at hV
    simpa [Rows.sccLassosSpec, Rows.OpenSpec.upto, OpenSpec.ofChange, OpenSpec.bare, ChangeSpec.plain, DataSpec.varTypes] using hz

theorem said : Rows.sccLassosUptoRow.holds Try.pinned (Rows.OpenSpec.upto Rows.sccLassosSpec) :=
  OpenClaim.holds_of_cond 3 Try.f3 rfl rfl rfl rfl rfl rfl rfl ⟨rfl, rfl, rfl, rfl, rfl⟩ rfl rfl rfl rfl rfl (by kernel_rfl) Try.func3 (by kernel_rfl)
    (of_decide_eq_true (by kernel_rfl)) (by unfold Func.isWrapper; first | (rw [if_pos (by decide +kernel)]; kernel_rfl) | (rw [if_neg (by decide +kernel)]; exact ⟨rfl, rfl⟩))
    (fun os started H enc _ F => by rw [OpenClaim.pre_eq_preRow]; exact lifted os started H enc F)

theorem card : Rows.SccLassosUptoSaid := said
end PlainSccLassos
end Go.Proofs.Ytcikppldaepodaa
