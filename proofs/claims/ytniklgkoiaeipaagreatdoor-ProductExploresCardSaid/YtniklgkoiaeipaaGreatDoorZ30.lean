/- A bundle of this claim's own texts: V2 V9 Top. -/
import Derived.Test.YtniklgkoiaeipaaGreatDoorCards
import Derived.Test.YtniklgkoiaeipaaGreatDoorTie
import Derived.WalkKit
import Derived.ProofKit
import Derived.OpenShut
import Derived.Deep.DeepHandedRow
import Derived.Lib.LaidTab
import Derived.Test.YtniklgkoiaeipaaGreatDoorZ1
import Derived.Test.YtniklgkoiaeipaaGreatDoorZ2
import Derived.Test.YtniklgkoiaeipaaGreatDoorZ17
import Derived.Test.YtniklgkoiaeipaaGreatDoorZ21
import Derived.Test.YtniklgkoiaeipaaGreatDoorZ28
namespace Go.Proofs.YtniklgkoiaeipaaGreatDoor
open Go Go.Av Go.Sp
set_option linter.unusedVariables false
set_option linter.unusedSimpArgs false
set_option maxRecDepth 100000
set_option maxHeartbeats 4000000

end Go.Proofs.YtniklgkoiaeipaaGreatDoor
namespace Go.Proofs.YtniklgkoiaeipaaGreatDoor
open Go Go.Av Go.Sp
set_option linter.unusedVariables false
set_option linter.unusedSimpArgs false
set_option maxRecDepth 100000
set_option maxHeartbeats 4000000

theorem cal_sameLists : Cal Tryz.prog 55 := Cal.of Tryz.func55 (by kernel_rfl) (by kernel_rfl)
theorem cal_sameGraph : Cal Tryz.prog 17 := Cal.of Tryz.func17 (by kernel_rfl) (by kernel_rfl)
theorem sameLists (G : List (Nat × List D)) (a b : List (List Int)) : ACr Tryz.prog G 55 [.d (listsD a), .d (listsD b)] (.bool (decide (a = b))) := by
 refine AC_of (ts := [4]) 27 Tryz.func55 rfl rfl rfl (by simp) fun W I => ?_
 refine jfact (t := 0) rfl fun hl0 => ?_
 refine jfact (t := 1) rfl fun hl1 => ?_
 repeat' (first
  | ((with_reducible apply qcall); (focus rfl); (focus exact cal_sameInts); (focus exact sameInts _ _ _); (focus rfl))
  | exact True.intro
  | refine stp ?_
  | refine two ?_ ?_
  | (refine imp fun hc => ?_) <;> try exact cx hc
  | refine all fun v_ => ?_)
 · ((with_reducible apply rq1); rfl; rfl)
   refine ret_eq ?_
   rw [decide_eq_false]
   intro e; subst e; omega
 refine J_loop (X := Nat) (fun i => [(0, .d (listsD a)), (1, .d (listsD b)), (5, .int i)]) (fun _ => []) (fun i => i ≤ a.length ∧ a.take i = b.take i) (fun i => a.length - i) 0 ⟨Nat.zero_le _, rfl⟩ ?_ rfl ?_
 · exact leD
 rintro i ⟨h1, h2⟩
 repeat' (first
  | ((with_reducible apply qcall); (focus rfl); (focus exact cal_sameInts); (focus exact sameInts _ _ _); (focus rfl))
  | exact True.intro
  | refine stp ?_
  | refine two ?_ ?_
  | (refine imp fun hc => ?_) <;> try exact cx hc
  | refine all fun v_ => ?_)
 all_goals first
  | (((with_reducible apply rq1); rfl; rfl)
     refine ret_eq ?_
     rw [decide_eq_false]
     intro e; subst e
     exact hc rfl)
  | (refine ⟨i + 1, ⟨by omega, take_step (by omega) (by omega) h2 ?_⟩, by first | omega | (dsimp only; omega), ?_, rfl⟩
     · exact hc
     · exact leD)
  | (((with_reducible apply rq1); rfl; rfl)
     refine ret_eq ?_
     rw [decide_eq_true]
     rwa [List.take_of_length_le (by omega), List.take_of_length_le (by omega)] at h2)
theorem armXV9_1 {p q : Prop} (hp : p) (h : p → q := by
 apply cmp; (focus (first
  | ((with_reducible apply call0); (focus rfl); (focus exact cal_sameSpots); (focus exact e1); (focus rfl))
  | ((with_reducible apply je_call0); (focus rfl); (focus (decide +kernel)); (focus rfl); (focus exact cal_sameSpots); (focus exact e1); (focus rfl))
  | ((with_reducible apply call0); (focus rfl); (focus exact cal_sameLists); (focus exact e2); (focus rfl))
  | ((with_reducible apply je_call0); (focus rfl); (focus (decide +kernel)); (focus rfl); (focus exact cal_sameLists); (focus exact e2); (focus rfl))
  | ((with_reducible apply call0); (focus rfl); (focus exact cal_sameInts); (focus exact e3); (focus rfl))
  | ((with_reducible apply je_call0); (focus rfl); (focus (decide +kernel)); (focus rfl); (focus exact cal_sameInts); (focus exact e3); (focus rfl))
  ))
 exact fun h => h) : q := h hp
theorem sameGraph (G : List (Nat × List D)) (g : Gr) : ACr Tryz.prog G 17 [grA g, grA g] (.bool true) := by
 refine AC_ofV (ts := [4]) Tryz.f17.ntmps Tryz.func17 rfl rfl rfl (by simp [Tryz.ntmps17]) fun W I => ?_
 have e1 := ACr_true (sameSpots G g.spots g.spots) rfl
 have e2 := ACr_true (sameLists G g.next g.next) rfl
 have e3 := ACr_true (sameInts G g.sets g.sets) rfl
 all_goals haveI fA_ : FlagA := ⟨⟩
 all_goals haveI fH_ : FlagH := ⟨⟩
 repeat' (first
  | refine armXV9_1 ?_
  | exact True.intro
  | refine stp ?_
  | refine two ?_ ?_
  | refine allc fun c_ => ?_
  | (refine imp fun hc => ?_) <;> try exact cx1 hc
  | refine all fun v_ => ?_)
 all_goals clear fA_ fH_
 all_goals first
  | (refine retv (VS.drop (List.nil_sublist _)) ?_
     ((with_reducible apply rq1); rfl; rfl)
     exact ret_eq (by simp_all))
  | (exfalso; simp_all; done)
end Go.Proofs.YtniklgkoiaeipaaGreatDoor
namespace Go.Proofs.YtniklgkoiaeipaaGreatDoor
open Go Go.Av Go.Sp Go.ChangeShapes Go.WideShapes Go.ChangeAt Go.RowKit
set_option linter.unusedVariables false
set_option linter.unusedSimpArgs false
set_option maxRecDepth 100000
set_option maxHeartbeats 4000000

abbrev laidRow := Rows.topNotRow
theorem own : ownKnob Tryz.prog.godebug = none := by kernel_rfl
theorem laidOutAll : laidOutB Tryz.prog = true := by kernel_rfl
theorem gTab : Tryz.prog.globalNamed "foretell/polish.parts" = some 0 := by kernel_rfl
theorem gTabType : (Tryz.prog.globals[0]?).map (·.type) = some 249 := by kernel_rfl
theorem cellsTab : Tryz.prog.cellsOf 249 = 19 := by kernel_rfl
theorem cellsInt : Tryz.prog.cellsOf 3 = 1 := by kernel_rfl
def partsZ : List Int := [-1, 0, 0, 2, 2, 2, 2, 2, 2, 2, 1, 0, 0, 0, 1, 2, 2, 1, 1]
theorem table {W : World} (h : laidMetH Tryz.prog laidRow.laid W) : Lib.TabIs Tryz.prog W "foretell/polish.parts" .i64 partsZ :=
 Lib.tabIs_of_head (rest := []) gTab gTabType Tryz.underlying249 Tryz.underlying3 cellsInt cellsTab h

theorem globPD {W : World} (h : laidMetH Tryz.prog laidRow.laid W) : ∀ q ∈ GP, PD W (fun b => b < W.heap.size) q.2 ⟨q.1, 0, none⟩ := by
 intro q hq
 obtain rfl : q = (0, partsT) := by simpa [GP] using hq
 have hc : ∀ (i : Nat) (hi : i < partsZ.length), W.cell? ⟨0, i, none⟩ = some (.int .i64 partsZ[i]) := fun i hi => by simpa [List.getElem?_eq_getElem hi] using (table h).cell gTab i hi
 refine ⟨World.block_lt_of_cell? _ _ (hc 0 (by decide)), fun u x hx => ?_⟩
 have hu : u < partsZ.length := by
  have := (List.getElem?_eq_some_iff.1 hx).1
  simpa [partsT, partsZ] using this
 have e : partsT[u]? = some (.i .i64 partsZ[u]) := by
  have : partsT = partsZ.map fun n => D.i .i64 n := rfl
  rw [this, List.getElem?_map, List.getElem?_eq_getElem hu]; rfl
 rw [e] at hx
 cases hx
 exact ⟨_, by rw [Addr.add_lit, Nat.zero_add]; exact hc u hu, .i _ _⟩

noncomputable def laidWorld (os : Os) : World :=
 { World.holding Tryz.prog os ⟨#[], #[], []⟩ with heap := (World.holding Tryz.prog os ⟨#[], #[], []⟩).heap.modify 0 fun
    | .cells _ t frozen => .cells (partsZ.map fun n => Value.int .i64 n).toArray t frozen
    | o => o }
end Go.Proofs.YtniklgkoiaeipaaGreatDoor
