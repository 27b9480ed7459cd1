/- A bundle of this claim's own texts: Top. -/
import Derived.Test.YtcikppldaepodaaGreatDoorCards
import Derived.Test.YtcikppldaepodaaGreatDoorTie
import Derived.WalkKit
import Derived.ProofKit
import Derived.OpenShut
import Derived.Deep.DeepHandedRow
import Derived.Lib.LaidTab
import Derived.Test.YtcikppldaepodaaGreatDoorZ5
namespace Go.Proofs.YtcikppldaepodaaGreatDoor
open Go Go.Av Go.Sp Go.ChangeShapes Go.WideShapes Go.ChangeAt Go.RowKit
set_option linter.unusedVariables false
set_option linter.unusedSimpArgs false
set_option maxRecDepth 100000
set_option maxHeartbeats 4000000

abbrev laidRow := Rows.searchRunsRow
theorem own : ownKnob Tryz.prog.godebug = none := by kernel_rfl
theorem laidOutAll : laidOutB Tryz.prog = true := by kernel_rfl
theorem gTab : Tryz.prog.globalNamed "foretell/polish.parts" = some 1 := by kernel_rfl
theorem gTabType : (Tryz.prog.globals[1]?).map (·.type) = some 298 := by kernel_rfl
theorem cellsTab : Tryz.prog.cellsOf 298 = 19 := by kernel_rfl
theorem cellsInt : Tryz.prog.cellsOf 3 = 1 := by kernel_rfl
def partsZ : List Int := [-1, 0, 0, 2, 2, 2, 2, 2, 2, 2, 1, 0, 0, 0, 1, 2, 2, 1, 1]
theorem table {W : World} (h : laidMetH Tryz.prog laidRow.laid W) : Lib.TabIs Tryz.prog W "foretell/polish.parts" .i64 partsZ :=
  Lib.tabIs_of_head (rest := []) gTab gTabType Tryz.underlying298 Tryz.underlying3 cellsInt cellsTab h

theorem globPD {W : World} (h : laidMetH Tryz.prog laidRow.laid W) : ∀ q ∈ GP, PD W (fun b => b < W.heap.size) q.2 ⟨q.1, 0, none⟩ := by
  intro q hq
  obtain rfl : q = (1, partsT) := by simpa [GP] using hq
  have hc : ∀ (i : Nat) (hi : i < partsZ.length), W.cell? ⟨1, i, none⟩ = some (.int .i64 partsZ[i]) := fun i hi => by simpa [List.getElem?_eq_getElem hi] using (table h).cell gTab i hi
  refine ⟨World.block_lt_of_cell? _ _ (hc 0 (by decide)), fun u x hx => ?_⟩
  have hu : u < partsZ.length := by
    have := (List.getElem?_eq_some_iff.1 hx).1
    simpa [partsT, partsZ] using this
  have e : partsT[u]? = some (.i .i64 partsZ[u]) := by
    have : partsT = partsZ.map fun n => D.i .i64 n := rfl
    rw [this, List.getElem?_map, List.getElem?_eq_getElem hu]; rfl
  rw [e] at hx
  cases hx
  exact ⟨_, by rw [Addr.add_lit, Nat.zero_add]; exact hc u hu, .i _ _⟩

noncomputable def laidWorld (os : Os) : World :=
  { World.holding Tryz.prog os ⟨#[], #[], []⟩ with heap := (World.holding Tryz.prog os ⟨#[], #[], []⟩).heap.modify 1 fun
      | .cells _ t frozen => .cells (partsZ.map fun n => Value.int .i64 n).toArray t frozen
      | o => o }
end Go.Proofs.YtcikppldaepodaaGreatDoor
