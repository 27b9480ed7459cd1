/- Own texts. -/
import Derived.Test.YtnlfhnbcdfdhgaaGreatDoorCards
import Derived.Test.YtnlfhnbcdfdhgaaGreatDoorTie
import Derived.Deep.DeepHandedRow
import Derived.Test.YtnlfhnbcdfdhgaaGreatDoorA17
set_option linter.unusedVariables false
set_option linter.unusedSimpArgs false
set_option maxRecDepth 100000
set_option maxHeartbeats 4000000
namespace Go.Proofs.YtnlfhnbcdfdhgaaGreatDoor
open Go Go.Av Go.Sp Go.ChangeShapes Go.WideShapes Go.ChangeAt Go.RowKit
abbrev Vy := Rows.searchRunsRow
theorem iQ : ownKnob Tryz.prog.godebug = none := by kernel_rfl
theorem UE : laidOutB Tryz.prog = true := by kernel_rfl
theorem iR : Tryz.prog.globalNamed "foretell/polish.parts" = some 0 := by kernel_rfl
theorem ZJ : (Tryz.prog.globals[0]?).map (·.type) = some 241 := by kernel_rfl
theorem Yf : Tryz.prog.cellsOf 241 = 19 := by kernel_rfl
theorem ZK : Tryz.prog.cellsOf 3 = 1 := by kernel_rfl
def Ix : List Int := [-1, 0, 0, 2, 2, 2, 2, 2, 2, 2, 1, 0, 0, 0, 1, 2, 2, 1, 1]
theorem table {W : World} (h : laidMetH Tryz.prog Vy.laid W) : Lib.TabIs Tryz.prog W "foretell/polish.parts" .i64 Ix :=
 Lib.tabIs_of_head (rest := []) iR ZJ Tryz.underlying241 Tryz.underlying3 ZK Yf h
theorem fu {W : World} (h : laidMetH Tryz.prog Vy.laid W) : ∀ q ∈ GP, PD W (fun b => b < W.heap.size) q.2 ⟨q.1, 0, none⟩ := by
 intro q hq
 obtain rfl : q = (0, Jr) := by simpa [GP] using hq
 have hc : ∀ (i : Nat) (hi : i < Ix.length), W.cell? ⟨0, i, none⟩ = some (.int .i64 Ix[i]) := fun i hi => by simpa [List.getElem?_eq_getElem hi] using (table h).cell iR i hi
 refine ⟨World.block_lt_of_cell? _ _ (hc 0 (by decide)), fun u x hx => ?_⟩
 have hu : u < Ix.length := by
  have := (List.getElem?_eq_some_iff.1 hx).1
  simpa [Jr, Ix] using this
 have e : Jr[u]? = some (.i .i64 Ix[u]) := by
  have : Jr = Ix.map fun n => D.i .i64 n := rfl
  rw [this, List.getElem?_map, List.getElem?_eq_getElem hu]; rfl
 rw [e] at hx
 cases hx
 exact ⟨_, by rw [Addr.add_lit, Nat.zero_add]; exact hc u hu, .i _ _⟩
noncomputable def LG (os : Os) : World :=
 { World.holding Tryz.prog os ⟨#[], #[], []⟩ with heap := (World.holding Tryz.prog os ⟨#[], #[], []⟩).heap.modify 0 fun
    | .cells _ t frozen => .cells (Ix.map fun n => Value.int .i64 n).toArray t frozen
    | o => o }
end Go.Proofs.YtnlfhnbcdfdhgaaGreatDoor
