/- A bundle of this claim's own texts: Top E17. -/
import Derived.Test.YtnlfhnbcdfdhgaaGreatDoorCards
import Derived.Test.YtnlfhnbcdfdhgaaGreatDoorTie
import Derived.WalkKit
import Derived.ProofKit
import Derived.OpenShut
import Derived.Deep.DeepHandedRow
import Derived.Lib.LaidTab
import Derived.Test.YtnlfhnbcdfdhgaaGreatDoorF2
import Derived.Test.YtnlfhnbcdfdhgaaGreatDoorF12
set_option linter.unusedVariables false
set_option linter.unusedSimpArgs false
set_option maxRecDepth 100000
set_option maxHeartbeats 4000000
namespace Go.Proofs.YtnlfhnbcdfdhgaaGreatDoor
open Go Go.Av Go.Sp Go.ChangeShapes Go.WideShapes Go.ChangeAt Go.RowKit

abbrev Tt := Rows.searchRunsRow
theorem UG : ownKnob Tryz.prog.godebug = none := by kernel_rfl
theorem GQ : laidOutB Tryz.prog = true := by kernel_rfl
theorem dt : Tryz.prog.globalNamed "foretell/polish.parts" = some 0 := by kernel_rfl
theorem ZI : (Tryz.prog.globals[0]?).map (·.type) = some 241 := by kernel_rfl
theorem Yz : Tryz.prog.cellsOf 241 = 19 := by kernel_rfl
theorem ZL : Tryz.prog.cellsOf 3 = 1 := by kernel_rfl
def Hc : List Int := [-1, 0, 0, 2, 2, 2, 2, 2, 2, 2, 1, 0, 0, 0, 1, 2, 2, 1, 1]
theorem table {W : World} (h : laidMetH Tryz.prog Tt.laid W) : Lib.TabIs Tryz.prog W "foretell/polish.parts" .i64 Hc :=
 Lib.tabIs_of_head (rest := []) dt ZI Tryz.underlying241 Tryz.underlying3 ZL Yz h

theorem OP {W : World} (h : laidMetH Tryz.prog Tt.laid W) : ∀ q ∈ GP, PD W (fun b => b < W.heap.size) q.2 ⟨q.1, 0, none⟩ := by
 intro q hq
 obtain rfl : q = (0, IM) := by simpa [GP] using hq
 have hc : ∀ (i : Nat) (hi : i < Hc.length), W.cell? ⟨0, i, none⟩ = some (.int .i64 Hc[i]) := fun i hi => by simpa [List.getElem?_eq_getElem hi] using (table h).cell dt i hi
 refine ⟨World.block_lt_of_cell? _ _ (hc 0 (by decide)), fun u x hx => ?_⟩
 have hu : u < Hc.length := by
  have := (List.getElem?_eq_some_iff.1 hx).1
  simpa [IM, Hc] using this
 have e : IM[u]? = some (.i .i64 Hc[u]) := by
  have : IM = Hc.map fun n => D.i .i64 n := rfl
  rw [this, List.getElem?_map, List.getElem?_eq_getElem hu]; rfl
 rw [e] at hx
 cases hx
 exact ⟨_, by rw [Addr.add_lit, Nat.zero_add]; exact hc u hu, .i _ _⟩

noncomputable def B3 (os : Os) : World :=
 { World.holding Tryz.prog os ⟨#[], #[], []⟩ with heap := (World.holding Tryz.prog os ⟨#[], #[], []⟩).heap.modify 0 fun
    | .cells _ t frozen => .cells (Hc.map fun n => Value.int .i64 n).toArray t frozen
    | o => o }
end Go.Proofs.YtnlfhnbcdfdhgaaGreatDoor
namespace Go.Av
open Go
section
variable {k : Kx} {Q : Exit → Env → H → Prop} {ρ : Env} {h h' : H} {ops : Array Oper} {l : List Oper} {d : Nat} {ty : TypeId} {pos : String} {after : Array Edge}
theorem Rg {T E : TypeId} {x0 x1 : Operand} {a0 b0 a1 b1 : Int} {z : Value} {eb : Nat} (hx0 : evO ρ x0 = some (.agg [.int a0, .int b0])) (hx1 : evO ρ x1 = some (.agg [.int a1, .int b1])) (hT : k.P.underlying T = some (.slice E)) (he : El k.P E z 2 eb) (hb : Nat.ble eb 1000000 = true)
 (hd : Nat.blt d k.n = true) (hj : JL k ops l Q ((d, .d (.l 2 eb [[.i .i64 a0, .i .i64 b0], [.i .i64 a1, .i .i64 b1]])) :: ρ) h) : JL k ops (⟨some d, .buildSlice T 2 #[(0, x0), (1, x1)], ty, pos, after, none⟩ :: l) Q ρ h := by
 have hb' := Nat.le_of_ble_eq_true hb
 refine Bp (xs := [x0, x1]) (rows := [[.i .i64 a0, .i .i64 b0], [.i .i64 a1, .i .i64 b1]]) hT he (by decide) rfl rfl ?_ ?_ ?_ ?_ ?_ (fun t ht => by cases ht; exact blt hd) hj
 · simp [AA hx0, AA hx1, D.av, AV.cl]
 · intro o ho
   simp only [List.mem_cons, List.not_mem_nil, or_false] at ho
   rcases ho with rfl | rfl
   · rw [AA hx0]; rfl
   · rw [AA hx1]; rfl
 · intro r hr
   simp only [List.mem_cons, List.not_mem_nil, or_false] at hr
   rcases hr with rfl | rfl <;> rfl
 · simp; omega
 · simp
theorem RW {T E : TypeId} {x0 x1 x2 x3 : Operand} {a0 b0 a1 b1 a2 b2 a3 b3 : Int} {z : Value} {eb : Nat} (hx0 : evO ρ x0 = some (.agg [.int a0, .int b0])) (hx1 : evO ρ x1 = some (.agg [.int a1, .int b1])) (hx2 : evO ρ x2 = some (.agg [.int a2, .int b2])) (hx3 : evO ρ x3 = some (.agg [.int a3, .int b3])) (hT : k.P.underlying T = some (.slice E)) (he : El k.P E z 2 eb) (hb : Nat.ble eb 1000000 = true)
 (hd : Nat.blt d k.n = true) (hj : JL k ops l Q ((d, .d (.l 2 eb [[.i .i64 a0, .i .i64 b0], [.i .i64 a1, .i .i64 b1], [.i .i64 a2, .i .i64 b2], [.i .i64 a3, .i .i64 b3]])) :: ρ) h) : JL k ops (⟨some d, .buildSlice T 4 #[(0, x0), (1, x1), (2, x2), (3, x3)], ty, pos, after, none⟩ :: l) Q ρ h := by
 have hb' := Nat.le_of_ble_eq_true hb
 refine Bp (xs := [x0, x1, x2, x3]) (rows := [[.i .i64 a0, .i .i64 b0], [.i .i64 a1, .i .i64 b1], [.i .i64 a2, .i .i64 b2], [.i .i64 a3, .i .i64 b3]]) hT he (by decide) rfl rfl ?_ ?_ ?_ ?_ ?_ (fun t ht => by cases ht; exact blt hd) hj
 · simp [AA hx0, AA hx1, AA hx2, AA hx3, D.av, AV.cl]
 · intro o ho
   simp only [List.mem_cons, List.not_mem_nil, or_false] at ho
   rcases ho with rfl | rfl | rfl | rfl
   · rw [AA hx0]; rfl
   · rw [AA hx1]; rfl
   · rw [AA hx2]; rfl
   · rw [AA hx3]; rfl
 · intro r hr
   simp only [List.mem_cons, List.not_mem_nil, or_false] at hr
   rcases hr with rfl | rfl | rfl | rfl <;> rfl
 · simp; omega
 · simp
end
end Go.Av
