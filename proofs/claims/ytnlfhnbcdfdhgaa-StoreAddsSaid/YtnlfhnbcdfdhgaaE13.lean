/- make([]T, 0, n): an own row that holds nothing yet. -/
import Derived.Test.YtnlfhnbcdfdhgaaE5
namespace Go.Av
open Go
set_option linter.unusedVariables false
set_option linter.unusedSimpArgs false
section
variable {k : Kx} {Q : Exit → Env → H → Prop} {ρ : Env} {h : H} {ops : Array Oper} {l : List Oper} {d : Nat} {ty : TypeId} {pos : String} {after : Array Edge}
theorem jmk0 {α : Type} (f : α → List D) {T E : TypeId} {x y : Operand} {n : Nat} {m : Int} {z : Value} {eb : Nat} (hx : evO ρ x = some (.int 0)) (hy : evO ρ y = some (.int m)) (hmn : m = (n : Int)) (hT : k.P.underlying T = some (.slice E)) (hE : El k.P E z 1 eb) (hz1 : z.oneCell' = true)
 (hb : n * eb ≤ 140737488355328) (hm : n ≤ 140737488355328) (hd : Nat.blt d k.n = true)
 (hj : All fun q : Sl => JL k ops l Q ((d, .val q.v) :: ρ) (rowE q.v E 1 f [] :: h)) : JL k ops (⟨some d, .makeSlice T x y, ty, pos, after, none⟩ :: l) Q ρ h := by
 subst hmn
 obtain ⟨i, hi, hz0, hz2, hz3⟩ := hE.get
 refine JL_eff rfl (fun t ht => by cases ht; exact blt hd) fun I a w h1 h2 => ?_
 have e1 := rel_val (h2.ev x) (ev_of_evO hx)
 have e2 := rel_val (h2.ev y) (ev_of_evO hy)
 have hbi : (i.bytes : Int) * (n : Int) ≤ 281474976710656 := by
  rw [hz3]
  have h : ((eb * n : Nat) : Int) ≤ 281474976710656 := by rw [Nat.mul_comm]; omega
  rwa [Int.natCast_mul] at h
 have hrun := run_make (P := k.P) w T E i z hT hi hz0 .i64 .i64 0 (n : Int) (Int.le_refl _) (by omega) hbi (by omega)
 simp only [Int.toNat_natCast, hz2, Nat.mul_one, Int.toNat_zero] at hrun
 have hmc : (madeCells z.cells n).toList.length = n := by simp [madeCells]
 refine ⟨.slice (some ⟨w.heap.size, 0, none⟩) 0 n, w.alloc (.cells (madeCells z.cells n) E), I, .val (Sl.v ⟨some ⟨w.heap.size, 0, none⟩, 0, n⟩), _, ?_, h1.fresh _ (rowE (Sl.v ⟨some ⟨w.heap.size, 0, none⟩, 0, n⟩) E 1 f []) rfl ?_, h2.fresh h1 _, rfl, hj.get ⟨some ⟨w.heap.size, 0, none⟩, 0, n⟩⟩
 · simp [execOp, e1, e2, hrun]
 · refine ⟨[], ⟨by simp, .inr ⟨w.heap.size, n, _, by simp [Sl.v], Nat.zero_le _, heap_alloc_new _ _, by simp, by unfold maxLen; omega, ?_, ?_⟩⟩, ?_⟩
   · simpa using hmc
   · simp
   · trivial
end
end Go.Av
