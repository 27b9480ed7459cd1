/-
 PLAIN, NO PROGRAM: the logic over values: rows of zeros that are appended, capacities, literals of two (over E4).
-/
import Derived.Test.YtnlfhnbcdfdhgaaE4
import Derived.Lib.AppendZerosOnto
import Derived.Lib.SliceRun
namespace Go.Av
open Go
set_option linter.unusedVariables false
set_option linter.unusedSimpArgs false
section
variable {k : Kx} {Q : Exit → Env → H → Prop} {ρ ρ' : Env} {h h' : H} {ops : Array Oper} {l : List Oper} {d : Nat} {ty : TypeId} {pos : String} {after : Array Edge}
/-- append([]T(nil), make([]T, n)...) -/
theorem japp_zeros {α : Type} (f : α → List D) (a : α) (d0 : D) {T T2 E : TypeId} {x y : Operand} {n : Nat} {m : Int} {z : Value} {eb : Nat} (hx : evO ρ x = some (.val (.slice none 0 0))) (hy : evO ρ y = some (.int m)) (hmn : m = (n : Int)) (hT : k.P.underlying T = some (.slice E)) (hT2 : k.P.underlying T2 = some (.int .i64)) (hE : El k.P E z 1 eb) (hz1 : z.oneCell' = true)
 (hf : f a = [d0]) (hz : ∀ w I, AV.rel w I d0.av z) (h0 : 0 < n) (hb : n * eb ≤ 140737488355328) (hm : n ≤ 140737488355328) (hd : Nat.blt d k.n = true)
 (hj : All fun q : Sl => JL k ops l Q ((d, .val q.v) :: ρ) (rowE q.v E 1 f (List.replicate n a) :: h)) : JL k ops (⟨some d, .call { callee := .builtin .append, args := #[x, y], argTypes := #[T, T2] }, ty, pos, after, none⟩ :: l) Q ρ h := by
 subst hmn
 obtain ⟨i, hi, hz0, hz2, hz3⟩ := hE.get
 refine JL_eff rfl (fun t ht => by cases ht; exact blt hd) fun I ac w h1 h2 => ?_
 have e1 := rel_val (h2.ev x) (ev_of_evO hx)
 have e2 := rel_val (h2.ev y) (ev_of_evO hy)
 have hfit := growslice_fits (bytes := i.bytes) (need := n) (old := 0) h0 (by rw [hz3]; exact hb)
 have hrun := Lib.run_append_grow_zeros (P := k.P) w T T2 ty E i z .i64 .i64 hT hT2 hi hz0 none 0 0 [] (run_firstCells_none w.drew i.size 0 0 0) n h0 (by omega) (by omega) (by omega) (by rw [hz3]; omega) (by simpa using hfit)
 have hge : n ≤ grownCap w (0 + n) 0 E := by have := grownCap_ge w (0 + n) 0 E; omega
 have hle := grownCap_le_maxLen w (0 + n) 0 E (by unfold maxLen; omega)
 generalize grownCap w (0 + n) 0 E = cap at hrun hge hle
 have hzc : ∀ m, (Builtin.zeroCells z.cells m).toList = List.replicate m z := fun m => by
  rw [cells_one hz1]
  apply List.ext_getElem
  · simp [Builtin.zeroCells]
  · intro j h1 h2
    simp [Builtin.zeroCells, Nat.mod_one]
 have hs : Same I h w w.drew := ⟨rfl, rfl, rfl, Nat.le_refl _, fun _ _ => rfl⟩
 have k1 := h1.same hs
 have k2 := SF.same h1 hs h2
 have hcells : (#[] ++ Builtin.zeroCells z.cells n ++ Builtin.zeroCells z.cells (cap - (0 + n)) : Array Value).toList = List.replicate cap z := by
  simp only [Array.toList_append, hzc, List.nil_append, Array.toList_empty]
  rw [List.replicate_append_replicate]
  congr 1
  omega
 refine ⟨.slice (some ⟨w.drew.heap.size, 0, none⟩) n cap, w.drew.alloc (.cells (#[] ++ Builtin.zeroCells z.cells n ++ Builtin.zeroCells z.cells (cap - (0 + n))) E), I, .val (Sl.v ⟨some ⟨w.drew.heap.size, 0, none⟩, n, cap⟩), _, ?_, k1.fresh _ (rowE (Sl.v ⟨some ⟨w.drew.heap.size, 0, none⟩, n, cap⟩) E 1 f (List.replicate n a)) rfl ?_, k2.fresh k1 _, rfl, hj.get ⟨some ⟨w.drew.heap.size, 0, none⟩, n, cap⟩⟩
 · simp only [Nat.zero_add] at hrun ⊢
   simp [execOp, resolve, invoke, builtin, e1, e2, hrun]
 · refine ⟨List.replicate n z, ⟨by simp, .inr ⟨w.drew.heap.size, cap, _, by simp [Sl.v], Nat.zero_le _, heap_alloc_new _ _, by simpa using hge, hle, ?_, ?_⟩⟩, ?_⟩
   · have := congrArg List.length hcells
     simpa using this
   · rw [hcells]
     simp only [List.length_replicate, Nat.mul_one, List.take_replicate]
     congr 1
     omega
   · have : (((List.replicate n a).map f).flatten.map D.av) = List.replicate n d0.av := by
      rw [List.map_replicate, hf]
      clear hj hrun hcells hge hb hm hfit h0 hy e2
      induction n with
      | zero => rfl
      | succ n ih => simp [List.replicate_succ, ih]
     rw [this]
     generalize w.drew.alloc _ = w2
     clear this hj hrun hcells hge hb hm hfit h0 hy e2
     induction n with
     | zero => trivial
     | succ n ih => exact ⟨hz _ _, ih⟩
/-- A literal of two lists. -/
theorem jbuild_list2 {T E : TypeId} {x y : Operand} {sz' eb' sz2 eb2 : Nat} {rows rows2 : List (List D)} {z : Value} {eb : Nat} (hx : evO ρ x = some (.d (.l sz' eb' rows))) (hy : evO ρ y = some (.d (.l sz2 eb2 rows2))) (hT : k.P.underlying T = some (.slice E)) (he : El k.P E z 1 eb) (hb : Nat.ble eb 1000000 = true)
 (hd : Nat.blt d k.n = true) (hj : JL k ops l Q ((d, .d (.l 1 eb [[.l sz' eb' rows], [.l sz2 eb2 rows2]])) :: ρ) h) : JL k ops (⟨some d, .buildSlice T 2 #[(0, x), (1, y)], ty, pos, after, none⟩ :: l) Q ρ h := by
 have hb' := Nat.le_of_ble_eq_true hb
 refine JL_buildSlice (xs := [x, y]) (rows := [[.l sz' eb' rows], [.l sz2 eb2 rows2]]) hT he (by decide) rfl rfl ?_ ?_ ?_ ?_ ?_ (fun t ht => by cases ht; exact blt hd) hj
 · simp [ev_of_evO hx, ev_of_evO hy, D.av, AV.cl]
 · intro o ho
   simp only [List.mem_cons, List.not_mem_nil, or_false] at ho
   rcases ho with rfl | rfl
   · rw [ev_of_evO hx]; rfl
   · rw [ev_of_evO hy]; rfl
 · intro r hr
   simp only [List.mem_cons, List.not_mem_nil, or_false] at hr
   rcases hr with rfl | rfl <;> rfl
 · simp; omega
 · simp
end
section
variable {P : Program} {G : List (Nat × List D)} {ρ : Env} {h : H} {dst : Option Tmp} {ty : TypeId} {pos : String} {after : Array Edge} {g : Option (Nat × Bool)}
theorem pu_cap {T E : TypeId} {x : Operand} {ad : Option Addr} {n c : Nat} (hx : evO ρ x = some (.val (.slice ad n c))) (hT : P.underlying T = some (.slice E)) : Pure P G ⟨dst, .call { callee := .builtin .cap, args := #[x], argTypes := #[T] }, ty, pos, after, g⟩ ρ h (.int c) :=
 pure_free fun w I _ a hs => ⟨_, rfl, fun w' => by have e1 := rel_val (hs.ev x) (ev_of_evO hx); simp [execOp, resolve, invoke, builtin, e1, Builtin.cap_, run_underlying hT, goInt]⟩
/-- nil[:0] -/
theorem pu_slice_nil {T E : TypeId} {x hi : Operand} {sz eb : Nat} {z : Value} (hx : evO ρ x = some (.val (.slice none 0 0))) (hhi : evO ρ hi = some (.int 0)) (hT : P.underlying T = some (.slice E)) (hE : El P E z sz eb) : Pure P G ⟨dst, .slice T x none (some hi) none, ty, pos, after, g⟩ ρ h (.val (.slice none 0 0)) :=
 pure_free fun w I _ a hs => ⟨_, rfl, fun w' => by
  obtain ⟨i, hi', _, hsz, _⟩ := hE.get
  have e1 := rel_val (hs.ev x) (ev_of_evO hx)
  have e2 := rel_val (hs.ev hi) (ev_of_evO hhi)
  simp [execOp, e1, e2, Instr.sliceAt, run_underlying hT, Instr.slice, Instr.sliceBounds, Instr.sliceBound, asIntOf, sizeOf, typeInfo, hi']⟩
end
end Go.Av
