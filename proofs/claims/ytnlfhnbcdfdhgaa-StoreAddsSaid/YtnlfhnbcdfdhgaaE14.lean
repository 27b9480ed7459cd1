/-
 PLAIN, NO PROGRAM: literals: of one struct, as a row that one writes on; of three lists; of two strings.
-/
import Derived.Test.YtnlfhnbcdfdhgaaE5
namespace Go.Av
open Go
set_option linter.unusedVariables false
set_option linter.unusedSimpArgs false
def strC (s : ByteArray) : List D := [.s s]
section
variable {k : Kx} {Q : Exit → Env → H → Prop} {ρ : Env} {h h' : H} {ops : Array Oper} {l : List Oper} {d : Nat} {ty : TypeId} {pos : String} {after : Array Edge}
/-- A literal of one, as a row. -/
theorem jrow_a1 {α : Type} {f : α → List D} {u : α} {T E : TypeId} {x : Operand} {cs : List AV} {z : Value} {sz eb : Nat} (h0 : evO ρ x = some (.agg cs)) (hu : cs = (f u).map D.av) (hT : k.P.underlying T = some (.slice E)) (he : El k.P E z sz eb) (hsz : ∀ y, (f y).length = sz) (h1 : Nat.blt 0 sz = true) (hc : Nat.ble sz 1000000 = true)
 (hd : Nat.blt d k.n = true) (hj : All fun q : Sl => JL k ops l Q ((d, .val q.v) :: ρ) (rowE q.v E sz f [u] :: h)) : JL k ops (⟨some d, .buildSlice T 1 #[(0, x)], ty, pos, after, none⟩ :: l) Q ρ h := by
 subst hu
 have hc' := Nat.le_of_ble_eq_true hc
 refine JL_buildRow (f := f) (ys := [u]) (xs := [x]) hT he (blt h1) (by simp) rfl ?_ ?_ hsz (by simp; omega) hd ⟨fun v => JL_slice (h1 := []) rfl fun q e => by subst e; exact hj.get q⟩
 · simp only [List.map_cons, List.map_nil, ev_of_evO h0]; rfl
 · intro x hx
   simp only [List.mem_cons, List.not_mem_nil, or_false] at hx
   rw [hx, ev_of_evO h0]
   exact all_av_flat _
/-- A literal of three lists. -/
theorem jbuild_list3 {T E : TypeId} {x y u : Operand} {sz1 eb1 sz2 eb2 sz3 eb3 : Nat} {r1 r2 r3 : List (List D)} {z : Value} {eb : Nat} (hx : evO ρ x = some (.d (.l sz1 eb1 r1))) (hy : evO ρ y = some (.d (.l sz2 eb2 r2))) (hu : evO ρ u = some (.d (.l sz3 eb3 r3))) (hT : k.P.underlying T = some (.slice E)) (he : El k.P E z 1 eb) (hb : Nat.ble eb 1000000 = true)
 (hd : Nat.blt d k.n = true) (hj : JL k ops l Q ((d, .d (.l 1 eb [[.l sz1 eb1 r1], [.l sz2 eb2 r2], [.l sz3 eb3 r3]])) :: ρ) h) : JL k ops (⟨some d, .buildSlice T 3 #[(0, x), (1, y), (2, u)], ty, pos, after, none⟩ :: l) Q ρ h := by
 have hb' := Nat.le_of_ble_eq_true hb
 refine JL_buildSlice (xs := [x, y, u]) (rows := [[.l sz1 eb1 r1], [.l sz2 eb2 r2], [.l sz3 eb3 r3]]) hT he (by decide) rfl rfl ?_ ?_ ?_ ?_ ?_ (fun t ht => by cases ht; exact blt hd) hj
 · simp [ev_of_evO hx, ev_of_evO hy, ev_of_evO hu, D.av, AV.cl]
 · intro o ho
   simp only [List.mem_cons, List.not_mem_nil, or_false] at ho
   rcases ho with rfl | rfl | rfl
   · rw [ev_of_evO hx]; rfl
   · rw [ev_of_evO hy]; rfl
   · rw [ev_of_evO hu]; rfl
 · intro r hr
   simp only [List.mem_cons, List.not_mem_nil, or_false] at hr
   rcases hr with rfl | rfl | rfl <;> rfl
 · simp; omega
 · simp
/-- A literal of two strings. -/
theorem jbuild_str2 {T E : TypeId} {a b : ByteArray} {z : Value} {eb : Nat} (hT : k.P.underlying T = some (.slice E)) (he : El k.P E z 1 eb) (hb : Nat.ble eb 1000000 = true)
 (hd : Nat.blt d k.n = true) (hj : JL k ops l Q ((d, .d (.l 1 eb ([a, b].map strC))) :: ρ) h) : JL k ops (⟨some d, .buildSlice T 2 #[(0, .const (.string a)), (1, .const (.string b))], ty, pos, after, none⟩ :: l) Q ρ h := by
 have hb' := Nat.le_of_ble_eq_true hb
 refine JL_buildSlice (xs := [.const (.string a), .const (.string b)]) (rows := [[.s a], [.s b]]) hT he (by decide) rfl rfl ?_ ?_ ?_ ?_ ?_ (fun t ht => by cases ht; exact blt hd) hj
 · simp [ev, D.av, AV.cl]
 · intro o ho
   simp only [List.mem_cons, List.not_mem_nil, or_false] at ho
   rcases ho with rfl | rfl <;> rfl
 · intro r hr
   simp only [List.mem_cons, List.not_mem_nil, or_false] at hr
   rcases hr with rfl | rfl <;> rfl
 · simp; omega
 · simp
end
end Go.Av
