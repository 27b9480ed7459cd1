/-
  PLAIN, NO PROGRAM: variables that a round makes anew, structs in variables of their own (over Ax).
-/
import Derived.Test.YtffdlpjbbkhcnaaAx
namespace Go.Av
open Go

section
variable {k : Kx} {Q : Exit → Env → H → Prop} {ρ ρ' : Env} {h h' h1 h2 : H} {ops : Array Oper} {l : List Oper} {d : Nat} {dst : Option Tmp} {ty : TypeId} {pos : String} {after : Array Edge} {g : Option (Nat × Bool)}
open Classical in
/-- A loop whose round leaves more than the next begins with. -/
theorem J_loopV {X : Type} {x : Code} (S : X → Env) (G : X → H) (Inv : X → Prop) (μ : X → Nat) (x0 : X) (h0 : Inv x0) (hv : VS ρ h (S x0) (G x0))
    (round : ∀ y, Inv y → J k x (thenQ (fun ρ' h' => ∃ y', Inv y' ∧ μ y' < μ y ∧ VS ρ' h' (S y') (G y')) Q) (S y) (G y)) : J k (.loop x) Q ρ h := by
  intro I a w h1 h2 h3
  let fits (a : Act) (w : World) (y : X) : Prop := Inv y ∧ ∃ I, Ok k.c I (G y) w ∧ SF k.n w I (S y) a ∧ a.defers = k.df
  let has (a : Act) (w : World) (m : Nat) : Prop := ∃ y, fits a w y ∧ μ y = m
  let M (a : Act) (w : World) : Nat := if hx : ∃ m, has a w m then Classical.choose (least hx) else 0
  have hM : ∀ a w y, fits a w y → M a w ≤ μ y ∧ ∃ z, fits a w z ∧ μ z = M a w := by
    intro a w y hy
    have hx : ∃ m, has a w m := ⟨μ y, y, hy, rfl⟩
    have hd : M a w = Classical.choose (least hx) := by simp only [M, dif_pos hx]
    have hs := Classical.choose_spec (least hx)
    exact ⟨by rw [hd]; exact hs.2 _ ⟨y, hy, rfl⟩, by rw [hd]; exact hs.1⟩
  obtain ⟨I0, m1, m2⟩ := hv _ _ _ _ _ h1 h2
  refine wp_loop (fun a w => ∃ y, fits a w y) M ⟨x0, h0, I0, m1, m2, h3⟩ ?_
  rintro a w ⟨y, hy⟩
  obtain ⟨_, z, ⟨hz1, I', hz2, hz3, hz4⟩, hz⟩ := hM a w y hy
  refine wp_mono (round z hz1 I' a w hz2 hz3 hz4) ?_
  rintro e a' w' ⟨I, ρ1, h1, k1, k2, k3, k4⟩
  cases e with
  | normal =>
    obtain ⟨y', i1, i2, v⟩ := k4
    obtain ⟨I2, n1, n2⟩ := v _ _ _ _ _ k1 k2
    have hy' : fits a' w' y' := ⟨i1, I2, n1, n2, k3⟩
    exact ⟨⟨y', hy'⟩, Nat.lt_of_le_of_lt (hM a' w' y' hy').1 (hz ▸ i2)⟩
  | _ => exact ⟨I, ρ1, h1, k1, k2, k3, k4⟩

theorem vle (hs : List.Sublist h' h) (hle : Env.le ρ ρ') : VS ρ h ρ' h' := VS.trans (VS.drop hs) (VS.of_le hle)
theorem dropE {e : Ent} : List.Sublist h (e :: h) := List.sublist_cons_self _ _

/-- append(row, one), a newer variable standing ahead of the row. -/
theorem japp1 {α : Type} {f : α → List D} {xs : List α} {u : α} {T E : TypeId} {x y : Operand} {z : Value} {sz eb eb' : Nat} {v : Value} {e : Ent} (hx : evO ρ x = some (.val v)) (hy : evO ρ y = some (.d (.l sz eb' [f u]))) (hT : k.P.underlying T = some (.slice E)) (he : El k.P E z sz eb) (hz : z.cells.size = sz) (h0 : Nat.blt 0 sz = true)
    (hd : Nat.blt d k.n = true) (hb : (xs.length + 1) * eb ≤ 140737488355328) (hm : xs.length + 1 ≤ 140737488355328)
    (hj : All fun v' => JL k ops l Q ((d, .val v') :: ρ) (e :: rowE v' E sz f (xs ++ [u]) :: h)) :
    JL k ops (⟨some d, .call { callee := .builtin .append, args := #[x, y], argTypes := #[T, T] }, ty, pos, after, none⟩ :: l) Q ρ (e :: rowE v E sz f xs :: h) := by
  refine JL_append (h1 := [e]) (h2 := h) (rows := [u].map f) hT he hz (blt h0) (ev_of_evO hx) (ev_of_evO hy) rfl (by simpa using hb) (by simpa using hm) (fun t ht => by cases ht; exact blt hd) fun v' => ?_
  have := hj.get v'
  rw [rows_flat_snoc]
  unfold rowE at this
  rw [List.length_append] at this
  rw [List.length_map]
  exact this
/-- A variable of several cells. -/
theorem jallocN {T : TypeId} {z : Value} {sz eb : Nat} (hz : El k.P T z sz eb) (hd : Nat.blt d k.n = true)
    (hj : All fun b => JL k ops l Q ((d, .val (.pointer (some ⟨b, 0, none⟩))) :: ρ) (.cells b T (z.cells.toList.map AV.val) :: h)) : JL k ops (⟨some d, .alloc T, ty, pos, after, none⟩ :: l) Q ρ h :=
  JL_alloc hz (fun t ht => by cases ht; exact blt hd) hj.get
theorem jboxT {T : TypeId} {x : Operand} {cs : List AV} (hx : evO ρ x = some (.agg cs)) (hs : cs.all AV.flat = true) (hd : Nat.blt d k.n = true)
    (hj : All fun b => JL k ops l Q ((d, .val (.pointer (some ⟨b, 0, none⟩))) :: ρ) (.cells b T cs :: h)) : JL k ops (⟨some d, .box T x, ty, pos, after, none⟩ :: l) Q ρ h := jbox hx hs hd hj.get
theorem jbox1 {T : TypeId} {x : Operand} {r : AV} (hx : evO ρ x = some r) (hs : r.flat = true) (hd : Nat.blt d k.n = true)
    (hj : All fun b => JL k ops l Q ((d, .val (.pointer (some ⟨b, 0, none⟩))) :: ρ) (.cells b T [r] :: h)) : JL k ops (⟨some d, .box T x, ty, pos, after, none⟩ :: l) Q ρ h := by
  have hcl : r.cl = [r] := by cases r <;> first | rfl | cases hs
  have hst : r.stor = true := by cases r <;> first | exact hs | cases hs
  exact JL_box (ev_of_evO hx) hst (fun t ht => by cases ht; exact blt hd) fun b => by rw [hcl]; exact hj.get b
/-- A store of a whole struct into the newest variable. -/
theorem js_all {T T0 : TypeId} {x y : Operand} {b : Nat} {cs vs : List AV} {z : Value} {sz eb : Nat} (hx : evO ρ x = some (.val (.pointer (some ⟨b, 0, none⟩)))) (hy : evO ρ y = some (.agg cs)) (hs : cs.all AV.flat = true) (hE : El k.P T z sz eb) (hn : sz = cs.length) (hl : vs.length = cs.length)
    (hj : JL k ops l Q ρ (.cells b T0 cs :: h)) : JL k ops (⟨none, .store T x y, ty, pos, after, none⟩ :: l) Q ρ (.cells b T0 vs :: h) := by
  refine JL_store (h1 := []) (h2 := h) (off := 0) (r := .agg cs) (vs := vs) (ev_of_evO hx) (ev_of_evO hy) hs hE hn rfl (by simp [AV.cl, hl]) ?_
  have : setAt vs 0 (AV.agg cs).cl = cs := by simp [setAt, AV.cl, ← hl]
  rw [this]
  exact hj
/-- A store of one cell into the newest variable. -/
theorem js_head {T T0 : TypeId} {x y : Operand} {b : Nat} {r r0 : AV} {z : Value} {eb : Nat} (hx : evO ρ x = some (.val (.pointer (some ⟨b, 0, none⟩)))) (hy : evO ρ y = some r) (hs : r.flat = true) (hE : El k.P T z 1 eb)
    (hj : JL k ops l Q ρ (.cells b T0 [r] :: h)) : JL k ops (⟨none, .store T x y, ty, pos, after, none⟩ :: l) Q ρ (.cells b T0 [r0] :: h) := js_one (h1 := []) hx hy hs hE rfl hj
end
section
variable {P : Program} {G : List (Nat × List D)} {ρ : Env} {h : H} {dst : Option Tmp} {ty : TypeId} {pos : String} {after : Array Edge} {g : Option (Nat × Bool)}
theorem pu_load_cells_agg {T T0 : TypeId} {x : Operand} {b off : Nat} {vs : List AV} {z : Value} {sz eb : Nat} (hT : isAggB P T = some true) (hx : evO ρ x = some (.val (.pointer (some ⟨b, off, none⟩)))) (hE : El P T z sz eb) (hh : Ent.cells b T0 vs ∈ h) (hn : Nat.ble (off + sz) vs.length = true) :
    Pure P G ⟨dst, .load T x, ty, pos, after, g⟩ ρ h (.agg ((vs.drop off).take sz)) := pure_load_cells_agg hT hE (ev_of_evO hx) hh (Nat.le_of_ble_eq_true hn)
end
end Go.Av
