/-
  PLAIN, NO PROGRAM: more rules: stores into whatever variable, rows of truths, bits (over Az).
-/
import Derived.Test.YtffdlpjbbkhcnaaAz
import Derived.Laws.BitsLemmas
namespace Go.Av
open Go

section
variable {k : Kx} {Q : Exit → Env → H → Prop} {ρ ρ' : Env} {h h1 h2 : H} {ops : Array Oper} {l : List Oper} {d : Nat} {dst : Option Tmp} {ty : TypeId} {pos : String} {after : Array Edge} {g : Option (Nat × Bool)} {e1 e2 e3 e4 : Ent}
theorem flat_cl {r : AV} (hs : r.flat = true) : r.cl = [r] ∧ r.stor = true := by cases r <;> first | exact ⟨rfl, hs⟩ | cases hs
/-- A store of one cell, wherever its variable stands. -/
theorem js_set {T T0 : TypeId} {x y : Operand} {b off : Nat} {r : AV} {vs : List AV} {z : Value} {eb : Nat} (hx : evO ρ x = some (.val (.pointer (some ⟨b, off, none⟩)))) (hy : evO ρ y = some r) (hs : r.flat = true) (hE : El k.P T z 1 eb) (hh : h = h1 ++ .cells b T0 vs :: h2) (hl : off < vs.length)
    (hj : JL k ops l Q ρ (h1 ++ .cells b T0 (vs.set off r) :: h2)) : JL k ops (⟨none, .store T x y, ty, pos, after, none⟩ :: l) Q ρ h := by
  obtain ⟨hcl, hst⟩ := flat_cl hs
  refine JL_store (off := off) (r := r) (vs := vs) (ev_of_evO hx) (ev_of_evO hy) hst hE (by rw [hcl]; rfl) hh (by rw [hcl]; simp; omega) ?_
  rw [hcl, setAt_one _ _ _ hl]
  exact hj
/-- A store into a row of like cells. -/
theorem js_map {α : Type} {f : α → AV} {T T0 : TypeId} {x y : Operand} {b off : Nat} {a : α} {vs : List α} {z : Value} {eb : Nat} (hx : evO ρ x = some (.val (.pointer (some ⟨b, off, none⟩)))) (hh : h = h1 ++ .cells b T0 (vs.map f) :: h2) (hy : evO ρ y = some (f a)) (hs : (f a).flat = true) (hE : El k.P T z 1 eb) (hl : off < vs.length)
    (hj : JL k ops l Q ρ (h1 ++ .cells b T0 ((vs.set off a).map f) :: h2)) : JL k ops (⟨none, .store T x y, ty, pos, after, none⟩ :: l) Q ρ h := by
  refine js_set hx hy hs hE hh (by simpa using hl) ?_
  rw [List.map_set] at hj
  exact hj
theorem js_map0 {α : Type} {f : α → AV} {T T0 : TypeId} {x y : Operand} {b off : Nat} {a : α} {vs : List α} {z : Value} {eb : Nat} (hx : evO ρ x = some (.val (.pointer (some ⟨b, off, none⟩)))) (hy : evO ρ y = some (f a)) (hs : (f a).flat = true) (hE : El k.P T z 1 eb) (hl : off < vs.length)
    (hj : JL k ops l Q ρ (.cells b T0 ((vs.set off a).map f) :: h2)) : JL k ops (⟨none, .store T x y, ty, pos, after, none⟩ :: l) Q ρ (.cells b T0 (vs.map f) :: h2) := js_map (h1 := []) hx rfl hy hs hE hl hj
theorem js_map1 {α : Type} {f : α → AV} {T T0 : TypeId} {x y : Operand} {b off : Nat} {a : α} {vs : List α} {z : Value} {eb : Nat} (hx : evO ρ x = some (.val (.pointer (some ⟨b, off, none⟩)))) (hy : evO ρ y = some (f a)) (hs : (f a).flat = true) (hE : El k.P T z 1 eb) (hl : off < vs.length)
    (hj : JL k ops l Q ρ (e1 :: .cells b T0 ((vs.set off a).map f) :: h2)) : JL k ops (⟨none, .store T x y, ty, pos, after, none⟩ :: l) Q ρ (e1 :: .cells b T0 (vs.map f) :: h2) := js_map (h1 := [e1]) hx rfl hy hs hE hl hj
theorem js_map2 {α : Type} {f : α → AV} {T T0 : TypeId} {x y : Operand} {b off : Nat} {a : α} {vs : List α} {z : Value} {eb : Nat} (hx : evO ρ x = some (.val (.pointer (some ⟨b, off, none⟩)))) (hy : evO ρ y = some (f a)) (hs : (f a).flat = true) (hE : El k.P T z 1 eb) (hl : off < vs.length)
    (hj : JL k ops l Q ρ (e1 :: e2 :: .cells b T0 ((vs.set off a).map f) :: h2)) : JL k ops (⟨none, .store T x y, ty, pos, after, none⟩ :: l) Q ρ (e1 :: e2 :: .cells b T0 (vs.map f) :: h2) := js_map (h1 := [e1, e2]) hx rfl hy hs hE hl hj
theorem js_map3 {α : Type} {f : α → AV} {T T0 : TypeId} {x y : Operand} {b off : Nat} {a : α} {vs : List α} {z : Value} {eb : Nat} (hx : evO ρ x = some (.val (.pointer (some ⟨b, off, none⟩)))) (hy : evO ρ y = some (f a)) (hs : (f a).flat = true) (hE : El k.P T z 1 eb) (hl : off < vs.length)
    (hj : JL k ops l Q ρ (e1 :: e2 :: e3 :: .cells b T0 ((vs.set off a).map f) :: h2)) : JL k ops (⟨none, .store T x y, ty, pos, after, none⟩ :: l) Q ρ (e1 :: e2 :: e3 :: .cells b T0 (vs.map f) :: h2) := js_map (h1 := [e1, e2, e3]) hx rfl hy hs hE hl hj
/-- A store into a variable of one cell, behind newer ones. -/
theorem js_one1 {T T0 : TypeId} {x y : Operand} {b : Nat} {r r0 : AV} {z : Value} {eb : Nat} (hx : evO ρ x = some (.val (.pointer (some ⟨b, 0, none⟩)))) (hy : evO ρ y = some r) (hs : r.flat = true) (hE : El k.P T z 1 eb)
    (hj : JL k ops l Q ρ (e1 :: .cells b T0 [r] :: h2)) : JL k ops (⟨none, .store T x y, ty, pos, after, none⟩ :: l) Q ρ (e1 :: .cells b T0 [r0] :: h2) := js_one (h1 := [e1]) hx hy hs hE rfl hj
theorem js_one2 {T T0 : TypeId} {x y : Operand} {b : Nat} {r r0 : AV} {z : Value} {eb : Nat} (hx : evO ρ x = some (.val (.pointer (some ⟨b, 0, none⟩)))) (hy : evO ρ y = some r) (hs : r.flat = true) (hE : El k.P T z 1 eb)
    (hj : JL k ops l Q ρ (e1 :: e2 :: .cells b T0 [r] :: h2)) : JL k ops (⟨none, .store T x y, ty, pos, after, none⟩ :: l) Q ρ (e1 :: e2 :: .cells b T0 [r0] :: h2) := js_one (h1 := [e1, e2]) hx hy hs hE rfl hj
theorem js_one3 {T T0 : TypeId} {x y : Operand} {b : Nat} {r r0 : AV} {z : Value} {eb : Nat} (hx : evO ρ x = some (.val (.pointer (some ⟨b, 0, none⟩)))) (hy : evO ρ y = some r) (hs : r.flat = true) (hE : El k.P T z 1 eb)
    (hj : JL k ops l Q ρ (e1 :: e2 :: e3 :: .cells b T0 [r] :: h2)) : JL k ops (⟨none, .store T x y, ty, pos, after, none⟩ :: l) Q ρ (e1 :: e2 :: e3 :: .cells b T0 [r0] :: h2) := js_one (h1 := [e1, e2, e3]) hx hy hs hE rfl hj
/-- A variable of one cell. -/
theorem jalloc1T {T : TypeId} {z : Value} {eb : Nat} (hz : El k.P T z 1 eb) (h1 : z.oneCell' = true) (hd : Nat.blt d k.n = true)
    (hj : All fun b => JL k ops l Q ((d, .val (.pointer (some ⟨b, 0, none⟩))) :: ρ) (.cells b T [.val z] :: h)) : JL k ops (⟨some d, .alloc T, ty, pos, after, none⟩ :: l) Q ρ h := jalloc1 hz h1 hd hj.get
/-- make of a row of like cells. -/
theorem jmk {α : Type} (f : α → AV) (a : α) {z : Value} {T E : TypeId} {x : Operand} {n : Nat} {eb : Nat} (hx : evO ρ x = some (.int n)) (hT : k.P.underlying T = some (.slice E)) (hz : El k.P E z 1 eb) (hz1 : z.oneCell' = true) (hf : f a = .val z) (hb : eb * n ≤ 281474976710656) (hm : n ≤ 9223372036854775807) (hd : Nat.blt d k.n = true)
    (hj : All fun b => JL k ops l Q ((d, .val (.slice (some ⟨b, 0, none⟩) n n)) :: ρ) (.cells b E ((List.replicate n a).map f) :: h)) : JL k ops (⟨some d, .makeSlice T x x, ty, pos, after, none⟩ :: l) Q ρ h :=
  JL_make hT hz hz1 (ev_of_evO hx) hb hm (fun t ht => by cases ht; exact blt hd) fun b => by have := hj.get b; rwa [List.map_replicate, hf] at this
theorem jmk_bool {T E : TypeId} {x : Operand} {n : Nat} {eb : Nat} (hx : evO ρ x = some (.int n)) (hT : k.P.underlying T = some (.slice E)) (hz : El k.P E (.bool false) 1 eb) (hb : eb * n ≤ 281474976710656) (hm : n ≤ 9223372036854775807) (hd : Nat.blt d k.n = true)
    (hj : All fun b => JL k ops l Q ((d, .val (.slice (some ⟨b, 0, none⟩) n n)) :: ρ) (.cells b E ((List.replicate n false).map AV.bool) :: h)) : JL k ops (⟨some d, .makeSlice T x x, ty, pos, after, none⟩ :: l) Q ρ h :=
  jmk AV.bool false hx hT hz rfl rfl hb hm hd hj
theorem jmk_int {T E : TypeId} {x : Operand} {n : Nat} {eb : Nat} (hx : evO ρ x = some (.int n)) (hT : k.P.underlying T = some (.slice E)) (hz : El k.P E (.int .i64 0) 1 eb) (hb : eb * n ≤ 281474976710656) (hm : n ≤ 9223372036854775807) (hd : Nat.blt d k.n = true)
    (hj : All fun b => JL k ops l Q ((d, .val (.slice (some ⟨b, 0, none⟩) n n)) :: ρ) (.cells b E ((List.replicate n 0).map AV.int) :: h)) : JL k ops (⟨some d, .makeSlice T x x, ty, pos, after, none⟩ :: l) Q ρ h :=
  jmk AV.int 0 hx hT hz rfl rfl hb hm hd hj
end

theorem wraps_i64 (n : Int) (h0 : 0 ≤ n) (h1 : n < 2 ^ 63) : IntKind.i64.wrap n = n := wrap_in (by unfold inI64; omega)
theorem and1 {m : Int} (h0 : 0 ≤ m) (h1 : m ≤ 9223372036854775807) : bits .and .i64 m 1 = m % 2 := bits_mask .i64 63 (by decide) wraps_i64 1 (by decide) m h0 (by omega)
/-- One more bit, above all those that are there. -/
theorem or_join {x y : Int} (j : Nat) (hx0 : 0 ≤ x) (hx : x < 2 ^ j) (hy0 : 0 ≤ y) (hy : y % 2 ^ j = 0) (hj : (2 : Int) ^ j < 2 ^ 63) (hy1 : y < 2 ^ 63) : bits .or .i64 x y = x + y := by
  obtain ⟨a, rfl⟩ := Int.eq_ofNat_of_zero_le hx0
  obtain ⟨b, rfl⟩ := Int.eq_ofNat_of_zero_le hy0
  have ha : a < 2 ^ 63 := by have := Int.lt_trans hx hj; exact_mod_cast this
  have hb : b < 2 ^ 63 := by exact_mod_cast hy1
  have e1 := (bits_nat .i64 63 (by decide) wraps_i64 a b ha hb).2
  have e2 := (bits_nat .i64 63 (by decide) wraps_i64 b a hb ha).2
  have e3 := bits_join .i64 63 (by decide) wraps_i64 j (b : Int) (a : Int) hy0 hy hy1 hx0 hx (Int.lt_trans hx hj)
  rw [e2] at e3
  rw [e1, Nat.or_comm, e3, Int.add_comm]
section
variable {P : Program} {G : List (Nat × List D)} {ρ : Env} {h : H} {dst : Option Tmp} {ty : TypeId} {pos : String} {after : Array Edge} {g : Option (Nat × Bool)}
theorem pure_and1 {T T' : TypeId} {x y : Operand} {m : Int} (hx : ev ρ x = .int m) (hy : ev ρ y = .int 1) (h0 : 0 ≤ m) (h1 : m ≤ 9223372036854775807) : Pure P G ⟨dst, .binOp .and T x y T', ty, pos, after, g⟩ ρ h (.int (m % 2)) := by
  have := pure_and (P := P) (G := G) (T := T) (T' := T') (h := h) (dst := dst) (ty := ty) (pos := pos) (after := after) (g := g) hx hy
  rwa [and1 h0 h1] at this
end
/-- A row whose cells are all known becomes data, all variables are let go. -/
theorem vfz {α : Type} {f : α → List D} {g : α → AV} {xs : List α} {ρ : Env} {h h1 h2 : H} {t b n : Nat} {E : TypeId} (sz eb : Nat) (h0 : Nat.blt 0 sz = true) (ht : getO ρ t = some (.val (.slice (some ⟨b, 0, none⟩) n n))) (hh : h = h1 ++ .cells b E (xs.map g) :: h2)
    (hv : xs.map g = ((xs.map f).flatten).map D.av) (hn : xs.length = n) (hsz : ∀ a, (f a).length = sz) (hb : n * eb ≤ 140737488355328) (hm : n ≤ 140737488355328) : VS ρ h ((t, .d (.l sz eb (xs.map f))) :: ρ) [] :=
  VS.trans (VS.freezeCells (blt h0) (get_of_getO ht) hh hv (by simpa using hn) (fun r hr => by obtain ⟨a, _, rfl⟩ := List.mem_map.1 hr; exact hsz a) hb (by simpa [maxLen] using Nat.le_trans hm (by decide))) (VS.drop (List.nil_sublist _))
end Go.Av
