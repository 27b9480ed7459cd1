/-
  PLAIN, NO PROGRAM: rows that grow in a loop, literals, open orders, equal structs (over Ad).
-/
import Derived.Test.YtffdlpjbbkhcnaaAd
import Derived.Laws.StructEq
namespace Go.Av
open Go

structure Two (A B : Prop) : Prop where
  fst : A
  snd : B
structure Imp (c A : Prop) : Prop where
  get : c → A
structure All {α : Type} (p : α → Prop) : Prop where
  get : ∀ v, p v
theorem cmp {p r q : Prop} (g : r → q) (f : p → r) : p → q := fun h => g (f h)
theorem two {A B : Prop} (h1 : A) (h2 : B) : Two A B := ⟨h1, h2⟩
theorem imp {c A : Prop} (h : c → A) : Imp c A := ⟨h⟩
theorem all {α : Type} {p : α → Prop} (h : ∀ v, p v) : All p := ⟨h⟩
theorem cb_decT {p : Prop} [Decidable p] {A B : Prop} (h : Two (Imp p A) (Imp (¬ p) B)) : CB (decide p) A B := cb_dec h.1.get h.2.get
theorem cb_splitT {b : Bool} {A B : Prop} (h : Two (Imp (b = true) A) (Imp (b = false) B)) : CB b A B := cb_split h.1.get h.2.get

/-- A row of the call's own, its elements told. -/
abbrev rowE {α : Type} (v : Value) (E : TypeId) (sz : Nat) (f : α → List D) (xs : List α) : Ent := .row v xs.length E sz ((xs.map f).flatten.map D.av)

/-- The end of a body, seen through a view. -/
def retV (ts : List Tmp) (Q : AE → H → Prop) (e : Exit) (ρ : Env) (h : H) : Prop := ∃ ρ' h', VS ρ h ρ' h' ∧ retQ ts Q e ρ' h'
theorem retv {ts : List Tmp} {Q : AE → H → Prop} {e : Exit} {ρ ρ' : Env} {h h' : H} (v : VS ρ h ρ' h') (hq : retQ ts Q e ρ' h') : retV ts Q e ρ h := ⟨ρ', h', v, hq⟩
theorem retv0 {ts : List Tmp} {Q : AE → H → Prop} {e : Exit} {ρ : Env} {h : H} (hq : retQ ts Q e ρ h) : retV ts Q e ρ h := ⟨ρ, h, VS.of_le (Env.le_refl _), hq⟩
theorem AC_ofV {P : Program} {G : List (Nat × List D)} {f : FuncId} {fn : Func} {c : Code} {args : List AV} {h : H} {Q : AE → H → Prop} {ts : List Tmp} (n : Nat) (hf : P.funcs[f]? = some fn) (hb : fn.body = some c) (hn : fn.ntmps = n) (hr : fn.results = (ts.map ResultVar.tmp).toArray) (ha : args.length ≤ n)
    (hj : ∀ W I, J ⟨P, ⟨W, I, blks h, G⟩, n, []⟩ c (retV ts Q) (argsEnv 0 args) h) : AC P G f args h Q := by
  refine AC_of n hf hb hn hr ha fun W I => ?_
  intro I' a w h1 h2 h3
  refine wp_mono (hj W I I' a w h1 h2 h3) ?_
  rintro e a' w' ⟨I'', ρ, hh, k1, k2, k3, ρ', hh', v, q⟩
  obtain ⟨I3, m1, m2⟩ := v _ _ _ _ _ k1 k2
  exact ⟨I3, ρ', hh', m1, m2, k3, q⟩

section
variable {k : Kx} {Q : Exit → Env → H → Prop} {ρ ρ' : Env} {h h1 h2 : H} {ops : Array Oper} {l : List Oper} {d : Nat} {dst : Option Tmp} {ty : TypeId} {pos : String} {after : Array Edge} {g : Option (Nat × Bool)}

theorem rows_flat_snoc {α : Type} (f : α → List D) (xs ys : List α) : ((xs.map f).flatten.map D.av) ++ ((ys.map f).flatten.map D.av) = (((xs ++ ys).map f).flatten.map D.av) := by simp

/-- append(row, more...). -/
theorem japps {α : Type} {f : α → List D} {xs ys : List α} {T E : TypeId} {x y : Operand} {z : Value} {sz eb eb' : Nat} {v : Value} (hx : evO ρ x = some (.val v)) (hy : evO ρ y = some (.d (.l sz eb' (ys.map f)))) (hT : k.P.underlying T = some (.slice E)) (he : El k.P E z sz eb) (hz : z.cells.size = sz) (h0 : Nat.blt 0 sz = true)
    (hd : Nat.blt d k.n = true) (hb : (xs.length + ys.length) * eb ≤ 140737488355328) (hm : xs.length + ys.length ≤ 140737488355328)
    (hj : ∀ v', JL k ops l Q ((d, .val v') :: ρ) (rowE v' E sz f (xs ++ ys) :: h)) :
    JL k ops (⟨some d, .call { callee := .builtin .append, args := #[x, y], argTypes := #[T, T] }, ty, pos, after, none⟩ :: l) Q ρ (rowE v E sz f xs :: h) := by
  refine JL_append (h1 := []) (h2 := h) hT he hz (blt h0) (ev_of_evO hx) (ev_of_evO hy) rfl (by simpa using hb) (by simpa using hm) (fun t ht => by cases ht; exact blt hd) fun v' => ?_
  have := hj v'
  rw [List.nil_append, rows_flat_snoc]
  unfold rowE at this
  rw [List.length_append] at this
  rw [List.length_map]
  exact this
/-- append(row, one). -/
theorem japp {α : Type} {f : α → List D} {xs : List α} {u : α} {T E : TypeId} {x y : Operand} {z : Value} {sz eb eb' : Nat} {v : Value} (hx : evO ρ x = some (.val v)) (hy : evO ρ y = some (.d (.l sz eb' [f u]))) (hT : k.P.underlying T = some (.slice E)) (he : El k.P E z sz eb) (hz : z.cells.size = sz) (h0 : Nat.blt 0 sz = true)
    (hd : Nat.blt d k.n = true) (hb : (xs.length + 1) * eb ≤ 140737488355328) (hm : xs.length + 1 ≤ 140737488355328)
    (hj : All fun v' => JL k ops l Q ((d, .val v') :: ρ) (rowE v' E sz f (xs ++ [u]) :: h)) :
    JL k ops (⟨some d, .call { callee := .builtin .append, args := #[x, y], argTypes := #[T, T] }, ty, pos, after, none⟩ :: l) Q ρ (rowE v E sz f xs :: h) :=
  japps (ys := [u]) hx hy hT he hz h0 hd hb hm hj.get
/-- append(nothing, more...): new memory. -/
theorem japp_nil {α : Type} {f : α → List D} {ys : List α} {T E : TypeId} {x y : Operand} {z : Value} {sz eb eb' : Nat} (hx : evO ρ x = some (.val (.slice none 0 0))) (hy : evO ρ y = some (.d (.l sz eb' (ys.map f)))) (hT : k.P.underlying T = some (.slice E)) (he : El k.P E z sz eb) (hz : z.cells.size = sz) (h0 : Nat.blt 0 sz = true)
    (hd : Nat.blt d k.n = true) (hb : ys.length * eb ≤ 140737488355328) (hm : ys.length ≤ 140737488355328)
    (hj : ∀ v', JL k ops l Q ((d, .val v') :: ρ) (rowE v' E sz f ys :: h)) :
    JL k ops (⟨some d, .call { callee := .builtin .append, args := #[x, y], argTypes := #[T, T] }, ty, pos, after, none⟩ :: l) Q ρ h :=
  JL_vs (VS.nilrow E sz) (japps (xs := []) hx hy hT he hz h0 hd (by simpa using hb) (by simpa using hm) (by simpa using hj))
theorem vfreeze {α : Type} {f : α → List D} {xs : List α} {t : Nat} {v : Value} {E : TypeId} {sz eb : Nat} (ht : getO ρ t = some (.val v)) (h0 : Nat.blt 0 sz = true) (hsz : ∀ x, (f x).length = sz) (hb : xs.length * eb ≤ 140737488355328) :
    VS ρ (rowE v E sz f xs :: h) ((t, .d (.l sz eb (xs.map f))) :: ρ) h :=
  VS.freeze (h1 := []) (rows := xs.map f) (blt h0) (get_of_getO ht) rfl (by simp) (fun r hr => by obtain ⟨x, _, rfl⟩ := List.mem_map.1 hr; exact hsz x) hb
theorem jrow {α : Type} {E : TypeId} {sz : Nat} (f : α → List D) {x : Code} (hj : J k x Q ρ (rowE (.slice none 0 0) E sz f [] :: h)) : J k x Q ρ h := J_vs (VS.nilrow E sz) hj

theorem vnil {t : Nat} (sz eb : Nat) (ht : getO ρ t = some (.val (.slice none 0 0))) : VS ρ h ((t, .d (.l sz eb [])) :: ρ) h :=
  VS.of_le (Env.le_cons (by rw [get_of_getO ht]; exact AV.le_nil sz eb) (Env.le_refl _))
/-- append(nothing, more...), never written again. -/
theorem japp_copy {α : Type} {f : α → List D} {ys : List α} {T E : TypeId} {x y : Operand} {z : Value} {sz eb eb' : Nat} (hx : evO ρ x = some (.val (.slice none 0 0))) (hy : evO ρ y = some (.d (.l sz eb' (ys.map f)))) (hT : k.P.underlying T = some (.slice E)) (he : El k.P E z sz eb) (hz : z.cells.size = sz) (h0 : Nat.blt 0 sz = true)
    (hd : Nat.blt d k.n = true) (hsz : ∀ u, (f u).length = sz) (hb : ys.length * eb ≤ 140737488355328) (hm : ys.length ≤ 140737488355328)
    (hj : JL k ops l Q ((d, .d (.l sz eb (ys.map f))) :: ρ) h) :
    JL k ops (⟨some d, .call { callee := .builtin .append, args := #[x, y], argTypes := #[T, T] }, ty, pos, after, none⟩ :: l) Q ρ h :=
  japp_nil hx hy hT he hz h0 hd hb hm fun v => JL_vs (vfreeze (t := d) (v := v) (by simp [getO]) h0 hsz hb)
    (JL_le (fun t => by simp only [get]; cases Nat.beq d t <;> exact AV.le_refl _) hj)
/-! ### One-element literals -/
theorem jbuild1 {T E : TypeId} {x : Operand} {r : AV} {z : Value} {sz eb : Nat} {row : List D} (hT : k.P.underlying T = some (.slice E)) (he : El k.P E z sz eb) (h0 : 0 < sz) (hx : evO ρ x = some r) (hs : r.stor = true) (hr : r.cl = row.map D.av) (hsz : row.length = sz) (hb : eb ≤ 140737488355328) (hc : sz ≤ 16777216)
    (hd : Nat.blt d k.n = true) (hj : JL k ops l Q ((d, .d (.l sz eb [row])) :: ρ) h) : JL k ops (⟨some d, .buildSlice T 1 #[(0, x)], ty, pos, after, none⟩ :: l) Q ρ h :=
  JL_buildSlice (xs := [x]) (rows := [row]) hT he h0 rfl rfl (by simp [ev_of_evO hx, hr]) (by simpa [ev_of_evO hx] using hs) (by simpa using hsz) (by simpa using hb) (by simpa using hc) (fun t ht => by cases ht; exact blt hd) hj
theorem jbuild_int {T E : TypeId} {x : Operand} {n : Int} {z : Value} {eb : Nat} (hx : evO ρ x = some (.int n)) (hT : k.P.underlying T = some (.slice E)) (he : El k.P E z 1 eb) (hb : Nat.ble eb 1000000 = true)
    (hd : Nat.blt d k.n = true) (hj : JL k ops l Q ((d, .d (.l 1 eb [[.i .i64 n]])) :: ρ) h) : JL k ops (⟨some d, .buildSlice T 1 #[(0, x)], ty, pos, after, none⟩ :: l) Q ρ h :=
  jbuild1 hT he (by decide) hx rfl rfl rfl (Nat.le_trans (Nat.le_of_ble_eq_true hb) (by decide)) (by decide) hd hj
theorem jbuild_bool {T E : TypeId} {x : Operand} {n : Bool} {z : Value} {eb : Nat} (hx : evO ρ x = some (.bool n)) (hT : k.P.underlying T = some (.slice E)) (he : El k.P E z 1 eb) (hb : Nat.ble eb 1000000 = true)
    (hd : Nat.blt d k.n = true) (hj : JL k ops l Q ((d, .d (.l 1 eb [[.b n]])) :: ρ) h) : JL k ops (⟨some d, .buildSlice T 1 #[(0, x)], ty, pos, after, none⟩ :: l) Q ρ h :=
  jbuild1 hT he (by decide) hx rfl rfl rfl (Nat.le_trans (Nat.le_of_ble_eq_true hb) (by decide)) (by decide) hd hj
theorem jbuild_list {T E : TypeId} {x : Operand} {sz' eb' : Nat} {rows : List (List D)} {z : Value} {eb : Nat} (hx : evO ρ x = some (.d (.l sz' eb' rows))) (hT : k.P.underlying T = some (.slice E)) (he : El k.P E z 1 eb) (hb : Nat.ble eb 1000000 = true)
    (hd : Nat.blt d k.n = true) (hj : JL k ops l Q ((d, .d (.l 1 eb [[.l sz' eb' rows]])) :: ρ) h) : JL k ops (⟨some d, .buildSlice T 1 #[(0, x)], ty, pos, after, none⟩ :: l) Q ρ h :=
  jbuild1 hT he (by decide) hx rfl rfl rfl (Nat.le_trans (Nat.le_of_ble_eq_true hb) (by decide)) (by decide) hd hj
theorem all_av_flat (cs : List D) : (cs.map D.av).all AV.flat = true := by simp [D.av_flat]
theorem jbuild_agg {T E : TypeId} {x : Operand} {cs : List D} {z : Value} {sz eb : Nat} (hx : evO ρ x = some (.agg (cs.map D.av))) (hT : k.P.underlying T = some (.slice E)) (he : El k.P E z sz eb) (hsz : cs.length = sz) (h0 : Nat.blt 0 sz = true) (hb : Nat.ble eb 1000000 = true) (hc : Nat.ble sz 1000000 = true)
    (hd : Nat.blt d k.n = true) (hj : JL k ops l Q ((d, .d (.l sz eb [cs])) :: ρ) h) : JL k ops (⟨some d, .buildSlice T 1 #[(0, x)], ty, pos, after, none⟩ :: l) Q ρ h :=
  jbuild1 hT he (blt h0) hx (all_av_flat cs) rfl hsz (Nat.le_trans (Nat.le_of_ble_eq_true hb) (by decide)) (Nat.le_trans (Nat.le_of_ble_eq_true hc) (by decide)) hd hj

/-- A literal, as data of two numbers. -/
theorem jbuild_two {T E : TypeId} {x : Operand} {a b : Int} {z : Value} {eb : Nat} (hx : evO ρ x = some (.agg [.int a, .int b])) (hT : k.P.underlying T = some (.slice E)) (he : El k.P E z 2 eb) (hb : Nat.ble eb 1000000 = true)
    (hd : Nat.blt d k.n = true) (hj : JL k ops l Q ((d, .d (.l 2 eb [[.i .i64 a, .i .i64 b]])) :: ρ) h) : JL k ops (⟨some d, .buildSlice T 1 #[(0, x)], ty, pos, after, none⟩ :: l) Q ρ h :=
  jbuild1 hT he (by decide) hx rfl rfl rfl (Nat.le_trans (Nat.le_of_ble_eq_true hb) (by decide)) (by decide) hd hj
end

section
variable {P : Program} {G : List (Nat × List D)} {ρ : Env} {h : H} {dst : Option Tmp} {ty : TypeId} {pos : String} {after : Array Edge} {g : Option (Nat × Bool)}
theorem pu_slice {α : Type} {f : α → List D} {xs : List α} {T E : TypeId} {x lo hi : Operand} {sz eb : Nat} {m n : Int} {z : Value} {eb' : Nat} (hx : evO ρ x = some (.d (.l sz eb (xs.map f)))) (hlo : evO ρ lo = some (.int m)) (hhi : evO ρ hi = some (.int n)) (hT : P.underlying T = some (.slice E)) (hE : El P E z sz eb')
    (h0 : 0 ≤ m) (h1 : m ≤ n) (h2 : n ≤ xs.length) : Pure P G ⟨dst, .slice T x (some lo) (some hi) none, ty, pos, after, g⟩ ρ h (.d (.l sz eb (((xs.drop m.toNat).take (n.toNat - m.toNat)).map f))) := by
  rw [List.map_take, List.map_drop]
  exact pure_slice hT hE (ev_of_evO hx) (ev_of_evO hlo) (ev_of_evO hhi) h0 h1 (by rwa [List.length_map])
theorem pu_slice_from {α : Type} {f : α → List D} {xs : List α} {T E : TypeId} {x lo : Operand} {sz eb : Nat} {m : Int} {z : Value} {eb' : Nat} (hx : evO ρ x = some (.d (.l sz eb (xs.map f)))) (hlo : evO ρ lo = some (.int m)) (hT : P.underlying T = some (.slice E)) (hE : El P E z sz eb')
    (h0 : 0 ≤ m) (h2 : m ≤ xs.length) : Pure P G ⟨dst, .slice T x (some lo) none none, ty, pos, after, g⟩ ρ h (.d (.l sz eb ((xs.drop m.toNat).map f))) := by
  rw [List.map_drop]
  exact pure_slice_from hT hE (ev_of_evO hx) (ev_of_evO hlo) h0 (by rwa [List.length_map])
theorem pu_slice_to {α : Type} {f : α → List D} {xs : List α} {T E : TypeId} {x hi : Operand} {sz eb : Nat} {n : Int} {z : Value} {eb' : Nat} (hx : evO ρ x = some (.d (.l sz eb (xs.map f)))) (hhi : evO ρ hi = some (.int n)) (hT : P.underlying T = some (.slice E)) (hE : El P E z sz eb')
    (h0 : 0 ≤ n) (h2 : n ≤ xs.length) : Pure P G ⟨dst, .slice T x none (some hi) none, ty, pos, after, g⟩ ρ h (.d (.l sz eb ((xs.take n.toNat).map f))) := by
  rw [List.map_take]
  exact pure_slice_to hT hE (ev_of_evO hx) (ev_of_evO hhi) h0 (by rwa [List.length_map])
end
section
variable {P : Program} {G : List (Nat × List D)} {ρ : Env} {h : H} {dst : Option Tmp} {ty : TypeId} {pos : String} {after : Array Edge} {g : Option (Nat × Bool)}
theorem pu_max {x y : Operand} {m n : Int} {ats : Array TypeId} (hx : evO ρ x = some (.int m)) (hy : evO ρ y = some (.int n)) : Pure P G ⟨dst, .call { callee := .builtin .max, args := #[x, y], argTypes := ats }, ty, pos, after, g⟩ ρ h (.int (max m n)) :=
  pure_free fun w I _ a hs => ⟨_, rfl, fun w' => by
    have e1 := rel_val (hs.ev x) (ev_of_evO hx)
    have e2 := rel_val (hs.ev y) (ev_of_evO hy)
    have e3 : (if n > m then n else m) = max m n := by omega
    have hr : (Builtin.max_ ats ty #[.int .i64 m, .int .i64 n]).run P w' = .ok (.int .i64 (max m n)) w' := by rw [← e3]; simp [Builtin.max_, Builtin.max2]
    simp [execOp, resolve, invoke, builtin, e1, e2, hr]⟩
/-- A struct read whole, where nobody writes. -/
theorem pu_load_row {T : TypeId} {x : Operand} {cs : List D} {z : Value} {sz eb : Nat} (hT : isAggB P T = some true) (hx : ev ρ x = .pd cs) (hE : El P T z sz eb) (hn : sz = cs.length) : Pure P G ⟨dst, .load T x, ty, pos, after, g⟩ ρ h (.agg (cs.map D.av)) :=
  pure_load_agg hT hE hx (by rw [hn, List.take_length]) hn
/-- The type's values are equal where their two numbers are. -/
def Eq2 (P : Program) (T : TypeId) : Prop := P.eqGuardType P.depth T = false ∧ ∀ (a b c d : Int) w, (Op.equalIn 10000 T (.agg #[.int .i64 a, .int .i64 b]) (.agg #[.int .i64 c, .int .i64 d])).run P w = .ok (a == c && b == d) w
theorem pu_neq2 {T T' : TypeId} {x y : Operand} {a b c d : Int} (hT : Eq2 P T) (hx : evO ρ x = some (.agg [.int a, .int b])) (hy : evO ρ y = some (.agg [.int c, .int d])) :
    Pure P G ⟨dst, .binOp .neq T x y T', ty, pos, after, g⟩ ρ h (.bool (!(a == c && b == d))) :=
  pure_free fun w I _ s k => ⟨_, rfl, fun w' => by
    obtain ⟨vs, e1, r1⟩ := rel_as (k.ev x) (ev_of_evO hx)
    obtain ⟨us, e2, r2⟩ := rel_as (k.ev y) (ev_of_evO hy)
    obtain ⟨rfl⟩ : vs = [.int .i64 a, .int .i64 b] := by
      match vs, r1 with
      | [p, q], ⟨h1, h2, _⟩ => cases h1; cases h2; rfl
    obtain ⟨rfl⟩ : us = [.int .i64 c, .int .i64 d] := by
      match us, r2 with
      | [p, q], ⟨h1, h2, _⟩ => cases h1; cases h2; rfl
    simp [execOp, e1, e2, run_eqGuard_agg _ _ _ _ _ _ _ hT.1, run_neq_struct, hT.2]⟩
end
end Go.Av
