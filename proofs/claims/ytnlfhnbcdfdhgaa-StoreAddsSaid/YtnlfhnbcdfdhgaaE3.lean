/-
 PLAIN, NO PROGRAM: the logic over values: bits, results in variables, rows that become data, regions whose order is open with calls (over E2).
-/
import Derived.Test.YtnlfhnbcdfdhgaaE2
import Derived.Test.YtnlfhnbcdfdhgaaE1
import Derived.Laws.BitsLemmas
import Derived.Laws.BytesString
namespace Go.Av
open Go
set_option linter.unusedVariables false
set_option linter.unusedSimpArgs false

section
variable {k : Kx} {Q : Exit → Env → H → Prop} {ρ ρ' : Env} {h h1 h2 : H} {ops : Array Oper} {l : List Oper} {d : Nat} {dst : Option Tmp} {ty : TypeId} {pos : String} {after : Array Edge} {g : Option (Nat × Bool)} {e1 e2 e3 e4 : Ent}
theorem flat_cl {r : AV} (hs : r.flat = true) : r.cl = [r] ∧ r.stor = true := by cases r <;> first | exact ⟨rfl, hs⟩ | cases hs
/-- A store of one cell, wherever its variable stands. -/
theorem js_set {T T0 : TypeId} {x y : Operand} {b off : Nat} {r : AV} {vs : List AV} {z : Value} {eb : Nat} (hx : evO ρ x = some (.val (.pointer (some ⟨b, off, none⟩)))) (hy : evO ρ y = some r) (hs : r.flat = true) (hE : El k.P T z 1 eb) (hh : h = h1 ++ .cells b T0 vs :: h2) (hl : off < vs.length)
 (hj : JL k ops l Q ρ (h1 ++ .cells b T0 (vs.set off r) :: h2)) : JL k ops (⟨none, .store T x y, ty, pos, after, none⟩ :: l) Q ρ h := by
 obtain ⟨hcl, hst⟩ := flat_cl hs
 refine JL_store (off := off) (r := r) (vs := vs) (ev_of_evO hx) (ev_of_evO hy) hst hE (by rw [hcl]; rfl) hh (by rw [hcl]; simp; omega) ?_
 rw [hcl, setAt_one _ _ _ hl]
 exact hj
/-- A store into a row of like cells. -/
theorem js_map {α : Type} {f : α → AV} {T T0 : TypeId} {x y : Operand} {b off : Nat} {a : α} {vs : List α} {z : Value} {eb : Nat} (hx : evO ρ x = some (.val (.pointer (some ⟨b, off, none⟩)))) (hh : h = h1 ++ .cells b T0 (vs.map f) :: h2) (hy : evO ρ y = some (f a)) (hs : (f a).flat = true) (hE : El k.P T z 1 eb) (hl : off < vs.length)
 (hj : JL k ops l Q ρ (h1 ++ .cells b T0 ((vs.set off a).map f) :: h2)) : JL k ops (⟨none, .store T x y, ty, pos, after, none⟩ :: l) Q ρ h := by
 refine js_set hx hy hs hE hh (by simpa using hl) ?_
 rw [List.map_set] at hj
 exact hj
theorem js_map0 {α : Type} {f : α → AV} {T T0 : TypeId} {x y : Operand} {b off : Nat} {a : α} {vs : List α} {z : Value} {eb : Nat} (hx : evO ρ x = some (.val (.pointer (some ⟨b, off, none⟩)))) (hy : evO ρ y = some (f a)) (hs : (f a).flat = true) (hE : El k.P T z 1 eb) (hl : off < vs.length)
 (hj : JL k ops l Q ρ (.cells b T0 ((vs.set off a).map f) :: h2)) : JL k ops (⟨none, .store T x y, ty, pos, after, none⟩ :: l) Q ρ (.cells b T0 (vs.map f) :: h2) := js_map (h1 := []) hx rfl hy hs hE hl hj
theorem js_map1 {α : Type} {f : α → AV} {T T0 : TypeId} {x y : Operand} {b off : Nat} {a : α} {vs : List α} {z : Value} {eb : Nat} (hx : evO ρ x = some (.val (.pointer (some ⟨b, off, none⟩)))) (hy : evO ρ y = some (f a)) (hs : (f a).flat = true) (hE : El k.P T z 1 eb) (hl : off < vs.length)
 (hj : JL k ops l Q ρ (e1 :: .cells b T0 ((vs.set off a).map f) :: h2)) : JL k ops (⟨none, .store T x y, ty, pos, after, none⟩ :: l) Q ρ (e1 :: .cells b T0 (vs.map f) :: h2) := js_map (h1 := [e1]) hx rfl hy hs hE hl hj
theorem js_map2 {α : Type} {f : α → AV} {T T0 : TypeId} {x y : Operand} {b off : Nat} {a : α} {vs : List α} {z : Value} {eb : Nat} (hx : evO ρ x = some (.val (.pointer (some ⟨b, off, none⟩)))) (hy : evO ρ y = some (f a)) (hs : (f a).flat = true) (hE : El k.P T z 1 eb) (hl : off < vs.length)
 (hj : JL k ops l Q ρ (e1 :: e2 :: .cells b T0 ((vs.set off a).map f) :: h2)) : JL k ops (⟨none, .store T x y, ty, pos, after, none⟩ :: l) Q ρ (e1 :: e2 :: .cells b T0 (vs.map f) :: h2) := js_map (h1 := [e1, e2]) hx rfl hy hs hE hl hj
theorem js_map3 {α : Type} {f : α → AV} {T T0 : TypeId} {x y : Operand} {b off : Nat} {a : α} {vs : List α} {z : Value} {eb : Nat} (hx : evO ρ x = some (.val (.pointer (some ⟨b, off, none⟩)))) (hy : evO ρ y = some (f a)) (hs : (f a).flat = true) (hE : El k.P T z 1 eb) (hl : off < vs.length)
 (hj : JL k ops l Q ρ (e1 :: e2 :: e3 :: .cells b T0 ((vs.set off a).map f) :: h2)) : JL k ops (⟨none, .store T x y, ty, pos, after, none⟩ :: l) Q ρ (e1 :: e2 :: e3 :: .cells b T0 (vs.map f) :: h2) := js_map (h1 := [e1, e2, e3]) hx rfl hy hs hE hl hj
/-- A store into a variable of one cell, behind newer ones. -/
theorem js_one1 {T T0 : TypeId} {x y : Operand} {b : Nat} {r r0 : AV} {z : Value} {eb : Nat} (hx : evO ρ x = some (.val (.pointer (some ⟨b, 0, none⟩)))) (hy : evO ρ y = some r) (hs : r.flat = true) (hE : El k.P T z 1 eb)
 (hj : JL k ops l Q ρ (e1 :: .cells b T0 [r] :: h2)) : JL k ops (⟨none, .store T x y, ty, pos, after, none⟩ :: l) Q ρ (e1 :: .cells b T0 [r0] :: h2) := js_one (h1 := [e1]) hx hy hs hE rfl hj
theorem js_one2 {T T0 : TypeId} {x y : Operand} {b : Nat} {r r0 : AV} {z : Value} {eb : Nat} (hx : evO ρ x = some (.val (.pointer (some ⟨b, 0, none⟩)))) (hy : evO ρ y = some r) (hs : r.flat = true) (hE : El k.P T z 1 eb)
 (hj : JL k ops l Q ρ (e1 :: e2 :: .cells b T0 [r] :: h2)) : JL k ops (⟨none, .store T x y, ty, pos, after, none⟩ :: l) Q ρ (e1 :: e2 :: .cells b T0 [r0] :: h2) := js_one (h1 := [e1, e2]) hx hy hs hE rfl hj
theorem js_one3 {T T0 : TypeId} {x y : Operand} {b : Nat} {r r0 : AV} {z : Value} {eb : Nat} (hx : evO ρ x = some (.val (.pointer (some ⟨b, 0, none⟩)))) (hy : evO ρ y = some r) (hs : r.flat = true) (hE : El k.P T z 1 eb)
 (hj : JL k ops l Q ρ (e1 :: e2 :: e3 :: .cells b T0 [r] :: h2)) : JL k ops (⟨none, .store T x y, ty, pos, after, none⟩ :: l) Q ρ (e1 :: e2 :: e3 :: .cells b T0 [r0] :: h2) := js_one (h1 := [e1, e2, e3]) hx hy hs hE rfl hj
/-- A variable of one cell. -/
theorem jalloc1T {T : TypeId} {z : Value} {eb : Nat} (hz : El k.P T z 1 eb) (h1 : z.oneCell' = true) (hd : Nat.blt d k.n = true)
 (hj : All fun b => JL k ops l Q ((d, .val (.pointer (some ⟨b, 0, none⟩))) :: ρ) (.cells b T [.val z] :: h)) : JL k ops (⟨some d, .alloc T, ty, pos, after, none⟩ :: l) Q ρ h := jalloc1 hz h1 hd hj.get
/-- make of a row of like cells. -/
theorem jmk {α : Type} (f : α → AV) (a : α) {z : Value} {T E : TypeId} {x : Operand} {n : Nat} {eb : Nat} (hx : evO ρ x = some (.int n)) (hT : k.P.underlying T = some (.slice E)) (hz : El k.P E z 1 eb) (hz1 : z.oneCell' = true) (hf : f a = .val z) (hb : eb * n ≤ 281474976710656) (hm : n ≤ 9223372036854775807) (hd : Nat.blt d k.n = true)
 (hj : All fun b => JL k ops l Q ((d, .val (.slice (some ⟨b, 0, none⟩) n n)) :: ρ) (.cells b E ((List.replicate n a).map f) :: h)) : JL k ops (⟨some d, .makeSlice T x x, ty, pos, after, none⟩ :: l) Q ρ h :=
 JL_make hT hz hz1 (ev_of_evO hx) hb hm (fun t ht => by cases ht; exact blt hd) fun b => by have := hj.get b; rwa [List.map_replicate, hf] at this
theorem jmk_bool {T E : TypeId} {x : Operand} {n : Nat} {eb : Nat} (hx : evO ρ x = some (.int n)) (hT : k.P.underlying T = some (.slice E)) (hz : El k.P E (.bool false) 1 eb) (hb : eb * n ≤ 281474976710656) (hm : n ≤ 9223372036854775807) (hd : Nat.blt d k.n = true)
 (hj : All fun b => JL k ops l Q ((d, .val (.slice (some ⟨b, 0, none⟩) n n)) :: ρ) (.cells b E ((List.replicate n false).map AV.bool) :: h)) : JL k ops (⟨some d, .makeSlice T x x, ty, pos, after, none⟩ :: l) Q ρ h :=
 jmk AV.bool false hx hT hz rfl rfl hb hm hd hj
theorem jmk_int {T E : TypeId} {x : Operand} {n : Nat} {eb : Nat} (hx : evO ρ x = some (.int n)) (hT : k.P.underlying T = some (.slice E)) (hz : El k.P E (.int .i64 0) 1 eb) (hb : eb * n ≤ 281474976710656) (hm : n ≤ 9223372036854775807) (hd : Nat.blt d k.n = true)
 (hj : All fun b => JL k ops l Q ((d, .val (.slice (some ⟨b, 0, none⟩) n n)) :: ρ) (.cells b E ((List.replicate n 0).map AV.int) :: h)) : JL k ops (⟨some d, .makeSlice T x x, ty, pos, after, none⟩ :: l) Q ρ h :=
 jmk AV.int 0 hx hT hz rfl rfl hb hm hd hj
end

theorem wraps_i64 (n : Int) (h0 : 0 ≤ n) (h1 : n < 2 ^ 63) : IntKind.i64.wrap n = n := wrap_in (by unfold inI64; omega)
theorem and1 {m : Int} (h0 : 0 ≤ m) (h1 : m ≤ 9223372036854775807) : bits .and .i64 m 1 = m % 2 := bits_mask .i64 63 (by decide) wraps_i64 1 (by decide) m h0 (by omega)
/-- One more bit, above all those that are there. -/
theorem or_join {x y : Int} (j : Nat) (hx0 : 0 ≤ x) (hx : x < 2 ^ j) (hy0 : 0 ≤ y) (hy : y % 2 ^ j = 0) (hj : (2 : Int) ^ j < 2 ^ 63) (hy1 : y < 2 ^ 63) : bits .or .i64 x y = x + y := by
 obtain ⟨a, rfl⟩ := Int.eq_ofNat_of_zero_le hx0
 obtain ⟨b, rfl⟩ := Int.eq_ofNat_of_zero_le hy0
 have ha : a < 2 ^ 63 := by have := Int.lt_trans hx hj; exact_mod_cast this
 have hb : b < 2 ^ 63 := by exact_mod_cast hy1
 have e1 := (bits_nat .i64 63 (by decide) wraps_i64 a b ha hb).2
 have e2 := (bits_nat .i64 63 (by decide) wraps_i64 b a hb ha).2
 have e3 := bits_join .i64 63 (by decide) wraps_i64 j (b : Int) (a : Int) hy0 hy hy1 hx0 hx (Int.lt_trans hx hj)
 rw [e2] at e3
 rw [e1, Nat.or_comm, e3, Int.add_comm]
section
variable {P : Program} {G : List (Nat × List D)} {ρ : Env} {h : H} {dst : Option Tmp} {ty : TypeId} {pos : String} {after : Array Edge} {g : Option (Nat × Bool)}
theorem pure_and1 {T T' : TypeId} {x y : Operand} {m : Int} (hx : ev ρ x = .int m) (hy : ev ρ y = .int 1) (h0 : 0 ≤ m) (h1 : m ≤ 9223372036854775807) : Pure P G ⟨dst, .binOp .and T x y T', ty, pos, after, g⟩ ρ h (.int (m % 2)) := by
 have := pure_and (P := P) (G := G) (T := T) (T' := T') (h := h) (dst := dst) (ty := ty) (pos := pos) (after := after) (g := g) hx hy
 rwa [and1 h0 h1] at this
end
/-- A row whose cells are all known becomes data, all variables are let go. -/
theorem vfz {α : Type} {f : α → List D} {g : α → AV} {xs : List α} {ρ : Env} {h h1 h2 : H} {t b n : Nat} {E : TypeId} (sz eb : Nat) (h0 : Nat.blt 0 sz = true) (ht : getO ρ t = some (.val (.slice (some ⟨b, 0, none⟩) n n))) (hh : h = h1 ++ .cells b E (xs.map g) :: h2)
 (hv : xs.map g = ((xs.map f).flatten).map D.av) (hn : xs.length = n) (hsz : ∀ a, (f a).length = sz) (hb : n * eb ≤ 140737488355328) (hm : n ≤ 140737488355328) : VS ρ h ((t, .d (.l sz eb (xs.map f))) :: ρ) [] :=
 VS.trans (VS.freezeCells (blt h0) (get_of_getO ht) hh hv (by simpa using hn) (fun r hr => by obtain ⟨a, _, rfl⟩ := List.mem_map.1 hr; exact hsz a) hb (by simpa [maxLen] using Nat.le_trans hm (by decide))) (VS.drop (List.nil_sublist _))
end Go.Av
namespace Go.Av
open Go
set_option linter.unusedVariables false
set_option linter.unusedSimpArgs false

/-! ### Results in variables -/
def resSem (tmps : Array Value) : ResultVar → Sem Value
 | .tmp t => pure (tmps.getD t undef)
 | .cell a t => do loadVar t (← asAddr (tmps.getD a undef))
def RV1 (P : Program) (G : List (Nat × List D)) (ρ : Env) (h : H) (r : ResultVar) (x : AV) : Prop :=
 ∀ (c : Cx) (I : Nat → Prop) (n : Nat) (a : Act) (w : World), c.G = G → Ok c I h w → SF n w I ρ a → ∃ v, AV.rel w I x v ∧ (resSem a.tmps r).run P w = .ok v w
def RVs (P : Program) (G : List (Nat × List D)) (ρ : Env) (h : H) : List ResultVar → List AV → Prop
 | [], [] => True
 | r :: rs, x :: xs => RV1 P G ρ h r x ∧ RVs P G ρ h rs xs
 | _, _ => False
def tupAV : List AV → AV
 | [x] => x
 | xs => .tup xs
theorem mapM_results {P : Program} {G : List (Nat × List D)} {ρ : Env} {h : H} {c : Cx} {I : Nat → Prop} {n : Nat} {a : Act} {w : World} (hG : c.G = G) (k : Ok c I h w) (s : SF n w I ρ a) : ∀ {rs : List ResultVar} {xs : List AV}, RVs P G ρ h rs xs →
 ∃ vs, (List.mapM (resSem a.tmps) rs).run P w = .ok vs w ∧ AV.rels w I xs vs
 | [], [], _ => ⟨[], rfl, trivial⟩
 | r :: rs, x :: xs, ⟨h1, h2⟩ => by
   obtain ⟨v, e1, e2⟩ := h1 c I n a w hG k s
   obtain ⟨vs, f1, f2⟩ := mapM_results hG k s h2
   refine ⟨v :: vs, ?_, e1, f2⟩
   rw [List.mapM_cons]
   simp only [Sem.run_bind, Sem.run_pure, Result.andThen_ok, e2, f1]
theorem run_resultsR {P : Program} {fn : Func} {rs : List ResultVar} (hr : fn.results = rs.toArray) {tmps : Array Value} {w : World} {vs : List Value} (hm : (List.mapM (resSem tmps) rs).run P w = .ok vs w) :
 (results fn tmps).run P w = .ok (if h : vs.toArray.size = 1 then vs.toArray[0] else .tuple vs.toArray) w := by
 have e : (fun (x : ResultVar) => (match x with | .tmp t => pure (tmps.getD t undef) | .cell a t => do loadVar t (← asAddr (tmps.getD a undef)) : Sem Value)) = resSem tmps := by
  funext x; cases x <;> rfl
 unfold results
 rw [hr]
 simp only [List.mapM_toArray, Sem.run_bind, Sem.run_map]
 erw [e]
 rw [hm]
 rfl
def retR (P : Program) (G : List (Nat × List D)) (rs : List ResultVar) (Q : AE → H → Prop) (e : Exit) (ρ : Env) (h : H) : Prop :=
 match e with
 | .normal => ∃ ρ1 h1 xs h', VS ρ h ρ1 h1 ∧ RVs P G ρ1 h1 rs xs ∧ List.Sublist h' h1 ∧ Q (.ret (tupAV xs)) h'
 | .ret => ∃ ρ1 h1 xs h', VS ρ h ρ1 h1 ∧ RVs P G ρ1 h1 rs xs ∧ List.Sublist h' h1 ∧ Q (.ret (tupAV xs)) h'
 | .panic ch => Q (.pan ch) h
 | _ => False
theorem tup_rel {w : World} {I : Nat → Prop} {xs : List AV} {vs : List Value} (h : AV.rels w I xs vs) : AV.rel w I (tupAV xs) (if h : vs.toArray.size = 1 then vs.toArray[0] else .tuple vs.toArray) := by
 match xs, vs, h with
 | [], [], _ => exact ⟨[], rfl, trivial⟩
 | [x], [v], h => exact h.1
 | x :: y :: xs, u :: v :: vs, h =>
   rw [dif_neg (by simp)]
   exact ⟨_, rfl, h⟩
theorem Ok.sub {c : Cx} {I : Nat → Prop} {h h' : H} {w : World} (h1 : Ok c I h w) (hs : List.Sublist h' h) : Ok c I h' w :=
 { ent := fun e he => h1.ent e (hs.subset he), nd := h1.nd.sublist (blks_sublist hs), imm := fun b hb => ⟨(h1.imm b hb).1, fun hm => (h1.imm b hb).2 ((blks_sublist hs).subset hm)⟩,
   new := fun b hb => h1.new b ((blks_sublist hs).subset hb), inew := h1.inew, sup := h1.sup, os := h1.os, tape := h1.tape, output := h1.output, size := h1.size, keep := h1.keep, glob := h1.glob }
theorem AC_ofR {P : Program} {G : List (Nat × List D)} {f : FuncId} {fn : Func} {c : Code} {args : List AV} {h : H} {Q : AE → H → Prop} {rs : List ResultVar} (n : Nat) (hf : P.funcs[f]? = some fn) (hb : fn.body = some c) (hn : fn.ntmps = n) (hr : fn.results = rs.toArray) (ha : args.length ≤ n)
 (hj : ∀ W I, J ⟨P, ⟨W, I, blks h, G⟩, n, []⟩ c (retR P G rs Q) (argsEnv 0 args) h) : AC P G f args h Q := by
 intro I W vs h1 h2 h3 hG h4
 have hlen := AV.rels_length h4
 refine calls_of_wp hf hb ?_
 have hok : Ok ⟨W, I, blks h, G⟩ I h W :=
  { ent := h1, nd := h2, imm := h3, new := fun b hb => .inl hb, inew := fun b hb => .inl hb, sup := fun b hb => hb, os := rfl, tape := rfl, output := rfl, size := Nat.le_refl _, keep := fun _ _ _ => rfl, glob := hG }
 have hsf : SF n W I (argsEnv 0 args) { tmps := vs.toArray ++ Array.replicate (fn.ntmps - vs.toArray.size) undef, defers := [] } := by
  refine ⟨by simp [hn]; omega, fun t => ?_⟩
  have := get_argsEnv W I args vs 0 t h4
  simp only [Nat.zero_le, if_true, Nat.sub_zero] at this
  have e : (vs.toArray ++ Array.replicate (fn.ntmps - vs.toArray.size) undef).getD t undef = (vs[t]?).getD undef := by
   rw [Array.getD_eq_getD_getElem?, Array.getElem?_append]
   by_cases ht : t < vs.length
   · simp [ht]
   · simp only [List.size_toArray, ht, if_false]
     rw [List.getElem?_eq_none (by omega)]
     simp only [Array.getElem?_replicate]
     split <;> rfl
  rw [e]; exact this
 refine wp_mono (hj W I I _ W hok hsf rfl) ?_
 rintro e a w ⟨I', ρ', h', k1, k2, k3, k4⟩
 have fin : (∃ ρ1 h1 xs h'', VS ρ' h' ρ1 h1 ∧ RVs P G ρ1 h1 rs xs ∧ List.Sublist h'' h1 ∧ Q (.ret (tupAV xs)) h'') → ∃ v, (results fn a.tmps).run P w = .ok v w ∧ ACpost G W I h Q (.returned v) w := by
  rintro ⟨ρ1, hh1, xs, h'', v, hrv, hsub, hq⟩
  obtain ⟨I1, m1, m2⟩ := v _ _ _ _ _ k1 k2
  obtain ⟨us, e1, e2⟩ := mapM_results rfl m1 m2 hrv
  exact ⟨_, run_resultsR hr e1, _, h'', I1, hq, m1.sub hsub, tup_rel e2⟩
 cases e with
 | normal => obtain ⟨v, e1, e2⟩ := fin k4; exact ⟨k3, v, e1, e2⟩
 | ret => obtain ⟨v, e1, e2⟩ := fin k4; exact ⟨k3, v, e1, e2⟩
 | panic ch => exact ⟨k3, _, h', I', k4, k1, rfl⟩
 | exit _ => exact k4.elim
 | goto _ => exact k4.elim
 | outgrown => exact k4.elim
theorem retr {P : Program} {G : List (Nat × List D)} {rs : List ResultVar} {Q : AE → H → Prop} {e : Exit} {ρ ρ1 : Env} {h h1 h' : H} {xs : List AV} (v : VS ρ h ρ1 h1) (hrv : RVs P G ρ1 h1 rs xs) (he : retE e = true) (hs : List.Sublist h' h1) (hq : Q (.ret (tupAV xs)) h') : retR P G rs Q e ρ h := by
 cases e <;> first | exact ⟨ρ1, h1, xs, h', v, hrv, hs, hq⟩ | cases he
theorem retr0 {P : Program} {G : List (Nat × List D)} {rs : List ResultVar} {Q : AE → H → Prop} {e : Exit} {ρ : Env} {h h' : H} {xs : List AV} (hrv : RVs P G ρ h rs xs) (he : retE e = true) (hs : List.Sublist h' h) (hq : Q (.ret (tupAV xs)) h') : retR P G rs Q e ρ h :=
 retr (VS.of_le (Env.le_refl _)) hrv he hs hq
section
variable {P : Program} {G : List (Nat × List D)} {ρ : Env} {h : H}
theorem rv_tmp {t : Nat} {x : AV} (hx : getO ρ t = some x) : RV1 P G ρ h (.tmp t) x := fun _ I _ a w _ _ s => ⟨a.tmps.getD t undef, by have := s.2 t; rw [get_of_getO hx] at this; exact this, rfl⟩
theorem rv_cell {r T b : Nat} {T0 : TypeId} {x : AV} (hT : isAggB P T = some false) (hx : getO ρ r = some (.val (.pointer (some ⟨b, 0, none⟩)))) (hm : Ent.cells b T0 [x] ∈ h) : RV1 P G ρ h (.cell r T) x := fun _ I _ a w _ k s => by
 obtain ⟨cs, hc1, hc2⟩ := k.ent _ hm
 obtain ⟨v, hv, hrv⟩ := AV.rels_get hc2 0 x rfl
 refine ⟨v, hrv, ?_⟩
 have e1 := rel_val (s.2 r) (get_of_getO hx)
 have hcell : w.cell? ⟨b, 0, none⟩ = some v := by rw [cell_of_row w b 0 cs T0 (0, 0) hc1]; simpa using hv
 rw [Array.getD_eq_getD_getElem?] at e1
 simp [resSem, e1, asAddr, loadVar, run_isAgg hT, run_load, hcell]
theorem rv_agg {r T b : Nat} {T0 : TypeId} {vs : List AV} {z : Value} {sz eb : Nat} (hT : isAggB P T = some true) (hE : El P T z sz eb) (hx : getO ρ r = some (.val (.pointer (some ⟨b, 0, none⟩)))) (hm : Ent.cells b T0 vs ∈ h) (hn : sz = vs.length) : RV1 P G ρ h (.cell r T) (.agg vs) := fun _ I _ a w _ k s => by
 obtain ⟨i, hi, _, rfl, _⟩ := hE.get
 obtain ⟨cs, hc1, hc2⟩ := k.ent _ hm
 have hlen : cs.toList.length = vs.length := (AV.rels_length hc2).symm
 refine ⟨.agg cs.toList.toArray, ⟨_, rfl, hc2⟩, ?_⟩
 have e1 := rel_val (s.2 r) (get_of_getO hx)
 have hload := run_loadCells_list (P := P) w ⟨b, 0, none⟩ cs.toList fun j v hv => by
  rw [Addr.add_lit, Nat.zero_add, cell_of_row w b j cs T0 (0, 0) hc1]
  simpa using hv
 have hsz : cs.toList.length = i.size := by rw [hlen, hn]
 rw [hsz] at hload
 rw [Array.getD_eq_getD_getElem?] at e1
 simp [resSem, e1, asAddr, loadVar, run_isAgg hT, sizeOf, typeInfo, hi, hload]
end

/-! ### Rows that become data, wherever they are told -/
mutual
/-- What is told of the value v as it was, or as the datum d. -/
inductive Cv (v : Value) (d : D) : AV → AV → Prop where
 | same (x : AV) : Cv v d x x
 | here : Cv v d (.val v) (.d d)
 | agg {xs ys : List AV} (h : Cvs v d xs ys) : Cv v d (.agg xs) (.agg ys)
inductive Cvs (v : Value) (d : D) : List AV → List AV → Prop where
 | nil : Cvs v d [] []
 | cons {x y : AV} {xs ys : List AV} (h1 : Cv v d x y) (h2 : Cvs v d xs ys) : Cvs v d (x :: xs) (y :: ys)
end
mutual
theorem Cv.rel {v : Value} {d : D} {w : World} {I : Nat → Prop} (hr : Rel w I d v) : ∀ {x y : AV} {u : Value}, Cv v d x y → AV.rel w I x u → AV.rel w I y u
 | _, _, _, .same x, h => h
 | _, _, _, .here, h => by cases h; exact hr
 | _, _, _, .agg hc, ⟨vs, h1, h2⟩ => ⟨vs, h1, Cvs.rel hr hc h2⟩
theorem Cvs.rel {v : Value} {d : D} {w : World} {I : Nat → Prop} (hr : Rel w I d v) : ∀ {xs ys : List AV} {us : List Value}, Cvs v d xs ys → AV.rels w I xs us → AV.rels w I ys us
 | [], [], us, .nil, h => h
 | _ :: _, _ :: _, u :: us, .cons h1 h2, ⟨g1, g2⟩ => ⟨Cv.rel hr h1 g1, Cvs.rel hr h2 g2⟩
end
def CvE (v : Value) (d : D) (ρ ρ' : Env) : Prop := ∀ t, Cv v d (get ρ t) (get ρ' t)
theorem CvE.refl (v : Value) (d : D) (ρ : Env) : CvE v d ρ ρ := fun _ => .same _
theorem CvE.cons {v : Value} {d : D} {ρ ρ' : Env} {t : Nat} {x y : AV} (hx : getO ρ t = some x) (hc : Cv v d x y) (h : CvE v d ρ ρ') : CvE v d ρ ((t, y) :: ρ') := fun s => by
 simp only [get]
 cases hb : Nat.beq t s with
 | true => rw [← Nat.eq_of_beq_eq_true hb, get_of_getO hx]; exact hc
 | false => exact h s
inductive CvH (v : Value) (d : D) : H → H → Prop where
 | refl (h : H) : CvH v d h h
 | keep {e : Ent} {h h' : H} (k : CvH v d h h') : CvH v d (e :: h) (e :: h')
 | cells {b : Nat} {T : TypeId} {vs vs' : List AV} {h h' : H} (hc : Cvs v d vs vs') (k : CvH v d h h') : CvH v d (.cells b T vs :: h) (.cells b T vs' :: h')
theorem CvH.blks {v : Value} {d : D} {h h' : H} (k : CvH v d h h') : blks h' = blks h := by
 induction k with
 | refl h => rfl
 | keep k ih => rename_i e _ _; simp only [Av.blks, List.filterMap_cons] at ih ⊢; rw [ih]
 | cells hc k ih => simp only [Av.blks, List.filterMap_cons, Ent.blk] at ih ⊢; rw [ih]
theorem CvH.ent {v : Value} {d : D} {w : World} {I : Nat → Prop} (hr : Rel w I d v) {h h' : H} (k : CvH v d h h') : (∀ e ∈ h, e.rel w I) → ∀ e ∈ h', e.rel w I := by
 induction k with
 | refl h => exact fun h => h
 | keep k ih =>
   intro hh e he
   rcases List.mem_cons.1 he with rfl | he
   · exact hh _ (by simp)
   · exact ih (fun e he => hh e (by simp [he])) e he
 | cells hc k ih =>
   intro hh e he
   rcases List.mem_cons.1 he with rfl | he
   · obtain ⟨cs, h1, h2⟩ := hh _ List.mem_cons_self
     exact ⟨cs, h1, hc.rel hr h2⟩
   · exact ih (fun e he => hh e (by simp [he])) e he
theorem Ok.conv {c : Cx} {I : Nat → Prop} {h h' : H} {w : World} {v : Value} {d : D} (k : Ok c I h w) (hr : Rel w I d v) (hc : CvH v d h h') : Ok c I h' w :=
 { ent := hc.ent hr k.ent, nd := hc.blks ▸ k.nd, imm := fun b hb => hc.blks ▸ k.imm b hb, new := fun b hb => k.new b (hc.blks ▸ hb), inew := k.inew, sup := k.sup, os := k.os, tape := k.tape, output := k.output, size := k.size, keep := k.keep, glob := k.glob }
theorem SF.conv {n : Nat} {w : World} {I : Nat → Prop} {ρ ρ' : Env} {a : Act} {v : Value} {d : D} (f : SF n w I ρ a) (hr : Rel w I d v) (hc : CvE v d ρ ρ') : SF n w I ρ' a := ⟨f.1, fun t => (hc t).rel hr (f.2 t)⟩

theorem row_rel {c : Cx} {I : Nat → Prop} {w : World} {v : Value} {n : Nat} {E : TypeId} {sz : Nat} (eb : Nat) {rows : List (List D)} {h1 h2 : H} (k1 : Ok c I (h1 ++ .row v n E sz (rows.flatten.map D.av) :: h2) w) (h0 : 0 < sz) (hn : rows.length = n) (hsz : ∀ r ∈ rows, r.length = sz) (hb : n * eb ≤ 140737488355328) :
 ∃ I' : Nat → Prop, Ok c I' (h1 ++ h2) w ∧ (∀ b, I b → I' b) ∧ Rel w I' (.l sz eb rows) v := by
 obtain ⟨os, ho, hos⟩ := k1.ent (.row v n E sz (rows.flatten.map D.av)) (by simp)
 rcases ho.2 with ⟨rfl, rfl⟩ | ⟨g, cap, cur, rfl, _, hg, hnc, hcm, hcs, htake⟩
 · have : rows = [] := List.eq_nil_of_length_eq_zero hn
   subst this
   have hok : Ok c I (h1 ++ h2) w := by
    have hbe : blks (h1 ++ Ent.row (.slice none 0 0) 0 E sz (List.map D.av [].flatten) :: h2) = blks (h1 ++ h2) := by rw [blks_append, blks_append]; rfl
    exact { ent := fun e he => k1.ent e (((List.sublist_cons_self _ h2).append_left h1).subset he), nd := hbe ▸ k1.nd, imm := fun b hb => hbe ▸ k1.imm b hb, new := fun b hb => k1.new b (hbe ▸ hb), inew := k1.inew, sup := k1.sup, os := k1.os, tape := k1.tape, output := k1.output, size := k1.size, keep := k1.keep, glob := k1.glob }
   exact ⟨I, hok, fun _ h => h, .nil sz eb⟩
 · have hok := k1.release (b := g) (e := .row (.slice (some ⟨g, 0, none⟩) n cap) n E sz (rows.flatten.map D.av)) rfl
   refine ⟨_, hok, fun _ h => .inl h, ?_⟩
   subst hn
   have hcell : ∀ q x, rows.flatten[q]? = some x → ∃ c, w.cell? ((⟨g, 0, none⟩ : Addr).add q) = some c ∧ Rel w I x c := fun q x hx => by
    obtain ⟨c, hc1, hc2⟩ := AV.rels_get hos q x.av (by rw [List.getElem?_map, hx]; rfl)
    exact ⟨c, ho.cells (g := g) rfl q c hc1, D.av_rel' hc2⟩
   have hq : ∀ (j u : Nat) (r : List D) (x : D), rows[j]? = some r → r[u]? = some x → rows.flatten[j * sz + u]? = some x := fun j u r x hr hx => by
    have hu : u < sz := by
     have := (List.getElem?_eq_some_iff.1 hx).1
     rwa [hsz r (List.mem_of_getElem? hr)] at this
    rw [flatten_get h0 rows hsz, Nat.add_comm, Nat.add_mul_div_right _ _ h0, Nat.add_mul_mod_self_right, Nat.div_eq_of_lt hu, Nat.mod_eq_of_lt hu, Nat.zero_add, hr]
    exact hx
   refine .l sz eb rows ⟨g, 0, none⟩ cap (fun j u => (w.cell? ((⟨g, 0, none⟩ : Addr).add (j * sz + u))).getD undef) (.inr rfl) hnc hcm hb hsz (fun j u r x hr hx => ?_) (fun j u r x hr hx => ?_)
   · obtain ⟨c, hc1, _⟩ := hcell _ x (hq j u r x hr hx)
     simp only [hc1, Option.getD_some]
   · obtain ⟨c, hc1, hc2⟩ := hcell _ x (hq j u r x hr hx)
     simp only [hc1, Option.getD_some]
     exact hc2.mono (fun _ _ => rfl) fun _ h => .inl h
theorem cells_rel {c : Cx} {I : Nat → Prop} {w : World} {b n : Nat} {E : TypeId} {sz : Nat} (eb : Nat) {rows : List (List D)} {h1 h2 : H} (k1 : Ok c I (h1 ++ .cells b E (rows.flatten.map D.av) :: h2) w) (h0 : 0 < sz) (hn : rows.length = n) (hsz : ∀ r ∈ rows, r.length = sz) (hb : n * eb ≤ 140737488355328) (hm : n ≤ maxLen) :
 ∃ I' : Nat → Prop, Ok c I' (h1 ++ h2) w ∧ (∀ b, I b → I' b) ∧ Rel w I' (.l sz eb rows) (.slice (some ⟨b, 0, none⟩) n n) := by
 subst hn
 have hbr := bord_row (h := h1 ++ .cells b E (rows.flatten.map D.av) :: h2) (b := b) (E := E) (eb := eb) (by simp) h0 rfl rfl hsz hb hm
 refine ⟨_, k1.release (b := b) rfl, fun _ h => .inl h, ?_⟩
 obtain ⟨cs, hc1, hc2⟩ := k1.ent (.cells b E (rows.flatten.map D.av)) (by simp)
 have hcell : ∀ q x, rows.flatten[q]? = some x → ∃ c, w.cell? ((⟨b, 0, none⟩ : Addr).add q) = some c ∧ Rel w I x c := fun q x hx => by
  obtain ⟨c, hc3, hc4⟩ := AV.rels_get hc2 q x.av (by rw [List.getElem?_map, hx]; rfl)
  refine ⟨c, ?_, D.av_rel' hc4⟩
  rw [Addr.add_lit, Nat.zero_add, cell_of_row w b q cs E (0, 0) hc1]
  simpa using hc3
 have hq : ∀ (j u : Nat) (r : List D) (x : D), rows[j]? = some r → r[u]? = some x → rows.flatten[j * sz + u]? = some x := fun j u r x hr hx => by
  have hu : u < sz := by
   have := (List.getElem?_eq_some_iff.1 hx).1
   rwa [hsz r (List.mem_of_getElem? hr)] at this
  rw [flatten_get h0 rows hsz, Nat.add_comm, Nat.add_mul_div_right _ _ h0, Nat.add_mul_mod_self_right, Nat.div_eq_of_lt hu, Nat.mod_eq_of_lt hu, Nat.zero_add, hr]
  exact hx
 refine Rel.l sz eb rows ⟨b, 0, none⟩ rows.length (fun j u => (w.cell? ((⟨b, 0, none⟩ : Addr).add (j * sz + u))).getD undef) (.inr rfl) (Nat.le_refl _) hm hb hsz (fun j u r x hr hx => ?_) (fun j u r x hr hx => ?_)
 · obtain ⟨c, hc3, _⟩ := hcell _ x (hq j u r x hr hx)
   simp only [hc3, Option.getD_some]
 · obtain ⟨c, hc3, hc4⟩ := hcell _ x (hq j u r x hr hx)
   simp only [hc3, Option.getD_some]
   exact hc4.mono (fun _ _ => rfl) fun _ h => .inl h
/-- A row becomes data, wherever it is told. -/
theorem vdat {α : Type} {f : α → List D} {xs : List α} {ρ ρ' : Env} {h h1 h2 h' : H} {v : Value} {E : TypeId} {sz : Nat} (eb : Nat) (h0 : Nat.blt 0 sz = true) (hh : h = h1 ++ rowE v E sz f xs :: h2) (hsz : ∀ a, (f a).length = sz) (hb : xs.length * eb ≤ 140737488355328)
 (hρ : CvE v (.l sz eb (xs.map f)) ρ ρ') (hH : CvH v (.l sz eb (xs.map f)) (h1 ++ h2) h') : VS ρ h ρ' h' := by
 subst hh
 intro c I m a w k1 k2
 obtain ⟨I', g1, g2, g3⟩ := row_rel eb k1 (blt h0) (by simp) (fun r hr => by obtain ⟨a, _, rfl⟩ := List.mem_map.1 hr; exact hsz a) hb
 exact ⟨I', g1.conv g3 hH, (k2.wider g2).conv g3 hρ⟩
/-- The same of a row that was made whole. -/
theorem vdatC {α : Type} {f : α → List D} {g : α → AV} {xs : List α} {ρ ρ' : Env} {h h1 h2 h' : H} {b n : Nat} {E : TypeId} {sz : Nat} (eb : Nat) (h0 : Nat.blt 0 sz = true) (hh : h = h1 ++ .cells b E (xs.map g) :: h2) (hv : xs.map g = ((xs.map f).flatten).map D.av) (hn : xs.length = n) (hsz : ∀ a, (f a).length = sz) (hb : n * eb ≤ 140737488355328) (hm : n ≤ 140737488355328)
 (hρ : CvE (.slice (some ⟨b, 0, none⟩) n n) (.l sz eb (xs.map f)) ρ ρ') (hH : CvH (.slice (some ⟨b, 0, none⟩) n n) (.l sz eb (xs.map f)) (h1 ++ h2) h') : VS ρ h ρ' h' := by
 subst hh
 rw [hv]
 intro c I m a w k1 k2
 obtain ⟨I', g1, g2, g3⟩ := cells_rel (n := n) eb k1 (blt h0) (by simpa using hn) (fun r hr => by obtain ⟨a, _, rfl⟩ := List.mem_map.1 hr; exact hsz a) hb (by simp only [maxLen]; omega)
 exact ⟨I', g1.conv g3 hH, (k2.wider g2).conv g3 hρ⟩
end Go.Av
namespace Go.Av
open Go
set_option linter.unusedVariables false
set_option linter.unusedSimpArgs false

/-! ### Literals of structs -/
/-- A struct's cells when nothing is said, and where its fields lie. -/
def Bls (P : Program) (t : TypeId) (zs : List Value) (pl : List (Nat × Nat)) : Prop :=
 (match P.info? t, P.underlying t with
 | some it, some (.struct fields) =>
   match it.zero, fields.toList.mapM (fun f => (P.info? f.type).map fun i => (f.offset, i.size)) with
   | some z, some places => some (z.cells.toList, places)
   | _, _ => none
 | _, _ => none) = some (zs, pl)
theorem Bls.built {P : Program} {t : TypeId} {zs : List Value} {pl : List (Nat × Nat)} (h : Bls P t zs pl) (parts : List (Nat × Value)) : P.built t parts = Instr.fill (pl.toArray[·]?) zs.toArray parts := by
 unfold Bls at h
 unfold Program.built
 cases h1 : P.info? t with
 | none => rw [h1] at h; cases h
 | some it =>
   cases h2 : P.underlying t with
   | none => rw [h1, h2] at h; cases h
   | some d =>
     cases d with
     | struct fields =>
       rw [h1, h2] at h
       dsimp only at h ⊢
       cases h3 : it.zero with
       | none => rw [h3] at h; cases h
       | some z =>
         cases h4 : fields.toList.mapM (fun f => (P.info? f.type).map fun i => (f.offset, i.size)) with
         | none => rw [h3, h4] at h; cases h
         | some places =>
           rw [h3, h4] at h
           simp only [Option.some.injEq, Prod.mk.injEq] at h
           obtain ⟨h5, rfl⟩ := h
           subst h5
           rfl
     | _ => rw [h1, h2] at h; cases h
/-- The cells of a literal. -/
def fillAV (pl : List (Nat × Nat)) : List AV → List (Nat × AV) → Option (List AV)
 | cs, [] => some cs
 | cs, (i, x) :: r =>
   match pl[i]? with
   | none => none
   | some p => bif Nat.beq x.cl.length p.2 && Nat.ble (p.1 + p.2) cs.length then fillAV pl (setAt cs p.1 x.cl) r else none
inductive All2 {α β : Type} (R : α → β → Prop) : List α → List β → Prop where
 | nil : All2 R [] []
 | cons {a : α} {b : β} {as : List α} {bs : List β} (h : R a b) (t : All2 R as bs) : All2 R (a :: as) (b :: bs)
theorem fill_rel {w : World} {I : Nat → Prop} {pl : List (Nat × Nat)} : ∀ {ps : List (Nat × AV)} {vs : List (Nat × Value)} {avs avs' : List AV} {cs : Array Value}, AV.rels w I avs cs.toList → All2 (fun p q => p.1 = q.1 ∧ AV.rel w I p.2 q.2 ∧ p.2.stor = true) ps vs → fillAV pl avs ps = some avs' →
 ∃ cs', Instr.fill (pl.toArray[·]?) cs vs = some cs' ∧ AV.rels w I avs' cs'.toList
 | [], [], avs, avs', cs, hr, _, hf => by cases hf; exact ⟨cs, rfl, hr⟩
 | (i, x) :: ps, (j, v) :: vs, avs, avs', cs, hr, .cons ⟨h1, h2, h3⟩ h4, hf => by
   cases h1
   simp only [fillAV] at hf
   cases hp : pl[i]? with
   | none => rw [hp] at hf; cases hf
   | some p =>
     rw [hp] at hf
     dsimp only at hf
     cases hc : Nat.beq x.cl.length p.2 && Nat.ble (p.1 + p.2) avs.length with
     | false => rw [hc] at hf; cases hf
     | true =>
       rw [hc] at hf
       simp only [cond_true] at hf
       rw [Bool.and_eq_true] at hc
       have e1 := Nat.eq_of_beq_eq_true hc.1
       have e2 := Nat.le_of_ble_eq_true hc.2
       have hcl := cl_rel h3 h2
       have hvl : v.cells.toList.length = x.cl.length := (AV.rels_length hcl).symm
       have hcs : cs.toList.length = avs.length := (AV.rels_length hr).symm
       have hsz : v.cells.size = p.2 := by rw [← e1, ← hvl]; simp
       have hfold := fold_set v.cells.toList 0 cs (cs.toList.take p.1) (cs.toList.drop p.1) (List.take_append_drop _ _).symm (by rw [List.length_drop, hcs, hvl, e1]; omega)
       have htl : (cs.toList.take p.1).length = p.1 := by rw [List.length_take, hcs]; omega
       rcases hfold with hfold | hfold
       case inr => omega
       rw [htl, Nat.sub_zero, List.drop_drop] at hfold
       have hstep : AV.rels w I (setAt avs p.1 x.cl) ((v.cells.zipIdx).foldl (fun cs q => cs.setIfInBounds (p.1 + q.2) q.1) cs).toList := by
        rw [← Array.foldl_toList, Array.toList_zipIdx, hfold]
        unfold setAt
        rw [hvl]
        exact AV.rels_append (AV.rels_append (rels_take _ hr) hcl) (rels_drop _ hr)
       obtain ⟨cs', g1, g2⟩ := fill_rel hstep h4 hf
       refine ⟨cs', ?_, g2⟩
       have hb : (v.cells.size ≠ p.2 || p.1 + v.cells.size > cs.size) = false := by
        refine Bool.or_eq_false_iff.2 ⟨by simp [hsz], decide_eq_false ?_⟩
        have : cs.size = avs.length := by rw [← hcs]; simp
        omega
       simp only [Instr.fill]
       have hpa : (pl.toArray)[i]? = some p := by simpa using hp
       rw [hpa]
       dsimp only
       rw [hb]
       exact g1
def partsO (ρ : Env) : List (Nat × Operand) → Option (List (Nat × AV))
 | [] => some []
 | (i, x) :: r => (evO ρ x).bind fun a => (partsO ρ r).bind fun as => some ((i, a) :: as)
theorem partsO_rel {n : Nat} {w : World} {I : Nat → Prop} {ρ : Env} {a : Act} (f : SF n w I ρ a) : ∀ {ps : List (Nat × Operand)} {xs : List (Nat × AV)}, partsO ρ ps = some xs → xs.all (fun p => p.2.stor) = true → All2 (fun p q => p.1 = q.1 ∧ AV.rel w I p.2 q.2 ∧ p.2.stor = true) xs (ps.map fun p => (p.1, a.eval p.2))
 | [], xs, h, _ => by cases h; exact .nil
 | (i, x) :: ps, xs, h, hs => by
   simp only [partsO] at h
   cases h1 : evO ρ x with
   | none => rw [h1] at h; cases h
   | some r =>
     cases h2 : partsO ρ ps with
     | none => rw [h1, h2] at h; cases h
     | some rs =>
       rw [h1, h2] at h
       cases h
       simp only [List.all_cons, Bool.and_eq_true] at hs
       refine .cons ⟨rfl, ?_, hs.1⟩ (partsO_rel f h2 hs.2)
       have := f.ev x
       rw [ev_of_evO h1] at this
       exact this
section
variable {P : Program} {G : List (Nat × List D)} {ρ : Env} {h : H} {dst : Option Tmp} {ty : TypeId} {pos : String} {after : Array Edge} {g : Option (Nat × Bool)}
theorem pu_build {T : TypeId} {zs : List Value} {pl : List (Nat × Nat)} {parts : Array (Nat × Operand)} {xs : List (Nat × AV)} {cs : List AV} (hB : Bls P T zs pl) (hx : partsO ρ parts.toList = some xs) (hs : xs.all (fun p => p.2.stor) = true) (hf : fillAV pl (zs.map AV.val) xs = some cs) :
 Pure P G ⟨dst, .build T parts, ty, pos, after, g⟩ ρ h (.agg cs) :=
 pure_free fun w I _ a k => by
  obtain ⟨cs', g1, g2⟩ := fill_rel (cs := zs.toArray) (by simpa using rels_vals w I zs) (partsO_rel k hx hs) hf
  refine ⟨.agg cs', ⟨cs'.toList, by simp, g2⟩, fun w' => ?_⟩
  have e : (parts.map fun (i, x) => (i, a.eval x)).toList = parts.toList.map fun p => (p.1, a.eval p.2) := by simp
  have := run_build (P := P) w' T (parts.map fun (i, x) => (i, a.eval x)) cs' (by rw [hB.built, e]; exact g1)
  simp [execOp, this]

/-! ### Bytes -/
def byteC (b : UInt8) : List D := [.i .u8 b.toNat]
abbrev bytesD (l : List UInt8) : D := .l 1 1 (l.map byteC)
abbrev AV.byte (b : UInt8) : AV := .val (.int .u8 (b.toNat : Int))
theorem bytes_flat (l : List UInt8) : l.map AV.byte = ((l.map byteC).flatten).map D.av := by
 induction l with
 | nil => rfl
 | cons x l ih => simp only [List.map_cons, List.flatten_cons, List.map_append, ← ih]; rfl
theorem pu_byte_int {S T : TypeId} {x : Operand} {b : UInt8} (hS : (P.underlying S).isSome = true) (hT : P.underlying T = some (.int .i64)) (hx : evO ρ x = some (AV.byte b)) : Pure P G ⟨dst, .convert S T x, ty, pos, after, g⟩ ρ h (.int (b.toNat : Int)) := by
 have := pure_convert (P := P) (G := G) (h := h) (dst := dst) (ty := ty) (pos := pos) (after := after) (g := g) hS hT (ev_of_evO hx)
 have hb := b.toNat_lt
 rwa [wrap_in (by unfold inI64; omega)] at this
theorem ofInt_toNat (n : Int) : ((UInt8.ofInt n).toNat : Int) = n % 256 := by
 simp [UInt8.ofInt, UInt8.toNat_ofNat']; omega
theorem pu_int_byte {S T : TypeId} {x : Operand} {n : Int} (hS : (P.underlying S).isSome = true) (hT : P.underlying T = some (.int .u8)) (hx : evO ρ x = some (.int n)) : Pure P G ⟨dst, .convert S T x, ty, pos, after, g⟩ ρ h (AV.byte (UInt8.ofInt n)) := by
 have := pure_convert (P := P) (G := G) (h := h) (dst := dst) (ty := ty) (pos := pos) (after := after) (g := g) hS hT (ev_of_evO hx)
 rw [IntKind.wrap_u8] at this
 unfold AV.byte
 rwa [ofInt_toNat]
theorem pu_int_int {S T : TypeId} {x : Operand} {n : Int} (hS : (P.underlying S).isSome = true) (hT : P.underlying T = some (.int .i64)) (hx : evO ρ x = some (.int n)) (hb : inI64 n) : Pure P G ⟨dst, .convert S T x, ty, pos, after, g⟩ ρ h (.int n) := by
 have := pure_convert (P := P) (G := G) (h := h) (dst := dst) (ty := ty) (pos := pos) (after := after) (g := g) hS hT (ev_of_evO hx)
 rwa [wrap_in hb] at this
theorem foldl_push : ∀ (l : List UInt8) (s : ByteArray), (l.map fun b => (b.toNat : Int)).foldl (fun (r : ByteArray) n => r.push (UInt8.ofNat n.toNat)) s = ⟨s.data ++ l.toArray⟩
 | [], s => by simp
 | b :: l, s => by
   rw [List.map_cons, List.foldl_cons, foldl_push l]
   simp [ByteArray.push]
/-- string(bytes). -/
theorem pu_bytes_string {S T e : TypeId} {x : Operand} {l : List UInt8} (hx : evO ρ x = some (.d (bytesD l))) (hS : P.underlying S = some (.slice e)) (he : P.underlying e = some (.int .u8)) (hT : P.underlying T = some .string) : Pure P G ⟨dst, .convert S T x, ty, pos, after, g⟩ ρ h (.val (.string ⟨l.toArray⟩)) := by
 intro c I n a w _ k s
 have e1 : Rel w I (bytesD l) (a.eval x) := by have := s.ev x; rw [ev_of_evO hx] at this; exact this
 refine ⟨_, rfl, fun w' hw' => ?_⟩
 have e2 : Rel w' I (bytesD l) (a.eval x) := e1.mono (fun b hb => hw'.imm b hb) fun _ h => h
 rcases Rel.cells_of (by decide) e2 with ⟨e3, hn⟩ | ⟨ad, cap, us, e3, hl, hc, h1c, hrel⟩
 · have : l = [] := by simpa using hn
   subst this
   have hl0 := run_loadCells_list (P := P) w' ⟨0, 0, none⟩ [] (by simp)
   simp [execOp, e3, convert, run_underlying hS, run_underlying hT, run_underlying he, Conv.bytesToString]
   rfl
 · have hus : us = (l.map fun b => (b.toNat : Int)).map (Value.int .u8) := by
    rw [← bytes_flat] at hrel
    clear hl hc h1c e3 e2 e1 hx
    induction l generalizing us with
    | nil => cases us with
      | nil => rfl
      | cons _ _ => exact hrel.elim
    | cons b l ih =>
      cases us with
      | nil => exact hrel.elim
      | cons u us =>
        have h1 : u = .int .u8 b.toNat := hrel.1
        rw [h1, ih us hrel.2]; rfl
   have hlen : us.length = l.length := by simp [hus]
   have hload := run_loadCells_list (P := P) w' ad us hc
   rw [hlen, hus] at hload
   have hrun := run_bytesToString (P := P) w' ad l.length cap _ hload
   rw [foldl_push] at hrun
   have hconv := run_convert_bytes_string (P := P) w' S T e (some ad) l.length cap hS he hT
   rw [List.length_map] at e3
   simp [execOp, e3, hconv, hrun]
theorem pure_shl_u {T T' : TypeId} {x y : Operand} {m n : Int} (hx : ev ρ x = .int m) (hy : evO ρ y = some (.val (.int .u64 n))) (h0 : 0 ≤ n) (h1 : n ≤ 64) (hb : inI64 (m * 2 ^ n.toNat)) : Pure P G ⟨dst, .binOp .shl T x y T', ty, pos, after, g⟩ ρ h (.int (m * 2 ^ n.toNat)) :=
 pure_bin hx (ev_of_evO hy) (fun _ => by rw [eqGuard_shl]; rfl) fun _ => by rw [binOp_shl, shift_shl .i64 .u64 m n h0 h1, wrap_in hb]; rfl
theorem pure_shr_u {T T' : TypeId} {x y : Operand} {m n : Int} (hx : ev ρ x = .int m) (hy : evO ρ y = some (.val (.int .u64 n))) (h0 : 0 ≤ n) (h1 : n ≤ 64) : Pure P G ⟨dst, .binOp .shr T x y T', ty, pos, after, g⟩ ρ h (.int (m / 2 ^ n.toNat)) :=
 pure_bin hx (ev_of_evO hy) (fun _ => by rw [eqGuard_shr]; rfl) fun _ => by rw [binOp_shr, shift_shr .i64 .u64 m n h0 h1]; rfl
/-- The length of a row that may grow. -/
theorem pu_len_row {T E E' : TypeId} {x : Operand} {v : Value} {n sz : Nat} {xs : List AV} (hT : P.underlying T = some (.slice E')) (hx : evO ρ x = some (.val v)) (hm : Ent.row v n E sz xs ∈ h) : Pure P G ⟨dst, .call { callee := .builtin .len, args := #[x], argTypes := #[T] }, ty, pos, after, g⟩ ρ h (.int n) := by
 intro c I m a w _ k s
 have e1 := rel_val (s.ev x) (ev_of_evO hx)
 refine ⟨_, rfl, fun w' _ => ?_⟩
 obtain ⟨us, ho, _⟩ := k.ent _ hm
 rcases ho.2 with ⟨rfl, rfl⟩ | ⟨g, cap, cur, rfl, _⟩
 · simp [execOp, resolve, invoke, builtin, e1, Builtin.len_, run_underlying hT, goInt]
 · simp [execOp, resolve, invoke, builtin, e1, Builtin.len_, run_underlying hT, goInt]
end
section
variable {k : Kx} {Q : Exit → Env → H → Prop} {ρ ρ' : Env} {h h1 h2 : H} {ops : Array Oper} {l : List Oper} {d : Nat} {dst : Option Tmp} {ty : TypeId} {pos : String} {after : Array Edge} {g : Option (Nat × Bool)}
/-- data == nil. -/
theorem eq_nil_run {P : Program} {T E : TypeId} (hT : P.underlying T = some (.slice E)) (ad : Option Addr) (n c : Nat) (w : World) : (binOp .eql T (.slice ad n c) (.slice none 0 0)).run P w = .ok (.bool ad.isNone) w := by
 have h1 : ∀ m, (Op.equalIn (m + 1) T (.slice ad n c) (.slice none 0 0)).run P w = .ok ad.isNone w := fun m => by
  simp only [Op.equalIn, Sem.run_bind, run_underlying hT, Result.andThen_ok]
  cases ad <;> rfl
 have h2 : (Op.equal T (.slice ad n c) (.slice none 0 0)).run P w = .ok ad.isNone w := h1 9999
 simp only [binOp, Sem.run_bind, h2]
 first | rfl | simp
theorem jeqnil {T T' E : TypeId} {x y : Operand} {sz eb : Nat} {rows : List (List D)} (hx : evO ρ x = some (.d (.l sz eb rows))) (hy : evO ρ y = some (.val (.slice none 0 0))) (hT : k.P.underlying T = some (.slice E)) (hd : Nat.blt d k.n = true)
 (hj : All fun b => Imp (b = true → rows = []) (JL k ops l Q ((d, .bool b) :: ρ) h)) : JL k ops (⟨some d, .binOp .eql T x y T', ty, pos, after, none⟩ :: l) Q ρ h := by
 refine JL_eff rfl (fun t ht => by cases ht; exact blt hd) fun I a w k1 k2 => ?_
 have e1 := rel_as (k2.ev x) (ev_of_evO hx)
 have e2 := rel_val (k2.ev y) (ev_of_evO hy)
 have key : ∀ (b : Bool), (b = true → rows = []) → (execOp a.eval ⟨some d, .binOp .eql T x y T', ty, pos, after, none⟩).run k.P w = .ok (.value (.bool b)) w →
  ∃ v w' I' r h', (execOp a.eval ⟨some d, .binOp .eql T x y T', ty, pos, after, none⟩).run k.P w = .ok (.value v) w' ∧ Ok k.c I' h' w' ∧ SF k.n w' I' ρ a ∧ AV.rel w' I' r v ∧ JL k ops l Q (put ρ (some d) r) h' :=
  fun b hb hrun => ⟨_, w, I, .bool b, h, hrun, k1, k2, rfl, (hj.get b).get hb⟩
 generalize hv : a.eval x = v at e1
 cases e1 with
 | nil => exact key true (fun _ => rfl) (by simp [execOp, hv, e2, eq_nil_run hT, eqGuard])
 | emp => exact key false (fun h => by cases h) (by simp [execOp, hv, e2, eq_nil_run hT, eqGuard])
 | l _ _ _ ad cap css => exact key false (fun h => by cases h) (by simp [execOp, hv, e2, eq_nil_run hT, eqGuard])
/-- A literal of nothing: a row of the call's own. -/
theorem jbuild0 {α : Type} (f : α → List D) {T E : TypeId} {z : Value} {sz eb : Nat} (hT : k.P.underlying T = some (.slice E)) (he : El k.P E z sz eb) (hd : Nat.blt d k.n = true)
 (hj : All fun v => JL k ops l Q ((d, .val v) :: ρ) (rowE v E sz f [] :: h)) : JL k ops (⟨some d, .buildSlice T 0 #[], ty, pos, after, none⟩ :: l) Q ρ h := by
 obtain ⟨i, hi, hz0, hz1, _⟩ := he.get
 refine JL_eff rfl (fun t ht => by cases ht; exact blt hd) fun I a w k1 k2 => ?_
 refine ⟨.slice (some ⟨w.heap.size, 0, none⟩) 0 0, w.alloc (.cells #[] E), I, .val (.slice (some ⟨w.heap.size, 0, none⟩) 0 0), _, ?_, k1.fresh _ (rowE (.slice (some ⟨w.heap.size, 0, none⟩) 0 0) E sz f []) rfl ?_, k2.fresh k1 _, rfl, hj.get _⟩
 · simp [execOp, Instr.buildSlice, run_underlying hT, sizeOf, typeInfo, hi, Instr.fill, newRow]
   have : Array.range 0 = #[] := by apply Array.ext'; simp
   rw [this, Array.map_empty]
 · refine ⟨[], ⟨by simp, .inr ⟨w.heap.size, 0, #[], rfl, by simp, heap_alloc_new w _, ?_⟩⟩, trivial⟩
   simp
end
end Go.Av
namespace Go.Av
open Go
set_option linter.unusedVariables false
set_option linter.unusedSimpArgs false

section
variable {k : Kx} {Q : Exit → Env → H → Prop} {ρ ρ' : Env} {h h1 h2 : H} {ops : Array Oper} {l : List Oper} {d : Nat} {dst : Option Tmp} {ty : TypeId} {pos : String} {after : Array Edge} {g : Option (Nat × Bool)} {e1 e2 e3 e4 e5 e6 : Ent}
/-- A store of a whole struct, wherever its variable stands. -/
theorem js_whole {T T0 : TypeId} {x y : Operand} {b : Nat} {cs vs : List AV} {z : Value} {sz eb : Nat} (hx : evO ρ x = some (.val (.pointer (some ⟨b, 0, none⟩)))) (hy : evO ρ y = some (.agg cs)) (hs : cs.all AV.flat = true) (hE : El k.P T z sz eb) (hn : sz = cs.length) (hl : vs.length = cs.length) (hh : h = h1 ++ .cells b T0 vs :: h2)
 (hj : JL k ops l Q ρ (h1 ++ .cells b T0 cs :: h2)) : JL k ops (⟨none, .store T x y, ty, pos, after, none⟩ :: l) Q ρ h := by
 refine JL_store (off := 0) (r := .agg cs) (vs := vs) (ev_of_evO hx) (ev_of_evO hy) hs hE hn hh (by simp [AV.cl, hl]) ?_
 have : setAt vs 0 (AV.agg cs).cl = cs := by simp [setAt, AV.cl, ← hl]
 rw [this]
 exact hj
theorem js_w0 {T T0 : TypeId} {x y : Operand} {b : Nat} {cs vs : List AV} {z : Value} {sz eb : Nat} (hx : evO ρ x = some (.val (.pointer (some ⟨b, 0, none⟩)))) (hy : evO ρ y = some (.agg cs)) (hs : cs.all AV.flat = true) (hE : El k.P T z sz eb) (hn : sz = cs.length) (hl : vs.length = cs.length)
 (hj : JL k ops l Q ρ (.cells b T0 cs :: h2)) : JL k ops (⟨none, .store T x y, ty, pos, after, none⟩ :: l) Q ρ (.cells b T0 vs :: h2) := js_whole (h1 := []) hx hy hs hE hn hl rfl hj
theorem js_s0 {T T0 : TypeId} {x y : Operand} {b off : Nat} {r : AV} {vs : List AV} {z : Value} {eb : Nat} (hx : evO ρ x = some (.val (.pointer (some ⟨b, off, none⟩)))) (hy : evO ρ y = some r) (hs : r.flat = true) (hE : El k.P T z 1 eb) (hl : off < vs.length)
 (hj : JL k ops l Q ρ (.cells b T0 (vs.set off r) :: h2)) : JL k ops (⟨none, .store T x y, ty, pos, after, none⟩ :: l) Q ρ (.cells b T0 vs :: h2) := js_set (h1 := []) hx hy hs hE rfl hl hj
theorem js_w1 {T T0 : TypeId} {x y : Operand} {b : Nat} {cs vs : List AV} {z : Value} {sz eb : Nat} (hx : evO ρ x = some (.val (.pointer (some ⟨b, 0, none⟩)))) (hy : evO ρ y = some (.agg cs)) (hs : cs.all AV.flat = true) (hE : El k.P T z sz eb) (hn : sz = cs.length) (hl : vs.length = cs.length)
 (hj : JL k ops l Q ρ (e1 :: .cells b T0 cs :: h2)) : JL k ops (⟨none, .store T x y, ty, pos, after, none⟩ :: l) Q ρ (e1 :: .cells b T0 vs :: h2) := js_whole (h1 := [e1]) hx hy hs hE hn hl rfl hj
theorem js_s1 {T T0 : TypeId} {x y : Operand} {b off : Nat} {r : AV} {vs : List AV} {z : Value} {eb : Nat} (hx : evO ρ x = some (.val (.pointer (some ⟨b, off, none⟩)))) (hy : evO ρ y = some r) (hs : r.flat = true) (hE : El k.P T z 1 eb) (hl : off < vs.length)
 (hj : JL k ops l Q ρ (e1 :: .cells b T0 (vs.set off r) :: h2)) : JL k ops (⟨none, .store T x y, ty, pos, after, none⟩ :: l) Q ρ (e1 :: .cells b T0 vs :: h2) := js_set (h1 := [e1]) hx hy hs hE rfl hl hj
theorem js_w2 {T T0 : TypeId} {x y : Operand} {b : Nat} {cs vs : List AV} {z : Value} {sz eb : Nat} (hx : evO ρ x = some (.val (.pointer (some ⟨b, 0, none⟩)))) (hy : evO ρ y = some (.agg cs)) (hs : cs.all AV.flat = true) (hE : El k.P T z sz eb) (hn : sz = cs.length) (hl : vs.length = cs.length)
 (hj : JL k ops l Q ρ (e1 :: e2 :: .cells b T0 cs :: h2)) : JL k ops (⟨none, .store T x y, ty, pos, after, none⟩ :: l) Q ρ (e1 :: e2 :: .cells b T0 vs :: h2) := js_whole (h1 := [e1, e2]) hx hy hs hE hn hl rfl hj
theorem js_s2 {T T0 : TypeId} {x y : Operand} {b off : Nat} {r : AV} {vs : List AV} {z : Value} {eb : Nat} (hx : evO ρ x = some (.val (.pointer (some ⟨b, off, none⟩)))) (hy : evO ρ y = some r) (hs : r.flat = true) (hE : El k.P T z 1 eb) (hl : off < vs.length)
 (hj : JL k ops l Q ρ (e1 :: e2 :: .cells b T0 (vs.set off r) :: h2)) : JL k ops (⟨none, .store T x y, ty, pos, after, none⟩ :: l) Q ρ (e1 :: e2 :: .cells b T0 vs :: h2) := js_set (h1 := [e1, e2]) hx hy hs hE rfl hl hj
theorem js_w3 {T T0 : TypeId} {x y : Operand} {b : Nat} {cs vs : List AV} {z : Value} {sz eb : Nat} (hx : evO ρ x = some (.val (.pointer (some ⟨b, 0, none⟩)))) (hy : evO ρ y = some (.agg cs)) (hs : cs.all AV.flat = true) (hE : El k.P T z sz eb) (hn : sz = cs.length) (hl : vs.length = cs.length)
 (hj : JL k ops l Q ρ (e1 :: e2 :: e3 :: .cells b T0 cs :: h2)) : JL k ops (⟨none, .store T x y, ty, pos, after, none⟩ :: l) Q ρ (e1 :: e2 :: e3 :: .cells b T0 vs :: h2) := js_whole (h1 := [e1, e2, e3]) hx hy hs hE hn hl rfl hj
theorem js_s3 {T T0 : TypeId} {x y : Operand} {b off : Nat} {r : AV} {vs : List AV} {z : Value} {eb : Nat} (hx : evO ρ x = some (.val (.pointer (some ⟨b, off, none⟩)))) (hy : evO ρ y = some r) (hs : r.flat = true) (hE : El k.P T z 1 eb) (hl : off < vs.length)
 (hj : JL k ops l Q ρ (e1 :: e2 :: e3 :: .cells b T0 (vs.set off r) :: h2)) : JL k ops (⟨none, .store T x y, ty, pos, after, none⟩ :: l) Q ρ (e1 :: e2 :: e3 :: .cells b T0 vs :: h2) := js_set (h1 := [e1, e2, e3]) hx hy hs hE rfl hl hj
theorem js_w4 {T T0 : TypeId} {x y : Operand} {b : Nat} {cs vs : List AV} {z : Value} {sz eb : Nat} (hx : evO ρ x = some (.val (.pointer (some ⟨b, 0, none⟩)))) (hy : evO ρ y = some (.agg cs)) (hs : cs.all AV.flat = true) (hE : El k.P T z sz eb) (hn : sz = cs.length) (hl : vs.length = cs.length)
 (hj : JL k ops l Q ρ (e1 :: e2 :: e3 :: e4 :: .cells b T0 cs :: h2)) : JL k ops (⟨none, .store T x y, ty, pos, after, none⟩ :: l) Q ρ (e1 :: e2 :: e3 :: e4 :: .cells b T0 vs :: h2) := js_whole (h1 := [e1, e2, e3, e4]) hx hy hs hE hn hl rfl hj
theorem js_s4 {T T0 : TypeId} {x y : Operand} {b off : Nat} {r : AV} {vs : List AV} {z : Value} {eb : Nat} (hx : evO ρ x = some (.val (.pointer (some ⟨b, off, none⟩)))) (hy : evO ρ y = some r) (hs : r.flat = true) (hE : El k.P T z 1 eb) (hl : off < vs.length)
 (hj : JL k ops l Q ρ (e1 :: e2 :: e3 :: e4 :: .cells b T0 (vs.set off r) :: h2)) : JL k ops (⟨none, .store T x y, ty, pos, after, none⟩ :: l) Q ρ (e1 :: e2 :: e3 :: e4 :: .cells b T0 vs :: h2) := js_set (h1 := [e1, e2, e3, e4]) hx hy hs hE rfl hl hj
theorem js_w5 {T T0 : TypeId} {x y : Operand} {b : Nat} {cs vs : List AV} {z : Value} {sz eb : Nat} (hx : evO ρ x = some (.val (.pointer (some ⟨b, 0, none⟩)))) (hy : evO ρ y = some (.agg cs)) (hs : cs.all AV.flat = true) (hE : El k.P T z sz eb) (hn : sz = cs.length) (hl : vs.length = cs.length)
 (hj : JL k ops l Q ρ (e1 :: e2 :: e3 :: e4 :: e5 :: .cells b T0 cs :: h2)) : JL k ops (⟨none, .store T x y, ty, pos, after, none⟩ :: l) Q ρ (e1 :: e2 :: e3 :: e4 :: e5 :: .cells b T0 vs :: h2) := js_whole (h1 := [e1, e2, e3, e4, e5]) hx hy hs hE hn hl rfl hj
theorem js_s5 {T T0 : TypeId} {x y : Operand} {b off : Nat} {r : AV} {vs : List AV} {z : Value} {eb : Nat} (hx : evO ρ x = some (.val (.pointer (some ⟨b, off, none⟩)))) (hy : evO ρ y = some r) (hs : r.flat = true) (hE : El k.P T z 1 eb) (hl : off < vs.length)
 (hj : JL k ops l Q ρ (e1 :: e2 :: e3 :: e4 :: e5 :: .cells b T0 (vs.set off r) :: h2)) : JL k ops (⟨none, .store T x y, ty, pos, after, none⟩ :: l) Q ρ (e1 :: e2 :: e3 :: e4 :: e5 :: .cells b T0 vs :: h2) := js_set (h1 := [e1, e2, e3, e4, e5]) hx hy hs hE rfl hl hj

/-! ### Calls that hand rows over -/
/-- The callee hands a new row back. -/
theorem callE1 {β : Type} {X : β → AV} {en : β → Ent} {f : FuncId} {xs : Array Operand} {ats : Array TypeId} {args : List AV} (hargs : evsO ρ xs.toList = some args) (hcal : Cal k.P f) (hac : AC k.P k.c.G f args [] fun r h => ∃ v, r = .ret (X v) ∧ h = [en v]) (hd : Nat.blt d k.n = true)
 (hj : All fun v => JL k ops l Q ((d, X v) :: ρ) (en v :: h)) : JL k ops (⟨some d, .call { callee := .value (.func f), args := xs, argTypes := ats }, ty, pos, after, none⟩ :: l) Q ρ h :=
 callw (hc := []) (hr := h) hargs hcal rfl hac hd (fun r h' hq => by obtain ⟨v, e1, e2⟩ := hq; cases e1; subst e2; exact hj.get v) (fun ch h' hq => by obtain ⟨v, e1, _⟩ := hq; cases e1)

/-- The callee writes on a row of ours, and hands it back. -/
theorem callU0 {β : Type} {X : β → AV} {en : β → Ent} {e0 : Ent} {f : FuncId} {xs : Array Operand} {ats : Array TypeId} {args : List AV} (hargs : evsO ρ xs.toList = some args) (hcal : Cal k.P f) (hac : AC k.P k.c.G f args [e0] fun r h => ∃ v, r = .ret (X v) ∧ h = [en v]) (hd : Nat.blt d k.n = true)
 (hj : All fun v => JL k ops l Q ((d, X v) :: ρ) (en v :: h2)) : JL k ops (⟨some d, .call { callee := .value (.func f), args := xs, argTypes := ats }, ty, pos, after, none⟩ :: l) Q ρ (e0 :: h2) :=
 JL_vs (VS.perm (List.perm_middle (l₁ := []) (l₂ := h2))) (callw (hc := [e0]) (hr := h2) hargs hcal rfl hac hd (fun r h' hq => by obtain ⟨v, e1, e2⟩ := hq; cases e1; subst e2; exact hj.get v) (fun ch h' hq => by obtain ⟨v, e1, _⟩ := hq; cases e1))
/-- The callee writes on a row of ours, and hands it back. -/
theorem callU1 {β : Type} {X : β → AV} {en : β → Ent} {e0 : Ent} {f : FuncId} {xs : Array Operand} {ats : Array TypeId} {args : List AV} (hargs : evsO ρ xs.toList = some args) (hcal : Cal k.P f) (hac : AC k.P k.c.G f args [e0] fun r h => ∃ v, r = .ret (X v) ∧ h = [en v]) (hd : Nat.blt d k.n = true)
 (hj : All fun v => JL k ops l Q ((d, X v) :: ρ) (en v :: e1 :: h2)) : JL k ops (⟨some d, .call { callee := .value (.func f), args := xs, argTypes := ats }, ty, pos, after, none⟩ :: l) Q ρ (e1 :: e0 :: h2) :=
 JL_vs (VS.perm (List.perm_middle (l₁ := [e1]) (l₂ := h2))) (callw (hc := [e0]) (hr := e1 :: h2) hargs hcal rfl hac hd (fun r h' hq => by obtain ⟨v, e1, e2⟩ := hq; cases e1; subst e2; exact hj.get v) (fun ch h' hq => by obtain ⟨v, e1, _⟩ := hq; cases e1))
/-- The callee writes on a row of ours, and hands it back. -/
theorem callU2 {β : Type} {X : β → AV} {en : β → Ent} {e0 : Ent} {f : FuncId} {xs : Array Operand} {ats : Array TypeId} {args : List AV} (hargs : evsO ρ xs.toList = some args) (hcal : Cal k.P f) (hac : AC k.P k.c.G f args [e0] fun r h => ∃ v, r = .ret (X v) ∧ h = [en v]) (hd : Nat.blt d k.n = true)
 (hj : All fun v => JL k ops l Q ((d, X v) :: ρ) (en v :: e1 :: e2 :: h2)) : JL k ops (⟨some d, .call { callee := .value (.func f), args := xs, argTypes := ats }, ty, pos, after, none⟩ :: l) Q ρ (e1 :: e2 :: e0 :: h2) :=
 JL_vs (VS.perm (List.perm_middle (l₁ := [e1, e2]) (l₂ := h2))) (callw (hc := [e0]) (hr := e1 :: e2 :: h2) hargs hcal rfl hac hd (fun r h' hq => by obtain ⟨v, e1, e2⟩ := hq; cases e1; subst e2; exact hj.get v) (fun ch h' hq => by obtain ⟨v, e1, _⟩ := hq; cases e1))
/-- The callee writes on a row of ours, and hands it back. -/
theorem callU3 {β : Type} {X : β → AV} {en : β → Ent} {e0 : Ent} {f : FuncId} {xs : Array Operand} {ats : Array TypeId} {args : List AV} (hargs : evsO ρ xs.toList = some args) (hcal : Cal k.P f) (hac : AC k.P k.c.G f args [e0] fun r h => ∃ v, r = .ret (X v) ∧ h = [en v]) (hd : Nat.blt d k.n = true)
 (hj : All fun v => JL k ops l Q ((d, X v) :: ρ) (en v :: e1 :: e2 :: e3 :: h2)) : JL k ops (⟨some d, .call { callee := .value (.func f), args := xs, argTypes := ats }, ty, pos, after, none⟩ :: l) Q ρ (e1 :: e2 :: e3 :: e0 :: h2) :=
 JL_vs (VS.perm (List.perm_middle (l₁ := [e1, e2, e3]) (l₂ := h2))) (callw (hc := [e0]) (hr := e1 :: e2 :: e3 :: h2) hargs hcal rfl hac hd (fun r h' hq => by obtain ⟨v, e1, e2⟩ := hq; cases e1; subst e2; exact hj.get v) (fun ch h' hq => by obtain ⟨v, e1, _⟩ := hq; cases e1))
/-- The callee writes on a row of ours, and hands it back. -/
theorem callU4 {β : Type} {X : β → AV} {en : β → Ent} {e0 : Ent} {f : FuncId} {xs : Array Operand} {ats : Array TypeId} {args : List AV} (hargs : evsO ρ xs.toList = some args) (hcal : Cal k.P f) (hac : AC k.P k.c.G f args [e0] fun r h => ∃ v, r = .ret (X v) ∧ h = [en v]) (hd : Nat.blt d k.n = true)
 (hj : All fun v => JL k ops l Q ((d, X v) :: ρ) (en v :: e1 :: e2 :: e3 :: e4 :: h2)) : JL k ops (⟨some d, .call { callee := .value (.func f), args := xs, argTypes := ats }, ty, pos, after, none⟩ :: l) Q ρ (e1 :: e2 :: e3 :: e4 :: e0 :: h2) :=
 JL_vs (VS.perm (List.perm_middle (l₁ := [e1, e2, e3, e4]) (l₂ := h2))) (callw (hc := [e0]) (hr := e1 :: e2 :: e3 :: e4 :: h2) hargs hcal rfl hac hd (fun r h' hq => by obtain ⟨v, e1, e2⟩ := hq; cases e1; subst e2; exact hj.get v) (fun ch h' hq => by obtain ⟨v, e1, _⟩ := hq; cases e1))
/-- The callee writes on a row of ours, and hands it back. -/
theorem callU5 {β : Type} {X : β → AV} {en : β → Ent} {e0 : Ent} {f : FuncId} {xs : Array Operand} {ats : Array TypeId} {args : List AV} (hargs : evsO ρ xs.toList = some args) (hcal : Cal k.P f) (hac : AC k.P k.c.G f args [e0] fun r h => ∃ v, r = .ret (X v) ∧ h = [en v]) (hd : Nat.blt d k.n = true)
 (hj : All fun v => JL k ops l Q ((d, X v) :: ρ) (en v :: e1 :: e2 :: e3 :: e4 :: e5 :: h2)) : JL k ops (⟨some d, .call { callee := .value (.func f), args := xs, argTypes := ats }, ty, pos, after, none⟩ :: l) Q ρ (e1 :: e2 :: e3 :: e4 :: e5 :: e0 :: h2) :=
 JL_vs (VS.perm (List.perm_middle (l₁ := [e1, e2, e3, e4, e5]) (l₂ := h2))) (callw (hc := [e0]) (hr := e1 :: e2 :: e3 :: e4 :: e5 :: h2) hargs hcal rfl hac hd (fun r h' hq => by obtain ⟨v, e1, e2⟩ := hq; cases e1; subst e2; exact hj.get v) (fun ch h' hq => by obtain ⟨v, e1, _⟩ := hq; cases e1))

theorem jappsT {α : Type} {f : α → List D} {xs ys : List α} {T E : TypeId} {x y : Operand} {z : Value} {sz eb eb' : Nat} {v : Value} (hx : evO ρ x = some (.val v)) (hy : evO ρ y = some (.d (.l sz eb' (ys.map f)))) (hT : k.P.underlying T = some (.slice E)) (he : El k.P E z sz eb) (hz : z.cells.size = sz) (h0 : Nat.blt 0 sz = true)
 (hd : Nat.blt d k.n = true) (hb : (xs.length + ys.length) * eb ≤ 140737488355328) (hm : xs.length + ys.length ≤ 140737488355328)
 (hj : All fun v' => JL k ops l Q ((d, .val v') :: ρ) (rowE v' E sz f (xs ++ ys) :: h)) :
 JL k ops (⟨some d, .call { callee := .builtin .append, args := #[x, y], argTypes := #[T, T] }, ty, pos, after, none⟩ :: l) Q ρ (rowE v E sz f xs :: h) := japps hx hy hT he hz h0 hd hb hm hj.get
/-! ### Rows that are shown for the time of a call -/
theorem bor_row {α : Type} {f : α → List D} {xs : List α} {v : Value} {E : TypeId} {sz : Nat} (eb : Nat) (hm : rowE v E sz f xs ∈ h) (h0 : Nat.blt 0 sz = true) (hsz : ∀ a, (f a).length = sz) (hb : xs.length * eb ≤ 140737488355328) : Bor h (.val v) (.d (.l sz eb (xs.map f))) := by
 intro c I w u kk hr
 obtain rfl : u = v := hr
 obtain ⟨s, t, rfl⟩ := List.append_of_mem hm
 obtain ⟨os, ho, hos⟩ := kk.ent (rowE u E sz f xs) (by simp)
 rcases ho.2 with ⟨rfl, hn⟩ | ⟨g, cap, cur, hv, _, hg, hnc, hcm, hcs, htake⟩
 · have : xs = [] := List.eq_nil_of_length_eq_zero hn
   subst this
   exact .nil sz eb
 · have hin : g ∈ blks (s ++ rowE u E sz f xs :: t) := by
    rw [blks_append]; subst hv
    exact List.mem_append.2 (.inr (by simp [blks, Ent.blk, Value.ownBlock]))
   have hcell : ∀ q x, (xs.map f).flatten[q]? = some x → ∃ c, w.cell? ((⟨g, 0, none⟩ : Addr).add q) = some c ∧ Rel w I x c := fun q x hx => by
    obtain ⟨c, hc1, hc2⟩ := AV.rels_get hos q x.av (by rw [List.getElem?_map, hx]; rfl)
    exact ⟨c, ho.cells (g := g) (by rw [hv]; rfl) q c hc1, D.av_rel' hc2⟩
   have hszs : ∀ r ∈ xs.map f, r.length = sz := fun r hr => by obtain ⟨a, _, rfl⟩ := List.mem_map.1 hr; exact hsz a
   have hq : ∀ (j u : Nat) (r : List D) (x : D), (xs.map f)[j]? = some r → r[u]? = some x → (xs.map f).flatten[j * sz + u]? = some x := fun j u r x hr hx => by
    have hu : u < sz := by
     have := (List.getElem?_eq_some_iff.1 hx).1
     rwa [hszs r (List.mem_of_getElem? hr)] at this
    rw [flatten_get (blt h0) _ hszs, Nat.add_comm, Nat.add_mul_div_right _ _ (blt h0), Nat.add_mul_mod_self_right, Nat.div_eq_of_lt hu, Nat.mod_eq_of_lt hu, Nat.zero_add, hr]
    exact hx
   have hres := Rel.l (w := w) (I := fun b => I b ∨ b ∈ blks (s ++ rowE u E sz f xs :: t)) sz eb (xs.map f) ⟨g, 0, none⟩ cap (fun j u => (w.cell? ((⟨g, 0, none⟩ : Addr).add (j * sz + u))).getD undef) (.inr hin) (by simpa using hnc) hcm (by simpa using hb) hszs (fun j u r x hr hx => by
    obtain ⟨c, hc1, _⟩ := hcell _ x (hq j u r x hr hx)
    simp only [hc1, Option.getD_some]) (fun j u r x hr hx => by
    obtain ⟨c, hc1, hc2⟩ := hcell _ x (hq j u r x hr hx)
    simp only [hc1, Option.getD_some]
    exact hc2.mono (fun _ _ => rfl) fun _ h => .inl h)
   rw [List.length_map] at hres
   show Rel w (fun b => I b ∨ b ∈ blks (s ++ rowE u E sz f xs :: t)) (.l sz eb (xs.map f)) u
   generalize (fun b => I b ∨ b ∈ blks (s ++ rowE u E sz f xs :: t)) = J at hres ⊢
   rw [hv]
   exact hres

/-! ### Literals -/
theorem jbuild_byte {T E : TypeId} {x : Operand} {b : UInt8} {z : Value} {eb : Nat} (hx : evO ρ x = some (AV.byte b)) (hT : k.P.underlying T = some (.slice E)) (he : El k.P E z 1 eb) (hb : Nat.ble eb 1000000 = true)
 (hd : Nat.blt d k.n = true) (hj : JL k ops l Q ((d, .d (.l 1 eb [byteC b])) :: ρ) h) : JL k ops (⟨some d, .buildSlice T 1 #[(0, x)], ty, pos, after, none⟩ :: l) Q ρ h :=
 jbuild1 hT he (by decide) hx rfl rfl rfl (by have := Nat.le_of_ble_eq_true hb; omega) (by decide) hd hj
/-- Four bytes, as data. -/
theorem jbuild_byte4 {T E : TypeId} {x0 x1 x2 x3 : Operand} {b0 b1 b2 b3 : UInt8} {z : Value} (h0 : evO ρ x0 = some (AV.byte b0)) (h1 : evO ρ x1 = some (AV.byte b1)) (h2 : evO ρ x2 = some (AV.byte b2)) (h3 : evO ρ x3 = some (AV.byte b3)) (hT : k.P.underlying T = some (.slice E)) (he : El k.P E z 1 1)
 (hd : Nat.blt d k.n = true) (hj : JL k ops l Q ((d, .d (.l 1 1 ([b0, b1, b2, b3].map byteC))) :: ρ) h) : JL k ops (⟨some d, .buildSlice T 4 #[(0, x0), (1, x1), (2, x2), (3, x3)], ty, pos, after, none⟩ :: l) Q ρ h := by
 refine JL_buildSlice (xs := [x0, x1, x2, x3]) (rows := [b0, b1, b2, b3].map byteC) hT he (by decide) (by simp) rfl ?_ ?_ ?_ (by simp) (by simp) (fun t ht => by cases ht; exact blt hd) hj
 · simp only [List.map_cons, List.map_nil, ev_of_evO h0, ev_of_evO h1, ev_of_evO h2, ev_of_evO h3]; rfl
 · intro x hx
   simp only [List.mem_cons, List.not_mem_nil, or_false] at hx
   rcases hx with rfl | rfl | rfl | rfl
   · rw [ev_of_evO h0]; rfl
   · rw [ev_of_evO h1]; rfl
   · rw [ev_of_evO h2]; rfl
   · rw [ev_of_evO h3]; rfl
 · intro r hr
   simp only [List.map_cons, List.map_nil, List.mem_cons, List.not_mem_nil, or_false] at hr
   rcases hr with rfl | rfl | rfl | rfl <;> rfl
/-- A literal, as a row that may grow. -/
theorem JL_buildRow {α : Type} {f : α → List D} {ys : List α} {T E : TypeId} {z : Value} {sz eb len : Nat} {parts : Array (Nat × Operand)} {xs : List Operand} (hT : k.P.underlying T = some (.slice E)) (he : El k.P E z sz eb) (h0 : 0 < sz)
 (hp : parts = ((xs.zipIdx).map fun p => (p.2, p.1)).toArray) (hl : len = xs.length) (hr : xs.map (fun x => (ev ρ x).cl) = (ys.map f).map (·.map D.av)) (hs : ∀ x ∈ xs, (ev ρ x).stor = true) (hsz : ∀ y, (f y).length = sz) (hc : ys.length * sz ≤ 16777216)
 (hd : Nat.blt d k.n = true) (hj : All fun v => JL k ops l Q ((d, .val v) :: ρ) (rowE v E sz f ys :: h)) : JL k ops (⟨some d, .buildSlice T len parts, ty, pos, after, none⟩ :: l) Q ρ h := by
 obtain ⟨i, hi, hz0, hz1, _⟩ := he.get
 have hxl : xs.length = ys.length := by have := congrArg List.length hr; simpa using this
 refine JL_eff rfl (fun t ht => by cases ht; exact blt hd) fun I a w k1 k2 => ?_
 obtain ⟨hrel, hcs⟩ := evs_data k2 xs (ys.map f) hr hs
 have hsv : ∀ v ∈ xs.map a.eval, v.cells.size = sz := fun v hv => by
  obtain ⟨r, h1, h2⟩ := hcs v hv
  obtain ⟨y, _, rfl⟩ := List.mem_map.1 h1
  rw [h2]; exact hsz y
 let zc : Array Value := if len * sz = 0 then #[] else z.cells
 obtain ⟨cells, hf1, hf2⟩ := fill_seq (sz := sz) (xs.map a.eval) 0 ((Array.range (len * sz)).map (zc[· % zc.size]!)) [] ((Array.range (len * sz)).map (zc[· % zc.size]!)).toList hsv rfl (by simp) (by simp [hl])
 simp only [List.nil_append] at hf2
 have hrun : (Instr.buildSlice T len (parts.map fun (i, x) => (i, a.eval x))).run k.P w = .ok (.slice (some ⟨w.heap.size, 0, none⟩) len len) (w.alloc (.cells cells E)) := by
  have hparts : (parts.map fun (i, x) => (i, a.eval x)).toList = ((xs.map a.eval).zipIdx 0).map fun p => (p.2, p.1) := by
   rw [hp]; simp [List.zipIdx_map]
  have hlt : ¬ len * sz > 2 ^ 24 := by rw [hl, hxl]; omega
  simp only [Instr.buildSlice, Sem.run_bind, run_underlying hT, Result.andThen_ok, sizeOf, typeInfo, run_program, hi, Sem.run_pure, hz1, hlt, if_false, Sem.run_ite, zeroValue, hz0]
  by_cases hzz : len * sz = 0
  · simp only [zc, hzz, if_true] at hf1
    simp only [hzz, if_true, hparts]
    rw [hf1]; simp [newRow]
  · simp only [zc, hzz, if_false] at hf1
    simp only [hzz, if_false, hparts]
    rw [hf1]; simp [newRow]
 have hcl : cells.toList.length = ys.length * sz := by
  rw [hf2]
  have := AV.rels_length hrel
  rw [List.length_map, flatten_length (ys.map f) (fun r hr => by obtain ⟨y, _, rfl⟩ := List.mem_map.1 hr; exact hsz y), List.length_map] at this
  exact this.symm
 refine ⟨.slice (some ⟨w.heap.size, 0, none⟩) ys.length ys.length, w.alloc (.cells cells E), I, .val (.slice (some ⟨w.heap.size, 0, none⟩) ys.length ys.length), _, ?_, k1.fresh _ (rowE (.slice (some ⟨w.heap.size, 0, none⟩) ys.length ys.length) E sz f ys) rfl ?_, k2.fresh k1 _, rfl, hj.get _⟩
 · rw [← hxl, ← hl]
   simp only [execOp, Sem.run_bind, hrun, Result.andThen_ok, Sem.run_pure]
 · have hmono : ∀ b, I b → (w.alloc (.cells cells E)).heap[b]? = w.heap[b]? := fun b hb => Go.RowKit.Below.heap_alloc w _ b (k1.imm b hb).1
   refine ⟨cells.toList, World.ownsRow_lit w cells ys.length (Nat.zero_le _) ?_ (by rw [← hcl]; simp), ?_⟩
   · have : ys.length ≤ ys.length * sz := Nat.le_mul_of_pos_right _ h0
     simp only [maxLen]; omega
   · rw [hf2]
     exact AV.rels_mono hmono (fun _ h => h) hrel
/-- Four bytes, as a row that may grow. -/
theorem jrow_byte4 {T E : TypeId} {x0 x1 x2 x3 : Operand} {b0 b1 b2 b3 : UInt8} {z : Value} (h0 : evO ρ x0 = some (AV.byte b0)) (h1 : evO ρ x1 = some (AV.byte b1)) (h2 : evO ρ x2 = some (AV.byte b2)) (h3 : evO ρ x3 = some (AV.byte b3)) (hT : k.P.underlying T = some (.slice E)) (he : El k.P E z 1 1)
 (hd : Nat.blt d k.n = true) (hj : All fun v => JL k ops l Q ((d, .val v) :: ρ) (rowE v E 1 byteC [b0, b1, b2, b3] :: h)) : JL k ops (⟨some d, .buildSlice T 4 #[(0, x0), (1, x1), (2, x2), (3, x3)], ty, pos, after, none⟩ :: l) Q ρ h := by
 refine JL_buildRow (f := byteC) (ys := [b0, b1, b2, b3]) (xs := [x0, x1, x2, x3]) hT he (by decide) (by simp) rfl ?_ ?_ (fun _ => rfl) (by simp) hd hj
 · simp only [List.map_cons, List.map_nil, ev_of_evO h0, ev_of_evO h1, ev_of_evO h2, ev_of_evO h3]; rfl
 · intro x hx
   simp only [List.mem_cons, List.not_mem_nil, or_false] at hx
   rcases hx with rfl | rfl | rfl | rfl
   · rw [ev_of_evO h0]; rfl
   · rw [ev_of_evO h1]; rfl
   · rw [ev_of_evO h2]; rfl
   · rw [ev_of_evO h3]; rfl
end
section
variable {P : Program} {G : List (Nat × List D)} {ρ : Env} {h : H} {dst : Option Tmp} {ty : TypeId} {pos : String} {after : Array Edge} {g : Option (Nat × Bool)}
theorem pu_min {x y : Operand} {m n : Int} {ats : Array TypeId} (hx : evO ρ x = some (.int m)) (hy : evO ρ y = some (.int n)) : Pure P G ⟨dst, .call { callee := .builtin .min, args := #[x, y], argTypes := ats }, ty, pos, after, g⟩ ρ h (.int (min m n)) :=
 pure_free fun w I _ a hs => by
  have e1 := rel_val (hs.ev x) (ev_of_evO hx)
  have e2 := rel_val (hs.ev y) (ev_of_evO hy)
  refine ⟨_, rfl, fun w' => ?_⟩
  have e3 : (if n < m then n else m) = min m n := by omega
  have hr : (Builtin.min_ ats ty #[.int .i64 m, .int .i64 n]).run P w' = .ok (.int .i64 (min m n)) w' := by rw [← e3]; simp [Builtin.min_, Builtin.min2]
  simp [execOp, resolve, invoke, builtin, e1, e2, hr]
theorem Rel.cut3 {w : World} {I : Nat → Prop} {sz eb n cap : Nat} {rows : List (List D)} {ad : Option Addr} (h : Rel w I (.l sz eb rows) (.slice ad rows.length cap)) (h2 : n ≤ rows.length) : Rel w I (.l sz eb (rows.take n)) (.slice ad n n) := by
 generalize hv : Value.slice ad rows.length cap = v at h
 cases h with
 | nil => cases hv; obtain rfl : n = 0 := by simpa using h2
          exact .nil sz eb
 | emp _ _ ad0 => cases hv; obtain rfl : n = 0 := by simpa using h2
                  exact .emp sz eb ad0
 | l _ _ _ ad0 cap0 css hI hcap hm hb hsz hc hr =>
   cases hv
   have hlen : (rows.take n).length = n := by rw [List.length_take]; omega
   have hg : ∀ (j : Nat) (r : List D), (rows.take n)[j]? = some r → rows[j]? = some r := fun j r hj => by
    rw [List.getElem?_take] at hj
    split at hj
    · exact hj
    · cases hj
   have := Rel.l (w := w) (I := I) sz eb (rows.take n) ad0 n css hI (by omega) (by omega) (Nat.le_trans (Nat.mul_le_mul_right eb (by rw [hlen]; exact h2)) hb) (fun r hr => hsz r (List.mem_of_mem_take hr))
    (fun j u r x hj hx => hc j u r x (hg j r hj) hx) (fun j u r x hj hx => hr j u r x (hg j r hj) hx)
   rwa [hlen] at this
/-- x[:n:n]. -/
theorem pu_slice_to3 {α : Type} {f : α → List D} {xs : List α} {T E : TypeId} {x hi mx : Operand} {sz eb : Nat} {n : Int} {z : Value} {eb' : Nat} (hx : evO ρ x = some (.d (.l sz eb (xs.map f)))) (hhi : evO ρ hi = some (.int n)) (hmx : evO ρ mx = some (.int n)) (hT : P.underlying T = some (.slice E)) (hE : El P E z sz eb')
 (h0 : 0 ≤ n) (h2 : n ≤ xs.length) : Pure P G ⟨dst, .slice T x none (some hi) (some mx), ty, pos, after, g⟩ ρ h (.d (.l sz eb ((xs.take n.toNat).map f))) :=
 pure_free fun w I _ a hs => by
  obtain ⟨i, hE, _, _, _⟩ := hE.get
  have e1 : Rel w I (.l sz eb (xs.map f)) (a.eval x) := by have := hs.ev x; rw [ev_of_evO hx] at this; exact this
  have e2 := rel_val (hs.ev hi) (ev_of_evO hhi)
  have e3 := rel_val (hs.ev mx) (ev_of_evO hmx)
  obtain ⟨ad, cap, hv, hcap⟩ : ∃ ad cap, a.eval x = .slice ad (xs.map f).length cap ∧ (xs.map f).length ≤ cap := by
   have key : ∀ {rows : List (List D)}, Rel w I (.l sz eb rows) (a.eval x) → ∃ ad cap, a.eval x = .slice ad rows.length cap ∧ rows.length ≤ cap := by
    intro rows e
    generalize a.eval x = v at e
    cases e with
    | nil => exact ⟨none, 0, rfl, Nat.le_refl _⟩
    | emp _ _ ad => exact ⟨some ad, 0, rfl, Nat.le_refl _⟩
    | l _ _ _ ad cap css hI hcap => exact ⟨some ad, cap, rfl, hcap⟩
   exact key e1
  rw [hv] at e1
  have hcut := Rel.cut3 (n := n.toNat) e1 (by simp; omega)
  rw [← List.map_take] at hcut
  refine ⟨_, hcut, fun w' => ?_⟩
  have b1 : 0 ≤ n ∧ n ≤ (cap : Int) := by simp at hcap; omega
  have b2 : n ≤ max n 0 := by omega
  simp [execOp, hv, e2, e3, Instr.sliceAt, run_underlying hT, Instr.slice, Instr.sliceBounds, Instr.sliceBound, asIntOf, b1, b2, sizeOf, typeInfo, hE]
  intro _
  cases ad with
  | none => rfl
  | some ad0 =>
    obtain ⟨bb, oo, ss⟩ := ad0
    cases ss <;> simp [Addr.add]
end
/-! ### Results, told less -/
theorem AV.le_agg {xs ys : List AV} (h : AVs.le xs ys) : AV.le (.agg xs) (.agg ys) := fun _ _ _ ⟨vs, h1, h2⟩ => ⟨vs, h1, AVs.le_rel h h2⟩
theorem RV1.le {P : Program} {G : List (Nat × List D)} {ρ : Env} {h : H} {r : ResultVar} {x y : AV} (hr : RV1 P G ρ h r x) (hl : AV.le x y) : RV1 P G ρ h r y := fun c I n a w h1 h2 h3 => let ⟨v, e1, e2⟩ := hr c I n a w h1 h2 h3; ⟨v, hl _ _ _ e1, e2⟩
theorem RVs.le {P : Program} {G : List (Nat × List D)} {ρ : Env} {h : H} : ∀ {rs : List ResultVar} {xs ys : List AV}, RVs P G ρ h rs xs → AVs.le xs ys → RVs P G ρ h rs ys
 | [], [], [], _, _ => trivial
 | _ :: _, _ :: _, _ :: _, ⟨h1, h2⟩, ⟨g1, g2⟩ => ⟨h1.le g1, RVs.le h2 g2⟩
theorem retrl {P : Program} {G : List (Nat × List D)} {rs : List ResultVar} {Q : AE → H → Prop} {e : Exit} {ρ ρ1 : Env} {h h1 h' : H} {xs ys : List AV} (v : VS ρ h ρ1 h1) (hrv : RVs P G ρ1 h1 rs xs) (hle : AVs.le xs ys) (he : retE e = true) (hs : List.Sublist h' h1) (hq : Q (.ret (tupAV ys)) h') : retR P G rs Q e ρ h :=
 retr v (hrv.le hle) he hs hq
theorem vid {ρ : Env} {h : H} : VS ρ h ρ h := VS.of_le (Env.le_refl _)
end Go.Av
namespace Go.Av
open Go
set_option linter.unusedVariables false
set_option linter.unusedSimpArgs false

/-- The head falls into what has to come up (by number; true: its guard is known to hold), and the tail. -/
inductive Mix : List Oper → Nat → Nat → List (Nat × Bool) → List Oper → Prop where
 | nil {l : List Oper} {i : Nat} : Mix l 0 i [] l
 | cons {o : Oper} {l l2 : List Oper} {n i : Nat} {p : List (Nat × Bool)} (h : Mix l n (i + 1) p l2) : Mix (o :: l) (n + 1) i ((i, false) :: p) l2
theorem Mix.drop {l l2 : List Oper} {n i : Nat} {p : List (Nat × Bool)} (h : Mix l n i p l2) : l.drop n = l2 := by
 induction h with
 | nil => rfl
 | cons h ih => simpa using ih
inductive Rv {α : Type} : List α → List α → List α → Prop where
 | nil {r : List α} : Rv [] r r
 | cons {x : α} {l a r : List α} (h : Rv l (x :: a) r) : Rv (x :: l) a r
def storeB : Op → Bool
 | .store .. => true
 | .mapUpdate .. => true
 | _ => false
/-- A Go function is called that hands back more than a number or a truth. -/
def bigCall (P : Program) (o : Oper) : Bool :=
 match o.op with
 | .call c => (match c.callee with
   | .value (.func _) => (match P.underlying o.type with
     | some (.int _) => false
     | some .bool => false
     | some .string => false
     | _ => true)
   | _ => false)
 | _ => false
def mixShape (P : Program) (ops : Array Oper) (n : Nat) : Bool :=
 ops.any (bigCall P) && Region.noSelect ops && decide (n ≤ ops.size) && (decide (n = ops.size) || (Region.sinkB .any ops n && Region.chainB .any ops n)) && (ops.toList.take n).all fun o => !storeB o.op
def mixOk (ops : Array Oper) (listed : Array Bool) (n i : Nat) : Bool := (Region.ready .any ops listed).contains i && Region.free .any ops listed i && decide (i < n)
def onlyOk (ops : Array Oper) (listed : Array Bool) (n i : Nat) : Bool := decide (Region.ready .any ops listed = [i]) && decide (i < n)
/-- The judgement: the head's operations in whatever order, f of them still to come; then the tail. (s, pend, held only guide the walk.) -/
structure JE (k : Kx) (ops : Array Oper) (n f : Nat) (listed : Array Bool) (l2 : List Oper) (s : Nat) (pend held : List (Nat × Bool)) (Q : Exit → Env → H → Prop) (ρ : Env) (h : H) : Prop where
 get : mixShape k.P ops n = true → HeadInv .any ops n listed → ∀ I a w, Ok k.c I h w → SF k.n w I ρ a → a.defers = k.df →
  headH k.P .any ops (Same I h w) n (fun listed' a' w' => Region.seqB .any ops (ops.size - n) n listed' = true ∧ wpList k.P ops (lift k Q) l2 a' w') f listed a w

theorem mix_low {P : Program} {ops : Array Oper} {n : Nat} (hs : mixShape P ops n = true) {i : Nat} (hi : i < n) : ∀ listed, HeadInv .any ops n listed → i ∈ Region.ready .any ops listed → ∀ j ∈ Region.ready .any ops listed, j < n := by
 simp only [mixShape, Bool.and_eq_true, Bool.or_eq_true, decide_eq_true_eq] at hs
 obtain ⟨⟨⟨⟨_, hsel⟩, hle⟩, hor⟩, _⟩ := hs
 intro listed inv hr j hj
 rcases hor with hn | ⟨hs, hc⟩
 · obtain ⟨_, o, ho, _⟩ := mem_ready.1 hj
   rw [hn]; exact (Array.getElem?_eq_some_iff.1 ho).1
 · rcases Nat.lt_or_ge j n with h | h
   · exact h
   · obtain ⟨_, o, ho, _⟩ := mem_ready.1 hj
     have hlt := (Array.getElem?_eq_some_iff.1 ho).1
     exact absurd hj (tail_waits hs hc (by omega) inv _ i rfl hi (mem_ready.1 hr).1 j h)

section
variable {k : Kx} {Q : Exit → Env → H → Prop} {ρ ρ' : Env} {h h' : H} {ops : Array Oper} {listed : Array Bool} {l2 : List Oper} {n f s i d : Nat} {op : Op} {ty : TypeId} {pos : String} {after : Array Edge} {pend held : List (Nat × Bool)} {b : Bool}

theorem J_region_mix {id : Nat} {l l2 : List Oper} {p : List (Nat × Bool)} {P : Program} (t : Nat) (hm : P.follows .mixedOrders = true) (hP : k.P = P) (hn : l.length = n + t) (hs : mixShape P l.toArray n = true) (hx : Mix l n 0 p l2)
 (hj : JE k l.toArray n n (Array.replicate l.length false) l2 n p [] Q ρ h) : J k (.region id l.toArray true) Q ρ h := by
 subst hP
 intro I a w h1 h2 h3
 refine wp_region_any hm ?_
 have hsm : Same I h w { w with drawn := w.drawn + 1 } := ⟨rfl, rfl, rfl, Nat.le_refl _, fun _ _ => rfl⟩
 have inv0 : HeadInv .any l.toArray n (Array.replicate l.length false) :=
  ⟨by simp, fun j oj _ hl => (by rw [getD_replicate_false] at hl; cases hl), fun t _ ht => getD_in (by simpa using ht) (getD_replicate_false _ _)⟩
 have H := hj.get hs inv0 I a _ (h1.same hsm) (SF.same h1 hsm h2) h3
 have K := any_of_headH (Q := lift k Q) (g := l.length - n) (fun listed' a' w' hL => by
  have hd := hx.drop
  have := wpAny_of_seq (md := .any) (Q' := lift k Q) l2 n listed' a' w' (fun j => by rw [← hd]; simp [List.getElem?_drop]) (by
   have e : l2.length = l.toArray.size - n := by rw [← hd]; simp
   rw [e]; exact hL.1) hL.2
  have e : l2.length = l.length - n := by rw [← hd]; simp
  rwa [e] at this) _ _ _ _ H
 rw [show n + (l.length - n) = l.toArray.size by simp; omega] at K
 simpa using K

theorem mix_sel (hs : mixShape k.P ops n = true) : Region.noSelect ops = true := by
 simp only [mixShape, Bool.and_eq_true] at hs
 exact hs.1.1.1.2
theorem mix_done (hs : mixShape k.P ops n = true) : ∀ (listed : Array Bool) (a : Act) (w : World), (Region.seqB .any ops (ops.size - n) n listed = true ∧ wpList k.P ops (lift k Q) l2 a w) → ∀ j ∈ Region.ready .any ops listed, n ≤ j :=
 fun _ _ _ h => seqB_ready h.1

/-- One that only reads. -/
theorem je_take {o : Oper} {v : Value} {r : AV} (ho : ops[i]? = some o) (hc : mixOk ops listed n i = true) (hd : ∀ t, o.dst = some t → t < k.n)
 (hy : ∀ I a w, Ok k.c I h w → SF k.n w I ρ a → ∃ v, AV.rel w I r v ∧ YieldsIf k.P ops (Same I h w) o v a)
 (hj : JE k ops n f (listed.setIfInBounds i true) l2 s pend held Q (put ρ o.dst r) h) : JE k ops n (f + 1) listed l2 s ((i, b) :: pend) held Q ρ h := by
 refine ⟨fun hs inv I a w h1 h2 h3 => ?_⟩
 simp only [mixOk, Bool.and_eq_true, decide_eq_true_eq] at hc
 obtain ⟨⟨hr, hf⟩, hin⟩ := hc
 have hr' : i ∈ Region.ready .any ops listed := by simpa using hr
 obtain ⟨v, hv, hyv⟩ := hy I a w h1 h2
 exact headH_first ho (Region.noSelect_spec (mix_sel hs)) (mix_low hs hin) hin (mix_done hs) f listed a w inv (Region.free_spec ho hf) hr' hyv (Same.refl _ _ _)
  (hj.get hs (inv.set hr' hin) I _ w h1 (h2.put hd hv) (by rw [Act.defers_put]; exact h3))
theorem je_q {r : AV} (ho : ops[i]? = some ⟨some d, op, ty, pos, after, none⟩) (hc : mixOk ops listed n i = true) (hp : Pure k.P k.c.G ⟨some d, op, ty, pos, after, none⟩ ρ h r) (hd : Nat.blt d k.n = true)
 (hj : JE k ops n f (listed.setIfInBounds i true) l2 s pend held Q ((d, r) :: ρ) h) : JE k ops n (f + 1) listed l2 s ((i, false) :: pend) held Q ρ h :=
 je_take (v := undef) ho hc (fun t ht => by cases ht; exact blt hd) (fun I a w h1 h2 => by
  obtain ⟨v, hv, hrun⟩ := hp k.c I k.n a w rfl h1 h2
  exact ⟨v, hv, .inl ⟨by simp [Region.wanted], fun w' hw' => hrun w' (hw'.weak h1)⟩⟩) hj
theorem je_qy {j dj : Nat} {want : Bool} {oj : Oper} {r : AV} (ho : ops[i]? = some ⟨some d, op, ty, pos, after, some (j, want)⟩) (hoj : ops[j]? = some oj) (hdj : oj.dst = some dj) (hr : get ρ dj = .val (.bool want)) (hn : Nat.blt dj k.n = true) (hc : mixOk ops listed n i = true)
 (hp : Pure k.P k.c.G ⟨some d, op, ty, pos, after, some (j, want)⟩ ρ h r) (hd : Nat.blt d k.n = true)
 (hj : JE k ops n f (listed.setIfInBounds i true) l2 s pend held Q ((d, r) :: ρ) h) : JE k ops n (f + 1) listed l2 s ((i, true) :: pend) held Q ρ h :=
 je_take (v := undef) ho hc (fun t ht => by cases ht; exact blt hd) (fun I a w h1 h2 => by
  obtain ⟨v, hv, hrun⟩ := hp k.c I k.n a w rfl h1 h2
  have hw := wanted_of (ops := ops) (o := ⟨some d, op, ty, pos, after, some (j, want)⟩) h2 rfl hoj hdj hr (blt hn)
  exact ⟨v, hv, .inl ⟨by rw [hw]; simp, fun w' hw' => hrun w' (hw'.weak h1)⟩⟩) hj
theorem je_gn {j dj : Nat} {want : Bool} {oj : Oper} (ho : ops[i]? = some ⟨some d, op, ty, pos, after, some (j, want)⟩) (hoj : ops[j]? = some oj) (hdj : oj.dst = some dj) (hr : get ρ dj = .val (.bool (!want))) (hn : Nat.blt dj k.n = true) (hc : mixOk ops listed n i = true) (hd : Nat.blt d k.n = true)
 (hj : JE k ops n f (listed.setIfInBounds i true) l2 s pend held Q ((d, .val undef) :: ρ) h) : JE k ops n (f + 1) listed l2 s ((i, b) :: pend) held Q ρ h :=
 je_take (v := undef) ho hc (fun t ht => by cases ht; exact blt hd) (fun I a w h1 h2 => by
  have hw := wanted_of (ops := ops) (o := ⟨some d, op, ty, pos, after, some (j, want)⟩) h2 rfl hoj hdj hr (blt hn)
  exact ⟨undef, rfl, .inr ⟨by rw [hw]; cases want <;> simp, rfl⟩⟩) hj
theorem je_gu {j dj : Nat} {want : Bool} {oj : Oper} (ho : ops[i]? = some ⟨some d, op, ty, pos, after, some (j, want)⟩) (hoj : ops[j]? = some oj) (hdj : oj.dst = some dj) (hr : get ρ dj = .val undef) (hc : mixOk ops listed n i = true) (hd : Nat.blt d k.n = true)
 (hj : JE k ops n f (listed.setIfInBounds i true) l2 s pend held Q ((d, .val undef) :: ρ) h) : JE k ops n (f + 1) listed l2 s ((i, false) :: pend) held Q ρ h :=
 je_take (v := undef) ho hc (fun t ht => by cases ht; exact blt hd) (fun I a w h1 h2 => by
  have hw := wanted_undef (ops := ops) (o := ⟨some d, op, ty, pos, after, some (j, want)⟩) h2 rfl hoj hdj hr
  exact ⟨undef, rfl, .inr ⟨by rw [hw], rfl⟩⟩) hj
theorem JE_le (hle : Env.le ρ ρ') (hj : JE k ops n f listed l2 s pend held Q ρ' h) : JE k ops n f listed l2 s pend held Q ρ h := ⟨fun hs inv I a w h1 h2 h3 => hj.get hs inv I a w h1 (h2.le hle) h3⟩
/-- A guard that holds or not. -/
theorem je_gt {j dj : Nat} {c : Bool} {oj : Oper} (ho : ops[i]? = some ⟨some d, op, ty, pos, after, some (j, true)⟩) (hoj : ops[j]? = some oj) (hdj : oj.dst = some dj) (hr : get ρ dj = .val (.bool c)) (hn : Nat.blt dj k.n = true) (hc : mixOk ops listed n i = true) (hd : Nat.blt d k.n = true)
 (hb : CB c (JE k ops n (f + 1) listed l2 s ((i, true) :: pend) held Q ((dj, .bool true) :: ρ) h) (JE k ops n f (listed.setIfInBounds i true) l2 s pend held Q ((d, .val undef) :: (dj, .bool false) :: ρ) h)) : JE k ops n (f + 1) listed l2 s ((i, false) :: pend) held Q ρ h := by
 cases c with
 | true => exact JE_le (Env.le_cons (AV.le_of_eq hr) (Env.le_refl _)) ⟨(hb.1 rfl).get⟩
 | false => exact JE_le (Env.le_cons (AV.le_of_eq hr) (Env.le_refl _)) (je_gn (want := true) ho hoj hdj (by simp [get]) hn hc hd (hb.2 rfl))
theorem je_gf {j dj : Nat} {c : Bool} {oj : Oper} (ho : ops[i]? = some ⟨some d, op, ty, pos, after, some (j, false)⟩) (hoj : ops[j]? = some oj) (hdj : oj.dst = some dj) (hr : get ρ dj = .val (.bool c)) (hn : Nat.blt dj k.n = true) (hc : mixOk ops listed n i = true) (hd : Nat.blt d k.n = true)
 (hb : CB c (JE k ops n f (listed.setIfInBounds i true) l2 s pend held Q ((d, .val undef) :: (dj, .bool true) :: ρ) h) (JE k ops n (f + 1) listed l2 s ((i, true) :: pend) held Q ((dj, .bool false) :: ρ) h)) : JE k ops n (f + 1) listed l2 s ((i, false) :: pend) held Q ρ h := by
 cases c with
 | true => exact JE_le (Env.le_cons (AV.le_of_eq hr) (Env.le_refl _)) (je_gn (want := false) ho hoj hdj (by simp [get]) hn hc hd (hb.1 rfl))
 | false => exact JE_le (Env.le_cons (AV.le_of_eq hr) (Env.le_refl _)) ⟨(hb.2 rfl).get⟩
theorem je_hold (_hc : onlyOk ops listed n i = false) (hj : JE k ops n f listed l2 s pend ((i, b) :: held) Q ρ h) : JE k ops n f listed l2 s ((i, b) :: pend) held Q ρ h := ⟨hj.get⟩
theorem je_swap {q : Nat × Bool} {p : List (Nat × Bool)} (_hp : Rv (q :: held) [] p) (hj : JE k ops n f listed l2 s p [] Q ρ h) : JE k ops n f listed l2 (s + 1) [] (q :: held) Q ρ h := ⟨hj.get⟩
theorem je_done (hc : Region.seqB .any ops (ops.size - n) n listed = true) (hj : JL k ops l2 Q ρ h) : JE k ops n 0 listed l2 s [] [] Q ρ h := ⟨fun _ _ I a w h1 h2 h3 => ⟨hc, hj I a w h1 h2 h3⟩⟩

theorem Same.step {I I' : Nat → Prop} {h h' : H} {w w' : World} (s : Same I h w w') : ∀ u, Same I' h' w' u → Same I h w u := fun _ t => ⟨t.os.trans s.os, t.tape.trans s.tape, t.output.trans s.output, Nat.le_trans s.size t.size, fun b hb => (t.block b (Nat.lt_of_lt_of_le hb s.size)).trans (s.block b hb)⟩
/-- A call that is handed nothing to write on, where nothing else can come. -/
theorem je_callG {f' : FuncId} {xs : Array Operand} {ats : Array TypeId} {args : List AV} {R : AE → H → Prop} (ho : ops[i]? = some ⟨some d, .call { callee := .value (.func f'), args := xs, argTypes := ats }, ty, pos, after, none⟩) (hc : onlyOk ops listed n i = true)
 (hargs : evsO ρ xs.toList = some args) (hcal : Cal k.P f') (hac : AC k.P k.c.G f' args [] R) (hd : Nat.blt d k.n = true) (hnp : ∀ ch h', ¬ R (.pan ch) h')
 (hret : ∀ r h', R (.ret r) h' → JE k ops n f (listed.setIfInBounds i true) l2 s pend held Q ((d, r) :: ρ) (h' ++ h)) : JE k ops n (f + 1) listed l2 s ((i, b) :: pend) held Q ρ h := by
 refine ⟨fun hs inv I a w h1 h2 h3 => ?_⟩
 simp only [onlyOk, Bool.and_eq_true, decide_eq_true_eq] at hc
 obtain ⟨hr, hin⟩ := hc
 have hr' : i ∈ Region.ready .any ops listed := by rw [hr]; simp
 refine ⟨by rw [hr]; simp, fun j hj => ?_⟩
 rw [hr] at hj
 obtain rfl : j = i := by simpa using hj
 refine ⟨hin, ?_⟩
 unfold wpOp
 rw [ho]
 dsimp only
 rw [if_pos (by simp [Region.wanted])]
 refine .inl ?_
 unfold Oper.wp
 rw [execOp_call_go, hcal]
 simp only [Oper.upon]
 have hargs' : (#[] ++ xs.map a.eval ++ #[] : Array Value) = (xs.toList.map a.eval).toArray := by
  apply Array.ext'; simp
 rw [hargs']
 have hrels : AV.rels w I args (xs.toList.map a.eval) := by rw [← evs_of_evsO hargs]; exact rels_evs h2 xs.toList
 refine (hac I w _ (by simp) (by simp [blks]) (fun b hb => ⟨(h1.imm b hb).1, by simp [blks]⟩) (fun q hq => h1.glob q hq) hrels).mono ?_
 rintro e w' ⟨r, h', I', hR, hok, hrel⟩
 have k0 : Ok k.c I ([] ++ h) w := h1
 obtain ⟨k1, k2⟩ := Ok.call (hc := []) (hr := h) k0 hok
 have hsm : Same I h w w' := ⟨hok.os, hok.tape, hok.output, hok.size, fun b hb => hok.keep b hb (by simp [blks])⟩
 have hsf : SF k.n w' I' ρ a := h2.mono k2 (fun b hb => hok.sup b hb)
 cases r with
 | ret r =>
   cases e with
   | returned v => exact ⟨hsm, headH_mono hsm.step _ _ _ _ ((hret r h' hR).get hs (inv.set hr' hin) I' _ w' k1 (hsf.put (fun t ht => by cases ht; exact blt hd) hrel) (by rw [Act.defers_put]; exact h3))⟩
   | panicked ch => exact hrel.elim
   | outgrown => exact hrel.elim
 | pan ch => exact absurd hR (hnp ch h')
theorem je_call0 {f' : FuncId} {xs : Array Operand} {ats : Array TypeId} {args : List AV} {r : AV} (ho : ops[i]? = some ⟨some d, .call { callee := .value (.func f'), args := xs, argTypes := ats }, ty, pos, after, none⟩) (hc : onlyOk ops listed n i = true)
 (hargs : evsO ρ xs.toList = some args) (hcal : Cal k.P f') (hac : ACr k.P k.c.G f' args r) (hd : Nat.blt d k.n = true)
 (hj : JE k ops n f (listed.setIfInBounds i true) l2 s pend held Q ((d, r) :: ρ) h) : JE k ops n (f + 1) listed l2 s ((i, b) :: pend) held Q ρ h :=
 je_callG ho hc hargs hcal hac hd (fun ch h' hq => by cases hq.1) fun r' h' hq => by obtain ⟨e1, e2⟩ := hq; cases e1; subst e2; exact hj
theorem je_callE {β : Type} {X : β → AV} {en : β → Ent} {f' : FuncId} {xs : Array Operand} {ats : Array TypeId} {args : List AV} (ho : ops[i]? = some ⟨some d, .call { callee := .value (.func f'), args := xs, argTypes := ats }, ty, pos, after, none⟩) (hc : onlyOk ops listed n i = true)
 (hargs : evsO ρ xs.toList = some args) (hcal : Cal k.P f') (hac : AC k.P k.c.G f' args [] fun r h => ∃ v, r = .ret (X v) ∧ h = [en v]) (hd : Nat.blt d k.n = true)
 (hj : All fun v => JE k ops n f (listed.setIfInBounds i true) l2 s pend held Q ((d, X v) :: ρ) (en v :: h)) : JE k ops n (f + 1) listed l2 s ((i, b) :: pend) held Q ρ h :=
 je_callG ho hc hargs hcal hac hd (fun ch h' hq => by obtain ⟨v, e1, _⟩ := hq; cases e1) fun r' h' hq => by obtain ⟨v, e1, e2⟩ := hq; cases e1; subst e2; exact hj.get v
end
/-! ### Rows whose value is told as a slice -/
structure Sl where
 ad : Option Addr
 n : Nat
 c : Nat
abbrev Sl.v (q : Sl) : Value := .slice q.ad q.n q.c
abbrev Sl.nil : Sl := ⟨none, 0, 0⟩
section
variable {k : Kx} {Q : Exit → Env → H → Prop} {ρ ρ' : Env} {h h' h1 h2 : H} {ops : Array Oper} {l : List Oper} {d : Nat} {ty : TypeId} {pos : String} {after : Array Edge} {e1 e2 e3 e4 : Ent}
theorem JL_slice {v : Value} {n : Nat} {E : TypeId} {sz : Nat} {xs : List AV} (hh : h = h1 ++ .row v n E sz xs :: h2) (hj : ∀ q : Sl, v = q.v → JL k ops l Q ρ h) : JL k ops l Q ρ h := by
 intro I a w k1 k2 k3
 obtain ⟨os, ho, _⟩ := k1.ent (.row v n E sz xs) (by rw [hh]; simp)
 rcases ho.2 with ⟨rfl, _⟩ | ⟨g, cap, cur, rfl, _⟩
 · exact hj ⟨none, 0, 0⟩ rfl I a w k1 k2 k3
 · exact hj ⟨some ⟨g, 0, none⟩, n, cap⟩ rfl I a w k1 k2 k3
/-- append(row, more...), wherever the row stands. -/
theorem jappG {α : Type} {f : α → List D} {xs ys : List α} {T E : TypeId} {x y : Operand} {z : Value} {sz eb eb' : Nat} {v : Value} (hx : evO ρ x = some (.val v)) (hh : h = h1 ++ rowE v E sz f xs :: h2) (hy : evO ρ y = some (.d (.l sz eb' (ys.map f)))) (hT : k.P.underlying T = some (.slice E)) (he : El k.P E z sz eb) (hz : z.cells.size = sz) (h0 : Nat.blt 0 sz = true)
 (hd : Nat.blt d k.n = true) (hb : (xs.length + ys.length) * eb ≤ 140737488355328) (hm : xs.length + ys.length ≤ 140737488355328)
 (hj : ∀ q : Sl, JL k ops l Q ((d, .val q.v) :: ρ) (h1 ++ rowE q.v E sz f (xs ++ ys) :: h2)) :
 JL k ops (⟨some d, .call { callee := .builtin .append, args := #[x, y], argTypes := #[T, T] }, ty, pos, after, none⟩ :: l) Q ρ h := by
 refine JL_append (h1 := h1) (h2 := h2) (n := xs.length) (rows := ys.map f) hT he hz (blt h0) (ev_of_evO hx) (ev_of_evO hy) hh (by simpa using hb) (by simpa using hm) (fun t ht => by cases ht; exact blt hd) fun v' => ?_
 refine JL_slice (h1 := h1) (h2 := h2) rfl fun q hq => ?_
 subst hq
 have := hj q
 rw [rows_flat_snoc]
 unfold rowE at this
 rw [List.length_append] at this
 rw [List.length_map]
 exact this
theorem japS0 {α : Type} {f : α → List D} {xs ys : List α} {T E : TypeId} {x y : Operand} {z : Value} {sz eb eb' : Nat} {v : Value} (hx : evO ρ x = some (.val v)) (hy : evO ρ y = some (.d (.l sz eb' (ys.map f)))) (hT : k.P.underlying T = some (.slice E)) (he : El k.P E z sz eb) (hz : z.cells.size = sz) (h0 : Nat.blt 0 sz = true)
 (hd : Nat.blt d k.n = true) (hb : (xs.length + ys.length) * eb ≤ 140737488355328) (hm : xs.length + ys.length ≤ 140737488355328) (hj : All fun q : Sl => JL k ops l Q ((d, .val q.v) :: ρ) (rowE q.v E sz f (xs ++ ys) :: h2)) :
 JL k ops (⟨some d, .call { callee := .builtin .append, args := #[x, y], argTypes := #[T, T] }, ty, pos, after, none⟩ :: l) Q ρ (rowE v E sz f xs :: h2) := jappG (h1 := []) hx rfl hy hT he hz h0 hd hb hm hj.get
theorem japS1 {α : Type} {f : α → List D} {xs ys : List α} {T E : TypeId} {x y : Operand} {z : Value} {sz eb eb' : Nat} {v : Value} (hx : evO ρ x = some (.val v)) (hy : evO ρ y = some (.d (.l sz eb' (ys.map f)))) (hT : k.P.underlying T = some (.slice E)) (he : El k.P E z sz eb) (hz : z.cells.size = sz) (h0 : Nat.blt 0 sz = true)
 (hd : Nat.blt d k.n = true) (hb : (xs.length + ys.length) * eb ≤ 140737488355328) (hm : xs.length + ys.length ≤ 140737488355328) (hj : All fun q : Sl => JL k ops l Q ((d, .val q.v) :: ρ) (e1 :: rowE q.v E sz f (xs ++ ys) :: h2)) :
 JL k ops (⟨some d, .call { callee := .builtin .append, args := #[x, y], argTypes := #[T, T] }, ty, pos, after, none⟩ :: l) Q ρ (e1 :: rowE v E sz f xs :: h2) := jappG (h1 := [e1]) hx rfl hy hT he hz h0 hd hb hm hj.get
theorem japS2 {α : Type} {f : α → List D} {xs ys : List α} {T E : TypeId} {x y : Operand} {z : Value} {sz eb eb' : Nat} {v : Value} (hx : evO ρ x = some (.val v)) (hy : evO ρ y = some (.d (.l sz eb' (ys.map f)))) (hT : k.P.underlying T = some (.slice E)) (he : El k.P E z sz eb) (hz : z.cells.size = sz) (h0 : Nat.blt 0 sz = true)
 (hd : Nat.blt d k.n = true) (hb : (xs.length + ys.length) * eb ≤ 140737488355328) (hm : xs.length + ys.length ≤ 140737488355328) (hj : All fun q : Sl => JL k ops l Q ((d, .val q.v) :: ρ) (e1 :: e2 :: rowE q.v E sz f (xs ++ ys) :: h2)) :
 JL k ops (⟨some d, .call { callee := .builtin .append, args := #[x, y], argTypes := #[T, T] }, ty, pos, after, none⟩ :: l) Q ρ (e1 :: e2 :: rowE v E sz f xs :: h2) := jappG (h1 := [e1, e2]) hx rfl hy hT he hz h0 hd hb hm hj.get
theorem japS3 {α : Type} {f : α → List D} {xs ys : List α} {T E : TypeId} {x y : Operand} {z : Value} {sz eb eb' : Nat} {v : Value} (hx : evO ρ x = some (.val v)) (hy : evO ρ y = some (.d (.l sz eb' (ys.map f)))) (hT : k.P.underlying T = some (.slice E)) (he : El k.P E z sz eb) (hz : z.cells.size = sz) (h0 : Nat.blt 0 sz = true)
 (hd : Nat.blt d k.n = true) (hb : (xs.length + ys.length) * eb ≤ 140737488355328) (hm : xs.length + ys.length ≤ 140737488355328) (hj : All fun q : Sl => JL k ops l Q ((d, .val q.v) :: ρ) (e1 :: e2 :: e3 :: rowE q.v E sz f (xs ++ ys) :: h2)) :
 JL k ops (⟨some d, .call { callee := .builtin .append, args := #[x, y], argTypes := #[T, T] }, ty, pos, after, none⟩ :: l) Q ρ (e1 :: e2 :: e3 :: rowE v E sz f xs :: h2) := jappG (h1 := [e1, e2, e3]) hx rfl hy hT he hz h0 hd hb hm hj.get
/-- append(row, one). -/
theorem japO0 {α : Type} {f : α → List D} {xs : List α} {u : α} {T E : TypeId} {x y : Operand} {z : Value} {sz eb eb' : Nat} {v : Value} (hx : evO ρ x = some (.val v)) (hy : evO ρ y = some (.d (.l sz eb' [f u]))) (hT : k.P.underlying T = some (.slice E)) (he : El k.P E z sz eb) (hz : z.cells.size = sz) (h0 : Nat.blt 0 sz = true)
 (hd : Nat.blt d k.n = true) (hb : (xs.length + 1) * eb ≤ 140737488355328) (hm : xs.length + 1 ≤ 140737488355328) (hj : All fun q : Sl => JL k ops l Q ((d, .val q.v) :: ρ) (rowE q.v E sz f (xs ++ [u]) :: h2)) :
 JL k ops (⟨some d, .call { callee := .builtin .append, args := #[x, y], argTypes := #[T, T] }, ty, pos, after, none⟩ :: l) Q ρ (rowE v E sz f xs :: h2) := japS0 (ys := [u]) hx hy hT he hz h0 hd hb hm hj
theorem japO1 {α : Type} {f : α → List D} {xs : List α} {u : α} {T E : TypeId} {x y : Operand} {z : Value} {sz eb eb' : Nat} {v : Value} (hx : evO ρ x = some (.val v)) (hy : evO ρ y = some (.d (.l sz eb' [f u]))) (hT : k.P.underlying T = some (.slice E)) (he : El k.P E z sz eb) (hz : z.cells.size = sz) (h0 : Nat.blt 0 sz = true)
 (hd : Nat.blt d k.n = true) (hb : (xs.length + 1) * eb ≤ 140737488355328) (hm : xs.length + 1 ≤ 140737488355328) (hj : All fun q : Sl => JL k ops l Q ((d, .val q.v) :: ρ) (e1 :: rowE q.v E sz f (xs ++ [u]) :: h2)) :
 JL k ops (⟨some d, .call { callee := .builtin .append, args := #[x, y], argTypes := #[T, T] }, ty, pos, after, none⟩ :: l) Q ρ (e1 :: rowE v E sz f xs :: h2) := japS1 (ys := [u]) hx hy hT he hz h0 hd hb hm hj
theorem japO2 {α : Type} {f : α → List D} {xs : List α} {u : α} {T E : TypeId} {x y : Operand} {z : Value} {sz eb eb' : Nat} {v : Value} (hx : evO ρ x = some (.val v)) (hy : evO ρ y = some (.d (.l sz eb' [f u]))) (hT : k.P.underlying T = some (.slice E)) (he : El k.P E z sz eb) (hz : z.cells.size = sz) (h0 : Nat.blt 0 sz = true)
 (hd : Nat.blt d k.n = true) (hb : (xs.length + 1) * eb ≤ 140737488355328) (hm : xs.length + 1 ≤ 140737488355328) (hj : All fun q : Sl => JL k ops l Q ((d, .val q.v) :: ρ) (e1 :: e2 :: rowE q.v E sz f (xs ++ [u]) :: h2)) :
 JL k ops (⟨some d, .call { callee := .builtin .append, args := #[x, y], argTypes := #[T, T] }, ty, pos, after, none⟩ :: l) Q ρ (e1 :: e2 :: rowE v E sz f xs :: h2) := japS2 (ys := [u]) hx hy hT he hz h0 hd hb hm hj
/-- A literal of nothing, as a row. -/
theorem jbuild0S {α : Type} (f : α → List D) {T E : TypeId} {z : Value} {sz eb : Nat} (hT : k.P.underlying T = some (.slice E)) (he : El k.P E z sz eb) (hd : Nat.blt d k.n = true)
 (hj : All fun q : Sl => JL k ops l Q ((d, .val q.v) :: ρ) (rowE q.v E sz f [] :: h)) : JL k ops (⟨some d, .buildSlice T 0 #[], ty, pos, after, none⟩ :: l) Q ρ h :=
 jbuild0 f hT he hd ⟨fun v => JL_slice (h1 := []) rfl fun q e => by subst e; exact hj.get q⟩
theorem jrow_byte4S {T E : TypeId} {x0 x1 x2 x3 : Operand} {b0 b1 b2 b3 : UInt8} {z : Value} (h0 : evO ρ x0 = some (AV.byte b0)) (h1 : evO ρ x1 = some (AV.byte b1)) (h2 : evO ρ x2 = some (AV.byte b2)) (h3 : evO ρ x3 = some (AV.byte b3)) (hT : k.P.underlying T = some (.slice E)) (he : El k.P E z 1 1)
 (hd : Nat.blt d k.n = true) (hj : All fun q : Sl => JL k ops l Q ((d, .val q.v) :: ρ) (rowE q.v E 1 byteC [b0, b1, b2, b3] :: h)) : JL k ops (⟨some d, .buildSlice T 4 #[(0, x0), (1, x1), (2, x2), (3, x3)], ty, pos, after, none⟩ :: l) Q ρ h :=
 jrow_byte4 h0 h1 h2 h3 hT he hd ⟨fun v => JL_slice (h1 := []) rfl fun q e => by subst e; exact hj.get q⟩
end
end Go.Av
namespace Go.Av
open Go
set_option linter.unusedVariables false
set_option linter.unusedSimpArgs false

section
variable {k : Kx} {Q : Exit → Env → H → Prop} {ρ ρ' : Env} {h h' : H} {ops : Array Oper} {listed : Array Bool} {n f i j d : Nat} {op : Op} {ty : TypeId} {pos : String} {after : Array Edge}

theorem oper_wp_to {P : Program} {o : Oper} {a : Act} {w : World} {K K' : Act → World → Prop} {Q Q' : Exit → Act → World → Prop} (hK : ∀ a w, K a w → K' a w) (hQ : ∀ e a w, e ≠ .normal → ¬ Q e a w) (h : o.wp P a w K Q) : o.wp P a w K' Q' := by
 unfold Oper.wp at *
 generalize (execOp a.eval o).run P w = r at *
 cases r with
 | ok n w' =>
   cases n <;> simp only [Oper.upon] at h ⊢
   case value u => exact hK _ _ h
   case skip => exact hK _ _ h
   case defer d => exact hK _ _ h
   case enter f args =>
    refine Calls.mono h fun e w'' he => ?_
    cases e with
    | returned u => exact hK _ _ he
    | panicked c => exact absurd he (hQ _ _ _ (by simp))
    | outgrown => obtain ⟨_, _, hf⟩ := he; exact absurd hf (hQ _ _ _ (by simp))
   case row row args => exact Rows.mono h fun u w'' he => hK _ _ he
 | halt x w' =>
   cases x <;> simp only [Oper.upon] at h ⊢
   case panic u => exact absurd h (hQ _ _ _ (by simp))
/-- Whatever order the operations are picked in, f of them still to come. -/
structure JX (k : Kx) (ops : Array Oper) (f : Nat) (listed : Array Bool) (Q : Exit → Env → H → Prop) (ρ : Env) (h : H) : Prop where
 get : Region.noSelect ops = true → HeadInv .any ops ops.size listed → ∀ I a w, Ok k.c I h w → SF k.n w I ρ a → a.defers = k.df →
  headH k.P .any ops (fun _ => True) ops.size (fun listed' a' w' => Region.ready .any ops listed' = [] ∧ lift k Q .normal a' w') f listed a w

theorem J_region_all {id : Nat} {l : List Oper} {P : Program} (hm : P.follows .mixedOrders = true) (hP : k.P = P) (hn : l.length = n) (hs : Region.noSelect l.toArray = true)
 (hj : JX k l.toArray n (Array.replicate l.length false) Q ρ h) : J k (.region id l.toArray true) Q ρ h := by
 subst hP
 subst hn
 intro I a w h1 h2 h3
 refine wp_region_any hm ?_
 have hsm : Same I h w { w with drawn := w.drawn + 1 } := ⟨rfl, rfl, rfl, Nat.le_refl _, fun _ _ => rfl⟩
 have inv0 : HeadInv .any l.toArray l.toArray.size (Array.replicate l.length false) :=
  ⟨by simp, fun j oj _ hl => (by rw [getD_replicate_false] at hl; cases hl), fun t _ ht => getD_in (by simpa using ht) (getD_replicate_false _ _)⟩
 have H := hj.get hs inv0 I a _ (h1.same hsm) (SF.same h1 hsm h2) h3
 have K := any_of_headH (Q := lift k Q) (g := 0) (fun listed' a' w' hL => ⟨hL.1, hL.2⟩) _ _ _ _ H
 simpa using K
theorem jx_done (hr : Region.ready .any ops listed = []) (hj : Q .normal ρ h) : JX k ops 0 listed Q ρ h := ⟨fun _ _ I _ _ h1 h2 h3 => ⟨hr, I, ρ, h, h1, h2, h3, hj⟩⟩
theorem jx_each (hn : Region.ready .any ops listed ≠ []) (hall : ∀ i ∈ Region.ready .any ops listed, ∃ o, ops[i]? = some o ∧ JL k ops [o] (fun e ρ' h' => e = .normal ∧ JX k ops f (listed.setIfInBounds i true) Q ρ' h') ρ h) : JX k ops (f + 1) listed Q ρ h := by
 refine ⟨fun hs inv I a w h1 h2 h3 => ⟨hn, fun i hi => ?_⟩⟩
 obtain ⟨o, ho, hj⟩ := hall i hi
 have hin : i < ops.size := (Array.getElem?_eq_some_iff.1 ho).1
 refine ⟨hin, ?_⟩
 have H := hj I a w h1 h2 h3
 unfold wpOp
 rw [ho]
 dsimp only
 have hK : ∀ a' w', lift k (fun e ρ' h' => e = .normal ∧ JX k ops f (listed.setIfInBounds i true) Q ρ' h') .normal a' w' → True ∧ headH k.P .any ops (fun _ => True) ops.size (fun listed' a' w' => Region.ready .any ops listed' = [] ∧ lift k Q .normal a' w') f (listed.setIfInBounds i true) a' w' := by
  rintro a' w' ⟨I', ρ', h', q1, q2, q3, _, q4⟩
  exact ⟨trivial, q4.get hs (inv.set hi hin) I' a' w' q1 q2 q3⟩
 have hQ : ∀ e a' w', e ≠ .normal → ¬ lift k (fun e ρ' h' => e = .normal ∧ JX k ops f (listed.setIfInBounds i true) Q ρ' h') e a' w' := by
  rintro e a' w' he ⟨_, _, _, _, _, _, q, _⟩
  exact he q
 rw [wpList] at H
 by_cases hw : Region.wanted o (yielded ops a.tmps) = true
 · rw [if_pos hw] at H ⊢
   rcases H with H | ⟨_, a', w', H⟩
   · exact .inl (oper_wp_to hK hQ H)
   · exact absurd H (hQ _ _ _ (by simp))
 · rw [if_neg hw] at H ⊢
   exact hK _ _ H
theorem jx_one {o : Oper} (hr : Region.ready .any ops listed = [i]) (ho : ops[i]? = some o) (hj : JL k ops [o] (fun e ρ' h' => e = .normal ∧ JX k ops f (listed.setIfInBounds i true) Q ρ' h') ρ h) : JX k ops (f + 1) listed Q ρ h :=
 jx_each (by rw [hr]; simp) fun j hj' => by
  rw [hr] at hj'
  have e : j = i := by simpa using hj'
  subst e
  exact ⟨o, ho, hj⟩
theorem jx_two {o o' : Oper} (hr : Region.ready .any ops listed = [i, j]) (ho : ops[i]? = some o) (ho' : ops[j]? = some o') (hj : JL k ops [o] (fun e ρ' h' => e = .normal ∧ JX k ops f (listed.setIfInBounds i true) Q ρ' h') ρ h) (hj' : JL k ops [o'] (fun e ρ' h' => e = .normal ∧ JX k ops f (listed.setIfInBounds j true) Q ρ' h') ρ h) : JX k ops (f + 1) listed Q ρ h :=
 jx_each (by rw [hr]; simp) fun m hm => by
  rw [hr] at hm
  rcases (show m = i ∨ m = j by simpa using hm) with rfl | rfl
  · exact ⟨o, ho, hj⟩
  · exact ⟨o', ho', hj'⟩
/-- One that looks at no world comes first. -/
theorem jx_take {o : Oper} {r : AV} (ho : ops[i]? = some o) (hc : mixOk ops listed ops.size i = true) (hd : ∀ t, o.dst = some t → t < k.n)
 (hy : ∀ I a w, Ok k.c I h w → SF k.n w I ρ a → ∃ v, AV.rel w I r v ∧ YieldsIf k.P ops (fun _ => True) o v a)
 (hj : JX k ops f (listed.setIfInBounds i true) Q (put ρ o.dst r) h) : JX k ops (f + 1) listed Q ρ h := by
 refine ⟨fun hs inv I a w h1 h2 h3 => ?_⟩
 simp only [mixOk, Bool.and_eq_true, decide_eq_true_eq] at hc
 obtain ⟨⟨hr, hf⟩, hin⟩ := hc
 have hr' : i ∈ Region.ready .any ops listed := by simpa using hr
 obtain ⟨v, hv, hyv⟩ := hy I a w h1 h2
 exact headH_first ho (Region.noSelect_spec hs) (fun _ _ _ j hj => by obtain ⟨_, o, ho, _⟩ := mem_ready.1 hj; exact (Array.getElem?_eq_some_iff.1 ho).1) hin (fun _ _ _ hL j hj => by rw [hL.1] at hj; cases hj) f listed a w inv (Region.free_spec ho hf) hr' hyv trivial
  (hj.get hs (inv.set hr' hin) I _ w h1 (h2.put hd hv) (by rw [Act.defers_put]; exact h3))
theorem jx_move {x : Operand} {r : AV} (ho : ops[i]? = some ⟨some d, .move x, ty, pos, after, none⟩) (hc : mixOk ops listed ops.size i = true) (hx : evO ρ x = some r) (hd : Nat.blt d k.n = true)
 (hj : JX k ops f (listed.setIfInBounds i true) Q ((d, r) :: ρ) h) : JX k ops (f + 1) listed Q ρ h :=
 jx_take ho hc (fun t ht => by cases ht; exact blt hd) (fun _ a _ _ h2 => ⟨a.eval x, rel_as (h2.ev x) (ev_of_evO hx), .inl ⟨by simp [Region.wanted], fun _ _ => rfl⟩⟩) hj
theorem jx_assign {x : Operand} {r : AV} (ho : ops[i]? = some ⟨some d, .assign x, ty, pos, after, none⟩) (hc : mixOk ops listed ops.size i = true) (hx : evO ρ x = some r) (hd : Nat.blt d k.n = true)
 (hj : JX k ops f (listed.setIfInBounds i true) Q ((d, r) :: ρ) h) : JX k ops (f + 1) listed Q ρ h :=
 jx_take ho hc (fun t ht => by cases ht; exact blt hd) (fun _ a _ _ h2 => ⟨a.eval x, rel_as (h2.ev x) (ev_of_evO hx), .inl ⟨by simp [Region.wanted], fun _ _ => rfl⟩⟩) hj
theorem jx_extract {x : Operand} {m : Nat} {vs : List AV} {r : AV} (ho : ops[i]? = some ⟨some d, .extract x m, ty, pos, after, none⟩) (hc : mixOk ops listed ops.size i = true) (hx : evO ρ x = some (.tup vs)) (hi : vs[m]? = some r) (hd : Nat.blt d k.n = true)
 (hj : JX k ops f (listed.setIfInBounds i true) Q ((d, r) :: ρ) h) : JX k ops (f + 1) listed Q ρ h :=
 jx_take ho hc (fun t ht => by cases ht; exact blt hd) (fun _ a _ _ h2 => by
  obtain ⟨us, e2, e3⟩ := rel_as (h2.ev x) (ev_of_evO hx)
  obtain ⟨v, hv, hr⟩ := AV.rels_get e3 m r hi
  exact ⟨v, hr, .inl ⟨by simp [Region.wanted], fun w _ => by simp [execOp, e2, Instr.extract, hv]⟩⟩) hj
def allocB : Op → Bool
 | .alloc _ => true
 | _ => false
/-- Here the walk stops. -/
structure Stop (p : Prop) : Prop where
 get : p
theorem jstop {id : Nat} {l : List Oper} (_hA : (l.any fun o => allocB o.op) = true) (hj : Stop (J k (.region id l.toArray true) Q ρ h)) : J k (.region id l.toArray true) Q ρ h := hj.get
theorem jx_three {m : Nat} {o o' o'' : Oper} (hr : Region.ready .any ops listed = [i, j, m]) (ho : ops[i]? = some o) (ho' : ops[j]? = some o') (ho'' : ops[m]? = some o'') (hj : JL k ops [o] (fun e ρ' h' => e = .normal ∧ JX k ops f (listed.setIfInBounds i true) Q ρ' h') ρ h) (hj' : JL k ops [o'] (fun e ρ' h' => e = .normal ∧ JX k ops f (listed.setIfInBounds j true) Q ρ' h') ρ h) (hj'' : JL k ops [o''] (fun e ρ' h' => e = .normal ∧ JX k ops f (listed.setIfInBounds m true) Q ρ' h') ρ h) : JX k ops (f + 1) listed Q ρ h :=
 jx_each (by rw [hr]; simp) fun x hm => by
  rw [hr] at hm
  rcases (show x = i ∨ x = j ∨ x = m by simpa using hm) with rfl | rfl | rfl
  · exact ⟨o, ho, hj⟩
  · exact ⟨o', ho', hj'⟩
  · exact ⟨o'', ho'', hj''⟩
theorem jx_nil (hj : JX k ops f listed Q ρ h) : JL k ops [] (fun e ρ' h' => e = .normal ∧ JX k ops f listed Q ρ' h') ρ h := JL_nil ⟨rfl, hj⟩
/-- A told state behind a piece of code. -/
theorem J_cutV {X : Type} {x : Code} (S : X → Env) (G : X → H) (hx : J k x (fun e ρ' h' => e = .normal ∧ ∃ y, VS ρ' h' (S y) (G y)) ρ h) (hq : ∀ y, Q .normal (S y) (G y)) : J k x Q ρ h := by
 intro I a w h1 h2 h3
 refine wp_mono (hx I a w h1 h2 h3) ?_
 rintro e a' w' ⟨I', ρ', h', k1, k2, k3, rfl, y, hv⟩
 obtain ⟨I'', k4, k5⟩ := hv k.c I' k.n a' w' k1 k2
 exact ⟨I'', S y, G y, k4, k5, k3, hq y⟩
end
end Go.Av
