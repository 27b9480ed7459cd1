/-
  PLAIN, NO PROGRAM: stores wherever a variable stands, calls that hand rows over, rows that are shown, more literals (over Bc).
-/
import Derived.Test.YtffdlpjbbkhcnaaBc
namespace Go.Av
open Go

section
variable {k : Kx} {Q : Exit → Env → H → Prop} {ρ ρ' : Env} {h h1 h2 : H} {ops : Array Oper} {l : List Oper} {d : Nat} {dst : Option Tmp} {ty : TypeId} {pos : String} {after : Array Edge} {g : Option (Nat × Bool)} {e1 e2 e3 e4 e5 e6 : Ent}
/-- A store of a whole struct, wherever its variable stands. -/
theorem js_whole {T T0 : TypeId} {x y : Operand} {b : Nat} {cs vs : List AV} {z : Value} {sz eb : Nat} (hx : evO ρ x = some (.val (.pointer (some ⟨b, 0, none⟩)))) (hy : evO ρ y = some (.agg cs)) (hs : cs.all AV.flat = true) (hE : El k.P T z sz eb) (hn : sz = cs.length) (hl : vs.length = cs.length) (hh : h = h1 ++ .cells b T0 vs :: h2)
    (hj : JL k ops l Q ρ (h1 ++ .cells b T0 cs :: h2)) : JL k ops (⟨none, .store T x y, ty, pos, after, none⟩ :: l) Q ρ h := by
  refine JL_store (off := 0) (r := .agg cs) (vs := vs) (ev_of_evO hx) (ev_of_evO hy) hs hE hn hh (by simp [AV.cl, hl]) ?_
  have : setAt vs 0 (AV.agg cs).cl = cs := by simp [setAt, AV.cl, ← hl]
  rw [this]
  exact hj
theorem js_w0 {T T0 : TypeId} {x y : Operand} {b : Nat} {cs vs : List AV} {z : Value} {sz eb : Nat} (hx : evO ρ x = some (.val (.pointer (some ⟨b, 0, none⟩)))) (hy : evO ρ y = some (.agg cs)) (hs : cs.all AV.flat = true) (hE : El k.P T z sz eb) (hn : sz = cs.length) (hl : vs.length = cs.length)
    (hj : JL k ops l Q ρ (.cells b T0 cs :: h2)) : JL k ops (⟨none, .store T x y, ty, pos, after, none⟩ :: l) Q ρ (.cells b T0 vs :: h2) := js_whole (h1 := []) hx hy hs hE hn hl rfl hj
theorem js_s0 {T T0 : TypeId} {x y : Operand} {b off : Nat} {r : AV} {vs : List AV} {z : Value} {eb : Nat} (hx : evO ρ x = some (.val (.pointer (some ⟨b, off, none⟩)))) (hy : evO ρ y = some r) (hs : r.flat = true) (hE : El k.P T z 1 eb) (hl : off < vs.length)
    (hj : JL k ops l Q ρ (.cells b T0 (vs.set off r) :: h2)) : JL k ops (⟨none, .store T x y, ty, pos, after, none⟩ :: l) Q ρ (.cells b T0 vs :: h2) := js_set (h1 := []) hx hy hs hE rfl hl hj
theorem js_w1 {T T0 : TypeId} {x y : Operand} {b : Nat} {cs vs : List AV} {z : Value} {sz eb : Nat} (hx : evO ρ x = some (.val (.pointer (some ⟨b, 0, none⟩)))) (hy : evO ρ y = some (.agg cs)) (hs : cs.all AV.flat = true) (hE : El k.P T z sz eb) (hn : sz = cs.length) (hl : vs.length = cs.length)
    (hj : JL k ops l Q ρ (e1 :: .cells b T0 cs :: h2)) : JL k ops (⟨none, .store T x y, ty, pos, after, none⟩ :: l) Q ρ (e1 :: .cells b T0 vs :: h2) := js_whole (h1 := [e1]) hx hy hs hE hn hl rfl hj
theorem js_s1 {T T0 : TypeId} {x y : Operand} {b off : Nat} {r : AV} {vs : List AV} {z : Value} {eb : Nat} (hx : evO ρ x = some (.val (.pointer (some ⟨b, off, none⟩)))) (hy : evO ρ y = some r) (hs : r.flat = true) (hE : El k.P T z 1 eb) (hl : off < vs.length)
    (hj : JL k ops l Q ρ (e1 :: .cells b T0 (vs.set off r) :: h2)) : JL k ops (⟨none, .store T x y, ty, pos, after, none⟩ :: l) Q ρ (e1 :: .cells b T0 vs :: h2) := js_set (h1 := [e1]) hx hy hs hE rfl hl hj
theorem js_w2 {T T0 : TypeId} {x y : Operand} {b : Nat} {cs vs : List AV} {z : Value} {sz eb : Nat} (hx : evO ρ x = some (.val (.pointer (some ⟨b, 0, none⟩)))) (hy : evO ρ y = some (.agg cs)) (hs : cs.all AV.flat = true) (hE : El k.P T z sz eb) (hn : sz = cs.length) (hl : vs.length = cs.length)
    (hj : JL k ops l Q ρ (e1 :: e2 :: .cells b T0 cs :: h2)) : JL k ops (⟨none, .store T x y, ty, pos, after, none⟩ :: l) Q ρ (e1 :: e2 :: .cells b T0 vs :: h2) := js_whole (h1 := [e1, e2]) hx hy hs hE hn hl rfl hj
theorem js_s2 {T T0 : TypeId} {x y : Operand} {b off : Nat} {r : AV} {vs : List AV} {z : Value} {eb : Nat} (hx : evO ρ x = some (.val (.pointer (some ⟨b, off, none⟩)))) (hy : evO ρ y = some r) (hs : r.flat = true) (hE : El k.P T z 1 eb) (hl : off < vs.length)
    (hj : JL k ops l Q ρ (e1 :: e2 :: .cells b T0 (vs.set off r) :: h2)) : JL k ops (⟨none, .store T x y, ty, pos, after, none⟩ :: l) Q ρ (e1 :: e2 :: .cells b T0 vs :: h2) := js_set (h1 := [e1, e2]) hx hy hs hE rfl hl hj
theorem js_w3 {T T0 : TypeId} {x y : Operand} {b : Nat} {cs vs : List AV} {z : Value} {sz eb : Nat} (hx : evO ρ x = some (.val (.pointer (some ⟨b, 0, none⟩)))) (hy : evO ρ y = some (.agg cs)) (hs : cs.all AV.flat = true) (hE : El k.P T z sz eb) (hn : sz = cs.length) (hl : vs.length = cs.length)
    (hj : JL k ops l Q ρ (e1 :: e2 :: e3 :: .cells b T0 cs :: h2)) : JL k ops (⟨none, .store T x y, ty, pos, after, none⟩ :: l) Q ρ (e1 :: e2 :: e3 :: .cells b T0 vs :: h2) := js_whole (h1 := [e1, e2, e3]) hx hy hs hE hn hl rfl hj
theorem js_s3 {T T0 : TypeId} {x y : Operand} {b off : Nat} {r : AV} {vs : List AV} {z : Value} {eb : Nat} (hx : evO ρ x = some (.val (.pointer (some ⟨b, off, none⟩)))) (hy : evO ρ y = some r) (hs : r.flat = true) (hE : El k.P T z 1 eb) (hl : off < vs.length)
    (hj : JL k ops l Q ρ (e1 :: e2 :: e3 :: .cells b T0 (vs.set off r) :: h2)) : JL k ops (⟨none, .store T x y, ty, pos, after, none⟩ :: l) Q ρ (e1 :: e2 :: e3 :: .cells b T0 vs :: h2) := js_set (h1 := [e1, e2, e3]) hx hy hs hE rfl hl hj
theorem js_w4 {T T0 : TypeId} {x y : Operand} {b : Nat} {cs vs : List AV} {z : Value} {sz eb : Nat} (hx : evO ρ x = some (.val (.pointer (some ⟨b, 0, none⟩)))) (hy : evO ρ y = some (.agg cs)) (hs : cs.all AV.flat = true) (hE : El k.P T z sz eb) (hn : sz = cs.length) (hl : vs.length = cs.length)
    (hj : JL k ops l Q ρ (e1 :: e2 :: e3 :: e4 :: .cells b T0 cs :: h2)) : JL k ops (⟨none, .store T x y, ty, pos, after, none⟩ :: l) Q ρ (e1 :: e2 :: e3 :: e4 :: .cells b T0 vs :: h2) := js_whole (h1 := [e1, e2, e3, e4]) hx hy hs hE hn hl rfl hj
theorem js_s4 {T T0 : TypeId} {x y : Operand} {b off : Nat} {r : AV} {vs : List AV} {z : Value} {eb : Nat} (hx : evO ρ x = some (.val (.pointer (some ⟨b, off, none⟩)))) (hy : evO ρ y = some r) (hs : r.flat = true) (hE : El k.P T z 1 eb) (hl : off < vs.length)
    (hj : JL k ops l Q ρ (e1 :: e2 :: e3 :: e4 :: .cells b T0 (vs.set off r) :: h2)) : JL k ops (⟨none, .store T x y, ty, pos, after, none⟩ :: l) Q ρ (e1 :: e2 :: e3 :: e4 :: .cells b T0 vs :: h2) := js_set (h1 := [e1, e2, e3, e4]) hx hy hs hE rfl hl hj
theorem js_w5 {T T0 : TypeId} {x y : Operand} {b : Nat} {cs vs : List AV} {z : Value} {sz eb : Nat} (hx : evO ρ x = some (.val (.pointer (some ⟨b, 0, none⟩)))) (hy : evO ρ y = some (.agg cs)) (hs : cs.all AV.flat = true) (hE : El k.P T z sz eb) (hn : sz = cs.length) (hl : vs.length = cs.length)
    (hj : JL k ops l Q ρ (e1 :: e2 :: e3 :: e4 :: e5 :: .cells b T0 cs :: h2)) : JL k ops (⟨none, .store T x y, ty, pos, after, none⟩ :: l) Q ρ (e1 :: e2 :: e3 :: e4 :: e5 :: .cells b T0 vs :: h2) := js_whole (h1 := [e1, e2, e3, e4, e5]) hx hy hs hE hn hl rfl hj
theorem js_s5 {T T0 : TypeId} {x y : Operand} {b off : Nat} {r : AV} {vs : List AV} {z : Value} {eb : Nat} (hx : evO ρ x = some (.val (.pointer (some ⟨b, off, none⟩)))) (hy : evO ρ y = some r) (hs : r.flat = true) (hE : El k.P T z 1 eb) (hl : off < vs.length)
    (hj : JL k ops l Q ρ (e1 :: e2 :: e3 :: e4 :: e5 :: .cells b T0 (vs.set off r) :: h2)) : JL k ops (⟨none, .store T x y, ty, pos, after, none⟩ :: l) Q ρ (e1 :: e2 :: e3 :: e4 :: e5 :: .cells b T0 vs :: h2) := js_set (h1 := [e1, e2, e3, e4, e5]) hx hy hs hE rfl hl hj

/-! ### Calls that hand rows over -/
/-- The callee hands a new row back. -/
theorem callE1 {β : Type} {X : β → AV} {en : β → Ent} {f : FuncId} {xs : Array Operand} {ats : Array TypeId} {args : List AV} (hargs : evsO ρ xs.toList = some args) (hcal : Cal k.P f) (hac : AC k.P k.c.G f args [] fun r h => ∃ v, r = .ret (X v) ∧ h = [en v]) (hd : Nat.blt d k.n = true)
    (hj : All fun v => JL k ops l Q ((d, X v) :: ρ) (en v :: h)) : JL k ops (⟨some d, .call { callee := .value (.func f), args := xs, argTypes := ats }, ty, pos, after, none⟩ :: l) Q ρ h :=
  callw (hc := []) (hr := h) hargs hcal rfl hac hd (fun r h' hq => by obtain ⟨v, e1, e2⟩ := hq; cases e1; subst e2; exact hj.get v) (fun ch h' hq => by obtain ⟨v, e1, _⟩ := hq; cases e1)

/-- The callee writes on a row of ours, and hands it back. -/
theorem callU0 {β : Type} {X : β → AV} {en : β → Ent} {e0 : Ent} {f : FuncId} {xs : Array Operand} {ats : Array TypeId} {args : List AV} (hargs : evsO ρ xs.toList = some args) (hcal : Cal k.P f) (hac : AC k.P k.c.G f args [e0] fun r h => ∃ v, r = .ret (X v) ∧ h = [en v]) (hd : Nat.blt d k.n = true)
    (hj : All fun v => JL k ops l Q ((d, X v) :: ρ) (en v :: h2)) : JL k ops (⟨some d, .call { callee := .value (.func f), args := xs, argTypes := ats }, ty, pos, after, none⟩ :: l) Q ρ (e0 :: h2) :=
  JL_vs (VS.perm (List.perm_middle (l₁ := []) (l₂ := h2))) (callw (hc := [e0]) (hr := h2) hargs hcal rfl hac hd (fun r h' hq => by obtain ⟨v, e1, e2⟩ := hq; cases e1; subst e2; exact hj.get v) (fun ch h' hq => by obtain ⟨v, e1, _⟩ := hq; cases e1))
/-- The callee writes on a row of ours, and hands it back. -/
theorem callU1 {β : Type} {X : β → AV} {en : β → Ent} {e0 : Ent} {f : FuncId} {xs : Array Operand} {ats : Array TypeId} {args : List AV} (hargs : evsO ρ xs.toList = some args) (hcal : Cal k.P f) (hac : AC k.P k.c.G f args [e0] fun r h => ∃ v, r = .ret (X v) ∧ h = [en v]) (hd : Nat.blt d k.n = true)
    (hj : All fun v => JL k ops l Q ((d, X v) :: ρ) (en v :: e1 :: h2)) : JL k ops (⟨some d, .call { callee := .value (.func f), args := xs, argTypes := ats }, ty, pos, after, none⟩ :: l) Q ρ (e1 :: e0 :: h2) :=
  JL_vs (VS.perm (List.perm_middle (l₁ := [e1]) (l₂ := h2))) (callw (hc := [e0]) (hr := e1 :: h2) hargs hcal rfl hac hd (fun r h' hq => by obtain ⟨v, e1, e2⟩ := hq; cases e1; subst e2; exact hj.get v) (fun ch h' hq => by obtain ⟨v, e1, _⟩ := hq; cases e1))
/-- The callee writes on a row of ours, and hands it back. -/
theorem callU2 {β : Type} {X : β → AV} {en : β → Ent} {e0 : Ent} {f : FuncId} {xs : Array Operand} {ats : Array TypeId} {args : List AV} (hargs : evsO ρ xs.toList = some args) (hcal : Cal k.P f) (hac : AC k.P k.c.G f args [e0] fun r h => ∃ v, r = .ret (X v) ∧ h = [en v]) (hd : Nat.blt d k.n = true)
    (hj : All fun v => JL k ops l Q ((d, X v) :: ρ) (en v :: e1 :: e2 :: h2)) : JL k ops (⟨some d, .call { callee := .value (.func f), args := xs, argTypes := ats }, ty, pos, after, none⟩ :: l) Q ρ (e1 :: e2 :: e0 :: h2) :=
  JL_vs (VS.perm (List.perm_middle (l₁ := [e1, e2]) (l₂ := h2))) (callw (hc := [e0]) (hr := e1 :: e2 :: h2) hargs hcal rfl hac hd (fun r h' hq => by obtain ⟨v, e1, e2⟩ := hq; cases e1; subst e2; exact hj.get v) (fun ch h' hq => by obtain ⟨v, e1, _⟩ := hq; cases e1))
/-- The callee writes on a row of ours, and hands it back. -/
theorem callU3 {β : Type} {X : β → AV} {en : β → Ent} {e0 : Ent} {f : FuncId} {xs : Array Operand} {ats : Array TypeId} {args : List AV} (hargs : evsO ρ xs.toList = some args) (hcal : Cal k.P f) (hac : AC k.P k.c.G f args [e0] fun r h => ∃ v, r = .ret (X v) ∧ h = [en v]) (hd : Nat.blt d k.n = true)
    (hj : All fun v => JL k ops l Q ((d, X v) :: ρ) (en v :: e1 :: e2 :: e3 :: h2)) : JL k ops (⟨some d, .call { callee := .value (.func f), args := xs, argTypes := ats }, ty, pos, after, none⟩ :: l) Q ρ (e1 :: e2 :: e3 :: e0 :: h2) :=
  JL_vs (VS.perm (List.perm_middle (l₁ := [e1, e2, e3]) (l₂ := h2))) (callw (hc := [e0]) (hr := e1 :: e2 :: e3 :: h2) hargs hcal rfl hac hd (fun r h' hq => by obtain ⟨v, e1, e2⟩ := hq; cases e1; subst e2; exact hj.get v) (fun ch h' hq => by obtain ⟨v, e1, _⟩ := hq; cases e1))
/-- The callee writes on a row of ours, and hands it back. -/
theorem callU4 {β : Type} {X : β → AV} {en : β → Ent} {e0 : Ent} {f : FuncId} {xs : Array Operand} {ats : Array TypeId} {args : List AV} (hargs : evsO ρ xs.toList = some args) (hcal : Cal k.P f) (hac : AC k.P k.c.G f args [e0] fun r h => ∃ v, r = .ret (X v) ∧ h = [en v]) (hd : Nat.blt d k.n = true)
    (hj : All fun v => JL k ops l Q ((d, X v) :: ρ) (en v :: e1 :: e2 :: e3 :: e4 :: h2)) : JL k ops (⟨some d, .call { callee := .value (.func f), args := xs, argTypes := ats }, ty, pos, after, none⟩ :: l) Q ρ (e1 :: e2 :: e3 :: e4 :: e0 :: h2) :=
  JL_vs (VS.perm (List.perm_middle (l₁ := [e1, e2, e3, e4]) (l₂ := h2))) (callw (hc := [e0]) (hr := e1 :: e2 :: e3 :: e4 :: h2) hargs hcal rfl hac hd (fun r h' hq => by obtain ⟨v, e1, e2⟩ := hq; cases e1; subst e2; exact hj.get v) (fun ch h' hq => by obtain ⟨v, e1, _⟩ := hq; cases e1))
/-- The callee writes on a row of ours, and hands it back. -/
theorem callU5 {β : Type} {X : β → AV} {en : β → Ent} {e0 : Ent} {f : FuncId} {xs : Array Operand} {ats : Array TypeId} {args : List AV} (hargs : evsO ρ xs.toList = some args) (hcal : Cal k.P f) (hac : AC k.P k.c.G f args [e0] fun r h => ∃ v, r = .ret (X v) ∧ h = [en v]) (hd : Nat.blt d k.n = true)
    (hj : All fun v => JL k ops l Q ((d, X v) :: ρ) (en v :: e1 :: e2 :: e3 :: e4 :: e5 :: h2)) : JL k ops (⟨some d, .call { callee := .value (.func f), args := xs, argTypes := ats }, ty, pos, after, none⟩ :: l) Q ρ (e1 :: e2 :: e3 :: e4 :: e5 :: e0 :: h2) :=
  JL_vs (VS.perm (List.perm_middle (l₁ := [e1, e2, e3, e4, e5]) (l₂ := h2))) (callw (hc := [e0]) (hr := e1 :: e2 :: e3 :: e4 :: e5 :: h2) hargs hcal rfl hac hd (fun r h' hq => by obtain ⟨v, e1, e2⟩ := hq; cases e1; subst e2; exact hj.get v) (fun ch h' hq => by obtain ⟨v, e1, _⟩ := hq; cases e1))

theorem jappsT {α : Type} {f : α → List D} {xs ys : List α} {T E : TypeId} {x y : Operand} {z : Value} {sz eb eb' : Nat} {v : Value} (hx : evO ρ x = some (.val v)) (hy : evO ρ y = some (.d (.l sz eb' (ys.map f)))) (hT : k.P.underlying T = some (.slice E)) (he : El k.P E z sz eb) (hz : z.cells.size = sz) (h0 : Nat.blt 0 sz = true)
    (hd : Nat.blt d k.n = true) (hb : (xs.length + ys.length) * eb ≤ 140737488355328) (hm : xs.length + ys.length ≤ 140737488355328)
    (hj : All fun v' => JL k ops l Q ((d, .val v') :: ρ) (rowE v' E sz f (xs ++ ys) :: h)) :
    JL k ops (⟨some d, .call { callee := .builtin .append, args := #[x, y], argTypes := #[T, T] }, ty, pos, after, none⟩ :: l) Q ρ (rowE v E sz f xs :: h) := japps hx hy hT he hz h0 hd hb hm hj.get
/-! ### Rows that are shown for the time of a call -/
theorem bor_row {α : Type} {f : α → List D} {xs : List α} {v : Value} {E : TypeId} {sz : Nat} (eb : Nat) (hm : rowE v E sz f xs ∈ h) (h0 : Nat.blt 0 sz = true) (hsz : ∀ a, (f a).length = sz) (hb : xs.length * eb ≤ 140737488355328) : Bor h (.val v) (.d (.l sz eb (xs.map f))) := by
  intro c I w u kk hr
  obtain rfl : u = v := hr
  obtain ⟨s, t, rfl⟩ := List.append_of_mem hm
  obtain ⟨os, ho, hos⟩ := kk.ent (rowE u E sz f xs) (by simp)
  rcases ho.2 with ⟨rfl, hn⟩ | ⟨g, cap, cur, hv, _, hg, hnc, hcm, hcs, htake⟩
  · have : xs = [] := List.eq_nil_of_length_eq_zero hn
    subst this
    exact .nil sz eb
  · have hin : g ∈ blks (s ++ rowE u E sz f xs :: t) := by
      rw [blks_append]; subst hv
      exact List.mem_append.2 (.inr (by simp [blks, Ent.blk, Value.ownBlock]))
    have hcell : ∀ q x, (xs.map f).flatten[q]? = some x → ∃ c, w.cell? ((⟨g, 0, none⟩ : Addr).add q) = some c ∧ Rel w I x c := fun q x hx => by
      obtain ⟨c, hc1, hc2⟩ := AV.rels_get hos q x.av (by rw [List.getElem?_map, hx]; rfl)
      exact ⟨c, ho.cells (g := g) (by rw [hv]; rfl) q c hc1, D.av_rel' hc2⟩
    have hszs : ∀ r ∈ xs.map f, r.length = sz := fun r hr => by obtain ⟨a, _, rfl⟩ := List.mem_map.1 hr; exact hsz a
    have hq : ∀ (j u : Nat) (r : List D) (x : D), (xs.map f)[j]? = some r → r[u]? = some x → (xs.map f).flatten[j * sz + u]? = some x := fun j u r x hr hx => by
      have hu : u < sz := by
        have := (List.getElem?_eq_some_iff.1 hx).1
        rwa [hszs r (List.mem_of_getElem? hr)] at this
      rw [flatten_get (blt h0) _ hszs, Nat.add_comm, Nat.add_mul_div_right _ _ (blt h0), Nat.add_mul_mod_self_right, Nat.div_eq_of_lt hu, Nat.mod_eq_of_lt hu, Nat.zero_add, hr]
      exact hx
    have hres := Rel.l (w := w) (I := fun b => I b ∨ b ∈ blks (s ++ rowE u E sz f xs :: t)) sz eb (xs.map f) ⟨g, 0, none⟩ cap (fun j u => (w.cell? ((⟨g, 0, none⟩ : Addr).add (j * sz + u))).getD undef) (.inr hin) (by simpa using hnc) hcm (by simpa using hb) hszs (fun j u r x hr hx => by
        obtain ⟨c, hc1, _⟩ := hcell _ x (hq j u r x hr hx)
        simp only [hc1, Option.getD_some]) (fun j u r x hr hx => by
        obtain ⟨c, hc1, hc2⟩ := hcell _ x (hq j u r x hr hx)
        simp only [hc1, Option.getD_some]
        exact hc2.mono (fun _ _ => rfl) fun _ h => .inl h)
    rw [List.length_map] at hres
    show Rel w (fun b => I b ∨ b ∈ blks (s ++ rowE u E sz f xs :: t)) (.l sz eb (xs.map f)) u
    generalize (fun b => I b ∨ b ∈ blks (s ++ rowE u E sz f xs :: t)) = J at hres ⊢
    rw [hv]
    exact hres

/-! ### Literals -/
theorem jbuild_byte {T E : TypeId} {x : Operand} {b : UInt8} {z : Value} {eb : Nat} (hx : evO ρ x = some (AV.byte b)) (hT : k.P.underlying T = some (.slice E)) (he : El k.P E z 1 eb) (hb : Nat.ble eb 1000000 = true)
    (hd : Nat.blt d k.n = true) (hj : JL k ops l Q ((d, .d (.l 1 eb [byteC b])) :: ρ) h) : JL k ops (⟨some d, .buildSlice T 1 #[(0, x)], ty, pos, after, none⟩ :: l) Q ρ h :=
  jbuild1 hT he (by decide) hx rfl rfl rfl (by have := Nat.le_of_ble_eq_true hb; omega) (by decide) hd hj
/-- Four bytes, as data. -/
theorem jbuild_byte4 {T E : TypeId} {x0 x1 x2 x3 : Operand} {b0 b1 b2 b3 : UInt8} {z : Value} (h0 : evO ρ x0 = some (AV.byte b0)) (h1 : evO ρ x1 = some (AV.byte b1)) (h2 : evO ρ x2 = some (AV.byte b2)) (h3 : evO ρ x3 = some (AV.byte b3)) (hT : k.P.underlying T = some (.slice E)) (he : El k.P E z 1 1)
    (hd : Nat.blt d k.n = true) (hj : JL k ops l Q ((d, .d (.l 1 1 ([b0, b1, b2, b3].map byteC))) :: ρ) h) : JL k ops (⟨some d, .buildSlice T 4 #[(0, x0), (1, x1), (2, x2), (3, x3)], ty, pos, after, none⟩ :: l) Q ρ h := by
  refine JL_buildSlice (xs := [x0, x1, x2, x3]) (rows := [b0, b1, b2, b3].map byteC) hT he (by decide) (by simp) rfl ?_ ?_ ?_ (by simp) (by simp) (fun t ht => by cases ht; exact blt hd) hj
  · simp only [List.map_cons, List.map_nil, ev_of_evO h0, ev_of_evO h1, ev_of_evO h2, ev_of_evO h3]; rfl
  · intro x hx
    simp only [List.mem_cons, List.not_mem_nil, or_false] at hx
    rcases hx with rfl | rfl | rfl | rfl
    · rw [ev_of_evO h0]; rfl
    · rw [ev_of_evO h1]; rfl
    · rw [ev_of_evO h2]; rfl
    · rw [ev_of_evO h3]; rfl
  · intro r hr
    simp only [List.map_cons, List.map_nil, List.mem_cons, List.not_mem_nil, or_false] at hr
    rcases hr with rfl | rfl | rfl | rfl <;> rfl
/-- A literal, as a row that may grow. -/
theorem JL_buildRow {α : Type} {f : α → List D} {ys : List α} {T E : TypeId} {z : Value} {sz eb len : Nat} {parts : Array (Nat × Operand)} {xs : List Operand} (hT : k.P.underlying T = some (.slice E)) (he : El k.P E z sz eb) (h0 : 0 < sz)
    (hp : parts = ((xs.zipIdx).map fun p => (p.2, p.1)).toArray) (hl : len = xs.length) (hr : xs.map (fun x => (ev ρ x).cl) = (ys.map f).map (·.map D.av)) (hs : ∀ x ∈ xs, (ev ρ x).stor = true) (hsz : ∀ y, (f y).length = sz) (hc : ys.length * sz ≤ 16777216)
    (hd : Nat.blt d k.n = true) (hj : All fun v => JL k ops l Q ((d, .val v) :: ρ) (rowE v E sz f ys :: h)) : JL k ops (⟨some d, .buildSlice T len parts, ty, pos, after, none⟩ :: l) Q ρ h := by
  obtain ⟨i, hi, hz0, hz1, _⟩ := he.get
  have hxl : xs.length = ys.length := by have := congrArg List.length hr; simpa using this
  refine JL_eff rfl (fun t ht => by cases ht; exact blt hd) fun I a w k1 k2 => ?_
  obtain ⟨hrel, hcs⟩ := evs_data k2 xs (ys.map f) hr hs
  have hsv : ∀ v ∈ xs.map a.eval, v.cells.size = sz := fun v hv => by
    obtain ⟨r, h1, h2⟩ := hcs v hv
    obtain ⟨y, _, rfl⟩ := List.mem_map.1 h1
    rw [h2]; exact hsz y
  let zc : Array Value := if len * sz = 0 then #[] else z.cells
  obtain ⟨cells, hf1, hf2⟩ := fill_seq (sz := sz) (xs.map a.eval) 0 ((Array.range (len * sz)).map (zc[· % zc.size]!)) [] ((Array.range (len * sz)).map (zc[· % zc.size]!)).toList hsv rfl (by simp) (by simp [hl])
  simp only [List.nil_append] at hf2
  have hrun : (Instr.buildSlice T len (parts.map fun (i, x) => (i, a.eval x))).run k.P w = .ok (.slice (some ⟨w.heap.size, 0, none⟩) len len) (w.alloc (.cells cells E)) := by
    have hparts : (parts.map fun (i, x) => (i, a.eval x)).toList = ((xs.map a.eval).zipIdx 0).map fun p => (p.2, p.1) := by
      rw [hp]; simp [List.zipIdx_map]
    have hlt : ¬ len * sz > 2 ^ 24 := by rw [hl, hxl]; omega
    simp only [Instr.buildSlice, Sem.run_bind, run_underlying hT, Result.andThen_ok, sizeOf, typeInfo, run_program, hi, Sem.run_pure, hz1, hlt, if_false, Sem.run_ite, zeroValue, hz0]
    by_cases hzz : len * sz = 0
    · simp only [zc, hzz, if_true] at hf1
      simp only [hzz, if_true, hparts]
      rw [hf1]; simp [newRow]
    · simp only [zc, hzz, if_false] at hf1
      simp only [hzz, if_false, hparts]
      rw [hf1]; simp [newRow]
  have hcl : cells.toList.length = ys.length * sz := by
    rw [hf2]
    have := AV.rels_length hrel
    rw [List.length_map, flatten_length (ys.map f) (fun r hr => by obtain ⟨y, _, rfl⟩ := List.mem_map.1 hr; exact hsz y), List.length_map] at this
    exact this.symm
  refine ⟨.slice (some ⟨w.heap.size, 0, none⟩) ys.length ys.length, w.alloc (.cells cells E), I, .val (.slice (some ⟨w.heap.size, 0, none⟩) ys.length ys.length), _, ?_, k1.fresh _ (rowE (.slice (some ⟨w.heap.size, 0, none⟩) ys.length ys.length) E sz f ys) rfl ?_, k2.fresh k1 _, rfl, hj.get _⟩
  · rw [← hxl, ← hl]
    simp only [execOp, Sem.run_bind, hrun, Result.andThen_ok, Sem.run_pure]
  · have hmono : ∀ b, I b → (w.alloc (.cells cells E)).heap[b]? = w.heap[b]? := fun b hb => Go.RowKit.Below.heap_alloc w _ b (k1.imm b hb).1
    refine ⟨cells.toList, World.ownsRow_lit w cells ys.length (Nat.zero_le _) ?_ (by rw [← hcl]; simp), ?_⟩
    · have : ys.length ≤ ys.length * sz := Nat.le_mul_of_pos_right _ h0
      simp only [maxLen]; omega
    · rw [hf2]
      exact AV.rels_mono hmono (fun _ h => h) hrel
/-- Four bytes, as a row that may grow. -/
theorem jrow_byte4 {T E : TypeId} {x0 x1 x2 x3 : Operand} {b0 b1 b2 b3 : UInt8} {z : Value} (h0 : evO ρ x0 = some (AV.byte b0)) (h1 : evO ρ x1 = some (AV.byte b1)) (h2 : evO ρ x2 = some (AV.byte b2)) (h3 : evO ρ x3 = some (AV.byte b3)) (hT : k.P.underlying T = some (.slice E)) (he : El k.P E z 1 1)
    (hd : Nat.blt d k.n = true) (hj : All fun v => JL k ops l Q ((d, .val v) :: ρ) (rowE v E 1 byteC [b0, b1, b2, b3] :: h)) : JL k ops (⟨some d, .buildSlice T 4 #[(0, x0), (1, x1), (2, x2), (3, x3)], ty, pos, after, none⟩ :: l) Q ρ h := by
  refine JL_buildRow (f := byteC) (ys := [b0, b1, b2, b3]) (xs := [x0, x1, x2, x3]) hT he (by decide) (by simp) rfl ?_ ?_ (fun _ => rfl) (by simp) hd hj
  · simp only [List.map_cons, List.map_nil, ev_of_evO h0, ev_of_evO h1, ev_of_evO h2, ev_of_evO h3]; rfl
  · intro x hx
    simp only [List.mem_cons, List.not_mem_nil, or_false] at hx
    rcases hx with rfl | rfl | rfl | rfl
    · rw [ev_of_evO h0]; rfl
    · rw [ev_of_evO h1]; rfl
    · rw [ev_of_evO h2]; rfl
    · rw [ev_of_evO h3]; rfl
end
section
variable {P : Program} {G : List (Nat × List D)} {ρ : Env} {h : H} {dst : Option Tmp} {ty : TypeId} {pos : String} {after : Array Edge} {g : Option (Nat × Bool)}
theorem pu_min {x y : Operand} {m n : Int} {ats : Array TypeId} (hx : evO ρ x = some (.int m)) (hy : evO ρ y = some (.int n)) : Pure P G ⟨dst, .call { callee := .builtin .min, args := #[x, y], argTypes := ats }, ty, pos, after, g⟩ ρ h (.int (min m n)) :=
  pure_free fun w I _ a hs => by
    have e1 := rel_val (hs.ev x) (ev_of_evO hx)
    have e2 := rel_val (hs.ev y) (ev_of_evO hy)
    refine ⟨_, rfl, fun w' => ?_⟩
    have e3 : (if n < m then n else m) = min m n := by omega
    have hr : (Builtin.min_ ats ty #[.int .i64 m, .int .i64 n]).run P w' = .ok (.int .i64 (min m n)) w' := by rw [← e3]; simp [Builtin.min_, Builtin.min2]
    simp [execOp, resolve, invoke, builtin, e1, e2, hr]
theorem Rel.cut3 {w : World} {I : Nat → Prop} {sz eb n cap : Nat} {rows : List (List D)} {ad : Option Addr} (h : Rel w I (.l sz eb rows) (.slice ad rows.length cap)) (h2 : n ≤ rows.length) : Rel w I (.l sz eb (rows.take n)) (.slice ad n n) := by
  generalize hv : Value.slice ad rows.length cap = v at h
  cases h with
  | nil => cases hv; obtain rfl : n = 0 := by simpa using h2
           exact .nil sz eb
  | emp _ _ ad0 => cases hv; obtain rfl : n = 0 := by simpa using h2
                   exact .emp sz eb ad0
  | l _ _ _ ad0 cap0 css hI hcap hm hb hsz hc hr =>
    cases hv
    have hlen : (rows.take n).length = n := by rw [List.length_take]; omega
    have hg : ∀ (j : Nat) (r : List D), (rows.take n)[j]? = some r → rows[j]? = some r := fun j r hj => by
      rw [List.getElem?_take] at hj
      split at hj
      · exact hj
      · cases hj
    have := Rel.l (w := w) (I := I) sz eb (rows.take n) ad0 n css hI (by omega) (by omega) (Nat.le_trans (Nat.mul_le_mul_right eb (by rw [hlen]; exact h2)) hb) (fun r hr => hsz r (List.mem_of_mem_take hr))
      (fun j u r x hj hx => hc j u r x (hg j r hj) hx) (fun j u r x hj hx => hr j u r x (hg j r hj) hx)
    rwa [hlen] at this
/-- x[:n:n]. -/
theorem pu_slice_to3 {α : Type} {f : α → List D} {xs : List α} {T E : TypeId} {x hi mx : Operand} {sz eb : Nat} {n : Int} {z : Value} {eb' : Nat} (hx : evO ρ x = some (.d (.l sz eb (xs.map f)))) (hhi : evO ρ hi = some (.int n)) (hmx : evO ρ mx = some (.int n)) (hT : P.underlying T = some (.slice E)) (hE : El P E z sz eb')
    (h0 : 0 ≤ n) (h2 : n ≤ xs.length) : Pure P G ⟨dst, .slice T x none (some hi) (some mx), ty, pos, after, g⟩ ρ h (.d (.l sz eb ((xs.take n.toNat).map f))) :=
  pure_free fun w I _ a hs => by
    obtain ⟨i, hE, _, _, _⟩ := hE.get
    have e1 : Rel w I (.l sz eb (xs.map f)) (a.eval x) := by have := hs.ev x; rw [ev_of_evO hx] at this; exact this
    have e2 := rel_val (hs.ev hi) (ev_of_evO hhi)
    have e3 := rel_val (hs.ev mx) (ev_of_evO hmx)
    obtain ⟨ad, cap, hv, hcap⟩ : ∃ ad cap, a.eval x = .slice ad (xs.map f).length cap ∧ (xs.map f).length ≤ cap := by
      have key : ∀ {rows : List (List D)}, Rel w I (.l sz eb rows) (a.eval x) → ∃ ad cap, a.eval x = .slice ad rows.length cap ∧ rows.length ≤ cap := by
        intro rows e
        generalize a.eval x = v at e
        cases e with
        | nil => exact ⟨none, 0, rfl, Nat.le_refl _⟩
        | emp _ _ ad => exact ⟨some ad, 0, rfl, Nat.le_refl _⟩
        | l _ _ _ ad cap css hI hcap => exact ⟨some ad, cap, rfl, hcap⟩
      exact key e1
    rw [hv] at e1
    have hcut := Rel.cut3 (n := n.toNat) e1 (by simp; omega)
    rw [← List.map_take] at hcut
    refine ⟨_, hcut, fun w' => ?_⟩
    have b1 : 0 ≤ n ∧ n ≤ (cap : Int) := by simp at hcap; omega
    have b2 : n ≤ max n 0 := by omega
    simp [execOp, hv, e2, e3, Instr.sliceAt, run_underlying hT, Instr.slice, Instr.sliceBounds, Instr.sliceBound, asIntOf, b1, b2, sizeOf, typeInfo, hE]
    intro _
    cases ad with
    | none => rfl
    | some ad0 =>
      obtain ⟨bb, oo, ss⟩ := ad0
      cases ss <;> simp [Addr.add]
end
/-! ### Results, told less -/
theorem AV.le_agg {xs ys : List AV} (h : AVs.le xs ys) : AV.le (.agg xs) (.agg ys) := fun _ _ _ ⟨vs, h1, h2⟩ => ⟨vs, h1, AVs.le_rel h h2⟩
theorem RV1.le {P : Program} {G : List (Nat × List D)} {ρ : Env} {h : H} {r : ResultVar} {x y : AV} (hr : RV1 P G ρ h r x) (hl : AV.le x y) : RV1 P G ρ h r y := fun c I n a w h1 h2 h3 => let ⟨v, e1, e2⟩ := hr c I n a w h1 h2 h3; ⟨v, hl _ _ _ e1, e2⟩
theorem RVs.le {P : Program} {G : List (Nat × List D)} {ρ : Env} {h : H} : ∀ {rs : List ResultVar} {xs ys : List AV}, RVs P G ρ h rs xs → AVs.le xs ys → RVs P G ρ h rs ys
  | [], [], [], _, _ => trivial
  | _ :: _, _ :: _, _ :: _, ⟨h1, h2⟩, ⟨g1, g2⟩ => ⟨h1.le g1, RVs.le h2 g2⟩
theorem retrl {P : Program} {G : List (Nat × List D)} {rs : List ResultVar} {Q : AE → H → Prop} {e : Exit} {ρ ρ1 : Env} {h h1 h' : H} {xs ys : List AV} (v : VS ρ h ρ1 h1) (hrv : RVs P G ρ1 h1 rs xs) (hle : AVs.le xs ys) (he : retE e = true) (hs : List.Sublist h' h1) (hq : Q (.ret (tupAV ys)) h') : retR P G rs Q e ρ h :=
  retr v (hrv.le hle) he hs hq
theorem vid {ρ : Env} {h : H} : VS ρ h ρ h := VS.of_le (Env.le_refl _)
end Go.Av
