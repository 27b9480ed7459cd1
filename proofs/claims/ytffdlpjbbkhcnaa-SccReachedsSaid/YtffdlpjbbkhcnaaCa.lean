/-
  PLAIN, NO PROGRAM: entries wherever they stand: writes, appends, calls; rows by their cells (over Bf).
-/
import Derived.Test.YtffdlpjbbkhcnaaBf
namespace Go.Av
open Go

/-! ### Entries wherever they stand -/
/-- e stands in h, e' in its place in h'. -/
inductive Upd (e e' : Ent) : H → H → Prop where
  | here {h : H} : Upd e e' (e :: h) (e' :: h)
  | there {x : Ent} {h h' : H} (u : Upd e e' h h') : Upd e e' (x :: h) (x :: h')
theorem Upd.split {e e' : Ent} {h h' : H} (u : Upd e e' h h') : ∃ h1 h2, h = h1 ++ e :: h2 ∧ h' = h1 ++ e' :: h2 := by
  induction u with
  | here => exact ⟨[], _, rfl, rfl⟩
  | there _ ih =>
    obtain ⟨h1, h2, rfl, rfl⟩ := ih
    exact ⟨_ :: h1, h2, rfl, rfl⟩
theorem Upd.perm {e e' : Ent} {h h' : H} (u : Upd e e' h h') : ∃ r, h.Perm (e :: r) ∧ h'.Perm (e' :: r) := by
  obtain ⟨h1, h2, rfl, rfl⟩ := u.split
  exact ⟨h1 ++ h2, List.perm_middle, List.perm_middle⟩
inductive Sel (e : Ent) : H → H → Prop where
  | here {h : H} : Sel e (e :: h) h
  | there {x : Ent} {h h' : H} (u : Sel e h h') : Sel e (x :: h) (x :: h')
theorem Sel.perm {e : Ent} {h h' : H} (u : Sel e h h') : h.Perm (e :: h') := by
  induction u with
  | here => exact List.Perm.refl _
  | there _ ih => exact (ih.cons _).trans (List.Perm.swap ..)
/-- These are taken out of h; the others are left. -/
inductive Take : H → H → H → Prop where
  | nil {h : H} : Take h [] h
  | cons {e : Ent} {h h1 hc hr : H} (s : Sel e h h1) (t : Take h1 hc hr) : Take h (e :: hc) hr
theorem Take.perm {h hc hr : H} (t : Take h hc hr) : h.Perm (hc ++ hr) := by
  induction t with
  | nil => exact List.Perm.refl _
  | cons s _ ih => exact s.perm.trans (ih.cons _)
inductive App : H → H → H → Prop where
  | nil {h : H} : App [] h h
  | cons {e : Ent} {a h h' : H} (p : App a h h') : App (e :: a) h (e :: h')
theorem App.eq {a h h' : H} (p : App a h h') : h' = a ++ h := by
  induction p with
  | nil => rfl
  | cons _ ih => rw [ih]; rfl

section
variable {k : Kx} {Q : Exit → Env → H → Prop} {ρ ρ' : Env} {h h' hr : H} {ops : Array Oper} {l : List Oper} {d : Nat} {dst : Option Tmp} {ty : TypeId} {pos : String} {after : Array Edge}

theorem VS.take {hc : H} (t : Take h hc hr) (hle : Env.le ρ ρ') : VS ρ h ρ' hc := VS.trans (VS.perm t.perm) (VS.trans (VS.drop (List.sublist_append_left hc hr)) (VS.of_le hle))

/-! ### Stores -/
theorem js_u {T T0 : TypeId} {x y : Operand} {b off : Nat} {r : AV} {vs : List AV} {z : Value} {eb : Nat} (hx : evO ρ x = some (.val (.pointer (some ⟨b, off, none⟩)))) (hy : evO ρ y = some r) (hs : r.flat = true) (hE : El k.P T z 1 eb)
    (hu : Upd (.cells b T0 vs) (.cells b T0 (vs.set off r)) h h') (hl : Nat.blt off vs.length = true)
    (hj : JL k ops l Q ρ h') : JL k ops (⟨none, .store T x y, ty, pos, after, none⟩ :: l) Q ρ h := by
  obtain ⟨h1, h2, rfl, rfl⟩ := hu.split
  exact js_set hx hy hs hE rfl (blt hl) hj
theorem js_um {α : Type} {f : α → AV} {T T0 : TypeId} {x y : Operand} {b off : Nat} {a : α} {vs : List α} {z : Value} {eb : Nat} (hx : evO ρ x = some (.val (.pointer (some ⟨b, off, none⟩))))
    (hu : Upd (.cells b T0 (vs.map f)) (.cells b T0 ((vs.set off a).map f)) h h') (hy : evO ρ y = some (f a)) (hs : (f a).flat = true) (hE : El k.P T z 1 eb) (hl : off < vs.length)
    (hj : JL k ops l Q ρ h') : JL k ops (⟨none, .store T x y, ty, pos, after, none⟩ :: l) Q ρ h := by
  obtain ⟨h1, h2, rfl, rfl⟩ := hu.split
  exact js_map hx rfl hy hs hE hl hj
/-- A whole struct. -/
theorem js_uw {T T0 : TypeId} {x y : Operand} {b : Nat} {cs vs : List AV} {z : Value} {sz eb : Nat} (hx : evO ρ x = some (.val (.pointer (some ⟨b, 0, none⟩)))) (hy : evO ρ y = some (.agg cs)) (hs : cs.all AV.flat = true) (hE : El k.P T z sz eb) (hn : sz = cs.length)
    (hu : Upd (.cells b T0 vs) (.cells b T0 cs) h h') (hl : vs.length = cs.length)
    (hj : JL k ops l Q ρ h') : JL k ops (⟨none, .store T x y, ty, pos, after, none⟩ :: l) Q ρ h := by
  obtain ⟨h1, h2, rfl, rfl⟩ := hu.split
  exact js_whole hx hy hs hE hn hl rfl hj
/-- cs is laid over l from a place on. -/
inductive SetAR : List AV → Nat → List AV → List AV → Prop where
  | nil {l : List AV} : SetAR l 0 [] l
  | put {x c : AV} {l cs l' : List AV} (h : SetAR l 0 cs l') : SetAR (x :: l) 0 (c :: cs) (c :: l')
  | skip {x : AV} {l cs l' : List AV} {n : Nat} (h : SetAR l n cs l') : SetAR (x :: l) (n + 1) cs (x :: l')
theorem SetAR.eq {l cs l' : List AV} {n : Nat} (h : SetAR l n cs l') : l' = setAt l n cs ∧ n + cs.length ≤ l.length := by
  induction h with
  | nil => simp [setAt]
  | put _ ih =>
    obtain ⟨rfl, h2⟩ := ih
    refine ⟨by simp [setAt, Nat.add_comm], by simp at h2 ⊢; omega⟩
  | skip _ ih =>
    obtain ⟨rfl, h2⟩ := ih
    refine ⟨by simp [setAt, Nat.add_right_comm], by simp at h2 ⊢; omega⟩
/-- One cell of a struct. -/
theorem js_ur {T T0 : TypeId} {x y : Operand} {b off : Nat} {r : AV} {vs vs' : List AV} {z : Value} {eb : Nat} (hx : evO ρ x = some (.val (.pointer (some ⟨b, off, none⟩)))) (hy : evO ρ y = some r) (hs : r.flat = true) (hE : El k.P T z 1 eb)
    (hu : Upd (.cells b T0 vs) (.cells b T0 vs') h h') (hv : SetAR vs off [r] vs')
    (hj : JL k ops l Q ρ h') : JL k ops (⟨none, .store T x y, ty, pos, after, none⟩ :: l) Q ρ h := by
  obtain ⟨h1, h2, rfl, rfl⟩ := hu.split
  obtain ⟨rfl, hl⟩ := hv.eq
  simp only [List.length_cons, List.length_nil] at hl
  refine js_set hx hy hs hE rfl (by omega) ?_
  rw [← setAt_one _ _ _ (by omega)]
  exact hj
/-- A struct within a struct. -/
theorem js_us {T T0 : TypeId} {x y : Operand} {b off : Nat} {cs vs vs' : List AV} {z : Value} {sz eb : Nat} (hx : evO ρ x = some (.val (.pointer (some ⟨b, off, none⟩)))) (hy : evO ρ y = some (.agg cs)) (hs : cs.all AV.flat = true) (hE : El k.P T z sz eb) (hn : sz = cs.length)
    (hu : Upd (.cells b T0 vs) (.cells b T0 vs') h h') (hv : SetAR vs off cs vs')
    (hj : JL k ops l Q ρ h') : JL k ops (⟨none, .store T x y, ty, pos, after, none⟩ :: l) Q ρ h := by
  obtain ⟨h1, h2, rfl, rfl⟩ := hu.split
  obtain ⟨rfl, hl⟩ := hv.eq
  exact JL_store (off := off) (r := .agg cs) (vs := vs) (ev_of_evO hx) (ev_of_evO hy) hs hE hn rfl hl hj

/-! ### Appends -/
theorem japU {α : Type} {f : α → List D} {xs ys : List α} {T E : TypeId} {x y : Operand} {z : Value} {sz eb eb' : Nat} {v : Value} {H' : Sl → H} (hx : evO ρ x = some (.val v)) (hT : k.P.underlying T = some (.slice E)) (he : El k.P E z sz eb)
    (hu : ∀ q : Sl, Upd (rowE v E sz f xs) (rowE q.v E sz f (xs ++ ys)) h (H' q)) (hy : evO ρ y = some (.d (.l sz eb' (ys.map f)))) (hz : z.cells.size = sz) (h0 : Nat.blt 0 sz = true)
    (hd : Nat.blt d k.n = true) (hb : (xs.length + ys.length) * eb ≤ 140737488355328) (hm : xs.length + ys.length ≤ 140737488355328)
    (hj : All fun q : Sl => JL k ops l Q ((d, .val q.v) :: ρ) (H' q)) :
    JL k ops (⟨some d, .call { callee := .builtin .append, args := #[x, y], argTypes := #[T, T] }, ty, pos, after, none⟩ :: l) Q ρ h := by
  obtain ⟨h1, h2, e1, _⟩ := (hu Sl.nil).split
  refine jappG (h1 := h1) (h2 := h2) hx e1 hy hT he hz h0 hd hb hm fun q => ?_
  refine JL_vs (VS.perm ?_) (hj.get q)
  obtain ⟨r, p1, p2⟩ := (hu q).perm
  refine List.perm_middle.trans (List.Perm.trans (List.Perm.cons _ ?_) p2.symm)
  rw [e1] at p1
  exact (List.perm_middle.symm.trans p1).cons_inv
/-- append(row, one). -/
theorem japU1 {α : Type} {f : α → List D} {xs : List α} {u : α} {T E : TypeId} {x y : Operand} {z : Value} {sz eb eb' : Nat} {v : Value} {H' : Sl → H} (hx : evO ρ x = some (.val v)) (hT : k.P.underlying T = some (.slice E)) (he : El k.P E z sz eb)
    (hu : ∀ q : Sl, Upd (rowE v E sz f xs) (rowE q.v E sz f (xs ++ [u])) h (H' q)) (hy : evO ρ y = some (.d (.l sz eb' [f u]))) (hz : z.cells.size = sz) (h0 : Nat.blt 0 sz = true)
    (hd : Nat.blt d k.n = true) (hb : (xs.length + 1) * eb ≤ 140737488355328) (hm : xs.length + 1 ≤ 140737488355328)
    (hj : All fun q : Sl => JL k ops l Q ((d, .val q.v) :: ρ) (H' q)) :
    JL k ops (⟨some d, .call { callee := .builtin .append, args := #[x, y], argTypes := #[T, T] }, ty, pos, after, none⟩ :: l) Q ρ h := japU (ys := [u]) hx hT he hu hy hz h0 hd hb hm hj

/-! ### Calls -/
theorem callG {β : Type} {X : β → AV} {en : β → H} {hc : H} {H' : β → H} {f : FuncId} {xs : Array Operand} {ats : Array TypeId} {args : List AV} (hargs : evsO ρ xs.toList = some args) (hcal : Cal k.P f) (hac : AC k.P k.c.G f args hc fun r h => ∃ v, r = .ret (X v) ∧ h = en v)
    (ht : Take h hc hr) (hd : Nat.blt d k.n = true) (ha : ∀ v, App (en v) hr (H' v)) (hj : All fun v => JL k ops l Q ((d, X v) :: ρ) (H' v)) :
    JL k ops (⟨some d, .call { callee := .value (.func f), args := xs, argTypes := ats }, ty, pos, after, none⟩ :: l) Q ρ h :=
  JL_vs (VS.perm ht.perm) (callw (hc := hc) (hr := hr) hargs hcal rfl hac hd (fun r h' hq => by obtain ⟨v, e1, e2⟩ := hq; cases e1; subst e2; rw [← (ha v).eq]; exact hj.get v) (fun ch h' hq => by obtain ⟨v, e1, _⟩ := hq; cases e1))
/-- A function value is called. -/
theorem JL_callV {f : FuncId} {x : Operand} {xs : Array Operand} {ats : Array TypeId} {caps : Array Value} {es : List AV} {hc hr : H} {R : AE → H → Prop} (hf : evO ρ x = some (.val (.func (.func f) #[] caps))) (hxs : evsO ρ xs.toList = some es) (hcal : Cal k.P f) (hac : AC k.P k.c.G f (es ++ caps.toList.map AV.val) hc R) (hs : h = hc ++ hr) (hd : ∀ t, dst = some t → t < k.n)
    (hret : ∀ r h', R (.ret r) h' → JL k ops l Q (put ρ dst r) (h' ++ hr)) (hpan : ∀ ch h', R (.pan ch) h' → Q (.panic ch) ρ (h' ++ hr)) :
    JL k ops (⟨dst, .call { callee := .value x, args := xs, argTypes := ats }, ty, pos, after, none⟩ :: l) Q ρ h := by
  intro I a w h1 h2 h3
  subst hs
  refine wpList_plain rfl fun K hK => ?_
  unfold Oper.wp
  rw [run_call_value (rel_val (h2.ev x) (ev_of_evO hf)), hcal]
  simp only [Oper.upon]
  have hr' : AV.rels w I (es ++ caps.toList.map AV.val) (xs.toList.map a.eval ++ caps.toList) := AV.rels_append (by rw [← evs_of_evsO hxs]; exact rels_evs h2 xs.toList) (rels_vals' w I _)
  refine (hac I w _ (fun e he => h1.ent e (List.mem_append.2 (.inl he))) ?_ ?_ (fun q hq => h1.glob q hq) hr').mono ?_
  · have := h1.nd; rw [blks_append] at this; exact (List.nodup_append.1 this).1
  · intro b hb
    have := h1.imm b hb
    rw [blks_append, List.mem_append] at this
    exact ⟨this.1, fun hm => this.2 (.inl hm)⟩
  · rintro e w' ⟨r, h', I', hR, hok, hrel⟩
    obtain ⟨k1, k2⟩ := h1.call hok
    have hsf : SF k.n w' I' ρ a := h2.mono k2 (fun b hb => hok.sup b hb)
    cases r with
    | ret r =>
      cases e with
      | returned v => exact hK _ _ (hret r h' hR I' _ w' k1 (hsf.put hd hrel) (by rw [Act.defers_put]; exact h3))
      | panicked ch => exact hrel.elim
      | outgrown => exact hrel.elim
    | pan ch =>
      cases e with
      | returned v => exact hrel.elim
      | panicked ch' => subst hrel; exact ⟨I', ρ, h' ++ hr, k1, hsf, h3, hpan _ _ hR⟩
      | outgrown => exact hrel.elim
theorem callGV {β : Type} {X : β → AV} {en : β → H} {hc : H} {H' : β → H} {f : FuncId} {x : Operand} {xs : Array Operand} {ats : Array TypeId} {caps : Array Value} {es : List AV} (hf : evO ρ x = some (.val (.func (.func f) #[] caps))) (hxs : evsO ρ xs.toList = some es) (hcal : Cal k.P f)
    (hac : AC k.P k.c.G f (es ++ caps.toList.map AV.val) hc fun r h => ∃ v, r = .ret (X v) ∧ h = en v)
    (ht : Take h hc hr) (hd : Nat.blt d k.n = true) (ha : ∀ v, App (en v) hr (H' v)) (hj : All fun v => JL k ops l Q ((d, X v) :: ρ) (H' v)) :
    JL k ops (⟨some d, .call { callee := .value x, args := xs, argTypes := ats }, ty, pos, after, none⟩ :: l) Q ρ h :=
  JL_vs (VS.perm ht.perm) (JL_callV (hc := hc) (hr := hr) hf hxs hcal hac rfl (fun t ht => by cases ht; exact blt hd) (fun r h' hq => by obtain ⟨v, e1, e2⟩ := hq; cases e1; subst e2; rw [← (ha v).eq]; exact hj.get v) (fun ch h' hq => by obtain ⟨v, e1, _⟩ := hq; cases e1))
end

/-! ### Rows by their cells -/
/-- Where a cell of a row lies. -/
def Sl.at (q : Sl) (off : Nat) : Addr := ⟨(q.ad.map (·.block)).getD 0, off, none⟩
theorem Ent.row_form {w : World} {I : Nat → Prop} {q : Sl} {n : Nat} {E : TypeId} {sz : Nat} {l : List AV} (h : (Ent.row q.v n E sz l).rel w I) (hn : 0 < n) :
    ∃ g cap cur, q = ⟨some ⟨g, 0, none⟩, n, cap⟩ ∧ w.heap[g]? = some (.cells cur E (0, 0)) ∧ n ≤ cap ∧ cap ≤ maxLen ∧ cur.size = cap * sz ∧ AV.rels w I l (cur.toList.take (n * sz)) := by
  obtain ⟨os, ho, hr⟩ := h
  rcases ho.2 with ⟨_, rfl⟩ | ⟨g, cap, cur, hv, _, hg, h1, h2, h3, rfl⟩
  · omega
  · obtain ⟨ad, m, c⟩ := q
    simp only [Sl.v, Value.slice.injEq] at hv
    obtain ⟨rfl, rfl, rfl⟩ := hv
    exact ⟨g, _, cur, rfl, hg, h1, h2, h3, hr⟩
section
variable {P : Program} {G : List (Nat × List D)} {ρ : Env} {h : H} {dst : Option Tmp} {ty : TypeId} {pos : String} {after : Array Edge} {g : Option (Nat × Bool)}
theorem flat_get {α : Type} {f : α → List D} {xs : List α} {sz j u : Nat} {c : D} (hsz : ∀ a, (f a).length = sz) (hj : j < xs.length) (hc : (f xs[j])[u]? = some c) : (((xs.map f).flatten).map D.av)[j * sz + u]? = some c.av := by
  have hu : u < sz := by rw [← hsz xs[j]]; exact (List.getElem?_eq_some_iff.1 hc).1
  have h0 : 0 < sz := by omega
  rw [List.getElem?_map, flatten_get h0 _ (fun r hr => by obtain ⟨a, _, rfl⟩ := List.mem_map.1 hr; exact hsz a)]
  have e1 : (j * sz + u) / sz = j := by rw [Nat.mul_comm, Nat.mul_add_div (by omega), Nat.div_eq_of_lt hu, Nat.add_zero]
  have e2 : (j * sz + u) % sz = u := by rw [Nat.mul_comm, Nat.mul_add_mod, Nat.mod_eq_of_lt hu]
  rw [e1, e2, List.getElem?_map, List.getElem?_eq_getElem hj]
  simp [hc]
theorem pu_index_row {α : Type} {f : α → List D} {xs : List α} {T E : TypeId} {x y : Operand} {q : Sl} {n sz eb : Nat} {z : Value} (hx : evO ρ x = some (.val q.v)) (hy : evO ρ y = some (.int (n : Int))) (hT : P.underlying T = some (.slice E)) (hE : El P E z sz eb)
    (hm : rowE q.v E sz f xs ∈ h) (hn : n < xs.length) : Pure P G ⟨dst, .indexAddr T x y, ty, pos, after, g⟩ ρ h (.val (.pointer (some (q.at (n * sz))))) := by
  intro c I m a w _ hok hs
  obtain ⟨i, hi, _, hsz, _⟩ := hE.get
  obtain ⟨gb, cap, cur, rfl, _⟩ := Ent.row_form (hok.ent _ hm) (by omega)
  have e1 := rel_val (hs.ev x) (ev_of_evO hx)
  have e2 := rel_val (hs.ev y) (ev_of_evO hy)
  refine ⟨_, rfl, fun w' _ => ?_⟩
  simp [execOp, e1, e2, Instr.indexAt, run_underlying hT, asIntOf, hn, sizeOf, typeInfo, hi, hsz, Sl.at, Addr.add]
  exact fun h => h.symm
theorem pu_index_rowI {α : Type} {f : α → List D} {xs : List α} {T E : TypeId} {x y : Operand} {q : Sl} {n : Int} {sz eb : Nat} {z : Value} (hx : evO ρ x = some (.val q.v)) (hy : evO ρ y = some (.int n)) (hT : P.underlying T = some (.slice E)) (hE : El P E z sz eb)
    (hm : rowE q.v E sz f xs ∈ h) (h0 : 0 ≤ n) (hn : n.toNat < xs.length) : Pure P G ⟨dst, .indexAddr T x y, ty, pos, after, g⟩ ρ h (.val (.pointer (some (q.at (n.toNat * sz))))) :=
  pu_index_row (n := n.toNat) hx (by rw [Int.toNat_of_nonneg h0]; exact hy) hT hE hm hn
/-- An index into a row of single cells that was made whole. -/
theorem pu_index_c1 {T E : TypeId} {x y : Operand} {b len cap n : Nat} {eb : Nat} {z : Value} (hx : evO ρ x = some (.val (.slice (some ⟨b, 0, none⟩) len cap))) (hy : evO ρ y = some (.int (n : Int))) (hT : P.underlying T = some (.slice E)) (hE : El P E z 1 eb)
    (h1 : n < len) : Pure P G ⟨dst, .indexAddr T x y, ty, pos, after, g⟩ ρ h (.val (.pointer (some ⟨b, n, none⟩))) := by
  have := pu_index_cells (P := P) (G := G) (h := h) (dst := dst) (ty := ty) (pos := pos) (after := after) (g := g) hx hT hE (ev_of_evO hy) (by omega) (by omega)
  simpa using this
theorem pu_index_ci1 {T E : TypeId} {x y : Operand} {b len cap : Nat} {n : Int} {eb : Nat} {z : Value} (hx : evO ρ x = some (.val (.slice (some ⟨b, 0, none⟩) len cap))) (hy : evO ρ y = some (.int n)) (hT : P.underlying T = some (.slice E)) (hE : El P E z 1 eb)
    (h0 : 0 ≤ n) (h1 : n < len) : Pure P G ⟨dst, .indexAddr T x y, ty, pos, after, g⟩ ρ h (.val (.pointer (some ⟨b, n.toNat, none⟩))) := by
  have := pu_index_cells (P := P) (G := G) (h := h) (dst := dst) (ty := ty) (pos := pos) (after := after) (g := g) hx hT hE (ev_of_evO hy) h0 h1
  simpa using this
theorem pu_field_row {S : TypeId} {x : Operand} {f off fo : Nat} {q : Sl} (hF : Fld P S f fo) (hx : evO ρ x = some (.val (.pointer (some (q.at off))))) : Pure P G ⟨dst, .fieldAddr S x f, ty, pos, after, g⟩ ρ h (.val (.pointer (some (q.at (off + fo))))) :=
  pu_field_cells hF hx
theorem pu_load_rowu {α : Type} {f : α → List D} {xs : List α} {T E : TypeId} {x : Operand} {q : Sl} {j u sz : Nat} {c : D} (hT : isAggB P T = some false) (hx : evO ρ x = some (.val (.pointer (some (q.at (j * sz + u)))))) (hm : rowE q.v E sz f xs ∈ h) (hsz : ∀ a, (f a).length = sz) (hj : j < xs.length) (hc : (f xs[j])[u]? = some c) :
    Pure P G ⟨dst, .load T x, ty, pos, after, g⟩ ρ h c.av := by
  intro cx I m a w _ hok hs
  obtain ⟨gb, cap, cur, rfl, hg, hnc, hcm, hcs, hrel⟩ := Ent.row_form (hok.ent _ hm) (by omega)
  have e1 := rel_val (hs.ev x) (ev_of_evO hx)
  obtain ⟨v, hv, hr⟩ := AV.rels_get hrel _ _ (flat_get hsz hj hc)
  refine ⟨v, hr, fun w' hw' => ?_⟩
  have hcell : w'.cell? ⟨gb, j * sz + u, none⟩ = some v := by
    rw [World.cell?_of_block (w := w) (hw'.block _ ((Array.getElem?_eq_some_iff.1 hg).1))]
    have : cur.toList[j * sz + u]? = some v := by
      rw [List.getElem?_take] at hv
      split at hv
      · exact hv
      · cases hv
    simpa [World.cell?, hg] using this
  have e3 : a.eval x = .pointer (some ⟨gb, j * sz + u, none⟩) := e1
  simp [execOp, e3, Instr.loadAt, Instr.sureAddr, loadVar, run_isAgg hT, run_load, hcell]
theorem pu_load_row0 {α : Type} {f : α → List D} {xs : List α} {T E : TypeId} {x : Operand} {q : Sl} {j sz : Nat} {c : D} (hT : isAggB P T = some false) (hx : evO ρ x = some (.val (.pointer (some (q.at (j * sz)))))) (hm : rowE q.v E sz f xs ∈ h) (hsz : ∀ a, (f a).length = sz) (hj : j < xs.length) (hc : (f xs[j])[0]? = some c) :
    Pure P G ⟨dst, .load T x, ty, pos, after, g⟩ ρ h c.av := pu_load_rowu (u := 0) hT hx hm hsz hj hc
/-- One of like cells. -/
theorem pu_load_map {α : Type} {f : α → AV} {xs : List α} {T T0 : TypeId} {x : Operand} {b off : Nat} (hT : isAggB P T = some false) (hx : evO ρ x = some (.val (.pointer (some ⟨b, off, none⟩)))) (hh : Ent.cells b T0 (xs.map f) ∈ h) (hl : off < xs.length) : Pure P G ⟨dst, .load T x, ty, pos, after, g⟩ ρ h (f xs[off]) :=
  pure_load_cells hT (ev_of_evO hx) hh (by rw [List.getElem?_map, List.getElem?_eq_getElem hl]; rfl)
theorem pu_load_map1 {α : Type} {f : α → AV} {xs : List α} {T T0 : TypeId} {x : Operand} {b off : Nat} (hT : isAggB P T = some false) (hx : evO ρ x = some (.val (.pointer (some ⟨b, off * 1, none⟩)))) (hh : Ent.cells b T0 (xs.map f) ∈ h) (hl : off < xs.length) : Pure P G ⟨dst, .load T x, ty, pos, after, g⟩ ρ h (f xs[off]) :=
  pu_load_map hT (by rw [hx, Nat.mul_one]) hh hl
end
end Go.Av
