/-
  PLAIN, NO PROGRAM: rows that are cut and written, pieces of rows (over Cb).
-/
import Derived.Test.YtffdlpjbbkhcnaaCb
namespace Go.Av
open Go

/-- An entry is told otherwise. -/
theorem Ok.reent {c : Cx} {I : Nat → Prop} {h1 h2 : H} {e e' : Ent} {w : World} (k : Ok c I (h1 ++ e :: h2) w) (hb : e'.blk = e.blk) (he : e'.rel w I) : Ok c I (h1 ++ e' :: h2) w := by
  have hblk : blks (h1 ++ e' :: h2) = blks (h1 ++ e :: h2) := by
    simp only [blks, List.filterMap_append, List.filterMap_cons, hb]
  refine { k with ent := fun x hx => ?_, nd := by rw [hblk]; exact k.nd, imm := fun b hb' => by rw [hblk]; exact k.imm b hb', new := fun b hb' => k.new b (by rw [← hblk]; exact hb') }
  rcases List.mem_append.1 hx with hx | hx
  · exact k.ent x (List.mem_append.2 (.inl hx))
  · rcases List.mem_cons.1 hx with rfl | hx
    · exact he
    · exact k.ent x (List.mem_append.2 (.inr (List.mem_cons_of_mem _ hx)))
section
variable {k : Kx} {Q : Exit → Env → H → Prop} {ρ ρ' : Env} {h h' h1 h2 hr : H} {ops : Array Oper} {l : List Oper} {d : Nat} {dst : Option Tmp} {ty : TypeId} {pos : String} {after : Array Edge}
/-- A row that has something, by its cells. -/
theorem JL_open {q : Sl} {n : Nat} {E : TypeId} {sz : Nat} {cs : List AV} (hn : 0 < n)
    (hj : ∀ (g cap : Nat) (js : List Value), q = ⟨some ⟨g, 0, none⟩, n, cap⟩ → n ≤ cap → cap ≤ maxLen → cs.length = n * sz → cs.length + js.length = cap * sz → JL k ops l Q ρ (h1 ++ .cells g E (cs ++ js.map AV.val) :: h2)) :
    JL k ops l Q ρ (h1 ++ .row q.v n E sz cs :: h2) := by
  intro I a w k1 k2 k3
  have he := k1.ent (.row q.v n E sz cs) (by simp)
  obtain ⟨g, cap, cur, rfl, hg, m1, m2, m3, hrel⟩ := Ent.row_form he hn
  have hl : cs.length = n * sz := by
    have h1 := AV.rels_length hrel
    have h2 : n * sz ≤ cap * sz := Nat.mul_le_mul_right _ m1
    rw [List.length_take, Array.length_toList (xs := cur), m3] at h1
    omega
  have e := hj g cap (cur.toList.drop (n * sz)) rfl m1 m2 hl (by rw [hl, List.length_drop, Array.length_toList (xs := cur), m3]; have h2 : n * sz ≤ cap * sz := Nat.mul_le_mul_right _ m1; omega)
  refine e I a w (k1.reent rfl ⟨cur, hg, ?_⟩) k2 k3
  have := AV.rels_append hrel (rels_vals w I (cur.toList.drop (n * sz)))
  rwa [List.take_append_drop] at this
theorem JL_close {g cap n : Nat} {E : TypeId} {sz : Nat} {cs : List AV} {js : List Value} (m1 : n ≤ cap) (m2 : cap ≤ maxLen) (hl : cs.length = n * sz) (hc : cs.length + js.length = cap * sz)
    (hj : JL k ops l Q ρ (h1 ++ .row (.slice (some ⟨g, 0, none⟩) n cap) n E sz cs :: h2)) : JL k ops l Q ρ (h1 ++ .cells g E (cs ++ js.map AV.val) :: h2) := by
  intro I a w k1 k2 k3
  obtain ⟨cur, hg, hrel⟩ := k1.ent (.cells g E (cs ++ js.map AV.val)) (by simp)
  have hlen := AV.rels_length hrel
  rw [List.length_append, List.length_map, Array.length_toList (xs := cur)] at hlen
  refine hj I a w (k1.reent rfl ⟨cur.toList.take (n * sz), ⟨?_, .inr ⟨g, cap, cur, rfl, Nat.zero_le _, hg, m1, m2, by omega, rfl⟩⟩, ?_⟩) k2 k3
  · rw [List.length_take, Array.length_toList (xs := cur)]; omega
  · have := rels_take (n * sz) hrel
    rwa [List.take_append_of_le_length (by omega), List.take_of_length_le (by omega)] at this
theorem setAt_left {cs js rs : List AV} {off : Nat} (h : off + rs.length ≤ cs.length) : setAt (cs ++ js) off rs = setAt cs off rs ++ js := by
  unfold setAt
  rw [List.take_append_of_le_length (by omega), List.drop_append_of_le_length h]
  simp [List.append_assoc]
/-- A store into a row. -/
theorem JL_storeR {T E : TypeId} {x y : Operand} {q : Sl} {off n sz0 : Nat} {r : AV} {cs : List AV} {z : Value} {sz eb : Nat} (hx : ev ρ x = .val (.pointer (some (q.at off)))) (hy : ev ρ y = r) (hs : r.stor = true) (hE : El k.P T z sz eb) (hn : sz = r.cl.length) (h0 : 0 < n)
    (hoff : off + r.cl.length ≤ cs.length) (hj : JL k ops l Q ρ (h1 ++ .row q.v n E sz0 (setAt cs off r.cl) :: h2)) : JL k ops (⟨none, .store T x y, ty, pos, after, none⟩ :: l) Q ρ (h1 ++ .row q.v n E sz0 cs :: h2) := by
  refine JL_open h0 fun g cap js hq m1 m2 m3 m4 => ?_
  subst hq
  refine JL_store (b := g) (off := off) (r := r) (vs := cs ++ js.map AV.val) hx hy hs hE hn rfl (by rw [List.length_append]; omega) ?_
  rw [setAt_left hoff]
  have hl : (setAt cs off r.cl).length = cs.length := by
    unfold setAt
    simp only [List.length_append, List.length_take, List.length_drop]
    omega
  exact JL_close m1 m2 (by rw [hl]; exact m3) (by rw [hl]; exact m4) hj
theorem flat_set {α : Type} {f : α → List D} {sz : Nat} (hsz : ∀ a, (f a).length = sz) : ∀ (xs : List α) (j : Nat) (a : α), j < xs.length → setAt (((xs.map f).flatten).map D.av) (j * sz) ((f a).map D.av) = (((xs.set j a).map f).flatten).map D.av
  | [], j, a, h => by simp at h
  | x :: xs, 0, a, _ => by
    have e : ((f x).map D.av).length = sz := by rw [List.length_map, hsz]
    have e' : ((f a).map D.av).length = sz := by rw [List.length_map, hsz]
    simp only [setAt, Nat.zero_mul, List.take_zero, List.nil_append, Nat.zero_add, List.map_cons, List.flatten_cons, List.map_append, List.set_cons_zero]
    rw [e', ← e, List.drop_left]
  | x :: xs, j + 1, a, h => by
    have ih := flat_set hsz xs j a (by simpa using h)
    have e : ((f x).map D.av).length = sz := by rw [List.length_map, hsz]
    simp only [List.map_cons, List.flatten_cons, List.map_append, List.set_cons_succ]
    rw [← ih]
    unfold setAt
    have e2 : (j + 1) * sz = ((f x).map D.av).length + j * sz := by rw [e, Nat.add_mul]; omega
    rw [e2, List.take_length_add_append, Nat.add_assoc, List.drop_length_add_append]
    simp [List.append_assoc]
/-- A whole element of a row. -/
theorem js_row {α : Type} {f : α → List D} {xs : List α} {a : α} {T E : TypeId} {x y : Operand} {q : Sl} {j sz : Nat} {r : AV} {z : Value} {eb : Nat} (hx : evO ρ x = some (.val (.pointer (some (q.at (j * sz)))))) (hy : evO ρ y = some r) (hu : Upd (rowE q.v E sz f xs) (rowE q.v E sz f (xs.set j a)) h h') (hr : r.cl = (f a).map D.av) (hs : r.stor = true) (hE : El k.P T z sz eb) (hsz : ∀ a, (f a).length = sz) (hjl : j < xs.length)
    (hj : JL k ops l Q ρ h') : JL k ops (⟨none, .store T x y, ty, pos, after, none⟩ :: l) Q ρ h := by
  obtain ⟨h1, h2, rfl, rfl⟩ := hu.split
  have hfl : ((((xs.map f).flatten).map D.av)).length = xs.length * sz := by
    rw [List.length_map, flatten_length _ (fun r hr => by obtain ⟨a, _, rfl⟩ := List.mem_map.1 hr; exact hsz a), List.length_map]
  have hlen : r.cl.length = sz := by rw [hr, List.length_map, hsz]
  refine JL_storeR (off := j * sz) (r := r) (ev_of_evO hx) (ev_of_evO hy) hs hE hlen.symm (by omega) ?_ ?_
  · rw [hfl, hlen]
    have : (j + 1) * sz ≤ xs.length * sz := Nat.mul_le_mul_right _ (by omega)
    rw [Nat.add_mul] at this
    omega
  · rw [hr, flat_set hsz xs j a hjl]
    unfold rowE at hj
    rwa [List.length_set] at hj
theorem js_row1 {α : Type} {f : α → List D} {xs : List α} {a : α} {T E : TypeId} {x y : Operand} {q : Sl} {j : Nat} {r : AV} {z : Value} {eb : Nat} (hx : evO ρ x = some (.val (.pointer (some (q.at (j * 1)))))) (hy : evO ρ y = some r) (hE : El k.P T z 1 eb) (hs : r.flat = true) (hu : Upd (rowE q.v E 1 f xs) (rowE q.v E 1 f (xs.set j a)) h h') (hr : [r] = (f a).map D.av) (hsz : ∀ a, (f a).length = 1) (hjl : j < xs.length)
    (hj : JL k ops l Q ρ h') : JL k ops (⟨none, .store T x y, ty, pos, after, none⟩ :: l) Q ρ h :=
  js_row hx hy hu (by rw [(flat_cl hs).1]; exact hr) (flat_cl hs).2 hE hsz hjl hj
/-- x[:n] of a row. -/
theorem js_cut {α : Type} {f : α → List D} {xs : List α} {T E : TypeId} {x hi : Operand} {q : Sl} {n : Int} {sz eb : Nat} {z : Value} {H' : Sl → H} (hx : evO ρ x = some (.val q.v)) (hhi : evO ρ hi = some (.int n)) (hT : k.P.underlying T = some (.slice E)) (hE : El k.P E z sz eb)
    (hu : ∀ q' : Sl, Upd (rowE q.v E sz f xs) (rowE q'.v E sz f (xs.take n.toNat)) h (H' q')) (hsz : ∀ a, (f a).length = sz) (h0 : 0 ≤ n) (hn : n ≤ xs.length) (hd : Nat.blt d k.n = true)
    (hj : All fun q' : Sl => JL k ops l Q ((d, .val q'.v) :: ρ) (H' q')) : JL k ops (⟨some d, .slice T x none (some hi) none, ty, pos, after, none⟩ :: l) Q ρ h := by
  obtain ⟨h1, h2, e1, _⟩ := (hu Sl.nil).split
  have hperm : ∀ q' : Sl, (h1 ++ rowE q'.v E sz f (xs.take n.toNat) :: h2).Perm (H' q') := fun q' => by
    obtain ⟨r, p1, p2⟩ := (hu q').perm
    refine List.perm_middle.trans (List.Perm.trans (List.Perm.cons _ ?_) p2.symm)
    rw [e1] at p1
    exact (List.perm_middle.symm.trans p1).cons_inv
  subst e1
  obtain ⟨i, hi', _, hsz', _⟩ := hE.get
  refine JL_eff rfl (fun t ht => by cases ht; exact blt hd) fun I a w k1 k2 => ?_
  have v1 := rel_val (k2.ev x) (ev_of_evO hx)
  have v2 := rel_val (k2.ev hi) (ev_of_evO hhi)
  have hfl : ∀ ys : List α, ((((ys.map f).flatten).map D.av)).length = ys.length * sz := fun ys => by
    rw [List.length_map, flatten_length _ (fun r hr => by obtain ⟨a, _, rfl⟩ := List.mem_map.1 hr; exact hsz a), List.length_map]
  have htake : (((xs.take n.toNat).map f).flatten).map D.av = ((((xs.map f).flatten).map D.av)).take (n.toNat * sz) := by
    have hl0 : ((((xs.take n.toNat).map f).flatten).map D.av).length = n.toNat * sz := by rw [hfl, List.length_take, Nat.min_eq_left (by omega)]
    have e : ((xs.map f).flatten).map D.av = (((xs.take n.toNat).map f).flatten).map D.av ++ (((xs.drop n.toNat).map f).flatten).map D.av := by
      rw [← List.map_append, ← List.flatten_append, ← List.map_append, List.take_append_drop]
    rw [e, List.take_append_of_le_length (by omega)]
    exact (List.take_of_length_le (by omega)).symm
  have hlt : (xs.take n.toNat).length = n.toNat := by rw [List.length_take]; omega
  by_cases hx0 : 0 < xs.length
  · obtain ⟨g, cap, cur, rfl, hg, m1, m2, m3, hrel⟩ := Ent.row_form (k1.ent (rowE q.v E sz f xs) (by simp)) hx0
    have b1 : 0 ≤ n ∧ n ≤ (cap : Int) := by omega
    have hle : n.toNat * sz ≤ cap * sz := Nat.mul_le_mul_right _ (by omega)
    have hle2 : n.toNat * sz ≤ xs.length * sz := Nat.mul_le_mul_right _ (by omega)
    refine ⟨.slice (some ⟨g, 0, none⟩) n.toNat cap, w, I, .val (Sl.v ⟨some ⟨g, 0, none⟩, n.toNat, cap⟩), _, ?_, (Ok.reent k1 (e' := rowE (Sl.v ⟨some ⟨g, 0, none⟩, n.toNat, cap⟩) E sz f (xs.take n.toNat)) rfl ?_), k2, rfl, JL_vs (VS.perm (hperm _)) (hj.get _)⟩
    · simp [execOp, v1, v2, Instr.sliceAt, run_underlying hT, Instr.slice, Instr.sliceBounds, Instr.sliceBound, asIntOf, b1, sizeOf, typeInfo, hi', Addr.add]
    · refine ⟨cur.toList.take (n.toNat * sz), ⟨?_, .inr ⟨g, cap, cur, by rw [hlt], Nat.zero_le _, hg, by rw [hlt]; omega, m2, m3, by rw [hlt]⟩⟩, ?_⟩
      · rw [List.length_take, Array.length_toList (xs := cur), m3, hlt]; omega
      · rw [htake]
        have := rels_take (n.toNat * sz) hrel
        rwa [List.take_take, Nat.min_eq_left hle2] at this
  · obtain rfl : xs = [] := List.eq_nil_of_length_eq_zero (by omega)
    have hn0 : n = 0 := by simp at hn; omega
    subst hn0
    have he := k1.ent (rowE q.v E sz f []) (by simp)
    obtain ⟨os, ho, _⟩ := he
    obtain ⟨ad, c, hq⟩ : ∃ ad c, q = ⟨ad, 0, c⟩ := by
      rcases ho.2 with ⟨hv, _⟩ | ⟨g, cap, cur, hv, _⟩
      · obtain ⟨a1, a2, a3⟩ := q
        simp only [Sl.v, Value.slice.injEq] at hv
        exact ⟨a1, a3, by rw [hv.2.1]⟩
      · obtain ⟨a1, a2, a3⟩ := q
        simp only [Sl.v, Value.slice.injEq] at hv
        exact ⟨a1, a3, by rw [hv.2.1]; rfl⟩
    subst hq
    refine ⟨.slice ad 0 c, w, I, .val (Sl.v ⟨ad, 0, c⟩), _, ?_, k1, k2, rfl, JL_vs (VS.perm (hperm ⟨ad, 0, c⟩)) (hj.get _)⟩
    have e0 : ad.map (fun x => x.add 0) = ad := by cases ad <;> simp [Addr.add]
    simp [execOp, v1, v2, Instr.sliceAt, run_underlying hT, Instr.slice, Instr.sliceBounds, Instr.sliceBound, asIntOf, sizeOf, typeInfo, hi', e0]
end
/-! ### Pieces of rows, read -/
/-- x[m:] -/
def Sl.sub (q : Sl) (m sz : Nat) : Sl := ⟨if q.c = m then q.ad else q.ad.map (·.add (m * sz)), q.n - m, q.c - m⟩
section
variable {P : Program} {G : List (Nat × List D)} {ρ : Env} {h : H} {dst : Option Tmp} {ty : TypeId} {pos : String} {after : Array Edge} {g : Option (Nat × Bool)}
theorem row_n {c : Cx} {I : Nat → Prop} {w : World} {α : Type} {f : α → List D} {xs : List α} {E : TypeId} {q : Sl} {sz : Nat} (hok : Ok c I h w) (hm : rowE q.v E sz f xs ∈ h) : q.n = xs.length ∧ q.n ≤ q.c := by
  obtain ⟨os, ho, _⟩ := hok.ent _ hm
  obtain ⟨a1, a2, a3⟩ := q
  rcases ho.2 with ⟨hv, h0⟩ | ⟨g, cap, cur, hv, _, _, m1, _⟩
  · simp only [Sl.v, Value.slice.injEq] at hv
    obtain ⟨rfl, rfl, rfl⟩ := hv
    exact ⟨by dsimp only; omega, Nat.le_refl _⟩
  · simp only [Sl.v, Value.slice.injEq] at hv
    obtain ⟨rfl, rfl, rfl⟩ := hv
    exact ⟨rfl, m1⟩
theorem pu_slice_sub {α : Type} {f : α → List D} {xs : List α} {T E : TypeId} {x lo : Operand} {q : Sl} {m : Int} {sz eb : Nat} {z : Value} (hx : evO ρ x = some (.val q.v)) (hlo : evO ρ lo = some (.int m)) (hT : P.underlying T = some (.slice E)) (hE : El P E z sz eb)
    (hm : rowE q.v E sz f xs ∈ h) (h0 : 0 ≤ m) (hn : m ≤ xs.length) : Pure P G ⟨dst, .slice T x (some lo) none none, ty, pos, after, g⟩ ρ h (.val (q.sub m.toNat sz).v) := by
  intro c I n a w _ hok hs
  obtain ⟨i, hi, _, hsz, _⟩ := hE.get
  have e1 := rel_val (hs.ev x) (ev_of_evO hx)
  have e2 := rel_val (hs.ev lo) (ev_of_evO hlo)
  obtain ⟨r1, r2⟩ := row_n hok hm
  refine ⟨_, rfl, fun w' _ => ?_⟩
  have b1 : 0 ≤ m ∧ m ≤ (q.n : Int) := by omega
  have b2 : (0 : Int) ≤ q.n ∧ (q.n : Int) ≤ q.c := by omega
  simp [execOp, e1, e2, Instr.sliceAt, run_underlying hT, Instr.slice, Instr.sliceBounds, Instr.sliceBound, asIntOf, b1, b2, sizeOf, typeInfo, hi, hsz, Sl.sub]
theorem pu_len_sub {α : Type} {f : α → List D} {xs : List α} {T E E' : TypeId} {x : Operand} {q : Sl} {m sz sz' : Nat} (hx : evO ρ x = some (.val (q.sub m sz).v)) (hT : P.underlying T = some (.slice E')) (hm : rowE q.v E sz' f xs ∈ h) : Pure P G ⟨dst, .call { callee := .builtin .len, args := #[x], argTypes := #[T] }, ty, pos, after, g⟩ ρ h (.int ((xs.length - m : Nat) : Int)) := by
  intro c I n a w _ hok hs
  obtain ⟨r1, r2⟩ := row_n hok hm
  have e1 := rel_val (hs.ev x) (ev_of_evO hx)
  refine ⟨_, rfl, fun w' _ => ?_⟩
  have e2 : a.eval x = .slice (q.sub m sz).ad (q.n - m) (q.c - m) := e1
  simp [execOp, resolve, invoke, builtin, e2, Builtin.len_, run_underlying hT, goInt, r1]
theorem pu_index_sub {α : Type} {f : α → List D} {xs : List α} {T E : TypeId} {x y : Operand} {q : Sl} {m n sz eb : Nat} {z : Value} (hx : evO ρ x = some (.val (q.sub m sz).v)) (hy : evO ρ y = some (.int (n : Int))) (hT : P.underlying T = some (.slice E)) (hE : El P E z sz eb)
    (hm : rowE q.v E sz f xs ∈ h) (hn : m + n < xs.length) : Pure P G ⟨dst, .indexAddr T x y, ty, pos, after, g⟩ ρ h (.val (.pointer (some (q.at ((m + n) * sz))))) := by
  intro c I o a w _ hok hs
  obtain ⟨i, hi, _, hsz, _⟩ := hE.get
  obtain ⟨gb, cap, cur, rfl, hg, m1, _⟩ := Ent.row_form (hok.ent _ hm) (by omega)
  have e1 := rel_val (hs.ev x) (ev_of_evO hx)
  have e2 := rel_val (hs.ev y) (ev_of_evO hy)
  have hc : cap ≠ m := by omega
  have e3 : a.eval x = .slice (some ⟨gb, m * sz, none⟩) (xs.length - m) (cap - m) := by
    rw [e1]; simp [Sl.sub, Sl.v, hc, Addr.add_lit]
  refine ⟨_, rfl, fun w' _ => ?_⟩
  have h1 : n < xs.length - m := by omega
  simp [execOp, e3, e2, Instr.indexAt, run_underlying hT, asIntOf, h1, sizeOf, typeInfo, hi, hsz, Sl.at, Addr.add_lit, Nat.add_mul]
end
/-! ### What came in is no longer than memory lets -/
inductive InA (d : D) : List AV → Prop where
  | here {as : List AV} : InA d (.d d :: as)
  | agg {cs as : List AV} (h : InA d cs) : InA d (.agg cs :: as)
  | there {a : AV} {as : List AV} (h : InA d as) : InA d (a :: as)
theorem InA.rel {d : D} {w : World} {I : Nat → Prop} {args : List AV} (h : InA d args) : ∀ {vs : List Value}, AV.rels w I args vs → ∃ v, Rel w I d v := by
  induction h with
  | here => intro vs hr; cases vs with | nil => exact hr.elim | cons v vs => exact ⟨v, hr.1⟩
  | agg _ ih => intro vs hr; cases vs with | nil => exact hr.elim | cons v vs => obtain ⟨us, _, h⟩ := hr.1; exact ih h
  | there _ ih => intro vs hr; cases vs with | nil => exact hr.elim | cons v vs => exact ih hr.2
theorem AC.factI {α : Type} {f : α → List D} {xs : List α} {P : Program} {G : List (Nat × List D)} {fn : FuncId} {args : List AV} {h : H} {Q : AE → H → Prop} {sz eb : Nat} (hm : InA (.l sz eb (xs.map f)) args) (hac : xs.length * eb ≤ 140737488355328 → AC P G fn args h Q) : AC P G fn args h Q := by
  intro I W vs h1 h2 h3 h4 h5
  obtain ⟨v, hv⟩ := hm.rel h5
  have := (Rel.len_le hv).1
  rw [List.length_map] at this
  exact hac this I W vs h1 h2 h3 h4 h5
theorem AC.factN {α : Type} {f : α → List D} {g : List α → List D} {xss : List (List α)} {P : Program} {G : List (Nat × List D)} {fn : FuncId} {args : List AV} {h : H} {Q : AE → H → Prop} {sz eb : Nat} (sz' eb' : Nat) (hg : ∀ x, g x = [.l sz' eb' (x.map f)]) (hm : InA (.l sz eb (xss.map g)) args) (hac : (∀ x ∈ xss, x.length * eb' ≤ 140737488355328) → AC P G fn args h Q) : AC P G fn args h Q := by
  intro I W vs h1 h2 h3 h4 h5
  obtain ⟨v, hv⟩ := hm.rel h5
  refine hac (fun x hx => ?_) I W vs h1 h2 h3 h4 h5
  obtain ⟨j, hj, rfl⟩ := List.getElem_of_mem hx
  have key : ∀ rows, rows = xss.map g → Rel W I (.l sz eb rows) v → ∃ u, Rel W I (.l sz' eb' (xss[j].map f)) u := fun rows hr hrel => by
    have hrow : rows[j]? = some [D.l sz' eb' (xss[j].map f)] := by rw [hr, List.getElem?_map, List.getElem?_eq_getElem hj, ← hg]; rfl
    cases hrel with
    | nil => simp at hrow
    | emp => simp at hrow
    | l _ _ _ ad cap css hI hcap hm hb hsz hc hr => exact ⟨_, hr j 0 _ _ hrow rfl⟩
  obtain ⟨u, hu⟩ := key _ rfl hv
  have := (Rel.len_le hu).1
  rwa [List.length_map] at this
end Go.Av
