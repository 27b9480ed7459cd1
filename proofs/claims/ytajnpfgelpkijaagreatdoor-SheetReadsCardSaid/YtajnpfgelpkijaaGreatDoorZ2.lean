/- A bundle of this claim's own texts: E4 E6 E19 E22 El St T0 E23 R1 Q4 E21. -/
import Derived.Laws.IdiomStrings
import Derived.Lib.AppendZerosOnto
import Derived.Lib.SliceRun
import Derived.Lib.AppendStr
import Derived.Lib.UnsafeStr
import Derived.Laws.Strings3
import Derived.Lib.ItoaNum
import Derived.Test.YtajnpfgelpkijaaGreatDoorProg
import Derived.Lib.Builder
import Derived.Laws.Externs
import Derived.LaidEqlPtr
import Derived.Shelf.Strings.Builder1
import Derived.Shelf.Strconv.Itoa3
import Derived.Sort.Grow
import Derived.RangeFuncNested
import Derived.RangeFuncBound
import Derived.RangeFuncCalls
import Derived.RangeFuncLeaves
import Derived.Test.YtajnpfgelpkijaaGreatDoorZ1
set_option linter.unusedVariables false
set_option linter.unusedSimpArgs false
set_option maxRecDepth 100000
set_option maxHeartbeats 4000000
namespace Go.Av
open Go

inductive Upd (e e' : Ent) : H → H → Prop where
 | here {h : H} : Upd e e' (e :: h) (e' :: h)
 | there {x : Ent} {h h' : H} (u : Upd e e' h h') : Upd e e' (x :: h) (x :: h')
theorem Upd.split {e e' : Ent} {h h' : H} (u : Upd e e' h h') : ∃ h1 h2, h = h1 ++ e :: h2 ∧ h' = h1 ++ e' :: h2 := by
 induction u with
 | here => exact ⟨[], _, rfl, rfl⟩
 | there _ ih =>
   obtain ⟨h1, h2, rfl, rfl⟩ := ih
   exact ⟨_ :: h1, h2, rfl, rfl⟩
theorem Upd.perm {e e' : Ent} {h h' : H} (u : Upd e e' h h') : ∃ r, h.Perm (e :: r) ∧ h'.Perm (e' :: r) := by
 obtain ⟨h1, h2, rfl, rfl⟩ := u.split
 exact ⟨h1 ++ h2, List.perm_middle, List.perm_middle⟩
inductive Sel (e : Ent) : H → H → Prop where
 | here {h : H} : Sel e (e :: h) h
 | there {x : Ent} {h h' : H} (u : Sel e h h') : Sel e (x :: h) (x :: h')
theorem Sel.perm {e : Ent} {h h' : H} (u : Sel e h h') : h.Perm (e :: h') := by
 induction u with
 | here => exact List.Perm.refl _
 | there _ ih => exact (ih.cons _).trans (List.Perm.swap ..)
inductive Take : H → H → H → Prop where
 | nil {h : H} : Take h [] h
 | cons {e : Ent} {h h1 hc hr : H} (s : Sel e h h1) (t : Take h1 hc hr) : Take h (e :: hc) hr
theorem Take.perm {h hc hr : H} (t : Take h hc hr) : h.Perm (hc ++ hr) := by
 induction t with
 | nil => exact List.Perm.refl _
 | cons s _ ih => exact s.perm.trans (ih.cons _)
inductive App : H → H → H → Prop where
 | nil {h : H} : App [] h h
 | cons {e : Ent} {a h h' : H} (p : App a h h') : App (e :: a) h (e :: h')
theorem App.eq {a h h' : H} (p : App a h h') : h' = a ++ h := by
 induction p with
 | nil => rfl
 | cons _ ih => rw [ih]; rfl

section
variable {k : Kx} {Q : Exit → Env → H → Prop} {ρ ρ' : Env} {h h' hr : H} {ops : Array Oper} {l : List Oper} {d : Nat} {dst : Option Tmp} {ty : TypeId} {pos : String} {after : Array Edge}

theorem VS.take {hc : H} (t : Take h hc hr) (hle : Env.le ρ ρ') : VS ρ h ρ' hc := VS.trans (VS.perm t.perm) (VS.trans (VS.drop (List.sublist_append_left hc hr)) (VS.of_le hle))

theorem js_uw {T T0 : TypeId} {x y : Operand} {b : Nat} {cs vs : List AV} {z : Value} {sz eb : Nat} (hx : evO ρ x = some (.val (.pointer (some ⟨b, 0, none⟩)))) (hy : evO ρ y = some (.agg cs)) (hs : cs.all AV.flat = true) (hE : El k.P T z sz eb) (hn : sz = cs.length)
 (hu : Upd (.cells b T0 vs) (.cells b T0 cs) h h') (hl : vs.length = cs.length)
 (hj : JL k ops l Q ρ h') : JL k ops (⟨none, .store T x y, ty, pos, after, none⟩ :: l) Q ρ h := by
 obtain ⟨h1, h2, rfl, rfl⟩ := hu.split
 exact js_whole hx hy hs hE hn hl rfl hj
inductive SetAR : List AV → Nat → List AV → List AV → Prop where
 | nil {l : List AV} : SetAR l 0 [] l
 | put {x c : AV} {l cs l' : List AV} (h : SetAR l 0 cs l') : SetAR (x :: l) 0 (c :: cs) (c :: l')
 | skip {x : AV} {l cs l' : List AV} {n : Nat} (h : SetAR l n cs l') : SetAR (x :: l) (n + 1) cs (x :: l')
theorem SetAR.eq {l cs l' : List AV} {n : Nat} (h : SetAR l n cs l') : l' = setAt l n cs ∧ n + cs.length ≤ l.length := by
 induction h with
 | nil => simp [setAt]
 | put _ ih =>
   obtain ⟨rfl, h2⟩ := ih
   refine ⟨by simp [setAt, Nat.add_comm], by simp at h2 ⊢; omega⟩
 | skip _ ih =>
   obtain ⟨rfl, h2⟩ := ih
   refine ⟨by simp [setAt, Nat.add_right_comm], by simp at h2 ⊢; omega⟩
theorem js_ur {T T0 : TypeId} {x y : Operand} {b off : Nat} {r : AV} {vs vs' : List AV} {z : Value} {eb : Nat} (hx : evO ρ x = some (.val (.pointer (some ⟨b, off, none⟩)))) (hy : evO ρ y = some r) (hs : r.flat = true) (hE : El k.P T z 1 eb)
 (hu : Upd (.cells b T0 vs) (.cells b T0 vs') h h') (hv : SetAR vs off [r] vs')
 (hj : JL k ops l Q ρ h') : JL k ops (⟨none, .store T x y, ty, pos, after, none⟩ :: l) Q ρ h := by
 obtain ⟨h1, h2, rfl, rfl⟩ := hu.split
 obtain ⟨rfl, hl⟩ := hv.eq
 simp only [List.length_cons, List.length_nil] at hl
 refine js_set hx hy hs hE rfl (by omega) ?_
 rw [← setAt_one _ _ _ (by omega)]
 exact hj
theorem japU {α : Type} {f : α → List D} {xs ys : List α} {T E : TypeId} {x y : Operand} {z : Value} {sz eb eb' : Nat} {v : Value} {H' : Sl → H} (hx : evO ρ x = some (.val v)) (hT : k.P.underlying T = some (.slice E)) (he : El k.P E z sz eb)
 (hu : ∀ q : Sl, Upd (rowE v E sz f xs) (rowE q.v E sz f (xs ++ ys)) h (H' q)) (hy : evO ρ y = some (.d (.l sz eb' (ys.map f)))) (hz : z.cells.size = sz) (h0 : Nat.blt 0 sz = true)
 (hd : Nat.blt d k.n = true) (hb : (xs.length + ys.length) * eb ≤ 140737488355328) (hm : xs.length + ys.length ≤ 140737488355328)
 (hj : All fun q : Sl => JL k ops l Q ((d, .val q.v) :: ρ) (H' q)) :
 JL k ops (⟨some d, .call { callee := .builtin .append, args := #[x, y], argTypes := #[T, T] }, ty, pos, after, none⟩ :: l) Q ρ h := by
 obtain ⟨h1, h2, e1, _⟩ := (hu Sl.nil).split
 refine jappG (h1 := h1) (h2 := h2) hx e1 hy hT he hz h0 hd hb hm fun q => ?_
 refine JL_vs (VS.perm ?_) (hj.get q)
 obtain ⟨r, p1, p2⟩ := (hu q).perm
 refine List.perm_middle.trans (List.Perm.trans (List.Perm.cons _ ?_) p2.symm)
 rw [e1] at p1
 exact (List.perm_middle.symm.trans p1).cons_inv
theorem japU1 {α : Type} {f : α → List D} {xs : List α} {u : α} {T E : TypeId} {x y : Operand} {z : Value} {sz eb eb' : Nat} {v : Value} {H' : Sl → H} (hx : evO ρ x = some (.val v)) (hT : k.P.underlying T = some (.slice E)) (he : El k.P E z sz eb)
 (hu : ∀ q : Sl, Upd (rowE v E sz f xs) (rowE q.v E sz f (xs ++ [u])) h (H' q)) (hy : evO ρ y = some (.d (.l sz eb' [f u]))) (hz : z.cells.size = sz) (h0 : Nat.blt 0 sz = true)
 (hd : Nat.blt d k.n = true) (hb : (xs.length + 1) * eb ≤ 140737488355328) (hm : xs.length + 1 ≤ 140737488355328)
 (hj : All fun q : Sl => JL k ops l Q ((d, .val q.v) :: ρ) (H' q)) :
 JL k ops (⟨some d, .call { callee := .builtin .append, args := #[x, y], argTypes := #[T, T] }, ty, pos, after, none⟩ :: l) Q ρ h := japU (ys := [u]) hx hT he hu hy hz h0 hd hb hm hj

theorem callG {β : Type} {X : β → AV} {en : β → H} {hc : H} {H' : β → H} {f : FuncId} {xs : Array Operand} {ats : Array TypeId} {args : List AV} (hargs : evsO ρ xs.toList = some args) (hcal : Cal k.P f) (hac : AC k.P k.c.G f args hc fun r h => ∃ v, r = .ret (X v) ∧ h = en v)
 (ht : Take h hc hr) (hd : Nat.blt d k.n = true) (ha : ∀ v, App (en v) hr (H' v)) (hj : All fun v => JL k ops l Q ((d, X v) :: ρ) (H' v)) :
 JL k ops (⟨some d, .call { callee := .value (.func f), args := xs, argTypes := ats }, ty, pos, after, none⟩ :: l) Q ρ h :=
 JL_vs (VS.perm ht.perm) (callw (hc := hc) (hr := hr) hargs hcal rfl hac hd (fun r h' hq => by obtain ⟨v, e1, e2⟩ := hq; cases e1; subst e2; rw [← (ha v).eq]; exact hj.get v) (fun ch h' hq => by obtain ⟨v, e1, _⟩ := hq; cases e1))
end

def Sl.at (q : Sl) (off : Nat) : Addr := ⟨(q.ad.map (·.block)).getD 0, off, none⟩
theorem Ent.row_form {w : World} {I : Nat → Prop} {q : Sl} {n : Nat} {E : TypeId} {sz : Nat} {l : List AV} (h : (Ent.row q.v n E sz l).rel w I) (hn : 0 < n) :
 ∃ g cap cur, q = ⟨some ⟨g, 0, none⟩, n, cap⟩ ∧ w.heap[g]? = some (.cells cur E (0, 0)) ∧ n ≤ cap ∧ cap ≤ maxLen ∧ cur.size = cap * sz ∧ AV.rels w I l (cur.toList.take (n * sz)) := by
 obtain ⟨os, ho, hr⟩ := h
 rcases ho.2 with ⟨_, rfl⟩ | ⟨g, cap, cur, hv, _, hg, h1, h2, h3, rfl⟩
 · omega
 · obtain ⟨ad, m, c⟩ := q
   simp only [Sl.v, Value.slice.injEq] at hv
   obtain ⟨rfl, rfl, rfl⟩ := hv
   exact ⟨g, _, cur, rfl, hg, h1, h2, h3, hr⟩
section
variable {P : Program} {G : List (Nat × List D)} {ρ : Env} {h : H} {dst : Option Tmp} {ty : TypeId} {pos : String} {after : Array Edge} {g : Option (Nat × Bool)}
theorem flat_get {α : Type} {f : α → List D} {xs : List α} {sz j u : Nat} {c : D} (hsz : ∀ a, (f a).length = sz) (hj : j < xs.length) (hc : (f xs[j])[u]? = some c) : (((xs.map f).flatten).map D.av)[j * sz + u]? = some c.av := by
 have hu : u < sz := by rw [← hsz xs[j]]; exact (List.getElem?_eq_some_iff.1 hc).1
 have h0 : 0 < sz := by omega
 rw [List.getElem?_map, flatten_get h0 _ (fun r hr => by obtain ⟨a, _, rfl⟩ := List.mem_map.1 hr; exact hsz a)]
 have e1 : (j * sz + u) / sz = j := by rw [Nat.mul_comm, Nat.mul_add_div (by omega), Nat.div_eq_of_lt hu, Nat.add_zero]
 have e2 : (j * sz + u) % sz = u := by rw [Nat.mul_comm, Nat.mul_add_mod, Nat.mod_eq_of_lt hu]
 rw [e1, e2, List.getElem?_map, List.getElem?_eq_getElem hj]
 simp [hc]
theorem pu_index_row {α : Type} {f : α → List D} {xs : List α} {T E : TypeId} {x y : Operand} {q : Sl} {n sz eb : Nat} {z : Value} (hx : evO ρ x = some (.val q.v)) (hy : evO ρ y = some (.int (n : Int))) (hT : P.underlying T = some (.slice E)) (hE : El P E z sz eb)
 (hm : rowE q.v E sz f xs ∈ h) (hn : n < xs.length) : Pure P G ⟨dst, .indexAddr T x y, ty, pos, after, g⟩ ρ h (.val (.pointer (some (q.at (n * sz))))) := by
 intro c I m a w _ hok hs
 obtain ⟨i, hi, _, hsz, _⟩ := hE.get
 obtain ⟨gb, cap, cur, rfl, _⟩ := Ent.row_form (hok.ent _ hm) (by omega)
 have e1 := rel_val (hs.ev x) (ev_of_evO hx)
 have e2 := rel_val (hs.ev y) (ev_of_evO hy)
 refine ⟨_, rfl, fun w' _ => ?_⟩
 simp [execOp, e1, e2, Instr.indexAt, run_underlying hT, asIntOf, hn, sizeOf, typeInfo, hi, hsz, Sl.at, Addr.add]
 exact fun h => h.symm
theorem pu_index_rowI {α : Type} {f : α → List D} {xs : List α} {T E : TypeId} {x y : Operand} {q : Sl} {n : Int} {sz eb : Nat} {z : Value} (hx : evO ρ x = some (.val q.v)) (hy : evO ρ y = some (.int n)) (hT : P.underlying T = some (.slice E)) (hE : El P E z sz eb)
 (hm : rowE q.v E sz f xs ∈ h) (h0 : 0 ≤ n) (hn : n.toNat < xs.length) : Pure P G ⟨dst, .indexAddr T x y, ty, pos, after, g⟩ ρ h (.val (.pointer (some (q.at (n.toNat * sz))))) :=
 pu_index_row (n := n.toNat) hx (by rw [Int.toNat_of_nonneg h0]; exact hy) hT hE hm hn
theorem pu_index_c1 {T E : TypeId} {x y : Operand} {b len cap n : Nat} {eb : Nat} {z : Value} (hx : evO ρ x = some (.val (.slice (some ⟨b, 0, none⟩) len cap))) (hy : evO ρ y = some (.int (n : Int))) (hT : P.underlying T = some (.slice E)) (hE : El P E z 1 eb)
 (h1 : n < len) : Pure P G ⟨dst, .indexAddr T x y, ty, pos, after, g⟩ ρ h (.val (.pointer (some ⟨b, n, none⟩))) := by
 have := pu_index_cells (P := P) (G := G) (h := h) (dst := dst) (ty := ty) (pos := pos) (after := after) (g := g) hx hT hE (ev_of_evO hy) (by omega) (by omega)
 simpa using this
theorem pu_load_rowu {α : Type} {f : α → List D} {xs : List α} {T E : TypeId} {x : Operand} {q : Sl} {j u sz : Nat} {c : D} (hT : isAggB P T = some false) (hx : evO ρ x = some (.val (.pointer (some (q.at (j * sz + u)))))) (hm : rowE q.v E sz f xs ∈ h) (hsz : ∀ a, (f a).length = sz) (hj : j < xs.length) (hc : (f xs[j])[u]? = some c) :
 Pure P G ⟨dst, .load T x, ty, pos, after, g⟩ ρ h c.av := by
 intro cx I m a w _ hok hs
 obtain ⟨gb, cap, cur, rfl, hg, hnc, hcm, hcs, hrel⟩ := Ent.row_form (hok.ent _ hm) (by omega)
 have e1 := rel_val (hs.ev x) (ev_of_evO hx)
 obtain ⟨v, hv, hr⟩ := AV.rels_get hrel _ _ (flat_get hsz hj hc)
 refine ⟨v, hr, fun w' hw' => ?_⟩
 have hcell : w'.cell? ⟨gb, j * sz + u, none⟩ = some v := by
  have hbk : w'.heap[(⟨gb, j * sz + u, none⟩ : Addr).block]? = w.heap[(⟨gb, j * sz + u, none⟩ : Addr).block]? := hw'.own gb (mem_blks hm rfl)
  rw [World.cell?_of_block (w := w) hbk]
  have : cur.toList[j * sz + u]? = some v := by
   rw [List.getElem?_take] at hv
   split at hv
   · exact hv
   · cases hv
  simpa [World.cell?, hg] using this
 have e3 : a.eval x = .pointer (some ⟨gb, j * sz + u, none⟩) := e1
 simp [execOp, e3, Instr.loadAt, Instr.sureAddr, loadVar, run_isAgg hT, run_load, hcell]
theorem pu_load_row0 {α : Type} {f : α → List D} {xs : List α} {T E : TypeId} {x : Operand} {q : Sl} {j sz : Nat} {c : D} (hT : isAggB P T = some false) (hx : evO ρ x = some (.val (.pointer (some (q.at (j * sz)))))) (hm : rowE q.v E sz f xs ∈ h) (hsz : ∀ a, (f a).length = sz) (hj : j < xs.length) (hc : (f xs[j])[0]? = some c) :
 Pure P G ⟨dst, .load T x, ty, pos, after, g⟩ ρ h c.av := pu_load_rowu (u := 0) hT hx hm hsz hj hc
end
section
variable {k : Kx} {Q : Exit → Env → H → Prop} {ρ : Env} {h : H} {ops : Array Oper} {listed : Array Bool} {n f i m d : Nat} {op : Op} {ty : TypeId} {pos : String} {after : Array Edge}
structure JXP (k : Kx) (ops : Array Oper) (n f : Nat) (listed : Array Bool) (i m : Nat) (Q : Exit → Env → H → Prop) (ρ : Env) (h : H) : Prop where
 get : JX k ops f listed Q ρ h
structure JXS (k : Kx) (ops : Array Oper) (n f : Nat) (listed : Array Bool) (i m : Nat) (Q : Exit → Env → H → Prop) (ρ : Env) (h : H) : Prop where
 get : ∀ j, i ≤ j → j < i + m → j ∈ Region.ready .any ops listed → ∃ o, ops[j]? = some o ∧ JL k ops [o] (fun e ρ' h' => e = .normal ∧ JXP k ops n f (listed.setIfInBounds j true) 0 n Q ρ' h') ρ h
theorem jxs_nil (_ht : True) : JXS k ops n f listed i 0 Q ρ h := ⟨fun j h1 h2 => by omega⟩
theorem jxs_no (hc : (Region.ready .any ops listed).contains i = false) (hj : JXS k ops n f listed (i + 1) m Q ρ h) : JXS k ops n f listed i (m + 1) Q ρ h :=
 ⟨fun j h1 h2 hr => by
  by_cases e : j = i
  · subst e
    have : (Region.ready .any ops listed).contains j = true := by simpa using hr
    rw [this] at hc; cases hc
  · exact hj.get j (by omega) (by omega) hr⟩
theorem jxand {p : Prop} (hp : p) : Exit.normal = Exit.normal ∧ p := ⟨rfl, hp⟩
end

theorem Ok.reent {c : Cx} {I : Nat → Prop} {h1 h2 : H} {e e' : Ent} {w : World} (k : Ok c I (h1 ++ e :: h2) w) (hb : e'.blk = e.blk) (he : e'.rel w I) : Ok c I (h1 ++ e' :: h2) w := by
 have hblk : blks (h1 ++ e' :: h2) = blks (h1 ++ e :: h2) := by
  simp only [blks, List.filterMap_append, List.filterMap_cons, hb]
 refine { k with ent := fun x hx => ?_, nd := by rw [hblk]; exact k.nd, imm := fun b hb' => by rw [hblk]; exact k.imm b hb', new := fun b hb' => k.new b (by rw [← hblk]; exact hb') }
 rcases List.mem_append.1 hx with hx | hx
 · exact k.ent x (List.mem_append.2 (.inl hx))
 · rcases List.mem_cons.1 hx with rfl | hx
   · exact he
   · exact k.ent x (List.mem_append.2 (.inr (List.mem_cons_of_mem _ hx)))
section
variable {k : Kx} {Q : Exit → Env → H → Prop} {ρ ρ' : Env} {h h' h1 h2 hr : H} {ops : Array Oper} {l : List Oper} {d : Nat} {dst : Option Tmp} {ty : TypeId} {pos : String} {after : Array Edge}
theorem JL_open {q : Sl} {n : Nat} {E : TypeId} {sz : Nat} {cs : List AV} (hn : 0 < n)
 (hj : ∀ (g cap : Nat) (js : List Value), q = ⟨some ⟨g, 0, none⟩, n, cap⟩ → n ≤ cap → cap ≤ maxLen → cs.length = n * sz → cs.length + js.length = cap * sz → JL k ops l Q ρ (h1 ++ .cells g E (cs ++ js.map AV.val) :: h2)) :
 JL k ops l Q ρ (h1 ++ .row q.v n E sz cs :: h2) := by
 intro I a w k1 k2 k3
 have he := k1.ent (.row q.v n E sz cs) (by simp)
 obtain ⟨g, cap, cur, rfl, hg, m1, m2, m3, hrel⟩ := Ent.row_form he hn
 have hl : cs.length = n * sz := by
  have h1 := AV.rels_length hrel
  have h2 : n * sz ≤ cap * sz := Nat.mul_le_mul_right _ m1
  rw [List.length_take, Array.length_toList (xs := cur), m3] at h1
  omega
 have e := hj g cap (cur.toList.drop (n * sz)) rfl m1 m2 hl (by rw [hl, List.length_drop, Array.length_toList (xs := cur), m3]; have h2 : n * sz ≤ cap * sz := Nat.mul_le_mul_right _ m1; omega)
 refine e I a w (k1.reent rfl ⟨cur, hg, ?_⟩) k2 k3
 have := AV.rels_append hrel (rels_vals w I (cur.toList.drop (n * sz)))
 rwa [List.take_append_drop] at this
theorem JL_close {g cap n : Nat} {E : TypeId} {sz : Nat} {cs : List AV} {js : List Value} (m1 : n ≤ cap) (m2 : cap ≤ maxLen) (hl : cs.length = n * sz) (hc : cs.length + js.length = cap * sz)
 (hj : JL k ops l Q ρ (h1 ++ .row (.slice (some ⟨g, 0, none⟩) n cap) n E sz cs :: h2)) : JL k ops l Q ρ (h1 ++ .cells g E (cs ++ js.map AV.val) :: h2) := by
 intro I a w k1 k2 k3
 obtain ⟨cur, hg, hrel⟩ := k1.ent (.cells g E (cs ++ js.map AV.val)) (by simp)
 have hlen := AV.rels_length hrel
 rw [List.length_append, List.length_map, Array.length_toList (xs := cur)] at hlen
 refine hj I a w (k1.reent rfl ⟨cur.toList.take (n * sz), ⟨?_, .inr ⟨g, cap, cur, rfl, Nat.zero_le _, hg, m1, m2, by omega, rfl⟩⟩, ?_⟩) k2 k3
 · rw [List.length_take, Array.length_toList (xs := cur)]; omega
 · have := rels_take (n * sz) hrel
   rwa [List.take_append_of_le_length (by omega), List.take_of_length_le (by omega)] at this
theorem setAt_left {cs js rs : List AV} {off : Nat} (h : off + rs.length ≤ cs.length) : setAt (cs ++ js) off rs = setAt cs off rs ++ js := by
 unfold setAt
 rw [List.take_append_of_le_length (by omega), List.drop_append_of_le_length h]
 simp [List.append_assoc]
theorem JL_storeR {T E : TypeId} {x y : Operand} {q : Sl} {off n sz0 : Nat} {r : AV} {cs : List AV} {z : Value} {sz eb : Nat} (hx : ev ρ x = .val (.pointer (some (q.at off)))) (hy : ev ρ y = r) (hs : r.stor = true) (hE : El k.P T z sz eb) (hn : sz = r.cl.length) (h0 : 0 < n)
 (hoff : off + r.cl.length ≤ cs.length) (hj : JL k ops l Q ρ (h1 ++ .row q.v n E sz0 (setAt cs off r.cl) :: h2)) : JL k ops (⟨none, .store T x y, ty, pos, after, none⟩ :: l) Q ρ (h1 ++ .row q.v n E sz0 cs :: h2) := by
 refine JL_open h0 fun g cap js hq m1 m2 m3 m4 => ?_
 subst hq
 refine JL_store (b := g) (off := off) (r := r) (vs := cs ++ js.map AV.val) hx hy hs hE hn rfl (by rw [List.length_append]; omega) ?_
 rw [setAt_left hoff]
 have hl : (setAt cs off r.cl).length = cs.length := by
  unfold setAt
  simp only [List.length_append, List.length_take, List.length_drop]
  omega
 exact JL_close m1 m2 (by rw [hl]; exact m3) (by rw [hl]; exact m4) hj
end
inductive InA (d : D) : List AV → Prop where
 | here {as_ : List AV} : InA d (.d d :: as_)
 | agg {cs as_ : List AV} (h : InA d cs) : InA d (.agg cs :: as_)
 | there {a : AV} {as_ : List AV} (h : InA d as_) : InA d (a :: as_)
theorem InA.rel {d : D} {w : World} {I : Nat → Prop} {args : List AV} (h : InA d args) : ∀ {vs : List Value}, AV.rels w I args vs → ∃ v, Rel w I d v := by
 induction h with
 | here => intro vs hr; cases vs with | nil => exact hr.elim | cons v vs => exact ⟨v, hr.1⟩
 | agg _ ih => intro vs hr; cases vs with | nil => exact hr.elim | cons v vs => obtain ⟨us, _, h⟩ := hr.1; exact ih h
 | there _ ih => intro vs hr; cases vs with | nil => exact hr.elim | cons v vs => exact ih hr.2
theorem AC.factI {α : Type} {f : α → List D} {xs : List α} {P : Program} {G : List (Nat × List D)} {fn : FuncId} {args : List AV} {h : H} {Q : AE → H → Prop} {sz eb : Nat} (hm : InA (.l sz eb (xs.map f)) args) (hac : xs.length * eb ≤ 140737488355328 → AC P G fn args h Q) : AC P G fn args h Q := by
 intro I W vs h1 h2 h3 h4 h5
 obtain ⟨v, hv⟩ := hm.rel h5
 have := (Rel.len_le hv).1
 rw [List.length_map] at this
 exact hac this I W vs h1 h2 h3 h4 h5

section
variable {k : Kx} {Q : Exit → Env → H → Prop} {ρ ρ' : Env} {h h' h1 h2 hr : H} {ops : Array Oper} {l : List Oper} {d : Nat} {dst : Option Tmp} {ty : TypeId} {pos : String} {after : Array Edge}
theorem J_region_tailT {id tn : Nat} {l : List Oper} (t : Nat) (hm : k.P.follows .mixedOrders = true) (_hn : l.length = tn + t) (hB : Region.lexTailB .any l.toArray tn = true) (hj : JQ k l.toArray tn l Q ρ h) : J k (.region id l.toArray true) Q ρ h :=
 fun I a w h1 h2 h3 => wp_region_quiet_tail (C := Same I h w) tn hm hB ⟨rfl, rfl, rfl, Nat.le_refl _, fun _ _ => rfl⟩ (hj I a w h1 h2 h3)
end

section
variable {k : Kx} {Q : Exit → Env → H → Prop} {ρ ρ' : Env} {h : H} {ops : Array Oper} {listed : Array Bool} {n f : Nat}
inductive Reads (k : Kx) (ops : Array Oper) (ρ : Env) (h : H) : List (Nat × Nat × AV) → Prop where
 | nil : Reads k ops ρ h []
 | cons {i d : Nat} {r : AV} {op : Op} {ty : TypeId} {pos : String} {after : Array Edge} {l : List (Nat × Nat × AV)} (ho : ops[i]? = some ⟨some d, op, ty, pos, after, none⟩) (hp : Pure k.P k.c.G ⟨some d, op, ty, pos, after, none⟩ ρ h r) (hd : Nat.blt d k.n = true) (hf : getO ρ d = none) (t : Reads k ops ρ h l) : Reads k ops ρ h ((i, d, r) :: l)
theorem Reads.get {l : List (Nat × Nat × AV)} (t : Reads k ops ρ h l) {p : Nat × Nat × AV} (hp : p ∈ l) : ∃ op ty pos after, ops[p.1]? = some ⟨some p.2.1, op, ty, pos, after, none⟩ ∧ Pure k.P k.c.G ⟨some p.2.1, op, ty, pos, after, none⟩ ρ h p.2.2 ∧ p.2.1 < k.n ∧ getO ρ p.2.1 = none := by
 induction t with
 | nil => cases hp
 | cons ho h1 h2 h3 _ ih =>
   rcases List.mem_cons.1 hp with rfl | hp
   · exact ⟨_, _, _, _, ho, h1, blt h2, h3⟩
   · exact ih hp
end

structure Sam (T : List Nat) (w w' : World) : Prop where
 os : w'.os = w.os
 tape : w'.tape = w.tape
 output : w'.output = w.output
 size : w.heap.size ≤ w'.heap.size
 block : ∀ b, b < w.heap.size → b ∉ T → w'.heap[b]? = w.heap[b]?
theorem Sam.refl (T : List Nat) (w : World) : Sam T w w := ⟨rfl, rfl, rfl, Nat.le_refl _, fun _ _ _ => rfl⟩
def hShape (ops : Array Oper) (n : Nat) : Bool :=
 Region.noSelect ops && decide (n ≤ ops.size) && (decide (n = ops.size) || (Region.sinkB .any ops n && Region.chainB .any ops n))
structure JH (k : Kx) (ops : Array Oper) (n f : Nat) (listed : Array Bool) (l2 : List Oper) (i m : Nat) (pr : Bool) (Q : Exit → Env → H → Prop) (hT : H) (ρ : Env) (h : H) : Prop where
 get : hShape ops n = true → HeadInv .any ops n listed → ∀ I a w, Ok k.c I (hT ++ h) w → SF k.n w I ρ a → a.defers = k.df →
  headH k.P .any ops (Sam (blks hT) w) n (fun listed' a' w' => Region.seqB .any ops (ops.size - n) n listed' = true ∧ wpList k.P ops (lift k Q) l2 a' w') f listed a w
structure JHS (k : Kx) (ops : Array Oper) (n f : Nat) (listed : Array Bool) (l2 : List Oper) (i m : Nat) (Q : Exit → Env → H → Prop) (hT : H) (ρ : Env) (h : H) : Prop where
 get : ∀ j, i ≤ j → j < i + m → j ∈ Region.ready .any ops listed → ∃ o, ops[j]? = some o ∧ ∀ c : World × (Nat → Prop) × List Nat, JL ⟨k.P, ⟨c.1, c.2.1, c.2.2, k.c.G⟩, k.n, k.df⟩ ops [o] (fun e ρ' hT' => e = .normal ∧ JH k ops n f (listed.setIfInBounds j true) l2 0 n false Q hT' ρ' h) ρ hT
theorem hlow {ops : Array Oper} {n : Nat} (hs : hShape ops n = true) {i : Nat} (hi : i < n) : ∀ listed, HeadInv .any ops n listed → i ∈ Region.ready .any ops listed → ∀ j ∈ Region.ready .any ops listed, j < n := by
 simp only [hShape, Bool.and_eq_true, Bool.or_eq_true, decide_eq_true_eq] at hs
 obtain ⟨⟨hsel, hle⟩, hor⟩ := hs
 intro listed inv hr j hj
 rcases hor with hn | ⟨hs, hc⟩
 · obtain ⟨_, o, ho, _⟩ := mem_ready.1 hj
   rw [hn]; exact (Array.getElem?_eq_some_iff.1 ho).1
 · rcases Nat.lt_or_ge j n with h | h
   · exact h
   · obtain ⟨_, o, ho, _⟩ := mem_ready.1 hj
     have hlt := (Array.getElem?_eq_some_iff.1 ho).1
     exact absurd hj (tail_waits hs hc (by omega) inv _ i rfl hi (mem_ready.1 hr).1 j h)
theorem hsel_of {ops : Array Oper} {n : Nat} (hs : hShape ops n = true) : Region.noSelect ops = true := by
 simp only [hShape, Bool.and_eq_true] at hs
 exact hs.1.1
section
variable {k : Kx} {Q : Exit → Env → H → Prop} {ρ ρ' : Env} {h h' hT : H} {ops : Array Oper} {listed : Array Bool} {l2 : List Oper} {n f i m d : Nat} {op : Op} {ty : TypeId} {pos : String} {after : Array Edge} {pr : Bool}

theorem Ok.right {c : Cx} {I : Nat → Prop} {w : World} (k1 : Ok c I (hT ++ h) w) : Ok c I h w where
 ent e he := k1.ent e (List.mem_append.2 (.inr he))
 nd := by have := k1.nd; rw [blks_append] at this; exact (List.nodup_append.1 this).2.1
 imm b hb := ⟨(k1.imm b hb).1, fun hm => (k1.imm b hb).2 (by rw [blks_append]; exact List.mem_append.2 (.inr hm))⟩
 new b hb := k1.new b (by rw [blks_append]; exact List.mem_append.2 (.inr hb))
 inew := k1.inew
 sup := k1.sup
 os := k1.os
 tape := k1.tape
 output := k1.output
 size := k1.size
 keep := k1.keep
 glob := k1.glob
theorem Ok.left {c : Cx} {I : Nat → Prop} {w : World} (k1 : Ok c I (hT ++ h) w) : Ok ⟨w, I, blks hT, c.G⟩ I hT w where
 ent e he := k1.ent e (List.mem_append.2 (.inl he))
 nd := by have := k1.nd; rw [blks_append] at this; exact (List.nodup_append.1 this).1
 imm b hb := ⟨(k1.imm b hb).1, fun hm => (k1.imm b hb).2 (by rw [blks_append]; exact List.mem_append.2 (.inl hm))⟩
 new b hb := .inl hb
 inew b hb := .inl hb
 sup b hb := hb
 os := rfl
 tape := rfl
 output := rfl
 size := Nat.le_refl _
 keep _ _ _ := rfl
 glob := k1.glob
theorem Sam.weak {c : Cx} {I : Nat → Prop} {w w' : World} (k1 : Ok c I (hT ++ h) w) (s : Sam (blks hT) w w') : SameW I h w w' where
 imm b hb := s.block b (k1.imm b hb).1 fun hm => (k1.imm b hb).2 (by rw [blks_append]; exact List.mem_append.2 (.inl hm))
 own b hb := s.block b (by
  obtain ⟨e, he, heb⟩ := List.mem_filterMap.1 hb
  exact Ent.blk_lt (k1.ent e (List.mem_append.2 (.inr he))) heb) fun hm => by
  have := k1.nd
  rw [blks_append] at this
  exact (List.nodup_append.1 this).2.2 b hm b hb rfl
theorem jh_take {o : Oper} {r : AV} (ho : ops[i]? = some o) (hc : mixOk ops listed n i = true) (hd : ∀ t, o.dst = some t → t < k.n)
 (hy : ∀ I a w, Ok k.c I (hT ++ h) w → SF k.n w I ρ a → ∃ v, AV.rel w I r v ∧ YieldsIf k.P ops (Sam (blks hT) w) o v a)
 (hj : JH k ops n f (listed.setIfInBounds i true) l2 (i + 1) m true Q hT (put ρ o.dst r) h) : JH k ops n (f + 1) listed l2 i (m + 1) pr Q hT ρ h := by
 refine ⟨fun hs inv I a w h1 h2 h3 => ?_⟩
 simp only [mixOk, Bool.and_eq_true, decide_eq_true_eq] at hc
 obtain ⟨⟨hr, hf⟩, hin⟩ := hc
 have hr' : i ∈ Region.ready .any ops listed := by simpa using hr
 obtain ⟨v, hv, hyv⟩ := hy I a w h1 h2
 exact headH_first ho (Region.noSelect_spec (hsel_of hs)) (hlow hs hin) hin (fun _ _ _ h => seqB_ready h.1) f listed a w inv (Region.free_spec ho hf) hr' hyv (Sam.refl _ _)
  (hj.get hs (inv.set hr' hin) I _ w h1 (h2.put hd hv) (by rw [Act.defers_put]; exact h3))
theorem jh_pure {r : AV} (ho : ops[i]? = some ⟨some d, op, ty, pos, after, none⟩) (hc : mixOk ops listed n i = true) (hp : Pure k.P k.c.G ⟨some d, op, ty, pos, after, none⟩ ρ h r) (hd : Nat.blt d k.n = true)
 (hj : JH k ops n f (listed.setIfInBounds i true) l2 (i + 1) m true Q hT ((d, r) :: ρ) h) : JH k ops n (f + 1) listed l2 i (m + 1) pr Q hT ρ h :=
 jh_take ho hc (fun t ht => by cases ht; exact blt hd) (fun I a w h1 h2 => by
  obtain ⟨v, hv, hrun⟩ := hp k.c I k.n a w rfl h1.right h2
  exact ⟨v, hv, .inl ⟨by simp [Region.wanted], fun w' hw' => hrun w' (hw'.weak h1)⟩⟩) hj
theorem jh_skip (hj : JH k ops n f listed l2 (i + 1) m pr Q hT ρ h) : JH k ops n f listed l2 i (m + 1) pr Q hT ρ h := ⟨hj.get⟩
theorem jh_wrap (hj : JH k ops n f listed l2 0 n false Q hT ρ h) : JH k ops n f listed l2 i 0 true Q hT ρ h := ⟨hj.get⟩
theorem jh_done (hc : Region.seqB .any ops (ops.size - n) n listed = true) (ha : App hT h h') (hj : JL k ops l2 Q ρ h') : JH k ops n 0 listed l2 i m pr Q hT ρ h :=
 ⟨fun _ _ I a w h1 h2 h3 => ⟨hc, hj I a w (by rw [ha.eq]; exact h1) h2 h3⟩⟩
theorem jh_end (hne : (Region.ready .any ops listed).isEmpty = false) (hs : (Region.ready .any ops listed).all (fun j => decide (j < n)) = true) (hj : JHS k ops n f listed l2 0 n Q hT ρ h) : JH k ops n (f + 1) listed l2 i 0 false Q hT ρ h := by
 refine ⟨fun hsh inv I a w h1 h2 h3 => ⟨fun e => by rw [e] at hne; simp at hne, fun j hjr => ?_⟩⟩
 have hjn : j < n := by simpa using List.all_eq_true.1 hs j hjr
 refine ⟨hjn, ?_⟩
 obtain ⟨o, ho, hJ⟩ := hj.get j (Nat.zero_le _) (by omega) hjr
 have H := hJ (w, I, blks hT) I a w h1.left h2 h3
 unfold wpOp
 rw [ho]
 dsimp only at H ⊢
 have hK : ∀ a' w', lift ⟨k.P, ⟨w, I, blks hT, k.c.G⟩, k.n, k.df⟩ (fun e ρ' hT' => e = .normal ∧ JH k ops n f (listed.setIfInBounds j true) l2 0 n false Q hT' ρ' h) .normal a' w' →
  Sam (blks hT) w w' ∧ headH k.P .any ops (Sam (blks hT) w) n (fun listed' a' w' => Region.seqB .any ops (ops.size - n) n listed' = true ∧ wpList k.P ops (lift k Q) l2 a' w') f (listed.setIfInBounds j true) a' w' := by
  rintro a' w' ⟨I', ρ', hT', q1, q2, q3, _, q4⟩
  obtain ⟨k1, _⟩ := Ok.call (hc := hT) (hr := h) h1 q1
  have hsm : Sam (blks hT) w w' := ⟨q1.os, q1.tape, q1.output, q1.size, fun b hb hE => q1.keep b hb hE⟩
  refine ⟨hsm, headH_mono (S := Sam (blks hT') w') (fun u hu => ?_) _ _ _ _ (q4.get hsh (inv.set hjr hjn) I' a' w' k1 q2 q3)⟩
  refine ⟨hu.os.trans hsm.os, hu.tape.trans hsm.tape, hu.output.trans hsm.output, Nat.le_trans hsm.size hu.size, fun b hb hE => (hu.block b (Nat.lt_of_lt_of_le hb hsm.size) fun hm => ?_).trans (hsm.block b hb hE)⟩
  rcases q1.new b hm with hx | hx
  · exact hE hx
  · exact absurd hb (Nat.not_lt.2 hx)
 have hQ : ∀ e a' w', e ≠ .normal → ¬ lift ⟨k.P, ⟨w, I, blks hT, k.c.G⟩, k.n, k.df⟩ (fun e ρ' hT' => e = .normal ∧ JH k ops n f (listed.setIfInBounds j true) l2 0 n false Q hT' ρ' h) e a' w' := by
  rintro e a' w' he ⟨_, _, _, _, _, _, q, _⟩
  exact he q
 rw [wpList] at H
 by_cases hw : Region.wanted o (yielded ops a.tmps) = true
 · rw [if_pos hw] at H ⊢
   rcases H with H | ⟨_, a', w', H⟩
   · exact .inl (oper_wp_to hK hQ H)
   · exact absurd H (hQ _ _ _ (by simp))
 · rw [if_neg hw] at H ⊢
   exact hK _ _ H
theorem jhs_nil (_ht : True) : JHS k ops n f listed l2 i 0 Q hT ρ h := ⟨fun j h1 h2 => by omega⟩
theorem jhs_no (hc : (Region.ready .any ops listed).contains i = false) (hj : JHS k ops n f listed l2 (i + 1) m Q hT ρ h) : JHS k ops n f listed l2 i (m + 1) Q hT ρ h :=
 ⟨fun j h1 h2 hr => by
  by_cases e : j = i
  · subst e
    have : (Region.ready .any ops listed).contains j = true := by simpa using hr
    rw [this] at hc; cases hc
  · exact hj.get j (by omega) (by omega) hr⟩
structure AllC (p : World × (Nat → Prop) × List Nat → Prop) : Prop where
 get : ∀ c, p c
theorem allc {p : World × (Nat → Prop) × List Nat → Prop} (h : ∀ c, p c) : AllC p := ⟨h⟩
theorem jhs_yes {dst : Option Tmp} {g : Option (Nat × Bool)} (ho : ops[i]? = some ⟨dst, op, ty, pos, after, g⟩)
 (hj : Two (AllC fun c => JL ⟨k.P, ⟨c.1, c.2.1, c.2.2, k.c.G⟩, k.n, k.df⟩ ops [⟨dst, op, ty, pos, after, g⟩] (fun e ρ' hT' => e = .normal ∧ JH k ops n f (listed.setIfInBounds i true) l2 0 n false Q hT' ρ' h) ρ hT) (JHS k ops n f listed l2 (i + 1) m Q hT ρ h)) : JHS k ops n f listed l2 i (m + 1) Q hT ρ h :=
 ⟨fun j h1 h2 hr => by
  by_cases e : j = i
  · subst e
    exact ⟨_, ho, hj.fst.get⟩
  · exact hj.snd.get j (by omega) (by omega) hr⟩
theorem jh_nil {k' : Kx} (hj : JH k ops n f listed l2 i m pr Q hT ρ h) : JL k' ops [] (fun e ρ' hT' => e = .normal ∧ JH k ops n f listed l2 i m pr Q hT' ρ' h) ρ hT := JL_nil ⟨rfl, hj⟩

def effB : Op → Bool
 | .makeSlice _ _ _ => true
 | .alloc _ => true
 | .box _ _ => true
 | .buildSlice _ _ _ => true
 | .call c => (match c.callee with
   | .value _ => true
   | .builtin .append => true
   | _ => false)
 | _ => false
theorem J_cutT {X : Type} {x : Code} {N : Env → H → Prop} (S : X → Env) (G : X → H) (hx : J k x (fun e ρ' h' => e = .normal ∧ ∃ y, VS ρ' h' (S y) (G y)) ρ h) (hq : ∀ y, N (S y) (G y)) : J k x (thenQ N Q) ρ h :=
 J_cutV S G hx fun y => tq_normal (hq y)

inductive Hd : List Oper → Nat → List Oper → Prop where
 | nil {l : List Oper} : Hd l 0 l
 | cons {d : Option Tmp} {op : Op} {ty : TypeId} {pos : String} {after : Array Edge} {g : Option (Nat × Bool)} {l l2 : List Oper} {n : Nat} (hb : storeB op = false) (h : Hd l n l2) : Hd (⟨d, op, ty, pos, after, g⟩ :: l) (n + 1) l2
theorem Hd.drop {l l2 : List Oper} {n : Nat} (h : Hd l n l2) : l.drop n = l2 ∧ n ≤ l.length := by
 induction h with
 | nil => exact ⟨rfl, Nat.zero_le _⟩
 | cons _ h ih => exact ⟨by simpa using ih.1, by simp; omega⟩
theorem J_region_HB {id t : Nat} {l l2 : List Oper} {P : Program} (hT : H) (hm : P.follows .mixedOrders = true) (hP : k.P = P) (hx : Hd l n l2) (hn : l.length = t) (hs : hShape l.toArray n = true) (ht : Take h hT h')
 (hj : JH k l.toArray n n (Array.replicate t false) l2 0 n false Q hT ρ h') : J k (.region id l.toArray true) Q ρ h := by
 refine J_vs (VS.perm ht.perm) ?_
 subst hP
 subst hn
 intro I a w h1 h2 h3
 obtain ⟨hd, hle⟩ := hx.drop
 refine wp_region_any hm ?_
 have hsm : Same I (hT ++ h') w { w with drawn := w.drawn + 1 } := ⟨rfl, rfl, rfl, Nat.le_refl _, fun _ _ => rfl⟩
 have inv0 : HeadInv .any l.toArray n (Array.replicate l.length false) :=
  ⟨by simp, fun j oj _ hl => (by rw [getD_replicate_false] at hl; cases hl), fun t _ ht => getD_in (by simpa using ht) (getD_replicate_false _ _)⟩
 have H := hj.get hs inv0 I a _ (h1.same hsm) (SF.same h1 hsm h2) h3
 have K := any_of_headH (Q := lift k Q) (g := l.length - n) (fun listed' a' w' hL => by
  have := wpAny_of_seq (md := .any) (Q' := lift k Q) l2 n listed' a' w' (fun j => by rw [← hd]; simp [List.getElem?_drop]) (by
   have e : l2.length = l.toArray.size - n := by rw [← hd]; simp
   rw [e]; exact hL.1) hL.2
  have e : l2.length = l.length - n := by rw [← hd]; simp
  rwa [e] at this) _ _ _ _ H
 rw [show n + (l.length - n) = l.toArray.size by simp; omega] at K
 simpa using K
theorem J_region_HA {id t : Nat} {l l2 : List Oper} {P : Program} (hm : P.follows .mixedOrders = true) (hP : k.P = P) (hx : Hd l n l2) (hn : l.length = t) (hs : hShape l.toArray n = true)
 (hj : JH k l.toArray n n (Array.replicate t false) l2 0 n false Q [] ρ h) : J k (.region id l.toArray true) Q ρ h := J_region_HB [] hm hP hx hn hs .nil hj
end

section
variable {ρ : Env} {h h' : H} {α : Type} {f : α → List D} {E : TypeId} {sz : Nat} {qs : List Sl} {ls : List (List α)}
theorem Cvs.refl (v : Value) (d : D) : ∀ xs : List AV, Cvs v d xs xs
 | [] => .nil
 | x :: xs => .cons (.same x) (Cvs.refl v d xs)
theorem Cvs.mid (v : Value) (d : D) (r : List AV) : ∀ xs : List AV, Cvs v d (xs ++ .val v :: r) (xs ++ .d d :: r)
 | [] => .cons .here (Cvs.refl v d r)
 | x :: xs => .cons (.same x) (Cvs.mid v d r xs)
end
open Go Go.Instr

def mapEs : List (Value × Value) → Nat → List MapEntry
 | [], _ => []
 | p :: ps, i => ⟨p.1, p.2, i⟩ :: mapEs ps (i + 1)
def mapO (ps : List (Value × Value)) : Obj := .map (mapEs ps 0).toArray ps.length
theorem mapEs_append : ∀ (ps qs : List (Value × Value)) (i : Nat), mapEs (ps ++ qs) i = mapEs ps i ++ mapEs qs (i + ps.length)
 | [], qs, i => by simp [mapEs]
 | p :: ps, qs, i => by
   simp only [List.cons_append, mapEs, mapEs_append ps qs (i + 1), List.length_cons]
   rw [show i + 1 + ps.length = i + (ps.length + 1) by omega]
structure KeyK (kd : TypeDesc) {α : Type} (kv : α → Value) [DecidableEq α] : Prop where
 same : ∀ a b, sameNow kd (kv a) (kv b) = some (decide (a = b))
 easy : ∀ (P : Program) (T : TypeId) (e : Bool) (a : α) (w : World), P.underlying T = some kd → (checkKey e 10000 T (kv a)).run P w = .ok () w
theorem keyK_int (k : IntKind) : KeyK (.int k) (Value.int k) where
 same a b := by
  simp only [sameNow, if_pos trivial]
  exact congrArg some (Bool.eq_iff_iff.2 (by simp))
 easy P T e a w h := by
  unfold checkKey
  simp [run_underlying h]
theorem ba_beq (a b : ByteArray) : (a == b) = true ↔ a = b := by
 cases a; cases b
 rw [ByteArray.mk.injEq]
 show (_ == _) = true ↔ _
 simp only [BEq.beq]
 unfold ByteArray.beq
 simp
theorem keyK_string : KeyK .string Value.string where
 same a b := by
  simp only [sameNow]
  exact congrArg some (Bool.eq_iff_iff.2 (by rw [ba_beq]; simp))
 easy P T e a w h := by
  unfold checkKey
  simp [run_underlying h]
section
variable {α β : Type} [DecidableEq α] {kd : TypeDesc} {kv : α → Value} {vv : β → Value}
def entL (kv : α → Value) (vv : β → Value) (ps : List (α × β)) : List (Value × Value) := ps.map fun p => (kv p.1, vv p.2)
theorem find_no (K : KeyK kd kv) (a : α) : ∀ (ps : List (α × β)) (i j : Nat), (∀ p ∈ ps, p.1 ≠ a) → findNow kd (kv a) (mapEs (entL kv vv ps) i) j = some none
 | [], _, _, _ => rfl
 | p :: ps, i, j, h => by
   have h1 : a ≠ p.1 := fun e => h p List.mem_cons_self e.symm
   simp only [entL, List.map_cons, mapEs, findNow, K.same, decide_eq_false h1]
   exact find_no K a ps (i + 1) (j + 1) fun q hq => h q (List.mem_cons_of_mem _ hq)
theorem find_yes (K : KeyK kd kv) (a : α) (b : β) : ∀ (ps qs : List (α × β)) (i j : Nat), (∀ p ∈ ps, p.1 ≠ a) → findNow kd (kv a) (mapEs (entL kv vv (ps ++ (a, b) :: qs)) i) j = some (some (j + ps.length, vv b))
 | [], qs, i, j, _ => by simp [entL, mapEs, findNow, K.same]
 | p :: ps, qs, i, j, h => by
   have h1 : a ≠ p.1 := fun e => h p List.mem_cons_self e.symm
   have ih := find_yes K a b ps qs (i + 1) (j + 1) fun q hq => h q (List.mem_cons_of_mem _ hq)
   simp only [entL] at ih
   simp only [entL, List.cons_append, List.map_cons, mapEs, findNow, K.same, decide_eq_false h1, ih, List.length_cons]
   rw [show j + 1 + ps.length = j + (ps.length + 1) by omega]
def getM (ps : List (α × β)) (a : α) : Option β := (ps.find? fun p => p.1 == a).map (·.2)
theorem getM_no {ps : List (α × β)} {a : α} (h : ∀ p ∈ ps, p.1 ≠ a) : getM ps a = none := by
 simp only [getM, Option.map_eq_none_iff, List.find?_eq_none]
 intro p hp
 simpa using h p hp
theorem getM_split {ps : List (α × β)} {a : α} (h : ¬ ∀ p ∈ ps, p.1 ≠ a) : ∃ b l r, ps = l ++ (a, b) :: r ∧ (∀ p ∈ l, p.1 ≠ a) ∧ getM ps a = some b := by
 induction ps with
 | nil => exact absurd (by simp) h
 | cons p ps ih =>
   by_cases e : p.1 = a
   · refine ⟨p.2, [], ps, by rw [← e]; rfl, by simp, ?_⟩
     simp [getM, e]
   · obtain ⟨b, l, r, h1, h2, h3⟩ := ih fun k => h fun q hq => by
      rcases List.mem_cons.1 hq with rfl | hq
      · exact e
      · exact k q hq
     refine ⟨b, p :: l, r, by rw [h1]; rfl, fun q hq => ?_, ?_⟩
     · rcases List.mem_cons.1 hq with rfl | hq
       · exact e
       · exact h2 q hq
     · rw [← h3]
       have e' : (p.1 == a) = false := by simpa using e
       simp [getM, List.find?_cons, e']
theorem getM_none {ps : List (α × β)} {a : α} : getM ps a = none ↔ ∀ p ∈ ps, p.1 ≠ a := by
 constructor
 · intro h
   by_cases k : ∀ p ∈ ps, p.1 ≠ a
   · exact k
   · obtain ⟨b, l, r, _, _, h3⟩ := getM_split k
     rw [h] at h3; cases h3
 · exact getM_no
theorem run_find (K : KeyK kd kv) {P : Program} {T : TypeId} (hT : P.underlying T = some kd) (ps : List (α × β)) (a : α) (w : World) :
 ∃ r : Option (Nat × Value), (findKey T (kv a) (mapEs (entL kv vv ps) 0)).run P w = .ok r w ∧ r.map (·.2) = (getM ps a).map vv := by
 by_cases h : ∀ p ∈ ps, p.1 ≠ a
 · refine ⟨none, ?_, by rw [getM_no h]; rfl⟩
   simp [findKey, run_underlying hT, find_no K a ps 0 0 h]
 · obtain ⟨b, l, r, e, h2, h3⟩ := getM_split h
   refine ⟨some (0 + l.length, vv b), ?_, by rw [h3]; rfl⟩
   subst e
   simp [findKey, run_underlying hT, find_yes K a b l r 0 0 h2]
end
section
variable {k : Kx} {Q : Exit → Env → H → Prop} {ρ ρ' : Env} {h h' : H} {ops : Array Oper} {l : List Oper} {d : Nat} {dst : Option Tmp} {ty : TypeId} {pos : String} {after : Array Edge} {g : Option (Nat × Bool)}
theorem jmkmap {T : TypeId} (hd : Nat.blt d k.n = true) (hj : All fun b : Nat => JL k ops l Q ((d, .val (.map (some b))) :: ρ) (.raw b (mapO []) :: h)) : JL k ops (⟨some d, .makeMap T none, ty, pos, after, none⟩ :: l) Q ρ h := by
 refine JL_eff rfl (fun t ht => by cases ht; exact blt hd) fun I ac w h1 h2 => ?_
 refine ⟨.map (some w.heap.size), w.alloc (.map #[] 0), I, .val (.map (some w.heap.size)), _, ?_, h1.fresh _ (.raw w.heap.size (mapO [])) rfl (heap_alloc_new w _), h2.fresh h1 _, rfl, hj.get w.heap.size⟩
 have hm : (makeMap T none).run k.P w = .ok (.map (some w.heap.size)) (w.alloc (.map #[] 0)) := rfl
 simp [execOp, hm]
theorem run_setM {P : Program} {w : World} {r : Nat} {es : Array MapEntry} {clock : Nat} (o : Obj) (hb : w.heap[r]? = some (.map es clock)) : (setObj r o).run P w = .ok () { w with heap := w.heap.setIfInBounds r o } := by
 simp [setObj, Sem.run, hb]
theorem js_putMr {α β : Type} [DecidableEq α] {kd : TypeDesc} {kv : α → Value} {vv : β → Value} (K : KeyK kd kv) {T KT ET : TypeId} {x y u : Operand} {r : AV} {b : Nat} {ps : List (α × β)} {a : α} {c : β}
 (hx : evO ρ x = some (.val (.map (some b)))) (hy : evO ρ y = some (.val (kv a))) (hv : evO ρ u = some r) (hr : ∀ w I v, AV.rel w I r v → v = vv c) (hT : k.P.underlying T = some (.map KT ET)) (hK : k.P.underlying KT = some kd)
 (hu : Upd (.raw b (mapO (entL kv vv ps))) (.raw b (mapO (entL kv vv (ps ++ [(a, c)])))) h h') (hno : getM ps a = none)
 (hj : JL k ops l Q ρ h') : JL k ops (⟨none, .mapUpdate T x y u, ty, pos, after, none⟩ :: l) Q ρ h := by
 obtain ⟨h1, h2, rfl, rfl⟩ := hu.split
 refine JL_eff_skip rfl rfl fun I ac w k1 k2 => ?_
 have e1 := rel_val (k2.ev x) (ev_of_evO hx)
 have e2 := rel_val (k2.ev y) (ev_of_evO hy)
 have e3 := hr _ _ _ (rel_as (k2.ev u) (ev_of_evO hv))
 have hb : w.heap[b]? = some (mapO (entL kv vv ps)) := k1.ent (.raw b (mapO (entL kv vv ps))) (by simp)
 have hfind := find_no (vv := vv) K a ps 0 0 (getM_none.1 hno)
 have hnew : Obj.map (mapEs (entL kv vv ps) 0 ++ [(⟨kv a, vv c, (entL kv vv ps).length⟩ : MapEntry)]).toArray ((entL kv vv ps).length + 1) = mapO (entL kv vv (ps ++ [(a, c)])) := by
  have e : entL kv vv (ps ++ [(a, c)]) = entL kv vv ps ++ [(kv a, vv c)] := by simp [entL]
  unfold mapO
  rw [e, mapEs_append]
  simp [mapEs]
 obtain ⟨g1, g2⟩ := k1.write (w' := { w with heap := w.heap.setIfInBounds b (mapO (entL kv vv (ps ++ [(a, c)]))) }) (e' := .raw b (mapO (entL kv vv (ps ++ [(a, c)])))) (b := b) rfl rfl rfl rfl rfl (by simp)
  (fun x hx => by simp [Array.getElem?_setIfInBounds, Ne.symm hx]) (by
   have hlt := (Array.getElem?_eq_some_iff.1 hb).1
   show _ = _
   simp [Array.getElem?_setIfInBounds, hlt])
 refine ⟨{ w with heap := w.heap.setIfInBounds b (mapO (entL kv vv (ps ++ [(a, c)]))) }, I, h1 ++ .raw b (mapO (entL kv vv (ps ++ [(a, c)]))) :: h2, ?_, g1, k2.mono g2 (fun _ h => h), hj⟩
 have hobj : (getObj b).run k.P w = .ok (.map (mapEs (entL kv vv ps) 0).toArray (entL kv vv ps).length) w := by simp [getObj, Sem.run, hb, mapO]
 have hset := run_setM (P := k.P) (w := w) (r := b) (mapO (entL kv vv (ps ++ [(a, c)]))) (es := (mapEs (entL kv vv ps) 0).toArray) (clock := (entL kv vv ps).length) hb
 simp only [execOp, e1, e2, e3, mapUpdate]
 simp [run_underlying hT, hobj, K.easy k.P KT false a w hK, findKey, run_underlying hK, hfind, hnew, hset]
end
section
variable {P : Program} {G : List (Nat × List D)} {ρ : Env} {h : H} {dst : Option Tmp} {ty : TypeId} {pos : String} {after : Array Edge} {g : Option (Nat × Bool)}
theorem pu_lookM {α β : Type} [DecidableEq α] {kd : TypeDesc} {kv : α → Value} {vv : β → Value} (K : KeyK kd kv) {T KT ET : TypeId} {x y : Operand} {b : Nat} {ps : List (α × β)} {a : α} {z : Value} {sz eb : Nat}
 (hx : evO ρ x = some (.val (.map (some b)))) (hy : evO ρ y = some (.val (kv a))) (hT : P.underlying T = some (.map KT ET)) (hK : P.underlying KT = some kd) (hE : El P ET z sz eb) (hm : Ent.raw b (mapO (entL kv vv ps)) ∈ h) :
 Pure P G ⟨dst, .lookup T x y true, ty, pos, after, g⟩ ρ h (.tup [.val (((getM ps a).map vv).getD z), .bool (getM ps a).isSome]) := by
 intro c I n ac w _ hok hs
 obtain ⟨i, hi, hz, _, _⟩ := hE.get
 have e1 := rel_val (hs.ev x) (ev_of_evO hx)
 have e2 := rel_val (hs.ev y) (ev_of_evO hy)
 have hb : w.heap[b]? = some (mapO (entL kv vv ps)) := hok.ent _ hm
 refine ⟨.tuple #[((getM ps a).map vv).getD z, .bool (getM ps a).isSome], ⟨[_, _], rfl, rfl, rfl, trivial⟩, fun w' hw' => ?_⟩
 have hb' : w'.heap[b]? = some (mapO (entL kv vv ps)) := (hw'.own b (mem_blks hm rfl)).trans hb
 have hobj : (getObj b).run P w' = .ok (.map (mapEs (entL kv vv ps) 0).toArray (entL kv vv ps).length) w' := by simp [getObj, Sem.run, hb', mapO]
 obtain ⟨r, hr1, hr2⟩ := run_find (vv := vv) K hK ps a w'
 simp only [execOp, e1, e2, lookup]
 cases r with
 | none =>
   have hr3 : (getM ps a).map vv = none := hr2.symm
   have hr4 : getM ps a = none := by simpa using hr3
   simp [run_underlying hT, hobj, K.easy P KT _ a w' hK, hr1, hr4, zeroValue, typeInfo, hi, hz]
 | some r =>
   obtain ⟨j, v⟩ := r
   have hr3 : (getM ps a).map vv = some v := hr2.symm
   obtain ⟨bb, hb1, hb2⟩ := Option.map_eq_some_iff.1 hr3
   simp [run_underlying hT, hobj, K.easy P KT _ a w' hK, hr1, hb1, hb2]
end
def setO {α : Type} (kv : α → Value) (xs : List α) : Obj := mapO (entL kv (fun _ : Unit => .agg #[]) (xs.map fun x => (x, ())))
theorem getM_set {α : Type} [DecidableEq α] (xs : List α) (a : α) : (getM (xs.map fun x => (x, ())) a).isSome = decide (a ∈ xs) := by
 by_cases h : a ∈ xs
 · rw [decide_eq_true h]
   cases hg : getM (xs.map fun x => (x, ())) a with
   | none => exact absurd rfl (getM_none.1 hg (a, ()) (List.mem_map.2 ⟨a, h, rfl⟩))
   | some _ => rfl
 · rw [decide_eq_false h, getM_no]
   · rfl
   · intro p hp
     obtain ⟨x, hx, rfl⟩ := List.mem_map.1 hp
     exact fun e => h (by subst e; exact hx)
section
variable {k : Kx} {Q : Exit → Env → H → Prop} {ρ ρ' : Env} {h h' : H} {ops : Array Oper} {l : List Oper} {d : Nat} {dst : Option Tmp} {ty : TypeId} {pos : String} {after : Array Edge} {g : Option (Nat × Bool)}
theorem jmkset {α : Type} (kv : α → Value) {T : TypeId} (hd : Nat.blt d k.n = true) (hj : All fun b : Nat => JL k ops l Q ((d, .val (.map (some b))) :: ρ) (.raw b (setO kv []) :: h)) : JL k ops (⟨some d, .makeMap T none, ty, pos, after, none⟩ :: l) Q ρ h := jmkmap hd hj
theorem js_putS {α : Type} [DecidableEq α] {kd : TypeDesc} {kv : α → Value} (K : KeyK kd kv) {T KT ET : TypeId} {x y u : Operand} {b : Nat} {xs : List α} {a : α}
 (hx : evO ρ x = some (.val (.map (some b)))) (hy : evO ρ y = some (.val (kv a))) (hv : evO ρ u = some (.agg [])) (hT : k.P.underlying T = some (.map KT ET)) (hK : k.P.underlying KT = some kd)
 (hu : Upd (.raw b (setO kv xs)) (.raw b (setO kv (xs ++ [a]))) h h') (hno : a ∉ xs)
 (hj : JL k ops l Q ρ h') : JL k ops (⟨none, .mapUpdate T x y u, ty, pos, after, none⟩ :: l) Q ρ h := by
 have hno' : getM (xs.map fun x => (x, ())) a = none := getM_no fun p hp => by
  obtain ⟨x, hx, rfl⟩ := List.mem_map.1 hp
  exact fun e => hno (by subst e; exact hx)
 have hu' : Upd (.raw b (mapO (entL kv (fun _ : Unit => .agg #[]) (xs.map fun x => (x, ()))))) (.raw b (mapO (entL kv (fun _ : Unit => .agg #[]) (xs.map (fun x => (x, ())) ++ [(a, ())])))) h h' := by
  have := hu
  unfold setO at this
  rwa [List.map_append] at this
 exact js_putMr K (c := ()) hx hy hv (fun w I v hr => by
  obtain ⟨vs, e1, e2⟩ := hr
  cases vs with
  | nil => exact e1
  | cons _ _ => exact e2.elim) hT hK hu' hno' hj
end
section
variable {P : Program} {G : List (Nat × List D)} {ρ : Env} {h : H} {dst : Option Tmp} {ty : TypeId} {pos : String} {after : Array Edge} {g : Option (Nat × Bool)}
theorem pu_lookS {α : Type} [DecidableEq α] {kd : TypeDesc} {kv : α → Value} (K : KeyK kd kv) {T KT ET : TypeId} {x y : Operand} {b : Nat} {xs : List α} {a : α} {eb : Nat}
 (hx : evO ρ x = some (.val (.map (some b)))) (hy : evO ρ y = some (.val (kv a))) (hT : P.underlying T = some (.map KT ET)) (hK : P.underlying KT = some kd) (hE : El P ET (.agg #[]) 0 eb) (hm : Ent.raw b (setO kv xs) ∈ h) :
 Pure P G ⟨dst, .lookup T x y true, ty, pos, after, g⟩ ρ h (.tup [.agg [], .bool (decide (a ∈ xs))]) := by
 intro c I n ac w e1 e2 e3
 obtain ⟨v, hv, hrun⟩ := pu_lookM (P := P) (G := G) (ρ := ρ) (h := h) (dst := dst) (ty := ty) (pos := pos) (after := after) (g := g) (vv := fun _ : Unit => .agg #[]) K hx hy hT hK hE hm c I n ac w e1 e2 e3
 refine ⟨v, ?_, hrun⟩
 obtain ⟨vs, h1, h2⟩ := hv
 refine ⟨vs, h1, ?_⟩
 match vs, h2 with
 | [p, q], ⟨g1, g2, g3⟩ =>
   refine ⟨⟨[], ?_, trivial⟩, ?_, g3⟩
   · rw [show p = _ from g1]
     cases getM (xs.map fun x => (x, ())) a <;> rfl
   · rw [getM_set] at g2; exact g2
end
section
variable {k : Kx} {Q : Exit → Env → H → Prop} {ρ ρ' : Env} {h h' : H} {ops : Array Oper} {l : List Oper} {d : Nat} {ty : TypeId} {pos : String} {after : Array Edge}
theorem jstrbytes {S T E : TypeId} {x : Operand} {s : ByteArray} (hx : evO ρ x = some (.val (.string s))) (hS : k.P.underlying S = some .string) (hT : k.P.underlying T = some (.slice E)) (hE : k.P.underlying E = some (.int .u8)) (hb : s.data.toList.length ≤ 140737488355328) (hd : Nat.blt d k.n = true)
 (hj : JL k ops l Q ((d, .d (bytesD s.data.toList)) :: ρ) h) : JL k ops (⟨some d, .convert S T x, ty, pos, after, none⟩ :: l) Q ρ h := by
 refine JL_eff rfl (fun t ht => by cases ht; exact blt hd) fun I ac w h1 h2 => ?_
 have e1 := rel_val (h2.ev x) (ev_of_evO hx)
 have hrun := run_bytes_of_string (P := k.P) w S T E s hS hT hE
 have hge := grownCap_ge w s.size 0 E
 have hsz : s.size = s.data.toList.length := by rw [Array.length_toList]; rfl
 have hle := grownCap_le_maxLen w s.size 0 E (by unfold maxLen; omega)
 have hs : Same I h w w.drew := ⟨rfl, rfl, rfl, Nat.le_refl _, fun _ _ => rfl⟩
 have k1 := h1.same hs
 have k2 := SF.same h1 hs h2
 generalize grownCap w s.size 0 E = cap at hrun hge hle
 generalize ho : Obj.cells (bytesRow s cap) E ((bytesRow s cap).size, (bytesRow s cap).size + 1) = o at hrun
 have hok := Ok.release (h1 := []) (b := w.drew.heap.size) (k1.fresh o (.raw w.drew.heap.size o) rfl (heap_alloc_new w.drew o)) rfl
 have hmono : ∀ b, I b → (w.drew.alloc o).heap[b]? = w.drew.heap[b]? := fun b hb => Go.RowKit.Below.heap_alloc w.drew _ b (k1.imm b hb).1
 have hblk : (w.drew.alloc o).heap[w.drew.heap.size]? = some (.cells (bytesRow s cap) E ((bytesRow s cap).size, (bytesRow s cap).size + 1)) := by rw [ho]; exact heap_alloc_new w.drew o
 refine ⟨.slice (some ⟨w.drew.heap.size, 0, none⟩) s.size cap, w.drew.alloc o, _, .d (bytesD s.data.toList), _, ?_, hok, k2.mono hmono (fun _ h => .inl h), ?_, hj⟩
 · have hrun' : (convert S T (.string s)).run k.P w = .ok (.slice (some ⟨w.drew.heap.size, 0, none⟩) s.size cap) (w.drew.alloc o) := hrun
   simp [execOp, e1, hrun']
 · have hlen : (s.data.toList.map byteC).length = s.size := by rw [List.length_map, hsz]
   have := Rel.l (w := w.drew.alloc o) (I := fun x => I x ∨ x = w.drew.heap.size) 1 1 (s.data.toList.map byteC) ⟨w.drew.heap.size, 0, none⟩ cap (fun j _ => .int .u8 ((s.data.toList[j]?.getD 0).toNat : Int)) (.inr rfl) (by rw [hlen]; omega) hle (by rw [hlen]; omega)
    (fun r hr => by obtain ⟨a, _, rfl⟩ := List.mem_map.1 hr; rfl) (fun j u r x hr hx => ?_) (fun j u r x hr hx => ?_)
   · rw [hlen] at this
     exact this
   · rw [List.getElem?_map] at hr
     obtain ⟨b, hb1, rfl⟩ := Option.map_eq_some_iff.1 hr
     have hu : u = 0 := by
      have := (List.getElem?_eq_some_iff.1 hx).1
      simp [byteC] at this
      exact this
     subst hu
     have hjl : j < s.data.size := by
      have := (List.getElem?_eq_some_iff.1 hb1).1
      simpa using this
     rw [Addr.add_lit, cell_of_row (w.drew.alloc o) _ _ _ _ _ hblk, hb1]
     simp only [Nat.zero_add, Nat.mul_one, Nat.add_zero, Option.getD_some]
     rw [Array.getElem?_toList] at hb1
     have hjl' : j < s.size := hjl
     have hbb : s.data[j] = b := (Array.getElem?_eq_some_iff.1 hb1).2
     simp [bytesRow, Array.getElem?_append, hjl', hb1, hbb]
   · rw [List.getElem?_map] at hr
     obtain ⟨b, hb1, rfl⟩ := Option.map_eq_some_iff.1 hr
     have hu : u = 0 := by
      have := (List.getElem?_eq_some_iff.1 hx).1
      simp [byteC] at this
      exact this
     subst hu
     simp only [byteC, List.getElem?_cons_zero, Option.some.injEq] at hx
     subst hx
     simp only [hb1, Option.getD_some]
     exact .i _ _
end
section
variable {P : Program} {G : List (Nat × List D)} {ρ : Env} {h : H} {dst : Option Tmp} {ty : TypeId} {pos : String} {after : Array Edge} {g : Option (Nat × Bool)}
theorem pu_len_str {T : TypeId} {x : Operand} {s : ByteArray} (hx : evO ρ x = some (.val (.string s))) (hT : P.underlying T = some .string) : Pure P G ⟨dst, .call { callee := .builtin .len, args := #[x], argTypes := #[T] }, ty, pos, after, g⟩ ρ h (.int (s.data.toList.length : Nat)) := by
 have := pure_len_string (P := P) (G := G) (h := h) (dst := dst) (ty := ty) (pos := pos) (after := after) (g := g) hT (ev_of_evO hx)
 rwa [show s.size = s.data.toList.length by rw [Array.length_toList]; rfl] at this
theorem pu_at_str {T : TypeId} {x y : Operand} {s : ByteArray} {n : Nat} (hx : evO ρ x = some (.val (.string s))) (hy : evO ρ y = some (.int (n : Int))) (hT : P.underlying T = some .string) (hn : n < s.data.toList.length) : Pure P G ⟨dst, .index T x y, ty, pos, after, g⟩ ρ h (AV.byte s.data.toList[n]) :=
 pure_free fun w I _ a hs => ⟨_, rfl, fun w' => by
  have e1 := rel_val (hs.ev x) (ev_of_evO hx)
  have e2 := rel_val (hs.ev y) (ev_of_evO hy)
  have hn' : n < s.size := by rw [show s.size = s.data.toList.length by rw [Array.length_toList]; rfl]; exact hn
  have e3 : s[n]? = some s.data.toList[n] := by
   rw [getElem?_pos s n hn']
   rfl
  simp [execOp, e1, e2, index, asIntOf, run_underlying hT, e3]⟩
end
section
variable {P : Program} {G : List (Nat × List D)} {ρ : Env} {h : H} {dst : Option Tmp} {ty : TypeId} {pos : String} {after : Array Edge} {g : Option (Nat × Bool)}
theorem pu_cat {T T' : TypeId} {x y : Operand} {s t : ByteArray} (hx : evO ρ x = some (.val (.string s))) (hy : evO ρ y = some (.val (.string t))) (hb : s.size + t.size ≤ 9223372036854775807) : Pure P G ⟨dst, .binOp .add T x y T', ty, pos, after, g⟩ ρ h (.val (.string (s ++ t))) :=
 pure_bin (ev_of_evO hx) (ev_of_evO hy) (fun _ => rfl) fun w => by
  have hn : ¬ (IntKind.i64.max < ((s.size : Int) + (t.size : Int))) := by
   have : IntKind.i64.max = 9223372036854775807 := rfl
   omega
  simp [binOp, Op.stringOp, hn]
  have : IntKind.i64.max = 9223372036854775807 := rfl
  omega
theorem pu_sdata {α : Type} {f : α → List D} {xs : List α} {ts : Array TypeId} {E : TypeId} {x : Operand} {sz : Nat} {q : Sl} (hx : evO ρ x = some (.val q.v)) (hm : rowE q.v E sz f xs ∈ h) (h0 : 0 < xs.length) : Pure P G ⟨dst, .call { callee := .builtin .unsafeSliceData, args := #[x], argTypes := ts }, ty, pos, after, g⟩ ρ h (.val (.pointer (some (q.at 0)))) := by
 intro c I m a w _ k s
 have e1 := rel_val (s.ev x) (ev_of_evO hx)
 obtain ⟨us, ho, _⟩ := k.ent _ hm
 refine ⟨_, rfl, fun w' _ => ?_⟩
 obtain ⟨ad, n, cap⟩ := q
 rcases ho.2 with ⟨hv, hn⟩ | ⟨gg, cap', cur, hv, _, _, hnc, _⟩
 · omega
 · simp only [Value.slice.injEq] at hv
   obtain ⟨rfl, rfl, rfl⟩ := hv
   have hr := Lib.run_unsafeSliceData_row (P := P) (w := w') ts ty ⟨gg, 0, none⟩ xs.length cap (by omega)
   simp [execOp, resolve, invoke, builtin, e1, hr, Sl.at]
end
section
variable {k : Kx} {Q : Exit → Env → H → Prop} {ρ : Env} {h : H} {ops : Array Oper} {l : List Oper} {d : Nat} {ty : TypeId} {pos : String} {after : Array Edge}
theorem byteC_flat (l : List UInt8) : ((l.map byteC).flatten.map D.av) = l.map fun b => AV.val (.int .u8 b.toNat) := by
 induction l with
 | nil => rfl
 | cons b l ih => rw [List.map_cons, List.flatten_cons, List.map_append, ih]; rfl
theorem rels_bytes (w : World) (I : Nat → Prop) : ∀ l : List UInt8, AV.rels w I (l.map fun b => AV.val (.int .u8 b.toNat)) (l.map fun b => Value.int .u8 b.toNat)
 | [] => trivial
 | _ :: l => ⟨rfl, rels_bytes w I l⟩
theorem jappS {xs : List UInt8} {T U E : TypeId} {x y : Operand} {s : ByteArray} {v : Value} {H' : Sl → H} (hx : evO ρ x = some (.val v)) (hT : k.P.underlying T = some (.slice E)) (hU : k.P.underlying U = some .string) (he : El k.P E (.int .u8 0) 1 1)
 (hu : ∀ q : Sl, Upd (rowE v E 1 byteC xs) (rowE q.v E 1 byteC (xs ++ s.data.toList)) h (H' q)) (hy : evO ρ y = some (.val (.string s))) (hd : Nat.blt d k.n = true) (hb : xs.length + s.size ≤ 140737488355328)
 (hj : All fun q : Sl => JL k ops l Q ((d, .val q.v) :: ρ) (H' q)) :
 JL k ops (⟨some d, .call { callee := .builtin .append, args := #[x, y], argTypes := #[T, U] }, ty, pos, after, none⟩ :: l) Q ρ h := by
 obtain ⟨h1, h2, e1, _⟩ := (hu Sl.nil).split
 subst e1
 obtain ⟨i, hi, hz0, hz1, hz2⟩ := he.get
 refine JL_eff rfl (fun t ht => by cases ht; exact blt hd) fun I a w k1 k2 => ?_
 have e1 := rel_val (k2.ev x) (ev_of_evO hx)
 have e2 := rel_val (k2.ev y) (ev_of_evO hy)
 obtain ⟨os, ho, hos⟩ := k1.ent (rowE v E 1 byteC xs) (by simp)
 have hml : xs.length + s.size ≤ maxLen := by simp only [maxLen]; omega
 have hxo : os.length = xs.length := by simpa using ho.1
 obtain ⟨v', w', hrun, q1, q2, q3⟩ := Lib.run_append_own_string (P := k.P) w 0 T U ty E i hT hU hi hz0 hz1 hz2 v xs.length os ho s hml hb (Nat.zero_le _)
 have hloc : v'.ownBlock = v.ownBlock ∨ v'.ownBlock = some w.heap.size := by
  rcases ho.2 with ⟨hv, hn⟩ | ⟨g, cap, cur, hv, _, hg, hnc, hcm, hcs, _⟩
  · subst hv
    by_cases hs0 : s.size = 0
    · left; rw [q3.2 ⟨rfl, hs0⟩]
    · right
      have hr := run_append_nil_string (P := k.P) w T U ty E i (.int .u8 0) hT hU hi hz0 s (by omega) (by omega) (by rw [hz2]; omega)
      rw [hrun] at hr
      injection hr with e3 _
      rw [e3]; rfl
  · subst hv
    by_cases hroom : xs.length + s.size ≤ cap
    · left
      have hr := Lib.run_append_room_string (P := k.P) w T U ty E i hT hU hi hz1 g xs.length cap cur hg s hroom (by rw [hcs]; omega)
      rw [hrun] at hr
      injection hr with e3 _
      rw [e3]; rfl
    · right
      have hr := Lib.run_append_grow_string (P := k.P) w T U ty E i (.int .u8 0) hT hU hi hz0 ⟨g, 0, none⟩ xs.length cap os (by rw [hz1]; omega) (fun j u hj => ho.cells (g := g) rfl j u hj) s (by omega) (by omega) (by rw [hz2]; exact growslice_fits (by omega) (by omega))
      rw [hrun] at hr
      injection hr with e3 _
      rw [e3]; rfl
 obtain ⟨m1, m2⟩ := k1.grown (ys := s.data.toList.map fun b => AV.val (.int .u8 b.toNat)) q2 hloc ⟨os, q1, ho, hos⟩ (rels_bytes w I _)
 refine ⟨v', w', I, .val v', _, ?_, m1, k2.mono m2 (fun _ h => h), rfl, ?_⟩
 · simp [execOp, resolve, invoke, builtin, e1, e2, hrun]
 · refine JL_slice (h1 := h1) (h2 := h2) rfl fun q hq => ?_
   subst hq
   refine JL_vs (VS.perm ?_) (hj.get q)
   obtain ⟨r, p1, p2⟩ := (hu q).perm
   have e3 : Ent.row q.v (xs.length + s.size) E 1 (((xs.map byteC).flatten.map D.av) ++ s.data.toList.map fun b => AV.val (.int .u8 b.toNat)) = rowE q.v E 1 byteC (xs ++ s.data.toList) := by
    have hsz : s.size = s.data.toList.length := by rw [Array.length_toList]; rfl
    unfold rowE
    rw [byteC_flat, byteC_flat, List.map_append, List.length_append, hsz]
   rw [e3]
   refine List.perm_middle.trans (List.Perm.trans (List.Perm.cons _ ?_) p2.symm)
   exact (List.perm_middle.symm.trans p1).cons_inv
theorem Ok.frozen {c : Cx} {I : Nat → Prop} {h : H} {e : Ent} {w : World} {b : Nat} (k : Ok c I (e :: h) w) (hb : e.blk = some b) (n : Nat) : Ok c I h (w.freeze ⟨b, 0, none⟩ n) ∧ ∀ x, I x → (w.freeze ⟨b, 0, none⟩ n).heap[x]? = w.heap[x]? := by
 have hm : b ∈ blks (e :: h) := by simp [blks, hb]
 have hblk : blks (e :: h) = b :: blks h := by simp [blks, hb]
 have hnd := k.nd
 rw [hblk] at hnd
 have hother : ∀ x, x ≠ b → (w.freeze ⟨b, 0, none⟩ n).heap[x]? = w.heap[x]? := fun x hx => by
  unfold World.freeze
  split
  · rfl
  · simp only [Array.getElem?_modify]; rw [if_neg (fun e => hx e.symm)]
 have hI : ∀ x, I x → x ≠ b := fun x hx e => (k.imm x hx).2 (e ▸ hm)
 have hsz : (w.freeze ⟨b, 0, none⟩ n).heap.size = w.heap.size := by unfold World.freeze; split <;> simp
 have hrest : (w.freeze ⟨b, 0, none⟩ n).os = w.os ∧ (w.freeze ⟨b, 0, none⟩ n).tape = w.tape ∧ (w.freeze ⟨b, 0, none⟩ n).output = w.output := by unfold World.freeze; split <;> exact ⟨rfl, rfl, rfl⟩
 refine ⟨?_, fun x hx => hother x (hI x hx)⟩
 exact
 { ent := fun e' he => by
    refine Ent.rel_mono (fun x hx => hother x (hI x hx)) (fun _ h => h) (fun x hx => hother x fun e1 => ?_) (k.ent e' (List.mem_cons_of_mem _ he))
    exact (List.nodup_cons.1 hnd).1 (e1 ▸ List.mem_filterMap.2 ⟨e', he, hx⟩)
   nd := (List.nodup_cons.1 hnd).2
   imm := fun x hx => ⟨by rw [hsz]; exact (k.imm x hx).1, fun hm' => (k.imm x hx).2 (by rw [hblk]; exact List.mem_cons_of_mem _ hm')⟩
   new := fun x hx => k.new x (by rw [hblk]; exact List.mem_cons_of_mem _ hx)
   inew := k.inew
   sup := k.sup
   os := hrest.1.trans k.os
   tape := hrest.2.1.trans k.tape
   output := hrest.2.2.trans k.output
   size := by rw [hsz]; exact k.size
   keep := fun x hx hE => by
    refine (hother x fun e1 => ?_).trans (k.keep x hx hE)
    subst e1
    rcases k.new x hm with h' | h'
    · exact hE h'
    · exact absurd hx (Nat.not_lt.2 h')
   glob := fun q hq => (k.glob q hq).mono (fun x hx => hother x (hI x hx)) fun _ h => h }
theorem justr {xs : List UInt8} {E PT IT : TypeId} {x y : Operand} {q : Sl} {h' : H} (hx : evO ρ x = some (.val (.pointer (some (q.at 0))))) (hy : evO ρ y = some (.int (xs.length : Nat))) (hP : k.P.underlying PT = some (.pointer E)) (hc : k.P.cellsOf E = 1)
 (hs : Sel (rowE q.v E 1 byteC xs) h h') (h0 : 0 < xs.length) (hd : Nat.blt d k.n = true) (hb : xs.length ≤ 140737488355328) (hj : JL k ops l Q ((d, .val (.string ⟨xs.toArray⟩)) :: ρ) h') :
 JL k ops (⟨some d, .call { callee := .builtin .unsafeString, args := #[x, y], argTypes := #[PT, IT] }, ty, pos, after, none⟩ :: l) Q ρ h := by
 refine JL_vs (VS.perm hs.perm) ?_
 refine JL_eff rfl (fun t ht => by cases ht; exact blt hd) fun I a w k1 k2 => ?_
 have e1 := rel_val (k2.ev x) (ev_of_evO hx)
 have e2 := rel_val (k2.ev y) (ev_of_evO hy)
 obtain ⟨os, ho, hos⟩ := k1.ent (rowE q.v E 1 byteC xs) List.mem_cons_self
 obtain ⟨ad, n, cap⟩ := q
 rcases ho.2 with ⟨hv, hn⟩ | ⟨g, cap', cur, hv, _, hg, hnc, hcm, hcs, _⟩
 · omega
 · simp only [Value.slice.injEq] at hv
   obtain ⟨rfl, rfl, rfl⟩ := hv
   have hcell : ∀ j z, xs[j]? = some z → w.cell? ((⟨g, 0, none⟩ : Addr).add j) = some (.int .u8 z.toNat) := fun j z hz => by
    rw [byteC_flat] at hos
    obtain ⟨c, hc1, hc2⟩ := AV.rels_get hos j (.val (.int .u8 z.toNat)) (by rw [List.getElem?_map, hz]; rfl)
    cases hc2
    exact ho.cells (g := g) rfl j _ hc1
   have hrun := Lib.run_unsafeString_row (P := k.P) w PT IT ty E hP hc g cur.size (by simp [World.shape?, hg]) xs (by intro e; subst e; simp at h0) (by rw [hcs]; omega) (by omega) hcell
   obtain ⟨m1, m2⟩ := Ok.frozen (b := g) k1 rfl xs.length
   refine ⟨.string ⟨xs.toArray⟩, _, I, .val (.string ⟨xs.toArray⟩), _, ?_, m1, k2.mono m2 (fun _ h => h), rfl, hj⟩
   have e1' : a.eval x = .pointer (some ⟨g, 0, none⟩) := e1
   simp [execOp, resolve, invoke, builtin, e1', e2, hrun]
end
end Go.Av
namespace Go.Sp
open Go Go.Av
abbrev tx (l : List UInt8) : ByteArray := ⟨l.toArray⟩
theorem tx_app (a b : List UInt8) : tx a ++ tx b = tx (a ++ b) := by
 apply ByteArray.ext
 rw [ByteArray.data_append]
 simp
theorem tx_list (s : ByteArray) : tx s.data.toList = s := by
 apply ByteArray.ext
 simp
theorem tx_size (l : List UInt8) : (tx l).size = l.length := rfl
theorem app_tx (a : List UInt8) (s : ByteArray) : tx a ++ s = tx (a ++ s.data.toList) := by rw [← tx_app, tx_list]
theorem tx_inj {a b : List UInt8} (h : tx a = tx b) : a = b := by
 have := congrArg (fun s : ByteArray => s.data.toList) h
 simpa using this
def marksL : List (List UInt8) := [[], [], [], [43], [45], [42], [61], [60], [38], [124], [33], [121, 101, 115], [110, 111], [], [88], [85], [82], [70], [71]]
end Go.Sp
namespace Go.Av
open Go Go.Sp
section
variable {P : Program} {G : List (Nat × List D)} {ρ : Env} {h : H} {dst : Option Tmp} {ty : TypeId} {pos : String} {after : Array Edge} {g : Option (Nat × Bool)}
theorem pu_catT {T T' : TypeId} {x y : Operand} {a b : List UInt8} (hx : evO ρ x = some (.val (.string (tx a)))) (hy : evO ρ y = some (.val (.string (tx b)))) (hb : a.length + b.length ≤ 9223372036854775807) : Pure P G ⟨dst, .binOp .add T x y T', ty, pos, after, g⟩ ρ h (.val (.string (tx (a ++ b)))) := by
 rw [← tx_app]
 exact pu_cat hx hy hb
theorem pu_subT {T : TypeId} {x lo hi : Operand} {l : List UInt8} {m n : Int} (hx : evO ρ x = some (.val (.string (tx l)))) (hlo : evO ρ lo = some (.int m)) (hhi : evO ρ hi = some (.int n)) (hT : P.underlying T = some .string) (h0 : 0 ≤ m) (h1 : m ≤ n) (h2 : n ≤ l.length) :
 Pure P G ⟨dst, .slice T x (some lo) (some hi) none, ty, pos, after, g⟩ ρ h (.val (.string (tx ((l.drop m.toNat).take (n.toNat - m.toNat))))) :=
 pure_free fun w I _ a hs => ⟨_, rfl, fun w' => by
  have e1 := rel_val (hs.ev x) (ev_of_evO hx)
  have e2 := rel_val (hs.ev lo) (ev_of_evO hlo)
  have e3 := rel_val (hs.ev hi) (ev_of_evO hhi)
  have hr := (run_sliceAt_string (P := P) (w := w') T (.string (tx l)) _ _ _ hT).trans (run_slice_string (P := P) w' T (tx l) .i64 .i64 m n hT h0 h1 h2)
  rw [show (tx l).extract m.toNat n.toNat = tx ((l.drop m.toNat).take (n.toNat - m.toNat)) from ByteArray.extract_mk l m.toNat n.toNat] at hr
  revert e1 hr
  generalize tx l = s
  generalize tx ((l.drop m.toNat).take (n.toNat - m.toNat)) = r
  intro e1 hr
  simp [execOp, e1, e2, e3, hr]⟩
theorem pu_subfT {T : TypeId} {x lo : Operand} {l : List UInt8} {m : Int} (hx : evO ρ x = some (.val (.string (tx l)))) (hlo : evO ρ lo = some (.int m)) (hT : P.underlying T = some .string) (h0 : 0 ≤ m) (h2 : m ≤ l.length) :
 Pure P G ⟨dst, .slice T x (some lo) none none, ty, pos, after, g⟩ ρ h (.val (.string (tx (l.drop m.toNat)))) :=
 pure_free fun w I _ a hs => ⟨_, rfl, fun w' => by
  have e1 := rel_val (hs.ev x) (ev_of_evO hx)
  have e2 := rel_val (hs.ev lo) (ev_of_evO hlo)
  have hr := (run_sliceAt_string (P := P) (w := w') T (.string (tx l)) _ _ _ hT).trans (run_slice_string_from_if (P := P) w' T (tx l) .i64 m hT)
  rw [if_pos ⟨h0, h2⟩, show (tx l).extract m.toNat (tx l).size = tx (l.drop m.toNat) by
   refine (ByteArray.extract_mk l m.toNat _).trans ?_
   rw [List.take_of_length_le (by rw [List.length_drop]; exact Nat.le_refl _)]] at hr
  revert e1 hr
  generalize tx l = s
  generalize tx (l.drop m.toNat) = r
  intro e1 hr
  simp [execOp, e1, e2, hr]⟩
theorem pu_subtT {T : TypeId} {x hi : Operand} {l : List UInt8} {n : Int} (hx : evO ρ x = some (.val (.string (tx l)))) (hhi : evO ρ hi = some (.int n)) (hT : P.underlying T = some .string) (h0 : 0 ≤ n) (h2 : n ≤ l.length) :
 Pure P G ⟨dst, .slice T x none (some hi) none, ty, pos, after, g⟩ ρ h (.val (.string (tx (l.take n.toNat)))) :=
 pure_free fun w I _ a hs => ⟨_, rfl, fun w' => by
  have e1 := rel_val (hs.ev x) (ev_of_evO hx)
  have e2 := rel_val (hs.ev hi) (ev_of_evO hhi)
  have hr := (run_sliceAt_string (P := P) (w := w') T (.string (tx l)) _ _ _ hT).trans (run_slice_string_to_if (P := P) w' T (tx l) .i64 n hT)
  rw [if_pos ⟨h0, h2⟩, show (tx l).extract 0 n.toNat = tx (l.take n.toNat) from (ByteArray.extract_mk l 0 n.toNat).trans (by simp)] at hr
  revert e1 hr
  generalize tx l = s
  generalize tx (l.take n.toNat) = r
  intro e1 hr
  simp [execOp, e1, e2, hr]⟩
theorem pu_lenT {T : TypeId} {x : Operand} {l : List UInt8} (hx : evO ρ x = some (.val (.string (tx l)))) (hT : P.underlying T = some .string) : Pure P G ⟨dst, .call { callee := .builtin .len, args := #[x], argTypes := #[T] }, ty, pos, after, g⟩ ρ h (.int (l.length : Nat)) :=
 pu_len_str hx hT
theorem pu_atT {T : TypeId} {x y : Operand} {l : List UInt8} {n : Nat} (hx : evO ρ x = some (.val (.string (tx l)))) (hy : evO ρ y = some (.int (n : Int))) (hT : P.underlying T = some .string) (hn : n < l.length) : Pure P G ⟨dst, .index T x y, ty, pos, after, g⟩ ρ h (AV.byte l[n]) :=
 pu_at_str hx hy hT hn
end
end Go.Av
namespace Go.Proofs.YtajnpfgelpkijaaGreatDoor
open Go Go.Av
class ElC (P : Program) (t : TypeId) (z : outParam Value) (s b : outParam Nat) : Prop where h : El P t z s b
class FdC (P : Program) (t f : Nat) (o : outParam Nat) : Prop where h : Fld P t f o
class BlC (P : Program) (t : TypeId) : Prop where h : Bl2 P t
class BlsC (P : Program) (t : TypeId) (zs : outParam (List Value)) (pl : outParam (List (Nat × Nat))) : Prop where h : Bls P t zs pl
class EqC (P : Program) (t : TypeId) : Prop where h : Eq2 P t
class NifC (P : Program) (t : TypeId) : Prop where h : NotIf P t
theorem el_int : El Tryz.prog 3 (.int .i64 0) 1 8 := by unfold El; kernel_rfl
instance : ElC Tryz.prog 3 (.int .i64 0) 1 8 := ⟨el_int⟩
theorem el_byte : El Tryz.prog 5 (.int .u8 0) 1 1 := by unfold El; kernel_rfl
instance : ElC Tryz.prog 5 (.int .u8 0) 1 1 := ⟨el_byte⟩
theorem el_string : El Tryz.prog 9 (.string ByteArray.empty) 1 16 := by unfold El; kernel_rfl
instance : ElC Tryz.prog 9 (.string ByteArray.empty) 1 16 := ⟨el_string⟩
theorem el_Errno : El Tryz.prog 30 (.int .i64 0) 1 8 := by unfold El; kernel_rfl
theorem el_unit : El Tryz.prog 227 (.agg #[]) 0 0 := by unfold El; kernel_rfl
instance : ElC Tryz.prog 227 (.agg #[]) 0 0 := ⟨el_unit⟩
theorem bls_unit : Bls Tryz.prog 227 [] [] := by unfold Bls; kernel_rfl
instance : BlsC Tryz.prog 227 [] [] := ⟨bls_unit⟩
theorem el_ints : El Tryz.prog 43 (.slice none 0 0) 1 24 := by unfold El; kernel_rfl
theorem el_ops : El Tryz.prog 27 (.slice none 0 0) 1 24 := by unfold El; kernel_rfl
instance : ElC Tryz.prog 27 (.slice none 0 0) 1 24 := ⟨el_ops⟩
theorem el_terms : El Tryz.prog 26 (.slice none 0 0) 1 24 := by unfold El; kernel_rfl
instance : ElC Tryz.prog 26 (.slice none 0 0) 1 24 := ⟨el_terms⟩
theorem el_bytes : El Tryz.prog 84 (.slice none 0 0) 1 24 := by unfold El; kernel_rfl
instance : ElC Tryz.prog 84 (.slice none 0 0) 1 24 := ⟨el_bytes⟩
theorem el_vars : El Tryz.prog 22 (.slice none 0 0) 1 24 := by unfold El; kernel_rfl
instance : ElC Tryz.prog 22 (.slice none 0 0) 1 24 := ⟨el_vars⟩
theorem el_rules : El Tryz.prog 23 (.slice none 0 0) 1 24 := by unfold El; kernel_rfl
instance : ElC Tryz.prog 23 (.slice none 0 0) 1 24 := ⟨el_rules⟩
theorem el_sets : El Tryz.prog 70 (.slice none 0 0) 1 24 := by unfold El; kernel_rfl
instance : ElC Tryz.prog 70 (.slice none 0 0) 1 24 := ⟨el_sets⟩
theorem el_Op : El Tryz.prog 53 (.agg #[.int .i64 0, .int .i64 0]) 2 16 := by unfold El; kernel_rfl
instance : ElC Tryz.prog 53 (.agg #[.int .i64 0, .int .i64 0]) 2 16 := ⟨el_Op⟩
theorem fd_Op0 : Fld Tryz.prog 53 0 0 := by unfold Fld; kernel_rfl
instance : FdC Tryz.prog 53 0 0 := ⟨fd_Op0⟩
theorem fd_Op1 : Fld Tryz.prog 53 1 1 := by unfold Fld; kernel_rfl
instance : FdC Tryz.prog 53 1 1 := ⟨fd_Op1⟩
theorem bls_Op : Bls Tryz.prog 53 [.int .i64 0, .int .i64 0] [(0, 1), (1, 1)] := by unfold Bls; kernel_rfl
instance : BlsC Tryz.prog 53 [.int .i64 0, .int .i64 0] [(0, 1), (1, 1)] := ⟨bls_Op⟩
theorem bl_Op : Bl2 Tryz.prog 53 := by unfold Bl2; kernel_rfl
instance : BlC Tryz.prog 53 := ⟨bl_Op⟩
theorem fd_reader0 : Fld Tryz.prog 196 0 0 := by unfold Fld; kernel_rfl
instance : FdC Tryz.prog 196 0 0 := ⟨fd_reader0⟩
theorem fd_reader1 : Fld Tryz.prog 196 1 1 := by unfold Fld; kernel_rfl
instance : FdC Tryz.prog 196 1 1 := ⟨fd_reader1⟩
theorem bl_reader : Bl2 Tryz.prog 196 := by unfold Bl2; kernel_rfl
instance : BlC Tryz.prog 196 := ⟨bl_reader⟩
theorem el_Variable : El Tryz.prog 68 (.agg #[.string ByteArray.empty, .int .i64 0, .int .i64 0, .int .i64 0]) 4 40 := by unfold El; kernel_rfl
instance : ElC Tryz.prog 68 (.agg #[.string ByteArray.empty, .int .i64 0, .int .i64 0, .int .i64 0]) 4 40 := ⟨el_Variable⟩
theorem fd_Variable0 : Fld Tryz.prog 68 0 0 := by unfold Fld; kernel_rfl
instance : FdC Tryz.prog 68 0 0 := ⟨fd_Variable0⟩
theorem fd_Variable1 : Fld Tryz.prog 68 1 1 := by unfold Fld; kernel_rfl
instance : FdC Tryz.prog 68 1 1 := ⟨fd_Variable1⟩
theorem fd_Variable2 : Fld Tryz.prog 68 2 2 := by unfold Fld; kernel_rfl
instance : FdC Tryz.prog 68 2 2 := ⟨fd_Variable2⟩
theorem fd_Variable3 : Fld Tryz.prog 68 3 3 := by unfold Fld; kernel_rfl
instance : FdC Tryz.prog 68 3 3 := ⟨fd_Variable3⟩
theorem bls_Variable : Bls Tryz.prog 68 [.string ByteArray.empty, .int .i64 0, .int .i64 0, .int .i64 0] [(0, 1), (1, 1), (2, 1), (3, 1)] := by unfold Bls; kernel_rfl
instance : BlsC Tryz.prog 68 [.string ByteArray.empty, .int .i64 0, .int .i64 0, .int .i64 0] [(0, 1), (1, 1), (2, 1), (3, 1)] := ⟨bls_Variable⟩
theorem el_Set : El Tryz.prog 75 (.agg #[.int .i64 0, .slice none 0 0]) 2 32 := by unfold El; kernel_rfl
instance : ElC Tryz.prog 75 (.agg #[.int .i64 0, .slice none 0 0]) 2 32 := ⟨el_Set⟩
theorem fd_Set0 : Fld Tryz.prog 75 0 0 := by unfold Fld; kernel_rfl
instance : FdC Tryz.prog 75 0 0 := ⟨fd_Set0⟩
theorem fd_Set1 : Fld Tryz.prog 75 1 1 := by unfold Fld; kernel_rfl
instance : FdC Tryz.prog 75 1 1 := ⟨fd_Set1⟩
theorem bl_Set : Bl2 Tryz.prog 75 := by unfold Bl2; kernel_rfl
instance : BlC Tryz.prog 75 := ⟨bl_Set⟩
theorem el_Rule : El Tryz.prog 72 (.agg #[.slice none 0 0, .slice none 0 0]) 2 48 := by unfold El; kernel_rfl
instance : ElC Tryz.prog 72 (.agg #[.slice none 0 0, .slice none 0 0]) 2 48 := ⟨el_Rule⟩
theorem fd_Rule0 : Fld Tryz.prog 72 0 0 := by unfold Fld; kernel_rfl
instance : FdC Tryz.prog 72 0 0 := ⟨fd_Rule0⟩
theorem fd_Rule1 : Fld Tryz.prog 72 1 1 := by unfold Fld; kernel_rfl
instance : FdC Tryz.prog 72 1 1 := ⟨fd_Rule1⟩
theorem bls_Rule : Bls Tryz.prog 72 [.slice none 0 0, .slice none 0 0] [(0, 1), (1, 1)] := by unfold Bls; kernel_rfl
instance : BlsC Tryz.prog 72 [.slice none 0 0, .slice none 0 0] [(0, 1), (1, 1)] := ⟨bls_Rule⟩
theorem el_Model : El Tryz.prog 25 (.agg #[.slice none 0 0, .slice none 0 0]) 2 48 := by unfold El; kernel_rfl
instance : ElC Tryz.prog 25 (.agg #[.slice none 0 0, .slice none 0 0]) 2 48 := ⟨el_Model⟩
theorem fd_Model0 : Fld Tryz.prog 25 0 0 := by unfold Fld; kernel_rfl
instance : FdC Tryz.prog 25 0 0 := ⟨fd_Model0⟩
theorem fd_Model1 : Fld Tryz.prog 25 1 1 := by unfold Fld; kernel_rfl
instance : FdC Tryz.prog 25 1 1 := ⟨fd_Model1⟩
theorem el_Task : El Tryz.prog 29 (.agg #[.slice none 0 0, .slice none 0 0, .slice none 0 0, .slice none 0 0]) 4 96 := by unfold El; kernel_rfl
instance : ElC Tryz.prog 29 (.agg #[.slice none 0 0, .slice none 0 0, .slice none 0 0, .slice none 0 0]) 4 96 := ⟨el_Task⟩
theorem fd_Task0 : Fld Tryz.prog 29 0 0 := by unfold Fld; kernel_rfl
instance : FdC Tryz.prog 29 0 0 := ⟨fd_Task0⟩
theorem fd_Task1 : Fld Tryz.prog 29 1 2 := by unfold Fld; kernel_rfl
instance : FdC Tryz.prog 29 1 2 := ⟨fd_Task1⟩
theorem fd_Task2 : Fld Tryz.prog 29 2 3 := by unfold Fld; kernel_rfl
instance : FdC Tryz.prog 29 2 3 := ⟨fd_Task2⟩
theorem bls_Task : Bls Tryz.prog 29 [.slice none 0 0, .slice none 0 0, .slice none 0 0, .slice none 0 0] [(0, 2), (2, 1), (3, 1)] := by unfold Bls; kernel_rfl
instance : BlsC Tryz.prog 29 [.slice none 0 0, .slice none 0 0, .slice none 0 0, .slice none 0 0] [(0, 2), (2, 1), (3, 1)] := ⟨bls_Task⟩
theorem el_Builder : El Tryz.prog 86 (.agg #[.pointer none, .slice none 0 0]) 2 32 := by unfold El; kernel_rfl
instance : ElC Tryz.prog 86 (.agg #[.pointer none, .slice none 0 0]) 2 32 := ⟨el_Builder⟩
theorem fd_Builder0 : Fld Tryz.prog 86 0 0 := by unfold Fld; kernel_rfl
instance : FdC Tryz.prog 86 0 0 := ⟨fd_Builder0⟩
theorem fd_Builder1 : Fld Tryz.prog 86 1 1 := by unfold Fld; kernel_rfl
instance : FdC Tryz.prog 86 1 1 := ⟨fd_Builder1⟩
theorem eq2_Op : Eq2 Tryz.prog 53 := ⟨by kernel_rfl, fun a b c d w => by
  have u3 := Tryz.underlying3
  rw [show (10000 : Nat) = 9999 + 1 from rfl, run_equalIn_agg w 9999 53 _ _ (by kernel_rfl) (by kernel_rfl)]
  simp only [Program.fieldsOf, Tryz.underlying53]
  go_simp
  by_cases h1 : a = c <;> by_cases h2 : b = d <;> simp [h1, h2]⟩
instance : EqC Tryz.prog 53 := ⟨eq2_Op⟩
theorem nif_Errno : NotIf Tryz.prog 30 := ⟨_, Tryz.underlying30, fun _ h => by cases h⟩
instance : NifC Tryz.prog 30 := ⟨nif_Errno⟩
theorem mixed : Tryz.prog.follows .mixedOrders = true := by kernel_rfl
def partsT : List D := [-1, 0, 0, 2, 2, 2, 2, 2, 2, 2, 1, 0, 0, 0, 1, 2, 2, 1, 1].map fun n => D.i .i64 n
def GP0 : List (Nat × List D) := [(7, partsT)]
def marksT : List D := Go.Sp.marksL.map fun l => D.s (Go.Sp.tx l)
def powT : List D := [.sm fun b o _ => b = 4 ∧ ∃ t fr, o = .cells (Lib.pow10Tab.map fun n => Value.int .u64 n).toArray t fr]
def GP1 : List (Nat × List D) := [(0, marksT), (4, powT)]
def isI64 (v : Value) : Prop := ∃ m : Int, v = .int .i64 m
def isIf (v : Value) : Prop := v = .nilIface ∨ ∃ te pe, v = .iface te pe
def GP2 : List (Nat × List D) := [(1, [.sm fun _ _ v => isI64 v]), (2, [.sm fun _ _ v => isIf v]), (3, [.sm fun _ _ v => isIf v])]
def GP : List (Nat × List D) := GP0 ++ (GP1 ++ GP2)
theorem GP_mem : (7, partsT) ∈ GP := by simp [GP, GP0]
theorem GP_marks : (0, marksT) ∈ GP := by simp [GP, GP1]
theorem GP_pow : (4, powT) ∈ GP := by simp [GP, GP1]
theorem GP_max : (1, [.sm fun _ _ v => isI64 v]) ∈ GP := by simp [GP, GP2]
theorem GP_syn : (2, [.sm fun _ _ v => isIf v]) ∈ GP := by simp [GP, GP2]
theorem GP_ran : (3, [.sm fun _ _ v => isIf v]) ∈ GP := by simp [GP, GP2]
end Go.Proofs.YtajnpfgelpkijaaGreatDoor
namespace Go.Av
open Go
class FlagA : Prop
class FlagH : Prop
class StopAt (n : outParam Nat) : Prop
theorem useA [FlagA] {p : Prop} (h : p) : p := h
theorem useH [FlagH] {p : Prop} (h : p) : p := h
section
variable {k : Kx} {Q : Exit → Env → H → Prop} {ρ : Env} {h : H}
theorem jstopn {n : Nat} [StopAt n] {id : Nat} {l : List Oper} (_hA : Nat.ble n (l.countP fun o => effB o.op) = true) (hj : Stop (J k (.region id l.toArray true) Q ρ h)) : J k (.region id l.toArray true) Q ρ h := hj.get
end
theorem of_dT {p : Prop} {i : Decidable p} (h : @decide p i = true) : p := of_decide_eq_true h
theorem of_dF {p : Prop} {i : Decidable p} (h : @decide p i = false) : ¬ p := of_decide_eq_false h
theorem bndD {p : Prop} (h : p := by (first | omega | (simp only [List.length_map, List.length_range, List.length_append, List.length_cons, List.length_nil, List.length_take, List.length_drop, List.length_set, List.length_replicate]; omega))) : p := h
theorem updD {p : Prop} (h : p := by ((repeat (first | with_reducible exact Upd.here | with_reducible apply Upd.there)); first | done | fail)) : p := h
theorem updqD {p : Prop} (h : p := by (intro q_; (repeat (first | with_reducible exact Upd.here | with_reducible apply Upd.there)); first | done | fail)) : p := h
theorem sarD {p : Prop} (h : p := by ((repeat (first | exact SetAR.nil | apply SetAR.put | apply SetAR.skip)); first | done | fail)) : p := h
theorem memD {p : Prop} (h : p := by ((repeat (first | exact List.mem_cons_self | apply List.mem_cons_of_mem)); first | done | fail)) : p := h
theorem sublD {p : Prop} (h : p := by ((repeat (first | exact List.nil_sublist _ | (with_reducible apply List.Sublist.cons_cons) | apply List.Sublist.cons)); first | done | fail)) : p := h
theorem takedD {p : Prop} (h : p := by ((repeat (first | exact Take.nil | ((with_reducible apply Take.cons); (focus ((repeat (first | exact Sel.here | with_reducible apply Sel.there)); done))))); first | done | fail)) : p := h
theorem leD {p : Prop} (h : p := by
 repeat (first
  | exact Env.le_nil _
  | refine Env.le_cons (AV.le_refl _) ?_
  | refine Env.le_cons (AV.le_int rfl (by first | rfl | omega | (dsimp only; omega))) ?_)
 first | done | fail) : p := h
theorem cx {c q : Prop} (hc : c) (h : c → q := by intro hc; first | contradiction | (exfalso; omega)) : q := h hc
theorem cx1 {c q : Prop} (hc : c) (h : c → q := by intro hc; first | contradiction | (exfalso; omega) | (exfalso; exact absurd (of_dT hc) (by assumption)) | (exfalso; exact of_dF hc (by assumption))) : q := h hc
theorem pureD {p : Prop} (h : p := by
 (first
  | (first
    | ((with_reducible apply pu_move); rfl)
    | ((with_reducible apply pu_assign); rfl)
    | ((with_reducible apply pure_extract); rfl; rfl)
    | ((with_reducible apply pure_lss); rfl; rfl)
    | ((with_reducible apply pure_eql); rfl; rfl)
    | ((with_reducible apply pure_neq); rfl; rfl)
    | ((with_reducible apply pure_eql_bool); rfl; rfl; rfl)
    | ((with_reducible apply pure_neq_bool); rfl; rfl; rfl)
    | ((with_reducible apply pure_geq); rfl; rfl)
    )
  | (first
    | ((with_reducible apply pure_gtr); rfl; rfl)
    | ((with_reducible apply pure_leq); rfl; rfl)
    | ((with_reducible apply pure_add); rfl; rfl; (focus (first | (unfold inI64; omega) | (unfold inI64; simp only [Int.reduceToNat, Int.reducePow]; omega) | assumption)))
    | ((with_reducible apply pure_sub); rfl; rfl; (focus (first | (unfold inI64; omega) | (unfold inI64; simp only [Int.reduceToNat, Int.reducePow]; omega) | assumption)))
    | ((with_reducible apply pure_mul); rfl; rfl; (focus (first | (unfold inI64; omega) | (unfold inI64; simp only [Int.reduceToNat, Int.reducePow]; omega) | assumption)))
    | ((with_reducible apply pure_quo); rfl; rfl; omega; omega; omega)
    | ((with_reducible apply pure_rem); rfl; rfl; omega; omega)
    | ((with_reducible apply pure_shl); rfl; rfl; omega; omega; (focus (first | (unfold inI64; omega) | (unfold inI64; simp only [Int.reduceToNat, Int.reducePow]; omega) | assumption)))
    | ((with_reducible apply pure_shr); rfl; rfl; omega; omega)
    )
  | (first
    | ((with_reducible apply pure_shl_u); rfl; rfl; omega; omega; (focus (first | (unfold inI64; omega) | (unfold inI64; simp only [Int.reduceToNat, Int.reducePow]; omega) | assumption)))
    | ((with_reducible apply pure_shr_u); rfl; rfl; omega; omega)
    | ((with_reducible apply pure_and1); rfl; rfl; omega; omega)
    | ((with_reducible apply pure_and); rfl; rfl)
    | ((with_reducible apply pure_or); rfl; rfl)
    | ((with_reducible apply pure_neg); rfl; (focus (first | (unfold inI64; omega) | (unfold inI64; simp only [Int.reduceToNat, Int.reducePow]; omega) | assumption)))
    | ((with_reducible apply pure_eql_string); rfl; rfl)
    | ((with_reducible apply pure_neq_string); rfl; rfl)
    | ((with_reducible apply pu_pick_true); rfl; rfl)
    )
  | (first
    | ((with_reducible apply pu_pick_false); rfl; rfl)
    | ((with_reducible apply pure_not); rfl)
    | ((with_reducible apply pu_len); rfl; rfl)
    | ((with_reducible apply pure_len); rfl; rfl)
    | ((with_reducible apply pu_max); rfl; rfl)
    | ((with_reducible apply pu_min); rfl; rfl)
    | ((with_reducible apply pu_slice_to3); rfl; rfl; rfl; rfl; (focus (with_reducible exact ElC.h)); omega; (focus exact bndD))
    | ((with_reducible apply pure_index1); rfl; (focus rfl); rfl; (focus (with_reducible exact ElC.h)); (focus exact bndD))
    | ((with_reducible apply pure_index); rfl; rfl; rfl; (focus (with_reducible exact ElC.h)); (focus exact bndD))
    | ((with_reducible apply pure_indexI); rfl; rfl; rfl; (focus (with_reducible exact ElC.h)); omega; (focus exact bndD))
    | ((with_reducible apply pu_func2); rfl; rfl)
    )
  | (first
    | ((with_reducible apply pu_func3); rfl; rfl; rfl)
    | ((with_reducible apply pu_slice); rfl; rfl; rfl; rfl; (focus (with_reducible exact ElC.h)); omega; omega; (focus exact bndD))
    | ((with_reducible apply pu_slice_from); rfl; rfl; rfl; (focus (with_reducible exact ElC.h)); omega; (focus exact bndD))
    | ((with_reducible apply pu_slice_to); rfl; rfl; rfl; (focus (with_reducible exact ElC.h)); omega; (focus exact bndD))
    | ((with_reducible apply pu_index_c1); rfl; rfl; rfl; (focus (with_reducible exact ElC.h)); omega)
    | ((with_reducible apply pu_index_ci1); rfl; rfl; rfl; (focus (with_reducible exact ElC.h)); omega; omega)
    | ((with_reducible apply pu_index_cells); rfl; rfl; (focus (with_reducible exact ElC.h)); rfl; omega; omega)
    | ((with_reducible apply pu_index_row); rfl; rfl; rfl; (focus (with_reducible exact ElC.h)); (focus exact memD); (focus exact bndD))
    | ((with_reducible apply pu_index_rowI); rfl; rfl; rfl; (focus (with_reducible exact ElC.h)); (focus exact memD); omega; (focus exact bndD))
    | ((with_reducible apply pure_fieldAddr); (focus (with_reducible exact FdC.h)); rfl)
    | ((with_reducible apply pure_load); rfl; rfl)
    | ((with_reducible apply pu_load_row); rfl; rfl; (focus (with_reducible exact ElC.h)); rfl)
    | ((with_reducible apply pu_neq2); (focus (with_reducible exact EqC.h)); rfl; rfl)
    )
  | (first
    | ((with_reducible apply pu_nilCheck); rfl)
    | ((with_reducible apply pu_nilCheck_pd); rfl)
    | ((with_reducible apply pu_field_cells); (focus (with_reducible exact FdC.h)); rfl)
    | ((with_reducible apply pu_load_map); rfl; rfl; (focus exact memD); (focus exact bndD))
    | ((with_reducible apply pu_load_cells); rfl; rfl; (focus exact memD); (first | rfl | assumption | ((apply set_ne_get); (focus assumption); (focus (first | omega | exact Nat.ne_of_lt (Nat.lt_succ_self _))))))
    | ((with_reducible apply pu_load_row0); rfl; rfl; (focus exact memD); (focus exact fun _ => rfl); rfl; (focus exact bndD))
    | ((with_reducible apply pu_load_rowu); rfl; rfl; (focus exact memD); (focus exact fun _ => rfl); rfl; (focus exact bndD))
    | ((with_reducible apply pu_field_row); (focus (with_reducible exact FdC.h)); rfl)
    | ((with_reducible apply pu_load_cells_agg); rfl; rfl; (focus (with_reducible exact ElC.h)); (focus exact memD); rfl)
    | ((with_reducible apply pu_iface); (focus (with_reducible exact NifC.h)); rfl)
    | ((with_reducible apply pure_build2); (focus (with_reducible exact BlC.h)); rfl; rfl; rfl; rfl)
    | ((with_reducible apply pu_build); (focus (with_reducible exact BlsC.h)); rfl; rfl; rfl)
    | ((with_reducible apply pu_byte_int); rfl; rfl; rfl)
    )
  | (first
    | ((with_reducible apply pu_int_byte); rfl; rfl; rfl)
    | ((with_reducible apply pu_int_int); rfl; rfl; rfl; (focus (first | (unfold inI64; omega) | (unfold inI64; simp only [Int.reduceToNat, Int.reducePow]; omega) | assumption)))
    | ((with_reducible apply pu_bytes_string); rfl; rfl; rfl; rfl)
    | ((with_reducible apply pu_len_sub); rfl; rfl; (focus exact memD))
    | ((with_reducible apply pu_slice_cut); rfl; rfl; rfl; (focus (with_reducible exact ElC.h)); (focus exact memD); omega; (focus exact bndD))
    | ((with_reducible apply pu_index_cut); rfl; rfl; rfl; (focus (with_reducible exact ElC.h)); (focus exact memD); omega; omega; (focus exact bndD))
    | ((with_reducible apply pu_len_row); rfl; rfl; (focus exact memD))
    | ((with_reducible apply pu_len_cut); rfl; rfl; (focus exact memD))
    | ((with_reducible apply pure_len_nil); rfl; rfl)
    | ((with_reducible apply pu_slice_sub); rfl; rfl; rfl; (focus (with_reducible exact ElC.h)); (focus exact memD); omega; (focus exact bndD))
    | ((with_reducible apply pu_index_sub); rfl; rfl; rfl; (focus (with_reducible exact ElC.h)); (focus exact memD); (focus exact bndD))
    | ((with_reducible apply pure_global); rfl; exact el_int; exact GP_mem; rfl; omega; omega)
    | ((with_reducible apply pu_index_arr); rfl; rfl; rfl; (focus (with_reducible exact ElC.h)); omega; omega)
    )
  | (first
    | ((with_reducible apply pu_catT); rfl; rfl; (focus exact bndD))
    | ((with_reducible apply pu_subT); rfl; rfl; rfl; rfl; omega; omega; (focus exact bndD))
    | ((with_reducible apply pu_subfT); rfl; rfl; rfl; omega; (focus exact bndD))
    | ((with_reducible apply pu_subtT); rfl; rfl; rfl; omega; (focus exact bndD))
    )
  )) : p := h
theorem ca {P C p q : Prop} (k : P) (c : C) (hp : p) (h : P → C → p → q := by
 intro k_ c_
 apply cmp; (focus (first
  | ((with_reducible apply call0); (focus rfl); (focus exact k_); (focus exact c_); (focus rfl))
  | ((with_reducible apply je_call0); (focus rfl); (focus (decide +kernel)); (focus rfl); (focus exact k_); (focus exact c_); (focus rfl))))
 exact fun h => h) : q := h k c hp
theorem caq {P C p q : Prop} (k : P) (c : C) (hp : p) (h : P → C → p → q := by
 intro k_ c_
 apply cmp; (focus ((with_reducible apply qcall); (focus rfl); (focus exact k_); (focus exact c_); (focus rfl)))
 exact fun h => h) : q := h k c hp
theorem cag {P C p q : Prop} (k : P) (c : C) (hp : p) (h : P → C → p → q := by
 intro k_ c_
 apply cmp; (focus ((with_reducible apply callG); (focus rfl); (focus exact k_); (focus exact c_); (focus ((repeat (first | with_reducible exact Take.nil | ((with_reducible apply Take.cons); (focus ((repeat (first | with_reducible exact Sel.here | with_reducible apply Sel.there)); done))))); done)); (focus rfl); (focus (intro v_; (repeat (first | exact App.nil | apply App.cons)); done))))
 exact fun h => h) : q := h k c hp
end Go.Av
namespace Go.Proofs.YtajnpfgelpkijaaGreatDoor
open Go Go.Av

theorem allocF {p q : Prop} (h : p → q := by
 apply cmp; (focus (first
  | ((with_reducible apply jboxT); (focus rfl); (focus rfl); (focus rfl))
  | ((with_reducible apply jalloc1T); (focus (with_reducible exact ElC.h)); (focus rfl); (focus rfl))
  | ((with_reducible apply jallocN); (focus (with_reducible exact ElC.h)); (focus rfl))
  | ((with_reducible apply jmk_bool); (focus rfl); (focus rfl); (focus (with_reducible exact ElC.h)); (focus omega); (focus omega); (focus rfl))
  | ((with_reducible apply jmk_int); (focus rfl); (focus rfl); (focus (with_reducible exact ElC.h)); (focus omega); (focus omega); (focus rfl))
  | ((with_reducible apply js_um); (focus rfl); (focus exact updD); (focus rfl); (focus rfl); (focus (with_reducible exact ElC.h)); (focus exact bndD))
  | ((with_reducible apply js_uw); (focus rfl); (focus rfl); (focus rfl); (focus (with_reducible exact ElC.h)); (focus rfl); (focus exact updD); (focus rfl))
  | ((with_reducible apply js_ur); (focus rfl); (focus rfl); (focus rfl); (focus (with_reducible exact ElC.h)); (focus exact updD); (focus exact sarD))
  | ((with_reducible apply js_us); (focus rfl); (focus rfl); (focus rfl); (focus (with_reducible exact ElC.h)); (focus rfl); (focus exact updD); (focus exact sarD))
  ))
 exact fun h => h) : p → q := h
theorem allocD {p q : Prop} (hp : p) (h : p → q := by exact allocF) : q := h hp
theorem stpF {p q : Prop} (h : p → q := by
 repeat1' (apply cmp; (focus (first
  | ((with_reducible apply jstopn); (focus (decide +kernel)))
  | ((refine useA ?_); (first
   | ((with_reducible apply japU1); (focus rfl); (focus rfl); (focus (with_reducible exact ElC.h)); (focus exact updqD); (focus rfl); (focus rfl); (focus rfl); (focus rfl); (focus exact bndD); (focus exact bndD))
   | ((with_reducible apply japU); (focus rfl); (focus rfl); (focus (with_reducible exact ElC.h)); (focus exact updqD); (focus rfl); (focus rfl); (focus rfl); (focus rfl); (focus exact bndD); (focus exact bndD))
   | exact allocF
   | ((with_reducible apply js_inc); (focus rfl); (focus rfl); (focus (with_reducible exact ElC.h)); (focus exact updD); (focus exact fun _ => rfl); (focus rfl); (focus exact bndD))
   | ((with_reducible apply js_row1); (focus rfl); (focus rfl); (focus (with_reducible exact ElC.h)); (focus rfl); (focus exact updD); (focus rfl); (focus exact fun _ => rfl); (focus exact bndD))
   | ((with_reducible apply js_cut); (focus rfl); (focus rfl); (focus rfl); (focus (with_reducible exact ElC.h)); (focus exact updqD); (focus exact fun _ => rfl); (focus omega); (focus exact bndD); (focus rfl))
   ))
  | ((refine useH ?_); (first
   | (first
    | ((with_reducible apply J_region_HA); (focus exact mixed); (focus rfl); (focus ((repeat ((with_reducible apply Hd.cons); (focus rfl))); exact Hd.nil)); (focus ((repeat (with_reducible apply len_cons)); exact len_nil)); (focus (decide +kernel)))
    | ((with_reducible apply jh_done); (focus (decide +kernel)); (focus ((repeat (with_reducible apply App.cons)); exact App.nil)))
    | ((with_reducible apply jh_pure); (focus rfl); (focus (decide +kernel)); (focus exact pureD); (focus rfl))
    | ((with_reducible apply jh_gy); (focus rfl); (focus rfl); (focus rfl); (focus rfl); (focus rfl); (focus (decide +kernel)); (focus exact pureD); (focus rfl))
    | ((with_reducible apply jh_gn); (focus rfl); (focus rfl); (focus rfl); (focus rfl); (focus rfl); (focus (decide +kernel)); (focus rfl))
    | ((with_reducible apply jh_gu); (focus rfl); (focus rfl); (focus rfl); (focus rfl); (focus (decide +kernel)); (focus rfl))
    | ((with_reducible apply jh_split); (focus rfl); (focus rfl); (focus rfl); (focus rfl); (focus (decide +kernel)))
    | with_reducible apply jh_skip
    | with_reducible apply jh_wrap
    | ((with_reducible apply jh_end); (focus (decide +kernel)); (focus (decide +kernel)))
    | with_reducible exact jhs_nil
    | ((with_reducible apply jhs_no); (focus (decide +kernel)))
    | ((with_reducible apply jhs_yes); (focus rfl))
    | with_reducible apply jh_nil
    )
   ))
  | (first
    | (first
     | with_reducible exact JL_nil
     | ((with_reducible apply jp); (focus exact pureD); (focus rfl))
     | ((with_reducible apply jgt); (focus rfl); (focus rfl); (focus rfl); (focus rfl); (focus rfl))
     | ((with_reducible apply jgf); (focus rfl); (focus rfl); (focus rfl); (focus rfl); (focus rfl))
     | ((with_reducible apply jgu); (focus rfl); (focus rfl); (focus rfl); (focus rfl))
     | ((with_reducible apply jqu); (focus rfl); (focus rfl); (focus rfl); (focus rfl))
     | with_reducible exact tq_normal
     | with_reducible exact tq_ret
     | with_reducible exact tq_exit
     )
    | (first
     | with_reducible exact tq_panic
     | with_reducible exact bq_normal
     | with_reducible exact bq_ret
     | with_reducible exact bq_exit
     | ((with_reducible apply bq_exit'); (focus decide))
     | with_reducible exact bq_panic
     | ((with_reducible apply jpan); (focus rfl))
     | with_reducible exact J_seq
     | with_reducible exact J_region
     )
    | (first
     | ((with_reducible apply J_region_anyA); (focus exact mixed); (focus rfl); (focus ((repeat (with_reducible apply len_cons)); exact len_nil)); (focus (decide +kernel)))
     )
    | (first
     | ((with_reducible apply (J_region_mix 0)); (focus exact mixed); (focus rfl); (focus ((repeat (with_reducible apply len_cons)); exact len_nil)); (focus (decide +kernel)); (focus ((repeat (with_reducible apply Mix.cons)); exact Mix.nil)))
     | ((with_reducible apply (J_region_mix 1)); (focus exact mixed); (focus rfl); (focus ((repeat (with_reducible apply len_cons)); exact len_nil)); (focus (decide +kernel)); (focus ((repeat (with_reducible apply Mix.cons)); exact Mix.nil)))
     | ((with_reducible apply (J_region_mix 2)); (focus exact mixed); (focus rfl); (focus ((repeat (with_reducible apply len_cons)); exact len_nil)); (focus (decide +kernel)); (focus ((repeat (with_reducible apply Mix.cons)); exact Mix.nil)))
     | ((with_reducible apply (J_region_mix 3)); (focus exact mixed); (focus rfl); (focus ((repeat (with_reducible apply len_cons)); exact len_nil)); (focus (decide +kernel)); (focus ((repeat (with_reducible apply Mix.cons)); exact Mix.nil)))
     | ((with_reducible apply (J_region_mix 4)); (focus exact mixed); (focus rfl); (focus ((repeat (with_reducible apply len_cons)); exact len_nil)); (focus (decide +kernel)); (focus ((repeat (with_reducible apply Mix.cons)); exact Mix.nil)))
     | ((with_reducible apply (J_region_mix 5)); (focus exact mixed); (focus rfl); (focus ((repeat (with_reducible apply len_cons)); exact len_nil)); (focus (decide +kernel)); (focus ((repeat (with_reducible apply Mix.cons)); exact Mix.nil)))
     | ((with_reducible apply (J_region_mix 6)); (focus exact mixed); (focus rfl); (focus ((repeat (with_reducible apply len_cons)); exact len_nil)); (focus (decide +kernel)); (focus ((repeat (with_reducible apply Mix.cons)); exact Mix.nil)))
     | ((with_reducible apply (J_region_mix 7)); (focus exact mixed); (focus rfl); (focus ((repeat (with_reducible apply len_cons)); exact len_nil)); (focus (decide +kernel)); (focus ((repeat (with_reducible apply Mix.cons)); exact Mix.nil)))
     | ((with_reducible apply (J_region_mix 8)); (focus exact mixed); (focus rfl); (focus ((repeat (with_reducible apply len_cons)); exact len_nil)); (focus (decide +kernel)); (focus ((repeat (with_reducible apply Mix.cons)); exact Mix.nil)))
     )
    | (first
     | with_reducible exact J_block
     | ((with_reducible apply J_region_tail); (focus exact mixed); (focus ((repeat (with_reducible apply len_cons)); exact len_nil)); (focus (decide +kernel)))
     | ((with_reducible apply (J_region_tailT 2)); (focus exact mixed); (focus ((repeat (with_reducible apply len_cons)); exact len_nil)); (focus (decide +kernel)))
     | ((with_reducible apply (J_region_tailT 3)); (focus exact mixed); (focus ((repeat (with_reducible apply len_cons)); exact len_nil)); (focus (decide +kernel)))
     | ((with_reducible apply (J_region_tailT 4)); (focus exact mixed); (focus ((repeat (with_reducible apply len_cons)); exact len_nil)); (focus (decide +kernel)))
     | ((with_reducible apply (J_region_tailT 5)); (focus exact mixed); (focus ((repeat (with_reducible apply len_cons)); exact len_nil)); (focus (decide +kernel)))
     | ((with_reducible apply (J_region_tailT 6)); (focus exact mixed); (focus ((repeat (with_reducible apply len_cons)); exact len_nil)); (focus (decide +kernel)))
     | ((with_reducible apply (J_region_tailT 7)); (focus exact mixed); (focus ((repeat (with_reducible apply len_cons)); exact len_nil)); (focus (decide +kernel)))
     | ((with_reducible apply J_region_draw); (focus exact mixed); (focus (decide +kernel)); (focus ((repeat (with_reducible apply len_cons)); exact len_nil)))
     | with_reducible exact JQ_nil
     | ((with_reducible apply jqp); (focus exact pureD); (focus rfl))
     | ((with_reducible apply jqt); (focus rfl); (focus rfl); (focus rfl); (focus rfl); (focus rfl))
     | ((with_reducible apply jqf); (focus rfl); (focus rfl); (focus rfl); (focus rfl); (focus rfl))
     | (first
      | ((with_reducible apply jbuild_byte); (focus rfl); (focus rfl); (focus (with_reducible exact ElC.h)); (focus rfl); (focus rfl))
      | ((with_reducible apply jbuild_int); (focus rfl); (focus rfl); (focus (with_reducible exact ElC.h)); (focus rfl); (focus rfl))
      | ((with_reducible apply jbuild_bool); (focus rfl); (focus rfl); (focus (with_reducible exact ElC.h)); (focus rfl); (focus rfl))
      | ((with_reducible apply jbuild_list); (focus rfl); (focus rfl); (focus (with_reducible exact ElC.h)); (focus rfl); (focus rfl))
      | ((with_reducible apply jbuild_agg); (focus rfl); (focus rfl); (focus (with_reducible exact ElC.h)); (focus rfl); (focus rfl); (focus rfl); (focus rfl); (focus rfl))
      | ((with_reducible apply jbuild_two); (focus rfl); (focus rfl); (focus (with_reducible exact ElC.h)); (focus rfl); (focus rfl)))
     | ((with_reducible apply japp); (focus rfl); (focus rfl); (focus rfl); (focus (with_reducible exact ElC.h)); (focus rfl); (focus rfl); (focus rfl); (focus exact bndD); (focus exact bndD))
     )
    | (first
     | ((with_reducible apply japp_copy); (focus rfl); (focus rfl); (focus rfl); (focus (with_reducible exact ElC.h)); (focus rfl); (focus rfl); (focus rfl); (focus exact fun _ => rfl); (focus exact bndD); (focus exact bndD))
     | with_reducible exact J_skip
     | with_reducible exact J_ret
     | with_reducible exact J_exit
     | ((with_reducible apply jcond); (focus rfl))
     | with_reducible exact cb_true
     | with_reducible exact cb_false
     | with_reducible exact cb_decT
     | with_reducible exact cb_not
     )
    | (first
     | with_reducible exact cb_splitT
     )
    | (first
     | ((with_reducible apply je_q); (focus rfl); (focus (decide +kernel)); (focus exact pureD); (focus rfl))
     | ((with_reducible apply je_qy); (focus rfl); (focus rfl); (focus rfl); (focus rfl); (focus rfl); (focus (decide +kernel)); (focus exact pureD); (focus rfl))
     | ((with_reducible apply je_gt); (focus rfl); (focus rfl); (focus rfl); (focus rfl); (focus rfl); (focus (decide +kernel)); (focus rfl))
     | ((with_reducible apply je_gf); (focus rfl); (focus rfl); (focus rfl); (focus rfl); (focus rfl); (focus (decide +kernel)); (focus rfl))
     | ((with_reducible apply je_gu); (focus rfl); (focus rfl); (focus rfl); (focus rfl); (focus (decide +kernel)); (focus rfl))
     | ((with_reducible apply je_done); (focus (decide +kernel)))
     | ((with_reducible apply je_swap); (focus ((repeat (with_reducible apply Rv.cons)); exact Rv.nil)))
     | ((with_reducible apply je_hold); (focus (decide +kernel)))
     )
    | (first
     | ((with_reducible apply J_region_any); (focus exact mixed); (focus rfl); (focus ((repeat (with_reducible apply len_cons)); exact len_nil)); (focus (decide +kernel)))
     | ((with_reducible apply jxp_done); (focus (decide +kernel)))
     | ((with_reducible apply jxp_move); (focus rfl); (focus (decide +kernel)); (focus rfl); (focus rfl))
     | ((with_reducible apply jxp_assign); (focus rfl); (focus (decide +kernel)); (focus rfl); (focus rfl))
     | ((with_reducible apply jxp_extract); (focus rfl); (focus (decide +kernel)); (focus rfl); (focus rfl); (focus rfl))
     | with_reducible apply jxp_next
     | ((with_reducible apply jxp_end); (focus (decide +kernel)); (focus rfl))
     | with_reducible exact jxs_nil
     | ((with_reducible apply jxs_no); (focus (decide +kernel)))
     | ((with_reducible apply jxs_yesT); (focus rfl))
     | with_reducible apply jxp_nil
     | with_reducible apply jxand
     )
    ))))
 exact fun h => h) : p → q := h
theorem stp {p q : Prop} (hp : p) (h : p → q := by exact stpF) : q := h hp
theorem stpA {p q : Prop} (hp : p) (h : p → q := by haveI fA_ : FlagA := ⟨⟩; exact stpF) : q := h hp
theorem stpH {p q : Prop} (hp : p) (h : p → q := by haveI fA_ : FlagA := ⟨⟩; haveI fH_ : FlagH := ⟨⟩; exact stpF) : q := h hp
theorem stp1 {p q : Prop} (hp : p) (h : p → q := by haveI fA_ : FlagA := ⟨⟩; haveI fH_ : FlagH := ⟨⟩; haveI fS_ : StopAt 1 := ⟨⟩; exact stpF) : q := h hp
theorem stp2 {p q : Prop} (hp : p) (h : p → q := by haveI fA_ : FlagA := ⟨⟩; haveI fH_ : FlagH := ⟨⟩; haveI fS_ : StopAt 2 := ⟨⟩; exact stpF) : q := h hp
theorem stpB {p q : Prop} (hp : p) (h : p → q := by haveI fA_ : FlagA := ⟨⟩; haveI fS_ : StopAt 2 := ⟨⟩; exact stpF) : q := h hp
theorem stp0 {p q : Prop} (hp : p) (h : p → q := by haveI fA_ : FlagA := ⟨⟩; haveI fS_ : StopAt 0 := ⟨⟩; exact stpF) : q := h hp
theorem takeD {p : Prop} (h : p := by (repeat (first | with_reducible exact Take.nil | ((with_reducible apply Take.cons); (focus ((repeat (first | with_reducible exact Sel.here | with_reducible apply Sel.there)); done))))); first | done | fail) : p := h
theorem appD {p : Prop} (h : p := by intro v_; (repeat (first | exact App.nil | apply App.cons)); first | done | fail) : p := h
open Go Go.Av Go.Sp

theorem cal_In : Cal Tryz.prog 80 := Cal.of Tryz.func80 (by kernel_rfl) (by kernel_rfl)
theorem cal_sameOps : Cal Tryz.prog 23 := Cal.of Tryz.func23 (by kernel_rfl) (by kernel_rfl)
theorem cal_sameTerms : Cal Tryz.prog 22 := Cal.of Tryz.func22 (by kernel_rfl) (by kernel_rfl)
theorem ACr_true {P : Program} {G : List (Nat × List D)} {f : FuncId} {xs : List AV} {p : Prop} [Decidable p] (h : ACr P G f xs (.bool (decide p))) (hp : p) : ACr P G f xs (.bool true) := by rwa [decide_eq_true hp] at h
theorem ACr_false {P : Program} {G : List (Nat × List D)} {f : FuncId} {xs : List AV} {p : Prop} [Decidable p] (h : ACr P G f xs (.bool (decide p))) (hp : ¬ p) : ACr P G f xs (.bool false) := by rwa [decide_eq_false hp] at h
theorem In (G : List (Nat × List D)) (x a b : Int) : ACr Tryz.prog G 80 [.int x, .int a, .int b] (.bool (decide (a ≤ x ∧ x ≤ b))) := by
 refine AC_of (ts := [6]) 15 Tryz.func80 rfl rfl rfl (by simp) fun W I => ?_
 repeat' (first
  | exact True.intro
  | refine stp ?_
  | refine two ?_ ?_
  | (refine imp fun hc => ?_) <;> try exact cx hc
  | refine all fun v_ => ?_)
 all_goals
  ((with_reducible apply rq1); rfl; rfl)
  refine ret_eq (congrArg AV.bool ?_)
  (first | rfl | (refine decide_eq_decide.2 ?_; omega) | (refine (decide_eq_true ?_).symm; omega) | (refine (decide_eq_false ?_).symm; omega) | (refine decide_eq_true ?_; omega) | (refine decide_eq_false ?_; omega))
theorem sameOps (G : List (Nat × List D)) (a b : List Fo) : ACr Tryz.prog G 23 [.d (opsD a), .d (opsD b)] (.bool (decide (a = b))) := by
 refine AC_of (ts := [4]) 26 Tryz.func23 rfl rfl rfl (by simp) fun W I => ?_
 refine jfact (t := 0) rfl fun hl0 => ?_
 refine jfact (t := 1) rfl fun hl1 => ?_
 repeat' (first
  | exact True.intro
  | refine stp ?_
  | refine two ?_ ?_
  | (refine imp fun hc => ?_) <;> try exact cx hc
  | refine all fun v_ => ?_)
 · ((with_reducible apply rq1); rfl; rfl)
   refine ret_eq ?_
   rw [decide_eq_false]
   intro e; subst e; omega
 refine J_loop (X := Nat) (fun i => [(0, .d (opsD a)), (1, .d (opsD b)), (5, .int i)]) (fun _ => []) (fun i => i ≤ a.length ∧ a.take i = b.take i) (fun i => a.length - i) 0 ⟨Nat.zero_le _, rfl⟩ ?_ rfl ?_
 · exact leD
 rintro i ⟨h1, h2⟩
 repeat' (first
  | exact True.intro
  | refine stp ?_
  | refine two ?_ ?_
  | (refine imp fun hc => ?_) <;> try exact cx hc
  | refine all fun v_ => ?_)
 all_goals first
  | (((with_reducible apply rq1); rfl; rfl)
     refine ret_eq ?_
     rw [decide_eq_false]
     intro e; subst e
     simp at hc)
  | (refine ⟨i + 1, ⟨by omega, take_step (by omega) (by omega) h2 ?_⟩, by first | omega | (dsimp only; omega), ?_, rfl⟩
     · (simp only [Bool.and_eq_true, beq_iff_eq] at hc; exact Fo.ext' hc.1 hc.2)
     · exact leD)
  | (((with_reducible apply rq1); rfl; rfl)
     refine ret_eq ?_
     rw [decide_eq_true]
     rwa [List.take_of_length_le (by omega), List.take_of_length_le (by omega)] at h2)
end Go.Proofs.YtajnpfgelpkijaaGreatDoor
namespace Go.Av
open Go
section
variable {P : Program} {G : List (Nat × List D)} {ρ : Env} {h : H} {dst : Option Tmp} {ty : TypeId} {pos : String} {after : Array Edge} {g : Option (Nat × Bool)}
theorem pu_nilptr {tp te : TypeId} {T' : TypeId} {x y : Operand} {p : Option Addr} (hx : evO ρ x = some (.val (.pointer p))) (hy : evO ρ y = some (.val (.pointer none))) (hT : P.underlying tp = some (.pointer te)) : Pure P G ⟨dst, .binOp .eql tp x y T', ty, pos, after, g⟩ ρ h (.bool (decide (p = none))) :=
 pure_bin (ev_of_evO hx) (ev_of_evO hy) (fun w => by simp [eqGuard, run_underlying hT]) fun w => by
  have h0 : ∀ d : Nat, (Op.equalIn (d + 1) tp (.pointer p) (.pointer none)).run P w = .ok (decide (p = none)) w := fun d => by
   cases p with
   | none => simp [Op.equalIn, run_underlying hT]
   | some a => simp [Op.equalIn, run_underlying hT]
  simp only [binOp]
  simp [Op.equal, Op.maxDepth, h0 9999]
theorem pu_sameptr {tp te : TypeId} {T' : TypeId} {x y : Operand} {a : Addr} {j : TypeInfo} (hx : evO ρ x = some (.val (.pointer (some a)))) (hy : evO ρ y = some (.val (.pointer (some a)))) (hT : P.underlying tp = some (.pointer te)) (hj : P.info? te = some j) : Pure P G ⟨dst, .binOp .neq tp x y T', ty, pos, after, g⟩ ρ h (.bool false) :=
 pure_bin (ev_of_evO hx) (ev_of_evO hy) (fun w => by simp [eqGuard, run_underlying hT]) fun w => Lib.run_neq_ptr_same w a hT hj
theorem shape_of_cells {w : World} {I : Nat → Prop} {b : Nat} {T : TypeId} {vs : List AV} (h : (Ent.cells b T vs).rel w I) : w.shape? b = some (T, vs.length) := by
 obtain ⟨cs, h1, h2⟩ := h
 have : vs.length = cs.size := by rw [AV.rels_length h2, Array.length_toList]
 simp [World.shape?, h1, this]
theorem pu_tounsafe {tp te up T : TypeId} {x : Operand} {b : Nat} {vs : List AV} {j : TypeInfo} (hx : evO ρ x = some (.val (.pointer (some ⟨b, 0, none⟩)))) (hm : Ent.cells b T vs ∈ h) (h0 : 0 < vs.length) (hs : P.underlying tp = some (.pointer te)) (hd : P.underlying up = some .unsafePointer) (ht : P.info? te = some j) (hj : j.size ≠ 0) :
 Pure P G ⟨dst, .convert tp up x, ty, pos, after, g⟩ ρ h (.val (.pointer (some ⟨b, 0, none⟩))) := by
 intro c I n a w _ hok hs'
 have e1 := rel_val (hs'.ev x) (ev_of_evO hx)
 obtain ⟨cs, hc1, hc2⟩ := hok.ent _ hm
 refine ⟨_, rfl, fun w' hw' => ?_⟩
 have hheap : w'.heap[b]? = some (.cells cs T (0, 0)) := (hw'.own b (mem_blks hm rfl)).trans hc1
 have hsh := shape_of_cells (I := I) (w := w') (b := b) (T := T) (vs := cs.toList.map fun v => AV.val v) ⟨cs, hheap, rels_vals _ _ _⟩
 have hl : vs.length = cs.size := by rw [AV.rels_length hc2, Array.length_toList]
 have hr := Lib.run_to_unsafe (P := P) w' ⟨b, 0, none⟩ hs hd ht hj hsh (by rw [List.length_map, Array.length_toList]; simp only; omega)
 simp [execOp, e1, hr]
theorem pu_fromunsafe {tp te up T : TypeId} {x : Operand} {b : Nat} {vs : List AV} {j : TypeInfo} (hx : evO ρ x = some (.val (.pointer (some ⟨b, 0, none⟩)))) (hm : Ent.cells b T vs ∈ h) (hs : P.underlying up = some .unsafePointer) (hd : P.underlying tp = some (.pointer te)) (ht : P.info? te = some j) (hl : liesAt P P.depth T (vs.length / P.cellsOf T) 0 te 1 = true) :
 Pure P G ⟨dst, .convert up tp x, ty, pos, after, g⟩ ρ h (.val (.pointer (some ⟨b, 0, none⟩))) := by
 intro c I n a w _ hok hs'
 have e1 := rel_val (hs'.ev x) (ev_of_evO hx)
 obtain ⟨cs, hc1, hc2⟩ := hok.ent _ hm
 refine ⟨_, rfl, fun w' hw' => ?_⟩
 have hheap : w'.heap[b]? = some (.cells cs T (0, 0)) := (hw'.own b (mem_blks hm rfl)).trans hc1
 have hsh := shape_of_cells (I := I) (w := w') (b := b) (T := T) (vs := cs.toList.map fun v => AV.val v) ⟨cs, hheap, rels_vals _ _ _⟩
 have hl' : (cs.toList.map fun v => AV.val v).length = vs.length := by rw [List.length_map, AV.rels_length hc2]
 have hr := Lib.run_from_unsafe (P := P) w' ⟨b, 0, none⟩ hs hd ht hsh (by rw [hl']; exact hl)
 simp [execOp, e1, hr]
theorem pu_noescape {f : FuncId} {x : Operand} {T : TypeId} {v : Value} {fn : Func} (hx : evO ρ x = some (.val v)) (hf : P.funcs[f]? = some fn) (hname : (fn.name == "runtime.NumGoroutine") = false) (hb : fn.body.isNone = true) (hn : Extern.findNext fn = none) (he : Extern.find fn = some Extern.AbiNoEscape.same) :
 Pure P G ⟨dst, .call { callee := .value (.func f), args := #[x], argTypes := #[T] }, ty, pos, after, g⟩ ρ h (.val v) :=
 pure_free fun w I _ a hs => ⟨_, rfl, fun w' => by
  have e1 := rel_val (hs.ev x) (ev_of_evO hx)
  have hr := run_callFunc_extern hf hname hb hn he #[v] w'
  rw [execOp_call_go]
  have e2 : (#[] ++ #[x].map a.eval ++ #[] : Array Value) = #[v] := by simp [e1]
  rw [e2, hr, Lib.run_noEscape]
  rfl⟩
end
section
variable {k : Kx} {Q : Exit → Env → H → Prop} {ρ : Env} {h : H} {ops : Array Oper} {l : List Oper} {d : Nat} {ty : TypeId} {pos : String} {after : Array Edge}
theorem jappT {xs ys : List UInt8} {T U E : TypeId} {x y : Operand} {v : Value} {H' : Sl → H} (hx : evO ρ x = some (.val v)) (hT : k.P.underlying T = some (.slice E)) (hU : k.P.underlying U = some .string) (he : El k.P E (.int .u8 0) 1 1)
 (hu : ∀ q : Sl, Upd (rowE v E 1 byteC xs) (rowE q.v E 1 byteC (xs ++ ys)) h (H' q)) (hy : evO ρ y = some (.val (.string (Go.Sp.tx ys)))) (hd : Nat.blt d k.n = true) (hb : xs.length + ys.length ≤ 140737488355328)
 (hj : All fun q : Sl => JL k ops l Q ((d, .val q.v) :: ρ) (H' q)) :
 JL k ops (⟨some d, .call { callee := .builtin .append, args := #[x, y], argTypes := #[T, U] }, ty, pos, after, none⟩ :: l) Q ρ h :=
 jappS hx hT hU he hu hy hd hb hj
end
end Go.Av
namespace Go.Proofs.YtajnpfgelpkijaaGreatDoor
open Go Go.Av Go.Sp
theorem el_pBuilder : El Tryz.prog 83 (.pointer none) 1 8 := by unfold El; kernel_rfl
instance instR1_1 : ElC Tryz.prog 83 (.pointer none) 1 8 := ⟨el_pBuilder⟩
theorem cal_copyCheck : Cal Tryz.prog 54 := Cal.of Tryz.func54 (by kernel_rfl) (by kernel_rfl)
theorem cal_WriteByte : Cal Tryz.prog 30 := Cal.of Tryz.func30 (by kernel_rfl) (by kernel_rfl)
theorem cal_WriteString : Cal Tryz.prog 28 := Cal.of Tryz.func28 (by kernel_rfl) (by kernel_rfl)
theorem cal_String : Cal Tryz.prog 32 := Cal.of Tryz.func32 (by kernel_rfl) (by kernel_rfl)
abbrev selfP (b : Nat) : Value := .pointer (some ⟨b, 0, none⟩)
abbrev newP (b : Nat) (u : Bool) : Value := .pointer (bif u then some ⟨b, 0, none⟩ else none)
theorem infoBuilder : ∃ j, Tryz.prog.info? 86 = some j ∧ j.size ≠ 0 := by
 have h : (Tryz.prog.info? 86).map (·.size) = some 2 := by kernel_rfl
 cases e : Tryz.prog.info? 86 with
 | none => rw [e] at h; cases h
 | some j => rw [e] at h; exact ⟨j, rfl, by simp at h; omega⟩
theorem liesBuilder : liesAt Tryz.prog Tryz.prog.depth 86 (2 / Tryz.prog.cellsOf 86) 0 86 1 = true := by kernel_rfl
theorem copyCheck (G : List (Nat × List D)) (b : Nat) (u : Bool) (v : Value) : AC Tryz.prog G 54 [.val (selfP b)] [.cells b 86 [.val (newP b u), .val v]] fun e h => ∃ _ : Unit, e = .ret (.tup []) ∧ h = [.cells b 86 [.val (selfP b), .val v]] := by
 obtain ⟨j, hj, hj0⟩ := infoBuilder
 refine AC_of (ts := []) Tryz.f54.ntmps Tryz.func54 rfl rfl rfl (by simp [Tryz.ntmps54]) fun W I => ?_
 cases u with
 | false =>
   repeat' (first
    | ((with_reducible apply jp); (focus ((with_reducible apply pu_nilptr); rfl; rfl; rfl)); (focus rfl))
    | ((with_reducible apply jp); (focus ((with_reducible apply (pu_sameptr (j := j))); rfl; rfl; rfl; (focus assumption))); (focus rfl))
    | ((with_reducible apply jp); (focus ((with_reducible apply (pu_tounsafe (j := j))); rfl; (focus exact memD); (focus exact Nat.succ_pos _); rfl; rfl; (focus assumption); (focus assumption))); (focus rfl))
    | ((with_reducible apply jp); (focus ((with_reducible apply (pu_fromunsafe (j := j))); rfl; (focus exact memD); rfl; rfl; (focus assumption); (focus exact liesBuilder))); (focus rfl))
    | ((with_reducible apply jp); (focus ((with_reducible apply pu_noescape); rfl; (focus exact Tryz.func94); (focus (kernel_rfl)); (focus (kernel_rfl)); (focus (kernel_rfl)); (focus (kernel_rfl)))); (focus rfl))
    | exact True.intro | refine stpA ?_ | refine two ?_ ?_
    | (refine imp fun hc => ?_) <;> try exact cx hc
    | refine all fun v_ => ?_)
   exact ⟨(), rfl, rfl⟩
 | true =>
   repeat' (first
    | ((with_reducible apply jp); (focus ((with_reducible apply pu_nilptr); rfl; rfl; rfl)); (focus rfl))
    | ((with_reducible apply jp); (focus ((with_reducible apply (pu_sameptr (j := j))); rfl; rfl; rfl; (focus assumption))); (focus rfl))
    | ((with_reducible apply jp); (focus ((with_reducible apply (pu_tounsafe (j := j))); rfl; (focus exact memD); (focus exact Nat.succ_pos _); rfl; rfl; (focus assumption); (focus assumption))); (focus rfl))
    | ((with_reducible apply jp); (focus ((with_reducible apply (pu_fromunsafe (j := j))); rfl; (focus exact memD); rfl; rfl; (focus assumption); (focus exact liesBuilder))); (focus rfl))
    | ((with_reducible apply jp); (focus ((with_reducible apply pu_noescape); rfl; (focus exact Tryz.func94); (focus (kernel_rfl)); (focus (kernel_rfl)); (focus (kernel_rfl)); (focus (kernel_rfl)))); (focus rfl))
    | exact True.intro | refine stpA ?_ | refine two ?_ ?_
    | (refine imp fun hc => ?_) <;> try exact cx hc
    | refine all fun v_ => ?_)
   exact ⟨(), rfl, rfl⟩
theorem WriteByte (G : List (Nat × List D)) (b : Nat) (u : Bool) (q : Sl) (xs : List UInt8) (c : UInt8) (hb : xs.length ≤ 140737488355327) : AC Tryz.prog G 30 [.val (selfP b), AV.byte c] [.cells b 86 [.val (newP b u), .val q.v], rowE q.v 5 1 byteC xs] fun e h => ∃ q' : Sl, e = .ret (.val .nilIface) ∧ h = [.cells b 86 [.val (selfP b), .val q'.v], rowE q'.v 5 1 byteC (xs ++ [c])] := by
 refine AC_of (ts := [4]) Tryz.f30.ntmps Tryz.func30 rfl rfl rfl (by simp [Tryz.ntmps30]) fun W I => ?_
 repeat' (first
  | refine cag cal_copyCheck (copyCheck G b u q.v) ?_
  | exact True.intro | refine stpA ?_ | refine two ?_ ?_
  | (refine imp fun hc => ?_) <;> try exact cx hc
  | refine all fun v_ => ?_)
 exact ⟨_, rfl, rfl⟩
theorem WriteString (G : List (Nat × List D)) (b : Nat) (u : Bool) (q : Sl) (xs l : List UInt8) (hb : xs.length + l.length ≤ 140737488355328) : AC Tryz.prog G 28 [.val (selfP b), .val (.string (tx l))] [.cells b 86 [.val (newP b u), .val q.v], rowE q.v 5 1 byteC xs] fun e h => ∃ q' : Sl, e = .ret (.tup [.int l.length, .val .nilIface]) ∧ h = [.cells b 86 [.val (selfP b), .val q'.v], rowE q'.v 5 1 byteC (xs ++ l)] := by
 refine AC_of (ts := [4, 5]) Tryz.f28.ntmps Tryz.func28 rfl rfl rfl (by simp [Tryz.ntmps28]) fun W I => ?_
 repeat' (first
  | refine cag cal_copyCheck (copyCheck G b u q.v) ?_
  | ((with_reducible apply (jappT (ys := l))); (focus rfl); (focus rfl); (focus rfl); (focus (with_reducible exact ElC.h)); (focus exact updqD); (focus rfl); (focus rfl); (focus exact bndD))
  | ((with_reducible apply jp); (focus ((with_reducible apply pu_lenT); rfl; rfl)); (focus rfl))
  | exact True.intro | refine stpA ?_ | refine two ?_ ?_
  | (refine imp fun hc => ?_) <;> try exact cx hc
  | refine all fun v_ => ?_)
 exact ⟨_, rfl, rfl⟩
theorem String (G : List (Nat × List D)) (b : Nat) (u : Bool) (q : Sl) (xs : List UInt8) (h0 : 0 < xs.length) (hb : xs.length ≤ 140737488355328) : AC Tryz.prog G 32 [.val (selfP b)] [.cells b 86 [.val (newP b u), .val q.v], rowE q.v 5 1 byteC xs] fun e h => ∃ _ : Unit, e = .ret (.val (.string (tx xs))) ∧ h = [] := by
 refine AC_ofV (ts := [2]) Tryz.f32.ntmps Tryz.func32 rfl rfl rfl (by simp [Tryz.ntmps32]) fun W I => ?_
 haveI fS_ : StopAt 0 := ⟨⟩
 repeat' (first
  | ((with_reducible apply jqp); (focus ((with_reducible apply (pu_sdata (xs := xs))); rfl; (focus exact memD); (focus assumption))); (focus rfl))
  | ((with_reducible apply (justr (xs := xs) (q := q))); (focus rfl); (focus rfl); (focus rfl); (focus (kernel_rfl)); (focus ((repeat (first | exact Sel.here | with_reducible apply Sel.there)); done)); (focus assumption); (focus rfl); (focus assumption))
  | exact True.intro
  | refine stp ?_
  | refine two ?_ ?_
  | (refine imp fun hc => ?_) <;> try exact cx hc
  | refine all fun v_ => ?_)
 clear fS_
 refine ⟨J_region_tailT 2 mixed (by (repeat (with_reducible apply len_cons)); exact len_nil) (by decide +kernel) ?_⟩
 repeat' (first
  | ((with_reducible apply jqp); (focus ((with_reducible apply (pu_sdata (xs := xs))); rfl; (focus exact memD); (focus assumption))); (focus rfl))
  | ((with_reducible apply (justr (xs := xs) (q := q))); (focus rfl); (focus rfl); (focus rfl); (focus (kernel_rfl)); (focus ((repeat (first | exact Sel.here | with_reducible apply Sel.there)); done)); (focus assumption); (focus rfl); (focus assumption))
  | exact True.intro | refine stpA ?_ | refine two ?_ ?_
  | (refine imp fun hc => ?_) <;> try exact cx hc
  | refine all fun v_ => ?_)
 refine retv (VS.drop (List.nil_sublist _)) ?_
 ((with_reducible apply rq1); rfl; rfl)
 exact ⟨(), rfl, rfl⟩
end Go.Proofs.YtajnpfgelpkijaaGreatDoor
namespace Go.Proofs
open Go.Shelf
def Tryz.laysM171_ren : Go.Shelf.Ren := ⟨fun | 171 => 29 | 243 => 55 | 246 => 95 | 283 => 129 | 284 => 130 | 285 => 131 | 286 => 132 | 129 => 161 | 317 => 160 | 318 => 162 | 319 => 163 | 320 => 164 | 337 => 182 | 338 => 183 | n => n, fun | 3 => 3 | 9 => 9 | 2 => 2 | 4 => 4 | 171 => 198 | 0 => 0 | 53 => 199 | 37 => 84 | 5 => 5 | 173 => 202 | 212 => 233 | 51 => 234 | 20 => 20 | 213 => 235 | 46 => 219 | 232 => 258 | 233 => 259 | n => n, fun | 17 => 4 | 18 => 8 | 19 => 9 | n => n⟩
theorem Tryz.laysM171 : Go.Proofs.LaysM.n171 Tryz.prog Tryz.laysM171_ren := {
 mixed := by kernel_rfl
 f129 := Tryz.func161.trans (congrArg some (by kernel_rfl))
 f171 := Tryz.func29.trans (congrArg some (by kernel_rfl))
 f243 := Tryz.func55.trans (congrArg some (by kernel_rfl))
 f246 := Tryz.func95.trans (congrArg some (by kernel_rfl))
 f283 := Tryz.func129.trans (congrArg some (by kernel_rfl))
 f284 := Tryz.func130.trans (congrArg some (by kernel_rfl))
 f285 := Tryz.func131.trans (congrArg some (by kernel_rfl))
 f286 := Tryz.func132.trans (congrArg some (by kernel_rfl))
 f317 := Tryz.func160.trans (congrArg some (by kernel_rfl))
 f318 := Tryz.func162.trans (congrArg some (by kernel_rfl))
 f319 := Tryz.func163.trans (congrArg some (by kernel_rfl))
 f320 := Tryz.func164.trans (congrArg some (by kernel_rfl))
 f337 := Tryz.func182.trans (congrArg some (by kernel_rfl))
 f338 := Tryz.func183.trans (congrArg some (by kernel_rfl))
 t0 := Tryz.underlying0
 a0 := Tryz.isAgg0
 z0 := Tryz.sizeOf0
 v0 := Tryz.zeroValue0
 t2 := Tryz.underlying2
 a2 := Tryz.isAgg2
 z2 := Tryz.sizeOf2
 v2 := Tryz.zeroValue2
 t3 := Tryz.underlying3
 a3 := Tryz.isAgg3
 z3 := Tryz.sizeOf3
 v3 := Tryz.zeroValue3
 t4 := Tryz.underlying4
 a4 := Tryz.isAgg4
 z4 := Tryz.sizeOf4
 v4 := Tryz.zeroValue4
 t5 := Tryz.underlying5
 a5 := Tryz.isAgg5
 z5 := Tryz.sizeOf5
 v5 := Tryz.zeroValue5
 t9 := Tryz.underlying9
 a9 := Tryz.isAgg9
 z9 := Tryz.sizeOf9
 v9 := Tryz.zeroValue9
 t20 := Tryz.underlying20
 a20 := Tryz.isAgg20
 z20 := Tryz.sizeOf20
 v20 := Tryz.zeroValue20
 t37 := Tryz.underlying84
 a37 := Tryz.isAgg84
 z37 := Tryz.sizeOf84
 v37 := Tryz.zeroValue84
 t46 := Tryz.underlying219
 a46 := Tryz.isAgg219
 z46 := Tryz.sizeOf219
 v46 := Tryz.zeroValue219
 t51 := Tryz.underlying234
 a51 := Tryz.isAgg234
 z51 := Tryz.sizeOf234
 v51 := Tryz.zeroValue234
 t53 := Tryz.underlying199
 a53 := Tryz.isAgg199
 z53 := Tryz.sizeOf199
 v53 := Tryz.zeroValue199
 t171 := Tryz.underlying198
 a171 := Tryz.isAgg198
 z171 := Tryz.sizeOf198
 v171 := Tryz.zeroValue198
 t173 := Tryz.underlying202
 a173 := Tryz.isAgg202
 z173 := Tryz.sizeOf202
 v173 := Tryz.zeroValue202
 t212 := Tryz.underlying233
 a212 := Tryz.isAgg233
 z212 := Tryz.sizeOf233
 v212 := Tryz.zeroValue233
 t213 := Tryz.underlying235
 a213 := Tryz.isAgg235
 z213 := Tryz.sizeOf235
 t232 := Tryz.underlying258
 a232 := Tryz.isAgg258
 z232 := Tryz.sizeOf258
 v232 := Tryz.zeroValue258
 t233 := Tryz.underlying259
 a233 := Tryz.isAgg259
 z233 := Tryz.sizeOf259
 v233 := Tryz.zeroValue259
 g17 := by kernel_rfl
 g18 := by kernel_rfl
 g19 := by kernel_rfl
 i0 := by kernel_rfl
 i2 := by kernel_rfl
 i3 := by kernel_rfl
 i4 := by kernel_rfl
 i5 := by kernel_rfl
 i9 := by kernel_rfl
 i20 := by kernel_rfl
 i37 := by kernel_rfl
 i46 := by kernel_rfl
 i51 := by kernel_rfl
 i53 := by kernel_rfl
 i171 := by kernel_rfl
 i173 := by kernel_rfl
 i212 := by kernel_rfl
 i232 := by kernel_rfl
 i233 := by kernel_rfl
 m17 := by kernel_rfl
 m18 := by kernel_rfl
 m19 := by kernel_rfl }
end Go.Proofs
namespace Go.Av
open Go Go.RowKit
theorem AV.rels_vals {w : World} {I : Nat → Prop} : ∀ {us vs : List Value}, AV.rels w I (us.map AV.val) vs → vs = us
 | [], [], _ => rfl
 | u :: us, v :: vs, ⟨h1, h2⟩ => by rw [AV.rels_vals h2, show v = u from h1]
theorem AC_leave {P : Program} {G : List (Nat × List D)} {f : FuncId} {us : List Value} {r : AV} {h : H}
 (hc : ∀ (w : World) (I : Nat → Prop), (∀ e ∈ h, e.rel w I) → (∀ q ∈ G, PD w I q.2 ⟨q.1, 0, none⟩) → Calls P f us.toArray w fun e w' => Below w.heap.size w w' ∧ ∃ v, e = .returned v ∧ AV.rel w' I r v) :
 AC P G f (us.map AV.val) h fun e h' => e = .ret r ∧ h' = h := by
 intro I W vs h1 h2 h3 h4 h5
 rw [AV.rels_vals h5]
 refine (hc W I h1 h4).mono ?_
 rintro e w' ⟨hb, v, rfl, hv⟩
 have same : ∀ b, b < W.heap.size → w'.heap[b]? = W.heap[b]? := hb.block
 refine ⟨.ret r, h, I, ⟨rfl, rfl⟩, ⟨fun e he => ?_, h2, fun b hI => ⟨Nat.lt_of_lt_of_le (h3 b hI).1 hb.size, (h3 b hI).2⟩, fun b hb' => .inl hb', fun b hI => .inl hI, fun b hI => hI, hb.os, hb.tape, hb.output, hb.size, fun b hlt _ => same b hlt, fun q hq => ?_⟩, hv⟩
 · exact Ent.rel_mono (fun b hI => same b (h3 b hI).1) (fun b hI => hI) (fun b hb' => same b (Ent.blk_lt (h1 e he) hb')) (h1 e he)
 · exact PD.mono (fun b hI => same b (h3 b hI).1) (fun b hI => hI) (h4 q hq)
theorem ACr_leave {P : Program} {G : List (Nat × List D)} {f : FuncId} {us : List Value} {r : Value}
 (hc : ∀ (w : World) (I : Nat → Prop), (∀ q ∈ G, PD w I q.2 ⟨q.1, 0, none⟩) → Calls P f us.toArray w fun e w' => e = .returned r ∧ Below w.heap.size w w') :
 ACr P G f (us.map AV.val) (.val r) :=
 AC_leave fun w I _ hg => (hc w I hg).mono fun _ _ ⟨e, hb⟩ => ⟨hb, r, e, rfl⟩
theorem below_drew_grow (w : World) (n : Nat) (os : Array Obj) : Below w.heap.size w (Go.Sort.grow (w.drewN n) os) := ⟨rfl, rfl, rfl, by unfold Go.Sort.grow World.drewN; simp, fun k hk => by unfold Go.Sort.grow World.drewN; simp only; rw [Array.getElem?_append_left hk]⟩
theorem AC_pieces {P : Program} {G : List (Nat × List D)} {f : FuncId} {us : List Value} {T : TypeId} {l : List ByteArray} (h0 : 0 < l.length) (hm : l.length ≤ 8796093022208)
 (hc : ∀ (w : World) (I : Nat → Prop), (∀ q ∈ G, PD w I q.2 ⟨q.1, 0, none⟩) → Calls P f us.toArray w fun e w' => e = .returned (.slice (some ⟨w.heap.size, 0, none⟩) l.length l.length) ∧ w' = w.alloc (.cells (l.map Value.string).toArray T)) :
 ACr P G f (us.map AV.val) (.d (.l 1 16 (l.map fun s => [.s s]))) := by
 intro I W vs h1 h2 h3 h4 h5
 rw [AV.rels_vals h5]
 refine (hc W I h4).mono ?_
 rintro e w' ⟨rfl, rfl⟩
 have hb : Below W.heap.size W (W.alloc (.cells (l.map Value.string).toArray T)) := (Below.refl _ W).alloc (Nat.le_refl _) _
 have same : ∀ b, b < W.heap.size → (W.alloc (.cells (l.map Value.string).toArray T)).heap[b]? = W.heap[b]? := hb.block
 have new : (W.alloc (.cells (l.map Value.string).toArray T)).heap[W.heap.size]? = some (.cells (l.map Value.string).toArray T) := World.alloc_heap_new W _
 have hlt : W.heap.size < (W.alloc (.cells (l.map Value.string).toArray T)).heap.size := (Array.getElem?_eq_some_iff.1 new).1
 refine ⟨.ret _, [], fun b => I b ∨ b = W.heap.size, ⟨rfl, rfl⟩, ⟨fun e he => (by cases he), h2, fun b hI => ⟨?_, by simp [blks]⟩, fun b hb' => (by cases hb'), fun b hI => ?_, fun b hI => .inl hI, hb.os, hb.tape, hb.output, hb.size, fun b hl _ => same b hl, fun q hq => ?_⟩, ?_⟩
 · rcases hI with hI | rfl
   · exact Nat.lt_trans (h3 b hI).1 hlt
   · exact hlt
 · rcases hI with hI | rfl
   · exact .inl hI
   · exact .inr (.inr (Nat.le_refl _))
 · exact PD.mono (fun b hI => same b (h3 b hI).1) (fun b hI => .inl hI) (h4 q hq)
 · show Rel _ _ _ _
   have k := Rel.l (w := W.alloc (.cells (l.map Value.string).toArray T)) (I := fun b => I b ∨ b = W.heap.size) 1 16 (l.map fun s => [.s s]) ⟨W.heap.size, 0, none⟩ l.length (fun j _ => .string ((l[j]?).getD .empty)) (.inr rfl)
    (by simp) (by simp only [maxLen]; omega) (by rw [List.length_map]; omega) (fun r hr => by obtain ⟨s, _, rfl⟩ := List.mem_map.1 hr; rfl) (fun j u r x hr hx => by
     rw [List.getElem?_map] at hr
     cases e : l[j]? with
     | none => rw [e] at hr; cases hr
     | some s =>
       rw [e, Option.map_some, Option.some.injEq] at hr
       subst hr
       cases u with
       | zero =>
         rw [Option.getD_some]
         have ea : (⟨W.heap.size, 0, none⟩ : Addr).add (j * 1 + 0) = ⟨W.heap.size, j, none⟩ := by simp [Addr.add]; omega
         rw [ea]
         unfold World.cell?
         simp only
         rw [new]
         simp [e]
       | succ u => simp at hx) (fun j u r x hr hx => by
     rw [List.getElem?_map] at hr
     cases e : l[j]? with
     | none => rw [e] at hr; cases hr
     | some s =>
       rw [e, Option.map_some, Option.some.injEq] at hr
       subst hr
       cases u with
       | zero =>
         simp only [List.getElem?_cons_zero, Option.some.injEq] at hx
         subst hx
         exact .s s
       | succ u => simp at hx)
   rw [List.length_map] at k
   exact k
end Go.Av
