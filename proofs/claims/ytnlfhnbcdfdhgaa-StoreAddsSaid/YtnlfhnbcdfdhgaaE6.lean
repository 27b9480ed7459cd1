/-
 PLAIN, NO PROGRAM: the logic over values: maps of the call's own, told entry by entry in the order in which they came (over E5).
-/
import Derived.Test.YtnlfhnbcdfdhgaaE5
import Derived.Laws.IdiomStrings
namespace Go.Av
open Go Go.Instr
set_option linter.unusedVariables false
set_option linter.unusedSimpArgs false

/-- A map, entry by entry. -/
def mapEs : List (Value × Value) → Nat → List MapEntry
 | [], _ => []
 | p :: ps, i => ⟨p.1, p.2, i⟩ :: mapEs ps (i + 1)
def mapO (ps : List (Value × Value)) : Obj := .map (mapEs ps 0).toArray ps.length
theorem mapEs_length : ∀ (ps : List (Value × Value)) (i : Nat), (mapEs ps i).length = ps.length
 | [], _ => rfl
 | _ :: ps, i => by simp [mapEs, mapEs_length ps]
theorem mapEs_append : ∀ (ps qs : List (Value × Value)) (i : Nat), mapEs (ps ++ qs) i = mapEs ps i ++ mapEs qs (i + ps.length)
 | [], qs, i => by simp [mapEs]
 | p :: ps, qs, i => by
   simp only [List.cons_append, mapEs, mapEs_append ps qs (i + 1), List.length_cons]
   rw [show i + 1 + ps.length = i + (ps.length + 1) by omega]
/-- Keys of one kind, told by what they stand for. -/
structure KeyK (kd : TypeDesc) {α : Type} (kv : α → Value) [DecidableEq α] : Prop where
 same : ∀ a b, sameNow kd (kv a) (kv b) = some (decide (a = b))
 easy : ∀ (P : Program) (T : TypeId) (e : Bool) (a : α) (w : World), P.underlying T = some kd → (checkKey e 10000 T (kv a)).run P w = .ok () w
theorem keyK_int (k : IntKind) : KeyK (.int k) (Value.int k) where
 same a b := by
  simp only [sameNow, if_pos trivial]
  exact congrArg some (Bool.eq_iff_iff.2 (by simp))
 easy P T e a w h := by
  unfold checkKey
  simp [run_underlying h]
theorem ba_beq (a b : ByteArray) : (a == b) = true ↔ a = b := by
 cases a; cases b
 rw [ByteArray.mk.injEq]
 show (_ == _) = true ↔ _
 simp only [BEq.beq]
 unfold ByteArray.beq
 simp
theorem keyK_string : KeyK .string Value.string where
 same a b := by
  simp only [sameNow]
  exact congrArg some (Bool.eq_iff_iff.2 (by rw [ba_beq]; simp))
 easy P T e a w h := by
  unfold checkKey
  simp [run_underlying h]
section
variable {α β : Type} [DecidableEq α] {kd : TypeDesc} {kv : α → Value} {vv : β → Value}
/-- The entries of a map from keys to values. -/
def entL (kv : α → Value) (vv : β → Value) (ps : List (α × β)) : List (Value × Value) := ps.map fun p => (kv p.1, vv p.2)
theorem find_no (K : KeyK kd kv) (a : α) : ∀ (ps : List (α × β)) (i j : Nat), (∀ p ∈ ps, p.1 ≠ a) → findNow kd (kv a) (mapEs (entL kv vv ps) i) j = some none
 | [], _, _, _ => rfl
 | p :: ps, i, j, h => by
   have h1 : a ≠ p.1 := fun e => h p List.mem_cons_self e.symm
   simp only [entL, List.map_cons, mapEs, findNow, K.same, decide_eq_false h1]
   exact find_no K a ps (i + 1) (j + 1) fun q hq => h q (List.mem_cons_of_mem _ hq)
theorem find_yes (K : KeyK kd kv) (a : α) (b : β) : ∀ (ps qs : List (α × β)) (i j : Nat), (∀ p ∈ ps, p.1 ≠ a) → findNow kd (kv a) (mapEs (entL kv vv (ps ++ (a, b) :: qs)) i) j = some (some (j + ps.length, vv b))
 | [], qs, i, j, _ => by simp [entL, mapEs, findNow, K.same]
 | p :: ps, qs, i, j, h => by
   have h1 : a ≠ p.1 := fun e => h p List.mem_cons_self e.symm
   have ih := find_yes K a b ps qs (i + 1) (j + 1) fun q hq => h q (List.mem_cons_of_mem _ hq)
   simp only [entL] at ih
   simp only [entL, List.cons_append, List.map_cons, mapEs, findNow, K.same, decide_eq_false h1, ih, List.length_cons]
   rw [show j + 1 + ps.length = j + (ps.length + 1) by omega]
/-- What a map says of a key. -/
def getM (ps : List (α × β)) (a : α) : Option β := (ps.find? fun p => p.1 == a).map (·.2)
theorem getM_no {ps : List (α × β)} {a : α} (h : ∀ p ∈ ps, p.1 ≠ a) : getM ps a = none := by
 simp only [getM, Option.map_eq_none_iff, List.find?_eq_none]
 intro p hp
 simpa using h p hp
theorem getM_split {ps : List (α × β)} {a : α} (h : ¬ ∀ p ∈ ps, p.1 ≠ a) : ∃ b l r, ps = l ++ (a, b) :: r ∧ (∀ p ∈ l, p.1 ≠ a) ∧ getM ps a = some b := by
 induction ps with
 | nil => exact absurd (by simp) h
 | cons p ps ih =>
   by_cases e : p.1 = a
   · refine ⟨p.2, [], ps, by rw [← e]; rfl, by simp, ?_⟩
     simp [getM, e]
   · obtain ⟨b, l, r, h1, h2, h3⟩ := ih fun k => h fun q hq => by
      rcases List.mem_cons.1 hq with rfl | hq
      · exact e
      · exact k q hq
     refine ⟨b, p :: l, r, by rw [h1]; rfl, fun q hq => ?_, ?_⟩
     · rcases List.mem_cons.1 hq with rfl | hq
       · exact e
       · exact h2 q hq
     · rw [← h3]
       have e' : (p.1 == a) = false := by simpa using e
       simp [getM, List.find?_cons, e']
theorem getM_none {ps : List (α × β)} {a : α} : getM ps a = none ↔ ∀ p ∈ ps, p.1 ≠ a := by
 constructor
 · intro h
   by_cases k : ∀ p ∈ ps, p.1 ≠ a
   · exact k
   · obtain ⟨b, l, r, _, _, h3⟩ := getM_split k
     rw [h] at h3; cases h3
 · exact getM_no
theorem run_find (K : KeyK kd kv) {P : Program} {T : TypeId} (hT : P.underlying T = some kd) (ps : List (α × β)) (a : α) (w : World) :
 ∃ r : Option (Nat × Value), (findKey T (kv a) (mapEs (entL kv vv ps) 0)).run P w = .ok r w ∧ r.map (·.2) = (getM ps a).map vv := by
 by_cases h : ∀ p ∈ ps, p.1 ≠ a
 · refine ⟨none, ?_, by rw [getM_no h]; rfl⟩
   simp [findKey, run_underlying hT, find_no K a ps 0 0 h]
 · obtain ⟨b, l, r, e, h2, h3⟩ := getM_split h
   refine ⟨some (0 + l.length, vv b), ?_, by rw [h3]; rfl⟩
   subst e
   simp [findKey, run_underlying hT, find_yes K a b l r 0 0 h2]
end
section
variable {k : Kx} {Q : Exit → Env → H → Prop} {ρ ρ' : Env} {h h' : H} {ops : Array Oper} {l : List Oper} {d : Nat} {dst : Option Tmp} {ty : TypeId} {pos : String} {after : Array Edge} {g : Option (Nat × Bool)}
/-- make(map[K]V) -/
theorem jmkmap {T : TypeId} (hd : Nat.blt d k.n = true) (hj : All fun b : Nat => JL k ops l Q ((d, .val (.map (some b))) :: ρ) (.raw b (mapO []) :: h)) : JL k ops (⟨some d, .makeMap T none, ty, pos, after, none⟩ :: l) Q ρ h := by
 refine JL_eff rfl (fun t ht => by cases ht; exact blt hd) fun I ac w h1 h2 => ?_
 refine ⟨.map (some w.heap.size), w.alloc (.map #[] 0), I, .val (.map (some w.heap.size)), _, ?_, h1.fresh _ (.raw w.heap.size (mapO [])) rfl (heap_alloc_new w _), h2.fresh h1 _, rfl, hj.get w.heap.size⟩
 have hm : (makeMap T none).run k.P w = .ok (.map (some w.heap.size)) (w.alloc (.map #[] 0)) := rfl
 simp [execOp, hm]
theorem run_setM {P : Program} {w : World} {r : Nat} {es : Array MapEntry} {clock : Nat} (o : Obj) (hb : w.heap[r]? = some (.map es clock)) : (setObj r o).run P w = .ok () { w with heap := w.heap.setIfInBounds r o } := by
 simp [setObj, Sem.run, hb]
/-- m[k] = v, where m has no such key. -/
theorem js_putMr {α β : Type} [DecidableEq α] {kd : TypeDesc} {kv : α → Value} {vv : β → Value} (K : KeyK kd kv) {T KT ET : TypeId} {x y u : Operand} {r : AV} {b : Nat} {ps : List (α × β)} {a : α} {c : β}
 (hx : evO ρ x = some (.val (.map (some b)))) (hy : evO ρ y = some (.val (kv a))) (hv : evO ρ u = some r) (hr : ∀ w I v, AV.rel w I r v → v = vv c) (hT : k.P.underlying T = some (.map KT ET)) (hK : k.P.underlying KT = some kd)
 (hu : Upd (.raw b (mapO (entL kv vv ps))) (.raw b (mapO (entL kv vv (ps ++ [(a, c)])))) h h') (hno : getM ps a = none)
 (hj : JL k ops l Q ρ h') : JL k ops (⟨none, .mapUpdate T x y u, ty, pos, after, none⟩ :: l) Q ρ h := by
 obtain ⟨h1, h2, rfl, rfl⟩ := hu.split
 refine JL_eff_skip rfl rfl fun I ac w k1 k2 => ?_
 have e1 := rel_val (k2.ev x) (ev_of_evO hx)
 have e2 := rel_val (k2.ev y) (ev_of_evO hy)
 have e3 := hr _ _ _ (rel_as (k2.ev u) (ev_of_evO hv))
 have hb : w.heap[b]? = some (mapO (entL kv vv ps)) := k1.ent (.raw b (mapO (entL kv vv ps))) (by simp)
 have hfind := find_no (vv := vv) K a ps 0 0 (getM_none.1 hno)
 have hnew : Obj.map (mapEs (entL kv vv ps) 0 ++ [(⟨kv a, vv c, (entL kv vv ps).length⟩ : MapEntry)]).toArray ((entL kv vv ps).length + 1) = mapO (entL kv vv (ps ++ [(a, c)])) := by
  have e : entL kv vv (ps ++ [(a, c)]) = entL kv vv ps ++ [(kv a, vv c)] := by simp [entL]
  unfold mapO
  rw [e, mapEs_append]
  simp [mapEs]
 obtain ⟨g1, g2⟩ := k1.write (w' := { w with heap := w.heap.setIfInBounds b (mapO (entL kv vv (ps ++ [(a, c)]))) }) (e' := .raw b (mapO (entL kv vv (ps ++ [(a, c)])))) (b := b) rfl rfl rfl rfl rfl (by simp)
  (fun x hx => by simp [Array.getElem?_setIfInBounds, Ne.symm hx]) (by
   have hlt := (Array.getElem?_eq_some_iff.1 hb).1
   show _ = _
   simp [Array.getElem?_setIfInBounds, hlt])
 refine ⟨{ w with heap := w.heap.setIfInBounds b (mapO (entL kv vv (ps ++ [(a, c)]))) }, I, h1 ++ .raw b (mapO (entL kv vv (ps ++ [(a, c)]))) :: h2, ?_, g1, k2.mono g2 (fun _ h => h), hj⟩
 have hobj : (getObj b).run k.P w = .ok (.map (mapEs (entL kv vv ps) 0).toArray (entL kv vv ps).length) w := by simp [getObj, Sem.run, hb, mapO]
 have hset := run_setM (P := k.P) (w := w) (r := b) (mapO (entL kv vv (ps ++ [(a, c)]))) (es := (mapEs (entL kv vv ps) 0).toArray) (clock := (entL kv vv ps).length) hb
 simp only [execOp, e1, e2, e3, mapUpdate]
 simp [run_underlying hT, hobj, K.easy k.P KT false a w hK, findKey, run_underlying hK, hfind, hnew, hset]
end
section
variable {P : Program} {G : List (Nat × List D)} {ρ : Env} {h : H} {dst : Option Tmp} {ty : TypeId} {pos : String} {after : Array Edge} {g : Option (Nat × Bool)}
/-- v, ok := m[k] -/
theorem pu_lookM {α β : Type} [DecidableEq α] {kd : TypeDesc} {kv : α → Value} {vv : β → Value} (K : KeyK kd kv) {T KT ET : TypeId} {x y : Operand} {b : Nat} {ps : List (α × β)} {a : α} {z : Value} {sz eb : Nat}
 (hx : evO ρ x = some (.val (.map (some b)))) (hy : evO ρ y = some (.val (kv a))) (hT : P.underlying T = some (.map KT ET)) (hK : P.underlying KT = some kd) (hE : El P ET z sz eb) (hm : Ent.raw b (mapO (entL kv vv ps)) ∈ h) :
 Pure P G ⟨dst, .lookup T x y true, ty, pos, after, g⟩ ρ h (.tup [.val (((getM ps a).map vv).getD z), .bool (getM ps a).isSome]) := by
 intro c I n ac w _ hok hs
 obtain ⟨i, hi, hz, _, _⟩ := hE.get
 have e1 := rel_val (hs.ev x) (ev_of_evO hx)
 have e2 := rel_val (hs.ev y) (ev_of_evO hy)
 have hb : w.heap[b]? = some (mapO (entL kv vv ps)) := hok.ent _ hm
 refine ⟨.tuple #[((getM ps a).map vv).getD z, .bool (getM ps a).isSome], ⟨[_, _], rfl, rfl, rfl, trivial⟩, fun w' hw' => ?_⟩
 have hb' : w'.heap[b]? = some (mapO (entL kv vv ps)) := (hw'.own b (mem_blks hm rfl)).trans hb
 have hobj : (getObj b).run P w' = .ok (.map (mapEs (entL kv vv ps) 0).toArray (entL kv vv ps).length) w' := by simp [getObj, Sem.run, hb', mapO]
 obtain ⟨r, hr1, hr2⟩ := run_find (vv := vv) K hK ps a w'
 simp only [execOp, e1, e2, lookup]
 cases r with
 | none =>
   have hr3 : (getM ps a).map vv = none := hr2.symm
   have hr4 : getM ps a = none := by simpa using hr3
   simp [run_underlying hT, hobj, K.easy P KT _ a w' hK, hr1, hr4, zeroValue, typeInfo, hi, hz]
 | some r =>
   obtain ⟨j, v⟩ := r
   have hr3 : (getM ps a).map vv = some v := hr2.symm
   obtain ⟨bb, hb1, hb2⟩ := Option.map_eq_some_iff.1 hr3
   simp [run_underlying hT, hobj, K.easy P KT _ a w' hK, hr1, hb1, hb2]
end
/-! ### Sets -/
/-- A set, in the order in which its keys came. -/
def setO {α : Type} (kv : α → Value) (xs : List α) : Obj := mapO (entL kv (fun _ : Unit => .agg #[]) (xs.map fun x => (x, ())))
theorem getM_set {α : Type} [DecidableEq α] (xs : List α) (a : α) : (getM (xs.map fun x => (x, ())) a).isSome = decide (a ∈ xs) := by
 by_cases h : a ∈ xs
 · rw [decide_eq_true h]
   cases hg : getM (xs.map fun x => (x, ())) a with
   | none => exact absurd rfl (getM_none.1 hg (a, ()) (List.mem_map.2 ⟨a, h, rfl⟩))
   | some _ => rfl
 · rw [decide_eq_false h, getM_no]
   · rfl
   · intro p hp
     obtain ⟨x, hx, rfl⟩ := List.mem_map.1 hp
     exact fun e => h (by subst e; exact hx)
section
variable {k : Kx} {Q : Exit → Env → H → Prop} {ρ ρ' : Env} {h h' : H} {ops : Array Oper} {l : List Oper} {d : Nat} {dst : Option Tmp} {ty : TypeId} {pos : String} {after : Array Edge} {g : Option (Nat × Bool)}
theorem jmkset {α : Type} (kv : α → Value) {T : TypeId} (hd : Nat.blt d k.n = true) (hj : All fun b : Nat => JL k ops l Q ((d, .val (.map (some b))) :: ρ) (.raw b (setO kv []) :: h)) : JL k ops (⟨some d, .makeMap T none, ty, pos, after, none⟩ :: l) Q ρ h := jmkmap hd hj
/-- s[k] = struct{}{} -/
theorem js_putS {α : Type} [DecidableEq α] {kd : TypeDesc} {kv : α → Value} (K : KeyK kd kv) {T KT ET : TypeId} {x y u : Operand} {b : Nat} {xs : List α} {a : α}
 (hx : evO ρ x = some (.val (.map (some b)))) (hy : evO ρ y = some (.val (kv a))) (hv : evO ρ u = some (.agg [])) (hT : k.P.underlying T = some (.map KT ET)) (hK : k.P.underlying KT = some kd)
 (hu : Upd (.raw b (setO kv xs)) (.raw b (setO kv (xs ++ [a]))) h h') (hno : a ∉ xs)
 (hj : JL k ops l Q ρ h') : JL k ops (⟨none, .mapUpdate T x y u, ty, pos, after, none⟩ :: l) Q ρ h := by
 have hno' : getM (xs.map fun x => (x, ())) a = none := getM_no fun p hp => by
  obtain ⟨x, hx, rfl⟩ := List.mem_map.1 hp
  exact fun e => hno (by subst e; exact hx)
 have hu' : Upd (.raw b (mapO (entL kv (fun _ : Unit => .agg #[]) (xs.map fun x => (x, ()))))) (.raw b (mapO (entL kv (fun _ : Unit => .agg #[]) (xs.map (fun x => (x, ())) ++ [(a, ())])))) h h' := by
  have := hu
  unfold setO at this
  rwa [List.map_append] at this
 exact js_putMr K (c := ()) hx hy hv (fun w I v hr => by
  obtain ⟨vs, e1, e2⟩ := hr
  cases vs with
  | nil => exact e1
  | cons _ _ => exact e2.elim) hT hK hu' hno' hj
end
section
variable {P : Program} {G : List (Nat × List D)} {ρ : Env} {h : H} {dst : Option Tmp} {ty : TypeId} {pos : String} {after : Array Edge} {g : Option (Nat × Bool)}
/-- _, ok := s[k] -/
theorem pu_lookS {α : Type} [DecidableEq α] {kd : TypeDesc} {kv : α → Value} (K : KeyK kd kv) {T KT ET : TypeId} {x y : Operand} {b : Nat} {xs : List α} {a : α} {eb : Nat}
 (hx : evO ρ x = some (.val (.map (some b)))) (hy : evO ρ y = some (.val (kv a))) (hT : P.underlying T = some (.map KT ET)) (hK : P.underlying KT = some kd) (hE : El P ET (.agg #[]) 0 eb) (hm : Ent.raw b (setO kv xs) ∈ h) :
 Pure P G ⟨dst, .lookup T x y true, ty, pos, after, g⟩ ρ h (.tup [.agg [], .bool (decide (a ∈ xs))]) := by
 intro c I n ac w e1 e2 e3
 obtain ⟨v, hv, hrun⟩ := pu_lookM (P := P) (G := G) (ρ := ρ) (h := h) (dst := dst) (ty := ty) (pos := pos) (after := after) (g := g) (vv := fun _ : Unit => .agg #[]) K hx hy hT hK hE hm c I n ac w e1 e2 e3
 refine ⟨v, ?_, hrun⟩
 obtain ⟨vs, h1, h2⟩ := hv
 refine ⟨vs, h1, ?_⟩
 match vs, h2 with
 | [p, q], ⟨g1, g2, g3⟩ =>
   refine ⟨⟨[], ?_, trivial⟩, ?_, g3⟩
   · rw [show p = _ from g1]
     cases getM (xs.map fun x => (x, ())) a <;> rfl
   · rw [getM_set] at g2; exact g2
end
/-! ### Strings -/
section
variable {k : Kx} {Q : Exit → Env → H → Prop} {ρ ρ' : Env} {h h' : H} {ops : Array Oper} {l : List Oper} {d : Nat} {ty : TypeId} {pos : String} {after : Array Edge}
/-- []byte(s), never written. -/
theorem jstrbytes {S T E : TypeId} {x : Operand} {s : ByteArray} (hx : evO ρ x = some (.val (.string s))) (hS : k.P.underlying S = some .string) (hT : k.P.underlying T = some (.slice E)) (hE : k.P.underlying E = some (.int .u8)) (hb : s.data.toList.length ≤ 140737488355328) (hd : Nat.blt d k.n = true)
 (hj : JL k ops l Q ((d, .d (bytesD s.data.toList)) :: ρ) h) : JL k ops (⟨some d, .convert S T x, ty, pos, after, none⟩ :: l) Q ρ h := by
 refine JL_eff rfl (fun t ht => by cases ht; exact blt hd) fun I ac w h1 h2 => ?_
 have e1 := rel_val (h2.ev x) (ev_of_evO hx)
 have hrun := run_bytes_of_string (P := k.P) w S T E s hS hT hE
 have hge := grownCap_ge w s.size 0 E
 have hsz : s.size = s.data.toList.length := by rw [Array.length_toList]; rfl
 have hle := grownCap_le_maxLen w s.size 0 E (by unfold maxLen; omega)
 have hs : Same I h w w.drew := ⟨rfl, rfl, rfl, Nat.le_refl _, fun _ _ => rfl⟩
 have k1 := h1.same hs
 have k2 := SF.same h1 hs h2
 generalize grownCap w s.size 0 E = cap at hrun hge hle
 generalize ho : Obj.cells (bytesRow s cap) E ((bytesRow s cap).size, (bytesRow s cap).size + 1) = o at hrun
 have hok := Ok.release (h1 := []) (b := w.drew.heap.size) (k1.fresh o (.raw w.drew.heap.size o) rfl (heap_alloc_new w.drew o)) rfl
 have hmono : ∀ b, I b → (w.drew.alloc o).heap[b]? = w.drew.heap[b]? := fun b hb => Go.RowKit.Below.heap_alloc w.drew _ b (k1.imm b hb).1
 have hblk : (w.drew.alloc o).heap[w.drew.heap.size]? = some (.cells (bytesRow s cap) E ((bytesRow s cap).size, (bytesRow s cap).size + 1)) := by rw [ho]; exact heap_alloc_new w.drew o
 refine ⟨.slice (some ⟨w.drew.heap.size, 0, none⟩) s.size cap, w.drew.alloc o, _, .d (bytesD s.data.toList), _, ?_, hok, k2.mono hmono (fun _ h => .inl h), ?_, hj⟩
 · have hrun' : (convert S T (.string s)).run k.P w = .ok (.slice (some ⟨w.drew.heap.size, 0, none⟩) s.size cap) (w.drew.alloc o) := hrun
   simp [execOp, e1, hrun']
 · have hlen : (s.data.toList.map byteC).length = s.size := by rw [List.length_map, hsz]
   have := Rel.l (w := w.drew.alloc o) (I := fun x => I x ∨ x = w.drew.heap.size) 1 1 (s.data.toList.map byteC) ⟨w.drew.heap.size, 0, none⟩ cap (fun j _ => .int .u8 ((s.data.toList[j]?.getD 0).toNat : Int)) (.inr rfl) (by rw [hlen]; omega) hle (by rw [hlen]; omega)
    (fun r hr => by obtain ⟨a, _, rfl⟩ := List.mem_map.1 hr; rfl) (fun j u r x hr hx => ?_) (fun j u r x hr hx => ?_)
   · rw [hlen] at this
     exact this
   · rw [List.getElem?_map] at hr
     obtain ⟨b, hb1, rfl⟩ := Option.map_eq_some_iff.1 hr
     have hu : u = 0 := by
      have := (List.getElem?_eq_some_iff.1 hx).1
      simp [byteC] at this
      exact this
     subst hu
     have hjl : j < s.data.size := by
      have := (List.getElem?_eq_some_iff.1 hb1).1
      simpa using this
     rw [Addr.add_lit, cell_of_row (w.drew.alloc o) _ _ _ _ _ hblk, hb1]
     simp only [Nat.zero_add, Nat.mul_one, Nat.add_zero, Option.getD_some]
     rw [Array.getElem?_toList] at hb1
     have hjl' : j < s.size := hjl
     have hbb : s.data[j] = b := (Array.getElem?_eq_some_iff.1 hb1).2
     simp [bytesRow, Array.getElem?_append, hjl', hb1, hbb]
   · rw [List.getElem?_map] at hr
     obtain ⟨b, hb1, rfl⟩ := Option.map_eq_some_iff.1 hr
     have hu : u = 0 := by
      have := (List.getElem?_eq_some_iff.1 hx).1
      simp [byteC] at this
      exact this
     subst hu
     simp only [byteC, List.getElem?_cons_zero, Option.some.injEq] at hx
     subst hx
     simp only [hb1, Option.getD_some]
     exact .i _ _
/-- A literal of numbers. -/
theorem jbuild_ns {T E : TypeId} {parts : Array (Nat × Operand)} {len : Nat} (ns : List Int) {z : Value} {eb : Nat} (hp : parts = (((ns.map fun n => Operand.const (.int .i64 n)).zipIdx).map fun p => (p.2, p.1)).toArray) (hl : len = ns.length) (hT : k.P.underlying T = some (.slice E)) (he : El k.P E z 1 eb) (hb : Nat.ble (ns.length * eb) 1000000 = true) (hc : Nat.ble ns.length 1000000 = true)
 (hd : Nat.blt d k.n = true) (hj : JL k ops l Q ((d, .d (.l 1 eb (ns.map fun n => [.i .i64 n]))) :: ρ) h) : JL k ops (⟨some d, .buildSlice T len parts, ty, pos, after, none⟩ :: l) Q ρ h := by
 refine JL_buildSlice (xs := ns.map fun n => Operand.const (.int .i64 n)) (rows := ns.map fun n => [.i .i64 n]) hT he (by decide) hp (by simpa using hl) ?_ ?_ ?_ ?_ ?_ (fun t ht => by cases ht; exact blt hd) hj
 · rw [List.map_map, List.map_map]
   apply List.map_congr_left
   intro n _
   rfl
 · intro o ho
   obtain ⟨n, _, rfl⟩ := List.mem_map.1 ho
   rfl
 · intro r hr
   obtain ⟨n, _, rfl⟩ := List.mem_map.1 hr
   rfl
 · rw [List.length_map]
   exact Nat.le_trans (Nat.le_of_ble_eq_true hb) (by decide)
 · rw [List.length_map, Nat.mul_one]
   exact Nat.le_trans (Nat.le_of_ble_eq_true hc) (by decide)
end
section
variable {P : Program} {G : List (Nat × List D)} {ρ : Env} {h : H} {dst : Option Tmp} {ty : TypeId} {pos : String} {after : Array Edge} {g : Option (Nat × Bool)}
theorem pu_len_str {T : TypeId} {x : Operand} {s : ByteArray} (hx : evO ρ x = some (.val (.string s))) (hT : P.underlying T = some .string) : Pure P G ⟨dst, .call { callee := .builtin .len, args := #[x], argTypes := #[T] }, ty, pos, after, g⟩ ρ h (.int (s.data.toList.length : Nat)) := by
 have := pure_len_string (P := P) (G := G) (h := h) (dst := dst) (ty := ty) (pos := pos) (after := after) (g := g) hT (ev_of_evO hx)
 rwa [show s.size = s.data.toList.length by rw [Array.length_toList]; rfl] at this
theorem pu_at_str {T : TypeId} {x y : Operand} {s : ByteArray} {n : Nat} (hx : evO ρ x = some (.val (.string s))) (hy : evO ρ y = some (.int (n : Int))) (hT : P.underlying T = some .string) (hn : n < s.data.toList.length) : Pure P G ⟨dst, .index T x y, ty, pos, after, g⟩ ρ h (AV.byte s.data.toList[n]) :=
 pure_free fun w I _ a hs => ⟨_, rfl, fun w' => by
  have e1 := rel_val (hs.ev x) (ev_of_evO hx)
  have e2 := rel_val (hs.ev y) (ev_of_evO hy)
  have hn' : n < s.size := by rw [show s.size = s.data.toList.length by rw [Array.length_toList]; rfl]; exact hn
  have e3 : s[n]? = some s.data.toList[n] := by
   rw [getElem?_pos s n hn']
   rfl
  simp [execOp, e1, e2, index, asIntOf, run_underlying hT, e3]⟩
end
end Go.Av
