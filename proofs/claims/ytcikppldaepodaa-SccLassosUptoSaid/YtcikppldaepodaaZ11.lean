/- A bundle of this claim's own texts: E6 G20 E7 E8 E9 E10 E11 V10 G21 V11. -/
import Derived.Laws.IdiomStrings
import Derived.Lib.AppendZerosOnto
import Derived.Lib.SliceRun
import Derived.Laws.Cover3
import Derived.Test.YtcikppldaepodaaZ1
import Derived.Test.YtcikppldaepodaaZ2
import Derived.Test.YtcikppldaepodaaZ3
import Derived.Test.YtcikppldaepodaaZ4
import Derived.Test.YtcikppldaepodaaZ9
namespace Go.Av
open Go Go.Instr
set_option linter.unusedVariables false
set_option linter.unusedSimpArgs false

def mapEs : List (Value × Value) → Nat → List MapEntry
  | [], _ => []
  | p :: ps, i => ⟨p.1, p.2, i⟩ :: mapEs ps (i + 1)
def mapO (ps : List (Value × Value)) : Obj := .map (mapEs ps 0).toArray ps.length
theorem mapEs_append : ∀ (ps qs : List (Value × Value)) (i : Nat), mapEs (ps ++ qs) i = mapEs ps i ++ mapEs qs (i + ps.length)
  | [], qs, i => by simp [mapEs]
  | p :: ps, qs, i => by
    simp only [List.cons_append, mapEs, mapEs_append ps qs (i + 1), List.length_cons]
    rw [show i + 1 + ps.length = i + (ps.length + 1) by omega]
structure KeyK (kd : TypeDesc) {α : Type} (kv : α → Value) [DecidableEq α] : Prop where
  same : ∀ a b, sameNow kd (kv a) (kv b) = some (decide (a = b))
  easy : ∀ (P : Program) (T : TypeId) (e : Bool) (a : α) (w : World), P.underlying T = some kd → (checkKey e 10000 T (kv a)).run P w = .ok () w
theorem keyK_int (k : IntKind) : KeyK (.int k) (Value.int k) where
  same a b := by
    simp only [sameNow, if_pos trivial]
    exact congrArg some (Bool.eq_iff_iff.2 (by simp))
  easy P T e a w h := by
    unfold checkKey
    simp [run_underlying h]
section
variable {α β : Type} [DecidableEq α] {kd : TypeDesc} {kv : α → Value} {vv : β → Value}
def entL (kv : α → Value) (vv : β → Value) (ps : List (α × β)) : List (Value × Value) := ps.map fun p => (kv p.1, vv p.2)
theorem find_no (K : KeyK kd kv) (a : α) : ∀ (ps : List (α × β)) (i j : Nat), (∀ p ∈ ps, p.1 ≠ a) → findNow kd (kv a) (mapEs (entL kv vv ps) i) j = some none
  | [], _, _, _ => rfl
  | p :: ps, i, j, h => by
    have h1 : a ≠ p.1 := fun e => h p List.mem_cons_self e.symm
    simp only [entL, List.map_cons, mapEs, findNow, K.same, decide_eq_false h1]
    exact find_no K a ps (i + 1) (j + 1) fun q hq => h q (List.mem_cons_of_mem _ hq)
theorem find_yes (K : KeyK kd kv) (a : α) (b : β) : ∀ (ps qs : List (α × β)) (i j : Nat), (∀ p ∈ ps, p.1 ≠ a) → findNow kd (kv a) (mapEs (entL kv vv (ps ++ (a, b) :: qs)) i) j = some (some (j + ps.length, vv b))
  | [], qs, i, j, _ => by simp [entL, mapEs, findNow, K.same]
  | p :: ps, qs, i, j, h => by
    have h1 : a ≠ p.1 := fun e => h p List.mem_cons_self e.symm
    have ih := find_yes K a b ps qs (i + 1) (j + 1) fun q hq => h q (List.mem_cons_of_mem _ hq)
    simp only [entL] at ih
    simp only [entL, List.cons_append, List.map_cons, mapEs, findNow, K.same, decide_eq_false h1, ih, List.length_cons]
    rw [show j + 1 + ps.length = j + (ps.length + 1) by omega]
def getM (ps : List (α × β)) (a : α) : Option β := (ps.find? fun p => p.1 == a).map (·.2)
theorem getM_no {ps : List (α × β)} {a : α} (h : ∀ p ∈ ps, p.1 ≠ a) : getM ps a = none := by
  simp only [getM, Option.map_eq_none_iff, List.find?_eq_none]
  intro p hp
  simpa using h p hp
theorem getM_split {ps : List (α × β)} {a : α} (h : ¬ ∀ p ∈ ps, p.1 ≠ a) : ∃ b l r, ps = l ++ (a, b) :: r ∧ (∀ p ∈ l, p.1 ≠ a) ∧ getM ps a = some b := by
  induction ps with
  | nil => exact absurd (by simp) h
  | cons p ps ih =>
    by_cases e : p.1 = a
    · refine ⟨p.2, [], ps, by rw [← e]; rfl, by simp, ?_⟩
      simp [getM, e]
    · obtain ⟨b, l, r, h1, h2, h3⟩ := ih fun k => h fun q hq => by
        rcases List.mem_cons.1 hq with rfl | hq
        · exact e
        · exact k q hq
      refine ⟨b, p :: l, r, by rw [h1]; rfl, fun q hq => ?_, ?_⟩
      · rcases List.mem_cons.1 hq with rfl | hq
        · exact e
        · exact h2 q hq
      · rw [← h3]
        have e' : (p.1 == a) = false := by simpa using e
        simp [getM, List.find?_cons, e']
theorem getM_none {ps : List (α × β)} {a : α} : getM ps a = none ↔ ∀ p ∈ ps, p.1 ≠ a := by
  constructor
  · intro h
    by_cases k : ∀ p ∈ ps, p.1 ≠ a
    · exact k
    · obtain ⟨b, l, r, _, _, h3⟩ := getM_split k
      rw [h] at h3; cases h3
  · exact getM_no
theorem run_find (K : KeyK kd kv) {P : Program} {T : TypeId} (hT : P.underlying T = some kd) (ps : List (α × β)) (a : α) (w : World) :
    ∃ r : Option (Nat × Value), (findKey T (kv a) (mapEs (entL kv vv ps) 0)).run P w = .ok r w ∧ r.map (·.2) = (getM ps a).map vv := by
  by_cases h : ∀ p ∈ ps, p.1 ≠ a
  · refine ⟨none, ?_, by rw [getM_no h]; rfl⟩
    simp [findKey, run_underlying hT, find_no K a ps 0 0 h]
  · obtain ⟨b, l, r, e, h2, h3⟩ := getM_split h
    refine ⟨some (0 + l.length, vv b), ?_, by rw [h3]; rfl⟩
    subst e
    simp [findKey, run_underlying hT, find_yes K a b l r 0 0 h2]
end
section
variable {k : Kx} {Q : Exit → Env → H → Prop} {ρ ρ' : Env} {h h' : H} {ops : Array Oper} {l : List Oper} {d : Nat} {dst : Option Tmp} {ty : TypeId} {pos : String} {after : Array Edge} {g : Option (Nat × Bool)}
theorem jmkmap {T : TypeId} (hd : Nat.blt d k.n = true) (hj : All fun b : Nat => JL k ops l Q ((d, .val (.map (some b))) :: ρ) (.raw b (mapO []) :: h)) : JL k ops (⟨some d, .makeMap T none, ty, pos, after, none⟩ :: l) Q ρ h := by
  refine JL_eff rfl (fun t ht => by cases ht; exact blt hd) fun I ac w h1 h2 => ?_
  refine ⟨.map (some w.heap.size), w.alloc (.map #[] 0), I, .val (.map (some w.heap.size)), _, ?_, h1.fresh _ (.raw w.heap.size (mapO [])) rfl (heap_alloc_new w _), h2.fresh h1 _, rfl, hj.get w.heap.size⟩
  have hm : (makeMap T none).run k.P w = .ok (.map (some w.heap.size)) (w.alloc (.map #[] 0)) := rfl
  simp [execOp, hm]
theorem run_setM {P : Program} {w : World} {r : Nat} {es : Array MapEntry} {clock : Nat} (o : Obj) (hb : w.heap[r]? = some (.map es clock)) : (setObj r o).run P w = .ok () { w with heap := w.heap.setIfInBounds r o } := by
  simp [setObj, Sem.run, hb]
theorem js_putMr {α β : Type} [DecidableEq α] {kd : TypeDesc} {kv : α → Value} {vv : β → Value} (K : KeyK kd kv) {T KT ET : TypeId} {x y u : Operand} {r : AV} {b : Nat} {ps : List (α × β)} {a : α} {c : β}
    (hx : evO ρ x = some (.val (.map (some b)))) (hy : evO ρ y = some (.val (kv a))) (hv : evO ρ u = some r) (hr : ∀ w I v, AV.rel w I r v → v = vv c) (hT : k.P.underlying T = some (.map KT ET)) (hK : k.P.underlying KT = some kd)
    (hu : Upd (.raw b (mapO (entL kv vv ps))) (.raw b (mapO (entL kv vv (ps ++ [(a, c)])))) h h') (hno : getM ps a = none)
    (hj : JL k ops l Q ρ h') : JL k ops (⟨none, .mapUpdate T x y u, ty, pos, after, none⟩ :: l) Q ρ h := by
  obtain ⟨h1, h2, rfl, rfl⟩ := hu.split
  refine JL_eff_skip rfl rfl fun I ac w k1 k2 => ?_
  have e1 := rel_val (k2.ev x) (ev_of_evO hx)
  have e2 := rel_val (k2.ev y) (ev_of_evO hy)
  have e3 := hr _ _ _ (rel_as (k2.ev u) (ev_of_evO hv))
  have hb : w.heap[b]? = some (mapO (entL kv vv ps)) := k1.ent (.raw b (mapO (entL kv vv ps))) (by simp)
  have hfind := find_no (vv := vv) K a ps 0 0 (getM_none.1 hno)
  have hnew : Obj.map (mapEs (entL kv vv ps) 0 ++ [(⟨kv a, vv c, (entL kv vv ps).length⟩ : MapEntry)]).toArray ((entL kv vv ps).length + 1) = mapO (entL kv vv (ps ++ [(a, c)])) := by
    have e : entL kv vv (ps ++ [(a, c)]) = entL kv vv ps ++ [(kv a, vv c)] := by simp [entL]
    unfold mapO
    rw [e, mapEs_append]
    simp [mapEs]
  obtain ⟨g1, g2⟩ := k1.write (w' := { w with heap := w.heap.setIfInBounds b (mapO (entL kv vv (ps ++ [(a, c)]))) }) (e' := .raw b (mapO (entL kv vv (ps ++ [(a, c)])))) (b := b) rfl rfl rfl rfl rfl (by simp)
    (fun x hx => by simp [Array.getElem?_setIfInBounds, Ne.symm hx]) (by
      have hlt := (Array.getElem?_eq_some_iff.1 hb).1
      show _ = _
      simp [Array.getElem?_setIfInBounds, hlt])
  refine ⟨{ w with heap := w.heap.setIfInBounds b (mapO (entL kv vv (ps ++ [(a, c)]))) }, I, h1 ++ .raw b (mapO (entL kv vv (ps ++ [(a, c)]))) :: h2, ?_, g1, k2.mono g2 (fun _ h => h), hj⟩
  have hobj : (getObj b).run k.P w = .ok (.map (mapEs (entL kv vv ps) 0).toArray (entL kv vv ps).length) w := by simp [getObj, Sem.run, hb, mapO]
  have hset := run_setM (P := k.P) (w := w) (r := b) (mapO (entL kv vv (ps ++ [(a, c)]))) (es := (mapEs (entL kv vv ps) 0).toArray) (clock := (entL kv vv ps).length) hb
  simp only [execOp, e1, e2, e3, mapUpdate]
  simp [run_underlying hT, hobj, K.easy k.P KT false a w hK, findKey, run_underlying hK, hfind, hnew, hset]
end
section
variable {P : Program} {G : List (Nat × List D)} {ρ : Env} {h : H} {dst : Option Tmp} {ty : TypeId} {pos : String} {after : Array Edge} {g : Option (Nat × Bool)}
theorem pu_lookM {α β : Type} [DecidableEq α] {kd : TypeDesc} {kv : α → Value} {vv : β → Value} (K : KeyK kd kv) {T KT ET : TypeId} {x y : Operand} {b : Nat} {ps : List (α × β)} {a : α} {z : Value} {sz eb : Nat}
    (hx : evO ρ x = some (.val (.map (some b)))) (hy : evO ρ y = some (.val (kv a))) (hT : P.underlying T = some (.map KT ET)) (hK : P.underlying KT = some kd) (hE : El P ET z sz eb) (hm : Ent.raw b (mapO (entL kv vv ps)) ∈ h) :
    Pure P G ⟨dst, .lookup T x y true, ty, pos, after, g⟩ ρ h (.tup [.val (((getM ps a).map vv).getD z), .bool (getM ps a).isSome]) := by
  intro c I n ac w _ hok hs
  obtain ⟨i, hi, hz, _, _⟩ := hE.get
  have e1 := rel_val (hs.ev x) (ev_of_evO hx)
  have e2 := rel_val (hs.ev y) (ev_of_evO hy)
  have hb : w.heap[b]? = some (mapO (entL kv vv ps)) := hok.ent _ hm
  refine ⟨.tuple #[((getM ps a).map vv).getD z, .bool (getM ps a).isSome], ⟨[_, _], rfl, rfl, rfl, trivial⟩, fun w' hw' => ?_⟩
  have hb' : w'.heap[b]? = some (mapO (entL kv vv ps)) := (hw'.own b (mem_blks hm rfl)).trans hb
  have hobj : (getObj b).run P w' = .ok (.map (mapEs (entL kv vv ps) 0).toArray (entL kv vv ps).length) w' := by simp [getObj, Sem.run, hb', mapO]
  obtain ⟨r, hr1, hr2⟩ := run_find (vv := vv) K hK ps a w'
  simp only [execOp, e1, e2, lookup]
  cases r with
  | none =>
    have hr3 : (getM ps a).map vv = none := hr2.symm
    have hr4 : getM ps a = none := by simpa using hr3
    simp [run_underlying hT, hobj, K.easy P KT _ a w' hK, hr1, hr4, zeroValue, typeInfo, hi, hz]
  | some r =>
    obtain ⟨j, v⟩ := r
    have hr3 : (getM ps a).map vv = some v := hr2.symm
    obtain ⟨bb, hb1, hb2⟩ := Option.map_eq_some_iff.1 hr3
    simp [run_underlying hT, hobj, K.easy P KT _ a w' hK, hr1, hb1, hb2]
end
end Go.Av
namespace Go.Sp
open Go Go.Av
set_option linter.unusedVariables false
set_option linter.unusedSimpArgs false

inductive RchI (nx : Nat → List Nat) (fr : List Nat) (ins : Nat → Bool) : Nat → Prop where
  | base {k : Nat} (h : k ∈ fr) : RchI nx fr ins k
  | step {j k : Nat} (h : RchI nx fr ins j) (e : k ∈ nx j) (hi : ins k = true) : RchI nx fr ins k
def chainP (nx : Nat → List Nat) (ins : Nat → Bool) : List Nat → Prop
  | [] => True
  | [_] => True
  | a :: b :: l => (b ∈ nx a ∧ ins b = true) ∧ chainP nx ins (b :: l)
structure GoodW (nx : Nat → List Nat) (n : Nat) (fr : List Nat) (ins wnt : Nat → Bool) (l : List Nat) : Prop where
  ne : l ≠ []
  head : ∀ a, l.head? = some a → a ∈ fr
  chain : chainP nx ins l
  last : ∀ a, l.getLast? = some a → wnt a = true
  lt : ∀ a ∈ l, a < n
def WayP (nx : Nat → List Nat) (n : Nat) (fr : List Nat) (ins wnt : Nat → Bool) (l : List Nat) : Prop :=
  GoodW nx n fr ins wnt l ∨ (l = [] ∧ ∀ v, RchI nx fr ins v → wnt v = false)
structure WI (nx : Nat → List Nat) (n : Nat) (fr : List Nat) (ins : Nat → Bool) (ps : List (Int × Int)) : Prop where
  nodup : (ps.map (·.1)).Nodup
  key : ∀ (j : Nat) (h : j < ps.length), ∃ k : Nat, ps[j].1 = k ∧ k < n ∧ ((ps[j].2 = -1 ∧ k ∈ fr) ∨ ∃ (i : Nat) (hi : i < j) (p : Nat), (ps[i]'(Nat.lt_trans hi h)).1 = p ∧ ps[j].2 = p ∧ k ∈ nx p ∧ ins k = true)
theorem WI.nil (nx : Nat → List Nat) (n : Nat) (fr : List Nat) (ins : Nat → Bool) : WI nx n fr ins [] := ⟨List.nodup_nil, fun j h => (by simp at h)⟩
variable {nx : Nat → List Nat} {n : Nat} {fr : List Nat} {ins wnt : Nat → Bool} {ps : List (Int × Int)}
theorem WI.add (w : WI nx n fr ins ps) {k : Nat} {v : Int} (hno : getM ps (k : Int) = none) (hk : k < n) (hv : (v = -1 ∧ k ∈ fr) ∨ ∃ (i : Nat) (hi : i < ps.length) (p : Nat), ps[i].1 = p ∧ v = p ∧ k ∈ nx p ∧ ins k = true) : WI nx n fr ins (ps ++ [((k : Int), v)]) := by
  refine ⟨?_, fun j h => ?_⟩
  · rw [List.map_append, List.nodup_append]
    refine ⟨w.nodup, by simp, fun a ha b hb e => ?_⟩
    obtain ⟨p, hp, rfl⟩ := List.mem_map.1 ha
    simp at hb
    exact (getM_none.1 hno) p hp (e.trans hb)
  · by_cases hj : j < ps.length
    · obtain ⟨k', h1, h2, h3⟩ := w.key j hj
      refine ⟨k', by rw [List.getElem_append_left hj]; exact h1, h2, ?_⟩
      rw [List.getElem_append_left hj]
      rcases h3 with h3 | ⟨i, hi, p, e1, e2, e3⟩
      · exact .inl h3
      · exact .inr ⟨i, hi, p, by rw [List.getElem_append_left (by omega)]; exact e1, e2, e3⟩
    · obtain rfl : j = ps.length := by simp at h; omega
      refine ⟨k, by simp, hk, ?_⟩
      rw [List.getElem_append_right (Nat.le_refl _)]
      simp only [Nat.sub_self, List.getElem_cons_zero]
      rcases hv with hv | ⟨i, hi, p, e1, e2, e3⟩
      · exact .inl hv
      · exact .inr ⟨i, hi, p, by rw [List.getElem_append_left hi]; exact e1, e2, e3⟩
theorem WI.len (w : WI nx n fr ins ps) : ps.length ≤ n := by
  have key : ∀ (m : Nat) (xs : List Int), xs.Nodup → (∀ x ∈ xs, 0 ≤ x ∧ x < (m : Int)) → xs.length ≤ m := by
    intro m
    induction m with
    | zero =>
      intro xs _ h
      cases xs with
      | nil => exact Nat.le_refl _
      | cons x _ => have := h x List.mem_cons_self; omega
    | succ m ih =>
      intro xs hn h
      have i1 := ih (xs.erase m) (hn.erase _) fun x hx => by
        have h1 := h x (List.mem_of_mem_erase hx)
        have h2 : x ≠ m := fun e => by subst e; exact (List.Nodup.not_mem_erase hn) hx
        omega
      have := List.length_erase (a := (m : Int)) (l := xs)
      split at this <;> omega
  have := key n (ps.map (·.1)) w.nodup fun x hx => by
    obtain ⟨p, hp, rfl⟩ := List.mem_map.1 hx
    obtain ⟨j, hj, rfl⟩ := List.getElem_of_mem hp
    obtain ⟨k, h1, h2, _⟩ := w.key j hj
    omega
  rwa [List.length_map] at this
def isKey (ps : List (Int × Int)) (k : Nat) : Prop := getM ps (k : Int) ≠ none
theorem isKey_at {k : Nat} : isKey ps k ↔ ∃ (j : Nat) (h : j < ps.length), ps[j].1 = k := by
  unfold isKey
  rw [Ne, getM_none]
  constructor
  · intro h
    obtain ⟨p, h⟩ := Classical.not_forall.1 h
    obtain ⟨hp, h⟩ := Classical.not_imp.1 h
    obtain ⟨j, hj, rfl⟩ := List.getElem_of_mem hp
    exact ⟨j, hj, Decidable.not_not.1 h⟩
  · rintro ⟨j, hj, e⟩ h
    exact h _ (List.getElem_mem hj) e
theorem isKey_add {k k' : Nat} {v : Int} : isKey (ps ++ [((k : Int), v)]) k' ↔ isKey ps k' ∨ k' = k := by
  rw [isKey_at, isKey_at]
  constructor
  · rintro ⟨j, hj, e⟩
    by_cases h : j < ps.length
    · rw [List.getElem_append_left h] at e; exact .inl ⟨j, h, e⟩
    · obtain rfl : j = ps.length := by simp at hj; omega
      rw [List.getElem_append_right (Nat.le_refl _)] at e
      simp at e
      exact .inr (by omega)
  · rintro (⟨j, hj, e⟩ | rfl)
    · exact ⟨j, by simp; omega, by rw [List.getElem_append_left hj]; exact e⟩
    · exact ⟨ps.length, by simp, by simp⟩
structure WS (nx : Nat → List Nat) (n : Nat) (fr : List Nat) (ins wnt : Nat → Bool) (ps : List (Int × Int)) (td : List Int) (x : Option (Nat × Nat)) : Prop where
  wi : WI nx n fr ins ps
  first : ∀ k ∈ fr, isKey ps k
  todo : ∀ y ∈ td, ∃ k : Nat, y = k ∧ isKey ps k
  un : ∀ k, isKey ps k → wnt k = false
  cl : ∀ k, isKey ps k → (k : Int) ∉ td → (∀ m, x ≠ some (k, m)) → ∀ y ∈ nx k, ins y = true → isKey ps y
  part : ∀ k m, x = some (k, m) → isKey ps k ∧ ∀ y ∈ (nx k).take m, ins y = true → isKey ps y
theorem WS.noway (s : WS nx n fr ins wnt ps [] none) : ∀ v, RchI nx fr ins v → wnt v = false := fun v hv => by
  refine s.un v ?_
  induction hv with
  | base h => exact s.first _ h
  | step _ e hi ih => exact s.cl _ ih (by simp) (fun m => by simp) _ e hi
theorem WS.pop {i : Nat} {td : List Int} (s : WS nx n fr ins wnt ps ((i : Int) :: td) none) : WS nx n fr ins wnt ps td (some (i, 0)) := by
  refine ⟨s.wi, s.first, fun y hy => s.todo y (List.mem_cons_of_mem _ hy), s.un, fun k hk hn hx y hy hi => ?_, fun k m e => ?_⟩
  · refine s.cl k hk (fun h => ?_) (fun m => by simp) y hy hi
    rcases List.mem_cons.1 h with h | h
    · exact hx 0 (by congr 2; omega)
    · exact hn h
  · cases e
    obtain ⟨k, e, hk⟩ := s.todo _ List.mem_cons_self
    obtain rfl : i = k := by omega
    exact ⟨hk, fun y hy => by simp at hy⟩
theorem WS.skip {i m : Nat} {td : List Int} (s : WS nx n fr ins wnt ps td (some (i, m))) (h : m < (nx i).length) (ho : isKey ps (nx i)[m] ∨ ins (nx i)[m] = false) : WS nx n fr ins wnt ps td (some (i, m + 1)) := by
  obtain ⟨p1, p2⟩ := s.part i m rfl
  refine ⟨s.wi, s.first, s.todo, s.un, fun k hk hn hx => s.cl k hk hn fun m' e => ?_, fun k m' e => ?_⟩
  · cases e; exact hx _ rfl
  · cases e
    refine ⟨p1, fun y hy hi => ?_⟩
    rw [List.take_succ_eq_append_getElem h] at hy
    rcases List.mem_append.1 hy with hy | hy
    · exact p2 y hy hi
    · rw [List.mem_singleton.1 hy] at hi ⊢
      rcases ho with ho | ho
      · exact ho
      · rw [ho] at hi; cases hi
theorem WS.meet {i m : Nat} {td : List Int} (s : WS nx n fr ins wnt ps td (some (i, m))) (hn : ∀ i, ∀ k ∈ nx i, k < n) (h : m < (nx i).length) (hno : getM ps ((nx i)[m] : Int) = none) (hi : ins (nx i)[m] = true) (hw : wnt (nx i)[m] = false) : WS nx n fr ins wnt (ps ++ [(((nx i)[m] : Int), (i : Int))]) (td ++ [((nx i)[m] : Int)]) (some (i, m + 1)) := by
  obtain ⟨p1, p2⟩ := s.part i m rfl
  obtain ⟨j, hj, e1⟩ := isKey_at.1 p1
  have hk : ∀ k, isKey (ps ++ [(((nx i)[m] : Int), (i : Int))]) k ↔ isKey ps k ∨ k = (nx i)[m] := fun k => isKey_add
  refine ⟨s.wi.add hno (hn i _ (List.getElem_mem h)) (.inr ⟨j, hj, i, e1, rfl, List.getElem_mem h, hi⟩), fun k hfr => (hk k).2 (.inl (s.first k hfr)), fun y hy => ?_, fun k hk' => ?_, fun k hk' hnt hx y hy hiy => ?_, fun k m' e => ?_⟩
  · rcases List.mem_append.1 hy with hy | hy
    · obtain ⟨k, e, h⟩ := s.todo y hy
      exact ⟨k, e, (hk k).2 (.inl h)⟩
    · exact ⟨_, List.mem_singleton.1 hy, (hk _).2 (.inr rfl)⟩
  · rcases (hk k).1 hk' with h | rfl
    · exact s.un k h
    · exact hw
  · rcases (hk k).1 hk' with hkp | rfl
    · exact (hk y).2 (.inl (s.cl k hkp (fun h => hnt (List.mem_append_left _ h)) (fun m' e => hx _ (by cases e; rfl)) y hy hiy))
    · exact absurd (List.mem_append_right td (List.mem_singleton.2 rfl)) hnt
  · cases e
    refine ⟨(hk i).2 (.inl p1), fun y hy hiy => ?_⟩
    rw [List.take_succ_eq_append_getElem h] at hy
    rcases List.mem_append.1 hy with hy | hy
    · exact (hk y).2 (.inl (p2 y hy hiy))
    · exact (hk y).2 (.inr (List.mem_singleton.1 hy))
theorem WS.done {i : Nat} {td : List Int} (s : WS nx n fr ins wnt ps td (some (i, (nx i).length))) : WS nx n fr ins wnt ps td none := by
  obtain ⟨p1, p2⟩ := s.part i _ rfl
  rw [List.take_length] at p2
  refine ⟨s.wi, s.first, s.todo, s.un, fun k hk hn _ y hy hi => ?_, fun k m e => by cases e⟩
  by_cases e : k = i
  · subst e; exact p2 y hy hi
  · exact s.cl k hk hn (fun m h => e (by cases h; rfl)) y hy hi
def kAt (ps : List (Int × Int)) (p : Nat) : Int := if p = 0 then -1 else ((ps[p - 1]?).map (·.1)).getD 0
theorem kAt_zero (ps : List (Int × Int)) : kAt ps 0 = -1 := rfl
theorem kAt_succ (ps : List (Int × Int)) (j : Nat) (h : j < ps.length) : kAt ps (j + 1) = ps[j].1 := by
  unfold kAt; rw [if_neg (by omega), Nat.add_sub_cancel, List.getElem?_eq_getElem h]; rfl
structure Bk (nx : Nat → List Nat) (n : Nat) (fr : List Nat) (ins wnt : Nat → Bool) (ps : List (Int × Int)) (p : Nat) (l : List Nat) : Prop where
  le : p ≤ ps.length
  more : 0 < p → ∀ k : Nat, kAt ps p = k → chainP nx ins (k :: l) ∧ ∀ a, (k :: l).getLast? = some a → wnt a = true
  lt : ∀ a ∈ l, a < n
  fin : p = 0 → GoodW nx n fr ins wnt l
theorem getM_at (w : (ps.map (·.1)).Nodup) (j : Nat) (h : j < ps.length) : getM ps ps[j].1 = some ps[j].2 := by
  induction ps generalizing j with
  | nil => simp at h
  | cons q ps ih =>
    cases j with
    | zero => simp [getM]
    | succ j =>
      rw [List.map_cons, List.nodup_cons] at w
      have hne : ¬ q.1 = (ps[j]'(by simpa using h)).1 := fun e => w.1 (e ▸ List.mem_map.2 ⟨_, List.getElem_mem (by simpa using h), rfl⟩)
      have := ih w.2 j (by simpa using h)
      simp only [List.getElem_cons_succ]
      rw [← this]
      simp [getM, hne]
theorem Bk.step {j : Nat} {l : List Nat} (w : WI nx n fr ins ps) (b : Bk nx n fr ins wnt ps (j + 1) l) : ∃ k : Nat, ∃ p : Nat, kAt ps (j + 1) = k ∧ getM ps (k : Int) = some (kAt ps p) ∧ p ≤ j ∧ Bk nx n fr ins wnt ps p (k :: l) := by
  have hj : j < ps.length := b.le
  obtain ⟨k, h1, h2, h3⟩ := w.key j hj
  have hk := kAt_succ ps j hj
  have hg := getM_at w.nodup j hj
  rw [h1] at hg hk
  obtain ⟨c1, c2⟩ := b.more (by omega) k hk
  have hlt : ∀ a ∈ k :: l, a < n := fun a ha => by
    rcases List.mem_cons.1 ha with rfl | ha
    · exact h2
    · exact b.lt a ha
  rcases h3 with ⟨e, hfr⟩ | ⟨i, hi, p, e1, e2, e3, e4⟩
  · refine ⟨k, 0, hk, by rw [hg, e]; rfl, Nat.zero_le _, Nat.zero_le _, fun h => absurd h (by omega), hlt, fun _ => ⟨by simp, fun a ha => ?_, c1, c2, hlt⟩⟩
    simp at ha; subst ha; exact hfr
  · have hkp := kAt_succ ps i (by omega)
    rw [e1] at hkp
    refine ⟨k, i + 1, hk, by rw [hg, e2, hkp], by omega, by omega, fun _ k' hk' => ?_, hlt, fun h => absurd h (by omega)⟩
    obtain rfl : p = k' := by omega
    exact ⟨⟨⟨e3, e4⟩, c1⟩, fun a ha => c2 a (by rwa [List.getLast?_cons_cons] at ha)⟩
theorem Bk.start {j k : Nat} (w : WI nx n fr ins ps) (hj : j < ps.length) (hk : ps[j].1 = k) (hw : wnt k = true) : Bk nx n fr ins wnt ps (j + 1) [] := by
  refine ⟨hj, fun _ k' hk' => ?_, fun a ha => (by cases ha), fun h => absurd h (by omega)⟩
  rw [kAt_succ ps j hj, hk] at hk'
  obtain rfl : k = k' := by omega
  exact ⟨trivial, fun a ha => by simp at ha; subst ha; exact hw⟩
theorem WS.start (hn : fr.Nodup) (hlt : ∀ k ∈ fr, k < n) (hw : ∀ k ∈ fr, wnt k = false) : WS nx n fr ins wnt (fr.map fun k : Nat => ((k : Int), (-1 : Int))) (fr.map fun k : Nat => (k : Int)) none := by
  have hk : ∀ k, isKey (fr.map fun k : Nat => ((k : Int), (-1 : Int))) k ↔ k ∈ fr := fun k => by
    rw [isKey_at]
    constructor
    · rintro ⟨j, hj, e⟩
      rw [List.getElem_map] at e
      have hj' : j < fr.length := by simpa using hj
      have : fr[j] = k := by dsimp only at e; omega
      rw [← this]; exact List.getElem_mem hj'
    · intro h
      obtain ⟨j, hj, rfl⟩ := List.getElem_of_mem h
      exact ⟨j, by simpa using hj, by rw [List.getElem_map]⟩
  refine ⟨⟨?_, fun j h => ?_⟩, fun k h => (hk k).2 h, fun y hy => ?_, fun k h => hw k ((hk k).1 h), fun k h hno => ?_, fun k m e => by cases e⟩
  · rw [List.map_map]
    exact List.Pairwise.map _ (fun a b h e => h (by dsimp only [Function.comp] at e; omega)) hn
  · have hj' : j < fr.length := by simpa using h
    refine ⟨fr[j], by rw [List.getElem_map], hlt _ (List.getElem_mem hj'), .inl ⟨by rw [List.getElem_map], List.getElem_mem hj'⟩⟩
  · obtain ⟨k, hkm, rfl⟩ := List.mem_map.1 hy
    exact ⟨k, rfl, (hk k).2 hkm⟩
  · exact absurd (List.mem_map.2 ⟨k, (hk k).1 h, rfl⟩) hno
theorem WayP.one {k : Nat} (h : k ∈ fr) (hk : k < n) (hw : wnt k = true) : WayP nx n fr ins wnt [k] :=
  .inl ⟨by simp, fun a ha => by simp at ha; subst ha; exact h, trivial, fun a ha => by simp at ha; subst ha; exact hw, fun a ha => by rw [List.mem_singleton.1 ha]; exact hk⟩
end Go.Sp
namespace Go.Av
open Go Go.Instr
set_option linter.unusedVariables false
set_option linter.unusedSimpArgs false
section
variable {P : Program} {G : List (Nat × List D)} {ρ : Env} {h : H} {dst : Option Tmp} {ty : TypeId} {pos : String} {after : Array Edge} {g : Option (Nat × Bool)}
theorem pu_func1 {f : FuncId} {x : Operand} {u : Value} (hx : evO ρ x = some (.val u)) : Pure P G ⟨dst, .makeFunc (.func f) #[] #[x], ty, pos, after, g⟩ ρ h (.val (.func (.func f) #[] #[u])) :=
  pure_free fun w I _ a hs => ⟨_, rfl, fun w' => by
    have e1 := rel_val (hs.ev x) (ev_of_evO hx)
    simp [execOp, Instr.makeFunc, e1]⟩
end
end Go.Av
namespace Go.Av
open Go
set_option linter.unusedVariables false
set_option linter.unusedSimpArgs false

end Go.Av
namespace Go.Av
open Go Go.Instr
set_option linter.unusedVariables false
set_option linter.unusedSimpArgs false

end Go.Av
namespace Go.Av
open Go Go.Instr
set_option linter.unusedVariables false
set_option linter.unusedSimpArgs false

structure Qu where
  g : Nat
  off : Nat
  c : Nat
  pre : List AV
  post : List AV
abbrev Qu.v (q : Qu) (n : Nat) : Value := .slice (some ⟨q.g, q.off, none⟩) n q.c
abbrev quE (E : TypeId) (q : Qu) (xs : List Int) : Ent := .cells q.g E (q.pre ++ xs.map AV.int ++ q.post)
structure Qu.Ok (q : Qu) (n : Nat) : Prop where
  pre : q.pre.length = q.off
  lo : n ≤ q.c
  hi : q.c ≤ n + q.post.length
def Qu.tl (q : Qu) (x : Int) : Qu := if q.c = 1 then ⟨q.g, q.off, 0, q.pre, .int x :: q.post⟩ else ⟨q.g, q.off + 1, q.c - 1, q.pre ++ [.int x], q.post⟩
theorem quE_tl (E : TypeId) (q : Qu) (x : Int) (t : List Int) (ok : q.Ok (t.length + 1)) : quE E (q.tl x) t = quE E q (x :: t) := by
  unfold Qu.tl
  by_cases h : q.c = 1
  · have h1 := ok.lo
    obtain rfl : t = [] := List.length_eq_zero_iff.1 (by omega)
    rw [if_pos h]; simp [quE]
  · rw [if_neg h]; simp [quE]
theorem Qu.Ok.tl {q : Qu} {x : Int} {n : Nat} (ok : q.Ok (n + 1)) : (q.tl x).Ok n := by
  obtain ⟨h1, h2, h3⟩ := ok
  unfold Qu.tl
  by_cases h : q.c = 1
  · rw [if_pos h]; exact ⟨h1, by dsimp only; omega, by simp⟩
  · rw [if_neg h]; exact ⟨by simp [h1], by dsimp only; omega, by dsimp only; omega⟩
theorem qu_head (q : Qu) (x : Int) (t : List Int) (ok : q.Ok (t.length + 1)) : (q.pre ++ (x :: t).map AV.int ++ q.post)[q.off]? = some (.int x) := by
  rw [← ok.pre, List.append_assoc, List.getElem?_append_right (Nat.le_refl _), Nat.sub_self]; rfl
section
variable {P : Program} {G : List (Nat × List D)} {ρ : Env} {h : H} {dst : Option Tmp} {ty : TypeId} {pos : String} {after : Array Edge} {g : Option (Nat × Bool)}
theorem pu_qu_tl {T E : TypeId} {x lo : Operand} {q : Qu} {n : Nat} {z : Value} {eb : Nat} (a : Int) (hx : evO ρ x = some (.val (q.v (n + 1)))) (hlo : evO ρ lo = some (.int 1)) (hT : P.underlying T = some (.slice E)) (hE : El P E z 1 eb) (ok : q.Ok (n + 1)) :
    Pure P G ⟨dst, .slice T x (some lo) none none, ty, pos, after, g⟩ ρ h (.val ((q.tl a).v n)) :=
  pure_free fun w I _ ac k => by
    have e1 := rel_val (k.ev x) (ev_of_evO hx)
    have e2 := rel_val (k.ev lo) (ev_of_evO hlo)
    obtain ⟨i, hi, _, hsz, _⟩ := hE.get
    refine ⟨_, rfl, fun w' => ?_⟩
    have hlo := ok.lo
    unfold Qu.tl
    by_cases hc : q.c = 1
    · obtain rfl : n = 0 := by omega
      rw [if_pos hc]
      simp [execOp, e1, e2, hc, Instr.sliceAt, run_underlying hT, Instr.slice, Instr.sliceBounds, Instr.sliceBound, asIntOf, sizeOf, typeInfo, hi, hsz]
    · rw [if_neg hc]
      have h1 : ¬ ((q.c : Int) - 1 = 0) := by omega
      have h2 : (1 : Int) ≤ n + 1 := by omega
      have h3 : ((n : Int) + 1) ≤ q.c := by omega
      simp [execOp, e1, e2, hc, Instr.sliceAt, run_underlying hT, Instr.slice, Instr.sliceBounds, Instr.sliceBound, asIntOf, sizeOf, typeInfo, hi, hsz, Addr.add_lit]
      intro hh; omega
theorem pu_qu_at0 {T E : TypeId} {x y : Operand} {q : Qu} {n : Nat} {z : Value} {eb : Nat} (hx : evO ρ x = some (.val (q.v n))) (hy : evO ρ y = some (.int 0)) (hT : P.underlying T = some (.slice E)) (hE : El P E z 1 eb) (h1 : 0 < n) :
    Pure P G ⟨dst, .indexAddr T x y, ty, pos, after, g⟩ ρ h (.val (.pointer (some ⟨q.g, q.off, none⟩))) :=
  pure_free fun w I _ ac k => by
    have e1 := rel_val (k.ev x) (ev_of_evO hx)
    have e2 := rel_val (k.ev y) (ev_of_evO hy)
    obtain ⟨i, hi, _, hsz, _⟩ := hE.get
    refine ⟨_, rfl, fun w' => ?_⟩
    have h2 : (0 : Int) < n := by omega
    simp [execOp, e1, e2, Instr.indexAt, run_underlying hT, asIntOf, h2, h1, sizeOf, typeInfo, hi, hsz, Addr.add_lit]
end
section
variable {k : Kx} {Q : Exit → Env → H → Prop} {ρ : Env} {h h' : H} {ops : Array Oper} {l : List Oper} {d : Nat} {ty : TypeId} {pos : String} {after : Array Edge}
theorem J_openQ {x : Code} {q : Sl} {xs : List Int} {E : TypeId} {h1 h2 : H} (hn : 0 < xs.length) (hj : ∀ q' : Qu, q'.Ok xs.length → q.v = q'.v xs.length → J k x Q ρ (h1 ++ quE E q' xs :: h2)) : J k x Q ρ (h1 ++ rowE q.v E 1 Sp.intC xs :: h2) := by
  intro I a w k1 k2 k3
  obtain ⟨g, cap, cur, rfl, hg, hnc, hcm, hcs, hrel⟩ := Ent.row_form (k1.ent (rowE q.v E 1 Sp.intC xs) (by simp)) hn
  rw [Nat.mul_one] at hcs hrel
  have hmap : ((xs.map Sp.intC).flatten).map D.av = xs.map AV.int := by
    clear hn hnc hrel k1 hj
    induction xs with
    | nil => rfl
    | cons x xs ih => simp only [List.map_cons, List.flatten_cons, List.map_append, ih]; rfl
  rw [hmap] at hrel
  let q' : Qu := ⟨g, 0, cap, [], (cur.toList.drop xs.length).map AV.val⟩
  have hok : q'.Ok xs.length := ⟨rfl, hnc, by
    show cap ≤ xs.length + ((cur.toList.drop xs.length).map AV.val).length
    have ecl : cur.toList.length = cap := hcs
    rw [List.length_map, List.length_drop, ecl]; omega⟩
  have he : Ent.rel w I (quE E q' xs) := by
    refine ⟨cur, hg, ?_⟩
    have := AV.rels_append hrel (rels_vals w I (cur.toList.drop xs.length))
    rw [List.take_append_drop] at this
    exact this
  exact hj q' hok rfl I a w (k1.reent (e := rowE (Sl.v ⟨some ⟨g, 0, none⟩, xs.length, cap⟩) E 1 Sp.intC xs) (e' := quE E q' xs) rfl he) k2 k3
theorem jqu_app {T E : TypeId} {x y : Operand} {z : Value} {eb eb' : Nat} {q : Qu} {n : Nat} {xs : List Int} {kk : Int} {H' : Qu → H} (hx : evO ρ x = some (.val (q.v n))) (hy : evO ρ y = some (.d (.l 1 eb' [[.i .i64 kk]]))) (hT : k.P.underlying T = some (.slice E)) (he : El k.P E z 1 eb) (hz : z.cells.size = 1) (hn : n = xs.length)
    (ok : q.Ok n) (hd : Nat.blt d k.n = true) (hb : (n + 1) * eb ≤ 140737488355328) (hm : n + 1 ≤ 140737488355328)
    (hu : ∀ q', Upd (quE E q xs) (quE E q' (xs ++ [kk])) h (H' q')) (hj : All fun q' : Qu => Imp (q'.Ok (n + 1)) (JL k ops l Q ((d, .val (q'.v (n + 1))) :: ρ) (H' q'))) :
    JL k ops (⟨some d, .call { callee := .builtin .append, args := #[x, y], argTypes := #[T, T] }, ty, pos, after, none⟩ :: l) Q ρ h := by
  subst hn
  obtain ⟨i, hi, hz0, hz1, hz2⟩ := he.get
  refine JL_eff rfl (fun t ht => by cases ht; exact blt hd) fun I a w k1 k2 => ?_
  have e1 : a.eval x = q.v xs.length := rel_val (k2.ev x) (ev_of_evO hx)
  have e2 := rel_as (k2.ev y) (ev_of_evO hy)
  have hmem : quE E q xs ∈ h := by obtain ⟨h1, h2, e, _⟩ := (hu q).split; rw [e]; simp
  obtain ⟨cs, hc1, hc2⟩ := k1.ent _ hmem
  have hcl : cs.toList.length = q.off + xs.length + q.post.length := by
    rw [(AV.rels_length hc2).symm, List.length_append, List.length_append, List.length_map, ok.pre]
  have hpl : (q.pre ++ xs.map AV.int).length = q.off + xs.length := by rw [List.length_append, List.length_map, ok.pre]
  rcases Rel.cells_of (by decide) e2 with ⟨e3, e4⟩ | ⟨ad, cap, us, e3, hl, hc, h1c, hrel⟩
  · cases e4
  obtain ⟨u, rfl⟩ : ∃ u, us = [u] := List.length_eq_one_iff.1 hl
  obtain rfl : u = .int .i64 kk := hrel.1
  have hlo := ok.lo
  have hhi := ok.hi
  by_cases hroom : xs.length + 1 ≤ q.c
  · obtain ⟨p, ps, hps⟩ : ∃ p ps, q.post = p :: ps := by
      cases hq : q.post with
      | nil => rw [hq] at hhi; simp at hhi; omega
      | cons p ps => exact ⟨p, ps, rfl⟩
    let q' : Qu := ⟨q.g, q.off, q.c, q.pre, ps⟩
    have hq' : q'.Ok (xs.length + 1) := ⟨ok.pre, hroom, by rw [hps, List.length_cons] at hhi; show q.c ≤ xs.length + 1 + ps.length; omega⟩
    obtain ⟨h1, h2, eh, eH⟩ := (hu q').split
    have hj' := (hj.get q').get hq'
    rw [eH] at hj'
    rw [eh] at k1
    have hst := run_storeCells_at k.P q.g (q.off + xs.length) E [.int .i64 kk] 0 cs w hc1 (by rw [hps, List.length_cons] at hcl; simp only [Array.length_toList] at hcl; simp only [List.length_singleton]; omega) h1c
    simp only [Nat.add_zero, List.length_singleton] at hst
    have hkeep := fun (y : Nat) (hy : y ≠ q.g) => setRow_other w q.g y (cs.toList.take (q.off + xs.length) ++ [Value.int .i64 kk] ++ cs.toList.drop (q.off + xs.length + 1)).toArray hy
    have hb : blks (h1 ++ quE E q xs :: h2) = blks h1 ++ q.g :: blks h2 := by simp [blks, Ent.blk]
    have hI : ∀ z, I z → z ≠ q.g := fun z hz e => by subst e; exact (k1.imm _ hz).2 (by rw [hb]; simp)
    have hre : Ent.rel (w.setRow q.g (cs.toList.take (q.off + xs.length) ++ [Value.int .i64 kk] ++ cs.toList.drop (q.off + xs.length + 1)).toArray) I (quE E q' (xs ++ [kk])) := by
      refine ⟨_, setRow_heap w q.g cs _ E (0, 0) hc1, ?_⟩
      have m : ∀ {ys : List AV} {us : List Value}, AV.rels w I ys us → AV.rels (w.setRow q.g (cs.toList.take (q.off + xs.length) ++ [Value.int .i64 kk] ++ cs.toList.drop (q.off + xs.length + 1)).toArray) I ys us := fun h => AV.rels_mono (fun y hy => hkeep y (hI y hy)) (fun _ h => h) h
      have t1 := rels_take (q.off + xs.length) hc2
      have t2 := rels_drop (q.off + xs.length + 1) hc2
      rw [List.take_append_of_le_length (by omega), List.take_of_length_le (by omega)] at t1
      rw [hps, show q.off + xs.length + 1 = (q.pre ++ xs.map AV.int).length + 1 by rw [hpl], List.drop_append, List.drop_of_length_le (by omega), List.nil_append, show (q.pre ++ xs.map AV.int).length + 1 - (q.pre ++ xs.map AV.int).length = 1 by omega, List.drop_succ_cons, List.drop_zero, hpl] at t2
      have e : q'.pre ++ (xs ++ [kk]).map AV.int ++ q'.post = (q.pre ++ xs.map AV.int) ++ [AV.int kk] ++ ps := by simp [q']
      rw [e]
      exact AV.rels_append (AV.rels_append (m t1) ⟨rfl, trivial⟩) (m t2)
    obtain ⟨m1, m2⟩ := k1.write (e := quE E q xs) (e' := quE E q' (xs ++ [kk])) (b := q.g) (w' := w.setRow q.g _) rfl rfl rfl rfl rfl (by simp) hkeep hre
    refine ⟨.slice (some ⟨q.g, q.off, none⟩) (xs.length + 1) q.c, _, I, .val (q'.v (xs.length + 1)), _, ?_, m1, k2.mono m2 (fun _ h => h), rfl, hj'⟩
    have hf : (Builtin.firstCells 1 1 (.slice (some ad) 1 cap)).run k.P w = .ok [Value.int .i64 kk].toArray w := run_firstCells_some (P := k.P) w 1 1 ad 1 cap [.int .i64 kk] rfl hc
    have e3' : a.eval y = .slice (some ad) 1 cap := e3
    simp [execOp, resolve, invoke, builtin, e1, e3', Builtin.append_, run_underlying hT, sizeOf, typeInfo, hi, Builtin.lenOf, hroom, hz1, hf, Addr.add_lit, hst]
  · have holds : ∀ j u, (xs.map (Value.int .i64))[j]? = some u → w.cell? ((⟨q.g, q.off, none⟩ : Addr).add j) = some u := fun j u hu => by
      rw [Addr.add_lit, cell_of_row w q.g (q.off + j) cs E (0, 0) hc1]
      have hj : j < xs.length := by
        have := (List.getElem?_eq_some_iff.1 hu).1
        simpa using this
      obtain ⟨v, h1, h2⟩ := AV.rels_get hc2 (q.off + j) (.int xs[j]) (by
        rw [List.getElem?_append_left (by omega), List.getElem?_append_right (by rw [ok.pre]; omega), ok.pre, Nat.add_sub_cancel_left, List.getElem?_map, List.getElem?_eq_getElem hj]; rfl)
      rw [List.getElem?_map, List.getElem?_eq_getElem hj] at hu
      cases hu
      obtain rfl : v = .int .i64 xs[j] := h2
      simpa using h1
    have e3' : a.eval y = .slice (some ad) 1 cap := e3
    have hr := run_append_grow (P := k.P) w T ty E i z hT hi hz0 ⟨q.g, q.off, none⟩ xs.length q.c (xs.map (Value.int .i64)) (by rw [hz1]; simp) holds ad 1 cap [.int .i64 kk] (by rw [hz1]; rfl) hc (by omega) (by omega) (growslice_fits (by omega) (by rw [hz2]; exact hb))
    generalize hzc : Builtin.zeroCells z.cells (grownCap w (xs.length + 1) q.c E - (xs.length + 1)) = zc at hr
    have hge := grownCap_ge w (xs.length + 1) q.c E
    have hzs : zc.size = grownCap w (xs.length + 1) q.c E - (xs.length + 1) := by rw [← hzc, size_zeroCells, hz, Nat.mul_one]
    generalize grownCap w (xs.length + 1) q.c E = cp at hr hge hzs
    obtain ⟨O, hO⟩ : ∃ O, O = Obj.cells ((xs.map (Value.int .i64)).toArray ++ [Value.int .i64 kk].toArray ++ zc) E := ⟨_, rfl⟩
    rw [← hO] at hr
    let q' : Qu := ⟨w.heap.size, 0, cp, [], zc.toList.map AV.val⟩
    have hq' : q'.Ok (xs.length + 1) := ⟨rfl, hge, by
      have ezc : zc.toList.length = cp - (xs.length + 1) := hzs
      show cp ≤ xs.length + 1 + (zc.toList.map AV.val).length
      rw [List.length_map, ezc]; omega⟩
    obtain ⟨h1, h2, eh, eH⟩ := (hu q').split
    have hj' := (hj.get q').get hq'
    rw [eH] at hj'
    rw [eh] at k1
    have hdr : Same I (h1 ++ quE E q xs :: h2) w w.drew := ⟨rfl, rfl, rfl, Nat.le_refl _, fun _ _ => rfl⟩
    have kd := k1.same hdr
    have sd := k2.same k1 hdr
    have hmapv : ∀ l : List Int, l.map AV.int = (l.map (Value.int .i64)).map AV.val := fun l => by rw [List.map_map]; rfl
    have hre : Ent.rel (w.drew.alloc O) I (quE E q' (xs ++ [kk])) := by
      rw [hO]
      refine ⟨_, heap_alloc_new w.drew _, ?_⟩
      have e : q'.pre ++ (xs ++ [kk]).map AV.int ++ q'.post = ((xs.map (Value.int .i64)) ++ [Value.int .i64 kk] ++ zc.toList).map AV.val := by simp [q', hmapv]
      rw [e]
      have := rels_vals (w.drew.alloc (Obj.cells ((xs.map (Value.int .i64)).toArray ++ [Value.int .i64 kk].toArray ++ zc) E)) I ((xs.map (Value.int .i64)) ++ [Value.int .i64 kk] ++ zc.toList)
      simpa using this
    have kf := kd.fresh O (quE E q' (xs ++ [kk])) rfl hre
    have sf := sd.fresh kd O
    have hp : (quE E q' (xs ++ [kk]) :: (h1 ++ quE E q xs :: h2)).Perm (quE E q xs :: (h1 ++ quE E q' (xs ++ [kk]) :: h2)) := by
      refine (List.Perm.cons _ List.perm_middle).trans ((List.Perm.swap _ _ _).trans (List.Perm.cons _ List.perm_middle.symm))
    obtain ⟨I', m1, m2⟩ := VS.trans (VS.perm (ρ := ρ) hp) (VS.drop (List.sublist_cons_self _ _)) _ _ _ _ _ kf sf
    exact ⟨_, _, I', .val (q'.v (xs.length + 1)), _, by simp [execOp, resolve, invoke, builtin, e1, e3', hr]; exact ⟨⟨rfl, rfl⟩, rfl⟩, m1, m2, rfl, hj'⟩
end
end Go.Av
namespace Go.Av
open Go Go.Instr
set_option linter.unusedVariables false
set_option linter.unusedSimpArgs false
section
variable {P : Program} {G : List (Nat × List D)} {ρ : Env} {h : H} {dst : Option Tmp} {ty : TypeId} {pos : String} {after : Array Edge} {g : Option (Nat × Bool)}
theorem pu_lookM0 {α β : Type} [DecidableEq α] {kd : TypeDesc} {kv : α → Value} {vv : β → Value} (K : KeyK kd kv) {T KT ET : TypeId} {x y : Operand} {b : Nat} {ps : List (α × β)} {a : α} {z : Value} {sz eb : Nat}
    (hx : evO ρ x = some (.val (.map (some b)))) (hy : evO ρ y = some (.val (kv a))) (hT : P.underlying T = some (.map KT ET)) (hK : P.underlying KT = some kd) (hE : El P ET z sz eb) (hm : Ent.raw b (mapO (entL kv vv ps)) ∈ h) (hg : getM ps a = none) :
    Pure P G ⟨dst, .lookup T x y true, ty, pos, after, g⟩ ρ h (.tup [.val z, .bool false]) := by
  have := pu_lookM (G := G) (dst := dst) (ty := ty) (pos := pos) (after := after) (g := g) K hx hy hT hK hE hm
  rw [hg] at this; exact this
theorem pu_lookM2 {α β : Type} [DecidableEq α] {kd : TypeDesc} {kv : α → Value} {vv : β → Value} (K : KeyK kd kv) {T KT ET : TypeId} {x y : Operand} {b : Nat} {ps : List (α × β)} {a : α} {c : β} {z : Value} {sz eb : Nat}
    (hx : evO ρ x = some (.val (.map (some b)))) (hy : evO ρ y = some (.val (kv a))) (hT : P.underlying T = some (.map KT ET)) (hK : P.underlying KT = some kd) (hE : El P ET z sz eb) (hm : Ent.raw b (mapO (entL kv vv ps)) ∈ h) (hg : getM ps a = some c) :
    Pure P G ⟨dst, .lookup T x y true, ty, pos, after, g⟩ ρ h (.tup [.val (vv c), .bool true]) := by
  have := pu_lookM (G := G) (dst := dst) (ty := ty) (pos := pos) (after := after) (g := g) K hx hy hT hK hE hm
  rw [hg] at this; exact this
end
section
variable {k : Kx} {Q : Exit → Env → H → Prop} {ρ : Env} {h h' : H} {ops : Array Oper} {l : List Oper} {d : Nat} {ty : TypeId} {pos : String} {after : Array Edge}
theorem jrow_i1 {T E : TypeId} {x : Operand} {a : Int} {z : Value} {eb : Nat} (h0 : evO ρ x = some (.int a)) (hT : k.P.underlying T = some (.slice E)) (he : El k.P E z 1 eb)
    (hd : Nat.blt d k.n = true) (hj : All fun q : Sl => JL k ops l Q ((d, .val q.v) :: ρ) (rowE q.v E 1 Sp.intC [a] :: h)) : JL k ops (⟨some d, .buildSlice T 1 #[(0, x)], ty, pos, after, none⟩ :: l) Q ρ h := by
  refine JL_buildRow (f := Sp.intC) (ys := [a]) (xs := [x]) hT he (by decide) (by simp) rfl ?_ ?_ (fun _ => rfl) (by simp) hd ⟨fun v => JL_slice (h1 := []) rfl fun q e => by subst e; exact hj.get q⟩
  · simp only [List.map_cons, List.map_nil, ev_of_evO h0]; rfl
  · intro x hx
    simp only [List.mem_cons, List.not_mem_nil, or_false] at hx
    rw [hx, ev_of_evO h0]; rfl
end
end Go.Av
namespace Go.Av
open Go Go.Instr
set_option linter.unusedVariables false
set_option linter.unusedSimpArgs false
section
variable {P : Program} {G : List (Nat × List D)} {ρ : Env} {h : H} {dst : Option Tmp} {ty : TypeId} {pos : String} {after : Array Edge} {g : Option (Nat × Bool)}
theorem pu_lookM1 {α β : Type} [DecidableEq α] {kd : TypeDesc} {kv : α → Value} {vv : β → Value} (K : KeyK kd kv) {T KT ET : TypeId} {x y : Operand} {b : Nat} {ps : List (α × β)} {a : α}
    (hx : evO ρ x = some (.val (.map (some b)))) (hy : evO ρ y = some (.val (kv a))) (hT : P.underlying T = some (.map KT ET)) (hK : P.underlying KT = some kd) (hm : Ent.raw b (mapO (entL kv vv ps)) ∈ h) {c : β} (hc : getM ps a = some c) :
    Pure P G ⟨dst, .lookup T x y false, ty, pos, after, g⟩ ρ h (.val (vv c)) := by
  intro cx I n ac w _ hok hs
  have e1 := rel_val (hs.ev x) (ev_of_evO hx)
  have e2 := rel_val (hs.ev y) (ev_of_evO hy)
  have hb : w.heap[b]? = some (mapO (entL kv vv ps)) := hok.ent _ hm
  refine ⟨vv c, rfl, fun w' hw' => ?_⟩
  have hb' : w'.heap[b]? = some (mapO (entL kv vv ps)) := (hw'.own b (mem_blks hm rfl)).trans hb
  have hobj : (getObj b).run P w' = .ok (.map (mapEs (entL kv vv ps) 0).toArray (entL kv vv ps).length) w' := by simp [getObj, Sem.run, hb', mapO]
  obtain ⟨r, hr1, hr2⟩ := run_find (vv := vv) K hK ps a w'
  simp only [execOp, e1, e2, lookup]
  rw [hc] at hr2
  cases r with
  | none => cases hr2
  | some p =>
    obtain ⟨j, v⟩ := p
    obtain rfl : v = vv c := by simpa using hr2
    simp [run_underlying hT, hobj, K.easy P KT _ a w' hK, hr1]
end
section
variable {k : Kx} {Q : Exit → Env → H → Prop} {ρ : Env} {h h' : H} {ops : Array Oper} {l : List Oper} {d : Nat} {ty : TypeId} {pos : String} {after : Array Edge} {g : Option (Nat × Bool)}
-- an entry of a literal
theorem jmkmapE {α β : Type} (kv : α → Value) (vv : β → Value) {T : TypeId} (hd : Nat.blt d k.n = true) (hj : All fun b : Nat => JL k ops l Q ((d, .val (.map (some b))) :: ρ) (.raw b (mapO (entL kv vv [])) :: h)) : JL k ops (⟨some d, .makeMap T none, ty, pos, after, none⟩ :: l) Q ρ h := jmkmap hd hj
end
end Go.Av
namespace Go.Proofs.Ytcikppldaepodaa
open Go Go.Av Go.Sp
set_option linter.unusedVariables false
set_option linter.unusedSimpArgs false
set_option maxRecDepth 100000
set_option maxHeartbeats 4000000
theorem cal_way : Cal Try.prog 28 := Cal.of Try.func28 (by kernel_rfl) (by kernel_rfl)
abbrev castL (l : List Nat) : List Int := l.map fun k : Nat => (k : Int)
theorem way (g : Gn) (hok : g.ok) (fr : List Nat) (ins wnt : Nat → Bool) (fi fw : FuncId) (ci cw : Array Value) (ea eb ec ed : Ent) (hci : Cal Try.prog fi) (hcw : Cal Try.prog fw)
    (hai : ∀ k : Nat, k < g.spots.length → AC Try.prog GP fi ([.int k] ++ ci.toList.map AV.val) [ea, eb, ec, ed] fun r h => ∃ _ : Unit, r = .ret (.bool (ins k)) ∧ h = [ea, eb, ec, ed])
    (haw : ∀ k : Nat, k < g.spots.length → AC Try.prog GP fw ([.int k] ++ cw.toList.map AV.val) [ea, eb, ec, ed] fun r h => ∃ _ : Unit, r = .ret (.bool (wnt k)) ∧ h = [ea, eb, ec, ed])
    (hne : fr ≠ []) (hnd : fr.Nodup) (hfr : ∀ k ∈ fr, k < g.spots.length) :
    AC Try.prog GP 28 [gnA g, .d (intsD (castL fr)), .val (.func (.func fi) #[] ci), .val (.func (.func fw) #[] cw)] [ea, eb, ec, ed] fun r h => ∃ v : {l : List Nat // WayP g.nx g.spots.length fr ins wnt l ∧ l.length ≤ g.spots.length}, r = .ret (.d (intsD (castL v.1))) ∧ h = [ea, eb, ec, ed] := by
  have hsz := hok.size
  have hnl := hok.next
  have hto := fun i => g.nx_lt hok i
  refine AC_ofV (ts := [8]) Try.f28.ntmps Try.func28 rfl rfl rfl (by simp [Try.ntmps28]) fun W I => ?_
  have hfl : fr.length ≤ g.spots.length := by
    have h1 := (WI.nil g.nx g.spots.length fr ins)
    have key : ∀ (m : Nat) (xs : List Nat), xs.Nodup → (∀ x ∈ xs, x < m) → xs.length ≤ m := by
      intro m
      induction m with
      | zero =>
        intro xs _ h
        cases xs with
        | nil => exact Nat.le_refl _
        | cons x _ => have := h x List.mem_cons_self; omega
      | succ m ih =>
        intro xs hn h
        have i1 := ih (xs.erase m) (hn.erase _) fun x hx => by
          have h1 := h x (List.mem_of_mem_erase hx)
          have h2 : x ≠ m := fun e => by subst e; exact (List.Nodup.not_mem_erase hn) hx
          omega
        have := List.length_erase (a := m) (l := xs)
        split at this <;> omega
    exact key _ fr hnd hfr
  have hcl : (castL fr).length = fr.length := by simp
  refine jrow (E := 3) (sz := 1) intC ?_
  all_goals haveI fA_ : FlagA := ⟨⟩
  repeat' (first
    | ((with_reducible apply (jmkmapE (Value.int .i64) (Value.int .i64))); (focus rfl))
    | ((with_reducible apply jp); (focus ((with_reducible apply (pu_lookM0 (vv := Value.int .i64) (keyK_int .i64))); (focus rfl); (focus rfl); (focus rfl); (focus rfl); (focus (with_reducible exact ElC.h)); (focus ((repeat (first | exact List.mem_cons_self | apply List.mem_cons_of_mem)); done)); (focus assumption))); (focus rfl))
    | ((with_reducible apply jp); (focus ((with_reducible apply (pu_lookM2 (vv := Value.int .i64) (keyK_int .i64))); (focus rfl); (focus rfl); (focus rfl); (focus rfl); (focus (with_reducible exact ElC.h)); (focus ((repeat (first | exact List.mem_cons_self | apply List.mem_cons_of_mem)); done)); (focus assumption))); (focus rfl))
    | exact True.intro
    | refine stp ?_
    | refine two ?_ ?_
    | (refine imp fun hc => ?_) <;> try (first | contradiction | (exfalso; omega))
    | refine all fun v_ => ?_)
  all_goals clear fA_
  obtain ⟨q, rfl⟩ : ∃ x, x = v_ := ⟨v_, rfl⟩
  obtain ⟨bm, rfl⟩ : ∃ x, x = v_ := ⟨v_, rfl⟩
  obtain ⟨bx, rfl⟩ : ∃ x, x = v_ := ⟨v_, rfl⟩
  refine J_loopV (X := Nat) (fun i => [(2, .val (.func (.func fi) #[] ci)), (3, .val (.func (.func fw) #[] cw)), (4, .val (.pointer (some ⟨bx, 0, none⟩))), (9, .val (.map (some bm))), (10, .val q.v), (22, .d (intsD (castL fr))), (23, .int fr.length), (24, .int i)]) (fun i => [.raw bm (mapO (entL (Value.int .i64) (Value.int .i64) ((fr.take i).map fun k : Nat => ((k : Int), (-1 : Int))))), rowE q.v 3 1 intC (castL fr), .cells bx 56 [.d (opsD g.spots), .int g.init, .d (natLD g.next), .d (natsD g.sets), .int g.many], ea, eb, ec, ed]) (fun i => i ≤ fr.length ∧ ∀ k ∈ fr.take i, wnt k = false) (fun i => fr.length - i) 0 ⟨Nat.zero_le _, fun k hk => (by cases hk)⟩ (VS.take (by ((repeat (first | exact Take.nil | ((with_reducible apply Take.cons); (focus ((repeat (first | exact Sel.here | with_reducible apply Sel.there)); done))))); done)) ?_) ?_
  · repeat (first
      | exact Env.le_nil _
      | refine Env.le_cons (AV.le_refl _) ?_
      | refine Env.le_cons (AV.le_int rfl (by first | rfl | omega | (dsimp only; omega))) ?_)
  rintro i ⟨hi, hun⟩
  by_cases hil : i < fr.length
  · have hlt := hfr _ (List.getElem_mem hil)
    have hci' : (castL fr)[i]'(by omega) = (fr[i] : Int) := by simp
    have hw := haw fr[i] hlt
    rw [← hci'] at hw
    have hno : getM ((fr.take i).map fun k : Nat => ((k : Int), (-1 : Int))) ((castL fr)[i]'(by omega)) = none := by
      rw [hci', getM_none]
      intro p hp e
      obtain ⟨k, hk, rfl⟩ := List.mem_map.1 hp
      obtain ⟨j, hj, rfl⟩ := List.getElem_of_mem hk
      rw [List.getElem_take] at e
      rw [List.length_take] at hj
      have := List.pairwise_iff_getElem.1 hnd j i (by omega) hil (by omega)
      exact this (by dsimp only at e; omega)
    have hps : (fr.take (i + 1)).map (fun k : Nat => ((k : Int), (-1 : Int))) = ((fr.take i).map fun k : Nat => ((k : Int), (-1 : Int))) ++ [((castL fr)[i]'(by omega), (-1 : Int))] := by
      rw [List.take_succ_eq_append_getElem hil, List.map_append, hci']; rfl
    cases hwk : wnt fr[i] with
    | true =>
      rw [hwk] at hw
      all_goals haveI fA_ : FlagA := ⟨⟩
      repeat' (first
        | ((with_reducible apply (js_putMr (keyK_int .i64) (vv := Value.int .i64) (c := -1))); (focus rfl); (focus rfl); (focus rfl); (focus exact fun _ _ _ h => h); (focus rfl); (focus rfl); (focus ((repeat (first | with_reducible exact Upd.here | with_reducible apply Upd.there)); done)); (focus assumption))
        | ((with_reducible apply callGV); (focus rfl); (focus rfl); (focus exact hcw); (focus exact hw); (focus ((repeat (first | with_reducible exact Take.nil | ((with_reducible apply Take.cons); (focus ((repeat (first | with_reducible exact Sel.here | with_reducible apply Sel.there)); done))))); done)); (focus rfl); (focus (intro v_; (repeat (first | exact App.nil | apply App.cons)); done)))
        | exact True.intro
        | refine stp ?_
        | refine two ?_ ?_
        | (refine imp fun hc => ?_) <;> try (first | contradiction | (exfalso; omega))
        | refine all fun v_ => ?_)
      all_goals clear fA_
      refine retv (VS.drop (h' := [ea, eb, ec, ed]) (by (repeat (first | exact List.nil_sublist _ | (with_reducible apply List.Sublist.cons_cons) | apply List.Sublist.cons)))) ?_
      ((with_reducible apply rq1); rfl; rfl)
      refine ⟨⟨[fr[i]], WayP.one (List.getElem_mem hil) hlt hwk, by rw [List.length_singleton]; omega⟩, ?_, rfl⟩
      rw [hci']; rfl
    | false =>
      rw [hwk] at hw
      all_goals haveI fA_ : FlagA := ⟨⟩
      repeat' (first
        | ((with_reducible apply (js_putMr (keyK_int .i64) (vv := Value.int .i64) (c := -1))); (focus rfl); (focus rfl); (focus rfl); (focus exact fun _ _ _ h => h); (focus rfl); (focus rfl); (focus ((repeat (first | with_reducible exact Upd.here | with_reducible apply Upd.there)); done)); (focus assumption))
        | ((with_reducible apply callGV); (focus rfl); (focus rfl); (focus exact hcw); (focus exact hw); (focus ((repeat (first | with_reducible exact Take.nil | ((with_reducible apply Take.cons); (focus ((repeat (first | with_reducible exact Sel.here | with_reducible apply Sel.there)); done))))); done)); (focus rfl); (focus (intro v_; (repeat (first | exact App.nil | apply App.cons)); done)))
        | exact True.intro
        | refine stp ?_
        | refine two ?_ ?_
        | (refine imp fun hc => ?_) <;> try (first | contradiction | (exfalso; omega))
        | refine all fun v_ => ?_)
      all_goals clear fA_
      refine ⟨i + 1, ⟨by omega, fun k hk => ?_⟩, by omega, VS.take (by rw [hps]; ((repeat (first | exact Take.nil | ((with_reducible apply Take.cons); (focus ((repeat (first | exact Sel.here | with_reducible apply Sel.there)); done))))); done)) ?_⟩
      · rw [List.take_succ_eq_append_getElem hil] at hk
        rcases List.mem_append.1 hk with h | h
        · exact hun k h
        · rw [List.mem_singleton.1 h]; exact hwk
      · repeat (first
          | exact Env.le_nil _
          | refine Env.le_cons (AV.le_refl _) ?_
          | refine Env.le_cons (AV.le_int rfl (by first | rfl | omega | (dsimp only; omega))) ?_)
  obtain rfl : i = fr.length := by omega
  rw [List.take_length] at hun ⊢
  have hW0 : WS g.nx g.spots.length fr ins wnt (fr.map fun k : Nat => ((k : Int), (-1 : Int))) (castL fr) none := WS.start hnd hfr hun
  have hfl0 : 0 < (castL fr).length := by rw [hcl]; exact List.length_pos_iff.2 hne
  refine J_openQ (h1 := [_]) hfl0 fun qu hqo hqv => ?_
  rw [hqv]
  rw [hcl] at hqo ⊢
  all_goals haveI fA_ : FlagA := ⟨⟩
  repeat' (first
    | exact True.intro
    | refine stp ?_
    | refine two ?_ ?_
    | (refine imp fun hc => ?_) <;> try (first | contradiction | (exfalso; omega))
    | refine all fun v_ => ?_)
  all_goals clear fA_
  refine J_loopV (X := List (Int × Int) × List Int × Qu) (fun y => [(2, .val (.func (.func fi) #[] ci)), (3, .val (.func (.func fw) #[] cw)), (4, .val (.pointer (some ⟨bx, 0, none⟩))), (9, .val (.map (some bm))), (10, .val (y.2.2.v y.2.1.length))]) (fun y => [.raw bm (mapO (entL (Value.int .i64) (Value.int .i64) (y.1))), quE 3 y.2.2 y.2.1, .cells bx 56 [.d (opsD g.spots), .int g.init, .d (natLD g.next), .d (natsD g.sets), .int g.many], ea, eb, ec, ed]) (fun y => WS g.nx g.spots.length fr ins wnt y.1 y.2.1 none ∧ y.2.2.Ok y.2.1.length ∧ y.2.1.length ≤ y.1.length) (fun y => 2 * (g.spots.length - y.1.length) + y.2.1.length) (_, castL fr, qu) ⟨hW0, by rw [hcl]; exact hqo, by rw [hcl, List.length_map]; exact Nat.le_refl _⟩ (VS.take (by ((repeat (first | exact Take.nil | ((with_reducible apply Take.cons); (focus ((repeat (first | exact Sel.here | with_reducible apply Sel.there)); done))))); done)) ?_) ?_
  · rw [hcl]; repeat (first
                | exact Env.le_nil _
                | refine Env.le_cons (AV.le_refl _) ?_
                | refine Env.le_cons (AV.le_int rfl (by first | rfl | omega | (dsimp only; omega))) ?_)
  rintro ⟨ps, td, qu⟩ ⟨hW, hqo, htd⟩
  dsimp only at hW hqo htd ⊢
  have hpl := hW.wi.len
  cases td with
  | nil =>
    dsimp only [List.length_nil] at hqo htd ⊢
    all_goals haveI fA_ : FlagA := ⟨⟩
    repeat' (first
      | exact True.intro
      | refine stp ?_
      | refine two ?_ ?_
      | (refine imp fun hc => ?_) <;> try (first | contradiction | (exfalso; omega))
      | refine all fun v_ => ?_)
    all_goals clear fA_
    refine retv (VS.trans (VS.drop (h' := [ea, eb, ec, ed]) (by (repeat (first | exact List.nil_sublist _ | (with_reducible apply List.Sublist.cons_cons) | apply List.Sublist.cons)))) (vnil (t := 8) 1 8 rfl)) ?_
    ((with_reducible apply rq1); rfl; rfl)
    exact ⟨⟨[], .inr ⟨rfl, hW.noway⟩, Nat.zero_le _⟩, rfl, rfl⟩
  | cons y td =>
    obtain ⟨i, rfl, hik⟩ := hW.todo y List.mem_cons_self
    obtain ⟨i0, hi0, ei⟩ := isKey_at.1 hik
    obtain ⟨i', ei', hin, _⟩ := hW.wi.key i0 hi0
    obtain rfl : i = i' := by omega
    have hnx := g.nx_get i (by omega)
    dsimp only [List.length_cons] at hqo htd ⊢
    have hh := qu_head qu (i : Int) td hqo
    have hq1 : (qu.tl (i : Int)).Ok td.length := hqo.tl
    obtain ⟨M, hM⟩ : ∃ M, M = 2 * (g.spots.length - ps.length) + td.length := ⟨_, rfl⟩
    have hW1 := hW.pop
    all_goals haveI fA_ : FlagA := ⟨⟩
    repeat' (first
      | ((with_reducible apply jp); (focus ((with_reducible apply pu_qu_at0); (focus rfl); (focus rfl); (focus rfl); (focus (with_reducible exact ElC.h)); (focus omega))); (focus rfl))
      | ((with_reducible apply jp); (focus ((with_reducible apply (pu_qu_tl (i : Int))); (focus rfl); (focus rfl); (focus rfl); (focus (with_reducible exact ElC.h)); (focus assumption))); (focus rfl))
      | exact True.intro
      | refine stp ?_
      | refine two ?_ ?_
      | (refine imp fun hc => ?_) <;> try (first | contradiction | (exfalso; omega))
      | refine all fun v_ => ?_)
    all_goals clear fA_
    rw [← quE_tl 3 qu (i : Int) td hqo]
    generalize qu.tl (i : Int) = qu1 at hq1 ⊢
    refine J_loopV (X := List (Int × Int) × List Int × Qu × Nat) (fun y => [(2, .val (.func (.func fi) #[] ci)), (3, .val (.func (.func fw) #[] cw)), (4, .val (.pointer (some ⟨bx, 0, none⟩))), (9, .val (.map (some bm))), (10, .val (y.2.2.1.v y.2.1.length)), (13, .int i), (49, .d (natsD g.next[i])), (50, .int g.next[i].length), (51, .int y.2.2.2)]) (fun y => [.raw bm (mapO (entL (Value.int .i64) (Value.int .i64) (y.1))), quE 3 y.2.2.1 y.2.1, .cells bx 56 [.d (opsD g.spots), .int g.init, .d (natLD g.next), .d (natsD g.sets), .int g.many], ea, eb, ec, ed]) (fun y => WS g.nx g.spots.length fr ins wnt y.1 y.2.1 (some (i, y.2.2.2)) ∧ y.2.2.1.Ok y.2.1.length ∧ y.2.1.length ≤ y.1.length ∧ y.2.2.2 ≤ g.next[i].length ∧ 2 * (g.spots.length - y.1.length) + y.2.1.length ≤ M) (fun y => g.next[i].length - y.2.2.2) (ps, td, qu1, 0) ⟨hW1, hq1, by dsimp only; omega, Nat.zero_le _, by dsimp only; omega⟩ (VS.take (by ((repeat (first | exact Take.nil | ((with_reducible apply Take.cons); (focus ((repeat (first | exact Sel.here | with_reducible apply Sel.there)); done))))); done)) ?_) ?_
    · repeat (first
        | exact Env.le_nil _
        | refine Env.le_cons (AV.le_refl _) ?_
        | refine Env.le_cons (AV.le_int rfl (by first | rfl | omega | (dsimp only; omega))) ?_)
    rintro ⟨ps1, td1, qu2, m⟩ ⟨hW2, hq2, htd2, hm, hM2⟩
    dsimp only at hW2 hq2 htd2 hm hM2 ⊢
    have hpl2 := hW2.wi.len
    refine jfact (t := 49) rfl fun hlj => ?_
    by_cases hml : m < g.next[i].length
    · have hm' : m < (g.nx i).length := by rw [hnx]; exact hml
      have hke : (g.nx i)[m] = g.next[i][m] := by simp only [hnx]
      have hkn := g.nx_lt hok i _ (List.getElem_mem hm')
      have hadd := fun hno hi hw => hW2.meet (fun i => g.nx_lt hok i) hm' hno hi hw
      have hskip := fun ho => hW2.skip hm' ho
      rw [hke] at hkn hadd hskip
      have hi1 := hai _ hkn
      have hw1 := haw _ hkn
      cases hg : getM ps1 (g.next[i][m] : Int) with
      | some c =>
        all_goals haveI fA_ : FlagA := ⟨⟩
        repeat' (first
          | ((with_reducible apply (jmkmapE (Value.int .i64) (Value.int .i64))); (focus rfl))
          | ((with_reducible apply jp); (focus ((with_reducible apply (pu_lookM0 (vv := Value.int .i64) (keyK_int .i64))); (focus rfl); (focus rfl); (focus rfl); (focus rfl); (focus (with_reducible exact ElC.h)); (focus ((repeat (first | exact List.mem_cons_self | apply List.mem_cons_of_mem)); done)); (focus assumption))); (focus rfl))
          | ((with_reducible apply jp); (focus ((with_reducible apply (pu_lookM2 (vv := Value.int .i64) (keyK_int .i64))); (focus rfl); (focus rfl); (focus rfl); (focus rfl); (focus (with_reducible exact ElC.h)); (focus ((repeat (first | exact List.mem_cons_self | apply List.mem_cons_of_mem)); done)); (focus assumption))); (focus rfl))
          | exact True.intro
          | refine stp ?_
          | refine two ?_ ?_
          | (refine imp fun hc => ?_) <;> try (first | contradiction | (exfalso; omega))
          | refine all fun v_ => ?_)
        all_goals clear fA_
        refine ⟨(ps1, td1, qu2, m + 1), ⟨hskip (.inl (by unfold isKey; rw [hg]; exact fun h => nomatch h)), hq2, htd2, hml, hM2⟩, by dsimp only; omega, VS.take (by ((repeat (first | exact Take.nil | ((with_reducible apply Take.cons); (focus ((repeat (first | exact Sel.here | with_reducible apply Sel.there)); done))))); done)) ?_⟩
        repeat (first
          | exact Env.le_nil _
          | refine Env.le_cons (AV.le_refl _) ?_
          | refine Env.le_cons (AV.le_int rfl (by first | rfl | omega | (dsimp only; omega))) ?_)
      | none =>
        cases hin2 : ins g.next[i][m] with
        | false =>
          rw [hin2] at hi1
          all_goals haveI fA_ : FlagA := ⟨⟩
          repeat' (first
            | ((with_reducible apply (jmkmapE (Value.int .i64) (Value.int .i64))); (focus rfl))
            | ((with_reducible apply jp); (focus ((with_reducible apply (pu_lookM0 (vv := Value.int .i64) (keyK_int .i64))); (focus rfl); (focus rfl); (focus rfl); (focus rfl); (focus (with_reducible exact ElC.h)); (focus ((repeat (first | exact List.mem_cons_self | apply List.mem_cons_of_mem)); done)); (focus assumption))); (focus rfl))
            | ((with_reducible apply jp); (focus ((with_reducible apply (pu_lookM2 (vv := Value.int .i64) (keyK_int .i64))); (focus rfl); (focus rfl); (focus rfl); (focus rfl); (focus (with_reducible exact ElC.h)); (focus ((repeat (first | exact List.mem_cons_self | apply List.mem_cons_of_mem)); done)); (focus assumption))); (focus rfl))
            | ((with_reducible apply callGV); (focus rfl); (focus rfl); (focus exact hci); (focus exact hi1); (focus ((repeat (first | with_reducible exact Take.nil | ((with_reducible apply Take.cons); (focus ((repeat (first | with_reducible exact Sel.here | with_reducible apply Sel.there)); done))))); done)); (focus rfl); (focus (intro v_; (repeat (first | exact App.nil | apply App.cons)); done)))
            | exact True.intro
            | refine stp ?_
            | refine two ?_ ?_
            | (refine imp fun hc => ?_) <;> try (first | contradiction | (exfalso; omega))
            | refine all fun v_ => ?_)
          all_goals clear fA_
          refine ⟨(ps1, td1, qu2, m + 1), ⟨hskip (.inr hin2), hq2, htd2, hml, hM2⟩, by dsimp only; omega, VS.take (by ((repeat (first | exact Take.nil | ((with_reducible apply Take.cons); (focus ((repeat (first | exact Sel.here | with_reducible apply Sel.there)); done))))); done)) ?_⟩
          repeat (first
            | exact Env.le_nil _
            | refine Env.le_cons (AV.le_refl _) ?_
            | refine Env.le_cons (AV.le_int rfl (by first | rfl | omega | (dsimp only; omega))) ?_)
        | true =>
          rw [hin2] at hi1
          cases hwn : wnt g.next[i][m] with
          | false =>
            rw [hwn] at hw1
            all_goals haveI fA_ : FlagA := ⟨⟩
            repeat' (first
              | ((with_reducible apply (jmkmapE (Value.int .i64) (Value.int .i64))); (focus rfl))
              | ((with_reducible apply jp); (focus ((with_reducible apply (pu_lookM0 (vv := Value.int .i64) (keyK_int .i64))); (focus rfl); (focus rfl); (focus rfl); (focus rfl); (focus (with_reducible exact ElC.h)); (focus ((repeat (first | exact List.mem_cons_self | apply List.mem_cons_of_mem)); done)); (focus assumption))); (focus rfl))
              | ((with_reducible apply jp); (focus ((with_reducible apply (pu_lookM2 (vv := Value.int .i64) (keyK_int .i64))); (focus rfl); (focus rfl); (focus rfl); (focus rfl); (focus (with_reducible exact ElC.h)); (focus ((repeat (first | exact List.mem_cons_self | apply List.mem_cons_of_mem)); done)); (focus assumption))); (focus rfl))
              | ((with_reducible apply callGV); (focus rfl); (focus rfl); (focus exact hci); (focus exact hi1); (focus ((repeat (first | with_reducible exact Take.nil | ((with_reducible apply Take.cons); (focus ((repeat (first | with_reducible exact Sel.here | with_reducible apply Sel.there)); done))))); done)); (focus rfl); (focus (intro v_; (repeat (first | exact App.nil | apply App.cons)); done)))
              | ((with_reducible apply callGV); (focus rfl); (focus rfl); (focus exact hcw); (focus exact hw1); (focus ((repeat (first | with_reducible exact Take.nil | ((with_reducible apply Take.cons); (focus ((repeat (first | with_reducible exact Sel.here | with_reducible apply Sel.there)); done))))); done)); (focus rfl); (focus (intro v_; (repeat (first | exact App.nil | apply App.cons)); done)))
              | ((with_reducible apply (js_putMr (keyK_int .i64) (vv := Value.int .i64) (c := (i : Int)))); (focus rfl); (focus rfl); (focus rfl); (focus exact fun _ _ _ h => h); (focus rfl); (focus rfl); (focus ((repeat (first | with_reducible exact Upd.here | with_reducible apply Upd.there)); done)); (focus assumption))
              | ((with_reducible apply jqu_app); (focus rfl); (focus rfl); (focus rfl); (focus (with_reducible exact ElC.h)); (focus rfl); (focus rfl); (focus assumption); (focus rfl); (focus (first | omega | (simp only [List.length_map, List.length_range, List.length_append, List.length_cons, List.length_nil, List.length_take, List.length_drop, List.length_set, List.length_replicate]; omega))); (focus (first | omega | (simp only [List.length_map, List.length_range, List.length_append, List.length_cons, List.length_nil, List.length_take, List.length_drop, List.length_set, List.length_replicate]; omega))); (focus (intro q_; (repeat (first | with_reducible exact Upd.here | with_reducible apply Upd.there)); done)); (refine all fun qk => ?_); (refine imp fun hk => ?_))
              | exact True.intro
              | refine stp ?_
              | refine two ?_ ?_
              | (refine imp fun hc => ?_) <;> try (first | contradiction | (exfalso; omega))
              | refine all fun v_ => ?_)
            all_goals clear fA_
            refine ⟨(ps1 ++ [((g.next[i][m] : Int), (i : Int))], td1 ++ [(g.next[i][m] : Int)], qk, m + 1), ⟨hadd hg hin2 hwn, by dsimp only; rw [List.length_append, List.length_singleton]; exact hk, by dsimp only; rw [List.length_append, List.length_append, List.length_singleton, List.length_singleton]; omega, hml, by have := (hadd hg hin2 hwn).wi.len; dsimp only; rw [List.length_append, List.length_singleton] at this; rw [List.length_append, List.length_append, List.length_singleton, List.length_singleton]; omega⟩, by dsimp only; omega, VS.take (by dsimp only; ((repeat (first | exact Take.nil | ((with_reducible apply Take.cons); (focus ((repeat (first | exact Sel.here | with_reducible apply Sel.there)); done))))); done)) ?_⟩
            simp only [List.length_append, List.length_singleton]
            repeat (first
              | exact Env.le_nil _
              | refine Env.le_cons (AV.le_refl _) ?_
              | refine Env.le_cons (AV.le_int rfl (by first | rfl | omega | (dsimp only; omega))) ?_)
          | true =>
            rw [hwn] at hw1
            all_goals haveI fA_ : FlagA := ⟨⟩
            repeat' (first
              | ((with_reducible apply (jmkmapE (Value.int .i64) (Value.int .i64))); (focus rfl))
              | ((with_reducible apply jp); (focus ((with_reducible apply (pu_lookM0 (vv := Value.int .i64) (keyK_int .i64))); (focus rfl); (focus rfl); (focus rfl); (focus rfl); (focus (with_reducible exact ElC.h)); (focus ((repeat (first | exact List.mem_cons_self | apply List.mem_cons_of_mem)); done)); (focus assumption))); (focus rfl))
              | ((with_reducible apply jp); (focus ((with_reducible apply (pu_lookM2 (vv := Value.int .i64) (keyK_int .i64))); (focus rfl); (focus rfl); (focus rfl); (focus rfl); (focus (with_reducible exact ElC.h)); (focus ((repeat (first | exact List.mem_cons_self | apply List.mem_cons_of_mem)); done)); (focus assumption))); (focus rfl))
              | ((with_reducible apply callGV); (focus rfl); (focus rfl); (focus exact hci); (focus exact hi1); (focus ((repeat (first | with_reducible exact Take.nil | ((with_reducible apply Take.cons); (focus ((repeat (first | with_reducible exact Sel.here | with_reducible apply Sel.there)); done))))); done)); (focus rfl); (focus (intro v_; (repeat (first | exact App.nil | apply App.cons)); done)))
              | ((with_reducible apply callGV); (focus rfl); (focus rfl); (focus exact hcw); (focus exact hw1); (focus ((repeat (first | with_reducible exact Take.nil | ((with_reducible apply Take.cons); (focus ((repeat (first | with_reducible exact Sel.here | with_reducible apply Sel.there)); done))))); done)); (focus rfl); (focus (intro v_; (repeat (first | exact App.nil | apply App.cons)); done)))
              | ((with_reducible apply (js_putMr (keyK_int .i64) (vv := Value.int .i64) (c := (i : Int)))); (focus rfl); (focus rfl); (focus rfl); (focus exact fun _ _ _ h => h); (focus rfl); (focus rfl); (focus ((repeat (first | with_reducible exact Upd.here | with_reducible apply Upd.there)); done)); (focus assumption))
              | ((with_reducible apply jqu_app); (focus rfl); (focus rfl); (focus rfl); (focus (with_reducible exact ElC.h)); (focus rfl); (focus rfl); (focus assumption); (focus rfl); (focus (first | omega | (simp only [List.length_map, List.length_range, List.length_append, List.length_cons, List.length_nil, List.length_take, List.length_drop, List.length_set, List.length_replicate]; omega))); (focus (first | omega | (simp only [List.length_map, List.length_range, List.length_append, List.length_cons, List.length_nil, List.length_take, List.length_drop, List.length_set, List.length_replicate]; omega))); (focus (intro q_; (repeat (first | with_reducible exact Upd.here | with_reducible apply Upd.there)); done)); (refine all fun qk => ?_); (refine imp fun hk => ?_))
              | exact True.intro
              | refine stp ?_
              | refine two ?_ ?_
              | (refine imp fun hc => ?_) <;> try (first | contradiction | (exfalso; omega))
              | refine all fun v_ => ?_)
            all_goals clear fA_
            have hw2 : WI g.nx g.spots.length fr ins (ps1 ++ [((g.next[i][m] : Int), (i : Int))]) := by
              obtain ⟨j, hj, e1⟩ := isKey_at.1 (hW2.part i m rfl).1
              exact hW2.wi.add hg hkn (.inr ⟨j, hj, i, e1, rfl, by rw [← hke]; exact List.getElem_mem hm', hin2⟩)
            have hb0 : Bk g.nx g.spots.length fr ins wnt (ps1 ++ [((g.next[i][m] : Int), (i : Int))]) (ps1.length + 1) [] := Bk.start hw2 (by simp) (k := g.next[i][m]) (by simp) hwn
            have hk0 : kAt (ps1 ++ [((g.next[i][m] : Int), (i : Int))]) (ps1.length + 1) = g.next[i][m] := by rw [kAt_succ _ _ (by simp)]; simp
            have hl0 : (ps1 ++ [((g.next[i][m] : Int), (i : Int))]).length = ps1.length + 1 := by simp
            have hl2 := hw2.len
            generalize ps1 ++ [((g.next[i][m] : Int), (i : Int))] = ps2 at hw2 hb0 hl0 hl2 hk0 ⊢
            refine J_loopV (X := Nat × List Nat) (fun y => [(9, .val (.map (some bm))), (15, .int (kAt ps2 y.1)), (18, .d (intsD (castL y.2)))]) (fun y => [.raw bm (mapO (entL (Value.int .i64) (Value.int .i64) (ps2))), ea, eb, ec, ed]) (fun y => Bk g.nx g.spots.length fr ins wnt ps2 y.1 y.2 ∧ y.2.length + y.1 ≤ ps2.length) (fun y => y.1) (ps1.length + 1, []) ⟨hb0, by dsimp only [List.length_nil]; omega⟩ (VS.trans (vnil (t := 18) 1 8 rfl) (VS.take (by ((repeat (first | exact Take.nil | ((with_reducible apply Take.cons); (focus ((repeat (first | exact Sel.here | with_reducible apply Sel.there)); done))))); done)) ?_)) ?_
            · rw [hk0]; repeat (first
                          | exact Env.le_nil _
                          | refine Env.le_cons (AV.le_refl _) ?_
                          | refine Env.le_cons (AV.le_int rfl (by first | rfl | omega | (dsimp only; omega))) ?_)
            rintro ⟨p, l⟩ ⟨hb, hpl4⟩
            dsimp only at hb hpl4 ⊢
            cases p with
            | zero =>
              rw [kAt_zero]
              all_goals haveI fA_ : FlagA := ⟨⟩
              repeat' (first
                | exact True.intro
                | refine stp ?_
                | refine two ?_ ?_
                | (refine imp fun hc => ?_) <;> try (first | contradiction | (exfalso; omega))
                | refine all fun v_ => ?_)
              all_goals clear fA_
              refine retv (VS.drop (h' := [ea, eb, ec, ed]) (by (repeat (first | exact List.nil_sublist _ | (with_reducible apply List.Sublist.cons_cons) | apply List.Sublist.cons)))) ?_
              ((with_reducible apply rq1); rfl; rfl)
              exact ⟨⟨l, .inl (hb.fin rfl), by omega⟩, rfl, rfl⟩
            | succ j =>
              obtain ⟨k, p', hk, hgm, hp', hb'⟩ := hb.step hw2
              rw [hk]
              have hcll : (castL l).length = l.length := by simp
              refine J_seq (J_cutT (X := Unit) (fun _ => [(9, .val (.map (some bm))), (15, .int (k : Int)), (18, .d (intsD (castL l)))]) (fun _ => [.raw bm (mapO (entL (Value.int .i64) (Value.int .i64) (ps2))), ea, eb, ec, ed]) ?_ fun _ => ?_)
              · all_goals haveI fA_ : FlagA := ⟨⟩
                repeat' (first
                  | exact True.intro
                  | refine stp ?_
                  | refine two ?_ ?_
                  | (refine imp fun hc => ?_) <;> try (first | contradiction | (exfalso; omega))
                  | refine all fun v_ => ?_)
                all_goals clear fA_
                exact ⟨(), VS.take (by ((repeat (first | exact Take.nil | ((with_reducible apply Take.cons); (focus ((repeat (first | exact Sel.here | with_reducible apply Sel.there)); done))))); done)) (by repeat (first
                                                                                                                                                                                                                 | exact Env.le_nil _
                                                                                                                                                                                                                 | refine Env.le_cons (AV.le_refl _) ?_
                                                                                                                                                                                                                 | refine Env.le_cons (AV.le_int rfl (by first | rfl | omega | (dsimp only; omega))) ?_))⟩
              refine J_seq (J_block (J_region ?_))
              refine jp (r := .int (k : Int)) (pu_move rfl) rfl ?_
              refine jrow_i1 rfl rfl (by (with_reducible exact ElC.h)) rfl ?_
              all_goals haveI fA_ : FlagA := ⟨⟩
              repeat' (first
                | ((with_reducible apply jp); (focus ((with_reducible apply (pu_lookM1 (vv := Value.int .i64) (keyK_int .i64))); (focus rfl); (focus rfl); (focus rfl); (focus rfl); (focus ((repeat (first | exact List.mem_cons_self | apply List.mem_cons_of_mem)); done)); (focus assumption))); (focus rfl))
                | exact True.intro
                | refine stp ?_
                | refine two ?_ ?_
                | (refine imp fun hc => ?_) <;> try (first | contradiction | (exfalso; omega))
                | refine all fun v_ => ?_)
              all_goals clear fA_
              refine ⟨(p', k :: l), ⟨hb', by dsimp only [List.length_cons]; omega⟩, by dsimp only; omega, VS.trans (vfreeze (t := 18) (eb := 8) rfl rfl (fun x => rfl) (by rw [List.length_append, hcll, List.length_singleton]; omega)) (VS.take (by ((repeat (first | exact Take.nil | ((with_reducible apply Take.cons); (focus ((repeat (first | exact Sel.here | with_reducible apply Sel.there)); done))))); done)) ?_)⟩
              repeat (first
                | exact Env.le_nil _
                | refine Env.le_cons (AV.le_refl _) ?_
                | refine Env.le_cons (AV.le_int rfl (by first | rfl | omega | (dsimp only; omega))) ?_)
    · have hmm : m = (g.nx i).length := by rw [hnx]; omega
      rw [hmm] at hW2
      have hW3 := hW2.done
      all_goals haveI fA_ : FlagA := ⟨⟩
      repeat' (first
        | exact True.intro
        | refine stp ?_
        | refine two ?_ ?_
        | (refine imp fun hc => ?_) <;> try (first | contradiction | (exfalso; omega))
        | refine all fun v_ => ?_)
      all_goals clear fA_
      refine ⟨(ps1, td1, qu2), ⟨hW3, hq2, htd2⟩, by dsimp only; omega, VS.take (by ((repeat (first | exact Take.nil | ((with_reducible apply Take.cons); (focus ((repeat (first | exact Sel.here | with_reducible apply Sel.there)); done))))); done)) ?_⟩
      repeat (first
        | exact Env.le_nil _
        | refine Env.le_cons (AV.le_refl _) ?_
        | refine Env.le_cons (AV.le_int rfl (by first | rfl | omega | (dsimp only; omega))) ?_)
end Go.Proofs.Ytcikppldaepodaa
namespace Go.Sp
open Go Go.Av
set_option linter.unusedVariables false
set_option linter.unusedSimpArgs false

noncomputable def insP (g : Gn) (h k : Nat) : Bool := decide (ni (partN g) k = h)
theorem partN_at (g : Gn) {i : Nat} (h : i < g.spots.length) : ((ni (partN g) i : Nat) : Int) = partOf g.nx i := by
  have h1 := partOf_bound (nx := g.nx) i
  rw [ni_get _ _ (by rw [partN_length]; exact h)]
  simp only [partN, List.getElem_map, List.getElem_range]
  omega
theorem partN_iff (g : Gn) {i k : Nat} (hi : i < g.spots.length) (hk : k < g.spots.length) : ni (partN g) i = ni (partN g) k ↔ Rch g.nx i k ∧ Rch g.nx k i := by
  rw [← partOf_iff, ← partN_at g hi, ← partN_at g hk]
  omega
theorem Rch.head {nx : Nat → List Nat} {i j : Nat} (h : Rch nx i j) : i = j ∨ ∃ k ∈ nx i, Rch nx k j := by
  induction h with
  | refl => exact .inl rfl
  | step _ e ih =>
    rcases ih with rfl | ⟨k, hk, h⟩
    · exact .inr ⟨_, e, .refl _⟩
    · exact .inr ⟨k, hk, .step h e⟩
section
variable {g : Gn} {h : Nat}
theorem rchI_part (hok : g.ok) {i v : Nat} (hi : i < g.spots.length) (hih : ni (partN g) i = h) (h1 : Rch g.nx i v) (h2 : Rch g.nx v i) : RchI g.nx [i] (insP g h) v := by
  induction h1 with
  | refl => exact .base (List.mem_singleton.2 rfl)
  | step h3 e ih =>
    have h4 := (Rch.one e).trans h2
    refine .step (ih h4) e ?_
    have hk := g.nx_lt hok _ _ e
    unfold insP
    rw [decide_eq_true_iff, ← hih, partN_iff g hk hi]
    exact ⟨h2, h3.step e⟩
theorem WayP.found {nx : Nat → List Nat} {n : Nat} {fr : List Nat} {ins wnt : Nat → Bool} {l : List Nat} (w : WayP nx n fr ins wnt l) {v : Nat} (hv : RchI nx fr ins v) (hw : wnt v = true) : GoodW nx n fr ins wnt l := by
  rcases w with w | ⟨_, w⟩
  · exact w
  · rw [w v hv] at hw; cases hw
theorem stem_found (hh : reachedP g h) : RchI g.nx (List.range g.init) (fun _ => true) h := by
  obtain ⟨j, hj, hr⟩ := hh
  induction hr with
  | refl => exact .base (List.mem_range.2 hj)
  | step _ e ih => exact .step ih e rfl
theorem bit_found (hok : g.ok) (hf : fairP g (partN g) h) {a s : Nat} (ha : a < g.spots.length) (hah : ni (partN g) a = h) (hs : s < g.many) : ∃ v, RchI g.nx [a] (insP g h) v ∧ (ni g.sets v).testBit s = true := by
  obtain ⟨u, hu, e, hb⟩ := hf.2.2 s hs
  obtain ⟨r1, r2⟩ := (partN_iff g ha hu).1 (hah.trans e.symm)
  exact ⟨u, rchI_part hok ha hah r1 r2, hb⟩
theorem next_found (hok : g.ok) (hf : fairP g (partN g) h) {a : Nat} (ha : a < g.spots.length) (hah : ni (partN g) a = h) : ∃ k ∈ g.nx a, insP g h k = true := by
  obtain ⟨u, hu, e, w, hw, ew⟩ := hf.2.1
  obtain ⟨r1, r2⟩ := (partN_iff g ha hu).1 (hah.trans e.symm)
  rcases r1.head with rfl | ⟨k, hk, r3⟩
  · exact ⟨w, hw, decide_eq_true ew⟩
  · refine ⟨k, hk, decide_eq_true ?_⟩
    rw [← e, partN_iff g (g.nx_lt hok _ _ hk) hu]
    exact ⟨r3, r2.trans (Rch.one hk)⟩
theorem home_found (hok : g.ok) (hh : h < g.spots.length) (hf : fairP g (partN g) h) {k : Nat} (hk : k < g.spots.length) (hkh : ni (partN g) k = h) : RchI g.nx [k] (insP g h) h := by
  obtain ⟨r1, r2⟩ := (partN_iff g hk hh).1 (hkh.trans hf.1.symm)
  exact rchI_part hok hk hkh r1 r2
end
section
variable {nx : Nat → List Nat} {ins : Nat → Bool}
theorem chainP.app : ∀ {l : List Nat} {a : Nat} {t : List Nat}, chainP nx ins l → l.getLast? = some a → chainP nx ins (a :: t) → chainP nx ins (l ++ t)
  | [], a, t, _, h, _ => by simp at h
  | [x], a, t, _, h, c => by
    simp at h; subst h; exact c
  | x :: y :: l, a, t, c, h, d => by
    rw [List.getLast?_cons_cons] at h
    exact ⟨c.1, chainP.app (l := y :: l) c.2 h d⟩
theorem chainP.mono {ins' : Nat → Bool} (hi : ∀ k, ins k = true → ins' k = true) : ∀ {l : List Nat}, chainP nx ins l → chainP nx ins' l
  | [], _ => trivial
  | [_], _ => trivial
  | _ :: _ :: _, c => ⟨⟨c.1.1, hi _ c.1.2⟩, chainP.mono hi c.2⟩
theorem chainP.all : ∀ {a : Nat} {t : List Nat}, chainP nx ins (a :: t) → ∀ x ∈ t, ins x = true
  | _, [], _, x, hx => by cases hx
  | _, y :: t, c, x, hx => by
    rcases List.mem_cons.1 hx with rfl | hx
    · exact c.1.2
    · exact chainP.all c.2 x hx
end
theorem GoodW.cons {nx : Nat → List Nat} {n i : Nat} {ins wnt : Nat → Bool} {l : List Nat} (w : GoodW nx n [i] ins wnt l) : ∃ t, l = i :: t := by
  cases l with
  | nil => exact absurd rfl w.ne
  | cons a t => exact ⟨t, by rw [List.mem_singleton.1 (w.head a rfl)]⟩
theorem GoodW.back {nx : Nat → List Nat} {n h : Nat} {fr : List Nat} {ins : Nat → Bool} {l : List Nat} (w : GoodW nx n fr ins (fun k => decide (k = h)) l) : l = l.dropLast ++ [h] := by
  have h1 := List.dropLast_concat_getLast w.ne
  have h2 := w.last _ (List.getLast?_eq_some_getLast w.ne)
  rw [of_decide_eq_true h2] at h1
  exact h1.symm
structure LasI (g : Gn) (h b : Nat) (l : List Nat) (met : Nat) : Prop where
  head : l.head? = some h
  chain : chainP g.nx (insP g h) l
  ins : ∀ a ∈ l, a < g.spots.length ∧ ni (partN g) a = h
  bits : ∀ s, s < b → ∃ a ∈ l, (ni g.sets a).testBit s = true
  met : ∀ s, met.testBit s = true → ∃ a ∈ l, (ni g.sets a).testBit s = true
section
variable {g : Gn} {h b met : Nat} {l : List Nat}
theorem LasI.start (hh : h < g.spots.length) (hf : fairP g (partN g) h) : LasI g h 0 [h] (ni g.sets h) :=
  ⟨rfl, trivial, fun a ha => (by rw [List.mem_singleton.1 ha]; exact ⟨hh, hf.1⟩), fun s hs => absurd hs (Nat.not_lt_zero s), fun s hs => ⟨h, List.mem_singleton.2 rfl, hs⟩⟩
theorem LasI.ne (w : LasI g h b l met) : l ≠ [] := fun e => by have := w.head; rw [e] at this; cases this
theorem LasI.skip (w : LasI g h b l met) (hb : met.testBit b = true) : LasI g h (b + 1) l met :=
  ⟨w.head, w.chain, w.ins, fun s hs => by
    by_cases e : s = b
    · subst e; exact w.met _ hb
    · exact w.bits s (by omega), w.met⟩
theorem LasI.join (w : LasI g h b l met) {a : Nat} {t : List Nat} {met' : Nat} (ha : l.getLast? = some a) (v : GoodW g.nx g.spots.length [a] (insP g h) (fun k => (ni g.sets k).testBit b) (a :: t)) (hm : ∀ s, met'.testBit s = true → met.testBit s = true ∨ ∃ x ∈ t, (ni g.sets x).testBit s = true) : LasI g h (b + 1) (l ++ t) met' := by
  have hal : a ∈ l := List.mem_of_getLast? ha
  refine ⟨?_, w.chain.app ha v.chain, fun x hx => ?_, fun s hs => ?_, fun s hs => ?_⟩
  · rw [List.head?_append, w.head]; rfl
  · rcases List.mem_append.1 hx with hx | hx
    · exact w.ins x hx
    · exact ⟨v.lt x (List.mem_cons_of_mem _ hx), of_decide_eq_true (v.chain.all x hx)⟩
  · by_cases e : s = b
    · subst e
      obtain ⟨z, hz⟩ : ∃ z, (a :: t).getLast? = some z := ⟨_, List.getLast?_eq_some_getLast (by simp)⟩
      have h1 := v.last z hz
      rcases List.mem_cons.1 (List.mem_of_getLast? hz) with rfl | hzt
      · exact ⟨z, List.mem_append_left _ hal, h1⟩
      · exact ⟨z, List.mem_append_right _ hzt, h1⟩
    · obtain ⟨x, hx, e⟩ := w.bits s (by omega)
      exact ⟨x, List.mem_append_left _ hx, e⟩
  · rcases hm s hs with h1 | ⟨x, hx, e⟩
    · obtain ⟨x, hx, e⟩ := w.met s h1
      exact ⟨x, List.mem_append_left _ hx, e⟩
    · exact ⟨x, List.mem_append_right _ hx, e⟩
end
structure FitP (g : Gn) (stem loop : List Nat) : Prop where
  ne : loop ≠ []
  lt : ∀ a ∈ stem ++ loop, a < g.spots.length
  chain : ∀ a, loop.head? = some a → chainP g.nx (fun _ => true) (stem ++ loop ++ [a])
  first : ∀ a, (stem ++ loop).head? = some a → a < g.init
  bits : ∀ s, s < g.many → ∃ a ∈ loop, (ni g.sets a).testBit s = true
theorem LasI.fits {g : Gn} {h met : Nat} {l ws w2 : List Nat} {a k : Nat} (w : LasI g h g.many l met) (ha : l.getLast? = some a) (hk : k ∈ g.nx a) (hki : insP g h k = true)
    (s : GoodW g.nx g.spots.length (List.range g.init) (fun _ => true) (fun k => decide (k = h)) ws) (v : GoodW g.nx g.spots.length [k] (insP g h) (fun k => decide (k = h)) w2) : FitP g ws.dropLast (l ++ w2.dropLast) := by
  obtain ⟨t, e2⟩ := v.cons
  have hb2 := v.back
  have hb1 := s.back
  have c1 : chainP g.nx (insP g h) (l ++ w2) := w.chain.app ha (by rw [e2]; exact ⟨⟨hk, hki⟩, e2 ▸ v.chain⟩)
  have c2 : chainP g.nx (fun _ => true) (l ++ w2) := c1.mono fun _ _ => rfl
  have hh := w.head
  have hd : (l ++ w2.dropLast).head? = some h := by rw [List.head?_append, hh]; rfl
  obtain ⟨l', rfl⟩ : ∃ l', l = h :: l' := by
    cases l with
    | nil => cases hh
    | cons x l' => cases hh; exact ⟨l', rfl⟩
  refine ⟨fun e => (by rw [e] at hd; cases hd), fun x hx => ?_, fun x hx => ?_, fun x hx => ?_, fun b hb => ?_⟩
  · rcases List.mem_append.1 hx with hx | hx
    · exact s.lt x (List.dropLast_subset _ hx)
    · rcases List.mem_append.1 hx with hx | hx
      · exact (w.ins x hx).1
      · exact v.lt x (List.dropLast_subset _ hx)
  · rw [hd] at hx
    cases hx
    have c3 : chainP g.nx (fun _ => true) (ws ++ (l' ++ w2)) := by
      refine s.chain.app (a := h) (by rw [hb1, List.getLast?_append]; rfl) ?_
      exact c2
    rw [hb1, hb2] at c3
    simpa using c3
  · have : ws.head? = some x := by
      rw [hb1]
      rw [List.head?_append] at hx ⊢
      cases hw : ws.dropLast.head? with
      | none => rw [hw] at hx; rw [hd] at hx; exact hx
      | some y => rw [hw] at hx; exact hx
    exact List.mem_range.1 (s.head x this)
  · obtain ⟨x, hx, e⟩ := w.bits b hb
    exact ⟨x, List.mem_append_left _ hx, e⟩
end Go.Sp
namespace Go.Proofs.Ytcikppldaepodaa
open Go Go.Av Go.Sp
set_option linter.unusedVariables false
set_option linter.unusedSimpArgs false
set_option maxRecDepth 100000
set_option maxHeartbeats 4000000
theorem cal_lasso1 : Cal Try.prog 29 := Cal.of Try.func29 (by kernel_rfl) (by kernel_rfl)
theorem cal_lasso2 : Cal Try.prog 30 := Cal.of Try.func30 (by kernel_rfl) (by kernel_rfl)
theorem cal_lasso3 : Cal Try.prog 31 := Cal.of Try.func31 (by kernel_rfl) (by kernel_rfl)
theorem cal_lasso4 : Cal Try.prog 32 := Cal.of Try.func32 (by kernel_rfl) (by kernel_rfl)
theorem cal_lasso5 : Cal Try.prog 33 := Cal.of Try.func33 (by kernel_rfl) (by kernel_rfl)
theorem las1 (k : Nat) (ea eb ec ed : Ent) : AC Try.prog GP 29 [.int k] [ea, eb, ec, ed] fun r h => ∃ _ : Unit, r = .ret (.bool true) ∧ h = [ea, eb, ec, ed] := by
  refine AC_ofV (ts := [2]) Try.f29.ntmps Try.func29 rfl rfl rfl (by simp [Try.ntmps29]) fun W I => ?_
  all_goals haveI fA_ : FlagA := ⟨⟩
  all_goals haveI fH_ : FlagH := ⟨⟩
  repeat' (first
    | exact True.intro
    | refine stp ?_
    | refine two ?_ ?_
    | refine allc fun c_ => ?_
    | (refine imp fun hc => ?_) <;> try (first | contradiction | (exfalso; omega) | (exfalso; exact absurd (of_dT hc) (by assumption)) | (exfalso; exact of_dF hc (by assumption)))
    | refine all fun v_ => ?_)
  all_goals clear fA_ fH_
  all_goals
    refine retv0 ?_
    ((with_reducible apply rq1); rfl; rfl)
    exact ⟨(), rfl, rfl⟩
theorem las2 (home k : Nat) (bh : Nat) (eb ec ed : Ent) : AC Try.prog GP 30 [.int k, .val (.pointer (some ⟨bh, 0, none⟩))] [.cells bh 3 [.int home], eb, ec, ed] fun r h => ∃ _ : Unit, r = .ret (.bool (decide (k = home))) ∧ h = [.cells bh 3 [.int home], eb, ec, ed] := by
  refine AC_ofV (ts := [3]) Try.f30.ntmps Try.func30 rfl rfl rfl (by simp [Try.ntmps30]) fun W I => ?_
  all_goals haveI fA_ : FlagA := ⟨⟩
  all_goals haveI fH_ : FlagH := ⟨⟩
  repeat' (first
    | exact True.intro
    | refine stp ?_
    | refine two ?_ ?_
    | refine allc fun c_ => ?_
    | (refine imp fun hc => ?_) <;> try (first | contradiction | (exfalso; omega) | (exfalso; exact absurd (of_dT hc) (by assumption)) | (exfalso; exact of_dF hc (by assumption)))
    | refine all fun v_ => ?_)
  all_goals clear fA_ fH_
  all_goals
    refine retv0 ?_
    ((with_reducible apply rq1); rfl; rfl)
    exact ⟨(), by simp; omega, rfl⟩
theorem las5 (home k : Nat) (bh : Nat) (eb ec ed : Ent) : AC Try.prog GP 33 [.int k, .val (.pointer (some ⟨bh, 0, none⟩))] [.cells bh 3 [.int home], eb, ec, ed] fun r h => ∃ _ : Unit, r = .ret (.bool (decide (k = home))) ∧ h = [.cells bh 3 [.int home], eb, ec, ed] := by
  refine AC_ofV (ts := [3]) Try.f33.ntmps Try.func33 rfl rfl rfl (by simp [Try.ntmps33]) fun W I => ?_
  all_goals haveI fA_ : FlagA := ⟨⟩
  all_goals haveI fH_ : FlagH := ⟨⟩
  repeat' (first
    | exact True.intro
    | refine stp ?_
    | refine two ?_ ?_
    | refine allc fun c_ => ?_
    | (refine imp fun hc => ?_) <;> try (first | contradiction | (exfalso; omega) | (exfalso; exact absurd (of_dT hc) (by assumption)) | (exfalso; exact of_dF hc (by assumption)))
    | refine all fun v_ => ?_)
  all_goals clear fA_ fH_
  all_goals
    refine retv0 ?_
    ((with_reducible apply rq1); rfl; rfl)
    exact ⟨(), by simp; omega, rfl⟩
theorem las3 (g : Gn) (home k : Nat) (hk : k < g.spots.length) (bh bp : Nat) (ec ed : Ent) : AC Try.prog GP 31 [.int k, .val (.pointer (some ⟨bp, 0, none⟩)), .val (.pointer (some ⟨bh, 0, none⟩))] [.cells bh 3 [.int home], .cells bp 24 [.d (natsD (partN g))], ec, ed] fun r h => ∃ _ : Unit, r = .ret (.bool (insP g home k)) ∧ h = [.cells bh 3 [.int home], .cells bp 24 [.d (natsD (partN g))], ec, ed] := by
  have hl := partN_length g
  have hn := ni_get (partN g) k (by omega)
  refine AC_ofV (ts := [4]) Try.f31.ntmps Try.func31 rfl rfl rfl (by simp [Try.ntmps31]) fun W I => ?_
  all_goals haveI fA_ : FlagA := ⟨⟩
  all_goals haveI fH_ : FlagH := ⟨⟩
  repeat' (first
    | exact True.intro
    | refine stp ?_
    | refine two ?_ ?_
    | refine allc fun c_ => ?_
    | (refine imp fun hc => ?_) <;> try (first | contradiction | (exfalso; omega) | (exfalso; exact absurd (of_dT hc) (by assumption)) | (exfalso; exact of_dF hc (by assumption)))
    | refine all fun v_ => ?_)
  all_goals clear fA_ fH_
  all_goals
    refine retv0 ?_
    ((with_reducible apply rq1); rfl; rfl)
    exact ⟨(), by unfold insP; rw [hn]; simp; omega, rfl⟩
theorem las4 (g : Gn) (hok : g.ok) (bit k : Nat) (hk : k < g.spots.length) (hb : bit < 6) (bg bb : Nat) (ea eb : Ent) : AC Try.prog GP 32 [.int k, .val (.pointer (some ⟨bg, 0, none⟩)), .val (.pointer (some ⟨bb, 0, none⟩))] [ea, eb, .cells bg 26 [.d (opsD g.spots), .int g.init, .d (natLD g.next), .d (natsD g.sets), .int g.many], .cells bb 3 [.int bit]] fun r h => ∃ _ : Unit, r = .ret (.bool ((ni g.sets k).testBit bit)) ∧ h = [ea, eb, .cells bg 26 [.d (opsD g.spots), .int g.init, .d (natLD g.next), .d (natsD g.sets), .int g.many], .cells bb 3 [.int bit]] := by
  have hl := hok.sets
  have hn := ni_get g.sets k (by omega)
  have hs := hok.bits k (by omega)
  have hm := hok.many
  have hs' : g.sets[k] < 64 := Nat.lt_of_lt_of_le hs (by have := Nat.pow_le_pow_right (n := 2) (by decide) hm; exact this)
  have hbd := bit_div g.sets[k] bit
  refine AC_ofV (ts := [4]) Try.f32.ntmps Try.func32 rfl rfl rfl (by simp [Try.ntmps32]) fun W I => ?_
  all_goals haveI fA_ : FlagA := ⟨⟩
  all_goals haveI fH_ : FlagH := ⟨⟩
  repeat' (first
    | exact True.intro
    | refine stp ?_
    | refine two ?_ ?_
    | refine allc fun c_ => ?_
    | (refine imp fun hc => ?_) <;> try (first | contradiction | (exfalso; omega) | (exfalso; exact absurd (of_dT hc) (by assumption)) | (exfalso; exact of_dF hc (by assumption)))
    | refine all fun v_ => ?_)
  all_goals clear fA_ fH_
  all_goals
    refine retv0 ?_
    ((with_reducible apply rq1); rfl; rfl)
    refine ⟨(), ?_, rfl⟩
    have e1 : (bit : Int).toNat = bit := Int.toNat_natCast bit
    have e2 : (g.sets[k] : Int) / 2 ^ bit = ((g.sets[k] / 2 ^ bit : Nat) : Int) := by simp
    have e3 : g.sets[k] / 2 ^ bit ≤ g.sets[k] := Nat.div_le_self _ _
    have e4 : (ni g.sets k).testBit bit = decide ((g.sets[k] : Int) / 2 ^ bit % 2 = 1) := by
      rw [hn]
      by_cases h : g.sets[k].testBit bit = true
      · rw [h]; exact (decide_eq_true (hbd.2 h)).symm
      · rw [Bool.not_eq_true] at h
        rw [h]; exact (decide_eq_false (fun h' => by rw [hbd.1 h'] at h; cases h)).symm
    generalize g.sets[k] / 2 ^ bit = z at e2 e3
    rw [e4, e1, and1 (by rw [e2]; omega) (by rw [e2]; omega)]
end Go.Proofs.Ytcikppldaepodaa
