/- Own texts. -/
import Derived.Lib.AppendZerosOnto
import Derived.Lib.SliceRun
import Derived.Test.YtnlfhnbcdfdhgaaGreatDoorProg
import Derived.Test.YtnlfhnbcdfdhgaaGreatDoorA2
set_option linter.unusedVariables false
set_option linter.unusedSimpArgs false
set_option maxRecDepth 100000
set_option maxHeartbeats 4000000
namespace Go.Av
open Go Go.Instr
def Bx : List (Value × Value) → Nat → List MapEntry
 | [], _ => []
 | p :: ps, i => ⟨p.1, p.2, i⟩ :: Bx ps (i + 1)
def BT (ps : List (Value × Value)) : Obj := .map (Bx ps 0).toArray ps.length
theorem FK : ∀ (ps qs : List (Value × Value)) (i : Nat), Bx (ps ++ qs) i = Bx ps i ++ Bx qs (i + ps.length)
 | [], qs, i => by simp [Bx]
 | p :: ps, qs, i => by
   simp only [List.cons_append, Bx, FK ps qs (i + 1), List.length_cons]
   rw [show i + 1 + ps.length = i + (ps.length + 1) by omega]
structure Mz (kd : TypeDesc) {α : Type} (kv : α → Value) [DecidableEq α] : Prop where
 same : ∀ a b, sameNow kd (kv a) (kv b) = some (decide (a = b))
 easy : ∀ (P : Program) (T : TypeId) (e : Bool) (a : α) (w : World), P.underlying T = some kd → (checkKey e 10000 T (kv a)).run P w = .ok () w
theorem AY (k : IntKind) : Mz (.int k) (Value.int k) where
 same a b := by
  simp only [sameNow, if_pos trivial]
  exact congrArg some (Bool.eq_iff_iff.2 (by simp))
 easy P T e a w h := by
  unfold checkKey
  simp [run_underlying h]
theorem Eo (a b : ByteArray) : (a == b) = true ↔ a = b := by
 cases a; cases b
 rw [ByteArray.mk.injEq]
 show (_ == _) = true ↔ _
 simp only [BEq.beq]
 unfold ByteArray.beq
 simp
theorem AZ : Mz .string Value.string where
 same a b := by
  simp only [sameNow]
  exact congrArg some (Bool.eq_iff_iff.2 (by rw [Eo]; simp))
 easy P T e a w h := by
  unfold checkKey
  simp [run_underlying h]
section
variable {α β : Type} [DecidableEq α] {kd : TypeDesc} {kv : α → Value} {vv : β → Value}
def Am (kv : α → Value) (vv : β → Value) (ps : List (α × β)) : List (Value × Value) := ps.map fun p => (kv p.1, vv p.2)
theorem MK (K : Mz kd kv) (a : α) : ∀ (ps : List (α × β)) (i j : Nat), (∀ p ∈ ps, p.1 ≠ a) → findNow kd (kv a) (Bx (Am kv vv ps) i) j = some none
 | [], _, _, _ => rfl
 | p :: ps, i, j, h => by
   have h1 : a ≠ p.1 := fun e => h p List.mem_cons_self e.symm
   simp only [Am, List.map_cons, Bx, findNow, K.same, decide_eq_false h1]
   exact MK K a ps (i + 1) (j + 1) fun q hq => h q (List.mem_cons_of_mem _ hq)
theorem S8 (K : Mz kd kv) (a : α) (b : β) : ∀ (ps qs : List (α × β)) (i j : Nat), (∀ p ∈ ps, p.1 ≠ a) → findNow kd (kv a) (Bx (Am kv vv (ps ++ (a, b) :: qs)) i) j = some (some (j + ps.length, vv b))
 | [], qs, i, j, _ => by simp [Am, Bx, findNow, K.same]
 | p :: ps, qs, i, j, h => by
   have h1 : a ≠ p.1 := fun e => h p List.mem_cons_self e.symm
   have ih := S8 K a b ps qs (i + 1) (j + 1) fun q hq => h q (List.mem_cons_of_mem _ hq)
   simp only [Am] at ih
   simp only [Am, List.cons_append, List.map_cons, Bx, findNow, K.same, decide_eq_false h1, ih, List.length_cons]
   rw [show j + 1 + ps.length = j + (ps.length + 1) by omega]
def getM (ps : List (α × β)) (a : α) : Option β := (ps.find? fun p => p.1 == a).map (·.2)
theorem MF {ps : List (α × β)} {a : α} (h : ∀ p ∈ ps, p.1 ≠ a) : getM ps a = none := by
 simp only [getM, Option.map_eq_none_iff, List.find?_eq_none]
 intro p hp
 simpa using h p hp
theorem MQ {ps : List (α × β)} {a : α} (h : ¬ ∀ p ∈ ps, p.1 ≠ a) : ∃ b l r, ps = l ++ (a, b) :: r ∧ (∀ p ∈ l, p.1 ≠ a) ∧ getM ps a = some b := by
 induction ps with
 | nil => exact absurd (by simp) h
 | cons p ps ih =>
   by_cases e : p.1 = a
   · refine ⟨p.2, [], ps, by rw [← e]; rfl, by simp, ?_⟩
     simp [getM, e]
   · obtain ⟨b, l, r, h1, h2, h3⟩ := ih fun k => h fun q hq => by
      rcases List.mem_cons.1 hq with rfl | hq
      · exact e
      · exact k q hq
     refine ⟨b, p :: l, r, by rw [h1]; rfl, fun q hq => ?_, ?_⟩
     · rcases List.mem_cons.1 hq with rfl | hq
       · exact e
       · exact h2 q hq
     · rw [← h3]
       have e' : (p.1 == a) = false := by simpa using e
       simp [getM, List.find?_cons, e']
theorem getM_none {ps : List (α × β)} {a : α} : getM ps a = none ↔ ∀ p ∈ ps, p.1 ≠ a := by
 constructor
 · intro h
   by_cases k : ∀ p ∈ ps, p.1 ≠ a
   · exact k
   · obtain ⟨b, l, r, _, _, h3⟩ := MQ k
     rw [h] at h3; cases h3
 · exact MF
theorem Te (K : Mz kd kv) {P : Program} {T : TypeId} (hT : P.underlying T = some kd) (ps : List (α × β)) (a : α) (w : World) :
 ∃ r : Option (Nat × Value), (findKey T (kv a) (Bx (Am kv vv ps) 0)).run P w = .ok r w ∧ r.map (·.2) = (getM ps a).map vv := by
 by_cases h : ∀ p ∈ ps, p.1 ≠ a
 · refine ⟨none, ?_, by rw [MF h]; rfl⟩
   simp [findKey, run_underlying hT, MK K a ps 0 0 h]
 · obtain ⟨b, l, r, e, h2, h3⟩ := MQ h
   refine ⟨some (0 + l.length, vv b), ?_, by rw [h3]; rfl⟩
   subst e
   simp [findKey, run_underlying hT, S8 K a b l r 0 0 h2]
end
section
variable {k : Kx} {Q : Exit → Env → H → Prop} {ρ ρ' : Env} {h h' : H} {ops : Array Oper} {l : List Oper} {d : Nat} {dst : Option Tmp} {ty : TypeId} {pos : String} {after : Array Edge} {g : Option (Nat × Bool)}
theorem ZS {T : TypeId} (hd : Nat.blt d k.n = true) (hj : All fun b : Nat => JL k ops l Q ((d, .val (.map (some b))) :: ρ) (.raw b (BT []) :: h)) : JL k ops (⟨some d, .makeMap T none, ty, pos, after, none⟩ :: l) Q ρ h := by
 refine Ef rfl (fun t ht => by cases ht; exact blt hd) fun I ac w h1 h2 => ?_
 refine ⟨.map (some w.heap.size), w.alloc (.map #[] 0), I, .val (.map (some w.heap.size)), _, ?_, h1.fresh _ (.raw w.heap.size (BT [])) rfl (heap_alloc_new w _), h2.fresh h1 _, rfl, hj.get w.heap.size⟩
 have hm : (makeMap T none).run k.P w = .ok (.map (some w.heap.size)) (w.alloc (.map #[] 0)) := rfl
 simp [execOp, hm]
theorem MO {P : Program} {w : World} {r : Nat} {es : Array MapEntry} {clock : Nat} (o : Obj) (hb : w.heap[r]? = some (.map es clock)) : (setObj r o).run P w = .ok () { w with heap := w.heap.setIfInBounds r o } := by
 simp [setObj, Sem.run, hb]
theorem al {α β : Type} [DecidableEq α] {kd : TypeDesc} {kv : α → Value} {vv : β → Value} (K : Mz kd kv) {T KT ET : TypeId} {x y u : Operand} {r : AV} {b : Nat} {ps : List (α × β)} {a : α} {c : β}
 (hx : evO ρ x = some (.val (.map (some b)))) (hy : evO ρ y = some (.val (kv a))) (hv : evO ρ u = some r) (hr : ∀ w I v, AV.rel w I r v → v = vv c) (hT : k.P.underlying T = some (.map KT ET)) (hK : k.P.underlying KT = some kd)
 (hu : Upd (.raw b (BT (Am kv vv ps))) (.raw b (BT (Am kv vv (ps ++ [(a, c)])))) h h') (hno : getM ps a = none)
 (hj : JL k ops l Q ρ h') : JL k ops (⟨none, .mapUpdate T x y u, ty, pos, after, none⟩ :: l) Q ρ h := by
 obtain ⟨h1, h2, rfl, rfl⟩ := hu.split
 refine GN rfl rfl fun I ac w k1 k2 => ?_
 have e1 := AQ (k2.ev x) (AD hx)
 have e2 := AQ (k2.ev y) (AD hy)
 have e3 := hr _ _ _ (BI (k2.ev u) (AD hv))
 have hb : w.heap[b]? = some (BT (Am kv vv ps)) := k1.ent (.raw b (BT (Am kv vv ps))) (by simp)
 have hfind := MK (vv := vv) K a ps 0 0 (getM_none.1 hno)
 have hnew : Obj.map (Bx (Am kv vv ps) 0 ++ [(⟨kv a, vv c, (Am kv vv ps).length⟩ : MapEntry)]).toArray ((Am kv vv ps).length + 1) = BT (Am kv vv (ps ++ [(a, c)])) := by
  have e : Am kv vv (ps ++ [(a, c)]) = Am kv vv ps ++ [(kv a, vv c)] := by simp [Am]
  unfold BT
  rw [e, FK]
  simp [Bx]
 obtain ⟨g1, g2⟩ := k1.write (w' := { w with heap := w.heap.setIfInBounds b (BT (Am kv vv (ps ++ [(a, c)]))) }) (e' := .raw b (BT (Am kv vv (ps ++ [(a, c)])))) (b := b) rfl rfl rfl rfl rfl (by simp)
  (fun x hx => by simp [Array.getElem?_setIfInBounds, Ne.symm hx]) (by
   have hlt := (Array.getElem?_eq_some_iff.1 hb).1
   show _ = _
   simp [Array.getElem?_setIfInBounds, hlt])
 refine ⟨{ w with heap := w.heap.setIfInBounds b (BT (Am kv vv (ps ++ [(a, c)]))) }, I, h1 ++ .raw b (BT (Am kv vv (ps ++ [(a, c)]))) :: h2, ?_, g1, k2.mono g2 (fun _ h => h), hj⟩
 have hobj : (getObj b).run k.P w = .ok (.map (Bx (Am kv vv ps) 0).toArray (Am kv vv ps).length) w := by simp [getObj, Sem.run, hb, BT]
 have hset := MO (P := k.P) (w := w) (r := b) (BT (Am kv vv (ps ++ [(a, c)]))) (es := (Bx (Am kv vv ps) 0).toArray) (clock := (Am kv vv ps).length) hb
 simp only [execOp, e1, e2, e3, mapUpdate]
 simp [run_underlying hT, hobj, K.easy k.P KT false a w hK, findKey, run_underlying hK, hfind, hnew, hset]
end
section
variable {P : Program} {G : List (Nat × List D)} {ρ : Env} {h : H} {dst : Option Tmp} {ty : TypeId} {pos : String} {after : Array Edge} {g : Option (Nat × Bool)}
theorem Zl {α β : Type} [DecidableEq α] {kd : TypeDesc} {kv : α → Value} {vv : β → Value} (K : Mz kd kv) {T KT ET : TypeId} {x y : Operand} {b : Nat} {ps : List (α × β)} {a : α} {z : Value} {sz eb : Nat}
 (hx : evO ρ x = some (.val (.map (some b)))) (hy : evO ρ y = some (.val (kv a))) (hT : P.underlying T = some (.map KT ET)) (hK : P.underlying KT = some kd) (hE : El P ET z sz eb) (hm : Ent.raw b (BT (Am kv vv ps)) ∈ h) :
 Pure P G ⟨dst, .lookup T x y true, ty, pos, after, g⟩ ρ h (.tup [.val (((getM ps a).map vv).getD z), .bool (getM ps a).isSome]) := by
 intro c I n ac w _ hok hs
 obtain ⟨i, hi, hz, _, _⟩ := hE.get
 have e1 := AQ (hs.ev x) (AD hx)
 have e2 := AQ (hs.ev y) (AD hy)
 have hb : w.heap[b]? = some (BT (Am kv vv ps)) := hok.ent _ hm
 refine ⟨.tuple #[((getM ps a).map vv).getD z, .bool (getM ps a).isSome], ⟨[_, _], rfl, rfl, rfl, trivial⟩, fun w' hw' => ?_⟩
 have hb' : w'.heap[b]? = some (BT (Am kv vv ps)) := (hw'.own b (EG hm rfl)).trans hb
 have hobj : (getObj b).run P w' = .ok (.map (Bx (Am kv vv ps) 0).toArray (Am kv vv ps).length) w' := by simp [getObj, Sem.run, hb', BT]
 obtain ⟨r, hr1, hr2⟩ := Te (vv := vv) K hK ps a w'
 simp only [execOp, e1, e2, lookup]
 cases r with
 | none =>
   have hr3 : (getM ps a).map vv = none := hr2.symm
   have hr4 : getM ps a = none := by simpa using hr3
   simp [run_underlying hT, hobj, K.easy P KT _ a w' hK, hr1, hr4, zeroValue, typeInfo, hi, hz]
 | some r =>
   obtain ⟨j, v⟩ := r
   have hr3 : (getM ps a).map vv = some v := hr2.symm
   obtain ⟨bb, hb1, hb2⟩ := Option.map_eq_some_iff.1 hr3
   simp [run_underlying hT, hobj, K.easy P KT _ a w' hK, hr1, hb1, hb2]
end
def Th {α : Type} (kv : α → Value) (xs : List α) : Obj := BT (Am kv (fun _ : Unit => .agg #[]) (xs.map fun x => (x, ())))
theorem Z5 {α : Type} [DecidableEq α] (xs : List α) (a : α) : (getM (xs.map fun x => (x, ())) a).isSome = decide (a ∈ xs) := by
 by_cases h : a ∈ xs
 · rw [decide_eq_true h]
   cases hg : getM (xs.map fun x => (x, ())) a with
   | none => exact absurd rfl (getM_none.1 hg (a, ()) (List.mem_map.2 ⟨a, h, rfl⟩))
   | some _ => rfl
 · rw [decide_eq_false h, MF]
   · rfl
   · intro p hp
     obtain ⟨x, hx, rfl⟩ := List.mem_map.1 hp
     exact fun e => h (by subst e; exact hx)
section
variable {k : Kx} {Q : Exit → Env → H → Prop} {ρ ρ' : Env} {h h' : H} {ops : Array Oper} {l : List Oper} {d : Nat} {dst : Option Tmp} {ty : TypeId} {pos : String} {after : Array Edge} {g : Option (Nat × Bool)}
theorem B7 {α : Type} (kv : α → Value) {T : TypeId} (hd : Nat.blt d k.n = true) (hj : All fun b : Nat => JL k ops l Q ((d, .val (.map (some b))) :: ρ) (.raw b (Th kv []) :: h)) : JL k ops (⟨some d, .makeMap T none, ty, pos, after, none⟩ :: l) Q ρ h := ZS hd hj
theorem Bc {α : Type} [DecidableEq α] {kd : TypeDesc} {kv : α → Value} (K : Mz kd kv) {T KT ET : TypeId} {x y u : Operand} {b : Nat} {xs : List α} {a : α}
 (hx : evO ρ x = some (.val (.map (some b)))) (hy : evO ρ y = some (.val (kv a))) (hv : evO ρ u = some (.agg [])) (hT : k.P.underlying T = some (.map KT ET)) (hK : k.P.underlying KT = some kd)
 (hu : Upd (.raw b (Th kv xs)) (.raw b (Th kv (xs ++ [a]))) h h') (hno : a ∉ xs)
 (hj : JL k ops l Q ρ h') : JL k ops (⟨none, .mapUpdate T x y u, ty, pos, after, none⟩ :: l) Q ρ h := by
 have hno' : getM (xs.map fun x => (x, ())) a = none := MF fun p hp => by
  obtain ⟨x, hx, rfl⟩ := List.mem_map.1 hp
  exact fun e => hno (by subst e; exact hx)
 have hu' : Upd (.raw b (BT (Am kv (fun _ : Unit => .agg #[]) (xs.map fun x => (x, ()))))) (.raw b (BT (Am kv (fun _ : Unit => .agg #[]) (xs.map (fun x => (x, ())) ++ [(a, ())])))) h h' := by
  have := hu
  unfold Th at this
  rwa [List.map_append] at this
 exact al K (c := ()) hx hy hv (fun w I v hr => by
  obtain ⟨vs, e1, e2⟩ := hr
  cases vs with
  | nil => exact e1
  | cons _ _ => exact e2.elim) hT hK hu' hno' hj
end
section
variable {P : Program} {G : List (Nat × List D)} {ρ : Env} {h : H} {dst : Option Tmp} {ty : TypeId} {pos : String} {after : Array Edge} {g : Option (Nat × Bool)}
theorem A8 {α : Type} [DecidableEq α] {kd : TypeDesc} {kv : α → Value} (K : Mz kd kv) {T KT ET : TypeId} {x y : Operand} {b : Nat} {xs : List α} {a : α} {eb : Nat}
 (hx : evO ρ x = some (.val (.map (some b)))) (hy : evO ρ y = some (.val (kv a))) (hT : P.underlying T = some (.map KT ET)) (hK : P.underlying KT = some kd) (hE : El P ET (.agg #[]) 0 eb) (hm : Ent.raw b (Th kv xs) ∈ h) :
 Pure P G ⟨dst, .lookup T x y true, ty, pos, after, g⟩ ρ h (.tup [.agg [], .bool (decide (a ∈ xs))]) := by
 intro c I n ac w e1 e2 e3
 obtain ⟨v, hv, hrun⟩ := Zl (P := P) (G := G) (ρ := ρ) (h := h) (dst := dst) (ty := ty) (pos := pos) (after := after) (g := g) (vv := fun _ : Unit => .agg #[]) K hx hy hT hK hE hm c I n ac w e1 e2 e3
 refine ⟨v, ?_, hrun⟩
 obtain ⟨vs, h1, h2⟩ := hv
 refine ⟨vs, h1, ?_⟩
 match vs, h2 with
 | [p, q], ⟨g1, g2, g3⟩ =>
   refine ⟨⟨[], ?_, trivial⟩, ?_, g3⟩
   · rw [show p = _ from g1]
     cases getM (xs.map fun x => (x, ())) a <;> rfl
   · rw [Z5] at g2; exact g2
end
section
variable {k : Kx} {Q : Exit → Env → H → Prop} {ρ ρ' : Env} {h h' : H} {ops : Array Oper} {l : List Oper} {d : Nat} {ty : TypeId} {pos : String} {after : Array Edge}
theorem Dd {S T E : TypeId} {x : Operand} {s : ByteArray} (hx : evO ρ x = some (.val (.string s))) (hS : k.P.underlying S = some .string) (hT : k.P.underlying T = some (.slice E)) (hE : k.P.underlying E = some (.int .u8)) (hb : s.data.toList.length ≤ 140737488355328) (hd : Nat.blt d k.n = true)
 (hj : JL k ops l Q ((d, .d (CT s.data.toList)) :: ρ) h) : JL k ops (⟨some d, .convert S T x, ty, pos, after, none⟩ :: l) Q ρ h := by
 refine Ef rfl (fun t ht => by cases ht; exact blt hd) fun I ac w h1 h2 => ?_
 have e1 := AQ (h2.ev x) (AD hx)
 have hrun := run_bytes_of_string (P := k.P) w S T E s hS hT hE
 have hge := grownCap_ge w s.size 0 E
 have hsz : s.size = s.data.toList.length := by rw [Array.length_toList]; rfl
 have hle := grownCap_le_maxLen w s.size 0 E (by unfold maxLen; omega)
 have hs : Dq I h w w.drew := ⟨rfl, rfl, rfl, Nat.le_refl _, fun _ _ => rfl⟩
 have k1 := h1.same hs
 have k2 := SF.same h1 hs h2
 generalize grownCap w s.size 0 E = cap at hrun hge hle
 generalize ho : Obj.cells (bytesRow s cap) E ((bytesRow s cap).size, (bytesRow s cap).size + 1) = o at hrun
 have hok := Ok.release (h1 := []) (b := w.drew.heap.size) (k1.fresh o (.raw w.drew.heap.size o) rfl (heap_alloc_new w.drew o)) rfl
 have hmono : ∀ b, I b → (w.drew.alloc o).heap[b]? = w.drew.heap[b]? := fun b hb => Go.RowKit.Below.heap_alloc w.drew _ b (k1.imm b hb).1
 have hblk : (w.drew.alloc o).heap[w.drew.heap.size]? = some (.cells (bytesRow s cap) E ((bytesRow s cap).size, (bytesRow s cap).size + 1)) := by rw [ho]; exact heap_alloc_new w.drew o
 refine ⟨.slice (some ⟨w.drew.heap.size, 0, none⟩) s.size cap, w.drew.alloc o, _, .d (CT s.data.toList), _, ?_, hok, k2.mono hmono (fun _ h => .inl h), ?_, hj⟩
 · have hrun' : (convert S T (.string s)).run k.P w = .ok (.slice (some ⟨w.drew.heap.size, 0, none⟩) s.size cap) (w.drew.alloc o) := hrun
   simp [execOp, e1, hrun']
 · have hlen : (s.data.toList.map Dp).length = s.size := by rw [List.length_map, hsz]
   have := Rel.l (w := w.drew.alloc o) (I := fun x => I x ∨ x = w.drew.heap.size) 1 1 (s.data.toList.map Dp) ⟨w.drew.heap.size, 0, none⟩ cap (fun j _ => .int .u8 ((s.data.toList[j]?.getD 0).toNat : Int)) (.inr rfl) (by rw [hlen]; omega) hle (by rw [hlen]; omega)
    (fun r hr => by obtain ⟨a, _, rfl⟩ := List.mem_map.1 hr; rfl) (fun j u r x hr hx => ?_) (fun j u r x hr hx => ?_)
   · rw [hlen] at this
     exact this
   · rw [List.getElem?_map] at hr
     obtain ⟨b, hb1, rfl⟩ := Option.map_eq_some_iff.1 hr
     have hu : u = 0 := by
      have := (List.getElem?_eq_some_iff.1 hx).1
      simp [Dp] at this
      exact this
     subst hu
     have hjl : j < s.data.size := by
      have := (List.getElem?_eq_some_iff.1 hb1).1
      simpa using this
     rw [Addr.add_lit, cell_of_row (w.drew.alloc o) _ _ _ _ _ hblk, hb1]
     simp only [Nat.zero_add, Nat.mul_one, Nat.add_zero, Option.getD_some]
     rw [Array.getElem?_toList] at hb1
     have hjl' : j < s.size := hjl
     have hbb : s.data[j] = b := (Array.getElem?_eq_some_iff.1 hb1).2
     simp [bytesRow, Array.getElem?_append, hjl', hb1, hbb]
   · rw [List.getElem?_map] at hr
     obtain ⟨b, hb1, rfl⟩ := Option.map_eq_some_iff.1 hr
     have hu : u = 0 := by
      have := (List.getElem?_eq_some_iff.1 hx).1
      simp [Dp] at this
      exact this
     subst hu
     simp only [Dp, List.getElem?_cons_zero, Option.some.injEq] at hx
     subst hx
     simp only [hb1, Option.getD_some]
     exact .i _ _
end
section
variable {P : Program} {G : List (Nat × List D)} {ρ : Env} {h : H} {dst : Option Tmp} {ty : TypeId} {pos : String} {after : Array Edge} {g : Option (Nat × Bool)}
theorem C3 {T : TypeId} {x : Operand} {s : ByteArray} (hx : evO ρ x = some (.val (.string s))) (hT : P.underlying T = some .string) : Pure P G ⟨dst, .call { callee := .builtin .len, args := #[x], argTypes := #[T] }, ty, pos, after, g⟩ ρ h (.int (s.data.toList.length : Nat)) := by
 have := L5 (P := P) (G := G) (h := h) (dst := dst) (ty := ty) (pos := pos) (after := after) (g := g) hT (AD hx)
 rwa [show s.size = s.data.toList.length by rw [Array.length_toList]; rfl] at this
theorem Di {T : TypeId} {x y : Operand} {s : ByteArray} {n : Nat} (hx : evO ρ x = some (.val (.string s))) (hy : evO ρ y = some (.int (n : Int))) (hT : P.underlying T = some .string) (hn : n < s.data.toList.length) : Pure P G ⟨dst, .index T x y, ty, pos, after, g⟩ ρ h (AV.byte s.data.toList[n]) :=
 Ah fun w I _ a hs => ⟨_, rfl, fun w' => by
  have e1 := AQ (hs.ev x) (AD hx)
  have e2 := AQ (hs.ev y) (AD hy)
  have hn' : n < s.size := by rw [show s.size = s.data.toList.length by rw [Array.length_toList]; rfl]; exact hn
  have e3 : s[n]? = some s.data.toList[n] := by
   rw [getElem?_pos s n hn']
   rfl
  simp [execOp, e1, e2, index, asIntOf, run_underlying hT, e3]⟩
end
end Go.Av
namespace Go.Sp
open Go Go.Av
inductive cP (nx : Nat → List Nat) (fr : List Nat) (ins : Nat → Bool) : Nat → Prop where
 | base {k : Nat} (h : k ∈ fr) : cP nx fr ins k
 | step {j k : Nat} (h : cP nx fr ins j) (e : k ∈ nx j) (hi : ins k = true) : cP nx fr ins k
def J1 (nx : Nat → List Nat) (ins : Nat → Bool) : List Nat → Prop
 | [] => True
 | [_] => True
 | a :: b :: l => (b ∈ nx a ∧ ins b = true) ∧ J1 nx ins (b :: l)
structure hU (nx : Nat → List Nat) (n : Nat) (fr : List Nat) (ins wnt : Nat → Bool) (l : List Nat) : Prop where
 ne : l ≠ []
 head : ∀ a, l.head? = some a → a ∈ fr
 chain : J1 nx ins l
 last : ∀ a, l.getLast? = some a → wnt a = true
 lt : ∀ a ∈ l, a < n
def gZ (nx : Nat → List Nat) (n : Nat) (fr : List Nat) (ins wnt : Nat → Bool) (l : List Nat) : Prop :=
 hU nx n fr ins wnt l ∨ (l = [] ∧ ∀ v, cP nx fr ins v → wnt v = false)
variable {nx : Nat → List Nat} {n : Nat} {fr : List Nat} {ins wnt : Nat → Bool} {ps : List (Int × Int)}
theorem gZ.one {k : Nat} (h : k ∈ fr) (hk : k < n) (hw : wnt k = true) : gZ nx n fr ins wnt [k] :=
 .inl ⟨by simp, fun a ha => by simp at ha; subst ha; exact h, trivial, fun a ha => by simp at ha; subst ha; exact hw, fun a ha => by rw [List.mem_singleton.1 ha]; exact hk⟩
open Go.Av
def Kd (p : Nat → Bool) : Nat → Nat
 | 0 => 0
 | n + 1 => Kd p n + if p n then 1 else 0
def mxr (f : Nat → Nat) : Nat → Nat
 | 0 => 0
 | n + 1 => max (mxr f n) (f n)
theorem NA {p q : Nat → Bool} : ∀ n, (∀ k, k < n → p k = q k) → Kd p n = Kd q n
 | 0, _ => rfl
 | n + 1, h => by simp only [Kd, NA n fun k hk => h k jB, h n jB]
theorem Pj {p q : Nat → Nat} : ∀ n, (∀ k, k < n → p k = q k) → mxr p n = mxr q n
 | 0, _ => rfl
 | n + 1, h => by simp only [mxr, Pj n fun k hk => h k jB, h n jB]
theorem S6 (p : Nat → Bool) (i : Nat) : ∀ m, Kd p (i + m) = Kd p i + Kd (fun k => p (i + k)) m
 | 0 => by simp [Kd]
 | m + 1 => by rw [← Nat.add_assoc]; simp only [Kd, S6 p i m]; omega
theorem WD (p : Nat → Nat) (i : Nat) : ∀ m, mxr p (i + m) = max (mxr p i) (mxr (fun k => p (i + k)) m)
 | 0 => by simp [mxr]
 | m + 1 => by rw [← Nat.add_assoc]; simp only [mxr, WD p i m]; omega
theorem Sj (p : Nat → Nat) : ∀ m, mxr (fun k => 1 + p k) (m + 1) = 1 + mxr p (m + 1)
 | 0 => by simp [mxr]
 | m + 1 => by have := Sj p m; simp only [mxr] at this ⊢; omega
theorem TX {p : Nat → Bool} (h0 : p 0 = true) : ∀ i, 1 ≤ i → (∀ k, 1 ≤ k → k < i → p k = false) → Kd p i = 1
 | 0, h, _ => absurd h (by decide)
 | 1, _, _ => by simp [Kd, h0]
 | i + 2, _, h => by
   have := TX h0 (i + 1) jB fun k h1 h2 => h k h1 jB
   rw [Kd, this, h (i + 1) jB jB]; rfl
def count (l : List Fo) (i : Nat) : Nat := Kd (fun k => decide ((i : Int) < (AM l k).1)) (i + 1)
def deep (l : List Fo) : Nat := mxr (count l) l.length
theorem Pp : ∀ (r : List Fo) (m : Nat) (w i e d : Int), scan r w (i + d) = (e + d, 0) → e ≤ i + m → scan (r.take m) w i = (e, 0)
 | [], m, w, i, e, d, h, _ => by simp [scan] at h
 | o :: r, m, w, i, e, d, h, hm => by
   have hb := DS (o :: r) w (i + d) (by rw [h])
   rw [h] at hb
   obtain ⟨m, rfl⟩ : ∃ m', m = m' + 1 := ⟨m - 1, by dsimp only at hb; omega⟩
   rw [List.take_succ_cons, Cq]
   rw [Cq] at h
   by_cases h1 : (partsOf o.kind).2 ≠ 0
   · rw [if_pos h1] at h; simp at h; exact absurd h.2 h1
   rw [if_neg h1] at h ⊢
   by_cases h2 : w + (partsOf o.kind).1 - 1 = 0
   · rw [if_pos h2] at h ⊢
     simp only [Prod.mk.injEq, and_true] at h ⊢
     omega
   · rw [if_neg h2] at h ⊢
     refine Pp r m _ (i + 1) e d ?_ jB
     rw [← h]; congr 1; omega
theorem Mp {l : List Fo} {i : Nat} {w : Int} {e : Int} (hw : 1 ≤ w) (h : scan (l.drop i) w i = (e, 0)) : (AM l i).2 = 0 ∧ (AM l i).1 ≤ e := by
 by_cases h1 : w = 1
 · subst h1
   have he : AM l i = scan (l.drop i) 1 i := by unfold AM; rw [Int.toNat_natCast]
   rw [he, h]; exact ⟨rfl, Int.le_refl _⟩
 · have hw' : w = (w - 1) + 1 := by omega
   rw [hw', HS l i (w - 1) jB] at h
   by_cases h2 : (AM l i).2 ≠ 0
   · rw [if_pos h2] at h; simp at h; exact absurd h.2 h2
   rw [if_neg h2] at h
   have hb := Ak l i (by simpa using h2)
   have := DS (l.drop (AM l i).1.toNat) (w - 1) (AM l i).1 (by rw [h])
   rw [h] at this
   exact ⟨by simpa using h2, by dsimp only at this; omega⟩
theorem D2 (l : List Fo) : ∀ (m i : Nat) (w : Int) (e : Int), l.length ≤ i + m → 1 ≤ w → scan (l.drop i) w i = (e, 0) → ∀ k : Nat, i ≤ k → (k : Int) < e → (AM l k).2 = 0 ∧ (AM l k).1 ≤ e
 | 0, i, w, e, hm, hw, h, k, h1, h2 => by
   rw [List.drop_eq_nil_of_le jB] at h; simp [scan] at h
 | m + 1, i, w, e, hm, hw, h, k, h1, h2 => by
   by_cases hk : k = i
   · subst hk; exact Mp hw h
   by_cases hi : i < l.length
   · rw [ja hi, Cq] at h
     have hp := Bz l[i].kind
     by_cases h3 : (partsOf l[i].kind).2 ≠ 0
     · rw [if_pos h3] at h; simp at h; exact absurd h.2 h3
     rw [if_neg h3] at h
     by_cases h4 : w + (partsOf l[i].kind).1 - 1 = 0
     · rw [if_pos h4] at h; simp at h; omega
     · rw [if_neg h4] at h
       exact D2 l m (i + 1) _ e jB jB h k jB h2
   · rw [List.drop_eq_nil_of_le jB] at h; simp [scan] at h
theorem MH {l : List Fo} {i : Nat} (h : (AM l i).2 = 0) (k : Nat) (hk : (i : Int) + k < (AM l i).1) :
 AM ((l.drop i).take ((AM l i).1.toNat - i)) k = ((AM l (i + k : Nat)).1 - i, 0) := by
 have hb := Ak l i h
 have hs : scan (l.drop i) 1 i = ((AM l i).1, 0) := by
  have he : AM l i = scan (l.drop i) 1 i := by unfold AM; rw [Int.toNat_natCast]
  rw [← he]; exact Prod.ext rfl h
 obtain ⟨n1, n2⟩ := D2 l l.length i 1 _ jB jB hs (i + k) jB jB
 have he : AM l (i + k : Nat) = scan (l.drop (i + k)) 1 ((i + k : Nat) : Int) := by unfold AM; rw [Int.toNat_natCast]
 have e1 : AM ((l.drop i).take ((AM l i).1.toNat - i)) k = scan (((l.drop i).take ((AM l i).1.toNat - i)).drop k) 1 k := by unfold AM; rw [Int.toNat_natCast]
 rw [e1, List.drop_take, List.drop_drop]
 refine Pp _ _ _ _ _ (i : Int) ?_ ?_
 · have : (k : Int) + i = ((i + k : Nat) : Int) := by omega
   rw [this, ← he]
   exact Prod.ext (by dsimp only; omega) n1
 · omega
theorem Gb {l : List Fo} {i : Nat} (h : (AM l i).2 = 0) : (((l.drop i).take ((AM l i).1.toNat - i)).length : Int) = (AM l i).1 - i := by
 have hb := Ak l i h
 rw [List.length_take, List.length_drop]; omega
theorem PQ {l : List Fo} (h60 : l.length ≤ 60) (h : AM l 0 = ((l.length : Int), 0)) : (Af l).2 = 0 := by
 unfold Af
 rw [if_neg jB, h, if_neg (by simp), if_neg (by simp)]
def most (out : List (List Fo)) : Nat := out.foldl (fun m t => max m (deep t)) 0
theorem Xy (out : List (List Fo)) (t : List Fo) : most (out ++ [t]) = max (most out) (deep t) := by simp [most]
structure IP (l : List Fo) (i : Nat) (out : List (List Fo)) : Prop where
 mx : mxr (count l) i = 1 + most out
 closed : ∀ k : Nat, 1 ≤ k → k < i → (AM l k).1 ≤ i
 well : ∀ t ∈ out, (Af t).2 = 0 ∧ t.length < l.length
theorem UR {l : List Fo} (h0 : 0 < l.length) (h : AM l 0 = ((l.length : Int), 0)) : count l 0 = 1 := by
 have e0 : ((0 : Nat) : Int) = 0 := rfl
 unfold count
 simp only [Kd, e0, h]
 rw [if_pos (by simpa using h0)]
theorem IP.start {l : List Fo} (h0 : 0 < l.length) (h : AM l 0 = ((l.length : Int), 0)) : IP l 1 [] :=
 ⟨by simp [mxr, UR h0 h, most], fun k h1 h2 => by omega, by simp⟩
theorem IP.next {l : List Fo} {i : Nat} {out : List (List Fo)} (d : IP l i out) (h60 : l.length ≤ 60) (h0 : AM l 0 = ((l.length : Int), 0)) (hi : 1 ≤ i) (he : (AM l i).2 = 0) : IP l (AM l i).1.toNat (out ++ [(l.drop i).take ((AM l i).1.toNat - i)]) := by
 have hb := Ak l i he
 have hlen := Gb he
 have hs : scan (l.drop i) 1 i = ((AM l i).1, 0) := by
  have he' : AM l i = scan (l.drop i) 1 i := by unfold AM; rw [Int.toNat_natCast]
  rw [← he']; exact Prod.ext rfl he
 have nest := D2 l l.length i 1 _ jB jB hs
 have hpart := fun k hk => MH he k hk
 generalize hc : (l.drop i).take ((AM l i).1.toNat - i) = c at hlen hpart ⊢
 have hcl : c.length = (AM l i).1.toNat - i := by omega
 have key : ∀ k, k < c.length → count l (i + k) = 1 + count c k := by
  intro k hk
  unfold count
  rw [Nat.add_assoc, S6]
  congr 1
  · refine TX ?_ i hi ?_
    · have e0 : ((0 : Nat) : Int) = 0 := rfl
      rw [e0, h0]; simp; omega
    · intro q q1 q2
      have := d.closed q q1 q2
      simp; omega
  · refine NA _ fun q hq => ?_
    rw [hpart q jB]
    by_cases hx : ((i + k : Nat) : Int) < (AM l (i + q : Nat)).1
    · rw [decide_eq_true hx, decide_eq_true]; dsimp only; omega
    · rw [decide_eq_false hx, decide_eq_false]; dsimp only; omega
 refine ⟨?_, ?_, ?_⟩
 · have e : (AM l i).1.toNat = i + c.length := by omega
   rw [e, WD, d.mx, Xy, Pj c.length key]
   obtain ⟨m, hm⟩ : ∃ m, c.length = m + 1 := ⟨c.length - 1, by omega⟩
   have : mxr (fun k => 1 + count c k) c.length = 1 + deep c := by unfold deep; rw [hm, Sj]
   rw [this]; omega
 · intro k k1 k2
   by_cases hk : k < i
   · have := d.closed k k1 hk; omega
   · have := (nest k jB jB).2; omega
 · intro t ht
   rcases List.mem_append.1 ht with ht | ht
   · exact d.well t ht
   · obtain rfl : t = c := by simpa using ht
     have := hpart 0 jB
     have e0 : ((0 : Nat) : Int) = 0 := rfl
     rw [e0] at this
     refine ⟨PQ jB ?_, by omega⟩
     rw [this, hlen]; rfl
theorem Jh {l : List Fo} (h60 : l.length ≤ 60) (h0 : AM l 0 = ((l.length : Int), 0)) {n : Nat} : ∀ (m j i : Nat) (out : List (List Fo)), n ≤ j + m → Dl l n j i out → IP l i out → IP l l.length (chunks l n 1)
 | 0, j, i, out, hm, p, d => by
   have := p.le
   have hj : j = n := by omega
   rw [p.done hj, ← p.fin hj]; exact d
 | m + 1, j, i, out, hm, p, d => by
   by_cases hj : j < n
   · obtain ⟨q1, q2, q3, q4⟩ := p.next hj
     exact Jh h60 h0 m (j + 1) _ _ jB q4 (d.next h60 h0 p.one q1)
   · have := p.le
     have hj : j = n := by omega
     rw [p.done hj, ← p.fin hj]; exact d
theorem UC {l : List Fo} (h : (Af l).2 = 0) : deep l = 1 + most (BY l).1 ∧ ∀ t ∈ (BY l).1, (Af t).2 = 0 ∧ t.length < l.length := by
 obtain ⟨h60, h0, h1, _, _⟩ := B1 (l := l) (es := (Af l).1) (Prod.ext rfl h)
 have hs : (BY l).1 = chunks l (partsOf l[0].kind).1.toNat 1 := by rw [BY, if_neg (by simpa using h), List.getElem?_eq_getElem h0]; rfl
 have := Jh (n := (partsOf l[0].kind).1.toNat) h60 h1 _ 0 1 [] (Nat.le_of_eq (Nat.zero_add _).symm) (Dl.start h0 h1) (IP.start h0 h1)
 rw [hs]
 exact ⟨this.mx, this.well⟩
def GF (k v props : Int) : Int := if k < 8 then 13 else if (k = 13 ∧ (v < 0 ∨ props ≤ v)) ∨ (k ≠ 13 ∧ v ≠ 0) then 2 else 0
abbrev Ay (k : Int) : Prop := 14 ≤ k ∧ k ≤ 18
def Ji : List Fo → Int → Nat → Int
 | [], _, n => if 6 < n then 1 else 0
 | o :: r, props, n => if GF o.kind o.val props ≠ 0 then GF o.kind o.val props else Ji r props (if Ay o.kind then n + 1 else n)
def DU (l : List Fo) (props : Int) : Int := if props < 0 ∨ 6 < props then 2 else if (Af l).2 ≠ 0 then (Af l).2 else Ji l props 0
theorem Nb (l : List Fo) (i : Nat) (hi : i < l.length) (props : Int) (n : Nat) : Ji (l.drop i) props n = if GF l[i].kind l[i].val props ≠ 0 then GF l[i].kind l[i].val props else Ji (l.drop (i + 1)) props (if Ay l[i].kind then n + 1 else n) := by
 rw [ja hi]; rfl
theorem LU (l : List Fo) (i : Nat) (hi : l.length ≤ i) (props : Int) (n : Nat) : Ji (l.drop i) props n = if 6 < n then 1 else 0 := by
 rw [List.drop_eq_nil_of_le hi]; rfl
def By : List Fo → Nat → List Int
 | [], _ => []
 | o :: r, i => if Ay o.kind then (i : Int) :: By r (i + 1) else By r (i + 1)
def Ac (l : List Fo) (props : Int) : List Int × Int := if DU l props ≠ 0 then ([], DU l props) else (By l 0, 0)
theorem HW (l : List Fo) (i : Nat) (hi : i < l.length) : By (l.drop i) i = if Ay l[i].kind then (i : Int) :: By (l.drop (i + 1)) (i + 1) else By (l.drop (i + 1)) (i + 1) := by
 rw [ja hi]; rfl
theorem Hj (l : List Fo) (i : Nat) (hi : l.length ≤ i) : By (l.drop i) i = [] := by
 rw [List.drop_eq_nil_of_le hi]; rfl
abbrev okP (k : Int) : Prop := 1 ≤ k ∧ k ≤ 12
abbrev DM (k : Int) : Prop := 6 ≤ k ∧ k ≤ 12
abbrev GB (k : Int) : Prop := 8 ≤ k ∧ k ≤ 12
def opZ (k v vars : Int) : Int :=
 if ¬ okP k then 13
 else if (k = 1 ∧ (v < -1000 ∨ 1000 < v)) ∨ (k = 2 ∧ (v < 0 ∨ vars ≤ v)) ∨ (2 < k ∧ v ≠ 0) then 2 else 0
def I5 : List Fo → Int → Int
 | [], _ => 0
 | o :: r, vars => if opZ o.kind o.val vars ≠ 0 then opZ o.kind o.val vars else I5 r vars
theorem Qi (l : List Fo) (i : Nat) (hi : i < l.length) (vars : Int) : I5 (l.drop i) vars = if opZ l[i].kind l[i].val vars ≠ 0 then opZ l[i].kind l[i].val vars else I5 (l.drop (i + 1)) vars := by
 rw [ja hi]; rfl
theorem Ri (l : List Fo) (i : Nat) (hi : l.length ≤ i) (vars : Int) : I5 (l.drop i) vars = 0 := by
 rw [List.drop_eq_nil_of_le hi]; rfl
def Ag (l : List Fo) (i : Nat) : Int := (l[i]?.map Fo.kind).getD 0
theorem Aq (l : List Fo) (i : Nat) (hi : i < l.length) : Ag l i = l[i].kind := by unfold Ag; rw [List.getElem?_eq_getElem hi]; rfl
def C6 (l : List Fo) : Nat → Nat → List Nat
 | 0, _ => []
 | k + 1, i => i :: C6 l k (AM l i).1.toNat
abbrev IK (l : List Fo) (at_ p : Nat) : Prop := (DM (Ag l p) ↔ GB (Ag l at_))
abbrev MM (l : List Fo) (at_ : Nat) : Prop := ∀ p ∈ C6 l (partsOf (Ag l at_)).1.toNat (at_ + 1), IK l at_ p
abbrev DN (l : List Fo) : Prop := ∀ i, i < l.length → MM l i
structure EF (l : List Fo) (n j i e : Nat) : Prop where
 le : j ≤ n
 upto : i ≤ e
 more : j < n → scan (l.drop i) ((n - j : Nat) : Int) i = ((e : Int), 0)
 fin : j = n → i = e
theorem EF.start {l : List Fo} {i : Nat} (hi : i < l.length) (h : (AM l i).2 = 0) : EF l (partsOf l[i].kind).1.toNat 0 (i + 1) (AM l i).1.toNat := by
 have hb := Ak l i h
 have h' := F3 l i hi
 have hp := Bz l[i].kind
 by_cases h1 : (partsOf l[i].kind).2 ≠ 0
 · rw [if_pos h1] at h'; rw [h'] at h; exact absurd h h1
 rw [if_neg h1] at h'
 refine ⟨Nat.zero_le _, by omega, fun h2 => ?_, fun h2 => ?_⟩
 · rw [if_neg jB] at h'
   have e : (1 : Int) + (partsOf l[i].kind).1 - (1 : Int) = (((partsOf l[i].kind).1.toNat - 0 : Nat) : Int) := by omega
   have e2 : ((i + 1 : Nat) : Int) = (i : Int) + 1 := by omega
   rw [e2, ← e, ← h']
   refine Prod.ext ?_ ?_
   · dsimp only; omega
   · exact h
 · rw [if_pos jB] at h'
   rw [h']; dsimp only; omega
theorem EF.next {l : List Fo} {n j i e : Nat} (p : EF l n j i e) (hj : j < n) : (AM l i).2 = 0 ∧ (i : Int) < (AM l i).1 ∧ (AM l i).1 ≤ e ∧ EF l n (j + 1) (AM l i).1.toNat e := by
 obtain ⟨k1, k2, k3, k4, k5⟩ := NM jB (p.more hj)
 have hle := (Mp jB (p.more hj)).2
 refine ⟨k1, k2, hle, by omega, by omega, fun h => ?_, fun h => ?_⟩
 · have := k5 jB
   rwa [show n - j - 1 = n - (j + 1) by omega] at this
 · have := k4 jB
   omega
theorem EF.lt {l : List Fo} {n j i e : Nat} (p : EF l n j i e) : j < n ↔ i < e := by
 constructor
 · intro h
   have := p.next h
   omega
 · intro h
   have := p.le
   have := p.fin
   omega
theorem Ss {l : List Fo} {i : Nat} (h : (AM l i).2 = 0) : ∀ (n j p e : Nat), EF l n j (i + p) e → (e : Int) ≤ (AM l i).1 →
 C6 l (n - j) (i + p) = (C6 ((l.drop i).take ((AM l i).1.toNat - i)) (n - j) p).map (i + ·) := by
 intro n j
 induction hk : n - j generalizing j with
 | zero => intro p e w he; rfl
 | succ k ih =>
   intro p e w he
   obtain ⟨q1, q2, q3, q4⟩ := w.next jB
   have hp := MH h p jB
   simp only [C6, List.map_cons]
   congr 1
   rw [hp]
   have e1 : (AM l (i + p : Nat)).1.toNat = i + ((AM l (i + p : Nat)).1 - i).toNat := by omega
   have q4' := q4
   rw [e1] at q4'
   have := ih (j + 1) jB _ e q4' he
   rw [← this, ← e1]
theorem Ge {l : List Fo} {i : Nat} (p m : Nat) (hp : p < m) : Ag ((l.drop i).take m) p = Ag l (i + p) := by
 unfold Ag
 rw [List.getElem?_take, if_pos hp, List.getElem?_drop]
theorem WV {l : List Fo} : ∀ (n j i e : Nat), EF l n j i e → ∀ p ∈ C6 l (n - j) i, i ≤ p ∧ p < e := by
 intro n j
 induction hk : n - j generalizing j with
 | zero => intro i e w p hp; simp [C6] at hp
 | succ k ih =>
   intro i e w p hp
   obtain ⟨q1, q2, q3, q4⟩ := w.next jB
   simp only [C6, List.mem_cons] at hp
   rcases hp with rfl | hp
   · omega
   · have := ih (j + 1) jB _ e q4 p hp
     omega
theorem PA {l : List Fo} {i : Nat} (h : (AM l i).2 = 0) (p : Nat) (hp : (i : Int) + p < (AM l i).1) : MM ((l.drop i).take ((AM l i).1.toNat - i)) p ↔ MM l (i + p) := by
 have hb := Ak l i h
 have hlt : i + p < l.length := by omega
 have hs : scan (l.drop i) 1 i = ((AM l i).1, 0) := by
  have he' : AM l i = scan (l.drop i) 1 i := by unfold AM; rw [Int.toNat_natCast]
  rw [← he']; exact Prod.ext rfl h
 obtain ⟨n1, n2⟩ := D2 l l.length i 1 _ jB jB hs (i + p) jB jB
 have hk : Ag ((l.drop i).take ((AM l i).1.toNat - i)) p = Ag l (i + p) := Ge p _ jB
 have w := EF.start hlt n1
 rw [← Aq l (i + p) hlt] at w
 have e1 : i + p + 1 = i + (p + 1) := by omega
 rw [e1] at w
 have hst := Ss h _ 0 (p + 1) _ w jB
 have hlts := WV _ 0 _ _ w
 simp only [Nat.sub_zero] at hst hlts
 unfold MM
 rw [hk, e1]
 rw [hst] at hlts ⊢
 have key : ∀ q, q ∈ C6 ((l.drop i).take ((AM l i).1.toNat - i)) (partsOf (Ag l (i + p))).1.toNat (p + 1) → (IK ((l.drop i).take ((AM l i).1.toNat - i)) p q ↔ IK l (i + p) (i + q)) := by
  intro q hq
  have := hlts (i + q) (List.mem_map.2 ⟨q, hq, rfl⟩)
  unfold IK
  rw [hk, Ge q _ jB]
 constructor
 · intro H q hq
   obtain ⟨q', hq', rfl⟩ := List.mem_map.1 hq
   exact (key q' hq').1 (H q' hq')
 · intro H q hq
   exact (key q hq).2 (H _ (List.mem_map.2 ⟨q, hq, rfl⟩))
structure JB (l : List Fo) (n j i : Nat) (out : List (List Fo)) : Prop where
 here : MM l 0 ↔ ((∀ t ∈ out, (DM (Ag t 0) ↔ GB (Ag l 0))) ∧ ∀ p ∈ C6 l (n - j) i, IK l 0 p)
 below : (∀ q, 1 ≤ q → q < i → MM l q) ↔ ∀ t ∈ out, DN t
theorem JB.next {l : List Fo} {n j i : Nat} {out : List (List Fo)} (p : Dl l n j i out) (d : JB l n j i out) (hj : j < n) : JB l n (j + 1) (AM l i).1.toNat (out ++ [(l.drop i).take ((AM l i).1.toNat - i)]) := by
 obtain ⟨q1, q2, q3, q4⟩ := p.next hj
 have hlen := Gb q1
 have hk : Ag ((l.drop i).take ((AM l i).1.toNat - i)) 0 = Ag l (i + 0) := Ge 0 _ jB
 have hty := fun q hq => PA q1 q hq
 generalize hc : (l.drop i).take ((AM l i).1.toNat - i) = c at hlen hk hty ⊢
 constructor
 · rw [d.here]
   have e : n - j = (n - (j + 1)) + 1 := by omega
   rw [e]
   simp only [C6, List.mem_cons, List.mem_append, List.not_mem_nil, or_false]
   constructor
   · rintro ⟨h1, h2⟩
     refine ⟨fun t ht => ?_, fun q hq => h2 q (.inr hq)⟩
     rcases ht with ht | rfl
     · exact h1 t ht
     · have := h2 i (.inl rfl)
       rw [hk]; exact this
   · rintro ⟨h1, h2⟩
     refine ⟨fun t ht => h1 t (.inl ht), fun q hq => ?_⟩
     rcases hq with rfl | hq
     · have := h1 c (.inr rfl)
       rw [hk] at this; exact this
     · exact h2 q hq
 · constructor
   · intro H t ht
     rcases List.mem_append.1 ht with ht | ht
     · exact d.below.1 (fun q h1 h2 => H q h1 jB) t ht
     · obtain rfl : t = c := by simpa using ht
       intro q hq
       have := p.one
       exact (hty q jB).2 (H (i + q) jB jB)
   · intro H q h1 h2
     by_cases hq : q < i
     · exact d.below.2 (fun t ht => H t (List.mem_append.2 (.inl ht))) q h1 hq
     · have := (hty (q - i) jB).1 (H c (List.mem_append.2 (.inr (by simp))) (q - i) jB)
       rwa [show i + (q - i) = q by omega] at this
theorem Rl {l : List Fo} (h : (Af l).2 = 0) : DN l ↔ ∀ t ∈ (BY l).1, (DM (Ag t 0) ↔ GB (Ag l 0)) ∧ DN t := by
 obtain ⟨h60, h0, h1, _, _⟩ := B1 (l := l) (es := (Af l).1) (Prod.ext rfl h)
 have hs : (BY l).1 = chunks l (partsOf l[0].kind).1.toNat 1 := by rw [BY, if_neg (by simpa using h), List.getElem?_eq_getElem h0]; rfl
 have key : ∀ (m j i : Nat) (out : List (List Fo)), (partsOf l[0].kind).1.toNat ≤ j + m → Dl l (partsOf l[0].kind).1.toNat j i out → JB l (partsOf l[0].kind).1.toNat j i out →
  JB l (partsOf l[0].kind).1.toNat (partsOf l[0].kind).1.toNat l.length (chunks l (partsOf l[0].kind).1.toNat 1) := by
  intro m
  induction m with
  | zero =>
    intro j i out hm p d
    have := p.le
    have hj : j = (partsOf l[0].kind).1.toNat := by omega
    have hfin := p.fin hj
    rw [p.done hj, ← hfin]; subst hj; exact d
  | succ m ih =>
    intro j i out hm p d
    by_cases hj : j < (partsOf l[0].kind).1.toNat
    · obtain ⟨q1, q2, q3, q4⟩ := p.next hj
      exact ih (j + 1) _ _ jB q4 (d.next p hj)
    · have := p.le
      have hj : j = (partsOf l[0].kind).1.toNat := by omega
      have hfin := p.fin hj
      rw [p.done hj, ← hfin]; subst hj; exact d
 have d0 : JB l (partsOf l[0].kind).1.toNat 0 1 [] := ⟨by unfold MM; rw [Aq l 0 h0]; simp, by
  constructor
  · intro _ t ht; simp at ht
  · intro _ q h1 h2; omega⟩
 have d := key _ 0 1 [] (Nat.le_of_eq (Nat.zero_add _).symm) (Dl.start h0 h1) d0
 rw [hs]
 have hh := d.here
 rw [Nat.sub_self] at hh
 simp only [C6, List.not_mem_nil, false_implies, implies_true, and_true] at hh
 constructor
 · intro H t ht
   exact ⟨hh.1 (H 0 h0) t ht, d.below.1 (fun q _ h2 => H q h2) t ht⟩
 · intro H i hi
   by_cases h : i = 0
   · subst h; exact hh.2 fun t ht => (H t ht).1
   · exact d.below.2 (fun t ht => (H t ht).2) i jB hi
def Ij (l : List Fo) : Int := if DN l then 0 else 5
def Cp (l : List Fo) (vars : Int) : Bool × Int :=
 if vars < 0 ∨ 6 < vars then (false, 2)
 else if (Af l).2 ≠ 0 then (false, (Af l).2)
 else if I5 l vars ≠ 0 then (false, I5 l vars)
 else if DN l then (decide (DM (Ag l 0)), 0) else (false, 5)
def BU (l : List Fo) : Nat → Nat
 | 0 => 0
 | i + 1 => BU l i + if Ay (Ag l i) then 1 else 0
def eO (claim : Int) (j : Nat) : Bool := decide (claim / 2 ^ j % 2 = 1)
def HM (l : List Fo) (i : Nat) : Int := (l[i]?.map Fo.val).getD 0
theorem Ex (l : List Fo) (i : Nat) (hi : i < l.length) : HM l i = l[i].val := by unfold HM; rw [List.getElem?_eq_getElem hi]; rfl
def second (l : List Fo) (i : Nat) : Nat := (AM l (i + 1 : Nat)).1.toNat
def stepT (l : List Fo) (x : List Bool) (c : Int) (i : Nat) (a b : Bool) : Bool :=
 if Ag l i = 13 then (x[(HM l i).toNat]?).getD false
 else if Ag l i = 11 then true
 else if Ag l i = 12 then false
 else if Ag l i = 10 then !a
 else if Ag l i = 8 then a && b
 else if Ag l i = 9 then a || b
 else eO c (BU l i)
def tv (l : List Fo) (x : List Bool) (c : Int) : Nat → Nat → Bool
 | 0, _ => false
 | m + 1, i => if i < l.length then stepT l x c i (tv l x c m (i + 1)) (if i < second l i then tv l x c m (second l i) else false) else false
def tAt (l : List Fo) (x : List Bool) (c : Int) (i : Nat) : Bool := tv l x c (l.length - i) i
theorem LV (l : List Fo) (x : List Bool) (c : Int) : ∀ (m i : Nat), l.length ≤ i + m → tv l x c m i = tAt l x c i := by
 intro m
 induction m with
 | zero => intro i h; unfold tAt; rw [show l.length - i = 0 by omega]
 | succ m ih =>
   intro i h
   unfold tAt
   by_cases hi : i < l.length
   · obtain ⟨q, hq⟩ : ∃ q, l.length - i = q + 1 := ⟨l.length - i - 1, by omega⟩
     have e : ∀ j, i < j → tv l x c m j = tv l x c q j := fun j hj => by
      rw [ih j jB]
      by_cases hjl : j < l.length
      · have hqm : q ≤ m := by omega
        by_cases hqm' : q = m
        · subst hqm'; exact (ih j jB).symm
        · clear ih
          -- fewer steps are still enough
          have : ∀ (m q j : Nat), l.length ≤ j + q → q ≤ m → tv l x c q j = tv l x c m j := by
           intro m
           induction m with
           | zero => intro q j h1 h2; rw [show q = 0 by omega]
           | succ m ih' =>
             intro q j h1 h2
             cases q with
             | zero =>
               simp only [tv]
               rw [if_neg jB]
             | succ q =>
               simp only [tv]
               by_cases hjl : j < l.length
               · rw [if_pos hjl, if_pos hjl, ih' q (j + 1) jB jB]
                 by_cases hs : j < second l j
                 · rw [if_pos hs, if_pos hs, ih' q (second l j) jB jB]
                 · rw [if_neg hs, if_neg hs]
               · rw [if_neg hjl, if_neg hjl]
          unfold tAt
          exact this q (l.length - j) j jB jB
      · unfold tAt
        rw [show l.length - j = 0 by omega]
        cases q with
        | zero => rfl
        | succ q => simp only [tv]; rw [if_neg hjl]
     rw [hq]
     simp only [tv]
     rw [if_pos hi, if_pos hi, e (i + 1) jB]
     by_cases hs : i < second l i
     · rw [if_pos hs, if_pos hs, e _ hs]
     · rw [if_neg hs, if_neg hs]
   · rw [show l.length - i = 0 by omega]
     simp only [tv]
     rw [if_neg hi]
theorem Yp (l : List Fo) (x : List Bool) (c : Int) (i : Nat) (hi : i < l.length) : tAt l x c i = stepT l x c i (tAt l x c (i + 1)) (if i < second l i then tAt l x c (second l i) else false) := by
 rw [← LV l x c (l.length + 1) i jB]
 simp only [tv]
 rw [if_pos hi, LV l x c l.length (i + 1) jB]
 by_cases hs : i < second l i
 · rw [if_pos hs, if_pos hs, LV l x c l.length (second l i) jB]
 · rw [if_neg hs, if_neg hs]
theorem Ek (l : List Fo) (i : Nat) (hi : i < l.length) : BU l (i + 1) = BU l i + if Ay l[i].kind then 1 else 0 := by
 simp only [BU, Aq l i hi]
theorem JD (l : List Fo) : ∀ (m i : Nat), BU l i ≤ BU l (i + m)
 | 0, i => Nat.le_refl _
 | m + 1, i => by have := JD l m i; rw [← Nat.add_assoc]; simp only [BU]; omega
theorem Jj (l : List Fo) : ∀ (m i : Nat), l.length = i + m → (By (l.drop i) i).length + BU l i = BU l l.length
 | 0, i, h => by rw [Hj l i jB, h]; simp
 | m + 1, i, h => by
   have ih := Jj l m (i + 1) jB
   rw [HW l i jB]
   rw [Ek l i jB] at ih
   by_cases hc : Ay l[i].kind
   · rw [if_pos hc] at ih ⊢; simp only [List.length_cons]; omega
   · rw [if_neg hc] at ih ⊢; omega
theorem NK (l : List Fo) : ∀ (m i : Nat), l.length = i + m → ∀ (j : Nat) (p : Int), (By (l.drop i) i)[j]? = some p → ∃ q : Nat, p = q ∧ i ≤ q ∧ q < l.length ∧ Ay (Ag l q) ∧ BU l q = BU l i + j
 | 0, i, h, j, p, hp => by rw [Hj l i jB] at hp; simp at hp
 | m + 1, i, h, j, p, hp => by
   have ih := NK l m (i + 1) jB
   rw [HW l i jB] at hp
   have hr := Ek l i jB
   by_cases hc : Ay l[i].kind
   · rw [if_pos hc] at hp hr
     cases j with
     | zero =>
       simp at hp
       exact ⟨i, hp.symm, Nat.le_refl _, by omega, by rw [Aq l i jB]; exact hc, rfl⟩
     | succ j =>
       obtain ⟨q, h1, h2, h3, h4, h5⟩ := ih j p (by simpa using hp)
       exact ⟨q, h1, by omega, h3, h4, by omega⟩
   · rw [if_neg hc] at hp hr
     obtain ⟨q, h1, h2, h3, h4, h5⟩ := ih j p hp
     exact ⟨q, h1, by omega, h3, h4, by omega⟩
theorem Iu (l : List Fo) (q : Nat) (hq : q < l.length) (ha : Ay (Ag l q)) : ∀ (m i : Nat), l.length = i + m → i ≤ q → (By (l.drop i) i)[BU l q - BU l i]? = some (q : Int)
 | 0, i, h, hi => by omega
 | m + 1, i, h, hi => by
   rw [HW l i jB]
   have hr := Ek l i jB
   by_cases hiq : i = q
   · subst hiq
     rw [Aq l i hq] at ha
     rw [if_pos ha, Nat.sub_self]; rfl
   · have ih := Iu l q hq ha m (i + 1) jB jB
     have hm := JD l (q - (i + 1)) (i + 1)
     rw [show i + 1 + (q - (i + 1)) = q by omega] at hm
     by_cases hc : Ay l[i].kind
     · rw [if_pos hc] at hr ⊢
       have e : BU l q - BU l i = (BU l q - BU l (i + 1)) + 1 := by omega
       rw [e]; simpa using ih
     · rw [if_neg hc] at hr ⊢
       rw [show BU l q - BU l i = BU l q - BU l (i + 1) by omega]; exact ih
theorem TR {k v p : Int} (h : GF k v p = 0) : 8 ≤ k ∧ (k = 13 → 0 ≤ v ∧ v < p) := by
 unfold GF at h
 by_cases h1 : k < 8
 · rw [if_pos h1] at h; exact absurd h (by decide)
 rw [if_neg h1] at h
 by_cases h2 : (k = 13 ∧ (v < 0 ∨ p ≤ v)) ∨ (k ≠ 13 ∧ v ≠ 0)
 · rw [if_pos h2] at h; exact absurd h (by decide)
 omega
theorem Rm (l : List Fo) (p : Int) : ∀ (m i n : Nat), l.length = i + m → Ji (l.drop i) p n = 0 → (∀ (q : Nat) (hq : q < l.length), i ≤ q → GF l[q].kind l[q].val p = 0) ∧ n + (BU l l.length - BU l i) ≤ 6
 | 0, i, n, h, he => by
   rw [LU l i jB] at he
   refine ⟨fun q hq hi => by omega, ?_⟩
   rw [h, Nat.add_zero, Nat.sub_self]
   by_cases h6 : 6 < n
   · rw [if_pos h6] at he; exact absurd he (by decide)
   · omega
 | m + 1, i, n, h, he => by
   rw [Nb l i jB] at he
   by_cases h1 : GF l[i].kind l[i].val p ≠ 0
   · rw [if_pos h1] at he; exact absurd he h1
   rw [if_neg h1] at he
   obtain ⟨g1, g2⟩ := Rm l p m (i + 1) _ jB he
   have hr := Ek l i jB
   have hm := JD l m (i + 1)
   rw [show i + 1 + m = l.length by omega] at hm
   refine ⟨fun q hq hi => ?_, ?_⟩
   · by_cases hqi : q = i
     · subst hqi; simpa using h1
     · exact g1 q hq jB
   · by_cases hc : Ay l[i].kind
     · rw [if_pos hc] at g2 hr; omega
     · rw [if_neg hc] at g2 hr; omega
theorem aC {l : List Fo} {p : Int} (h : DU l p = 0) : 0 ≤ p ∧ p ≤ 6 ∧ (Af l).2 = 0 ∧ (∀ (q : Nat) (hq : q < l.length), GF l[q].kind l[q].val p = 0) ∧ BU l l.length ≤ 6 := by
 unfold DU at h
 by_cases h1 : p < 0 ∨ 6 < p
 · rw [if_pos h1] at h; exact absurd h (by decide)
 rw [if_neg h1] at h
 by_cases h2 : (Af l).2 ≠ 0
 · rw [if_pos h2] at h; exact absurd h h2
 rw [if_neg h2] at h
 obtain ⟨g1, g2⟩ := Rm l p l.length 0 0 jB (by simpa using h)
 refine ⟨by omega, by omega, by simpa using h2, fun q hq => g1 q hq (Nat.zero_le _), ?_⟩
 simp only [BU] at g2
 omega
theorem Mt {l : List Fo} (h : (Af l).2 = 0) : ∀ (i : Nat) (_ : i < l.length), (AM l i).2 = 0 := by
 obtain ⟨_, _, hend, _, _⟩ := B1 (l := l) (es := (Af l).1) (Prod.ext rfl h)
 intro i hi
 exact (D2 l l.length 0 1 l.length jB jB (by unfold AM at hend; exact hend) i jB jB).1
theorem PR {l : List Fo} {i : Nat} (hi : i < l.length) (h : (AM l i).2 = 0) : (partsOf l[i].kind).2 = 0 := by
 have he := F3 l i hi
 by_cases h1 : (partsOf l[i].kind).2 ≠ 0
 · rw [if_pos h1] at he; rw [he] at h; exact absurd h h1
 · simpa using h1
theorem DY {l : List Fo} {i : Nat} (hi : i < l.length) (h : (AM l i).2 = 0) (hp : 1 ≤ (partsOf l[i].kind).1) : i + 1 < l.length ∧ (AM l (i + 1 : Nat)).2 = 0 ∧ i + 1 < second l i ∧ (AM l (i + 1 : Nat)).1 = (second l i : Nat) ∧ second l i ≤ l.length := by
 obtain ⟨q1, q2, q3, q4⟩ := (EF.start hi h).next jB
 have hb := Ak l i h
 have hb1 := Ak l (i + 1) q1
 unfold second
 refine ⟨by omega, q1, by omega, by omega, by omega⟩
theorem D9 {l : List Fo} {i : Nat} (hi : i < l.length) (h : (AM l i).2 = 0) (hp : (partsOf l[i].kind).1 = 2) : second l i < l.length ∧ (AM l (second l i : Nat)).2 = 0 := by
 obtain ⟨q1, q2, q3, q4⟩ := (EF.start hi h).next jB
 obtain ⟨r1, r2, r3, r4⟩ := q4.next jB
 have hb := Ak l i h
 unfold second
 exact ⟨by omega, r1⟩
structure OD (l : List Fo) (p : Int) : Prop where
 h60 : l.length ≤ 60
 pos : 0 < l.length
 well : ∀ (i : Nat) (_ : i < l.length), (AM l i).2 = 0
 kind : ∀ (i : Nat) (hi : i < l.length), 8 ≤ l[i].kind ∧ l[i].kind ≤ 18
 prop : ∀ (i : Nat) (hi : i < l.length), l[i].kind = 13 → 0 ≤ l[i].val ∧ l[i].val < p
 ah : BU l l.length ≤ 6
 ends : (Af l).2 = 0
theorem Hf {l : List Fo} {p : Int} (h : DU l p = 0) : OD l p := by
 obtain ⟨h1, h2, h3, h4, h5⟩ := aC h
 obtain ⟨k1, k2, _, _, _⟩ := B1 (l := l) (es := (Af l).1) (Prod.ext rfl h3)
 have hw := Mt h3
 refine ⟨k1, k2, hw, fun i hi => ⟨(TR (h4 i hi)).1, ?_⟩, fun i hi => (TR (h4 i hi)).2, h5, h3⟩
 have hk := PR hi (hw i hi)
 by_cases h18 : 18 < l[i].kind
 · rw [C4 _ (.inr h18)] at hk; exact absurd hk (by decide)
 · omega
theorem Dw {l : List Fo} : (By l 0).length = BU l l.length := by
 have := Jj l l.length 0 jB
 simpa [BU] using this
theorem Qs {l : List Fo} {i : Nat} (hi : i ≤ l.length) : BU l i ≤ BU l l.length := by
 have := JD l (l.length - i) i
 rwa [show i + (l.length - i) = l.length by omega] at this
def A2 (l : List Fo) (x : List Bool) (c : Int) : List Bool × Int :=
 if (Ac l x.length).2 ≠ 0 then ([], (Ac l x.length).2)
 else if c < 0 ∨ 2 ^ (Ac l x.length).1.length ≤ c then ([], 2)
 else ((List.range l.length).map (tAt l x c), 0)
theorem Ip {l : List Fo} {p : Int} {ps : List Int} (h : Ac l p = (ps, 0)) : DU l p = 0 ∧ ps = By l 0 := by
 unfold Ac at h
 by_cases h1 : DU l p ≠ 0
 · rw [if_pos h1] at h; simp at h; exact absurd h.2 h1
 · rw [if_neg h1] at h; simp at h; exact ⟨by simpa using h1, h.symm⟩
structure GM (l : List Fo) (x : List Bool) (c : Int) (i : Nat) (out : List Bool) : Prop where
 len : out.length = l.length
 done : ∀ j, i ≤ j → j < l.length → out[j]? = some (tAt l x c j)
 rest : ∀ j, j < i → j < l.length → out[j]? = some false
theorem GM.start (l : List Fo) (x : List Bool) (c : Int) : GM l x c l.length (List.replicate l.length false) :=
 ⟨by simp, fun j h1 h2 => by omega, fun j _ h2 => by simp [h2]⟩
theorem GM.next {l : List Fo} {x : List Bool} {c : Int} {i : Nat} {out : List Bool} {v : Bool} (d : GM l x c (i + 1) out) (hi : i < l.length) (hv : v = tAt l x c i) : GM l x c i (out.set i v) := by
 refine ⟨by rw [List.length_set]; exact d.len, fun j h1 h2 => ?_, fun j h1 h2 => ?_⟩
 · by_cases hj : i = j
   · subst hj; rw [List.getElem?_set_self (by rw [d.len]; exact hi), hv]
   · rw [List.getElem?_set_ne hj]; exact d.done j jB h2
 · rw [List.getElem?_set_ne jB]; exact d.rest j jB h2
theorem GM.no {l : List Fo} {x : List Bool} {c : Int} {i : Nat} {out : List Bool} (d : GM l x c (i + 1) out) (hi : i < l.length) (hv : tAt l x c i = false) : GM l x c i out := by
 refine ⟨d.len, fun j h1 h2 => ?_, fun j h1 h2 => d.rest j jB h2⟩
 by_cases hj : i = j
 · subst hj; rw [d.rest i jB hi, hv]
 · exact d.done j jB h2
theorem GM.fin {l : List Fo} {x : List Bool} {c : Int} {out : List Bool} (d : GM l x c 0 out) : out = (List.range l.length).map (tAt l x c) := by
 apply List.ext_getElem?
 intro j
 by_cases hj : j < l.length
 · rw [d.done j (Nat.zero_le _) hj]; simp [hj]
 · rw [List.getElem?_eq_none (by rw [d.len]; omega), List.getElem?_eq_none (by simp; omega)]
theorem GM.get {l : List Fo} {x : List Bool} {c : Int} {i : Nat} {out : List Bool} (d : GM l x c i out) {j : Nat} (h1 : i ≤ j) (h2 : j < l.length) (h3 : j < out.length) : out[j] = tAt l x c j := by
 have := d.done j h1 h2
 rw [List.getElem?_eq_getElem h3] at this
 exact Option.some.inj this
structure La where
 stop : Nat → Bool
 val : Nat → Bool
 nxt : Nat → Nat
 base : Bool
def La.step (a : La) (i : Nat) (x : Bool) : Bool := if a.stop i then a.val i else x
def La.up (a : La) : Nat → Nat → Bool
 | 0, _ => a.base
 | k + 1, i => a.step i (a.up k (a.nxt i))
theorem La.step_mono (a : La) {i : Nat} (h : a.step i a.base ≠ a.base) (x : Bool) : a.step i x ≠ a.base := by
 unfold La.step at h ⊢
 by_cases c : a.stop i
 · rw [if_pos c] at h ⊢; exact h
 · rw [if_neg c] at h; exact absurd rfl h
structure La.On (a : La) (row : Nat → Bool) : Prop where
 sound : ∀ i, row i ≠ a.base → ∃ k, a.up k i ≠ a.base
 fore : ∀ i, row i ≠ a.base → a.step i (row (a.nxt i)) ≠ a.base
theorem WC {a b c : Bool} (h : a ≠ c) (h' : b ≠ c) : a = b := by revert h h'; cases a <;> cases b <;> cases c <;> decide
theorem La.rest {a : La} {row : Nat → Bool} {N : Nat} (hcl : ∀ i, i < N → a.nxt i < N) (h : ∀ i, i < N → row i = a.step i (row (a.nxt i))) : ∀ (k i : Nat), i < N → a.up k i ≠ a.base → row i ≠ a.base
 | 0, _, _, hk => absurd rfl hk
 | k + 1, i, hi, hk => by
   rw [h i hi]
   rw [La.up] at hk
   by_cases c : a.up k (a.nxt i) = a.base
   · rw [c] at hk; exact a.step_mono hk _
   · rw [WC (La.rest hcl h k _ (hcl i hi) c) c]; exact hk
theorem La.On.done {a : La} {row : Nat → Bool} {N : Nat} (h : a.On row) (hcl : ∀ i, i < N → a.nxt i < N) (hr : ∀ i, i < N → row i = a.step i (row (a.nxt i))) {i : Nat} (hi : i < N) : row i ≠ a.base ↔ ∃ k, a.up k i ≠ a.base :=
 ⟨h.sound i, fun ⟨k, hk⟩ => La.rest hcl hr k i hi hk⟩
theorem dY {row : List Bool} {f : Nat → Bool} {N : Nat} (h1 : row.length = N) (h2 : ∀ (i : Nat) (h : i < row.length), row[i] = f i) : row = (List.range N).map f := by
 refine List.ext_getElem (by simp [h1]) fun i h _ => ?_
 rw [h2 i h]; simp
structure Q7 (f : Nat → Bool) (N i : Nat) (row : List Bool) : Prop where
 len : row.length = N
 done : ∀ (j : Nat) (h : j < row.length), j < i → row[j] = f j
 rest : ∀ (j : Nat) (h : j < row.length), i ≤ j → row[j] = false
theorem Q7.start (f : Nat → Bool) (N : Nat) : Q7 f N 0 (List.replicate N false) := ⟨by simp, fun _ _ h => absurd h (Nat.not_lt_zero _), fun j h _ => by simp⟩
theorem Q7.next {f : Nat → Bool} {N i : Nat} {row : List Bool} (w : Q7 f N i row) {x : Bool} (hx : f i = x) : Q7 f N (i + 1) (row.set i x) := by
 refine ⟨by simp [w.len], fun j h hj => ?_, fun j h hj => ?_⟩
 · rw [List.getElem_set]
   split
   · rename_i e; subst e; exact hx.symm
   · exact w.done j (by simpa using h) jB
 · rw [List.getElem_set, if_neg jB]
   exact w.rest j (by simpa using h) jB
theorem Q7.fin {f : Nat → Bool} {N : Nat} {row : List Bool} (w : Q7 f N N row) : row = (List.range N).map f := dY w.len fun i h => w.done i h (by have := w.len; omega)
theorem Cvs.at (v : Value) (d : D) : ∀ (R : List AV) (i : Nat), Cvs v d (R.set i (.val v)) (R.set i (.d d))
 | [], _ => .nil
 | x :: R, 0 => .cons .here (Cvs.refl v d R)
 | x :: R, i + 1 => .cons (.same x) (Cvs.at v d R i)
def Oh (k : Int) (a1 s b b1 : Bool) : Bool := if k = 14 then b1 else if k = 17 then a1 || b else if k = 18 then a1 && b else if k = 15 then s || (a1 && b) else s && (a1 || b)
theorem SP {k : Int} (a1 u v b b1 : Bool) (hk : Ay k) (hu : k = 15 ∨ k = 16 → u = v) : Oh k a1 u b b1 = Oh k a1 v b b1 := by
 by_cases h : k = 15 ∨ k = 16
 · rw [hu h]
 · unfold Ay at hk
   unfold Oh
   by_cases h14 : k = 14
   · rw [if_pos h14, if_pos h14]
   by_cases h17 : k = 17
   · rw [if_neg h14, if_neg h14, if_pos h17, if_pos h17]
   rw [if_neg h14, if_neg h14, if_neg h17, if_neg h17, if_pos jB, if_pos jB]
def ZR (k : Int) (a a1 s : Bool) : Bool := if k = 17 then !a || a1 else if k = 18 then a || !a1 else if k = 15 then !a || s else if k = 16 then a || !s else true
def Ht (l : List Fo) (A B : Nat → Bool) (i : Nat) : Prop := Ay (Ag l i) → A i = Oh (Ag l i) (A (i + 1)) (A (second l i)) (B i) (B (i + 1))
instance (l : List Fo) (A B : Nat → Bool) (i : Nat) : Decidable (Ht l A B i) := by unfold Ht; infer_instance
def kept (l : List Fo) (A B : Nat → Bool) : Prop := ∀ i, i < l.length → Ht l A B i
instance (l : List Fo) (A B : Nat → Bool) : Decidable (kept l A B) := by unfold kept; infer_instance
def CU (l : List Fo) (x : List Bool) (c : Int) (y : List Bool) (d : Int) : Bool × Int :=
 if x.length ≠ y.length then (false, 1)
 else if (A2 l x c).2 ≠ 0 then (false, (A2 l x c).2)
 else if (A2 l y d).2 ≠ 0 then (false, (A2 l y d).2)
 else (decide (kept l (tAt l x c) (tAt l y d)), 0)
def metAt (l : List Fo) (A : Nat → Bool) (i : Nat) : Bool := ZR (Ag l i) (A i) (A (i + 1)) (A (second l i))
def GI (l : List Fo) (A : Nat → Bool) : Nat → Int
 | 0 => 0
 | i + 1 => GI l A i + if Ay (Ag l i) ∧ metAt l A i = true then 2 ^ BU l i else 0
def Ca (l : List Fo) (x : List Bool) (c : Int) : Int × Int :=
 if (A2 l x c).2 ≠ 0 then (0, (A2 l x c).2) else (GI l (tAt l x c) l.length, 0)
theorem KC (l : List Fo) (A : Nat → Bool) : ∀ i, 0 ≤ GI l A i ∧ GI l A i < 2 ^ BU l i
 | 0 => by simp [GI, BU]
 | i + 1 => by
   have ih := KC l A i
   simp only [GI, BU]
   by_cases h1 : Ay (Ag l i)
   · rw [if_pos h1, Int.pow_succ]
     by_cases h2 : metAt l A i = true
     · rw [if_pos ⟨h1, h2⟩]; omega
     · rw [if_neg (fun h => h2 h.2)]; omega
   · rw [if_neg h1, if_neg (fun h => h1 h.1), Nat.add_zero]; omega
structure TV (l : List Fo) (a : List Bool) (A : Nat → Bool) : Prop where
 len : a.length = l.length
 get : ∀ (i : Nat) (h : i < a.length), a[i] = A i
theorem D6 {l : List Fo} {x : List Bool} {c : Int} {a : List Bool} (h : A2 l x c = (a, 0)) : OD l x.length ∧ TV l a (tAt l x c) := by
 unfold A2 at h
 by_cases h1 : (Ac l x.length).2 ≠ 0
 · rw [if_pos h1] at h; simp at h; exact absurd h.2 h1
 rw [if_neg h1] at h
 by_cases h2 : c < 0 ∨ 2 ^ (Ac l x.length).1.length ≤ c
 · rw [if_pos h2] at h; simp at h
 rw [if_neg h2] at h
 simp only [Prod.mk.injEq, and_true] at h
 subst h
 have := Ip (l := l) (p := x.length) (ps := (Ac l x.length).1) (Prod.ext rfl (by simpa using h1))
 exact ⟨Hf this.1, by simp, fun i hi => by simp⟩
theorem J1.at {nx : Nat → List Nat} {ins : Nat → Bool} : ∀ {l : List Nat}, J1 nx ins l → ∀ (i : Nat) (h : i + 1 < l.length), l[i + 1] ∈ nx l[i]
 | [], _, i, h => by simp at h
 | [_], _, i, h => by simp at h
 | a :: b :: l, c, 0, h => c.1.1
 | a :: b :: l, c, i + 1, h => J1.at (l := b :: l) c.2 i (by simpa using h)
end Go.Sp
namespace Go.Proofs.YtnlfhnbcdfdhgaaGreatDoor
open Go Go.Av
class ElC (P : Program) (t : TypeId) (z : outParam Value) (s b : outParam Nat) : Prop where h : El P t z s b
class FdC (P : Program) (t f : Nat) (o : outParam Nat) : Prop where h : Fld P t f o
class BlC (P : Program) (t : TypeId) : Prop where h : Bl2 P t
class Jv (P : Program) (t : TypeId) (zs : outParam (List Value)) (pl : outParam (List (Nat × Nat))) : Prop where h : Bls P t zs pl
class EqC (P : Program) (t : TypeId) : Prop where h : Eq2 P t
class gy (P : Program) (t : TypeId) : Prop where h : Zg P t
theorem Qx : El Tryz.prog 3 (.int .i64 0) 1 8 := by unfold El; kernel_rfl
instance : ElC Tryz.prog 3 (.int .i64 0) 1 8 := ⟨Qx⟩
theorem cV : El Tryz.prog 4 (.bool false) 1 1 := by unfold El; kernel_rfl
instance : ElC Tryz.prog 4 (.bool false) 1 1 := ⟨cV⟩
theorem cg : El Tryz.prog 5 (.int .u8 0) 1 1 := by unfold El; kernel_rfl
instance : ElC Tryz.prog 5 (.int .u8 0) 1 1 := ⟨cg⟩
theorem Kz : El Tryz.prog 34 (.int .i64 0) 1 8 := by unfold El; kernel_rfl
instance : ElC Tryz.prog 34 (.int .i64 0) 1 8 := ⟨Kz⟩
theorem dJ : El Tryz.prog 169 (.agg #[]) 0 0 := by unfold El; kernel_rfl
instance : ElC Tryz.prog 169 (.agg #[]) 0 0 := ⟨dJ⟩
theorem YB : Bls Tryz.prog 169 [] [] := by unfold Bls; kernel_rfl
instance : Jv Tryz.prog 169 [] [] := ⟨YB⟩
theorem MG : El Tryz.prog 49 (.slice none 0 0) 1 24 := by unfold El; kernel_rfl
instance : ElC Tryz.prog 49 (.slice none 0 0) 1 24 := ⟨MG⟩
theorem Zn : El Tryz.prog 109 (.slice none 0 0) 1 24 := by unfold El; kernel_rfl
instance : ElC Tryz.prog 109 (.slice none 0 0) 1 24 := ⟨Zn⟩
theorem fD : El Tryz.prog 27 (.slice none 0 0) 1 24 := by unfold El; kernel_rfl
instance : ElC Tryz.prog 27 (.slice none 0 0) 1 24 := ⟨fD⟩
theorem YE : El Tryz.prog 78 (.slice none 0 0) 1 24 := by unfold El; kernel_rfl
instance : ElC Tryz.prog 78 (.slice none 0 0) 1 24 := ⟨YE⟩
theorem Z4 : El Tryz.prog 48 (.slice none 0 0) 1 24 := by unfold El; kernel_rfl
instance : ElC Tryz.prog 48 (.slice none 0 0) 1 24 := ⟨Z4⟩
theorem Zj : El Tryz.prog 47 (.slice none 0 0) 1 24 := by unfold El; kernel_rfl
instance : ElC Tryz.prog 47 (.slice none 0 0) 1 24 := ⟨Zj⟩
theorem Xj : El Tryz.prog 178 (.slice none 0 0) 1 24 := by unfold El; kernel_rfl
instance : ElC Tryz.prog 178 (.slice none 0 0) 1 24 := ⟨Xj⟩
theorem bQ : El Tryz.prog 23 (.slice none 0 0) 1 24 := by unfold El; kernel_rfl
instance : ElC Tryz.prog 23 (.slice none 0 0) 1 24 := ⟨bQ⟩
theorem dV : El Tryz.prog 117 (.slice none 0 0) 1 24 := by unfold El; kernel_rfl
instance : ElC Tryz.prog 117 (.slice none 0 0) 1 24 := ⟨dV⟩
theorem gw : El Tryz.prog 137 (.agg #[.int .i64 0, .int .i64 0]) 2 16 := by unfold El; kernel_rfl
instance : ElC Tryz.prog 137 (.agg #[.int .i64 0, .int .i64 0]) 2 16 := ⟨gw⟩
theorem fh : Fld Tryz.prog 137 0 0 := by unfold Fld; kernel_rfl
instance : FdC Tryz.prog 137 0 0 := ⟨fh⟩
theorem gR : Fld Tryz.prog 137 1 1 := by unfold Fld; kernel_rfl
instance : FdC Tryz.prog 137 1 1 := ⟨gR⟩
theorem Ub : Fld Tryz.prog 197 0 0 := by unfold Fld; kernel_rfl
instance : FdC Tryz.prog 197 0 0 := ⟨Ub⟩
theorem VO : Fld Tryz.prog 197 1 1 := by unfold Fld; kernel_rfl
instance : FdC Tryz.prog 197 1 1 := ⟨VO⟩
theorem Wo : Bl2 Tryz.prog 197 := by unfold Bl2; kernel_rfl
instance : BlC Tryz.prog 197 := ⟨Wo⟩
theorem ZX : Fld Tryz.prog 201 0 0 := by unfold Fld; kernel_rfl
instance : FdC Tryz.prog 201 0 0 := ⟨ZX⟩
theorem X6 : Fld Tryz.prog 201 1 1 := by unfold Fld; kernel_rfl
instance : FdC Tryz.prog 201 1 1 := ⟨X6⟩
theorem cK : Bl2 Tryz.prog 201 := by unfold Bl2; kernel_rfl
instance : BlC Tryz.prog 201 := ⟨cK⟩
theorem SK : Fld Tryz.prog 193 0 0 := by unfold Fld; kernel_rfl
instance : FdC Tryz.prog 193 0 0 := ⟨SK⟩
theorem RV : Fld Tryz.prog 193 1 1 := by unfold Fld; kernel_rfl
instance : FdC Tryz.prog 193 1 1 := ⟨RV⟩
theorem TB : Bls Tryz.prog 193 [.slice none 0 0, .slice none 0 0] [(0, 1), (1, 1)] := by unfold Bls; kernel_rfl
instance : Jv Tryz.prog 193 [.slice none 0 0, .slice none 0 0] [(0, 1), (1, 1)] := ⟨TB⟩
theorem C7 : El Tryz.prog 80 (.agg #[.slice none 0 0, .int .i64 0]) 2 32 := by unfold El; kernel_rfl
instance : ElC Tryz.prog 80 (.agg #[.slice none 0 0, .int .i64 0]) 2 32 := ⟨C7⟩
theorem ZU : Fld Tryz.prog 80 0 0 := by unfold Fld; kernel_rfl
instance : FdC Tryz.prog 80 0 0 := ⟨ZU⟩
theorem bG : Fld Tryz.prog 80 1 1 := by unfold Fld; kernel_rfl
instance : FdC Tryz.prog 80 1 1 := ⟨bG⟩
theorem Zd : Bls Tryz.prog 80 [.slice none 0 0, .int .i64 0] [(0, 1), (1, 1)] := by unfold Bls; kernel_rfl
instance : Jv Tryz.prog 80 [.slice none 0 0, .int .i64 0] [(0, 1), (1, 1)] := ⟨Zd⟩
theorem dC : Bl2 Tryz.prog 80 := by unfold Bl2; kernel_rfl
instance : BlC Tryz.prog 80 := ⟨dC⟩
theorem ck : El Tryz.prog 59 (.agg #[.int .i64 0, .int .i64 0]) 2 16 := by unfold El; kernel_rfl
instance : ElC Tryz.prog 59 (.agg #[.int .i64 0, .int .i64 0]) 2 16 := ⟨ck⟩
theorem az : Fld Tryz.prog 59 0 0 := by unfold Fld; kernel_rfl
instance : FdC Tryz.prog 59 0 0 := ⟨az⟩
theorem ZW : Fld Tryz.prog 59 1 1 := by unfold Fld; kernel_rfl
instance : FdC Tryz.prog 59 1 1 := ⟨ZW⟩
theorem dS : El Tryz.prog 106 (.agg #[.int .i64 0, .int .i64 0]) 2 16 := by unfold El; kernel_rfl
instance : ElC Tryz.prog 106 (.agg #[.int .i64 0, .int .i64 0]) 2 16 := ⟨dS⟩
theorem aH : Fld Tryz.prog 106 0 0 := by unfold Fld; kernel_rfl
instance : FdC Tryz.prog 106 0 0 := ⟨aH⟩
theorem Yw : Fld Tryz.prog 106 1 1 := by unfold Fld; kernel_rfl
instance : FdC Tryz.prog 106 1 1 := ⟨Yw⟩
theorem cC : Bl2 Tryz.prog 106 := by unfold Bl2; kernel_rfl
instance : BlC Tryz.prog 106 := ⟨cC⟩
theorem ai : El Tryz.prog 51 (.agg #[.slice none 0 0, .int .i64 0, .slice none 0 0, .slice none 0 0, .int .i64 0]) 5 88 := by unfold El; kernel_rfl
instance : ElC Tryz.prog 51 (.agg #[.slice none 0 0, .int .i64 0, .slice none 0 0, .slice none 0 0, .int .i64 0]) 5 88 := ⟨ai⟩
theorem Xo : Fld Tryz.prog 51 0 0 := by unfold Fld; kernel_rfl
instance : FdC Tryz.prog 51 0 0 := ⟨Xo⟩
theorem Xq : Fld Tryz.prog 51 1 1 := by unfold Fld; kernel_rfl
instance : FdC Tryz.prog 51 1 1 := ⟨Xq⟩
theorem XK : Fld Tryz.prog 51 2 2 := by unfold Fld; kernel_rfl
instance : FdC Tryz.prog 51 2 2 := ⟨XK⟩
theorem XF : Fld Tryz.prog 51 3 3 := by unfold Fld; kernel_rfl
instance : FdC Tryz.prog 51 3 3 := ⟨XF⟩
theorem Xf : Fld Tryz.prog 51 4 4 := by unfold Fld; kernel_rfl
instance : FdC Tryz.prog 51 4 4 := ⟨Xf⟩
theorem Xs : Bls Tryz.prog 51 [.slice none 0 0, .int .i64 0, .slice none 0 0, .slice none 0 0, .int .i64 0] [(0, 1), (1, 1), (2, 1), (3, 1), (4, 1)] := by unfold Bls; kernel_rfl
instance : Jv Tryz.prog 51 [.slice none 0 0, .int .i64 0, .slice none 0 0, .slice none 0 0, .int .i64 0] [(0, 1), (1, 1), (2, 1), (3, 1), (4, 1)] := ⟨Xs⟩
theorem Tu : Fld Tryz.prog 180 0 0 := by unfold Fld; kernel_rfl
instance : FdC Tryz.prog 180 0 0 := ⟨Tu⟩
theorem U0 : Fld Tryz.prog 180 1 5 := by unfold Fld; kernel_rfl
instance : FdC Tryz.prog 180 1 5 := ⟨U0⟩
theorem VP : Fld Tryz.prog 180 2 6 := by unfold Fld; kernel_rfl
instance : FdC Tryz.prog 180 2 6 := ⟨VP⟩
theorem Tt : Fld Tryz.prog 180 3 7 := by unfold Fld; kernel_rfl
instance : FdC Tryz.prog 180 3 7 := ⟨Tt⟩
theorem Tv : Fld Tryz.prog 180 4 8 := by unfold Fld; kernel_rfl
instance : FdC Tryz.prog 180 4 8 := ⟨Tv⟩
theorem Uk : Fld Tryz.prog 180 5 9 := by unfold Fld; kernel_rfl
instance : FdC Tryz.prog 180 5 9 := ⟨Uk⟩
theorem VB : Fld Tryz.prog 180 6 10 := by unfold Fld; kernel_rfl
instance : FdC Tryz.prog 180 6 10 := ⟨VB⟩
theorem VE : Bls Tryz.prog 180 [.slice none 0 0, .int .i64 0, .slice none 0 0, .slice none 0 0, .int .i64 0, .slice none 0 0, .slice none 0 0, .slice none 0 0, .slice none 0 0, .slice none 0 0, .int .i64 0] [(0, 5), (5, 1), (6, 1), (7, 1), (8, 1), (9, 1), (10, 1)] := by unfold Bls; kernel_rfl
instance : Jv Tryz.prog 180 [.slice none 0 0, .int .i64 0, .slice none 0 0, .slice none 0 0, .int .i64 0, .slice none 0 0, .slice none 0 0, .slice none 0 0, .slice none 0 0, .slice none 0 0, .int .i64 0] [(0, 5), (5, 1), (6, 1), (7, 1), (8, 1), (9, 1), (10, 1)] := ⟨VE⟩
theorem aw : El Tryz.prog 215 (.agg #[.int .i64 0, .int .i64 0]) 2 16 := by unfold El; kernel_rfl
instance : ElC Tryz.prog 215 (.agg #[.int .i64 0, .int .i64 0]) 2 16 := ⟨aw⟩
theorem Wt : Fld Tryz.prog 215 0 0 := by unfold Fld; kernel_rfl
instance : FdC Tryz.prog 215 0 0 := ⟨Wt⟩
theorem Wi : Fld Tryz.prog 215 1 1 := by unfold Fld; kernel_rfl
instance : FdC Tryz.prog 215 1 1 := ⟨Wi⟩
theorem XE : Bls Tryz.prog 215 [.int .i64 0, .int .i64 0] [(0, 1), (1, 1)] := by unfold Bls; kernel_rfl
instance : Jv Tryz.prog 215 [.int .i64 0, .int .i64 0] [(0, 1), (1, 1)] := ⟨XE⟩
theorem R5 : El Tryz.prog 135 (.agg #[.string ByteArray.empty, .int .i64 0, .int .i64 0, .int .i64 0]) 4 40 := by unfold El; kernel_rfl
instance : ElC Tryz.prog 135 (.agg #[.string ByteArray.empty, .int .i64 0, .int .i64 0, .int .i64 0]) 4 40 := ⟨R5⟩
theorem QP : Fld Tryz.prog 135 0 0 := by unfold Fld; kernel_rfl
instance : FdC Tryz.prog 135 0 0 := ⟨QP⟩
theorem Qb : Fld Tryz.prog 135 1 1 := by unfold Fld; kernel_rfl
instance : FdC Tryz.prog 135 1 1 := ⟨Qb⟩
theorem QU : Fld Tryz.prog 135 2 2 := by unfold Fld; kernel_rfl
instance : FdC Tryz.prog 135 2 2 := ⟨QU⟩
theorem RF : Fld Tryz.prog 135 3 3 := by unfold Fld; kernel_rfl
instance : FdC Tryz.prog 135 3 3 := ⟨RF⟩
theorem fS : El Tryz.prog 121 (.agg #[.int .i64 0, .slice none 0 0]) 2 32 := by unfold El; kernel_rfl
instance : ElC Tryz.prog 121 (.agg #[.int .i64 0, .slice none 0 0]) 2 32 := ⟨fS⟩
theorem cX : Fld Tryz.prog 121 0 0 := by unfold Fld; kernel_rfl
instance : FdC Tryz.prog 121 0 0 := ⟨cX⟩
theorem bk : Fld Tryz.prog 121 1 1 := by unfold Fld; kernel_rfl
instance : FdC Tryz.prog 121 1 1 := ⟨bk⟩
theorem gA : Bl2 Tryz.prog 121 := by unfold Bl2; kernel_rfl
instance : BlC Tryz.prog 121 := ⟨gA⟩
theorem dN : El Tryz.prog 119 (.agg #[.slice none 0 0, .slice none 0 0]) 2 48 := by unfold El; kernel_rfl
instance : ElC Tryz.prog 119 (.agg #[.slice none 0 0, .slice none 0 0]) 2 48 := ⟨dN⟩
theorem Zo : Fld Tryz.prog 119 0 0 := by unfold Fld; kernel_rfl
instance : FdC Tryz.prog 119 0 0 := ⟨Zo⟩
theorem aV : Fld Tryz.prog 119 1 1 := by unfold Fld; kernel_rfl
instance : FdC Tryz.prog 119 1 1 := ⟨aV⟩
theorem ZH : Bls Tryz.prog 119 [.slice none 0 0, .slice none 0 0] [(0, 1), (1, 1)] := by unfold Bls; kernel_rfl
instance : Jv Tryz.prog 119 [.slice none 0 0, .slice none 0 0] [(0, 1), (1, 1)] := ⟨ZH⟩
theorem a6 : El Tryz.prog 25 (.agg #[.slice none 0 0, .slice none 0 0]) 2 48 := by unfold El; kernel_rfl
instance : ElC Tryz.prog 25 (.agg #[.slice none 0 0, .slice none 0 0]) 2 48 := ⟨a6⟩
theorem Xc : Fld Tryz.prog 25 0 0 := by unfold Fld; kernel_rfl
instance : FdC Tryz.prog 25 0 0 := ⟨Xc⟩
theorem XY : Fld Tryz.prog 25 1 1 := by unfold Fld; kernel_rfl
instance : FdC Tryz.prog 25 1 1 := ⟨XY⟩
theorem XJ : Bls Tryz.prog 25 [.slice none 0 0, .slice none 0 0] [(0, 1), (1, 1)] := by unfold Bls; kernel_rfl
instance : Jv Tryz.prog 25 [.slice none 0 0, .slice none 0 0] [(0, 1), (1, 1)] := ⟨XJ⟩
theorem cw : El Tryz.prog 29 (.agg #[.slice none 0 0, .slice none 0 0, .slice none 0 0, .slice none 0 0]) 4 96 := by unfold El; kernel_rfl
instance : ElC Tryz.prog 29 (.agg #[.slice none 0 0, .slice none 0 0, .slice none 0 0, .slice none 0 0]) 4 96 := ⟨cw⟩
theorem YJ : Fld Tryz.prog 29 0 0 := by unfold Fld; kernel_rfl
instance : FdC Tryz.prog 29 0 0 := ⟨YJ⟩
theorem aS : Fld Tryz.prog 29 1 2 := by unfold Fld; kernel_rfl
instance : FdC Tryz.prog 29 1 2 := ⟨aS⟩
theorem YQ : Fld Tryz.prog 29 2 3 := by unfold Fld; kernel_rfl
instance : FdC Tryz.prog 29 2 3 := ⟨YQ⟩
theorem ZY : Bls Tryz.prog 29 [.slice none 0 0, .slice none 0 0, .slice none 0 0, .slice none 0 0] [(0, 2), (2, 1), (3, 1)] := by unfold Bls; kernel_rfl
instance : Jv Tryz.prog 29 [.slice none 0 0, .slice none 0 0, .slice none 0 0, .slice none 0 0] [(0, 2), (2, 1), (3, 1)] := ⟨ZY⟩
theorem ZC : El Tryz.prog 77 (.agg #[.slice none 0 0, .slice none 0 0]) 2 48 := by unfold El; kernel_rfl
instance : ElC Tryz.prog 77 (.agg #[.slice none 0 0, .slice none 0 0]) 2 48 := ⟨ZC⟩
theorem Wd : Fld Tryz.prog 77 0 0 := by unfold Fld; kernel_rfl
instance : FdC Tryz.prog 77 0 0 := ⟨Wd⟩
theorem XD : Fld Tryz.prog 77 1 1 := by unfold Fld; kernel_rfl
instance : FdC Tryz.prog 77 1 1 := ⟨XD⟩
theorem XI : Bls Tryz.prog 77 [.slice none 0 0, .slice none 0 0] [(0, 1), (1, 1)] := by unfold Bls; kernel_rfl
instance : Jv Tryz.prog 77 [.slice none 0 0, .slice none 0 0] [(0, 1), (1, 1)] := ⟨XI⟩
theorem Ua : El Tryz.prog 33 (.agg #[.bool false, .int .i64 0, .int .i64 0, .int .i64 0, .int .i64 0, .bool false, .bool false]) 7 48 := by unfold El; kernel_rfl
instance : ElC Tryz.prog 33 (.agg #[.bool false, .int .i64 0, .int .i64 0, .int .i64 0, .int .i64 0, .bool false, .bool false]) 7 48 := ⟨Ua⟩
theorem TT : Fld Tryz.prog 33 0 0 := by unfold Fld; kernel_rfl
instance : FdC Tryz.prog 33 0 0 := ⟨TT⟩
theorem Rs : Fld Tryz.prog 33 1 1 := by unfold Fld; kernel_rfl
instance : FdC Tryz.prog 33 1 1 := ⟨Rs⟩
theorem SC : Fld Tryz.prog 33 2 2 := by unfold Fld; kernel_rfl
instance : FdC Tryz.prog 33 2 2 := ⟨SC⟩
theorem Rt : Fld Tryz.prog 33 3 3 := by unfold Fld; kernel_rfl
instance : FdC Tryz.prog 33 3 3 := ⟨Rt⟩
theorem Rp : Fld Tryz.prog 33 4 4 := by unfold Fld; kernel_rfl
instance : FdC Tryz.prog 33 4 4 := ⟨Rp⟩
theorem SE : Fld Tryz.prog 33 5 5 := by unfold Fld; kernel_rfl
instance : FdC Tryz.prog 33 5 5 := ⟨SE⟩
theorem R9 : Fld Tryz.prog 33 6 6 := by unfold Fld; kernel_rfl
instance : FdC Tryz.prog 33 6 6 := ⟨R9⟩
theorem SO : Bls Tryz.prog 33 [.bool false, .int .i64 0, .int .i64 0, .int .i64 0, .int .i64 0, .bool false, .bool false] [(0, 1), (1, 1), (2, 1), (3, 1), (4, 1), (5, 1), (6, 1)] := by unfold Bls; kernel_rfl
instance : Jv Tryz.prog 33 [.bool false, .int .i64 0, .int .i64 0, .int .i64 0, .int .i64 0, .bool false, .bool false] [(0, 1), (1, 1), (2, 1), (3, 1), (4, 1), (5, 1), (6, 1)] := ⟨SO⟩
theorem fa : Eq2 Tryz.prog 137 := ⟨by kernel_rfl, fun a b c d w => by
  have u3 := Tryz.underlying3
  rw [show (10000 : Nat) = 9999 + 1 from rfl, run_equalIn_agg w 9999 137 _ _ (by kernel_rfl) (by kernel_rfl)]
  simp only [Program.fieldsOf, Tryz.underlying137]
  go_simp
  by_cases h1 : a = c <;> by_cases h2 : b = d <;> simp [h1, h2]⟩
instance : EqC Tryz.prog 137 := ⟨fa⟩
theorem B9 : Eq2 Tryz.prog 106 := ⟨by kernel_rfl, fun a b c d w => by
  have u3 := Tryz.underlying3
  rw [show (10000 : Nat) = 9999 + 1 from rfl, run_equalIn_agg w 9999 106 _ _ (by kernel_rfl) (by kernel_rfl)]
  simp only [Program.fieldsOf, Tryz.underlying106]
  go_simp
  by_cases h1 : a = c <;> by_cases h2 : b = d <;> simp [h1, h2]⟩
theorem We : Zg Tryz.prog 34 := ⟨_, Tryz.underlying34, fun _ h => by cases h⟩
instance : gy Tryz.prog 34 := ⟨We⟩
theorem mixed : Tryz.prog.follows .mixedOrders = true := by kernel_rfl
def Jr : List D := [-1, 0, 0, 2, 2, 2, 2, 2, 2, 2, 1, 0, 0, 0, 1, 2, 2, 1, 1].map fun n => D.i .i64 n
def GP : List (Nat × List D) := [(0, Jr)]
theorem fI : (0, Jr) ∈ GP := by simp [GP]
end Go.Proofs.YtnlfhnbcdfdhgaaGreatDoor
namespace Go.Av
open Go
class KS : Prop
class Ld : Prop
class Jw (n : outParam Nat) : Prop
theorem useA [KS] {p : Prop} (h : p) : p := h
theorem useH [Ld] {p : Prop} (h : p) : p := h
section
variable {k : Kx} {Q : Exit → Env → H → Prop} {ρ : Env} {h : H}
theorem fE {n : Nat} [Jw n] {id : Nat} {l : List Oper} (_hA : Nat.ble n (l.countP fun o => effB o.op) = true) (hj : Stop (J k (.region id l.toArray true) Q ρ h)) : J k (.region id l.toArray true) Q ρ h := hj.get
end
theorem gp {p : Prop} {i : Decidable p} (h : @decide p i = true) : p := of_decide_eq_true h
theorem gq {p : Prop} {i : Decidable p} (h : @decide p i = false) : ¬ p := of_decide_eq_false h
theorem A6 {p : Prop} (h : p := by (first | omega | (simp only [List.length_map, List.length_range, List.length_append, List.length_cons, List.length_nil, List.length_take, List.length_drop, List.length_set, List.length_replicate]; omega))) : p := h
theorem Cm {p : Prop} (h : p := by ((repeat (first | with_reducible exact Upd.here | with_reducible apply Upd.there)); first | done | fail)) : p := h
theorem C0 {p : Prop} (h : p := by (intro q_; (repeat (first | with_reducible exact Upd.here | with_reducible apply Upd.there)); first | done | fail)) : p := h
theorem iU {p : Prop} (h : p := by ((repeat (first | exact IB.nil | apply IB.put | apply IB.skip)); first | done | fail)) : p := h
theorem AW {p : Prop} (h : p := by ((repeat (first | exact List.mem_cons_self | apply List.mem_cons_of_mem)); first | done | fail)) : p := h
theorem IE {p : Prop} (h : p := by ((repeat (first | exact jc _ | (with_reducible apply List.Sublist.cons_cons) | apply List.Sublist.cons)); first | done | fail)) : p := h
theorem AH {p : Prop} (h : p := by ((repeat (first | exact Take.nil | ((with_reducible apply Take.cons); (focus ((repeat (first | exact Sel.here | with_reducible apply Sel.there)); done))))); first | done | fail)) : p := h
theorem leD {p : Prop} (h : p := by
 repeat (first
  | exact Env.le_nil _
  | refine Env.le_cons (AV.le_refl _) ?_
  | refine Env.le_cons (AV.le_int rfl (by first | rfl | omega | (dsimp only; omega))) ?_)
 first | done | fail) : p := h
theorem cx {c q : Prop} (hc : c) (h : c → q := by intro hc; first | contradiction | (exfalso; omega)) : q := h hc
theorem cx1 {c q : Prop} (hc : c) (h : c → q := by intro hc; first | contradiction | (exfalso; omega) | (exfalso; exact absurd (gp hc) (by assumption)) | (exfalso; exact gq hc (by assumption))) : q := h hc
theorem Fq {p : Prop} (h : p := by
 (first
  | (first
    | ((with_reducible apply cj); rfl)
    | ((with_reducible apply Xe); rfl)
    | ((with_reducible apply QB); rfl; rfl)
    | ((with_reducible apply YP); rfl; rfl)
    | ((with_reducible apply YS); rfl; rfl)
    | ((with_reducible apply X4); rfl; rfl)
    | ((with_reducible apply OV); rfl; rfl; rfl)
    | ((with_reducible apply Oc); rfl; rfl; rfl)
    | ((with_reducible apply ZF); rfl; rfl)
    )
  | (first
    | ((with_reducible apply bK); rfl; rfl)
    | ((with_reducible apply Y0); rfl; rfl)
    | ((with_reducible apply YF); rfl; rfl; (focus (first | (unfold Ao; omega) | (unfold Ao; simp only [Int.reduceToNat, Int.reducePow]; omega) | assumption)))
    | ((with_reducible apply Z7); rfl; rfl; (focus (first | (unfold Ao; omega) | (unfold Ao; simp only [Int.reduceToNat, Int.reducePow]; omega) | assumption)))
    | ((with_reducible apply Yu); rfl; rfl; (focus (first | (unfold Ao; omega) | (unfold Ao; simp only [Int.reduceToNat, Int.reducePow]; omega) | assumption)))
    | ((with_reducible apply aT); rfl; rfl; omega; omega; omega)
    | ((with_reducible apply YI); rfl; rfl; omega; omega)
    | ((with_reducible apply bT); rfl; rfl; omega; omega; (focus (first | (unfold Ao; omega) | (unfold Ao; simp only [Int.reduceToNat, Int.reducePow]; omega) | assumption)))
    | ((with_reducible apply ZV); rfl; rfl; omega; omega)
    )
  | (first
    | ((with_reducible apply VH); rfl; rfl; omega; omega; (focus (first | (unfold Ao; omega) | (unfold Ao; simp only [Int.reduceToNat, Int.reducePow]; omega) | assumption)))
    | ((with_reducible apply UX); rfl; rfl; omega; omega)
    | ((with_reducible apply pure_and1); rfl; rfl; omega; omega)
    | ((with_reducible apply pure_and); rfl; rfl)
    | ((with_reducible apply pure_or); rfl; rfl)
    | ((with_reducible apply pure_neg); rfl; (focus (first | (unfold Ao; omega) | (unfold Ao; simp only [Int.reduceToNat, Int.reducePow]; omega) | assumption)))
    | ((with_reducible apply Lz); rfl; rfl)
    | ((with_reducible apply pure_neq_string); rfl; rfl)
    | ((with_reducible apply Pw); rfl; rfl)
    )
  | (first
    | ((with_reducible apply Oq); rfl; rfl)
    | ((with_reducible apply bL); rfl)
    | ((with_reducible apply fg); rfl; rfl)
    | ((with_reducible apply Sz); rfl; rfl)
    | ((with_reducible apply fk); rfl; rfl)
    | ((with_reducible apply gB); rfl; rfl)
    | ((with_reducible apply QK); rfl; rfl; rfl; rfl; (with_reducible exact ElC.h); omega; exact A6)
    | ((with_reducible apply TN); rfl; rfl; rfl; (with_reducible exact ElC.h); exact A6)
    | ((with_reducible apply Nq); rfl; rfl; rfl; (with_reducible exact ElC.h); exact A6)
    | ((with_reducible apply SR); rfl; rfl; rfl; (with_reducible exact ElC.h); omega; exact A6)
    | ((with_reducible apply Zb); rfl; rfl)
    )
  | (first
    | ((with_reducible apply aG); rfl; rfl; rfl)
    | ((with_reducible apply pu_slice); rfl; rfl; rfl; rfl; (with_reducible exact ElC.h); omega; omega; exact A6)
    | ((with_reducible apply OZ); rfl; rfl; rfl; (with_reducible exact ElC.h); omega; exact A6)
    | ((with_reducible apply SH); rfl; rfl; rfl; (with_reducible exact ElC.h); omega; exact A6)
    | ((with_reducible apply Sx); rfl; rfl; rfl; (with_reducible exact ElC.h); omega)
    | ((with_reducible apply RD); rfl; rfl; rfl; (with_reducible exact ElC.h); omega; omega)
    | ((with_reducible apply F5); rfl; rfl; (with_reducible exact ElC.h); rfl; omega; omega)
    | ((with_reducible apply KP); rfl; rfl; rfl; (with_reducible exact ElC.h); exact AW; exact A6)
    | ((with_reducible apply OU); rfl; rfl; rfl; (with_reducible exact ElC.h); exact AW; omega; exact A6)
    | ((with_reducible apply Mc); (focus (with_reducible exact FdC.h)); rfl)
    | ((with_reducible apply Pg); rfl; rfl)
    | ((with_reducible apply RT); rfl; rfl; (with_reducible exact ElC.h); rfl)
    | ((with_reducible apply bq); (focus (with_reducible exact EqC.h)); rfl; rfl)
    )
  | (first
    | ((with_reducible apply Sy); rfl)
    | ((with_reducible apply OB); rfl)
    | ((with_reducible apply NC); (focus (with_reducible exact FdC.h)); rfl)
    | ((with_reducible apply TJ); rfl; rfl; exact AW; exact A6)
    | ((with_reducible apply Om); rfl; rfl; exact AW; (first | rfl | assumption | ((apply set_ne_get); assumption; (focus (first | omega | exact Nat.ne_of_lt (Nat.lt_succ_self _))))))
    | ((with_reducible apply RG); rfl; rfl; exact AW; exact fun _ => rfl; rfl; exact A6)
    | ((with_reducible apply Kv); rfl; rfl; exact AW; exact fun _ => rfl; rfl; exact A6)
    | ((with_reducible apply pu_field_row); (focus (with_reducible exact FdC.h)); rfl)
    | ((with_reducible apply Ko); rfl; rfl; (with_reducible exact ElC.h); exact AW; rfl)
    | ((with_reducible apply Yv); (focus (with_reducible exact gy.h)); rfl)
    | ((with_reducible apply SX); (focus (with_reducible exact BlC.h)); rfl; rfl; rfl; rfl)
    | ((with_reducible apply X9); (focus (with_reducible exact Jv.h)); rfl; rfl; rfl)
    | ((with_reducible apply Ti); rfl; rfl; rfl)
    )
  | (first
    | ((with_reducible apply TI); rfl; rfl; rfl)
    | ((with_reducible apply pu_int_int); rfl; rfl; rfl; (focus (first | (unfold Ao; omega) | (unfold Ao; simp only [Int.reduceToNat, Int.reducePow]; omega) | assumption)))
    | ((with_reducible apply pu_bytes_string); rfl; rfl; rfl; rfl)
    | ((with_reducible apply Ux); rfl; rfl; exact AW)
    | ((with_reducible apply QZ); rfl; rfl; rfl; (with_reducible exact ElC.h); exact AW; omega; exact A6)
    | ((with_reducible apply pu_index_cut); rfl; rfl; rfl; (with_reducible exact ElC.h); exact AW; omega; omega; exact A6)
    | ((with_reducible apply Uy); rfl; rfl; exact AW)
    | ((with_reducible apply pu_len_cut); rfl; rfl; exact AW)
    | ((with_reducible apply QM); rfl; rfl)
    | ((with_reducible apply QS); rfl; rfl; rfl; (with_reducible exact ElC.h); exact AW; omega; exact A6)
    | ((with_reducible apply Pv); rfl; rfl; rfl; (with_reducible exact ElC.h); exact AW; exact A6)
    | ((with_reducible apply TZ); rfl; exact Qx; exact fI; rfl; omega; omega)
    | ((with_reducible apply pu_index_arr); rfl; rfl; rfl; (with_reducible exact ElC.h); omega; omega)
    )
  )) : p := h
theorem ca {P C p q : Prop} (k : P) (c : C) (hp : p) (h : P → C → p → q := by
 intro k_ c_
 apply cmp; (focus (first
  | ((with_reducible apply GR); rfl; exact k_; exact c_; rfl)
  | ((with_reducible apply Cs); rfl; decide +kernel; rfl; exact k_; exact c_; rfl)))
 exact fun h => h) : q := h k c hp
theorem cae {P C p q : Prop} (k : P) (c : C) (hp : p) (h : P → C → p → q := by
 intro k_ c_
 apply cmp; (focus (first
  | ((with_reducible apply ZM); rfl; exact k_; exact c_; rfl)
  | ((with_reducible apply TC); rfl; decide +kernel; rfl; exact k_; exact c_; rfl)))
 exact fun h => h) : q := h k c hp
theorem caq {P C p q : Prop} (k : P) (c : C) (hp : p) (h : P → C → p → q := by
 intro k_ c_
 apply cmp; (focus ((with_reducible apply eK); rfl; exact k_; exact c_; rfl))
 exact fun h => h) : q := h k c hp
theorem cag {P C p q : Prop} (k : P) (c : C) (hp : p) (h : P → C → p → q := by
 intro k_ c_
 apply cmp; (focus ((with_reducible apply D8); rfl; exact k_; exact c_; (focus ((repeat (first | with_reducible exact Take.nil | ((with_reducible apply Take.cons); (focus ((repeat (first | with_reducible exact Sel.here | with_reducible apply Sel.there)); done))))); done)); rfl; (focus (intro v_; (repeat (first | exact App.nil | apply App.cons)); done))))
 exact fun h => h) : q := h k c hp
theorem cgv {P C p q : Prop} (k : P) (c : C) (hp : p) (h : P → C → p → q := by
 intro k_ c_
 apply cmp; (focus ((with_reducible apply Fy); rfl; rfl; exact k_; exact c_; (focus ((repeat (first | with_reducible exact Take.nil | ((with_reducible apply Take.cons); (focus ((repeat (first | with_reducible exact Sel.here | with_reducible apply Sel.there)); done))))); done)); rfl; (focus (intro v_; (repeat (first | exact App.nil | apply App.cons)); done))))
 exact fun h => h) : q := h k c hp
end Go.Av
namespace Go.Proofs.YtnlfhnbcdfdhgaaGreatDoor
open Go Go.Av
theorem ae {p q : Prop} (h : p → q := by
 apply cmp; (focus (first
  | ((with_reducible apply iD); rfl; rfl; rfl)
  | ((with_reducible apply YV); (with_reducible exact ElC.h); rfl; rfl)
  | ((with_reducible apply cU); (with_reducible exact ElC.h); rfl)
  | ((with_reducible apply Z0); rfl; rfl; (with_reducible exact ElC.h); omega; omega; rfl)
  | ((with_reducible apply dp); rfl; rfl; (with_reducible exact ElC.h); omega; omega; rfl)
  | ((with_reducible apply gm); rfl; exact Cm; rfl; rfl; (with_reducible exact ElC.h); exact A6)
  | ((with_reducible apply gz); (iterate 3 rfl); (with_reducible exact ElC.h); rfl; exact Cm; rfl)
  | ((with_reducible apply gd); (iterate 3 rfl); (with_reducible exact ElC.h); exact Cm; exact iU)
  | ((with_reducible apply iG); (iterate 3 rfl); (with_reducible exact ElC.h); rfl; exact Cm; exact iU)
  ))
 exact fun h => h) : p → q := h
theorem CI {p q : Prop} (hp : p) (h : p → q := by exact ae) : q := h hp
theorem Xg {p q : Prop} (h : p → q := by
 repeat1' (apply cmp; (focus (first
  | ((with_reducible apply fE); decide +kernel)
  | ((refine useA ?_); (first
   | ((with_reducible apply DP); rfl; rfl; (with_reducible exact ElC.h); exact C0; (iterate 4 rfl); exact A6; exact A6)
   | ((with_reducible apply gW); rfl; rfl; (with_reducible exact ElC.h); exact C0; (iterate 4 rfl); exact A6; exact A6)
   | exact ae
   | ((with_reducible apply Yo); rfl; rfl; (with_reducible exact ElC.h); exact Cm; exact fun _ => rfl; rfl; exact A6)
   | ((with_reducible apply cG); rfl; rfl; (with_reducible exact ElC.h); rfl; exact Cm; rfl; exact fun _ => rfl; exact A6)
   | ((with_reducible apply fy); (iterate 3 rfl); (with_reducible exact ElC.h); exact C0; exact fun _ => rfl; omega; exact A6; rfl)
   ))
  | ((refine useH ?_); (first
   | (first
    | ((with_reducible apply Iq); exact mixed; rfl; (focus ((repeat ((with_reducible apply Hd.cons); rfl)); exact Hd.nil)); (focus ((repeat (with_reducible apply Al)); exact len_nil)); decide +kernel)
    | ((with_reducible apply QV); decide +kernel; (focus ((repeat (with_reducible apply App.cons)); exact App.nil)))
    | ((with_reducible apply Hh); rfl; decide +kernel; exact Fq; rfl)
    | ((with_reducible apply aU); (iterate 5 rfl); decide +kernel; exact Fq; rfl)
    | ((with_reducible apply aA); (iterate 5 rfl); decide +kernel; rfl)
    | ((with_reducible apply jh_gu); (iterate 4 rfl); decide +kernel; rfl)
    | ((with_reducible apply Nz); (iterate 4 rfl); decide +kernel)
    | with_reducible apply Qc
    | with_reducible apply QI
    | ((with_reducible apply ay); decide +kernel; decide +kernel)
    | with_reducible exact Vp
    | ((with_reducible apply Yk); decide +kernel)
    | ((with_reducible apply Vg); rfl)
    | with_reducible apply UW
    )
   ))
  | (first
    | (first
     | with_reducible exact QN
     | ((with_reducible apply jp); exact Fq; rfl)
     | ((with_reducible apply jgt); (iterate 4 rfl); rfl)
     | ((with_reducible apply jgf); (iterate 4 rfl); rfl)
     | ((with_reducible apply jgu); (iterate 3 rfl); rfl)
     | ((with_reducible apply jqu); (iterate 3 rfl); rfl)
     | with_reducible exact En
     | with_reducible exact gC
     | with_reducible exact cO
     )
    | (first
     | with_reducible exact Z8
     | with_reducible exact W7
     | with_reducible exact gG
     | with_reducible exact dU
     | ((with_reducible apply bq_exit'); (focus decide))
     | with_reducible exact YT
     | ((with_reducible apply jpan); rfl)
     | with_reducible exact Pt
     | with_reducible exact Rb
     )
    | (first
     | ((with_reducible apply OY); exact mixed; rfl; (focus ((repeat (with_reducible apply Al)); exact len_nil)); decide +kernel)
     )
    | (first
     | ((with_reducible apply (CH 0)); exact mixed; rfl; (focus ((repeat (with_reducible apply Al)); exact len_nil)); decide +kernel; (focus ((repeat (with_reducible apply Mix.cons)); exact Mix.nil)))
     | ((with_reducible apply (CH 1)); exact mixed; rfl; (focus ((repeat (with_reducible apply Al)); exact len_nil)); decide +kernel; (focus ((repeat (with_reducible apply Mix.cons)); exact Mix.nil)))
     | ((with_reducible apply (CH 2)); exact mixed; rfl; (focus ((repeat (with_reducible apply Al)); exact len_nil)); decide +kernel; (focus ((repeat (with_reducible apply Mix.cons)); exact Mix.nil)))
     | ((with_reducible apply (CH 3)); exact mixed; rfl; (focus ((repeat (with_reducible apply Al)); exact len_nil)); decide +kernel; (focus ((repeat (with_reducible apply Mix.cons)); exact Mix.nil)))
     | ((with_reducible apply (CH 4)); exact mixed; rfl; (focus ((repeat (with_reducible apply Al)); exact len_nil)); decide +kernel; (focus ((repeat (with_reducible apply Mix.cons)); exact Mix.nil)))
     | ((with_reducible apply (CH 5)); exact mixed; rfl; (focus ((repeat (with_reducible apply Al)); exact len_nil)); decide +kernel; (focus ((repeat (with_reducible apply Mix.cons)); exact Mix.nil)))
     | ((with_reducible apply (CH 6)); exact mixed; rfl; (focus ((repeat (with_reducible apply Al)); exact len_nil)); decide +kernel; (focus ((repeat (with_reducible apply Mix.cons)); exact Mix.nil)))
     | ((with_reducible apply (CH 7)); exact mixed; rfl; (focus ((repeat (with_reducible apply Al)); exact len_nil)); decide +kernel; (focus ((repeat (with_reducible apply Mix.cons)); exact Mix.nil)))
     | ((with_reducible apply (CH 8)); exact mixed; rfl; (focus ((repeat (with_reducible apply Al)); exact len_nil)); decide +kernel; (focus ((repeat (with_reducible apply Mix.cons)); exact Mix.nil)))
     )
    | (first
     | with_reducible exact Vu
     | ((with_reducible apply Og); exact mixed; (focus ((repeat (with_reducible apply Al)); exact len_nil)); decide +kernel)
     | ((with_reducible apply (J_region_tailT 2)); exact mixed; (focus ((repeat (with_reducible apply Al)); exact len_nil)); decide +kernel)
     | ((with_reducible apply (J_region_tailT 3)); exact mixed; (focus ((repeat (with_reducible apply Al)); exact len_nil)); decide +kernel)
     | ((with_reducible apply (J_region_tailT 4)); exact mixed; (focus ((repeat (with_reducible apply Al)); exact len_nil)); decide +kernel)
     | ((with_reducible apply (J_region_tailT 5)); exact mixed; (focus ((repeat (with_reducible apply Al)); exact len_nil)); decide +kernel)
     | ((with_reducible apply (J_region_tailT 6)); exact mixed; (focus ((repeat (with_reducible apply Al)); exact len_nil)); decide +kernel)
     | ((with_reducible apply (J_region_tailT 7)); exact mixed; (focus ((repeat (with_reducible apply Al)); exact len_nil)); decide +kernel)
     | ((with_reducible apply J_region_draw); exact mixed; decide +kernel; (focus ((repeat (with_reducible apply Al)); exact len_nil)))
     | with_reducible exact eV
     | ((with_reducible apply jqp); exact Fq; rfl)
     | ((with_reducible apply jqt); (iterate 4 rfl); rfl)
     | ((with_reducible apply jqf); (iterate 4 rfl); rfl)
     | (first
      | ((with_reducible apply jbuild_byte); rfl; rfl; (with_reducible exact ElC.h); rfl; rfl)
      | ((with_reducible apply UZ); rfl; rfl; (with_reducible exact ElC.h); rfl; rfl)
      | ((with_reducible apply Sw); rfl; rfl; (with_reducible exact ElC.h); rfl; rfl)
      | ((with_reducible apply Rw); rfl; rfl; (with_reducible exact ElC.h); rfl; rfl)
      | ((with_reducible apply Jy); rfl; rfl; (with_reducible exact ElC.h); (iterate 4 rfl); rfl)
      | ((with_reducible apply UG); rfl; rfl; (with_reducible exact ElC.h); rfl; rfl))
     | ((with_reducible apply japp); (iterate 3 rfl); (with_reducible exact ElC.h); (iterate 3 rfl); exact A6; exact A6)
     )
    | (first
     | ((with_reducible apply Xw); (iterate 3 rfl); (with_reducible exact ElC.h); (iterate 3 rfl); exact fun _ => rfl; exact A6; exact A6)
     | with_reducible exact fN
     | with_reducible exact iT
     | with_reducible exact gF
     | ((with_reducible apply h9); rfl)
     | with_reducible exact cM
     | with_reducible exact a7
     | with_reducible exact da
     | with_reducible exact fV
     )
    | (first
     | with_reducible exact Xv
     )
    | (first
     | ((with_reducible apply je_q); rfl; decide +kernel; exact Fq; rfl)
     | ((with_reducible apply je_qy); (iterate 5 rfl); decide +kernel; exact Fq; rfl)
     | ((with_reducible apply je_gt); (iterate 5 rfl); decide +kernel; rfl)
     | ((with_reducible apply je_gf); (iterate 5 rfl); decide +kernel; rfl)
     | ((with_reducible apply je_gu); (iterate 4 rfl); decide +kernel; rfl)
     | ((with_reducible apply b7); decide +kernel)
     | ((with_reducible apply dE); (focus ((repeat (with_reducible apply Rv.cons)); exact Rv.nil)))
     | ((with_reducible apply dk); decide +kernel)
     )
    | (first
     | ((with_reducible apply Hl); exact mixed; rfl; (focus ((repeat (with_reducible apply Al)); exact len_nil)); decide +kernel)
     | ((with_reducible apply Zp); decide +kernel)
     | ((with_reducible apply R7); rfl; decide +kernel; rfl; rfl)
     | ((with_reducible apply UN); rfl; decide +kernel; rfl; rfl)
     | ((with_reducible apply Tn); rfl; decide +kernel; rfl; rfl; rfl)
     | with_reducible apply S7
     | ((with_reducible apply cp); decide +kernel; rfl)
     | with_reducible exact bZ
     | ((with_reducible apply gO); decide +kernel)
     | ((with_reducible apply bC); rfl)
     | with_reducible apply jxp_nil
     | with_reducible apply gU
     )
    ))))
 exact fun h => h) : p → q := h
theorem stp {p q : Prop} (hp : p) (h : p → q := by exact Xg) : q := h hp
theorem AP {p q : Prop} (hp : p) (h : p → q := by haveI fA_ : KS := ⟨⟩; exact Xg) : q := h hp
theorem AF {p q : Prop} (hp : p) (h : p → q := by haveI fA_ : KS := ⟨⟩; haveI fH_ : Ld := ⟨⟩; exact Xg) : q := h hp
theorem XW {p q : Prop} (hp : p) (h : p → q := by haveI fA_ : KS := ⟨⟩; haveI fH_ : Ld := ⟨⟩; haveI fS_ : Jw 1 := ⟨⟩; exact Xg) : q := h hp
theorem Cb {p q : Prop} (hp : p) (h : p → q := by haveI fA_ : KS := ⟨⟩; haveI fH_ : Ld := ⟨⟩; haveI fS_ : Jw 2 := ⟨⟩; exact Xg) : q := h hp
theorem fz {p q : Prop} (hp : p) (h : p → q := by haveI fA_ : KS := ⟨⟩; haveI fS_ : Jw 2 := ⟨⟩; exact Xg) : q := h hp
theorem BF {p : Prop} (h : p := by (repeat (first | with_reducible exact Take.nil | ((with_reducible apply Take.cons); (focus ((repeat (first | with_reducible exact Sel.here | with_reducible apply Sel.there)); done))))); first | done | fail) : p := h
theorem EI {p : Prop} (h : p := by intro v_; (repeat (first | exact App.nil | apply App.cons)); first | done | fail) : p := h
open Go Go.Av Go.Sp
theorem DW : Cal Tryz.prog 192 := Cal.of Tryz.func192 (by kernel_rfl) (by kernel_rfl)
theorem FX : Cal Tryz.prog 176 := Cal.of Tryz.func176 (by kernel_rfl) (by kernel_rfl)
theorem Fa : Cal Tryz.prog 163 := Cal.of Tryz.func163 (by kernel_rfl) (by kernel_rfl)
theorem jA : True := ⟨⟩
theorem Hn (G : List (Nat × List D)) (x : Int) : ACr Tryz.prog G 192 [.int x] (.tup [.int (partsOf x).1, .int (partsOf x).2]) := by
 refine Cz (ts := [2, 3]) 26 Tryz.func192 rfl rfl rfl (by simp) fun W I => ?_
 repeat' (first | exact jA | refine stp ?_ | refine two ?_ ?_ | refine imp fun hc => ?_; try exact cx hc | refine all fun v_ => ?_)
 all_goals ((with_reducible apply rq2); rfl; rfl; rfl)
 all_goals (refine AA ?_; simp [partsOf, *])
theorem XH (x : Int) (h1 : ¬ x < 1) (h2 : ¬ 18 < x) : Jr[x.toNat]? = some (.i .i64 (partsOf x).1) ∧ (partsOf x).2 = 0 := by
 have : x = 1 ∨ x = 2 ∨ x = 3 ∨ x = 4 ∨ x = 5 ∨ x = 6 ∨ x = 7 ∨ x = 8 ∨ x = 9 ∨ x = 10 ∨ x = 11 ∨ x = 12 ∨ x = 13 ∨ x = 14 ∨ x = 15 ∨ x = 16 ∨ x = 17 ∨ x = 18 := by omega
 rcases this with h | h | h | h | h | h | h | h | h | h | h | h | h | h | h | h | h | h <;> subst h <;> exact ⟨rfl, rfl⟩
theorem Ph (x : Int) : ACr Tryz.prog GP 176 [.int x] (.tup [.int (partsOf x).1, .int (partsOf x).2]) := by
 refine Cz (ts := [2, 3]) 13 Tryz.func176 rfl rfl rfl (by simp) fun W I => ?_
 repeat' (first | exact jA | refine stp ?_ | refine two ?_ ?_ | refine imp fun hc => ?_; try exact cx hc | refine all fun v_ => ?_)
 · ((with_reducible apply rq2); rfl; rfl; rfl)
   refine AA ?_
   rw [C4 x jB]
 · ((with_reducible apply rq2); rfl; rfl; rfl)
   refine AA ?_
   rw [C4 x jB]
 · obtain ⟨h1, h2⟩ := XH x jB jB
   refine jp (Qz (c := .i .i64 (partsOf x).1) rfl rfl (by rw [List.getElem?_drop, Nat.mul_one]; exact h1)) rfl ?_
   repeat' (first | exact jA | refine stp ?_ | refine two ?_ ?_ | refine imp fun hc => ?_; try exact cx hc | refine all fun v_ => ?_)
   ((with_reducible apply rq2); rfl; rfl; rfl)
   refine AA ?_
   rw [h2]; rfl
theorem AM (l : List Fo) (a : Int) (G : List (Nat × List D)) (h0 : 0 ≤ a) (ha : a ≤ 140737488355328) : ACr Tryz.prog G 163 [.d (AO l), .int a] (.tup [.int (Sp.AM l a).1, .int (Sp.AM l a).2]) := by
 refine Cz (ts := [4, 5]) 37 Tryz.func163 rfl rfl rfl (by simp) fun W I => ?_
 refine Bn (t := 0) rfl fun hl => ?_
 repeat' (first | refine ca DW (Hn _ _) ?_ | exact jA | refine stp ?_ | refine two ?_ ?_ | refine imp fun hc => ?_; try exact cx hc | refine all fun v_ => ?_)
 refine Dn (X := Nat × Int) (fun p => [(0, .d (AO l)), (6, .int p.2), (7, .int p.1)]) (fun _ => []) (fun p => a ≤ p.1 ∧ (p.1 ≤ l.length ∨ p.1 = a) ∧ 0 < p.2 ∧ p.2 ≤ 1 + (p.1 : Int) + (p.1 : Int) ∧ Sp.AM l a = scan (l.drop p.1) p.2 p.1) (fun p => l.length - p.1) (a.toNat, 1) ?_ ?_ rfl ?_
 · refine ⟨by omega, by omega, by omega, by omega, ?_⟩
   simp only [Sp.AM]; rw [Int.toNat_of_nonneg h0]
 · exact leD
 rintro ⟨i, w⟩ ⟨h1, h2, h3, h4, h5⟩
 dsimp only at h1 h2 h3 h4 h5 ⊢
 by_cases hi : i < l.length
 · have hd : l.drop i = l[i] :: l.drop (i + 1) := ja hi
   have hp := Bz l[i].kind
   rw [hd, Cq] at h5
   repeat' (first | refine ca DW (Hn _ _) ?_ | exact jA | refine stp ?_ | refine two ?_ ?_ | refine imp fun hc => ?_; try exact cx hc | refine all fun v_ => ?_)
   · ((with_reducible apply rq2); rfl; rfl; rfl)
     refine AA ?_
     rw [h5, if_pos hc]
   · ((with_reducible apply rq2); rfl; rfl; rfl)
     refine AA ?_
     rw [h5, if_neg (by assumption), if_pos hc]
   · refine ⟨(i + 1, w + (partsOf l[i].kind).1 - 1), ⟨by omega, by omega, jC, jC, ?_⟩, jC, ?_, rfl⟩
     · rw [h5, if_neg (by assumption), if_neg hc]; rfl
     · exact leD
 · repeat' (first | refine ca DW (Hn _ _) ?_ | exact jA | refine stp ?_ | refine two ?_ ?_ | refine imp fun hc => ?_; try exact cx hc | refine all fun v_ => ?_)
   ((with_reducible apply rq2); rfl; rfl; rfl)
   refine AA ?_
   rw [h5, List.drop_eq_nil_of_le jB]; rfl
theorem Rj : Cal Tryz.prog 138 := Cal.of Tryz.func138 (by kernel_rfl) (by kernel_rfl)
theorem PW : Cal Tryz.prog 137 := Cal.of Tryz.func137 (by kernel_rfl) (by kernel_rfl)
theorem A1 : Cal Tryz.prog 84 := Cal.of Tryz.func84 (by kernel_rfl) (by kernel_rfl)
theorem Ul (p q : Addr) (w : World) :
 CallsD Tryz.prog 137 #[.pointer (some p), .pointer (some q)] .returning w fun e u' w' => e = .returned (.tuple #[]) ∧ u' = .returning ∧ w' = w := by
 refine callsD_of_wpS Tryz.func137 rfl fun c₀ cs hu => ?_
 apply wpS_seq
 apply wpS_region
 simp [wpOpsS, go_sem, recoverD, hu, Tryz.ntmps137, Exit.thenS]
 apply wpS_seq
 apply wpS_region
 simp [wpOpsS, go_sem, Exit.thenS]
 refine wpS_cond (t := false) (by simp [Act.eval, Array.replicate]) ?_
 simp only [Bool.false_eq_true, if_false]
 refine wpS_of_wp (wp_skip ?_)
 cases c₀
 simp_all [bodyPostS, results, Tryz.results137]
theorem Wb (b c : Nat) (hbc : b ≠ c) (x y : Value) (n : Int) (w : World) (hb : w.heap[b]? = some (.cells #[x] 49 (0, 0))) (hc : w.heap[c]? = some (.cells #[y] 34 (0, 0))) :
 CallsD Tryz.prog 137 #[.pointer (some ⟨b, 0, none⟩), .pointer (some ⟨c, 0, none⟩)] (.panicking [{ v := .iface 34 (.int .i64 n), recovered := false }]) w fun e u' w' =>
  e = .returned (.tuple #[]) ∧ u' = .panicking [{ v := .iface 34 (.int .i64 n), recovered := true }] ∧ w' = ((w.setCell ⟨b, 0, none⟩ (.slice none 0 0)).setCell ⟨c, 0, none⟩ (.int .i64 n)).drew := by
 refine callsD_of_wpS Tryz.func137 rfl fun c₀ cs hu => ?_
 apply wpS_seq
 apply wpS_region
 simp [wpOpsS, go_sem, recoverD, hu, Tryz.ntmps137, Exit.thenS]
 apply wpS_seq
 apply wpS_region
 simp [wpOpsS, go_sem, Exit.thenS]
 refine wpS_cond (t := true) (by simp [Act.eval, Array.replicate]) ?_
 simp only [if_true]
 refine wpS_of_wp ?_
 have hcb : w.cell? ⟨b, 0, none⟩ = some x := by rw [cell_of_row w b 0 _ _ _ hb]; rfl
 have hcc : w.cell? ⟨c, 0, none⟩ = some y := by rw [cell_of_row w c 0 _ _ _ hc]; rfl
 have fb : w.frozen? ⟨b, 0, none⟩ = false := by simp [World.frozen?, hb]
 have fc : w.frozen? ⟨c, 0, none⟩ = false := by simp [World.frozen?, hc]
 have hta : ∀ w : World, (Instr.typeAssert (.iface 34 (.int .i64 n)) 20 34 false).run Tryz.prog w = .ok (.int .i64 n) w := fun w => by
  simp [Instr.typeAssert, run_underlying Tryz.underlying34]
 go_region
 all_goals
  cases c₀
  simp_all [bodyPostS, results, Tryz.results137]
theorem Of (p q : Addr) (h : H) : CD Tryz.prog 137 #[.pointer (some p), .pointer (some q)] .returning h h .returning :=
 fun _ _ w hok => (Ul p q w).mono fun _ _ _ ⟨h1, h2, h3⟩ => ⟨h1, h2, h3 ▸ hok, fun _ _ => by rw [h3]⟩
theorem Qh (b c : Nat) (x y : AV) (n : Int) : CD Tryz.prog 137 #[.pointer (some ⟨b, 0, none⟩), .pointer (some ⟨c, 0, none⟩)] (.panicking [{ v := .iface 34 (.int .i64 n), recovered := false }])
 [.cells c 34 [y], .cells b 49 [x]] [.cells c 34 [.int n], .cells b 49 [.val (.slice none 0 0)]] (.panicking [{ v := .iface 34 (.int .i64 n), recovered := true }]) := by
 intro cx I w hok
 obtain ⟨u1, d1⟩ := Ent.cells_one (hok.ent (.cells b 49 [x]) (by simp))
 obtain ⟨u2, d2⟩ := Ent.cells_one (hok.ent (.cells c 34 [y]) (by simp))
 have hbc : b ≠ c := by
  have := hok.nd
  simp [blks, Ent.blk] at this
  exact fun e => this e.symm
 refine (Wb b c hbc u1 u2 n w d1 d2).mono ?_
 rintro e u' w' ⟨h1, h2, rfl⟩
 obtain ⟨k1, k2⟩ := Ok.set1 (h1 := [.cells c 34 [y]]) (h2 := []) (v := .slice none 0 0) hok
 obtain ⟨k3, k4⟩ := Ok.set1 (h1 := []) (v := .int .i64 n) k1
 exact ⟨h1, h2, k3.same (Dq.drewN 1), fun z hz => (k4 z hz).trans (k2 z hz)⟩
def Z6 (l : List Fo) (b b' i : Nat) (es : List Int) (e : AE) (h : H) : Prop :=
 ∃ es' : List Int, es'.length = l.length ∧ h = [.cells b 197 [.d (AO l), .val (.slice (some ⟨b', 0, none⟩) l.length l.length)], .cells b' 3 (es'.map AV.int)] ∧
  ((∃ n : Nat, e = .ret (.int n) ∧ Sp.AM l i = ((n : Int), 0) ∧ (∀ j, i ≤ j → j < n → (Sp.AM l j).2 = 0 ∧ es'[j]? = some (Sp.AM l j).1) ∧ ∀ j, (j < i ∨ n ≤ j) → es'[j]? = es[j]?) ∨
   ((Sp.AM l i).2 ≠ 0 ∧ e = .pan [{ v := .iface 34 (.int .i64 (Sp.AM l i).2), recovered := false }]))
theorem skip (l : List Fo) (b b' : Nat) (hl : l.length ≤ 60) : ∀ (m i : Nat) (es : List Int), l.length ≤ i + m → es.length = l.length →
 AC Tryz.prog GP 138 [.val (.pointer (some ⟨b, 0, none⟩)), .int i] [.cells b 197 [.d (AO l), .val (.slice (some ⟨b', 0, none⟩) l.length l.length)], .cells b' 3 (es.map AV.int)] (Z6 l b b' i es) := by
 have done : ∀ (i : Nat) (es : List Int), es.length = l.length → (l.length : Int) ≤ i → Z6 l b b' i es (.pan [{ v := .iface 34 (.int .i64 4), recovered := false }]) [.cells b 197 [.d (AO l), .val (.slice (some ⟨b', 0, none⟩) l.length l.length)], .cells b' 3 (es.map AV.int)] := fun i es hes hi =>
  ⟨es, hes, rfl, .inr ⟨by rw [KB l i jB]; decide, by rw [KB l i jB]⟩⟩
 intro m
 induction m with
 | zero =>
   intro i es hm hes
   refine Cz (ts := [4]) 49 Tryz.func138 rfl rfl rfl (by simp) fun W I => ?_
   repeat' (first | refine ca FX (Ph _) ?_ | exact jA | refine stp ?_ | refine two ?_ ?_ | refine imp fun hc => ?_; try exact cx hc | refine all fun v_ => ?_)
   exact done i es hes (by assumption)
 | succ m ih =>
   intro i es hm hes
   refine Cz (ts := [4]) 49 Tryz.func138 rfl rfl rfl (by simp) fun W I => ?_
   repeat' (first | refine ca FX (Ph _) ?_ | exact jA | refine stp ?_ | refine two ?_ ?_ | refine imp fun hc => ?_; try exact cx hc | refine all fun v_ => ?_)
   · exact done i es hes (by assumption)
   · have he := F3 l i jB
     rw [if_pos hc] at he
     exact ⟨es, hes, rfl, .inr ⟨by rw [he]; exact hc, by rw [he]⟩⟩
   have hi : i < l.length := by omega
   have he := F3 l i hi
   have hp := Bz l[i].kind
   rw [if_neg hc] at he
   generalize hn : (partsOf l[i].kind).1 = n at he hp ⊢
   refine Dn (X := Nat × Nat × List Int) (fun y => [(0, .val (.pointer (some ⟨b, 0, none⟩))), (1, .int i), (34, .int n), (35, .int y.1), (7, .int y.2.1)])
    (fun y => [.cells b 197 [.d (AO l), .val (.slice (some ⟨b', 0, none⟩) l.length l.length)], .cells b' 3 (y.2.2.map AV.int)])
    (fun y => (y.1 : Int) ≤ n ∧ i < y.2.1 ∧ y.2.1 ≤ l.length ∧ y.2.2.length = l.length ∧ Sp.AM l i = (if n - y.1 = 0 then ((y.2.1 : Int), 0) else scan (l.drop y.2.1) (n - y.1) y.2.1) ∧
     (∀ j, i < j → j < y.2.1 → (Sp.AM l j).2 = 0 ∧ y.2.2[j]? = some (Sp.AM l j).1) ∧ ∀ j, (j ≤ i ∨ y.2.1 ≤ j) → y.2.2[j]? = es[j]?)
    (fun y => n.toNat - y.1) (0, i + 1, es) ?_ ?_ rfl ?_
   · refine ⟨by omega, jC, jC, hes, ?_, fun j h1 h2 => by dsimp only at h2; omega, fun _ _ => rfl⟩
     rw [he]
     have : (1 : Int) + n - 1 = n - ((0 : Nat) : Int) := by omega
     dsimp only
     rw [this]
     rfl
   · exact leD
   rintro ⟨j, e, fs⟩ ⟨h1, h2, h3, h4, h5, h6, h7⟩
   dsimp only at h1 h2 h3 h4 h5 h6 h7 ⊢
   repeat' (first | refine ca FX (Ph _) ?_ | exact jA | refine stp ?_ | refine two ?_ ?_ | refine imp fun hc => ?_; try exact cx hc | refine all fun v_ => ?_)
   · refine iI rfl Rj (ih e fs jB h4) rfl (fun r h' hq => ?_) (fun ch h' hq => ?_)
     · obtain ⟨es', k1, rfl, ⟨n', k2, k3, k4, k5⟩ | ⟨_, k2⟩⟩ := hq
       · cases k2
         repeat' (first | refine ca FX (Ph _) ?_ | exact jA | refine stp ?_ | refine two ?_ ?_ | refine imp fun hc => ?_; try exact cx hc | refine all fun v_ => ?_)
         have hb := Ak l e (by rw [k3])
         rw [k3] at hb
         refine ⟨(j + 1, n', es'), ⟨by dsimp only; omega, by dsimp only at hb ⊢; omega, by dsimp only at hb ⊢; omega, k1, ?_, ?_, ?_⟩, jC, ?_, rfl⟩
         · rw [h5, if_neg jB]
           dsimp only
           by_cases hlast : n - ((j + 1 : Nat) : Int) = 0
           · rw [if_pos hlast]
             have : n - (j : Int) = 1 := by omega
             rw [this]
             have := k3
             unfold Sp.AM at this
             rwa [Int.toNat_natCast] at this
           · rw [if_neg hlast]
             have : n - (j : Int) = (n - ((j + 1 : Nat) : Int)) + 1 := by omega
             rw [this, HS l e _ jB, k3]
             rfl
         · intro p hp1 hp2
           dsimp only at hp2 ⊢
           by_cases hpe : e ≤ p
           · exact k4 p hpe hp2
           · rw [k5 p (.inl jB)]
             exact h6 p hp1 jB
         · intro p hp1
           dsimp only at hp1 ⊢
           dsimp only at hb
           rw [k5 p jB]
           exact h7 p jB
         · exact leD
       · cases k2
     · obtain ⟨es', k1, rfl, ⟨n', k2, k3, k4⟩ | ⟨k3, k2⟩⟩ := hq
       · cases k2
       · cases k2
         repeat' (refine stp ?_)
         refine ⟨es', k1, rfl, .inr ?_⟩
         have : (Sp.AM l i).2 = (Sp.AM l e).2 := by
          rw [h5, if_neg jB]
          by_cases hlast : n - (j : Int) = 1
          · rw [hlast]; unfold Sp.AM; rw [Int.toNat_natCast]
          · have h : n - (j : Int) = (n - ((j + 1 : Nat) : Int)) + 1 := by omega
            rw [h, HS l e _ jB, if_pos k3]
         rw [this]
         exact ⟨k3, rfl⟩
   · repeat' (first | refine ca FX (Ph _) ?_ | exact jA | refine stp ?_ | refine two ?_ ?_ | refine imp fun hc => ?_; try exact cx hc | refine all fun v_ => ?_)
     refine e9 (h1 := [_]) rfl rfl Qx rfl jB ?_
     simp only [List.cons_append, List.nil_append, Int.toNat_natCast, Nat.mul_one]
     repeat' (first | refine ca FX (Ph _) ?_ | exact jA | refine stp ?_ | refine two ?_ ?_ | refine imp fun hc => ?_; try exact cx hc | refine all fun v_ => ?_)
     ((with_reducible apply rq1); rfl; rfl)
     have hz : n - (j : Int) = 0 := by omega
     rw [if_pos hz] at h5
     refine ⟨fs.set i e, by simpa using h4, rfl, .inl ⟨e, rfl, h5, fun p hp1 hp2 => ?_, fun p hp1 => ?_⟩⟩
     · by_cases hpi : p = i
       · subst hpi
         rw [h5]
         exact ⟨rfl, by rw [List.getElem?_set_self jB]⟩
       · rw [List.getElem?_set_ne jB]
         exact h6 p jB hp2
     · rw [List.getElem?_set_ne jB]
       exact h7 p jB
theorem Ends (l : List Fo) : ACr Tryz.prog GP 84 [.d (AO l)] (.tup [.d (AJ (Af l).1), .int (Af l).2]) := by
 refine Ys 25 Tryz.func84 rfl rfl (by simp) fun W I => ?_
 apply FT
 repeat' (first | exact jA | refine stp ?_ | refine two ?_ ?_ | refine imp fun hc => ?_; try exact cx hc | refine all fun v_ => ?_)
 refine QT MG rfl rfl fun b2 => ?_
 refine QT Kz rfl rfl fun b3 => ?_
 repeat' (first | exact jA | refine stp ?_ | refine two ?_ ?_ | refine imp fun hc => ?_; try exact cx hc | refine all fun v_ => ?_)
 apply CP
 apply FT
 repeat' (first | exact jA | refine stp ?_ | refine two ?_ ?_ | refine imp fun hc => ?_; try exact cx hc | refine all fun v_ => ?_)
 · refine QD (h1 := [_]) rfl rfl rfl MG rfl ?_
   simp only [List.cons_append, List.nil_append]
   refine QD (h1 := []) rfl rfl rfl Kz rfl ?_
   simp only [List.nil_append]
   repeat' (first | exact jA | refine stp ?_ | refine two ?_ ?_ | refine imp fun hc => ?_; try exact cx hc | refine all fun v_ => ?_)
   apply QJ
   refine Ee rfl (by unfold BR; kernel_rfl) (by unfold BR; kernel_rfl) rfl rfl (List.mem_cons_of_mem _ List.mem_cons_self) List.mem_cons_self rfl (jc _) (AV.le_nil 1 8) (AV.le_refl _) ?_
   refine AA ?_
   rw [Af, if_pos jB]; rfl
 apply CP
 dsimp only
 refine UL (Sq (vs := [.pointer (some ⟨b2, 0, none⟩), .pointer (some ⟨b3, 0, none⟩)]) rfl rfl ?_)
 apply CP
 dsimp only
 apply FT
 repeat' (first | exact jA | refine stp ?_ | refine two ?_ ?_ | refine imp fun hc => ?_; try exact cx hc | refine all fun v_ => ?_)
 refine WW rfl rfl Qx jB jB rfl fun b' => ?_
 repeat' (first | exact jA | refine stp ?_ | refine two ?_ ?_ | refine imp fun hc => ?_; try exact cx hc | refine all fun v_ => ?_)
 refine iJ rfl rfl rfl fun b => ?_
 repeat' (first | exact jA | refine stp ?_ | refine two ?_ ?_ | refine imp fun hc => ?_; try exact cx hc | refine all fun v_ => ?_)
 apply CP
 dsimp only
 apply FT
 repeat' (first | exact jA | refine stp ?_ | refine two ?_ ?_ | refine imp fun hc => ?_; try exact cx hc | refine all fun v_ => ?_)
 have hk : AC Tryz.prog GP 138 [.val (.pointer (some ⟨b, 0, none⟩)), .int 0] [.cells b 197 [.d (AO l), .val (.slice (some ⟨b', 0, none⟩) l.length l.length)], .cells b' 3 ((List.replicate l.length 0).map AV.int)] (Z6 l b b' 0 (List.replicate l.length 0)) :=
  skip l b b' jB l.length 0 (List.replicate l.length 0) jB (by simp)
 have pan : ∀ (n : Int) (ρ : Env) (es : List Int), n = (Af l).2 → (Af l).1 = [] →
  LQ ⟨Tryz.prog, ⟨W, I, [], GP⟩, 25, [{ target := .fn (.func 137) #[.pointer (some ⟨b2, 0, none⟩), .pointer (some ⟨b3, 0, none⟩)], args := #[] }]⟩ Tryz.f84
   (Mn GP W I [] fun e h => e = .ret (.tup [.d (AJ (Af l).1), .int (Af l).2]) ∧ h = []) (some (.panicking [{ v := .iface 34 (.int .i64 n), recovered := false }]))
   ((2, .val (.pointer (some ⟨b2, 0, none⟩))) :: (3, .val (.pointer (some ⟨b3, 0, none⟩))) :: ρ)
   [.cells b 197 [.d (AO l), .val (.slice (some ⟨b', 0, none⟩) l.length l.length)], .cells b' 3 (es.map AV.int), .cells b3 34 [.val (.int .i64 0)], .cells b2 49 [.val (.slice none 0 0)]]
   [{ target := .fn (.func 137) #[.pointer (some ⟨b2, 0, none⟩), .pointer (some ⟨b3, 0, none⟩)], args := #[] }] := by
  intro n ρ es h1 h2
  refine Vi (VS.drop (h' := [.cells b3 34 [.val (.int .i64 0)], .cells b2 49 [.val (.slice none 0 0)]]) (.cons _ (.cons _ (.refl _)))) ?_
  refine K4 (by simp) PW (Qh b2 b3 _ _ n) (m := .returning) rfl ?_
  refine Ee (h0 := []) (y1 := .d (AJ [])) rfl (by unfold BR; kernel_rfl) (by unfold BR; kernel_rfl) rfl rfl (List.mem_cons_of_mem _ List.mem_cons_self) List.mem_cons_self rfl (jc _) (AV.le_nil 1 8) (AV.le_refl _) ?_
  refine AA ?_
  rw [h1, h2]
 have h60 : ¬ 60 < l.length := by omega
 refine Ny (hc := [_, _]) rfl Rj rfl hk rfl (fun r h' hq => ?_) (fun ch h' hq => ?_)
 · obtain ⟨es', k1, rfl, ⟨n', k2, k3, k4, k5⟩ | ⟨_, k2⟩⟩ := hq
   · cases k2
     have hb := Ak l 0 (by rw [show ((0 : Nat) : Int) = 0 from rfl]; rw [show ((0 : Nat) : Int) = 0 from rfl] at k3; rw [k3])
     rw [show ((0 : Nat) : Int) = 0 from rfl] at k3 hb
     rw [k3] at hb
     simp only [List.cons_append, List.nil_append]
     repeat' (first | exact jA | refine stp ?_ | refine two ?_ ?_ | refine imp fun hc => ?_; try exact cx hc | refine all fun v_ => ?_)
     · apply LJ
       dsimp only at hb
       have h3 : (Af l) = ([], 3) := by rw [Af, if_neg h60, k3, if_neg (by simp), if_pos (by dsimp only; omega)]
       refine Vi (VS.of_le ?_) (pan _ [] es' ?_ ?_)
       · exact leD
       · rw [h3]
       · rw [h3]
     · have hn : n' = l.length := by omega
       have he : es' = (List.range l.length).map fun i : Nat => (Sp.AM l i).1 := by
        apply List.ext_getElem?
        intro j
        by_cases hj : j < l.length
        · rw [(k4 j (Nat.zero_le _) jB).2, List.getElem?_map, List.getElem?_range hj]; rfl
        · rw [List.getElem?_eq_none jB, List.getElem?_eq_none (by simp; omega)]
       have h3 : (Af l) = (es', 0) := by rw [Af, if_neg h60, k3, if_neg (by simp), if_neg (by dsimp only; omega), he]
       apply CP
       dsimp only
       apply YG
       repeat' (first | exact jA | refine stp ?_ | refine two ?_ ?_ | refine imp fun hc => ?_; try exact cx hc | refine all fun v_ => ?_)
       refine GQ (VS.freezeCells (t := 24) (h1 := [_]) (rows := es'.map AS) (sz := 1) (eb := 8) (by decide) rfl rfl (I9 es') (by simp [k1]) (by simp [AS]) jB (by simp only [maxLen]; omega)) ?_
       simp only [List.cons_append, List.nil_append]
       refine QD (h1 := [_, _]) rfl rfl rfl MG rfl ?_
       simp only [List.cons_append, List.nil_append]
       refine QD (h1 := [_]) rfl rfl rfl Kz rfl ?_
       simp only [List.cons_append, List.nil_append]
       repeat' (first | exact jA | refine stp ?_ | refine two ?_ ?_ | refine imp fun hc => ?_; try exact cx hc | refine all fun v_ => ?_)
       refine K4 (by simp) PW (Of _ _ _) (m := .returning) rfl ?_
       refine Ee (h0 := []) rfl (by unfold BR; kernel_rfl) (by unfold BR; kernel_rfl) rfl rfl (List.mem_cons_of_mem _ (List.mem_cons_of_mem _ List.mem_cons_self)) (List.mem_cons_of_mem _ List.mem_cons_self) rfl (jc _) (AV.le_refl _) (AV.le_refl _) ?_
       refine AA ?_
       rw [h3]
   · cases k2
 · obtain ⟨es', k1, rfl, ⟨n', k2, k3, k4⟩ | ⟨k3, k2⟩⟩ := hq
   · cases k2
   · cases k2
     have k3 : (Sp.AM l 0).2 ≠ 0 := k3
     repeat' (refine stp ?_)
     apply LJ
     refine Vi (VS.of_le ?_) (pan _ [] es' ?_ ?_)
     · exact leD
     · rw [Af, if_neg h60, if_pos k3]; rfl
     · rw [Af, if_neg h60, if_pos k3]
theorem AN : Cal Tryz.prog 67 := Cal.of Tryz.func67 (by kernel_rfl) (by kernel_rfl)
theorem Gc : Cal Tryz.prog 27 := Cal.of Tryz.func27 (by kernel_rfl) (by kernel_rfl)
theorem CK : Cal Tryz.prog 40 := Cal.of Tryz.func40 (by kernel_rfl) (by kernel_rfl)
theorem OR : Cal Tryz.prog 39 := Cal.of Tryz.func39 (by kernel_rfl) (by kernel_rfl)
theorem A7 {P : Program} {G : List (Nat × List D)} {f : FuncId} {xs : List AV} {p : Prop} [Decidable p] (h : ACr P G f xs (.bool (decide p))) (hp : p) : ACr P G f xs (.bool true) := by rwa [decide_eq_true hp] at h
theorem Dg {P : Program} {G : List (Nat × List D)} {f : FuncId} {xs : List AV} {p : Prop} [Decidable p] (h : ACr P G f xs (.bool (decide p))) (hp : ¬ p) : ACr P G f xs (.bool false) := by rwa [decide_eq_false hp] at h
theorem In (G : List (Nat × List D)) (x a b : Int) : ACr Tryz.prog G 67 [.int x, .int a, .int b] (.bool (decide (a ≤ x ∧ x ≤ b))) := by
 refine Cz (ts := [6]) 15 Tryz.func67 rfl rfl rfl (by simp) fun W I => ?_
 repeat' (first | exact jA | refine stp ?_ | refine two ?_ ?_ | refine imp fun hc => ?_; try exact cx hc | refine all fun v_ => ?_)
 all_goals
  ((with_reducible apply rq1); rfl; rfl)
  refine AA (congrArg AV.bool ?_)
  (first | rfl | (refine decide_eq_decide.2 ?_; omega) | (refine (decide_eq_true ?_).symm; omega) | (refine (decide_eq_false ?_).symm; omega) | (refine decide_eq_true ?_; omega) | (refine decide_eq_false ?_; omega))
theorem ops (G : List (Nat × List D)) (a : List Fo) (ha : a.length * 16 ≤ 140737488355328) : ACr Tryz.prog G 27 [.d (AO a)] (.d (AO a)) := by
 refine AK (ts := [2]) 5 Tryz.func27 rfl rfl rfl (by simp) fun W I => ?_
 repeat' (first | exact jA | refine stp ?_ | refine two ?_ ?_ | refine imp fun hc => ?_; try exact cx hc | refine all fun v_ => ?_)
 refine A0 ?_
 ((with_reducible apply rq1); rfl; rfl)
 exact AA rfl
theorem Ta (G : List (Nat × List D)) (a : List Fo) : ACr Tryz.prog G 27 [.d (AO a)] (.d (AO a)) := AC.fact fun h => ops G a h
theorem Kc (G : List (Nat × List D)) (a b : List Fo) : ACr Tryz.prog G 40 [.d (AO a), .d (AO b)] (.bool (decide (a = b))) := by
 refine Cz (ts := [4]) 26 Tryz.func40 rfl rfl rfl (by simp) fun W I => ?_
 refine Bn (t := 0) rfl fun hl0 => ?_
 refine Bn (t := 1) rfl fun hl1 => ?_
 repeat' (first | exact jA | refine stp ?_ | refine two ?_ ?_ | refine imp fun hc => ?_; try exact cx hc | refine all fun v_ => ?_)
 · ((with_reducible apply rq1); rfl; rfl)
   refine AA ?_
   rw [decide_eq_false]
   intro e; subst e; omega
 refine Dn (X := Nat) (fun i => [(0, .d (AO a)), (1, .d (AO b)), (5, .int i)]) (fun _ => []) (fun i => i ≤ a.length ∧ a.take i = b.take i) (fun i => a.length - i) 0 ⟨Nat.zero_le _, rfl⟩ ?_ rfl ?_
 · exact leD
 rintro i ⟨h1, h2⟩
 repeat' (first | exact jA | refine stp ?_ | refine two ?_ ?_ | refine imp fun hc => ?_; try exact cx hc | refine all fun v_ => ?_)
 all_goals first
  | (((with_reducible apply rq1); rfl; rfl)
     refine AA ?_
     rw [decide_eq_false]
     intro e; subst e
     simp at hc)
  | (refine ⟨i + 1, ⟨by omega, PM jB jB h2 ?_⟩, by first | omega | (dsimp only; omega), ?_, rfl⟩
     · (simp only [Bool.and_eq_true, beq_iff_eq] at hc; exact Fo.ext' hc.1 hc.2)
     · exact leD)
  | (((with_reducible apply rq1); rfl; rfl)
     refine AA ?_
     rw [decide_eq_true]
     rwa [List.take_of_length_le jB, List.take_of_length_le jB] at h2)
theorem Ck : Cal Tryz.prog 156 := Cal.of Tryz.func156 (by kernel_rfl) (by kernel_rfl)
theorem TE {p q : Prop} (hp : p) (h : p → q := by
 apply cmp; (focus (first
  | ((with_reducible apply GR); rfl; exact Fa; (focus exact AM _ _ _ jB jB); rfl)
  | ((with_reducible apply Cs); rfl; decide +kernel; rfl; exact Fa; (focus exact AM _ _ _ jB jB); rfl)
  ))
 exact fun h => h) : q := h hp
theorem Jt (G : List (Nat × List D)) (l : List Fo) : ACr Tryz.prog G 156 [.d (AO l)] (.tup [.d (AJ (Af l).1), .int (Af l).2]) := by
 refine AK (ts := [2, 3]) 42 Tryz.func156 rfl rfl rfl (by simp) fun W I => ?_
 repeat' (first | refine TE ?_ | exact jA | refine stp ?_ | refine two ?_ ?_ | refine imp fun hc => ?_; try exact cx hc | refine all fun v_ => ?_)
 · refine AI (Cj (t := 2) 1 8 rfl) ?_
   ((with_reducible apply rq2); rfl; rfl; rfl)
   refine AA ?_
   rw [Af, if_pos jB]; rfl
 · refine AI (Cj (t := 2) 1 8 rfl) ?_
   ((with_reducible apply rq2); rfl; rfl; rfl)
   refine AA ?_
   rw [Af, if_neg jB, if_pos (by assumption)]; rfl
 · refine AI (Cj (t := 2) 1 8 rfl) ?_
   ((with_reducible apply rq2); rfl; rfl; rfl)
   refine AA ?_
   rw [Af, if_neg jB, if_neg (by assumption), if_pos (by assumption)]; rfl
 have h60 : ¬ 60 < l.length := by omega
 refine Db (E := 3) (sz := 1) AS ?_
 refine Dn (X := Nat × Value) (fun y => [(0, .d (AO l)), (6, .val y.2), (7, .int y.1)]) (fun y => [AL y.2 3 1 AS ((List.range y.1).map fun i : Nat => (Sp.AM l i).1)]) (fun y => y.1 ≤ l.length) (fun y => l.length - y.1) (0, .slice none 0 0) (Nat.zero_le _) ?_ rfl ?_
 · exact leD
 rintro ⟨i, v⟩ h1
 dsimp only at h1 ⊢
 have hlen : ((List.range i).map fun i : Nat => (Sp.AM l i).1).length = i := by simp
 repeat' (first | refine TE ?_ | exact jA | refine stp ?_ | refine two ?_ ?_ | refine imp fun hc => ?_; try exact cx hc | refine all fun v_ => ?_)
 · refine ⟨(i + 1, v_), jC, jC, ?_, ?_⟩
   · exact leD
   · dsimp only
     rw [List.range_succ, List.map_append]; rfl
 · refine AI (Bq (t := 2) (eb := 8) rfl rfl (fun x => rfl) (by rw [hlen]; omega)) ?_
   ((with_reducible apply rq2); rfl; rfl; rfl)
   refine AA ?_
   have : i = l.length := by omega
   rw [Af, if_neg h60, if_neg (by assumption), if_neg (by assumption), this]
theorem Vn : Cal Tryz.prog 208 := Cal.of Tryz.func208 (by kernel_rfl) (by kernel_rfl)
theorem C2 : Cal Tryz.prog 191 := Cal.of Tryz.func191 (by kernel_rfl) (by kernel_rfl)
theorem XQ (G : List (Nat × List D)) (a b : List (List Fo)) : ACr Tryz.prog G 39 [.d (Ar a), .d (Ar b)] (.bool (decide (a = b))) := by
 refine Cz (ts := [4]) 27 Tryz.func39 rfl rfl rfl (by simp) fun W I => ?_
 refine Bn (t := 0) rfl fun hl0 => ?_
 refine Bn (t := 1) rfl fun hl1 => ?_
 repeat' (first | refine caq CK (Kc _ _ _) ?_ | exact jA | refine stp ?_ | refine two ?_ ?_ | refine imp fun hc => ?_; try exact cx hc | refine all fun v_ => ?_)
 · ((with_reducible apply rq1); rfl; rfl)
   refine AA ?_
   rw [decide_eq_false]
   intro e; subst e; omega
 refine Dn (X := Nat) (fun i => [(0, .d (Ar a)), (1, .d (Ar b)), (5, .int i)]) (fun _ => []) (fun i => i ≤ a.length ∧ a.take i = b.take i) (fun i => a.length - i) 0 ⟨Nat.zero_le _, rfl⟩ ?_ rfl ?_
 · exact leD
 rintro i ⟨h1, h2⟩
 repeat' (first | refine caq CK (Kc _ _ _) ?_ | exact jA | refine stp ?_ | refine two ?_ ?_ | refine imp fun hc => ?_; try exact cx hc | refine all fun v_ => ?_)
 all_goals first
  | (((with_reducible apply rq1); rfl; rfl)
     refine AA ?_
     rw [decide_eq_false]
     intro e; subst e
     exact hc rfl)
  | (refine ⟨i + 1, ⟨by omega, PM jB jB h2 ?_⟩, by first | omega | (dsimp only; omega), ?_, rfl⟩
     · exact hc
     · exact leD)
  | (((with_reducible apply rq1); rfl; rfl)
     refine AA ?_
     rw [decide_eq_true]
     rwa [List.take_of_length_le jB, List.take_of_length_le jB] at h2)
theorem Ops (G : List (Nat × List D)) (l : List Fo) (m n : Int) (h0 : 0 ≤ m) (h1 : m ≤ n) (h2 : n ≤ l.length) : ACr Tryz.prog G 208 [.d (AO l), .int m, .int n] (.d (AO ((l.drop m.toNat).take (n.toNat - m.toNat)))) := by
 obtain ⟨m, rfl⟩ := Int.eq_ofNat_of_zero_le h0
 obtain ⟨n, rfl⟩ := Int.eq_ofNat_of_zero_le (show 0 ≤ n by omega)
 refine AK (ts := [6]) 23 Tryz.func208 rfl rfl rfl (by simp) fun W I => ?_
 refine Bn (t := 0) rfl fun hl => ?_
 repeat' (first | exact jA | refine stp ?_ | refine two ?_ ?_ | refine imp fun hc => ?_; try exact cx hc | refine all fun v_ => ?_)
 refine Db (E := 137) (sz := 2) Fo.cells ?_
 refine Dn (X := Nat × Value) (fun y => [(0, .d (AO l)), (2, .int n), (7, .val y.2), (8, .int y.1)]) (fun y => [AL y.2 137 2 Fo.cells ((l.drop m).take (y.1 - m))]) (fun y => m ≤ y.1 ∧ y.1 ≤ n) (fun y => n - y.1) (m, .slice none 0 0) ⟨Nat.le_refl _, jC⟩ ?_ ?_ ?_
 · exact leD
 · simp
 rintro ⟨i, v⟩ ⟨k1, k2⟩
 dsimp only at k1 k2 ⊢
 repeat' (first | exact jA | refine stp ?_ | refine two ?_ ?_ | refine imp fun hc => ?_; try exact cx hc | refine all fun v_ => ?_)
 · refine ⟨(i + 1, v_), ⟨by dsimp only; omega, jC⟩, jC, ?_, ?_⟩
   · exact leD
   · dsimp only
     rw [bM l m i k1 jB]
 · refine AI (Bq (t := 6) (eb := 16) rfl rfl (fun x => rfl) (by simp only [List.length_take, List.length_drop]; omega)) ?_
   ((with_reducible apply rq1); rfl; rfl)
   refine AA ?_
   have : i = n := by omega
   rw [this]; rfl
theorem Km {p q : Prop} (hp : p) (h : p → q := by
 apply cmp; (focus (first
  | ((with_reducible apply GR); rfl; exact Fa; (focus exact AM _ _ _ jB jB); rfl)
  | ((with_reducible apply Cs); rfl; decide +kernel; rfl; exact Fa; (focus exact AM _ _ _ jB jB); rfl)
  | ((with_reducible apply GR); rfl; exact Vn; (focus exact Ops _ _ _ _ jB jB jB); rfl)
  | ((with_reducible apply Cs); rfl; decide +kernel; rfl; exact Vn; (focus exact Ops _ _ _ _ jB jB jB); rfl)
  ))
 exact fun h => h) : q := h hp
theorem JP (G : List (Nat × List D)) (l : List Fo) : ACr Tryz.prog G 191 [.d (AO l)] (.tup [.d (Ar (BY l).1), .int (BY l).2]) := by
 have hE := Jt G l
 generalize he : Af l = p at hE
 obtain ⟨es, e⟩ := p
 refine AK (ts := [2, 3]) 51 Tryz.func191 rfl rfl rfl (by simp) fun W I => ?_
 by_cases hc : e ≠ 0
 · repeat' (first | refine ca Ck (hE) ?_ | refine ca DW (Hn _ _) ?_ | refine Km ?_ | exact jA | refine stp ?_ | refine two ?_ ?_ | refine imp fun hc => ?_; try exact cx hc | refine all fun v_ => ?_)
   refine AI (Cj (t := 2) 1 24 rfl) ?_
   ((with_reducible apply rq2); rfl; rfl; rfl)
   refine AA ?_
   rw [BY, he, if_pos hc]; rfl
 have e0 : e = 0 := by simpa using hc
 subst e0
 obtain ⟨hl, h0, h1, hlen, hes⟩ := B1 he
 have hs : BY l = (chunks l (partsOf l[0].kind).1.toNat 1, 0) := by rw [BY, he, List.getElem?_eq_getElem h0]; rfl
 have hp := Bz l[0].kind
 repeat' (first | refine ca Ck (hE) ?_ | refine ca DW (Hn _ _) ?_ | refine Km ?_ | exact jA | refine stp ?_ | refine two ?_ ?_ | refine imp fun hc => ?_; try exact cx hc | refine all fun v_ => ?_)
 generalize hn : (partsOf l[0].kind).1.toNat = n at hs
 refine Db (E := 27) (sz := 1) O6 ?_
 refine Dn (X := Nat × Nat × Value × List (List Fo)) (fun y => [(0, .d (AO l)), (6, .val y.2.2.1), (7, .int (partsOf l[0].kind).1), (9, .int y.2.1), (10, .int y.1)]) (fun y => [AL y.2.2.1 27 1 O6 y.2.2.2]) (fun y => Dl l n y.1 y.2.1 y.2.2.2) (fun y => n - y.1) (0, 1, .slice none 0 0, []) (hn ▸ Dl.start h0 h1) ?_ rfl ?_
 · exact leD
 rintro ⟨j, i, v, out⟩ k
 dsimp only at k ⊢
 have klt := k.lt
 have kle := k.len
 have kfew := k.few
 by_cases hj : j < n
 · obtain ⟨q1, q2, q3, q4⟩ := k.next hj
   repeat' (first | refine ca Ck (hE) ?_ | refine ca DW (Hn _ _) ?_ | refine Km ?_ | exact jA | refine stp ?_ | refine two ?_ ?_ | refine imp fun hc => ?_; try exact cx hc | refine all fun v_ => ?_)
   refine ⟨(j + 1, (Sp.AM l i).1.toNat, v_, _), q4, jC, ?_, ?_⟩
   · exact leD
   · simp only [Int.toNat_natCast]
 · repeat' (first | refine ca Ck (hE) ?_ | refine ca DW (Hn _ _) ?_ | refine Km ?_ | exact jA | refine stp ?_ | refine two ?_ ?_ | refine imp fun hc => ?_; try exact cx hc | refine all fun v_ => ?_)
   refine AI (Bq (t := 2) (eb := 24) rfl rfl (fun x => rfl) jB) ?_
   ((with_reducible apply rq2); rfl; rfl; rfl)
   refine AA ?_
   rw [hs, k.done (by have := k.le; omega)]
end Go.Proofs.YtnlfhnbcdfdhgaaGreatDoor
