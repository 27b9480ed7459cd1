/- A bundle of this claim's own texts: T9 E6 G3. -/
import Derived.Laws.IdiomStrings
import Derived.Lib.AppendZerosOnto
import Derived.Lib.SliceRun
import Derived.Test.YtibahljljjkceaaGreatDoorA2
import Derived.Test.YtibahljljjkceaaGreatDoorA3
import Derived.Test.YtibahljljjkceaaGreatDoorA4
set_option linter.unusedVariables false
set_option linter.unusedSimpArgs false
set_option maxRecDepth 100000
set_option maxHeartbeats 4000000
namespace Go.Proofs.YtibahljljjkceaaGreatDoor
open Go Go.Av Go.Sp

theorem FJ {p q : Prop} (hp : p) (h : p → q := by
 apply cmp; (focus (first
  | ((with_reducible apply JW); (focus rfl); (focus exact Vj); (focus exact op _ _ _ _ (by omega) (by omega)); (focus rfl))
  | ((with_reducible apply je_call0); (focus rfl); (focus (decide +kernel)); (focus rfl); (focus exact Vj); (focus exact op _ _ _ _ (by omega) (by omega)); (focus rfl))
  ))
 exact fun h => h) : q := h hp
theorem VI (l : List Fo) (vars : Int) : ACr Tryz.prog GP 150 [.d (AO l), .int vars] (.tup [.bool (CY l vars).1, .int (CY l vars).2]) := by
 have hE := Ends l
 generalize he : Ah l = p at hE
 obtain ⟨es, e⟩ := p
 refine AN (ts := [4, 5]) 100 Tryz.func150 rfl rfl rfl (by simp) fun W I => ?_
 refine Bs (t := 0) rfl fun hl => ?_
 repeat' (first
  | refine ca A3 (hE) ?_
  | refine FJ ?_
  | refine ca Dn (IJ _ _) ?_
  | refine B6 ?_
  | exact True.intro
  | refine stp ?_
  | refine two ?_ ?_
  | (refine imp fun hc => ?_) <;> try exact cx hc
  | refine all fun v_ => ?_)
 all_goals try (
  refine Bi ?_
  ((with_reducible apply rq2); rfl; rfl; rfl)
  refine AA ?_
  unfold CY
  first
   | (rw [if_pos (by omega)])
   | (rw [if_neg (by omega), he, if_pos (by assumption)]))
 have hok0 : ¬ e ≠ 0 := by assumption
 have e0 : e = 0 := by simpa using hok0
 subst e0
 obtain ⟨h60, h0, hend, hlen, hes⟩ := Bp he
 have hs : CY l vars = if Hi l vars ≠ 0 then (false, Hi l vars) else if C2 l then (decide (De (AQ l 0)), 0) else (false, 5) := by
  rw [CY, if_neg (by omega), he, if_neg (by simp)]
 have hv : 0 ≤ vars ∧ vars ≤ 6 := by omega
 have hall : ∀ (i : Nat) (hi : i < l.length), (Sp.AJ l i).2 = 0 := fun i hi =>
  (Dl l l.length 0 1 l.length (by omega) (by omega) (by unfold Sp.AJ at hend; exact hend) i (by omega) (by omega)).1
 dsimp only
 refine AG (X := Nat) (fun i => [(0, .d (AO l)), (1, .int vars), (6, .d (AK es)), (37, .d (AO l)), (38, .int l.length), (39, .int i)]) (fun _ => []) (fun i => i ≤ l.length ∧ Hi l vars = Hi (l.drop i) vars) (fun i => l.length - i) 0 ⟨Nat.zero_le _, rfl⟩ (VS.of_le ?_) ?_
 · exact leD
 rintro i ⟨k1, k2⟩
 by_cases hi : i < l.length
 · rw [Oc l i hi] at k2
   repeat' (first
    | refine ca A3 (hE) ?_
    | refine FJ ?_
    | refine ca Dn (IJ _ _) ?_
    | refine B6 ?_
    | exact True.intro
    | refine stp ?_
    | refine two ?_ ?_
    | (refine imp fun hc => ?_) <;> try exact cx hc
    | refine all fun v_ => ?_)
   · refine AH (VS.drop (List.nil_sublist _)) ?_
     ((with_reducible apply rq2); rfl; rfl; rfl)
     refine AA ?_
     rw [if_pos hc] at k2
     rw [hs, k2, if_pos hc]
   · rw [if_neg hc] at k2
     refine ⟨i + 1, ⟨by omega, k2⟩, by omega, vle (List.nil_sublist _) ?_⟩
     exact leD
 rw [PN l i (by omega)] at k2
 rw [k2, if_neg (by decide)] at hs
 repeat' (first
  | refine ca A3 (hE) ?_
  | refine FJ ?_
  | refine ca Dn (IJ _ _) ?_
  | refine B6 ?_
  | exact True.intro
  | refine stp ?_
  | refine two ?_ ?_
  | (refine imp fun hc => ?_) <;> try exact cx hc
  | refine all fun v_ => ?_)
 refine AG (X := Nat) (fun i => [(0, .d (AO l)), (6, .d (AK es)), (50, .d (AO l)), (51, .int l.length), (52, .int i)]) (fun _ => []) (fun i => i ≤ l.length ∧ ∀ q, q < i → LA l q) (fun i => l.length - i) 0 ⟨Nat.zero_le _, fun q hq => by omega⟩ (VS.of_le ?_) ?_
 · exact leD
 rintro i ⟨g1, g2⟩
 by_cases hi : i < l.length
 · have hki := An l i hi
   have hei := hes i (by omega)
   have hbi := Al l i (hall i hi)
   have w0 := Dw.start hi (hall i hi)
   generalize hn : (partsOf l[i].kind).1.toNat = n at w0
   have hty : LA l i ↔ ∀ p ∈ Co l (n - 0) (i + 1), HU l i p := by unfold LA; rw [hki, hn, Nat.sub_zero]
   repeat' (first
    | refine ca A3 (hE) ?_
    | refine FJ ?_
    | refine ca Dn (IJ _ _) ?_
    | refine B6 ?_
    | exact True.intro
    | refine stp ?_
    | refine two ?_ ?_
    | (refine imp fun hc => ?_) <;> try exact cx hc
    | refine all fun v_ => ?_)
   refine AG (X := Nat × Nat) (fun y => [(0, .d (AO l)), (6, .d (AK es)), (11, .int i), (14, .bool (decide (Hh l[i].kind))), (16, .int y.2), (50, .d (AO l)), (51, .int l.length), (52, .int i)]) (fun _ => [])
    (fun y => Dw l n y.1 y.2 (Sp.AJ l i).1.toNat ∧ (LA l i ↔ ∀ p ∈ Co l (n - y.1) y.2, HU l i p)) (fun y => n - y.1) (0, i + 1) ⟨w0, hty⟩ (vle (List.nil_sublist _) ?_) ?_
   · exact leD
   rintro ⟨j, k⟩ ⟨w, hk⟩
   dsimp only at w hk ⊢
   have wlt := w.lt
   by_cases hj : j < n
   · obtain ⟨q1, q2, q3, q4⟩ := w.next hj
     have hkl : k < l.length := by omega
     have hkk := An l k hkl
     have hek := hes k (by omega)
     have e1 : n - j = (n - (j + 1)) + 1 := by omega
     rw [e1] at hk
     simp only [Co, List.mem_cons, forall_eq_or_imp] at hk
     repeat' (first
      | refine ca A3 (hE) ?_
      | refine FJ ?_
      | refine ca Dn (IJ _ _) ?_
      | refine B6 ?_
      | exact True.intro
      | refine stp ?_
      | refine two ?_ ?_
      | (refine imp fun hc => ?_) <;> try exact cx hc
      | refine all fun v_ => ?_)
     · have hf : HU l i k := by
        unfold HU
        rw [hkk, hki]
        simp only [beq_iff_eq, decide_eq_decide] at hc
        exact hc
       refine ⟨(j + 1, (Sp.AJ l k).1.toNat), ⟨q4, ?_⟩, by dsimp only; omega, VS.of_le ?_⟩
       · rw [hk]
         exact ⟨fun h => h.2, fun h => ⟨hf, h⟩⟩
       · exact leD
     · have hf : ¬ HU l i k := by
        unfold HU
        rw [hkk, hki]
        intro h
        rw [beq_eq_false_iff_ne] at hc
        exact hc (decide_eq_decide.2 h)
       refine Bi ?_
       ((with_reducible apply rq2); rfl; rfl; rfl)
       refine AA ?_
       have : ¬ C2 l := fun h => hf (hk.1 (h i hi)).1
       rw [hs, if_neg this]
   · have hjn : j = n := by have := w.le; omega
     repeat' (first
      | refine ca A3 (hE) ?_
      | refine FJ ?_
      | refine ca Dn (IJ _ _) ?_
      | refine B6 ?_
      | exact True.intro
      | refine stp ?_
      | refine two ?_ ?_
      | (refine imp fun hc => ?_) <;> try exact cx hc
      | refine all fun v_ => ?_)
     refine ⟨i + 1, ⟨by omega, fun q hq => ?_⟩, by omega, VS.of_le ?_⟩
     · by_cases hqi : q < i
       · exact g2 q hqi
       · obtain rfl : q = i := by omega
         refine hk.2 fun p hp => ?_
         rw [hjn, Nat.sub_self] at hp
         simp [Co] at hp
     · exact leD
 · repeat' (first
    | refine ca A3 (hE) ?_
    | refine FJ ?_
    | refine ca Dn (IJ _ _) ?_
    | refine B6 ?_
    | exact True.intro
    | refine stp ?_
    | refine two ?_ ?_
    | (refine imp fun hc => ?_) <;> try exact cx hc
    | refine all fun v_ => ?_)
   refine Bi ?_
   ((with_reducible apply rq2); rfl; rfl; rfl)
   refine AA ?_
   have : C2 l := fun q hq => g2 q (by omega)
   rw [hs, if_pos this, An l 0 h0]
end Go.Proofs.YtibahljljjkceaaGreatDoor
namespace Go.Av
open Go Go.Instr

def Bl : List (Value × Value) → Nat → List MapEntry
 | [], _ => []
 | p :: ps, i => ⟨p.1, p.2, i⟩ :: Bl ps (i + 1)
def BE (ps : List (Value × Value)) : Obj := .map (Bl ps 0).toArray ps.length
theorem Er : ∀ (ps qs : List (Value × Value)) (i : Nat), Bl (ps ++ qs) i = Bl ps i ++ Bl qs (i + ps.length)
 | [], qs, i => by simp [Bl]
 | p :: ps, qs, i => by
   simp only [List.cons_append, Bl, Er ps qs (i + 1), List.length_cons]
   rw [show i + 1 + ps.length = i + (ps.length + 1) by omega]
structure Jj (kd : TypeDesc) {α : Type} (kv : α → Value) [DecidableEq α] : Prop where
 same : ∀ a b, sameNow kd (kv a) (kv b) = some (decide (a = b))
 easy : ∀ (P : Program) (T : TypeId) (e : Bool) (a : α) (w : World), P.underlying T = some kd → (checkKey e 10000 T (kv a)).run P w = .ok () w
theorem AX (k : IntKind) : Jj (.int k) (Value.int k) where
 same a b := by
  simp only [sameNow, if_pos trivial]
  exact congrArg some (Bool.eq_iff_iff.2 (by simp))
 easy P T e a w h := by
  unfold checkKey
  simp [run_underlying h]
theorem D7 (a b : ByteArray) : (a == b) = true ↔ a = b := by
 cases a; cases b
 rw [ByteArray.mk.injEq]
 show (_ == _) = true ↔ _
 simp only [BEq.beq]
 unfold ByteArray.beq
 simp
theorem Ab : Jj .string Value.string where
 same a b := by
  simp only [sameNow]
  exact congrArg some (Bool.eq_iff_iff.2 (by rw [D7]; simp))
 easy P T e a w h := by
  unfold checkKey
  simp [run_underlying h]
section
variable {α β : Type} [DecidableEq α] {kd : TypeDesc} {kv : α → Value} {vv : β → Value}
def Af (kv : α → Value) (vv : β → Value) (ps : List (α × β)) : List (Value × Value) := ps.map fun p => (kv p.1, vv p.2)
theorem Kf (K : Jj kd kv) (a : α) : ∀ (ps : List (α × β)) (i j : Nat), (∀ p ∈ ps, p.1 ≠ a) → findNow kd (kv a) (Bl (Af kv vv ps) i) j = some none
 | [], _, _, _ => rfl
 | p :: ps, i, j, h => by
   have h1 : a ≠ p.1 := fun e => h p List.mem_cons_self e.symm
   simp only [Af, List.map_cons, Bl, findNow, K.same, decide_eq_false h1]
   exact Kf K a ps (i + 1) (j + 1) fun q hq => h q (List.mem_cons_of_mem _ hq)
theorem Oy (K : Jj kd kv) (a : α) (b : β) : ∀ (ps qs : List (α × β)) (i j : Nat), (∀ p ∈ ps, p.1 ≠ a) → findNow kd (kv a) (Bl (Af kv vv (ps ++ (a, b) :: qs)) i) j = some (some (j + ps.length, vv b))
 | [], qs, i, j, _ => by simp [Af, Bl, findNow, K.same]
 | p :: ps, qs, i, j, h => by
   have h1 : a ≠ p.1 := fun e => h p List.mem_cons_self e.symm
   have ih := Oy K a b ps qs (i + 1) (j + 1) fun q hq => h q (List.mem_cons_of_mem _ hq)
   simp only [Af] at ih
   simp only [Af, List.cons_append, List.map_cons, Bl, findNow, K.same, decide_eq_false h1, ih, List.length_cons]
   rw [show j + 1 + ps.length = j + (ps.length + 1) by omega]
def getM (ps : List (α × β)) (a : α) : Option β := (ps.find? fun p => p.1 == a).map (·.2)
theorem Kb {ps : List (α × β)} {a : α} (h : ∀ p ∈ ps, p.1 ≠ a) : getM ps a = none := by
 simp only [getM, Option.map_eq_none_iff, List.find?_eq_none]
 intro p hp
 simpa using h p hp
theorem Ks {ps : List (α × β)} {a : α} (h : ¬ ∀ p ∈ ps, p.1 ≠ a) : ∃ b l r, ps = l ++ (a, b) :: r ∧ (∀ p ∈ l, p.1 ≠ a) ∧ getM ps a = some b := by
 induction ps with
 | nil => exact absurd (by simp) h
 | cons p ps ih =>
   by_cases e : p.1 = a
   · refine ⟨p.2, [], ps, by rw [← e]; rfl, by simp, ?_⟩
     simp [getM, e]
   · obtain ⟨b, l, r, h1, h2, h3⟩ := ih fun k => h fun q hq => by
      rcases List.mem_cons.1 hq with rfl | hq
      · exact e
      · exact k q hq
     refine ⟨b, p :: l, r, by rw [h1]; rfl, fun q hq => ?_, ?_⟩
     · rcases List.mem_cons.1 hq with rfl | hq
       · exact e
       · exact h2 q hq
     · rw [← h3]
       have e' : (p.1 == a) = false := by simpa using e
       simp [getM, List.find?_cons, e']
theorem getM_none {ps : List (α × β)} {a : α} : getM ps a = none ↔ ∀ p ∈ ps, p.1 ≠ a := by
 constructor
 · intro h
   by_cases k : ∀ p ∈ ps, p.1 ≠ a
   · exact k
   · obtain ⟨b, l, r, _, _, h3⟩ := Ks k
     rw [h] at h3; cases h3
 · exact Kb
theorem P8 (K : Jj kd kv) {P : Program} {T : TypeId} (hT : P.underlying T = some kd) (ps : List (α × β)) (a : α) (w : World) :
 ∃ r : Option (Nat × Value), (findKey T (kv a) (Bl (Af kv vv ps) 0)).run P w = .ok r w ∧ r.map (·.2) = (getM ps a).map vv := by
 by_cases h : ∀ p ∈ ps, p.1 ≠ a
 · refine ⟨none, ?_, by rw [Kb h]; rfl⟩
   simp [findKey, run_underlying hT, Kf K a ps 0 0 h]
 · obtain ⟨b, l, r, e, h2, h3⟩ := Ks h
   refine ⟨some (0 + l.length, vv b), ?_, by rw [h3]; rfl⟩
   subst e
   simp [findKey, run_underlying hT, Oy K a b l r 0 0 h2]
end
section
variable {k : Kx} {Q : Exit → Env → H → Prop} {ρ ρ' : Env} {h h' : H} {ops : Array Oper} {l : List Oper} {d : Nat} {dst : Option Tmp} {ty : TypeId} {pos : String} {after : Array Edge} {g : Option (Nat × Bool)}
theorem Va {T : TypeId} (hd : Nat.blt d k.n = true) (hj : All fun b : Nat => JL k ops l Q ((d, .val (.map (some b))) :: ρ) (.raw b (BE []) :: h)) : JL k ops (⟨some d, .makeMap T none, ty, pos, after, none⟩ :: l) Q ρ h := by
 refine Ed rfl (fun t ht => by cases ht; exact blt hd) fun I ac w h1 h2 => ?_
 refine ⟨.map (some w.heap.size), w.alloc (.map #[] 0), I, .val (.map (some w.heap.size)), _, ?_, h1.fresh _ (.raw w.heap.size (BE [])) rfl (heap_alloc_new w _), h2.fresh h1 _, rfl, hj.get w.heap.size⟩
 have hm : (makeMap T none).run k.P w = .ok (.map (some w.heap.size)) (w.alloc (.map #[] 0)) := rfl
 simp [execOp, hm]
theorem K7 {P : Program} {w : World} {r : Nat} {es : Array MapEntry} {clock : Nat} (o : Obj) (hb : w.heap[r]? = some (.map es clock)) : (setObj r o).run P w = .ok () { w with heap := w.heap.setIfInBounds r o } := by
 simp [setObj, Sem.run, hb]
theorem HV {α β : Type} [DecidableEq α] {kd : TypeDesc} {kv : α → Value} {vv : β → Value} (K : Jj kd kv) {T KT ET : TypeId} {x y u : Operand} {r : AV} {b : Nat} {ps : List (α × β)} {a : α} {c : β}
 (hx : evO ρ x = some (.val (.map (some b)))) (hy : evO ρ y = some (.val (kv a))) (hv : evO ρ u = some r) (hr : ∀ w I v, AV.rel w I r v → v = vv c) (hT : k.P.underlying T = some (.map KT ET)) (hK : k.P.underlying KT = some kd)
 (hu : Upd (.raw b (BE (Af kv vv ps))) (.raw b (BE (Af kv vv (ps ++ [(a, c)])))) h h') (hno : getM ps a = none)
 (hj : JL k ops l Q ρ h') : JL k ops (⟨none, .mapUpdate T x y u, ty, pos, after, none⟩ :: l) Q ρ h := by
 obtain ⟨h1, h2, rfl, rfl⟩ := hu.split
 refine Fv rfl rfl fun I ac w k1 k2 => ?_
 have e1 := AP (k2.ev x) (AF hx)
 have e2 := AP (k2.ev y) (AF hy)
 have e3 := hr _ _ _ (BY (k2.ev u) (AF hv))
 have hb : w.heap[b]? = some (BE (Af kv vv ps)) := k1.ent (.raw b (BE (Af kv vv ps))) (by simp)
 have hfind := Kf (vv := vv) K a ps 0 0 (getM_none.1 hno)
 have hnew : Obj.map (Bl (Af kv vv ps) 0 ++ [(⟨kv a, vv c, (Af kv vv ps).length⟩ : MapEntry)]).toArray ((Af kv vv ps).length + 1) = BE (Af kv vv (ps ++ [(a, c)])) := by
  have e : Af kv vv (ps ++ [(a, c)]) = Af kv vv ps ++ [(kv a, vv c)] := by simp [Af]
  unfold BE
  rw [e, Er]
  simp [Bl]
 obtain ⟨g1, g2⟩ := k1.write (w' := { w with heap := w.heap.setIfInBounds b (BE (Af kv vv (ps ++ [(a, c)]))) }) (e' := .raw b (BE (Af kv vv (ps ++ [(a, c)])))) (b := b) rfl rfl rfl rfl rfl (by simp)
  (fun x hx => by simp [Array.getElem?_setIfInBounds, Ne.symm hx]) (by
   have hlt := (Array.getElem?_eq_some_iff.1 hb).1
   show _ = _
   simp [Array.getElem?_setIfInBounds, hlt])
 refine ⟨{ w with heap := w.heap.setIfInBounds b (BE (Af kv vv (ps ++ [(a, c)]))) }, I, h1 ++ .raw b (BE (Af kv vv (ps ++ [(a, c)]))) :: h2, ?_, g1, k2.mono g2 (fun _ h => h), hj⟩
 have hobj : (getObj b).run k.P w = .ok (.map (Bl (Af kv vv ps) 0).toArray (Af kv vv ps).length) w := by simp [getObj, Sem.run, hb, BE]
 have hset := K7 (P := k.P) (w := w) (r := b) (BE (Af kv vv (ps ++ [(a, c)]))) (es := (Bl (Af kv vv ps) 0).toArray) (clock := (Af kv vv ps).length) hb
 simp only [execOp, e1, e2, e3, mapUpdate]
 simp [run_underlying hT, hobj, K.easy k.P KT false a w hK, findKey, run_underlying hK, hfind, hnew, hset]
end
section
variable {P : Program} {G : List (Nat × List D)} {ρ : Env} {h : H} {dst : Option Tmp} {ty : TypeId} {pos : String} {after : Array Edge} {g : Option (Nat × Bool)}
theorem Lr {α β : Type} [DecidableEq α] {kd : TypeDesc} {kv : α → Value} {vv : β → Value} (K : Jj kd kv) {T KT ET : TypeId} {x y : Operand} {b : Nat} {ps : List (α × β)} {a : α} {z : Value} {sz eb : Nat}
 (hx : evO ρ x = some (.val (.map (some b)))) (hy : evO ρ y = some (.val (kv a))) (hT : P.underlying T = some (.map KT ET)) (hK : P.underlying KT = some kd) (hE : El P ET z sz eb) (hm : Ent.raw b (BE (Af kv vv ps)) ∈ h) :
 Pure P G ⟨dst, .lookup T x y true, ty, pos, after, g⟩ ρ h (.tup [.val (((getM ps a).map vv).getD z), .bool (getM ps a).isSome]) := by
 intro c I n ac w _ hok hs
 obtain ⟨i, hi, hz, _, _⟩ := hE.get
 have e1 := AP (hs.ev x) (AF hx)
 have e2 := AP (hs.ev y) (AF hy)
 have hb : w.heap[b]? = some (BE (Af kv vv ps)) := hok.ent _ hm
 refine ⟨.tuple #[((getM ps a).map vv).getD z, .bool (getM ps a).isSome], ⟨[_, _], rfl, rfl, rfl, trivial⟩, fun w' hw' => ?_⟩
 have hb' : w'.heap[b]? = some (BE (Af kv vv ps)) := (hw'.own b (Dz hm rfl)).trans hb
 have hobj : (getObj b).run P w' = .ok (.map (Bl (Af kv vv ps) 0).toArray (Af kv vv ps).length) w' := by simp [getObj, Sem.run, hb', BE]
 obtain ⟨r, hr1, hr2⟩ := P8 (vv := vv) K hK ps a w'
 simp only [execOp, e1, e2, lookup]
 cases r with
 | none =>
   have hr3 : (getM ps a).map vv = none := hr2.symm
   have hr4 : getM ps a = none := by simpa using hr3
   simp [run_underlying hT, hobj, K.easy P KT _ a w' hK, hr1, hr4, zeroValue, typeInfo, hi, hz]
 | some r =>
   obtain ⟨j, v⟩ := r
   have hr3 : (getM ps a).map vv = some v := hr2.symm
   obtain ⟨bb, hb1, hb2⟩ := Option.map_eq_some_iff.1 hr3
   simp [run_underlying hT, hobj, K.easy P KT _ a w' hK, hr1, hb1, hb2]
end
def RC {α : Type} (kv : α → Value) (xs : List α) : Obj := BE (Af kv (fun _ : Unit => .agg #[]) (xs.map fun x => (x, ())))
theorem V0 {α : Type} [DecidableEq α] (xs : List α) (a : α) : (getM (xs.map fun x => (x, ())) a).isSome = decide (a ∈ xs) := by
 by_cases h : a ∈ xs
 · rw [decide_eq_true h]
   cases hg : getM (xs.map fun x => (x, ())) a with
   | none => exact absurd rfl (getM_none.1 hg (a, ()) (List.mem_map.2 ⟨a, h, rfl⟩))
   | some _ => rfl
 · rw [decide_eq_false h, Kb]
   · rfl
   · intro p hp
     obtain ⟨x, hx, rfl⟩ := List.mem_map.1 hp
     exact fun e => h (by subst e; exact hx)
section
variable {k : Kx} {Q : Exit → Env → H → Prop} {ρ ρ' : Env} {h h' : H} {ops : Array Oper} {l : List Oper} {d : Nat} {dst : Option Tmp} {ty : TypeId} {pos : String} {after : Array Edge} {g : Option (Nat × Bool)}
theorem CL {α : Type} (kv : α → Value) {T : TypeId} (hd : Nat.blt d k.n = true) (hj : All fun b : Nat => JL k ops l Q ((d, .val (.map (some b))) :: ρ) (.raw b (RC kv []) :: h)) : JL k ops (⟨some d, .makeMap T none, ty, pos, after, none⟩ :: l) Q ρ h := Va hd hj
theorem Bj {α : Type} [DecidableEq α] {kd : TypeDesc} {kv : α → Value} (K : Jj kd kv) {T KT ET : TypeId} {x y u : Operand} {b : Nat} {xs : List α} {a : α}
 (hx : evO ρ x = some (.val (.map (some b)))) (hy : evO ρ y = some (.val (kv a))) (hv : evO ρ u = some (.agg [])) (hT : k.P.underlying T = some (.map KT ET)) (hK : k.P.underlying KT = some kd)
 (hu : Upd (.raw b (RC kv xs)) (.raw b (RC kv (xs ++ [a]))) h h') (hno : a ∉ xs)
 (hj : JL k ops l Q ρ h') : JL k ops (⟨none, .mapUpdate T x y u, ty, pos, after, none⟩ :: l) Q ρ h := by
 have hno' : getM (xs.map fun x => (x, ())) a = none := Kb fun p hp => by
  obtain ⟨x, hx, rfl⟩ := List.mem_map.1 hp
  exact fun e => hno (by subst e; exact hx)
 have hu' : Upd (.raw b (BE (Af kv (fun _ : Unit => .agg #[]) (xs.map fun x => (x, ()))))) (.raw b (BE (Af kv (fun _ : Unit => .agg #[]) (xs.map (fun x => (x, ())) ++ [(a, ())])))) h h' := by
  have := hu
  unfold RC at this
  rwa [List.map_append] at this
 exact HV K (c := ()) hx hy hv (fun w I v hr => by
  obtain ⟨vs, e1, e2⟩ := hr
  cases vs with
  | nil => exact e1
  | cons _ _ => exact e2.elim) hT hK hu' hno' hj
end
section
variable {P : Program} {G : List (Nat × List D)} {ρ : Env} {h : H} {dst : Option Tmp} {ty : TypeId} {pos : String} {after : Array Edge} {g : Option (Nat × Bool)}
theorem BO {α : Type} [DecidableEq α] {kd : TypeDesc} {kv : α → Value} (K : Jj kd kv) {T KT ET : TypeId} {x y : Operand} {b : Nat} {xs : List α} {a : α} {eb : Nat}
 (hx : evO ρ x = some (.val (.map (some b)))) (hy : evO ρ y = some (.val (kv a))) (hT : P.underlying T = some (.map KT ET)) (hK : P.underlying KT = some kd) (hE : El P ET (.agg #[]) 0 eb) (hm : Ent.raw b (RC kv xs) ∈ h) :
 Pure P G ⟨dst, .lookup T x y true, ty, pos, after, g⟩ ρ h (.tup [.agg [], .bool (decide (a ∈ xs))]) := by
 intro c I n ac w e1 e2 e3
 obtain ⟨v, hv, hrun⟩ := Lr (P := P) (G := G) (ρ := ρ) (h := h) (dst := dst) (ty := ty) (pos := pos) (after := after) (g := g) (vv := fun _ : Unit => .agg #[]) K hx hy hT hK hE hm c I n ac w e1 e2 e3
 refine ⟨v, ?_, hrun⟩
 obtain ⟨vs, h1, h2⟩ := hv
 refine ⟨vs, h1, ?_⟩
 match vs, h2 with
 | [p, q], ⟨g1, g2, g3⟩ =>
   refine ⟨⟨[], ?_, trivial⟩, ?_, g3⟩
   · rw [show p = _ from g1]
     cases getM (xs.map fun x => (x, ())) a <;> rfl
   · rw [V0] at g2; exact g2
end
section
variable {k : Kx} {Q : Exit → Env → H → Prop} {ρ ρ' : Env} {h h' : H} {ops : Array Oper} {l : List Oper} {d : Nat} {ty : TypeId} {pos : String} {after : Array Edge}
theorem DM {S T E : TypeId} {x : Operand} {s : ByteArray} (hx : evO ρ x = some (.val (.string s))) (hS : k.P.underlying S = some .string) (hT : k.P.underlying T = some (.slice E)) (hE : k.P.underlying E = some (.int .u8)) (hb : s.data.toList.length ≤ 140737488355328) (hd : Nat.blt d k.n = true)
 (hj : JL k ops l Q ((d, .d (Ri s.data.toList)) :: ρ) h) : JL k ops (⟨some d, .convert S T x, ty, pos, after, none⟩ :: l) Q ρ h := by
 refine Ed rfl (fun t ht => by cases ht; exact blt hd) fun I ac w h1 h2 => ?_
 have e1 := AP (h2.ev x) (AF hx)
 have hrun := run_bytes_of_string (P := k.P) w S T E s hS hT hE
 have hge := grownCap_ge w s.size 0 E
 have hsz : s.size = s.data.toList.length := by rw [Array.length_toList]; rfl
 have hle := grownCap_le_maxLen w s.size 0 E (by unfold maxLen; omega)
 have hs : F5 I h w w.drew := ⟨rfl, rfl, rfl, Nat.le_refl _, fun _ _ => rfl⟩
 have k1 := h1.same hs
 have k2 := SF.same h1 hs h2
 generalize grownCap w s.size 0 E = cap at hrun hge hle
 generalize ho : Obj.cells (bytesRow s cap) E ((bytesRow s cap).size, (bytesRow s cap).size + 1) = o at hrun
 have hok := Ok.release (h1 := []) (b := w.drew.heap.size) (k1.fresh o (.raw w.drew.heap.size o) rfl (heap_alloc_new w.drew o)) rfl
 have hmono : ∀ b, I b → (w.drew.alloc o).heap[b]? = w.drew.heap[b]? := fun b hb => Go.RowKit.Below.heap_alloc w.drew _ b (k1.imm b hb).1
 have hblk : (w.drew.alloc o).heap[w.drew.heap.size]? = some (.cells (bytesRow s cap) E ((bytesRow s cap).size, (bytesRow s cap).size + 1)) := by rw [ho]; exact heap_alloc_new w.drew o
 refine ⟨.slice (some ⟨w.drew.heap.size, 0, none⟩) s.size cap, w.drew.alloc o, _, .d (Ri s.data.toList), _, ?_, hok, k2.mono hmono (fun _ h => .inl h), ?_, hj⟩
 · have hrun' : (convert S T (.string s)).run k.P w = .ok (.slice (some ⟨w.drew.heap.size, 0, none⟩) s.size cap) (w.drew.alloc o) := hrun
   simp [execOp, e1, hrun']
 · have hlen : (s.data.toList.map NC).length = s.size := by rw [List.length_map, hsz]
   have := Rel.l (w := w.drew.alloc o) (I := fun x => I x ∨ x = w.drew.heap.size) 1 1 (s.data.toList.map NC) ⟨w.drew.heap.size, 0, none⟩ cap (fun j _ => .int .u8 ((s.data.toList[j]?.getD 0).toNat : Int)) (.inr rfl) (by rw [hlen]; omega) hle (by rw [hlen]; omega)
    (fun r hr => by obtain ⟨a, _, rfl⟩ := List.mem_map.1 hr; rfl) (fun j u r x hr hx => ?_) (fun j u r x hr hx => ?_)
   · rw [hlen] at this
     exact this
   · rw [List.getElem?_map] at hr
     obtain ⟨b, hb1, rfl⟩ := Option.map_eq_some_iff.1 hr
     have hu : u = 0 := by
      have := (List.getElem?_eq_some_iff.1 hx).1
      simp [NC] at this
      exact this
     subst hu
     have hjl : j < s.data.size := by
      have := (List.getElem?_eq_some_iff.1 hb1).1
      simpa using this
     rw [Addr.add_lit, cell_of_row (w.drew.alloc o) _ _ _ _ _ hblk, hb1]
     simp only [Nat.zero_add, Nat.mul_one, Nat.add_zero, Option.getD_some]
     rw [Array.getElem?_toList] at hb1
     have hjl' : j < s.size := hjl
     have hbb : s.data[j] = b := (Array.getElem?_eq_some_iff.1 hb1).2
     simp [bytesRow, Array.getElem?_append, hjl', hb1, hbb]
   · rw [List.getElem?_map] at hr
     obtain ⟨b, hb1, rfl⟩ := Option.map_eq_some_iff.1 hr
     have hu : u = 0 := by
      have := (List.getElem?_eq_some_iff.1 hx).1
      simp [NC] at this
      exact this
     subst hu
     simp only [NC, List.getElem?_cons_zero, Option.some.injEq] at hx
     subst hx
     simp only [hb1, Option.getD_some]
     exact .i _ _
end
section
variable {P : Program} {G : List (Nat × List D)} {ρ : Env} {h : H} {dst : Option Tmp} {ty : TypeId} {pos : String} {after : Array Edge} {g : Option (Nat × Bool)}
theorem Cl {T : TypeId} {x : Operand} {s : ByteArray} (hx : evO ρ x = some (.val (.string s))) (hT : P.underlying T = some .string) : Pure P G ⟨dst, .call { callee := .builtin .len, args := #[x], argTypes := #[T] }, ty, pos, after, g⟩ ρ h (.int (s.data.toList.length : Nat)) := by
 have := KW (P := P) (G := G) (h := h) (dst := dst) (ty := ty) (pos := pos) (after := after) (g := g) hT (AF hx)
 rwa [show s.size = s.data.toList.length by rw [Array.length_toList]; rfl] at this
theorem DR {T : TypeId} {x y : Operand} {s : ByteArray} {n : Nat} (hx : evO ρ x = some (.val (.string s))) (hy : evO ρ y = some (.int (n : Int))) (hT : P.underlying T = some .string) (hn : n < s.data.toList.length) : Pure P G ⟨dst, .index T x y, ty, pos, after, g⟩ ρ h (AV.byte s.data.toList[n]) :=
 Am fun w I _ a hs => ⟨_, rfl, fun w' => by
  have e1 := AP (hs.ev x) (AF hx)
  have e2 := AP (hs.ev y) (AF hy)
  have hn' : n < s.size := by rw [show s.size = s.data.toList.length by rw [Array.length_toList]; rfl]; exact hn
  have e3 : s[n]? = some s.data.toList[n] := by
   rw [getElem?_pos s n hn']
   rfl
  simp [execOp, e1, e2, index, asIntOf, run_underlying hT, e3]⟩
end
end Go.Av
namespace Go.Sp
open Go Go.Av

structure Vr where
 name : ByteArray
 low : Int
 high : Int
 init : Int
def Vr.cells (v : Vr) : List D := [.s v.name, .i .i64 v.low, .i .i64 v.high, .i .i64 v.init]
abbrev Aq (l : List Vr) : D := .l 4 40 (l.map Vr.cells)
structure St where
 var : Int
 val : List Fo
def St.cells (s : St) : List D := [.i .i64 s.var, AO s.val]
abbrev Fk (l : List St) : D := .l 2 32 (l.map St.cells)
structure Ru where
 guard : List Fo
 sets : List St
def Ru.cells (r : Ru) : List D := [AO r.guard, Fk r.sets]
abbrev Ad (l : List Ru) : D := .l 2 48 (l.map Ru.cells)
structure Md where
 vars : List Vr
 rules : List Ru
def Md.cells (m : Md) : List D := [Aq m.vars, Ad m.rules]
abbrev mdA (m : Md) : AV := .agg [.d (Aq m.vars), .d (Ad m.rules)]

def LV (i : Nat) (c : UInt8) : Prop := (97 ≤ c.toNat ∧ c.toNat ≤ 122) ∨ (48 ≤ c.toNat ∧ c.toNat ≤ 57 ∧ i ≠ 0)
instance (i : Nat) (c : UInt8) : Decidable (LV i c) := by unfold LV; infer_instance
abbrev Ys : ByteArray := ⟨#[121, 101, 115]⟩
abbrev noS : ByteArray := ⟨#[110, 111]⟩
def KO (s : ByteArray) : Prop := (1 ≤ s.data.toList.length ∧ s.data.toList.length ≤ 8) ∧ s ≠ Ys ∧ s ≠ noS ∧ ∀ (i : Nat) (h : i < s.data.toList.length), LV i s.data.toList[i]
noncomputable instance (s : ByteArray) : Decidable (KO s) := Classical.propDecidable _

noncomputable instance (a : ByteArray) (l : List ByteArray) : Decidable (a ∈ l) := Classical.propDecidable _
def BJ (v : Vr) : Int := v.high - v.low + 1
def EA (v : Vr) : Prop := -1000 ≤ v.low ∧ v.high ≤ 1000 ∧ v.low ≤ v.high ∧ v.low ≤ v.init ∧ v.init ≤ v.high
instance (v : Vr) : Decidable (EA v) := by unfold EA; infer_instance
noncomputable def GW : List Vr → List ByteArray → Int → Int
 | [], _, _ => 0
 | v :: l, seen, n =>
   if ¬ KO v.name then 6 else if v.name ∈ seen then 7 else if ¬ EA v then 2 else if 64 < BJ v then 1 else if 4096 < n * BJ v then 1 else GW l (seen ++ [v.name]) (n * BJ v)
noncomputable def Dp (l : List Vr) : Int := if 6 < l.length then 1 else GW l [] 1
theorem Pr (l : List Vr) (i : Nat) (h : i < l.length) (seen : List ByteArray) (n : Int) : GW (l.drop i) seen n =
 if ¬ KO l[i].name then 6 else if l[i].name ∈ seen then 7 else if ¬ EA l[i] then 2 else if 64 < BJ l[i] then 1 else if 4096 < n * BJ l[i] then 1 else GW (l.drop (i + 1)) (seen ++ [l[i].name]) (n * BJ l[i]) := by
 rw [List.drop_eq_getElem_cons h, GW]
theorem NI (l : List Vr) (i : Nat) (h : l.length ≤ i) (seen : List ByteArray) (n : Int) : GW (l.drop i) seen n = 0 := by rw [List.drop_of_length_le h, GW]

noncomputable def Ca (l : List Fo) (vars : Int) (IJ : Bool) : Int := if (CY l vars).2 ≠ 0 then (CY l vars).2 else if (CY l vars).1 ≠ IJ then 5 else 0
noncomputable def HC (vars : Int) : List St → List Int → Int
 | [], _ => 0
 | s :: l, seen => if ¬ (0 ≤ s.var ∧ s.var < vars) then 2 else if s.var ∈ seen then 7 else if Ca s.val vars false ≠ 0 then Ca s.val vars false else HC vars l (seen ++ [s.var])
noncomputable def Dv (r : Ru) (vars : Int) : Int := if 6 < r.sets.length then 1 else if Ca r.guard vars true ≠ 0 then Ca r.guard vars true else HC vars r.sets []
theorem O1 (vars : Int) (l : List St) (i : Nat) (h : i < l.length) (seen : List Int) : HC vars (l.drop i) seen =
 if ¬ (0 ≤ l[i].var ∧ l[i].var < vars) then 2 else if l[i].var ∈ seen then 7 else if Ca l[i].val vars false ≠ 0 then Ca l[i].val vars false else HC vars (l.drop (i + 1)) (seen ++ [l[i].var]) := by
 rw [List.drop_eq_getElem_cons h, HC]
theorem NM (vars : Int) (l : List St) (i : Nat) (h : l.length ≤ i) (seen : List Int) : HC vars (l.drop i) seen = 0 := by rw [List.drop_of_length_le h, HC]
noncomputable def EE (vars : Int) : List Ru → Int
 | [] => 0
 | r :: l => if Dv r vars ≠ 0 then Dv r vars else EE vars l
theorem Mm (vars : Int) (l : List Ru) (i : Nat) (h : i < l.length) : EE vars (l.drop i) = if Dv l[i] vars ≠ 0 then Dv l[i] vars else EE vars (l.drop (i + 1)) := by
 rw [List.drop_eq_getElem_cons h, EE]
theorem Lh (vars : Int) (l : List Ru) (i : Nat) (h : l.length ≤ i) : EE vars (l.drop i) = 0 := by rw [List.drop_of_length_le h, EE]
noncomputable def AU (m : Md) : Int := if Dp m.vars ≠ 0 then Dp m.vars else if 12 < m.rules.length then 1 else EE m.vars.length m.rules
end Go.Sp
