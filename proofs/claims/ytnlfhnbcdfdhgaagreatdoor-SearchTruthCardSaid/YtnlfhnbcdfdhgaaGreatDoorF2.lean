/- A bundle of this claim's own texts: G1 E3 G2 E4 E5 E6 G20 G21 Sc Sd. -/
import Derived.Laws.BitsLemmas
import Derived.Laws.BytesString
import Derived.Lib.AppendZerosOnto
import Derived.Lib.SliceRun
import Derived.Laws.IdiomStrings
import Derived.Test.YtnlfhnbcdfdhgaaGreatDoorF1
set_option linter.unusedVariables false
set_option linter.unusedSimpArgs false
set_option maxRecDepth 100000
set_option maxHeartbeats 4000000
namespace Go.Sp
open Go.Av

def BP (l : List Int) : List D := [AK l]
abbrev Ah (l : List (List Int)) : D := .l 1 24 (l.map BP)
def Nv (n : Nat) : List D := [.i .i64 (n : Int)]
abbrev DF (l : List Nat) : D := .l 1 8 (l.map Nv)
def Yg (l : List Nat) : List D := [DF l]
abbrev FX (l : List (List Nat)) : D := .l 1 24 (l.map Yg)

structure Gr where
 spots : List Fo
 init : Int
 next : List (List Int)
 sets : List Int
 many : Int
def IB (g : Gr) : Prop := g.spots.length ≤ 20000 ∧ g.next.length = g.spots.length ∧ g.sets.length = g.spots.length ∧ 0 ≤ g.init ∧ g.init ≤ g.spots.length ∧ 0 ≤ g.many ∧ g.many ≤ 6
def YH (g : Gr) (i : Nat) : Prop := (∀ (h : i < g.next.length), ∀ k ∈ g.next[i], 0 ≤ k ∧ k < g.spots.length) ∧ ∀ (h : i < g.sets.length), 0 ≤ g.sets[i] ∧ g.sets[i] < 2 ^ g.many.toNat
def okG (g : Gr) : Prop := IB g ∧ ∀ i, i < g.spots.length → YH g i
noncomputable instance (g : Gr) : Decidable (okG g) := Classical.propDecidable _
noncomputable def Jz (g : Gr) : Int := if okG g then 0 else 9

structure Gn where
 spots : List Fo
 init : Nat
 next : List (List Nat)
 sets : List Nat
 many : Nat
def Gn.gr (g : Gn) : Gr := ⟨g.spots, g.init, g.next.map (·.map fun k : Nat => (k : Int)), g.sets.map fun k : Nat => (k : Int), g.many⟩
structure Gn.ok (g : Gn) : Prop where
 size : g.spots.length ≤ 20000
 next : g.next.length = g.spots.length
 sets : g.sets.length = g.spots.length
 init : g.init ≤ g.spots.length
 many : g.many ≤ 6
 to : ∀ (i : Nat) (h : i < g.next.length), ∀ k ∈ g.next[i], k < g.spots.length
 bits : ∀ (i : Nat) (h : i < g.sets.length), g.sets[i] < 2 ^ g.many
theorem Ln (l : List Nat) : DF l = AK (l.map fun k : Nat => (k : Int)) := by
 unfold DF AK; rw [List.map_map]; rfl
theorem Wx (l : List (List Nat)) : FX l = Ah (l.map (·.map fun k : Nat => (k : Int))) := by
 unfold FX Ah
 rw [List.map_map]
 congr 1
 refine List.map_congr_left fun x _ => ?_
 simp only [Yg, BP, Function.comp, Ln]
theorem Pe {l : List Int} (h : ∀ k ∈ l, 0 ≤ k) : (l.map Int.toNat).map (fun k : Nat => (k : Int)) = l := by
 rw [List.map_map]
 conv => rhs; rw [← List.map_id l]
 refine List.map_congr_left fun k hk => ?_
 have := h k hk
 simp only [Function.comp, id]
 omega
theorem JU {g : Gr} (h : okG g) : ∃ gn : Gn, gn.gr = g ∧ gn.ok := by
 obtain ⟨⟨h1, h2, h3, h4, h5, h6, h7⟩, h8⟩ := h
 refine ⟨⟨g.spots, g.init.toNat, g.next.map (·.map Int.toNat), g.sets.map Int.toNat, g.many.toNat⟩, ?_, ?_⟩
 · have e1 : (g.next.map (·.map Int.toNat)).map (·.map fun k : Nat => (k : Int)) = g.next := by
    rw [List.map_map]
    conv => rhs; rw [← List.map_id g.next]
    refine List.map_congr_left fun l hl => ?_
    obtain ⟨i, hi, rfl⟩ := List.getElem_of_mem hl
    exact Pe fun k hk => ((h8 i (by omega)).1 hi k hk).1
   have e2 : (g.sets.map Int.toNat).map (fun k : Nat => (k : Int)) = g.sets := Pe fun k hk => by
    obtain ⟨i, hi, rfl⟩ := List.getElem_of_mem hk
    exact ((h8 i (by omega)).2 hi).1
   unfold Gn.gr
   dsimp only
   rw [e1, e2, Int.toNat_of_nonneg h4, Int.toNat_of_nonneg h6]
 · refine ⟨h1, by simpa using h2, by simpa using h3, by dsimp only; omega, by dsimp only; omega, fun i hi k hk => ?_, fun i hi => ?_⟩
   · simp only [List.length_map] at hi
     simp only [List.getElem_map, List.mem_map] at hk
     obtain ⟨a, ha, rfl⟩ := hk
     have := (h8 i (by omega)).1 hi a ha
     dsimp only
     omega
   · simp only [List.length_map] at hi
     have := (h8 i (by omega)).2 hi
     simp only [List.getElem_map]
     have e : ((2 ^ g.many.toNat : Nat) : Int) = 2 ^ g.many.toNat := by exact_mod_cast rfl
     omega
theorem Gn.ok_gr {g : Gn} (h : g.ok) : okG g.gr := by
 refine ⟨⟨h.size, by simpa [Gn.gr] using h.next, by simpa [Gn.gr] using h.sets, by simp [Gn.gr], by have := h.init; simp only [Gn.gr]; omega, by simp [Gn.gr], by have := h.many; simp only [Gn.gr]; omega⟩, fun i _ => ⟨fun hi k hk => ?_, fun hi => ?_⟩⟩
 · simp only [Gn.gr, List.length_map] at hi
   simp only [Gn.gr, List.getElem_map, List.mem_map] at hk
   obtain ⟨a, ha, rfl⟩ := hk
   have := h.to i hi a ha
   simp only [Gn.gr]
   omega
 · simp only [Gn.gr, List.length_map] at hi
   have := h.bits i hi
   simp only [Gn.gr, List.getElem_map, Int.toNat_natCast]
   exact ⟨by omega, by exact_mod_cast this⟩
def Gn.nx (g : Gn) (i : Nat) : List Nat := (g.next[i]?).getD []
theorem Gn.nx_get (g : Gn) (i : Nat) (h : i < g.next.length) : g.nx i = g.next[i] := by simp [Gn.nx, List.getElem?_eq_getElem h]
theorem Gn.nx_lt {g : Gn} (h : g.ok) (i : Nat) : ∀ k ∈ g.nx i, k < g.spots.length := by
 intro k hk
 by_cases hi : i < g.next.length
 · rw [g.nx_get i hi] at hk; exact h.to i hi k hk
 · simp [Gn.nx, List.getElem?_eq_none (by omega : g.next.length ≤ i)] at hk

inductive Rch (nx : Nat → List Nat) : Nat → Nat → Prop where
 | refl (i : Nat) : Rch nx i i
 | step {i j k : Nat} (h : Rch nx i j) (e : k ∈ nx j) : Rch nx i k
theorem Rch.trans {nx : Nat → List Nat} {i j k : Nat} (h : Rch nx i j) (h2 : Rch nx j k) : Rch nx i k := by
 induction h2 with
 | refl => exact h
 | step _ e ih => exact .step ih e
theorem Rch.one {nx : Nat → List Nat} {i j : Nat} (e : j ∈ nx i) : Rch nx i j := .step (.refl i) e
theorem Rch.closed {nx : Nat → List Nat} {S : Nat → Prop} (hS : ∀ i, S i → ∀ k ∈ nx i, S k) {i j : Nat} (h : Rch nx i j) (hi : S i) : S j := by
 induction h with
 | refl => exact hi
 | step _ e ih => exact hS _ ih _ e
def C2 (g : Gn) (i : Nat) : Prop := ∃ j, j < g.init ∧ Rch g.nx j i
noncomputable instance (g : Gn) (i : Nat) : Decidable (C2 g i) := Classical.propDecidable _
noncomputable def CY (g : Gn) : List Bool := (List.range g.spots.length).map fun i => decide (C2 g i)

def gi (l : List Int) (i : Nat) : Int := (l[i]?).getD 0
theorem CN (l : List Int) (i : Nat) (h : i < l.length) : gi l i = l[i] := by simp [gi, List.getElem?_eq_getElem h]
theorem dZ (l : List Int) (i : Nat) (h : l.length ≤ i) : gi l i = 0 := by simp [gi, List.getElem?_eq_none h]
theorem Dn (l : List Int) (i j : Nat) (v : Int) (h : i < l.length) : gi (l.set i v) j = if j = i then v else gi l j := by
 unfold gi
 by_cases e : j = i
 · subst e; rw [if_pos rfl, List.getElem?_set_self h]; rfl
 · rw [if_neg e, List.getElem?_set_ne (Ne.symm e)]

structure TS where
 order : List Int
 low : List Int
 part : List Int
 opn : List Nat
 calls : List (Nat × Nat)
 met : Nat

abbrev TS.F (s : TS) : List Nat := s.calls.map Prod.fst
def TS.enter (s : TS) (a : Nat) : TS := ⟨s.order.set a (s.met + 1), s.low.set a (s.met + 1), s.part, s.opn ++ [a], s.calls ++ [(a, 0)], s.met + 1⟩
def TS.low1 (s : TS) (a : Nat) : List Int :=
 match s.calls.dropLast.getLast? with
 | none => s.low
 | some p => s.low.set p.1 (min (gi s.low p.1) (gi s.low a))
def TS.pop (s : TS) (a : Nat) : TS := { s with low := s.low1 a, calls := s.calls.dropLast }
def leastOf (a : Nat) (C : List Nat) : Nat := C.foldl min a
def A8 (p : List Int) (C : List Nat) (m : Nat) : List Int := C.foldl (fun p k => p.set k m) p
def TS.leave (s : TS) (a : Nat) : TS :=
 if gi (s.low1 a) a ≠ gi s.order a then s.pop a
 else { s.pop a with part := A8 s.part (s.opn.drop (s.opn.idxOf a)) (Go.Sp.leastOf a (s.opn.drop (s.opn.idxOf a))), opn := s.opn.take (s.opn.idxOf a) }
def TS.next (s : TS) (a j : Nat) : TS := { s with calls := s.calls.dropLast ++ [(a, j + 1)] }
def TS.lower (s : TS) (a k : Nat) : TS := { s with low := s.low.set a (min (gi s.low a) (gi s.order k)) }
def TS.go (nx : Nat → List Nat) (s : TS) : TS :=
 match s.calls.getLast? with
 | none => s
 | some p =>
   if h : p.2 < (nx p.1).length then
    if gi s.order (nx p.1)[p.2] = 0 then (s.next p.1 p.2).enter (nx p.1)[p.2]
    else if gi s.part (nx p.1)[p.2] < 0 then (s.next p.1 p.2).lower p.1 (nx p.1)[p.2]
    else s.next p.1 p.2
   else s.leave p.1

def TS.done (nx : Nat → List Nat) (s : TS) (v w : Nat) : Prop := w ∈ nx v ∧ ∀ j, (v, j) ∈ s.calls → w ∈ (nx v).take j
def EV (nx : Nat → List Nat) (v : Nat) (m : Int) : Prop := ∃ k : Nat, m = k ∧ Rch nx v k ∧ Rch nx k v ∧ ∀ u, Rch nx v u → Rch nx u v → k ≤ u

structure BY (nx : Nat → List Nat) (n : Nat) (x : Option Nat) (s : TS) : Prop where
 lo : s.order.length = n
 ll : s.low.length = n
 lp : s.part.length = n
 om : ∀ v, 0 ≤ gi s.order v ∧ gi s.order v ≤ s.met
 pw : s.opn.Pairwise (fun a b => gi s.order a < gi s.order b)
 mem : ∀ v, v ∈ s.opn ↔ gi s.order v ≠ 0 ∧ gi s.part v < 0
 fpw : s.F.Pairwise (fun a b => gi s.order a < gi s.order b)
 fin : ∀ c ∈ s.F, c ∈ s.opn
 fj : ∀ p ∈ s.calls, p.2 ≤ (nx p.1).length
 bot : s.opn.head? = s.F.head?
 vis : ∀ v w, gi s.order v ≠ 0 → s.done nx v w → gi s.order w ≠ 0 ∨ x = some w
 dsc : ∀ c ∈ s.F, ∀ v ∈ s.opn, gi s.order c ≤ gi s.order v → Rch nx c v
 cls : ∀ v, gi s.order v ≠ 0 → 0 ≤ gi s.part v → ∀ w ∈ nx v, gi s.order w ≠ 0 ∧ 0 ≤ gi s.part w
 prt : ∀ v, gi s.order v ≠ 0 → 0 ≤ gi s.part v → EV nx v (gi s.part v)
 lwr : ∀ v ∈ s.opn, ∃ w ∈ s.opn, gi s.order w = gi s.low v ∧ Rch nx v w
 lwf : ∀ v ∈ s.opn, gi s.low v ≤ gi s.order v ∧ (v ∉ s.F → gi s.low v < gi s.order v)
 anc : ∀ c ∈ s.F, ∀ v ∈ s.opn, gi s.order c ≤ gi s.order v → (∀ q ∈ s.F, gi s.order q ≤ gi s.order v → gi s.order q ≤ gi s.order c) →
  gi s.low c ≤ gi s.low v ∧ ∀ w, s.done nx v w → w ∈ s.opn → gi s.low c ≤ gi s.order w
 pn : ∀ v, v < n → gi s.order v = 0 → gi s.part v = -1

section
variable {nx : Nat → List Nat} {n : Nat} {x : Option Nat} {s : TS}

theorem cQ {l : List Nat} {f : Nat → Int} (h : l.Pairwise (fun a b => f a < f b)) : ∀ a ∈ l, ∀ b ∈ l, f a = f b → a = b := by
 induction l with
 | nil => intro a ha; cases ha
 | cons y l ih =>
   rw [List.pairwise_cons] at h
   intro a ha b hb e
   rcases List.mem_cons.1 ha with e1 | ha' <;> rcases List.mem_cons.1 hb with e2 | hb'
   · rw [e1, e2]
   · have := h.1 b hb'; rw [e1] at e; omega
   · have := h.1 a ha'; rw [e2] at e; omega
   · exact ih h.2 a ha' b hb' e
theorem BY.inj (t : BY nx n x s) {a b : Nat} (ha : a ∈ s.opn) (hb : b ∈ s.opn) (e : gi s.order a = gi s.order b) : a = b := cQ t.pw a ha b hb e
theorem BY.lt (t : BY nx n x s) {v : Nat} (h : gi s.order v ≠ 0) : v < n := by
 rcases Nat.lt_or_ge v n with h' | h'
 · exact h'
 · exact absurd (dZ s.order v (by rw [t.lo]; exact h')) h

theorem FK {p : Nat × Nat} (h : s.calls.getLast? = some p) : s.calls = s.calls.dropLast ++ [p] := by
 obtain ⟨ys, e⟩ := List.getLast?_eq_some_iff.1 h
 rw [e]; simp
theorem OS {p : Nat × Nat} (h : s.calls.getLast? = some p) : s.F = s.calls.dropLast.map Prod.fst ++ [p.1] := by
 have e := FK h
 unfold TS.F
 conv => lhs; rw [e]
 simp
theorem F7 {p : Nat × Nat} (h : s.calls.getLast? = some p) : p ∈ s.calls := by rw [FK h]; simp
theorem BY.last_le (t : BY nx n x s) {p : Nat × Nat} (h : s.calls.getLast? = some p) : ∀ c ∈ s.F, gi s.order c ≤ gi s.order p.1 := by
 intro c hc
 have hp := t.fpw
 rw [OS h, List.pairwise_append] at hp
 rw [OS h, List.mem_append] at hc
 rcases hc with hc | hc
 · have := hp.2.2 c hc p.1 (by simp); omega
 · rw [List.mem_singleton.1 hc]; exact Int.le_refl _
theorem BY.frame_uniq (t : BY nx n x s) {a i j : Nat} (h1 : (a, i) ∈ s.calls) (h2 : (a, j) ∈ s.calls) : i = j := by
 have key : ∀ l : List (Nat × Nat), (l.map Prod.fst).Pairwise (fun a b => gi s.order a < gi s.order b) → (a, i) ∈ l → (a, j) ∈ l → i = j := by
  intro l
  induction l with
  | nil => intro _ h; cases h
  | cons y l ih =>
    intro hp h1 h2
    rw [List.map_cons, List.pairwise_cons] at hp
    rcases List.mem_cons.1 h1 with h1 | h1 <;> rcases List.mem_cons.1 h2 with h2 | h2
    · rw [← h1] at h2; cases h2; rfl
    · have := hp.1 a (List.mem_map.2 ⟨_, h2, rfl⟩); rw [← h1] at this; dsimp only at this; omega
    · have := hp.1 a (List.mem_map.2 ⟨_, h1, rfl⟩); rw [← h2] at this; dsimp only at this; omega
    · exact ih hp.2 h1 h2
 exact key _ t.fpw h1 h2

theorem Si {p : Nat × Nat} (h : s.calls.getLast? = some p) : (s.next p.1 p.2).F = s.F := by
 rw [OS h]; simp [TS.next, TS.F]
theorem Hs (t : BY nx n x s) {p : Nat × Nat} (h : s.calls.getLast? = some p) (hj : p.2 < (nx p.1).length) {v w : Nat} (hd : (s.next p.1 p.2).done nx v w) : s.done nx v w ∨ (v = p.1 ∧ w = (nx p.1)[p.2]) := by
 obtain ⟨hw, hd⟩ := hd
 have e := FK h
 by_cases hv : v = p.1
 · subst hv
   have hk := hd (p.2 + 1) (by simp [TS.next])
   rw [List.take_succ_eq_append_getElem hj] at hk
   rcases List.mem_append.1 hk with hk | hk
   · refine .inl ⟨hw, fun j hj' => ?_⟩
     rw [t.frame_uniq hj' (F7 h)]; exact hk
   · exact .inr ⟨rfl, by simpa using hk⟩
 · refine .inl ⟨hw, fun j hj' => hd j ?_⟩
   rw [e] at hj'
   rcases List.mem_append.1 hj' with hj' | hj'
   · simp [TS.next, hj']
   · rw [List.mem_singleton] at hj'; subst hj'; exact absurd rfl hv
theorem Tm (t : BY nx n x s) {p : Nat × Nat} (hj : p.2 < (nx p.1).length) : ∀ q ∈ (s.next p.1 p.2).calls, q.2 ≤ (nx q.1).length := by
 intro q hq
 simp only [TS.next, List.mem_append, List.mem_singleton] at hq
 rcases hq with hq | rfl
 · exact t.fj q (List.dropLast_subset _ hq)
 · exact hj
theorem BY.next (t : BY nx n none s) {p : Nat × Nat} (h : s.calls.getLast? = some p) (hj : p.2 < (nx p.1).length) (y : Option Nat) (hk : gi s.order (nx p.1)[p.2] ≠ 0 ∨ y = some (nx p.1)[p.2]) (ho : ¬ (nx p.1)[p.2] ∈ s.opn) :
 BY nx n y (s.next p.1 p.2) := by
 have eF := Si (s := s) h
 refine { lo := t.lo, ll := t.ll, lp := t.lp, om := t.om, pw := t.pw, mem := t.mem, fpw := by rw [eF]; exact t.fpw, fin := by rw [eF]; exact t.fin, fj := Tm t hj, bot := by rw [eF]; exact t.bot, vis := ?_, dsc := by rw [eF]; exact t.dsc, cls := t.cls, prt := t.prt, lwr := t.lwr, lwf := by rw [eF]; exact t.lwf, anc := ?_, pn := t.pn }
 · intro v w hv hd
   rcases Hs t h hj hd with hd | ⟨rfl, rfl⟩
   · rcases t.vis v w hv hd with h1 | h1
     · exact .inl h1
     · cases h1
   · exact hk
 · rw [eF]
   intro c hc v hv h1 h2
   obtain ⟨q1, q2⟩ := t.anc c hc v hv h1 h2
   refine ⟨q1, fun w hd hw => ?_⟩
   rcases Hs t h hj hd with hd | ⟨rfl, rfl⟩
   · exact q2 w hd hw
   · exact absurd hw ho
theorem BY.lower (t : BY nx n none s) {p : Nat × Nat} (h : s.calls.getLast? = some p) (hj : p.2 < (nx p.1).length) (hk : (nx p.1)[p.2] ∈ s.opn) :
 BY nx n none ((s.next p.1 p.2).lower p.1 (nx p.1)[p.2]) := by
 have eF : ((s.next p.1 p.2).lower p.1 (nx p.1)[p.2]).F = s.F := Si (s := s) h
 have hpF : p.1 ∈ s.F := List.mem_map.2 ⟨p, F7 h, rfl⟩
 have hpo := t.fin _ hpF
 have hlt : p.1 < s.low.length := by rw [t.ll]; exact t.lt ((t.mem _).1 hpo).1
 have el : ∀ v, gi ((s.next p.1 p.2).lower p.1 (nx p.1)[p.2]).low v = if v = p.1 then min (gi s.low p.1) (gi s.order (nx p.1)[p.2]) else gi s.low v := fun v => Dn _ _ _ _ hlt
 have hle : ∀ v, gi ((s.next p.1 p.2).lower p.1 (nx p.1)[p.2]).low v ≤ gi s.low v := fun v => by
  rw [el]; split
  · rename_i e; rw [e]; omega
  · exact Int.le_refl _
 refine { lo := t.lo, ll := by simp [TS.lower, TS.next, t.ll], lp := t.lp, om := t.om, pw := t.pw, mem := t.mem, fpw := by rw [eF]; exact t.fpw, fin := by rw [eF]; exact t.fin, fj := Tm t hj, bot := by rw [eF]; exact t.bot, vis := ?_, dsc := by rw [eF]; exact t.dsc, cls := t.cls, prt := t.prt, lwr := ?_, lwf := ?_, anc := ?_, pn := t.pn }
 · intro v w hv hd
   rcases Hs t h hj hd with hd | ⟨rfl, rfl⟩
   · exact t.vis v w hv hd
   · exact .inl ((t.mem _).1 hk).1
 · intro v hv
   show ∃ w ∈ s.opn, gi s.order w = _ ∧ _
   rw [el]
   by_cases e : v = p.1
   · rw [if_pos e]
     by_cases hm : gi s.low p.1 ≤ gi s.order (nx p.1)[p.2]
     · rw [Int.min_eq_left hm, e]; exact t.lwr _ hpo
     · rw [Int.min_eq_right (by omega), e]; exact ⟨_, hk, rfl, Rch.one (List.getElem_mem _)⟩
   · rw [if_neg e]; exact t.lwr v hv
 · intro v hv
   rw [eF]
   have q := t.lwf v hv
   have q' := hle v
   exact ⟨Int.le_trans q' q.1, fun hf => Int.lt_of_le_of_lt q' (q.2 hf)⟩
 · rw [eF]
   intro c hc v hv h1 h2
   obtain ⟨q1, q2⟩ := t.anc c hc v hv h1 h2
   have hcv : v = p.1 → c = p.1 := fun e => by
    have := h2 p.1 hpF (by rw [e]; exact Int.le_refl _)
    rw [e] at h1
    exact t.inj (t.fin c hc) hpo (Int.le_antisymm h1 this)
   have q' := hle c
   refine ⟨?_, fun w hd hw => ?_⟩
   · by_cases e : v = p.1
     · rw [hcv e, e]; exact Int.le_refl _
     · rw [el v, if_neg e]; omega
   · rcases Hs t h hj hd with hd | ⟨e, rfl⟩
     · have := q2 w hd hw
       show _ ≤ gi s.order w
       omega
     · rw [el c, if_pos (hcv e)]
       show _ ≤ gi s.order _
       omega

theorem BY.enter {k : Nat} (t : BY nx n (some k) s) (hk : k < n) (h0 : gi s.order k = 0) (hr : ∀ c ∈ s.F, Rch nx c k) : BY nx n none (s.enter k) := by
 have hko : k ∉ s.opn := fun h => ((t.mem k).1 h).1 h0
 have hkF : k ∉ s.F := fun h => hko (t.fin k h)
 have eo : ∀ v, gi (s.enter k).order v = if v = k then (s.met : Int) + 1 else gi s.order v := fun v => Dn _ _ _ _ (by rw [t.lo]; exact hk)
 have el : ∀ v, gi (s.enter k).low v = if v = k then (s.met : Int) + 1 else gi s.low v := fun v => Dn _ _ _ _ (by rw [t.ll]; exact hk)
 have eF : (s.enter k).F = s.F ++ [k] := by simp [TS.enter, TS.F]
 have eon : ∀ v, v ≠ k → gi (s.enter k).order v = gi s.order v := fun v h => by rw [eo, if_neg h]
 have eln : ∀ v, v ≠ k → gi (s.enter k).low v = gi s.low v := fun v h => by rw [el, if_neg h]
 have eok : gi (s.enter k).order k = (s.met : Int) + 1 := by rw [eo, if_pos rfl]
 have elk : gi (s.enter k).low k = (s.met : Int) + 1 := by rw [el, if_pos rfl]
 have hne : ∀ v ∈ s.opn, v ≠ k := fun v hv e => hko (e ▸ hv)
 have hop : ∀ v, v ∈ (s.enter k).opn ↔ v ∈ s.opn ∨ v = k := fun v => by simp [TS.enter]
 have hF : ∀ v, v ∈ (s.enter k).F ↔ v ∈ s.F ∨ v = k := fun v => by rw [eF]; simp
 have hd : ∀ v w, (s.enter k).done nx v w → v ≠ k ∧ s.done nx v w := fun v w ⟨h1, h2⟩ => by
  refine ⟨fun e => ?_, h1, fun j hj => h2 j (by simp [TS.enter, hj])⟩
  have := h2 0 (by simp [TS.enter, e])
  simp at this
 refine { lo := by simp [TS.enter, t.lo], ll := by simp [TS.enter, t.ll], lp := t.lp, om := ?_, pw := ?_, mem := ?_, fpw := ?_, fin := ?_, fj := ?_, bot := ?_, vis := ?_, dsc := ?_, cls := ?_, prt := ?_, lwr := ?_, lwf := ?_, anc := ?_, pn := ?_ }
 · intro v
   show 0 ≤ _ ∧ _ ≤ ((s.met + 1 : Nat) : Int)
   have := t.om v
   rw [eo]; split <;> omega
 · show (s.opn ++ [k]).Pairwise _
   rw [List.pairwise_append]
   refine ⟨?_, by simp, fun a ha b hb => ?_⟩
   · refine List.Pairwise.imp_of_mem (fun {a b} ha hb hab => ?_) t.pw
     rw [eon a (hne a ha), eon b (hne b hb)]; exact hab
   · rw [List.mem_singleton.1 hb, eok, eon a (hne a ha)]
     have := t.om a
     omega
 · intro v
   rw [hop]
   by_cases e : v = k
   · subst e
     have := t.pn v hk h0
     rw [eok]
     refine ⟨fun _ => ⟨by omega, by show gi s.part v < 0; omega⟩, fun _ => .inr rfl⟩
   · rw [eon v e]
     show _ ↔ _ ∧ gi s.part v < 0
     rw [← t.mem v]
     simp [e]
 · rw [eF, List.pairwise_append]
   refine ⟨?_, by simp, fun a ha b hb => ?_⟩
   · refine List.Pairwise.imp_of_mem (fun {a b} ha hb hab => ?_) t.fpw
     rw [eon a (hne a (t.fin a ha)), eon b (hne b (t.fin b hb))]; exact hab
   · rw [List.mem_singleton.1 hb, eok, eon a (hne a (t.fin a ha))]
     have := t.om a
     omega
 · intro c hc
   rw [hop]
   rcases (hF c).1 hc with hc | hc
   · exact .inl (t.fin c hc)
   · exact .inr hc
 · intro p hp
   simp only [TS.enter, List.mem_append, List.mem_singleton] at hp
   rcases hp with hp | rfl
   · exact t.fj p hp
   · exact Nat.zero_le _
 · rw [eF]
   show (s.opn ++ [k]).head? = _
   rw [List.head?_append, List.head?_append, t.bot]
 · intro v w hv hw
   obtain ⟨h1, h2⟩ := hd v w hw
   rw [eon v h1] at hv
   by_cases e : w = k
   · refine .inl ?_
     rw [e, eok]
     omega
   · rw [eon w e]
     rcases t.vis v w hv h2 with h3 | h3
     · exact .inl h3
     · exact absurd (by simpa using h3.symm) e
 · intro c hc v hv h1
   rcases (hop v).1 hv with hv' | ev
   · rcases (hF c).1 hc with hc' | ec
     · rw [eon v (hne v hv'), eon c (hne c (t.fin c hc'))] at h1
       exact t.dsc c hc' v hv' h1
     · rw [ec, eok, eon v (hne v hv')] at h1
       have := t.om v
       omega
   · rw [ev]
     rcases (hF c).1 hc with hc' | ec
     · exact hr c hc'
     · rw [ec]; exact .refl _
 · intro v hv hp w hw
   have hvk : v ≠ k := fun e => by have := t.pn k hk h0; rw [e] at hp; change 0 ≤ gi s.part k at hp; omega
   rw [eon v hvk] at hv
   obtain ⟨h1, h2⟩ := t.cls v hv hp w hw
   refine ⟨?_, h2⟩
   rw [eo]; split
   · omega
   · exact h1
 · intro v hv hp
   have hvk : v ≠ k := fun e => by have := t.pn k hk h0; rw [e] at hp; change 0 ≤ gi s.part k at hp; omega
   rw [eon v hvk] at hv
   exact t.prt v hv hp
 · intro v hv
   rcases (hop v).1 hv with hv | rfl
   · obtain ⟨w, h1, h2, h3⟩ := t.lwr v hv
     exact ⟨w, (hop w).2 (.inl h1), by rw [eon w (hne w h1), eln v (hne v hv)]; exact h2, h3⟩
   · exact ⟨v, hv, by rw [eok, elk], .refl _⟩
 · intro v hv
   rcases (hop v).1 hv with hv | rfl
   · have q := t.lwf v hv
     rw [eon v (hne v hv), eln v (hne v hv)]
     exact ⟨q.1, fun hf => q.2 fun h => hf ((hF v).2 (.inl h))⟩
   · rw [eok, elk]
     exact ⟨Int.le_refl _, fun hf => absurd ((hF v).2 (.inr rfl)) hf⟩
 · intro c hc v hv h1 h2
   rcases (hop v).1 hv with hv' | ev
   · rcases (hF c).1 hc with hc' | ec
     · have hck := hne c (t.fin c hc')
       rw [eon v (hne v hv'), eon c hck] at h1
       obtain ⟨q1, q2⟩ := t.anc c hc' v hv' h1 fun q hq hle => by
        have := h2 q ((hF q).2 (.inl hq)) (by rw [eon q (hne q (t.fin q hq)), eon v (hne v hv')]; exact hle)
        rwa [eon q (hne q (t.fin q hq)), eon c hck] at this
       rw [eln c hck, eln v (hne v hv')]
       refine ⟨q1, fun w hw hwo => ?_⟩
       rcases (hop w).1 hwo with hwo' | ew
       · rw [eon w (hne w hwo')]; exact q2 w (hd v w hw).2 hwo'
       · rw [ew, eok]
         have a1 := (t.lwf c (t.fin c hc')).1
         have a2 := t.om c
         omega
     · rw [ec, eok, eon v (hne v hv')] at h1
       have := t.om v
       omega
   · have hck : c = v := by
      have a1 := h2 v ((hF v).2 (.inr ev)) (Int.le_refl _)
      rcases (hF c).1 hc with hc' | ec
      · rw [ev, eok, eon c (hne c (t.fin c hc'))] at a1
        have := t.om c
        omega
      · rw [ec, ev]
     rw [hck]
     exact ⟨Int.le_refl _, fun w hw _ => absurd ev (hd v w hw).1⟩
 · intro v hv hv0
   by_cases e : v = k
   · rw [e, eok] at hv0; omega
   · rw [eon v e] at hv0; exact t.pn v hv hv0
end
section
variable {nx : Nat → List Nat} {n : Nat} {x : Option Nat} {s : TS}

theorem leastOf_spec (a : Nat) : ∀ (C : List Nat), (leastOf a C = a ∨ leastOf a C ∈ C) ∧ leastOf a C ≤ a ∧ ∀ v ∈ C, leastOf a C ≤ v := by
 intro C
 induction C generalizing a with
 | nil => exact ⟨.inl rfl, Nat.le_refl _, fun v h => by cases h⟩
 | cons y C ih =>
   obtain ⟨h1, h2, h3⟩ := ih (min a y)
   have e : leastOf a (y :: C) = leastOf (min a y) C := rfl
   rw [e]
   refine ⟨?_, by omega, fun v hv => ?_⟩
   · rcases h1 with h1 | h1
     · rw [h1]
       by_cases hm : a ≤ y
       · left; omega
       · right; rw [Nat.min_eq_right (by omega)]; exact List.mem_cons_self
     · exact .inr (List.mem_cons_of_mem _ h1)
   · rcases List.mem_cons.1 hv with rfl | hv
     · omega
     · exact h3 v hv
theorem DQ (m : Nat) : ∀ (C : List Nat) (p : List Int), (A8 p C m).length = p.length
 | [], _ => rfl
 | k :: C, p => by
   have e : A8 p (k :: C) m = A8 (p.set k m) C m := rfl
   rw [e, DQ m C]; simp
theorem KB (m : Nat) (v : Nat) : ∀ (C : List Nat) (p : List Int), (∀ k ∈ C, k < p.length) → gi (A8 p C m) v = if v ∈ C then (m : Int) else gi p v
 | [], p, _ => by simp [A8]
 | k :: C, p, h => by
   have e : A8 p (k :: C) m = A8 (p.set k m) C m := rfl
   rw [e, KB m v C _ (fun j hj => by rw [List.length_set]; exact h j (List.mem_cons_of_mem _ hj)), Dn _ _ _ _ (h k List.mem_cons_self)]
   by_cases h1 : v ∈ C
   · rw [if_pos h1, if_pos (List.mem_cons_of_mem _ h1)]
   · rw [if_neg h1]
     by_cases h2 : v = k
     · rw [if_pos h2, if_pos (by rw [h2]; exact List.mem_cons_self)]
     · rw [if_neg h2, if_neg (by simp [h1, h2])]

theorem Fv (a : Nat) (h : s.calls.dropLast = []) : s.low1 a = s.low := by simp [TS.low1, h]
theorem JW (a : Nat) {p : Nat × Nat} (h : s.calls.dropLast.getLast? = some p) : s.low1 a = s.low.set p.1 (min (gi s.low p.1) (gi s.low a)) := by simp [TS.low1, h]

structure AtEnd (nx : Nat → List Nat) (n : Nat) (s : TS) (a : Nat) : Prop where
 inv : BY nx n none s
 last : ∃ p, s.calls.getLast? = some p ∧ p.1 = a ∧ p.2 = (nx a).length
namespace AtEnd
variable {a : Nat}
theorem aF (t : AtEnd nx n s a) : a ∈ s.F := by
 obtain ⟨p, h, e, _⟩ := t.last
 rw [← e]; exact List.mem_map.2 ⟨p, F7 h, rfl⟩
theorem ao (t : AtEnd nx n s a) : a ∈ s.opn := t.inv.fin a t.aF
theorem an (t : AtEnd nx n s a) : a < n := t.inv.lt ((t.inv.mem a).1 t.ao).1
theorem eF (t : AtEnd nx n s a) : s.F = s.calls.dropLast.map Prod.fst ++ [a] := by
 obtain ⟨p, h, e, _⟩ := t.last
 rw [OS h, e]
theorem last_le (t : AtEnd nx n s a) : ∀ c ∈ s.F, gi s.order c ≤ gi s.order a := by
 obtain ⟨p, h, e, _⟩ := t.last
 rw [← e]; exact t.inv.last_le h
theorem f0 (t : AtEnd nx n s a) {c : Nat} (hc : c ∈ s.calls.dropLast.map Prod.fst) : c ∈ s.F ∧ gi s.order c < gi s.order a := by
 have hp := t.inv.fpw
 rw [t.eF, List.pairwise_append] at hp
 exact ⟨by rw [t.eF]; exact List.mem_append.2 (.inl hc), hp.2.2 c hc a (by simp)⟩
theorem f0_iff (t : AtEnd nx n s a) {c : Nat} : c ∈ s.calls.dropLast.map Prod.fst ↔ c ∈ s.F ∧ c ≠ a := by
 refine ⟨fun h => ⟨(t.f0 h).1, fun e => ?_⟩, fun ⟨h, e⟩ => ?_⟩
 · have := (t.f0 h).2; rw [e] at this; omega
 · rw [t.eF] at h
   rcases List.mem_append.1 h with h | h
   · exact h
   · exact absurd (List.mem_singleton.1 h) e
theorem done_a (t : AtEnd nx n s a) {w : Nat} (hw : w ∈ nx a) : s.done nx a w := by
 obtain ⟨p, h, e, e2⟩ := t.last
 refine ⟨hw, fun j hj => ?_⟩
 have : j = p.2 := t.inv.frame_uniq hj (by rw [← e]; exact F7 h)
 rw [this, e2, List.take_length]; exact hw
theorem pop_done (t : AtEnd nx n s a) {v w : Nat} (hd : (s.pop a).done nx v w) : s.done nx v w := by
 by_cases e : v = a
 · rw [e]; rw [e] at hd; exact t.done_a hd.1
 · refine ⟨hd.1, fun j hj => hd.2 j ?_⟩
   obtain ⟨p, h, e1, _⟩ := t.last
   rw [FK h] at hj
   rcases List.mem_append.1 hj with hj | hj
   · exact hj
   · rw [List.mem_singleton] at hj; rw [← hj] at e1; exact absurd e1 e
theorem up (t : AtEnd nx n s a) {p : Nat × Nat} (h : s.calls.dropLast.getLast? = some p) : p.1 ∈ s.calls.dropLast.map Prod.fst ∧ ∀ c ∈ s.calls.dropLast.map Prod.fst, gi s.order c ≤ gi s.order p.1 := by
 obtain ⟨ys, hy⟩ := List.getLast?_eq_some_iff.1 h
 refine ⟨by rw [hy]; simp, fun c hc => ?_⟩
 have hp := t.inv.fpw
 rw [t.eF, List.pairwise_append, hy, List.map_append, List.pairwise_append] at hp
 rw [hy, List.map_append] at hc
 rcases List.mem_append.1 hc with hc | hc
 · have := hp.1.2.2 c hc p.1 (by simp); omega
 · simp at hc; rw [hc]; exact Int.le_refl _
theorem low1_get (t : AtEnd nx n s a) {p : Nat × Nat} (h : s.calls.dropLast.getLast? = some p) (v : Nat) : gi (s.low1 a) v = if v = p.1 then min (gi s.low p.1) (gi s.low a) else gi s.low v := by
 rw [JW a h]
 refine Dn _ _ _ _ ?_
 rw [t.inv.ll]
 exact t.inv.lt ((t.inv.mem _).1 (t.inv.fin _ (t.f0 (t.up h).1).1)).1
theorem low1_le (t : AtEnd nx n s a) (v : Nat) : gi (s.low1 a) v ≤ gi s.low v := by
 cases h : s.calls.dropLast.getLast? with
 | none => rw [Fv a (List.getLast?_eq_none_iff.1 h)]; exact Int.le_refl _
 | some p =>
   rw [t.low1_get h]; split
   · rename_i e; rw [e]; omega
   · exact Int.le_refl _
theorem low1_a (t : AtEnd nx n s a) : gi (s.low1 a) a = gi s.low a := by
 cases h : s.calls.dropLast.getLast? with
 | none => rw [Fv a (List.getLast?_eq_none_iff.1 h)]
 | some p =>
   rw [t.low1_get h, if_neg]
   intro e
   have := (t.f0 (t.up h).1).2
   rw [e] at this; omega
theorem low1_len (t : AtEnd nx n s a) : (s.low1 a).length = n := by
 cases h : s.calls.dropLast.getLast? with
 | none => rw [Fv a (List.getLast?_eq_none_iff.1 h)]; exact t.inv.ll
 | some p => rw [JW a h]; simp [t.inv.ll]

theorem pop (t : AtEnd nx n s a) (hne : gi s.low a ≠ gi s.order a) : BY nx n none (s.pop a) := by
 have i := t.inv
 have hF0 : s.calls.dropLast ≠ [] := by
  intro h0
  have e1 := t.eF
  rw [h0] at e1
  obtain ⟨w, hw, h1, _⟩ := i.lwr a t.ao
  have hb := i.bot
  rw [e1] at hb
  have := (i.lwf a t.ao).1
  have hle : gi s.order a ≤ gi s.order w := by
   cases ho : s.opn with
   | nil => rw [ho] at hw; cases hw
   | cons y l =>
     rw [ho] at hb
     simp at hb
     have hp := i.pw
     rw [ho, List.pairwise_cons] at hp
     rw [ho] at hw
     rcases List.mem_cons.1 hw with rfl | hw
     · rw [hb]; exact Int.le_refl _
     · have := hp.1 w hw; rw [hb] at this; omega
  omega
 obtain ⟨p, hp⟩ : ∃ p, s.calls.dropLast.getLast? = some p := by
  cases h : s.calls.dropLast.getLast? with
  | none => exact absurd (List.getLast?_eq_none_iff.1 h) hF0
  | some p => exact ⟨p, rfl⟩
 have hup := t.up hp
 have hupF := t.f0 hup.1
 have hpop : ∀ c, c ∈ (s.pop a).F ↔ c ∈ s.F ∧ c ≠ a := fun c => t.f0_iff
 have hdsc : Rch nx p.1 a := i.dsc p.1 hupF.1 a t.ao (by omega)
 refine { lo := i.lo, ll := t.low1_len, lp := i.lp, om := i.om, pw := i.pw, mem := i.mem, fpw := ?_, fin := fun c hc => i.fin c ((hpop c).1 hc).1, fj := fun q hq => i.fj q (List.dropLast_subset _ hq), bot := ?_, vis := fun v w hv hd => i.vis v w hv (t.pop_done hd), dsc := fun c hc => i.dsc c ((hpop c).1 hc).1, cls := i.cls, prt := i.prt, lwr := ?_, lwf := ?_, anc := ?_, pn := i.pn }
 · have := i.fpw
   rw [t.eF, List.pairwise_append] at this
   exact this.1
 · show s.opn.head? = (s.calls.dropLast.map Prod.fst).head?
   rw [i.bot, t.eF, List.head?_append]
   cases h : s.calls.dropLast with
   | nil => exact absurd h hF0
   | cons y l => rfl
 · intro v hv
   show ∃ w ∈ s.opn, gi s.order w = gi (s.low1 a) v ∧ _
   rw [t.low1_get hp]
   by_cases e : v = p.1
   · rw [if_pos e]
     by_cases hm : gi s.low p.1 ≤ gi s.low a
     · rw [Int.min_eq_left hm, e]; exact i.lwr _ (i.fin _ hupF.1)
     · obtain ⟨w, h1, h2, h3⟩ := i.lwr a t.ao
       rw [Int.min_eq_right (by omega), e]
       exact ⟨w, h1, h2, hdsc.trans h3⟩
   · rw [if_neg e]; exact i.lwr v hv
 · intro v hv
   have q := i.lwf v hv
   have q' := t.low1_le v
   refine ⟨Int.le_trans q' q.1, fun hf => ?_⟩
   by_cases e : v = a
   · rw [e]
     have := (i.lwf a t.ao).1
     have h1 := t.low1_a
     show gi (s.low1 a) a < gi s.order a
     omega
   · exact Int.lt_of_le_of_lt q' (q.2 fun h => hf ((hpop v).2 ⟨h, e⟩))
 · intro c hc v hv h1 h2
   obtain ⟨hcF, hca⟩ := (hpop c).1 hc
   show gi (s.low1 a) c ≤ gi (s.low1 a) v ∧ ∀ w, _ → w ∈ s.opn → gi (s.low1 a) c ≤ gi s.order w
   by_cases hav : gi s.order a ≤ gi s.order v
   · have hcp : c = p.1 := by
      have q := h2 p.1 hup.1 (by show gi s.order p.1 ≤ gi s.order v; omega)
      exact i.inj (i.fin c hcF) (i.fin _ hupF.1) (Int.le_antisymm (hup.2 c (t.f0_iff.2 ⟨hcF, hca⟩)) q)
     obtain ⟨q1, q2⟩ := i.anc a t.aF v hv hav fun q hq _ => t.last_le q hq
     have hvp : v ≠ p.1 := fun e => by rw [e] at hav; omega
     have el : gi (s.low1 a) c ≤ gi s.low a := by rw [t.low1_get hp, if_pos hcp]; omega
     refine ⟨?_, fun w hd hw => ?_⟩
     · rw [t.low1_get hp v, if_neg hvp]; omega
     · have := q2 w (t.pop_done hd) hw; omega
   · obtain ⟨q1, q2⟩ := i.anc c hcF v hv h1 fun q hq hle => by
      by_cases e : q = a
      · rw [e] at hle; omega
      · exact h2 q ((hpop q).2 ⟨hq, e⟩) hle
     have el := t.low1_le c
     refine ⟨?_, fun w hd hw => ?_⟩
     · by_cases e : v = p.1
       · have hcv : c = p.1 := by
          have q := h2 p.1 hup.1 (by rw [← e]; exact Int.le_refl _)
          exact i.inj (i.fin c hcF) (i.fin _ hupF.1) (Int.le_antisymm (hup.2 c (t.f0_iff.2 ⟨hcF, hca⟩)) q)
         rw [hcv, e]; exact Int.le_refl _
       · rw [t.low1_get hp v, if_neg e]; omega
     · have := q2 w (t.pop_done hd) hw; omega

theorem split_at (t : AtEnd nx n s a) : ∃ A B, s.opn = A ++ a :: B ∧ a ∉ A ∧ s.opn.take (s.opn.idxOf a) = A ∧ s.opn.drop (s.opn.idxOf a) = a :: B := by
 obtain ⟨A, B, e, hA⟩ : ∃ A B, s.opn = A ++ a :: B ∧ a ∉ A := List.mem_iff_append.1 t.ao |> fun ⟨A, B, e⟩ => by
  refine ⟨A, B, e, fun hA => ?_⟩
  have hp := t.inv.pw
  rw [e, List.pairwise_append] at hp
  have := hp.2.2 a hA a (by simp)
  omega
 have hi : s.opn.idxOf a = A.length := by
  rw [e, List.idxOf_append, if_neg hA]; simp
 exact ⟨A, B, e, hA, by rw [hi, e, List.take_left], by rw [hi, e, List.drop_left]⟩

theorem leave (t : AtEnd nx n s a) (heq : gi s.low a = gi s.order a) : BY nx n none { s.pop a with part := A8 s.part (s.opn.drop (s.opn.idxOf a)) (Go.Sp.leastOf a (s.opn.drop (s.opn.idxOf a))), opn := s.opn.take (s.opn.idxOf a) } := by
 have i := t.inv
 obtain ⟨A, B, e, hA, e1, e2⟩ := t.split_at
 rw [e1, e2]
 have hpw := i.pw
 rw [e, List.pairwise_append, List.pairwise_cons] at hpw
 have hAlt : ∀ v ∈ A, gi s.order v < gi s.order a := fun v hv => hpw.2.2 v hv a (by simp)
 have hClt : ∀ v ∈ a :: B, gi s.order a ≤ gi s.order v := fun v hv => by
  rcases List.mem_cons.1 hv with rfl | hv
  · exact Int.le_refl _
  · have := hpw.2.1.1 v hv; omega
 have hop : ∀ v, v ∈ s.opn ↔ v ∈ A ∨ v ∈ a :: B := fun v => by rw [e, List.mem_append]
 have hAC : ∀ v ∈ A, v ∉ a :: B := fun v h1 h2 => by have q1 := hAlt v h1; have q2 := hClt v h2; omega
 have hCn : ∀ k ∈ a :: B, k < s.part.length := fun k hk => by rw [i.lp]; exact i.lt ((i.mem k).1 ((hop k).2 (.inr hk))).1
 have hpop : ∀ c, c ∈ s.calls.dropLast.map Prod.fst ↔ c ∈ s.F ∧ c ≠ a := fun c => t.f0_iff
 -- low stands
 have ME : ∀ v, gi (s.low1 a) v = gi s.low v := fun v => by
  cases h : s.calls.dropLast.getLast? with
  | none => rw [Fv a (List.getLast?_eq_none_iff.1 h)]
  | some p =>
    rw [t.low1_get h]; split
    · rename_i ev
      have q1 := (t.f0 (t.up h).1)
      have q2 := (i.lwf p.1 (i.fin _ q1.1)).1
      rw [ev, Int.min_eq_left (by omega)]
    · rfl
 -- those that are open from a on
 have hanc : ∀ v ∈ a :: B, gi s.order a ≤ gi s.low v ∧ ∀ w, s.done nx v w → w ∈ s.opn → gi s.order a ≤ gi s.order w := fun v hv => by
  rw [← heq]
  exact i.anc a t.aF v ((hop v).2 (.inr hv)) (hClt v hv) fun q hq _ => t.last_le q hq
 have hCF : ∀ v ∈ a :: B, v ≠ a → v ∉ s.F := fun v hv hne hf => by
  have h1 := t.last_le v hf
  have h2 := hClt v hv
  exact hne (i.inj ((hop v).2 (.inr hv)) t.ao (Int.le_antisymm h1 h2))
 have hdone : ∀ v ∈ a :: B, ∀ w ∈ nx v, s.done nx v w := fun v hv w hw => by
  by_cases hva : v = a
  · rw [hva] at hw ⊢; exact t.done_a hw
  · exact ⟨hw, fun j hj => absurd (List.mem_map.2 ⟨_, hj, rfl⟩) (hCF v hv hva)⟩
 have hin : ∀ w, w ∈ s.opn → gi s.order a ≤ gi s.order w → w ∈ a :: B := fun w hw hle => by
  rcases (hop w).1 hw with h | h
  · have := hAlt w h; omega
  · exact h
 have hout : ∀ v ∈ a :: B, ∀ w ∈ nx v, w ∈ a :: B ∨ (gi s.order w ≠ 0 ∧ 0 ≤ gi s.part w) := fun v hv w hw => by
  have hd := hdone v hv w hw
  have hvis : gi s.order w ≠ 0 := by
   rcases i.vis v w ((i.mem v).1 ((hop v).2 (.inr hv))).1 hd with h | h
   · exact h
   · cases h
  by_cases hwo : w ∈ s.opn
  · exact .inl (hin w hwo ((hanc v hv).2 w hd hwo))
  · refine .inr ⟨hvis, ?_⟩
    have := mt (i.mem w).2 hwo
    by_cases hp : gi s.part w < 0
    · exact absurd ⟨hvis, hp⟩ this
    · omega
 have hback : ∀ (m : Nat) (v : Nat), v ∈ a :: B → (gi s.order v).toNat < m → Rch nx v a := by
  intro m
  induction m with
  | zero => intro v _ h; omega
  | succ m ih =>
    intro v hv hm
    by_cases hva : v = a
    · rw [hva]; exact .refl _
    obtain ⟨w, h1, h2, h3⟩ := i.lwr v ((hop v).2 (.inr hv))
    have h4 := (i.lwf v ((hop v).2 (.inr hv))).2 (hCF v hv hva)
    have h5 := (hanc v hv).1
    have h6 := i.om w
    have hw := hin w h1 (by omega)
    exact h3.trans (ih w hw (by omega))
 have hto : ∀ v ∈ a :: B, Rch nx v a := fun v hv => hback _ v hv (Nat.lt_succ_self _)
 have hfro : ∀ v ∈ a :: B, Rch nx a v := fun v hv => i.dsc a t.aF v ((hop v).2 (.inr hv)) (hClt v hv)
 have hclosed : ∀ u, u ∈ a :: B ∨ (gi s.order u ≠ 0 ∧ 0 ≤ gi s.part u) → ∀ w ∈ nx u, w ∈ a :: B ∨ (gi s.order w ≠ 0 ∧ 0 ≤ gi s.part w) := fun u hu w hw => by
  rcases hu with hu | ⟨h1, h2⟩
  · exact hout u hu w hw
  · exact .inr (i.cls u h1 h2 w hw)
 have hcls2 : ∀ u, (gi s.order u ≠ 0 ∧ 0 ≤ gi s.part u) → ∀ w ∈ nx u, (gi s.order w ≠ 0 ∧ 0 ≤ gi s.part w) := fun u hu w hw => i.cls u hu.1 hu.2 w hw
 obtain ⟨g1, g2, g3⟩ := leastOf_spec a (a :: B)
 have hmC : Go.Sp.leastOf a (a :: B) ∈ a :: B := by
  rcases g1 with g1 | g1
  · rw [g1]; exact List.mem_cons_self
  · exact g1
 have hlst : ∀ v ∈ a :: B, EV nx v ((Go.Sp.leastOf a (a :: B) : Nat) : Int) := fun v hv => by
  refine ⟨_, rfl, (hto v hv).trans (hfro _ hmC), (hto _ hmC).trans (hfro v hv), fun u h1 h2 => ?_⟩
  rcases Rch.closed hclosed h1 (.inl hv) with h3 | h3
  · exact g3 u h3
  · have h4 := Rch.closed hcls2 h2 h3
    have h5 := ((i.mem v).1 ((hop v).2 (.inr hv))).2
    omega
 have ep : ∀ v, gi (A8 s.part (a :: B) (Go.Sp.leastOf a (a :: B))) v = if v ∈ a :: B then ((Go.Sp.leastOf a (a :: B) : Nat) : Int) else gi s.part v := fun v => KB _ v _ _ hCn
 refine { lo := i.lo, ll := t.low1_len, lp := by rw [← i.lp]; exact DQ _ _ _, om := i.om, pw := hpw.1, mem := ?_, fpw := ?_, fin := ?_, fj := fun q hq => i.fj q (List.dropLast_subset _ hq), bot := ?_, vis := fun v w hv hd => i.vis v w hv (t.pop_done hd), dsc := ?_, cls := ?_, prt := ?_, lwr := ?_, lwf := ?_, anc := ?_, pn := ?_ }
 · intro v
   show v ∈ A ↔ gi s.order v ≠ 0 ∧ gi (A8 _ _ _) v < 0
   rw [ep]
   by_cases hv : v ∈ a :: B
   · rw [if_pos hv]
     refine ⟨fun h => absurd hv (hAC v h), fun h => ?_⟩
     omega
   · rw [if_neg hv, ← i.mem v, hop v]
     simp [hv]
 · have := i.fpw
   rw [t.eF, List.pairwise_append] at this
   exact this.1
 · intro c hc
   have hc' := t.f0 hc
   rcases (hop c).1 (i.fin c hc'.1) with h | h
   · exact h
   · have := hClt c h; omega
 · show A.head? = (s.calls.dropLast.map Prod.fst).head?
   have hb := i.bot
   rw [t.eF, e, List.head?_append, List.head?_append] at hb
   cases hA' : A with
   | nil =>
     cases h0 : s.calls.dropLast.map Prod.fst with
     | nil => rfl
     | cons c l =>
       rw [hA', h0] at hb
       simp at hb
       have := (t.f0 (c := c) (by rw [h0]; exact List.mem_cons_self)).2
       rw [hb] at this; omega
   | cons y l =>
     cases h0 : s.calls.dropLast.map Prod.fst with
     | nil =>
       rw [hA', h0] at hb
       simp at hb
       exact absurd (by rw [hA', hb]; exact List.mem_cons_self) hA
     | cons c l' =>
       rw [hA', h0] at hb
       simpa using hb
 · intro c hc v hv h1
   exact i.dsc c (t.f0 hc).1 v ((hop v).2 (.inl hv)) h1
 · intro v hv hp w hw
   show gi s.order w ≠ 0 ∧ 0 ≤ gi (A8 _ _ _) w
   have hp' : 0 ≤ gi (A8 s.part (a :: B) (Go.Sp.leastOf a (a :: B))) v := hp
   have hcl : w ∈ a :: B ∨ (gi s.order w ≠ 0 ∧ 0 ≤ gi s.part w) := by
    by_cases hvC : v ∈ a :: B
    · exact hout v hvC w hw
    · rw [ep, if_neg hvC] at hp'
      exact .inr (i.cls v hv hp' w hw)
   rcases hcl with h | h
   · rw [ep, if_pos h]
     exact ⟨((i.mem w).1 ((hop w).2 (.inr h))).1, by omega⟩
   · refine ⟨h.1, ?_⟩
     rw [ep]; split
     · omega
     · exact h.2
 · intro v hv hp
   show EV nx v (gi (A8 _ _ _) v)
   have hp' : 0 ≤ gi (A8 s.part (a :: B) (Go.Sp.leastOf a (a :: B))) v := hp
   rw [ep] at hp' ⊢
   by_cases hvC : v ∈ a :: B
   · rw [if_pos hvC]; exact hlst v hvC
   · rw [if_neg hvC] at hp' ⊢
     exact i.prt v hv hp'
 · intro v hv
   obtain ⟨w, h1, h2, h3⟩ := i.lwr v ((hop v).2 (.inl hv))
   refine ⟨w, ?_, by show gi s.order w = gi (s.low1 a) v; rw [ME]; exact h2, h3⟩
   rcases (hop w).1 h1 with h | h
   · exact h
   · have q1 := hClt w h
     have q2 := (i.lwf v ((hop v).2 (.inl hv))).1
     have q3 := hAlt v hv
     omega
 · intro v hv
   show gi (s.low1 a) v ≤ gi s.order v ∧ (v ∉ s.calls.dropLast.map Prod.fst → gi (s.low1 a) v < gi s.order v)
   rw [ME]
   have q := i.lwf v ((hop v).2 (.inl hv))
   exact ⟨q.1, fun hf => q.2 fun h => hf ((hpop v).2 ⟨h, fun e => hA (e ▸ hv)⟩)⟩
 · intro c hc v hv h1 h2
   show gi (s.low1 a) c ≤ gi (s.low1 a) v ∧ ∀ w, _ → w ∈ A → gi (s.low1 a) c ≤ gi s.order w
   rw [ME, ME]
   obtain ⟨q1, q2⟩ := i.anc c (t.f0 hc).1 v ((hop v).2 (.inl hv)) h1 fun q hq hle => by
    by_cases eq : q = a
    · have q3 := hAlt v hv; rw [eq] at hle; omega
    · exact h2 q ((hpop q).2 ⟨hq, eq⟩) hle
   exact ⟨q1, fun w hd hw => q2 w (t.pop_done hd) ((hop w).2 (.inl hw))⟩
 · intro v hv h0
   show gi (A8 _ _ _) v = -1
   rw [ep, if_neg]
   · exact i.pn v hv h0
   · intro hC
     exact ((i.mem v).1 ((hop v).2 (.inr hC))).1 h0
end AtEnd

theorem BY.go (hn : ∀ i, ∀ k ∈ nx i, k < n) (t : BY nx n none s) : BY nx n none (s.go nx) := by
 unfold TS.go
 cases h : s.calls.getLast? with
 | none => exact t
 | some p =>
   dsimp only
   by_cases hj : p.2 < (nx p.1).length
   · rw [dif_pos hj]
     have hpF : p.1 ∈ s.F := List.mem_map.2 ⟨p, F7 h, rfl⟩
     by_cases h0 : gi s.order (nx p.1)[p.2] = 0
     · rw [if_pos h0]
       refine BY.enter (t.next h hj _ (.inr rfl) fun ho => ((t.mem _).1 ho).1 h0) (hn p.1 _ (List.getElem_mem _)) h0 fun c hc => ?_
       rw [Si h] at hc
       exact .step (t.dsc c hc p.1 (t.fin _ hpF) (t.last_le h c hc)) (List.getElem_mem _)
     · rw [if_neg h0]
       by_cases h1 : gi s.part (nx p.1)[p.2] < 0
       · rw [if_pos h1]; exact t.lower h hj ((t.mem _).2 ⟨h0, h1⟩)
       · rw [if_neg h1]; exact t.next h hj none (.inl h0) fun ho => h1 ((t.mem _).1 ho).2
   · rw [dif_neg hj]
     have ha : AtEnd nx n s p.1 := ⟨t, p, h, rfl, by have := t.fj p (F7 h); omega⟩
     unfold TS.leave
     rw [ha.low1_a]
     by_cases he : gi s.low p.1 = gi s.order p.1
     · rw [if_neg (by simpa using he)]; exact ha.leave he
     · rw [if_pos he]; exact ha.pop he
def TS.init (n : Nat) : TS := ⟨List.replicate n 0, List.replicate n 0, List.replicate n (-1), [], [], 0⟩
theorem IH (n i : Nat) : gi (List.replicate n 0) i = 0 := by
 unfold gi; rw [List.getElem?_replicate]; split <;> rfl
theorem BY.init (nx : Nat → List Nat) (n : Nat) : BY nx n none (TS.init n) where
 lo := by simp [TS.init]
 ll := by simp [TS.init]
 lp := by simp [TS.init]
 om v := by simp [TS.init, IH]
 pw := by simp [TS.init]
 mem v := by simp [TS.init, IH]
 fpw := by simp [TS.init, TS.F]
 fin := by simp [TS.init, TS.F]
 fj := by simp [TS.init]
 bot := rfl
 vis v w h := absurd (IH n v) h
 dsc := by simp [TS.init, TS.F]
 cls v h := absurd (IH n v) h
 prt v h := absurd (IH n v) h
 lwr := by simp [TS.init]
 lwf := by simp [TS.init]
 anc := by simp [TS.init, TS.F]
 pn v hv _ := by simp [TS.init, gi, List.getElem?_replicate, hv]
theorem BY.root {k : Nat} (t : BY nx n none s) (hc : s.calls = []) (hk : k < n) (h0 : gi s.order k = 0) : BY nx n none (s.enter k) := by
 refine BY.enter { t with vis := fun v w hv hd => .inl ?_ } hk h0 fun c hc' => ?_
 · rcases t.vis v w hv hd with h | h
   · exact h
   · cases h
 · simp [TS.F, hc] at hc'
theorem BY.calm (t : BY nx n none s) (hc : s.calls = []) {v : Nat} (hv : gi s.order v ≠ 0) : EV nx v (gi s.part v) := by
 have ho : s.opn = [] := by
  have := t.bot
  rw [TS.F, hc] at this
  cases h : s.opn with
  | nil => rfl
  | cons _ _ => rw [h] at this; simp at this
 have hp : ¬ gi s.part v < 0 := fun h => by
  have := (t.mem v).2 ⟨hv, h⟩
  rw [ho] at this; cases this
 exact t.prt v hv (by omega)
theorem Rk (t : BY nx n none s) {v : Nat} (hv : gi s.order v ≠ 0) : gi (s.go nx).order v ≠ 0 := by
 unfold TS.go
 cases h : s.calls.getLast? with
 | none => exact hv
 | some p =>
   dsimp only
   split
   · split
     · rename_i hj h0
       show gi (s.order.set _ _) v ≠ 0
       by_cases hk : (nx p.1)[p.2] < s.order.length
       · rw [Dn _ _ _ _ hk]
         split
         · show ((s.met : Int) + 1) ≠ 0; omega
         · exact hv
       · rw [List.set_eq_of_length_le (by omega)]; exact hv
     · split <;> exact hv
   · unfold TS.leave
     split <;> exact hv
theorem PJ {v : Nat} {m m' : Int} (h : EV nx v m) (h' : EV nx v m') : m = m' := by
 obtain ⟨k, rfl, a1, a2, a3⟩ := h
 obtain ⟨k', rfl, b1, b2, b3⟩ := h'
 have h1 := a3 k' b1 b2
 have h2 := b3 k a1 a2
 omega
end
open Go.Av
section
variable {nx : Nat → List Nat} {n : Nat} {x : Option Nat} {s : TS}
def I9 (n : Nat) (f : Nat → Nat) : Nat := ((List.range n).map f).sum
theorem Fw (n : Nat) (f : Nat → Nat) : I9 (n + 1) f = I9 n f + f n := by simp [I9, List.range_succ]
theorem NU {f g : Nat → Nat} : ∀ n, (∀ v, v < n → f v = g v) → I9 n f = I9 n g
 | 0, _ => rfl
 | n + 1, h => by rw [Fw, Fw, NU n (fun v hv => h v (by omega)), h n (by omega)]
theorem LS {f g : Nat → Nat} {k : Nat} : ∀ n, k < n → (∀ v, v ≠ k → f v = g v) → I9 n f + g k = I9 n g + f k
 | 0, h, _ => by omega
 | n + 1, h, he => by
   rw [Fw, Fw]
   by_cases hk : k = n
   · rw [NU (g := g) n fun v hv => he v (by omega), hk]; omega
   · have := LS n (by omega) he
     rw [he n (by omega)]
     omega
def wt (nx : Nat → List Nat) (p : Nat × Nat) : Nat := (nx p.1).length - p.2 + 1
def TS.mu (nx : Nat → List Nat) (n : Nat) (s : TS) : Nat := I9 n (fun v => if gi s.order v = 0 then (nx v).length + 2 else 0) + (s.calls.map (wt nx)).sum
theorem cB (hn : ∀ i, ∀ k ∈ nx i, k < n) (t : BY nx n none s) {p : Nat × Nat} (h : s.calls.getLast? = some p) : (s.go nx).mu nx n < s.mu nx n := by
 have e : (s.calls.map (wt nx)).sum = (s.calls.dropLast.map (wt nx)).sum + wt nx p := by
  conv => lhs; rw [FK h]
  simp
 unfold TS.go
 rw [h]
 dsimp only
 by_cases hj : p.2 < (nx p.1).length
 · rw [dif_pos hj]
   have hw : wt nx (p.1, p.2 + 1) + 1 = wt nx p := by unfold wt; dsimp only; omega
   have hk := hn p.1 _ (List.getElem_mem hj)
   by_cases h0 : gi s.order (nx p.1)[p.2] = 0
   · rw [if_pos h0]
     have e2 : (((s.next p.1 p.2).enter (nx p.1)[p.2]).calls.map (wt nx)).sum = (s.calls.dropLast.map (wt nx)).sum + wt nx (p.1, p.2 + 1) + wt nx ((nx p.1)[p.2], 0) := by
      simp [TS.enter, TS.next, Nat.add_assoc]
     have hs := LS (f := fun v => if gi ((s.next p.1 p.2).enter (nx p.1)[p.2]).order v = 0 then (nx v).length + 2 else 0) (g := fun v => if gi s.order v = 0 then (nx v).length + 2 else 0) (k := (nx p.1)[p.2]) n hk fun v hv => by
      have : gi ((s.next p.1 p.2).enter (nx p.1)[p.2]).order v = gi s.order v := by
       show gi (s.order.set _ _) v = _
       rw [Dn _ _ _ _ (by rw [t.lo]; exact hk), if_neg hv]
      rw [this]
     have e3 : gi ((s.next p.1 p.2).enter (nx p.1)[p.2]).order (nx p.1)[p.2] = (s.met : Int) + 1 := by
      show gi (s.order.set _ _) _ = _
      rw [Dn _ _ _ _ (by rw [t.lo]; exact hk), if_pos rfl]; rfl
     rw [e3, if_pos h0, if_neg (by omega)] at hs
     unfold TS.mu
     rw [e2, e]
     have : wt nx ((nx p.1)[p.2], 0) = (nx (nx p.1)[p.2]).length + 1 := rfl
     omega
   · rw [if_neg h0]
     have e2 : ((s.next p.1 p.2).calls.map (wt nx)).sum = (s.calls.dropLast.map (wt nx)).sum + wt nx (p.1, p.2 + 1) := by simp [TS.next]
     have e3 : (((s.next p.1 p.2).lower p.1 (nx p.1)[p.2]).calls.map (wt nx)).sum = (s.calls.dropLast.map (wt nx)).sum + wt nx (p.1, p.2 + 1) := e2
     split
     · unfold TS.mu
       rw [e3, e]
       show I9 n (fun v => if gi s.order v = 0 then _ else 0) + _ < _
       omega
     · unfold TS.mu
       rw [e2, e]
       show I9 n (fun v => if gi s.order v = 0 then _ else 0) + _ < _
       omega
 · rw [dif_neg hj]
   unfold TS.leave
   have : 0 < wt nx p := by unfold wt; omega
   split
   · unfold TS.mu
     rw [e]
     show I9 n (fun v => if gi s.order v = 0 then _ else 0) + (s.calls.dropLast.map (wt nx)).sum < _
     omega
   · unfold TS.mu
     rw [e]
     show I9 n (fun v => if gi s.order v = 0 then _ else 0) + (s.calls.dropLast.map (wt nx)).sum < _
     omega
end

section
variable {nx : Nat → List Nat} {n : Nat} {s : TS}
theorem len_le : ∀ (n : Nat) (l : List Nat), l.Nodup → (∀ v ∈ l, v < n) → l.length ≤ n
 | 0, l, _, h => by
   cases l with
   | nil => exact Nat.le_refl _
   | cons v l => have := h v List.mem_cons_self; omega
 | n + 1, l, hd, h => by
   by_cases hn : n ∈ l
   · have h1 := List.length_erase_of_mem hn
     have h2 := len_le n (l.erase n) (hd.erase n) fun v hv => by
      have h3 := (hd.mem_erase_iff).1 hv
      have := h v h3.2
      have : v ≠ n := h3.1
      omega
     omega
   · have := len_le n l hd fun v hv => by
      have := h v hv
      have : v ≠ n := fun e => hn (e ▸ hv)
      omega
     omega
theorem LZ {l : List Nat} {f : Nat → Int} (h : l.Pairwise (fun a b => f a < f b)) : l.Nodup :=
 List.Pairwise.imp (fun {a b} hab e => by rw [e] at hab; omega) h
def TS.un (n : Nat) (s : TS) : Nat := I9 n fun v => if gi s.order v = 0 then 1 else 0
theorem Re {k : Nat} (hl : s.order.length = n) (hk : k < n) (h0 : gi s.order k = 0) : (s.enter k).met + (s.enter k).un n = s.met + s.un n := by
 have hs := LS (f := fun v => if gi (s.enter k).order v = 0 then 1 else 0) (g := fun v => if gi s.order v = 0 then 1 else 0) (k := k) n hk fun v hv => by
  have : gi (s.enter k).order v = gi s.order v := by
   show gi (s.order.set _ _) v = _
   rw [Dn _ _ _ _ (by rw [hl]; exact hk), if_neg hv]
  rw [this]
 have e3 : gi (s.enter k).order k = (s.met : Int) + 1 := by
  show gi (s.order.set _ _) _ = _
  rw [Dn _ _ _ _ (by rw [hl]; exact hk), if_pos rfl]
 rw [e3, if_pos h0, if_neg (by omega)] at hs
 unfold TS.un
 show s.met + 1 + _ = _
 omega
theorem b8 (hn : ∀ i, ∀ k ∈ nx i, k < n) (hl : s.order.length = n) : (s.go nx).met + (s.go nx).un n = s.met + s.un n := by
 unfold TS.go
 cases h : s.calls.getLast? with
 | none => rfl
 | some p =>
   dsimp only
   split
   · rename_i hj
     split
     · rename_i h0
       exact Re (s := s.next p.1 p.2) hl (hn p.1 _ (List.getElem_mem hj)) h0
     · split <;> rfl
   · unfold TS.leave
     split <;> rfl
theorem BY.opn_len {x : Option Nat} (t : BY nx n x s) : s.opn.length ≤ n := len_le n _ (LZ t.pw) fun v hv => t.lt ((t.mem v).1 hv).1
theorem BY.calls_len {x : Option Nat} (t : BY nx n x s) : s.calls.length ≤ n := by
 have := len_le n s.F (LZ t.fpw) fun v hv => t.lt ((t.mem v).1 (t.fin v hv)).1
 simpa using this
theorem BY.idx {x : Option Nat} (t : BY nx n x s) {a : Nat} (i : Nat) (hi : i < s.opn.length) (h : s.opn[i] = a) : i = s.opn.idxOf a := by
 subst h
 exact ((LZ t.pw).idxOf_getElem i hi).symm
theorem bN (n : Nat) : (TS.init n).met + (TS.init n).un n ≤ n := by
 have : ∀ m, I9 m (fun v => if gi (TS.init n).order v = 0 then 1 else 0) = m := fun m => by
  induction m with
  | zero => rfl
  | succ m ih =>
    rw [Fw, ih, if_pos (by simp [TS.init, IH])]
 unfold TS.un
 rw [this]
 simp [TS.init]
end
theorem Y0 {p : Nat → Prop} (m : Nat) (h : p m) : ∃ k, p k ∧ ∀ u, p u → k ≤ u := by
 induction m using Nat.strongRecOn with
 | _ m ih =>
   by_cases h' : ∃ j, j < m ∧ p j
   · obtain ⟨j, hj, hp⟩ := h'; exact ih j hj hp
   · exact ⟨m, h, fun u hu => by
      rcases Nat.lt_or_ge u m with h1 | h1
      · exact absurd ⟨u, h1, hu⟩ h'
      · exact h1⟩
theorem Lp (nx : Nat → List Nat) (v : Nat) : ∃ m, EV nx v m := by
 obtain ⟨k, ⟨h1, h2⟩, h3⟩ := Y0 (p := fun u => Rch nx v u ∧ Rch nx u v) v ⟨.refl v, .refl v⟩
 exact ⟨k, k, rfl, h1, h2, fun u a b => h3 u ⟨a, b⟩⟩
noncomputable def partOf (nx : Nat → List Nat) (v : Nat) : Int := Classical.choose (Lp nx v)
theorem KM (nx : Nat → List Nat) (v : Nat) : EV nx v (partOf nx v) := Classical.choose_spec (Lp nx v)
theorem VD {nx : Nat → List Nat} {v : Nat} {m : Int} (h : EV nx v m) : m = partOf nx v := PJ h (KM nx v)
noncomputable def Fh (g : Gn) : List Int := (List.range g.spots.length).map (partOf g.nx)
theorem Mf (g : Gn) : (Fh g).length = g.spots.length := by simp [Fh]
theorem TM (g : Gn) (i : Nat) (h : i < (Fh g).length) : (Fh g)[i] = partOf g.nx i := by simp [Fh]
theorem Ir {nx : Nat → List Nat} (v : Nat) : 0 ≤ partOf nx v ∧ partOf nx v ≤ v := by
 obtain ⟨k, e, a1, a2, a3⟩ := KM nx v
 have := a3 v (.refl v) (.refl v)
 omega

def bi (l : List Bool) (i : Nat) : Bool := (l[i]?).getD false
theorem Kz (l : List Bool) (i : Nat) (h : i < l.length) : bi l i = l[i] := by simp [bi, List.getElem?_eq_getElem h]
theorem Ji (l : List Bool) (i j : Nat) (v : Bool) (h : i < l.length) : bi (l.set i v) j = if j = i then v else bi l j := by
 unfold bi
 by_cases e : j = i
 · subst e; rw [if_pos rfl, List.getElem?_set_self h]; rfl
 · rw [if_neg e, List.getElem?_set_ne (Ne.symm e)]
def HP : List Bool → Nat
 | [] => 0
 | b :: l => (if b then 0 else 1) + HP l
theorem LG : ∀ (l : List Bool) (i : Nat) (h : i < l.length), l[i] = false → HP (l.set i true) + 1 = HP l
 | [], i, h, _ => by simp at h
 | b :: l, 0, _, h0 => by
   have : b = false := h0
   subst this
   simp [HP, Nat.add_comm]
 | b :: l, i + 1, h, h0 => by
   have ih := LG l i (by simpa using h) (by simpa using h0)
   simp only [List.set_cons_succ, HP]
   omega

def Bl (p : List Bool × List Nat) (i : Nat) : List Bool × List Nat := if bi p.1 i then p else (p.1.set i true, p.2 ++ [i])
structure RI (g : Gn) (x : Option (Nat × Nat)) (k : Nat) (p : List Bool × List Nat) : Prop where
 len : p.1.length = g.spots.length
 todo : ∀ v ∈ p.2, v < g.spots.length ∧ bi p.1 v = true
 sound : ∀ v, bi p.1 v = true → C2 g v
 init : ∀ j, j < k → bi p.1 j = true
 cl : ∀ v, bi p.1 v = true → v ∉ p.2 → ∀ (m : Nat) (hm : m < (g.nx v).length), (∀ j, x = some (v, j) → m < j) → bi p.1 ((g.nx v)[m]) = true
def muR (p : List Bool × List Nat) : Nat := 2 * HP p.1 + p.2.length
theorem RT {p : List Bool × List Nat} {i : Nat} (h : i < p.1.length) : muR (Bl p i) ≤ muR p := by
 unfold Bl
 split
 · exact Nat.le_refl _
 · rename_i hb
   have := LG p.1 i h (by rw [Kz _ _ h] at hb; simpa using hb)
   simp only [muR, List.length_append, List.length_singleton]
   omega
theorem FZ {p : List Bool × List Nat} {i v : Nat} (h : i < p.1.length) (hv : bi p.1 v = true) : bi (Bl p i).1 v = true := by
 unfold Bl
 split
 · exact hv
 · rw [Ji _ _ _ _ h]; split
   · rfl
   · exact hv
theorem IL {p : List Bool × List Nat} {i : Nat} (h : i < p.1.length) : bi (Bl p i).1 i = true := by
 unfold Bl
 split
 · assumption
 · rw [Ji _ _ _ _ h, if_pos rfl]
theorem Of (p : List Bool × List Nat) (i : Nat) : (Bl p i).1.length = p.1.length := by
 unfold Bl; split <;> simp
theorem RI.visit {g : Gn} {x : Option (Nat × Nat)} {k i : Nat} {p : List Bool × List Nat} (t : RI g x k p) (hi : i < g.spots.length) (hr : C2 g i) : RI g x k (Bl p i) := by
 have hil : i < p.1.length := by rw [t.len]; exact hi
 refine ⟨by rw [Of, t.len], fun v hv => ?_, fun v hv => ?_, fun j hj => FZ hil (t.init j hj), fun v hv hn m hm hx => ?_⟩
 · by_cases hb : bi p.1 i = true
   · rw [Bl, if_pos hb] at hv ⊢; exact t.todo v hv
   · have hv' : v ∈ p.2 ∨ v = i := by rw [Bl, if_neg hb] at hv; simpa using hv
     rcases hv' with h | h
     · exact ⟨(t.todo v h).1, FZ hil (t.todo v h).2⟩
     · rw [h]; exact ⟨hi, IL hil⟩
 · by_cases e : v = i
   · rw [e]; exact hr
   · unfold Bl at hv
     split at hv
     · exact t.sound v hv
     · rw [Ji _ _ _ _ hil, if_neg e] at hv; exact t.sound v hv
 · by_cases hb : bi p.1 i = true
   · rw [Bl, if_pos hb] at hv hn ⊢; exact t.cl v hv hn m hm hx
   · have hn' : v ∉ p.2 ∧ v ≠ i := by rw [Bl, if_neg hb] at hn; simpa using hn
     have hv' : bi p.1 v = true := by rw [Bl, if_neg hb, Ji _ _ _ _ hil, if_neg hn'.2] at hv; exact hv
     exact FZ hil (t.cl v hv' hn'.1 m hm hx)
theorem RI.start (g : Gn) : RI g none 0 (List.replicate g.spots.length false, []) where
 len := by simp
 todo := by simp
 sound v h := by simp [bi, List.getElem?_replicate] at h; split at h <;> simp at h
 init j h := by omega
 cl v h := by simp [bi, List.getElem?_replicate] at h; split at h <;> simp at h
theorem RI.initStep {g : Gn} (hok : g.ok) {k : Nat} {p : List Bool × List Nat} (t : RI g none k p) (hk : k < g.init) : RI g none (k + 1) (Bl p k) := by
 have hi : k < g.spots.length := Nat.lt_of_lt_of_le hk hok.init
 have t' := t.visit hi ⟨k, hk, .refl k⟩
 refine { t' with init := fun j hj => ?_ }
 by_cases e : j = k
 · rw [e]; exact IL (by rw [t.len]; exact hi)
 · exact t'.init j (by omega)
theorem RI.pop {g : Gn} {k v : Nat} {p : List Bool × List Nat} {r : List Nat} (t : RI g none k p) (hp : p.2 = r ++ [v]) : RI g (some (v, 0)) k (p.1, r) where
 len := t.len
 todo w hw := t.todo w (by rw [hp]; exact List.mem_append.2 (.inl hw))
 sound := t.sound
 init := t.init
 cl w hw hn m hm hx := by
  by_cases e : w = v
  · have := hx 0 (by rw [e]); omega
  · exact t.cl w hw (by rw [hp]; simp [e, hn]) m hm fun j h => by cases h
theorem RI.edge {g : Gn} (hok : g.ok) {k v j : Nat} {p : List Bool × List Nat} (t : RI g (some (v, j)) k p) (hv : bi p.1 v = true) (hj : j < (g.nx v).length) : RI g (some (v, j + 1)) k (Bl p (g.nx v)[j]) := by
 have hw := g.nx_lt hok v _ (List.getElem_mem hj)
 have hr : C2 g (g.nx v)[j] := by
  obtain ⟨a, h1, h2⟩ := t.sound v hv
  exact ⟨a, h1, .step h2 (List.getElem_mem hj)⟩
 have t' := t.visit hw hr
 refine { t' with cl := fun u hu hn m hm hx => ?_ }
 by_cases e : u = v ∧ m = j
 · obtain ⟨rfl, rfl⟩ := e
   exact IL (by rw [t.len]; exact hw)
 · refine t'.cl u hu hn m hm fun i hi => ?_
   cases hi
   have := hx (j + 1) rfl
   have : m ≠ j := fun h => e ⟨rfl, h⟩
   omega
theorem RI.done {g : Gn} {k v : Nat} {p : List Bool × List Nat} (t : RI g (some (v, (g.nx v).length)) k p) : RI g none k p :=
 { t with cl := fun w hw hn m hm _ => t.cl w hw hn m hm fun j h => by cases h; exact hm }
theorem RI.all {g : Gn} {p : List Bool × List Nat} (t : RI g none g.init p) (h0 : p.2 = []) : p.1 = CY g := by
 refine List.ext_getElem (by rw [t.len]; simp [CY]) fun i h1 h2 => ?_
 have e : (CY g)[i] = decide (C2 g i) := by simp [CY]
 rw [e, ← Kz _ _ h1]
 have key : bi p.1 i = true ↔ C2 g i := by
  refine ⟨t.sound i, fun ⟨j, hj, hr⟩ => ?_⟩
  refine Rch.closed (S := fun v => bi p.1 v = true) (fun v hv w hw => ?_) hr (t.init j hj)
  obtain ⟨m, hm, rfl⟩ := List.getElem_of_mem hw
  exact t.cl v hv (by rw [h0]; simp) m hm fun _ h => by cases h
 by_cases h : C2 g i
 · rw [key.2 h, decide_eq_true h]
 · rw [decide_eq_false h]
   cases hb : bi p.1 i with
   | false => rfl
   | true => exact absurd (key.1 hb) h

def cL (nx : Nat → List Nat) (fr : List Nat) (i : Nat) : Prop := ∃ j ∈ fr, Rch nx j i
structure FI (nx : Nat → List Nat) (n : Nat) (fr : List Nat) (x : Option (Nat × Nat)) (st : List Int) : Prop where
 len : st.length = n
 val : ∀ v, gi st v = 0 ∨ gi st v = 1 ∨ gi st v = 2
 sound : ∀ v, gi st v ≠ 0 → cL nx fr v
 init : ∀ v ∈ fr, gi st v ≠ 0
 cl : ∀ v, gi st v = 2 → ∀ (m : Nat) (hm : m < (nx v).length), (∀ j, x = some (v, j) → m < j) → gi st (nx v)[m] ≠ 0
noncomputable def Yj (g : Gr) : Gn := open Classical in if h : okG g then Classical.choose (JU h) else ⟨[], 0, [], [], 0⟩
theorem Gn.gr_inj {a b : Gn} (h : a.gr = b.gr) : a = b := by
 obtain ⟨a1, a2, a3, a4, a5⟩ := a
 obtain ⟨b1, b2, b3, b4, b5⟩ := b
 simp only [Gn.gr, Gr.mk.injEq] at h
 obtain ⟨h1, h2, h3, h4, h5⟩ := h
 have hinj : Function.Injective (fun k : Nat => (k : Int)) := fun x y h => by have h' : (x : Int) = y := h; omega
 have e3 : a3 = b3 := List.map_inj_right (fun x y h => List.map_inj_right (fun _ _ h => hinj h) |>.1 h) |>.1 h3
 have e4 : a4 = b4 := List.map_inj_right (fun _ _ h => hinj h) |>.1 h4
 subst h1 e3 e4
 have e2 : a2 = b2 := by omega
 have e5 : a5 = b5 := by omega
 subst e2 e5
 rfl
theorem PB {g : Gn} (h : g.ok) : Yj g.gr = g := by
 have hk := (Gn.ok_gr h)
 unfold Yj
 rw [dif_pos hk]
 exact Gn.gr_inj (Classical.choose_spec (JU hk)).1
noncomputable def Ec (g : Gr) : List Bool × Int := open Classical in if okG g then (CY (Yj g), 0) else ([], 9)
theorem JI {g : Gn} (h : g.ok) : Ec g.gr = (CY g, 0) := by rw [Ec, if_pos (Gn.ok_gr h), PB h]
theorem Ol {g : Gr} (h : ¬ okG g) : Ec g = ([], 9) := by rw [Ec, if_neg h]
open Go Go.Av

end Go.Sp
namespace Go.Av
open Go

section
variable {k : Kx} {Q : Exit → Env → H → Prop} {ρ ρ' : Env} {h h1 h2 : H} {ops : Array Oper} {l : List Oper} {d : Nat} {dst : Option Tmp} {ty : TypeId} {pos : String} {after : Array Edge} {g : Option (Nat × Bool)} {e1 e2 e3 e4 : Ent}
theorem PY {r : AV} (hs : r.flat = true) : r.cl = [r] ∧ r.stor = true := by cases r <;> first | exact ⟨rfl, hs⟩ | cases hs
theorem Yo {T T0 : TypeId} {x y : Operand} {b off : Nat} {r : AV} {vs : List AV} {z : Value} {eb : Nat} (hx : evO ρ x = some (.val (.pointer (some ⟨b, off, none⟩)))) (hy : evO ρ y = some r) (hs : r.flat = true) (hE : El k.P T z 1 eb) (hh : h = h1 ++ .cells b T0 vs :: h2) (hl : off < vs.length)
 (hj : JL k ops l Q ρ (h1 ++ .cells b T0 (vs.set off r) :: h2)) : JL k ops (⟨none, .store T x y, ty, pos, after, none⟩ :: l) Q ρ h := by
 obtain ⟨hcl, hst⟩ := PY hs
 refine Ft (off := off) (r := r) (vs := vs) (AA hx) (AA hy) hst hE (by rw [hcl]; rfl) hh (by rw [hcl]; simp; omega) ?_
 rw [hcl, Ht _ _ _ hl]
 exact hj
theorem db {α : Type} {f : α → AV} {T T0 : TypeId} {x y : Operand} {b off : Nat} {a : α} {vs : List α} {z : Value} {eb : Nat} (hx : evO ρ x = some (.val (.pointer (some ⟨b, off, none⟩)))) (hh : h = h1 ++ .cells b T0 (vs.map f) :: h2) (hy : evO ρ y = some (f a)) (hs : (f a).flat = true) (hE : El k.P T z 1 eb) (hl : off < vs.length)
 (hj : JL k ops l Q ρ (h1 ++ .cells b T0 ((vs.set off a).map f) :: h2)) : JL k ops (⟨none, .store T x y, ty, pos, after, none⟩ :: l) Q ρ h := by
 refine Yo hx hy hs hE hh (by simpa using hl) ?_
 rw [List.map_set] at hj
 exact hj
theorem W8 {T : TypeId} {z : Value} {eb : Nat} (hz : El k.P T z 1 eb) (h1 : z.oneCell' = true) (hd : Nat.blt d k.n = true)
 (hj : All fun b => JL k ops l Q ((d, .val (.pointer (some ⟨b, 0, none⟩))) :: ρ) (.cells b T [.val z] :: h)) : JL k ops (⟨some d, .alloc T, ty, pos, after, none⟩ :: l) Q ρ h := Om hz h1 hd hj.get
theorem jmk {α : Type} (f : α → AV) (a : α) {z : Value} {T E : TypeId} {x : Operand} {n : Nat} {eb : Nat} (hx : evO ρ x = some (.int n)) (hT : k.P.underlying T = some (.slice E)) (hz : El k.P E z 1 eb) (hz1 : z.oneCell' = true) (hf : f a = .val z) (hb : eb * n ≤ 281474976710656) (hm : n ≤ 9223372036854775807) (hd : Nat.blt d k.n = true)
 (hj : All fun b => JL k ops l Q ((d, .val (.slice (some ⟨b, 0, none⟩) n n)) :: ρ) (.cells b E ((List.replicate n a).map f) :: h)) : JL k ops (⟨some d, .makeSlice T x x, ty, pos, after, none⟩ :: l) Q ρ h :=
 UP hT hz hz1 (AA hx) hb hm (fun t ht => by cases ht; exact blt hd) fun b => by have := hj.get b; rwa [List.map_replicate, hf] at this
theorem YF {T E : TypeId} {x : Operand} {n : Nat} {eb : Nat} (hx : evO ρ x = some (.int n)) (hT : k.P.underlying T = some (.slice E)) (hz : El k.P E (.bool false) 1 eb) (hb : eb * n ≤ 281474976710656) (hm : n ≤ 9223372036854775807) (hd : Nat.blt d k.n = true)
 (hj : All fun b => JL k ops l Q ((d, .val (.slice (some ⟨b, 0, none⟩) n n)) :: ρ) (.cells b E ((List.replicate n false).map AV.bool) :: h)) : JL k ops (⟨some d, .makeSlice T x x, ty, pos, after, none⟩ :: l) Q ρ h :=
 jmk AV.bool false hx hT hz rfl rfl hb hm hd hj
theorem bf {T E : TypeId} {x : Operand} {n : Nat} {eb : Nat} (hx : evO ρ x = some (.int n)) (hT : k.P.underlying T = some (.slice E)) (hz : El k.P E (.int .i64 0) 1 eb) (hb : eb * n ≤ 281474976710656) (hm : n ≤ 9223372036854775807) (hd : Nat.blt d k.n = true)
 (hj : All fun b => JL k ops l Q ((d, .val (.slice (some ⟨b, 0, none⟩) n n)) :: ρ) (.cells b E ((List.replicate n 0).map AV.int) :: h)) : JL k ops (⟨some d, .makeSlice T x x, ty, pos, after, none⟩ :: l) Q ρ h :=
 jmk AV.int 0 hx hT hz rfl rfl hb hm hd hj
end

theorem Dq (n : Int) (h0 : 0 ≤ n) (h1 : n < 2 ^ 63) : IntKind.i64.wrap n = n := D9 (by unfold AX; omega)
theorem and1 {m : Int} (h0 : 0 ≤ m) (h1 : m ≤ 9223372036854775807) : bits .and .i64 m 1 = m % 2 := bits_mask .i64 63 (by decide) Dq 1 (by decide) m h0 (by omega)
theorem aR {x y : Int} (j : Nat) (hx0 : 0 ≤ x) (hx : x < 2 ^ j) (hy0 : 0 ≤ y) (hy : y % 2 ^ j = 0) (hj : (2 : Int) ^ j < 2 ^ 63) (hy1 : y < 2 ^ 63) : bits .or .i64 x y = x + y := by
 obtain ⟨a, rfl⟩ := Int.eq_ofNat_of_zero_le hx0
 obtain ⟨b, rfl⟩ := Int.eq_ofNat_of_zero_le hy0
 have ha : a < 2 ^ 63 := by have := Int.lt_trans hx hj; exact_mod_cast this
 have hb : b < 2 ^ 63 := by exact_mod_cast hy1
 have e1 := (bits_nat .i64 63 (by decide) Dq a b ha hb).2
 have e2 := (bits_nat .i64 63 (by decide) Dq b a hb ha).2
 have e3 := bits_join .i64 63 (by decide) Dq j (b : Int) (a : Int) hy0 hy hy1 hx0 hx (Int.lt_trans hx hj)
 rw [e2] at e3
 rw [e1, Nat.or_comm, e3, Int.add_comm]
theorem vfz {α : Type} {f : α → List D} {g : α → AV} {xs : List α} {ρ : Env} {h h1 h2 : H} {t b n : Nat} {E : TypeId} (sz eb : Nat) (h0 : Nat.blt 0 sz = true) (ht : FO ρ t = some (.val (.slice (some ⟨b, 0, none⟩) n n))) (hh : h = h1 ++ .cells b E (xs.map g) :: h2)
 (hv : xs.map g = ((xs.map f).flatten).map D.av) (hn : xs.length = n) (hsz : ∀ a, (f a).length = sz) (hb : n * eb ≤ 140737488355328) (hm : n ≤ 140737488355328) : VS ρ h ((t, .d (.l sz eb (xs.map f))) :: ρ) [] :=
 VS.trans (VS.freezeCells (blt h0) (A5 ht) hh hv (by simpa using hn) (fun r hr => by obtain ⟨a, _, rfl⟩ := List.mem_map.1 hr; exact hsz a) hb (by simpa [maxLen] using Nat.le_trans hm (by decide))) (VS.drop (List.nil_sublist _))

def Lk (tmps : Array Value) : ResultVar → Sem Value
 | .tmp t => pure (tmps.getD t undef)
 | .cell a t => do loadVar t (← asAddr (tmps.getD a undef))
def RV1 (P : Program) (G : List (Nat × List D)) (ρ : Env) (h : H) (r : ResultVar) (x : AV) : Prop :=
 ∀ (c : Cx) (I : Nat → Prop) (n : Nat) (a : Act) (w : World), c.G = G → Ok c I h w → SF n w I ρ a → ∃ v, AV.rel w I x v ∧ (Lk a.tmps r).run P w = .ok v w
def RVs (P : Program) (G : List (Nat × List D)) (ρ : Env) (h : H) : List ResultVar → List AV → Prop
 | [], [] => True
 | r :: rs, x :: xs => RV1 P G ρ h r x ∧ RVs P G ρ h rs xs
 | _, _ => False
def Ky : List AV → AV
 | [x] => x
 | xs => .tup xs
theorem JD {P : Program} {G : List (Nat × List D)} {ρ : Env} {h : H} {c : Cx} {I : Nat → Prop} {n : Nat} {a : Act} {w : World} (hG : c.G = G) (k : Ok c I h w) (s : SF n w I ρ a) : ∀ {rs : List ResultVar} {xs : List AV}, RVs P G ρ h rs xs →
 ∃ vs, (List.mapM (Lk a.tmps) rs).run P w = .ok vs w ∧ AV.rels w I xs vs
 | [], [], _ => ⟨[], rfl, trivial⟩
 | r :: rs, x :: xs, ⟨h1, h2⟩ => by
   obtain ⟨v, e1, e2⟩ := h1 c I n a w hG k s
   obtain ⟨vs, f1, f2⟩ := JD hG k s h2
   refine ⟨v :: vs, ?_, e1, f2⟩
   rw [List.mapM_cons]
   simp only [Sem.run_bind, Sem.run_pure, Result.andThen_ok, e2, f1]
theorem Oe {P : Program} {fn : Func} {rs : List ResultVar} (hr : fn.results = rs.toArray) {tmps : Array Value} {w : World} {vs : List Value} (hm : (List.mapM (Lk tmps) rs).run P w = .ok vs w) :
 (results fn tmps).run P w = .ok (if h : vs.toArray.size = 1 then vs.toArray[0] else .tuple vs.toArray) w := by
 have e : (fun (x : ResultVar) => (match x with | .tmp t => pure (tmps.getD t undef) | .cell a t => do loadVar t (← asAddr (tmps.getD a undef)) : Sem Value)) = Lk tmps := by
  funext x; cases x <;> rfl
 unfold results
 rw [hr]
 simp only [List.mapM_toArray, Sem.run_bind, Sem.run_map]
 erw [e]
 rw [hm]
 rfl
def Zx (P : Program) (G : List (Nat × List D)) (rs : List ResultVar) (Q : AE → H → Prop) (e : Exit) (ρ : Env) (h : H) : Prop :=
 match e with
 | .normal => ∃ ρ1 h1 xs h', VS ρ h ρ1 h1 ∧ RVs P G ρ1 h1 rs xs ∧ List.Sublist h' h1 ∧ Q (.ret (Ky xs)) h'
 | .ret => ∃ ρ1 h1 xs h', VS ρ h ρ1 h1 ∧ RVs P G ρ1 h1 rs xs ∧ List.Sublist h' h1 ∧ Q (.ret (Ky xs)) h'
 | .panic ch => Q (.pan ch) h
 | _ => False
theorem az {w : World} {I : Nat → Prop} {xs : List AV} {vs : List Value} (h : AV.rels w I xs vs) : AV.rel w I (Ky xs) (if h : vs.toArray.size = 1 then vs.toArray[0] else .tuple vs.toArray) := by
 match xs, vs, h with
 | [], [], _ => exact ⟨[], rfl, trivial⟩
 | [x], [v], h => exact h.1
 | x :: y :: xs, u :: v :: vs, h =>
   rw [dif_neg (by simp)]
   exact ⟨_, rfl, h⟩
theorem Ok.sub {c : Cx} {I : Nat → Prop} {h h' : H} {w : World} (h1 : Ok c I h w) (hs : List.Sublist h' h) : Ok c I h' w :=
 { ent := fun e he => h1.ent e (hs.subset he), nd := h1.nd.sublist (BF hs), imm := fun b hb => ⟨(h1.imm b hb).1, fun hm => (h1.imm b hb).2 ((BF hs).subset hm)⟩,
   new := fun b hb => h1.new b ((BF hs).subset hb), inew := h1.inew, sup := h1.sup, os := h1.os, tape := h1.tape, output := h1.output, size := h1.size, keep := h1.keep, glob := h1.glob }
theorem Bm {P : Program} {G : List (Nat × List D)} {f : FuncId} {fn : Func} {c : Code} {args : List AV} {h : H} {Q : AE → H → Prop} {rs : List ResultVar} (n : Nat) (hf : P.funcs[f]? = some fn) (hb : fn.body = some c) (hn : fn.ntmps = n) (hr : fn.results = rs.toArray) (ha : args.length ≤ n)
 (hj : ∀ W I, J ⟨P, ⟨W, I, blks h, G⟩, n, []⟩ c (Zx P G rs Q) (D7 0 args) h) : AC P G f args h Q := by
 intro I W vs h1 h2 h3 hG h4
 have hlen := AV.rels_length h4
 refine calls_of_wp hf hb ?_
 have hok : Ok ⟨W, I, blks h, G⟩ I h W :=
  { ent := h1, nd := h2, imm := h3, new := fun b hb => .inl hb, inew := fun b hb => .inl hb, sup := fun b hb => hb, os := rfl, tape := rfl, output := rfl, size := Nat.le_refl _, keep := fun _ _ _ => rfl, glob := hG }
 have hsf : SF n W I (D7 0 args) { tmps := vs.toArray ++ Array.replicate (fn.ntmps - vs.toArray.size) undef, defers := [] } := by
  refine ⟨by simp [hn]; omega, fun t => ?_⟩
  have := Fe W I args vs 0 t h4
  simp only [Nat.zero_le, if_true, Nat.sub_zero] at this
  have e : (vs.toArray ++ Array.replicate (fn.ntmps - vs.toArray.size) undef).getD t undef = (vs[t]?).getD undef := by
   rw [Array.getD_eq_getD_getElem?, Array.getElem?_append]
   by_cases ht : t < vs.length
   · simp [ht]
   · simp only [List.size_toArray, ht, if_false]
     rw [List.getElem?_eq_none (by omega)]
     simp only [Array.getElem?_replicate]
     split <;> rfl
  rw [e]; exact this
 refine wp_mono (hj W I I _ W hok hsf rfl) ?_
 rintro e a w ⟨I', ρ', h', k1, k2, k3, k4⟩
 have fin : (∃ ρ1 h1 xs h'', VS ρ' h' ρ1 h1 ∧ RVs P G ρ1 h1 rs xs ∧ List.Sublist h'' h1 ∧ Q (.ret (Ky xs)) h'') → ∃ v, (results fn a.tmps).run P w = .ok v w ∧ Ll G W I h Q (.returned v) w := by
  rintro ⟨ρ1, hh1, xs, h'', v, hrv, hsub, hq⟩
  obtain ⟨I1, m1, m2⟩ := v _ _ _ _ _ k1 k2
  obtain ⟨us, e1, e2⟩ := JD rfl m1 m2 hrv
  exact ⟨_, Oe hr e1, _, h'', I1, hq, m1.sub hsub, az e2⟩
 cases e with
 | normal => obtain ⟨v, e1, e2⟩ := fin k4; exact ⟨k3, v, e1, e2⟩
 | ret => obtain ⟨v, e1, e2⟩ := fin k4; exact ⟨k3, v, e1, e2⟩
 | panic ch => exact ⟨k3, _, h', I', k4, k1, rfl⟩
 | exit _ => exact k4.elim
 | goto _ => exact k4.elim
 | outgrown => exact k4.elim
theorem HA {P : Program} {G : List (Nat × List D)} {rs : List ResultVar} {Q : AE → H → Prop} {e : Exit} {ρ ρ1 : Env} {h h1 h' : H} {xs : List AV} (v : VS ρ h ρ1 h1) (hrv : RVs P G ρ1 h1 rs xs) (he : Qz e = true) (hs : List.Sublist h' h1) (hq : Q (.ret (Ky xs)) h') : Zx P G rs Q e ρ h := by
 cases e <;> first | exact ⟨ρ1, h1, xs, h', v, hrv, hs, hq⟩ | cases he
theorem NO {P : Program} {G : List (Nat × List D)} {rs : List ResultVar} {Q : AE → H → Prop} {e : Exit} {ρ : Env} {h h' : H} {xs : List AV} (hrv : RVs P G ρ h rs xs) (he : Qz e = true) (hs : List.Sublist h' h) (hq : Q (.ret (Ky xs)) h') : Zx P G rs Q e ρ h :=
 HA (VS.of_le (Env.le_refl _)) hrv he hs hq
section
variable {P : Program} {G : List (Nat × List D)} {ρ : Env} {h : H}
theorem Az {t : Nat} {x : AV} (hx : FO ρ t = some x) : RV1 P G ρ h (.tmp t) x := fun _ I _ a w _ _ s => ⟨a.tmps.getD t undef, by have := s.2 t; rw [A5 hx] at this; exact this, rfl⟩
theorem Ax {r T b : Nat} {T0 : TypeId} {vs : List AV} {z : Value} {sz eb : Nat} (hT : A0 P T = some true) (hE : El P T z sz eb) (hx : FO ρ r = some (.val (.pointer (some ⟨b, 0, none⟩)))) (hm : Ent.cells b T0 vs ∈ h) (hn : sz = vs.length) : RV1 P G ρ h (.cell r T) (.agg vs) := fun _ I _ a w _ k s => by
 obtain ⟨i, hi, _, rfl, _⟩ := hE.get
 obtain ⟨cs, hc1, hc2⟩ := k.ent _ hm
 have hlen : cs.toList.length = vs.length := (AV.rels_length hc2).symm
 refine ⟨.agg cs.toList.toArray, ⟨_, rfl, hc2⟩, ?_⟩
 have e1 := AL (s.2 r) (A5 hx)
 have hload := run_loadCells_list (P := P) w ⟨b, 0, none⟩ cs.toList fun j v hv => by
  rw [Addr.add_lit, Nat.zero_add, cell_of_row w b j cs T0 (0, 0) hc1]
  simpa using hv
 have hsz : cs.toList.length = i.size := by rw [hlen, hn]
 rw [hsz] at hload
 rw [Array.getD_eq_getD_getElem?] at e1
 simp [Lk, e1, asAddr, loadVar, Cq hT, sizeOf, typeInfo, hi, hload]
end

mutual
inductive Cv (v : Value) (d : D) : AV → AV → Prop where
 | same (x : AV) : Cv v d x x
 | here : Cv v d (.val v) (.d d)
 | agg {xs ys : List AV} (h : Cvs v d xs ys) : Cv v d (.agg xs) (.agg ys)
inductive Cvs (v : Value) (d : D) : List AV → List AV → Prop where
 | nil : Cvs v d [] []
 | cons {x y : AV} {xs ys : List AV} (h1 : Cv v d x y) (h2 : Cvs v d xs ys) : Cvs v d (x :: xs) (y :: ys)
end
mutual
theorem Cv.rel {v : Value} {d : D} {w : World} {I : Nat → Prop} (hr : Rel w I d v) : ∀ {x y : AV} {u : Value}, Cv v d x y → AV.rel w I x u → AV.rel w I y u
 | _, _, _, .same x, h => h
 | _, _, _, .here, h => by cases h; exact hr
 | _, _, _, .agg hc, ⟨vs, h1, h2⟩ => ⟨vs, h1, Cvs.rel hr hc h2⟩
theorem Cvs.rel {v : Value} {d : D} {w : World} {I : Nat → Prop} (hr : Rel w I d v) : ∀ {xs ys : List AV} {us : List Value}, Cvs v d xs ys → AV.rels w I xs us → AV.rels w I ys us
 | [], [], us, .nil, h => h
 | _ :: _, _ :: _, u :: us, .cons h1 h2, ⟨g1, g2⟩ => ⟨Cv.rel hr h1 g1, Cvs.rel hr h2 g2⟩
end
def CvE (v : Value) (d : D) (ρ ρ' : Env) : Prop := ∀ t, Cv v d (get ρ t) (get ρ' t)
theorem CvE.refl (v : Value) (d : D) (ρ : Env) : CvE v d ρ ρ := fun _ => .same _
theorem CvE.cons {v : Value} {d : D} {ρ ρ' : Env} {t : Nat} {x y : AV} (hx : FO ρ t = some x) (hc : Cv v d x y) (h : CvE v d ρ ρ') : CvE v d ρ ((t, y) :: ρ') := fun s => by
 simp only [get]
 cases hb : Nat.beq t s with
 | true => rw [← Nat.eq_of_beq_eq_true hb, A5 hx]; exact hc
 | false => exact h s
inductive CvH (v : Value) (d : D) : H → H → Prop where
 | refl (h : H) : CvH v d h h
 | keep {e : Ent} {h h' : H} (k : CvH v d h h') : CvH v d (e :: h) (e :: h')
 | cells {b : Nat} {T : TypeId} {vs vs' : List AV} {h h' : H} (hc : Cvs v d vs vs') (k : CvH v d h h') : CvH v d (.cells b T vs :: h) (.cells b T vs' :: h')
theorem CvH.blks {v : Value} {d : D} {h h' : H} (k : CvH v d h h') : blks h' = blks h := by
 induction k with
 | refl h => rfl
 | keep k ih => rename_i e _ _; simp only [Av.blks, List.filterMap_cons] at ih ⊢; rw [ih]
 | cells hc k ih => simp only [Av.blks, List.filterMap_cons, Ent.blk] at ih ⊢; rw [ih]
theorem CvH.ent {v : Value} {d : D} {w : World} {I : Nat → Prop} (hr : Rel w I d v) {h h' : H} (k : CvH v d h h') : (∀ e ∈ h, e.rel w I) → ∀ e ∈ h', e.rel w I := by
 induction k with
 | refl h => exact fun h => h
 | keep k ih =>
   intro hh e he
   rcases List.mem_cons.1 he with rfl | he
   · exact hh _ (by simp)
   · exact ih (fun e he => hh e (by simp [he])) e he
 | cells hc k ih =>
   intro hh e he
   rcases List.mem_cons.1 he with rfl | he
   · obtain ⟨cs, h1, h2⟩ := hh _ List.mem_cons_self
     exact ⟨cs, h1, hc.rel hr h2⟩
   · exact ih (fun e he => hh e (by simp [he])) e he
theorem Ok.conv {c : Cx} {I : Nat → Prop} {h h' : H} {w : World} {v : Value} {d : D} (k : Ok c I h w) (hr : Rel w I d v) (hc : CvH v d h h') : Ok c I h' w :=
 { ent := hc.ent hr k.ent, nd := hc.blks ▸ k.nd, imm := fun b hb => hc.blks ▸ k.imm b hb, new := fun b hb => k.new b (hc.blks ▸ hb), inew := k.inew, sup := k.sup, os := k.os, tape := k.tape, output := k.output, size := k.size, keep := k.keep, glob := k.glob }
theorem SF.conv {n : Nat} {w : World} {I : Nat → Prop} {ρ ρ' : Env} {a : Act} {v : Value} {d : D} (f : SF n w I ρ a) (hr : Rel w I d v) (hc : CvE v d ρ ρ') : SF n w I ρ' a := ⟨f.1, fun t => (hc t).rel hr (f.2 t)⟩

theorem UK {c : Cx} {I : Nat → Prop} {w : World} {v : Value} {n : Nat} {E : TypeId} {sz : Nat} (eb : Nat) {rows : List (List D)} {h1 h2 : H} (k1 : Ok c I (h1 ++ .row v n E sz (rows.flatten.map D.av) :: h2) w) (h0 : 0 < sz) (hn : rows.length = n) (hsz : ∀ r ∈ rows, r.length = sz) (hb : n * eb ≤ 140737488355328) :
 ∃ I' : Nat → Prop, Ok c I' (h1 ++ h2) w ∧ (∀ b, I b → I' b) ∧ Rel w I' (.l sz eb rows) v := by
 obtain ⟨os, ho, hos⟩ := k1.ent (.row v n E sz (rows.flatten.map D.av)) (by simp)
 rcases ho.2 with ⟨rfl, rfl⟩ | ⟨g, cap, cur, rfl, _, hg, hnc, hcm, hcs, htake⟩
 · have : rows = [] := List.eq_nil_of_length_eq_zero hn
   subst this
   have hok : Ok c I (h1 ++ h2) w := by
    have hbe : blks (h1 ++ Ent.row (.slice none 0 0) 0 E sz (List.map D.av [].flatten) :: h2) = blks (h1 ++ h2) := by rw [AZ, AZ]; rfl
    exact { ent := fun e he => k1.ent e (((List.sublist_cons_self _ h2).append_left h1).subset he), nd := hbe ▸ k1.nd, imm := fun b hb => hbe ▸ k1.imm b hb, new := fun b hb => k1.new b (hbe ▸ hb), inew := k1.inew, sup := k1.sup, os := k1.os, tape := k1.tape, output := k1.output, size := k1.size, keep := k1.keep, glob := k1.glob }
   exact ⟨I, hok, fun _ h => h, .nil sz eb⟩
 · have hok := k1.release (b := g) (e := .row (.slice (some ⟨g, 0, none⟩) n cap) n E sz (rows.flatten.map D.av)) rfl
   refine ⟨_, hok, fun _ h => .inl h, ?_⟩
   subst hn
   have hcell : ∀ q x, rows.flatten[q]? = some x → ∃ c, w.cell? ((⟨g, 0, none⟩ : Addr).add q) = some c ∧ Rel w I x c := fun q x hx => by
    obtain ⟨c, hc1, hc2⟩ := AV.rels_get hos q x.av (by rw [List.getElem?_map, hx]; rfl)
    exact ⟨c, ho.cells (g := g) rfl q c hc1, D.av_rel' hc2⟩
   have hq : ∀ (j u : Nat) (r : List D) (x : D), rows[j]? = some r → r[u]? = some x → rows.flatten[j * sz + u]? = some x := fun j u r x hr hx => by
    have hu : u < sz := by
     have := (List.getElem?_eq_some_iff.1 hx).1
     rwa [hsz r (List.mem_of_getElem? hr)] at this
    rw [B6 h0 rows hsz, Nat.add_comm, Nat.add_mul_div_right _ _ h0, Nat.add_mul_mod_self_right, Nat.div_eq_of_lt hu, Nat.mod_eq_of_lt hu, Nat.zero_add, hr]
    exact hx
   refine .l sz eb rows ⟨g, 0, none⟩ cap (fun j u => (w.cell? ((⟨g, 0, none⟩ : Addr).add (j * sz + u))).getD undef) (.inr rfl) hnc hcm hb hsz (fun j u r x hr hx => ?_) (fun j u r x hr hx => ?_)
   · obtain ⟨c, hc1, _⟩ := hcell _ x (hq j u r x hr hx)
     simp only [hc1, Option.getD_some]
   · obtain ⟨c, hc1, hc2⟩ := hcell _ x (hq j u r x hr hx)
     simp only [hc1, Option.getD_some]
     exact hc2.mono (fun _ _ => rfl) fun _ h => .inl h
theorem D1 {α : Type} {f : α → List D} {xs : List α} {ρ ρ' : Env} {h h1 h2 h' : H} {v : Value} {E : TypeId} {sz : Nat} (eb : Nat) (h0 : Nat.blt 0 sz = true) (hh : h = h1 ++ AH v E sz f xs :: h2) (hsz : ∀ a, (f a).length = sz) (hb : xs.length * eb ≤ 140737488355328)
 (hρ : CvE v (.l sz eb (xs.map f)) ρ ρ') (hH : CvH v (.l sz eb (xs.map f)) (h1 ++ h2) h') : VS ρ h ρ' h' := by
 subst hh
 intro c I m a w k1 k2
 obtain ⟨I', g1, g2, g3⟩ := UK eb k1 (blt h0) (by simp) (fun r hr => by obtain ⟨a, _, rfl⟩ := List.mem_map.1 hr; exact hsz a) hb
 exact ⟨I', g1.conv g3 hH, (k2.wider g2).conv g3 hρ⟩

def Bls (P : Program) (t : TypeId) (zs : List Value) (pl : List (Nat × Nat)) : Prop :=
 (match P.info? t, P.underlying t with
 | some it, some (.struct fields) =>
   match it.zero, fields.toList.mapM (fun f => (P.info? f.type).map fun i => (f.offset, i.size)) with
   | some z, some places => some (z.cells.toList, places)
   | _, _ => none
 | _, _ => none) = some (zs, pl)
theorem Bls.built {P : Program} {t : TypeId} {zs : List Value} {pl : List (Nat × Nat)} (h : Bls P t zs pl) (parts : List (Nat × Value)) : P.built t parts = Instr.fill (pl.toArray[·]?) zs.toArray parts := by
 unfold Bls at h
 unfold Program.built
 cases h1 : P.info? t with
 | none => rw [h1] at h; cases h
 | some it =>
   cases h2 : P.underlying t with
   | none => rw [h1, h2] at h; cases h
   | some d =>
     cases d with
     | struct fields =>
       rw [h1, h2] at h
       dsimp only at h ⊢
       cases h3 : it.zero with
       | none => rw [h3] at h; cases h
       | some z =>
         cases h4 : fields.toList.mapM (fun f => (P.info? f.type).map fun i => (f.offset, i.size)) with
         | none => rw [h3, h4] at h; cases h
         | some places =>
           rw [h3, h4] at h
           simp only [Option.some.injEq, Prod.mk.injEq] at h
           obtain ⟨h5, rfl⟩ := h
           subst h5
           rfl
     | _ => rw [h1, h2] at h; cases h
def OA (pl : List (Nat × Nat)) : List AV → List (Nat × AV) → Option (List AV)
 | cs, [] => some cs
 | cs, (i, x) :: r =>
   match pl[i]? with
   | none => none
   | some p => bif Nat.beq x.cl.length p.2 && Nat.ble (p.1 + p.2) cs.length then OA pl (setAt cs p.1 x.cl) r else none
inductive Xk {α β : Type} (R : α → β → Prop) : List α → List β → Prop where
 | nil : Xk R [] []
 | cons {a : α} {b : β} {as_ : List α} {bs : List β} (h : R a b) (t : Xk R as_ bs) : Xk R (a :: as_) (b :: bs)
theorem Pk {w : World} {I : Nat → Prop} {pl : List (Nat × Nat)} : ∀ {ps : List (Nat × AV)} {vs : List (Nat × Value)} {avs avs' : List AV} {cs : Array Value}, AV.rels w I avs cs.toList → Xk (fun p q => p.1 = q.1 ∧ AV.rel w I p.2 q.2 ∧ p.2.stor = true) ps vs → OA pl avs ps = some avs' →
 ∃ cs', Instr.fill (pl.toArray[·]?) cs vs = some cs' ∧ AV.rels w I avs' cs'.toList
 | [], [], avs, avs', cs, hr, _, hf => by cases hf; exact ⟨cs, rfl, hr⟩
 | (i, x) :: ps, (j, v) :: vs, avs, avs', cs, hr, .cons ⟨h1, h2, h3⟩ h4, hf => by
   cases h1
   simp only [OA] at hf
   cases hp : pl[i]? with
   | none => rw [hp] at hf; cases hf
   | some p =>
     rw [hp] at hf
     dsimp only at hf
     cases hc : Nat.beq x.cl.length p.2 && Nat.ble (p.1 + p.2) avs.length with
     | false => rw [hc] at hf; cases hf
     | true =>
       rw [hc] at hf
       simp only [cond_true] at hf
       rw [Bool.and_eq_true] at hc
       have e1 := Nat.eq_of_beq_eq_true hc.1
       have e2 := Nat.le_of_ble_eq_true hc.2
       have hcl := LI h3 h2
       have hvl : v.cells.toList.length = x.cl.length := (AV.rels_length hcl).symm
       have hcs : cs.toList.length = avs.length := (AV.rels_length hr).symm
       have hsz : v.cells.size = p.2 := by rw [← e1, ← hvl]; simp
       have hfold := MV v.cells.toList 0 cs (cs.toList.take p.1) (cs.toList.drop p.1) (List.take_append_drop _ _).symm (by rw [List.length_drop, hcs, hvl, e1]; omega)
       have htl : (cs.toList.take p.1).length = p.1 := by rw [List.length_take, hcs]; omega
       rcases hfold with hfold | hfold
       case inr => omega
       rw [htl, Nat.sub_zero, List.drop_drop] at hfold
       have hstep : AV.rels w I (setAt avs p.1 x.cl) ((v.cells.zipIdx).foldl (fun cs q => cs.setIfInBounds (p.1 + q.2) q.1) cs).toList := by
        rw [← Array.foldl_toList, Array.toList_zipIdx, hfold]
        unfold setAt
        rw [hvl]
        exact AV.rels_append (AV.rels_append (DI _ hr) hcl) (Fs _ hr)
       obtain ⟨cs', g1, g2⟩ := Pk hstep h4 hf
       refine ⟨cs', ?_, g2⟩
       have hb : (v.cells.size ≠ p.2 || p.1 + v.cells.size > cs.size) = false := by
        refine Bool.or_eq_false_iff.2 ⟨by simp [hsz], decide_eq_false ?_⟩
        have : cs.size = avs.length := by rw [← hcs]; simp
        omega
       simp only [Instr.fill]
       have hpa : (pl.toArray)[i]? = some p := by simpa using hp
       rw [hpa]
       dsimp only
       rw [hb]
       exact g1
def L2 (ρ : Env) : List (Nat × Operand) → Option (List (Nat × AV))
 | [] => some []
 | (i, x) :: r => (evO ρ x).bind fun a => (L2 ρ r).bind fun as_ => some ((i, a) :: as_)
theorem Lf {n : Nat} {w : World} {I : Nat → Prop} {ρ : Env} {a : Act} (f : SF n w I ρ a) : ∀ {ps : List (Nat × Operand)} {xs : List (Nat × AV)}, L2 ρ ps = some xs → xs.all (fun p => p.2.stor) = true → Xk (fun p q => p.1 = q.1 ∧ AV.rel w I p.2 q.2 ∧ p.2.stor = true) xs (ps.map fun p => (p.1, a.eval p.2))
 | [], xs, h, _ => by cases h; exact .nil
 | (i, x) :: ps, xs, h, hs => by
   simp only [L2] at h
   cases h1 : evO ρ x with
   | none => rw [h1] at h; cases h
   | some r =>
     cases h2 : L2 ρ ps with
     | none => rw [h1, h2] at h; cases h
     | some rs =>
       rw [h1, h2] at h
       cases h
       simp only [List.all_cons, Bool.and_eq_true] at hs
       refine .cons ⟨rfl, ?_, hs.1⟩ (Lf f h2 hs.2)
       have := f.ev x
       rw [AA h1] at this
       exact this
section
variable {P : Program} {G : List (Nat × List D)} {ρ : Env} {h : H} {dst : Option Tmp} {ty : TypeId} {pos : String} {after : Array Edge} {g : Option (Nat × Bool)}
theorem Xi {T : TypeId} {zs : List Value} {pl : List (Nat × Nat)} {parts : Array (Nat × Operand)} {xs : List (Nat × AV)} {cs : List AV} (hB : Bls P T zs pl) (hx : L2 ρ parts.toList = some xs) (hs : xs.all (fun p => p.2.stor) = true) (hf : OA pl (zs.map AV.val) xs = some cs) :
 Pure P G ⟨dst, .build T parts, ty, pos, after, g⟩ ρ h (.agg cs) :=
 Ae fun w I _ a k => by
  obtain ⟨cs', g1, g2⟩ := Pk (cs := zs.toArray) (by simpa using Fx w I zs) (Lf k hx hs) hf
  refine ⟨.agg cs', ⟨cs'.toList, by simp, g2⟩, fun w' => ?_⟩
  have e : (parts.map fun (i, x) => (i, a.eval x)).toList = parts.toList.map fun p => (p.1, a.eval p.2) := by simp
  have := run_build (P := P) w' T (parts.map fun (i, x) => (i, a.eval x)) cs' (by rw [hB.built, e]; exact g1)
  simp [execOp, this]

def Cy (b : UInt8) : List D := [.i .u8 b.toNat]
abbrev B0 (l : List UInt8) : D := .l 1 1 (l.map Cy)
abbrev AV.byte (b : UInt8) : AV := .val (.int .u8 (b.toNat : Int))
theorem RS {S T : TypeId} {x : Operand} {b : UInt8} (hS : (P.underlying S).isSome = true) (hT : P.underlying T = some (.int .i64)) (hx : evO ρ x = some (AV.byte b)) : Pure P G ⟨dst, .convert S T x, ty, pos, after, g⟩ ρ h (.int (b.toNat : Int)) := by
 have := EY (P := P) (G := G) (h := h) (dst := dst) (ty := ty) (pos := pos) (after := after) (g := g) hS hT (AA hx)
 have hb := b.toNat_lt
 rwa [D9 (by unfold AX; omega)] at this
theorem B4 (n : Int) : ((UInt8.ofInt n).toNat : Int) = n % 256 := by
 simp [UInt8.ofInt, UInt8.toNat_ofNat']; omega
theorem Qw {S T : TypeId} {x : Operand} {n : Int} (hS : (P.underlying S).isSome = true) (hT : P.underlying T = some (.int .u8)) (hx : evO ρ x = some (.int n)) : Pure P G ⟨dst, .convert S T x, ty, pos, after, g⟩ ρ h (AV.byte (UInt8.ofInt n)) := by
 have := EY (P := P) (G := G) (h := h) (dst := dst) (ty := ty) (pos := pos) (after := after) (g := g) hS hT (AA hx)
 rw [IntKind.wrap_u8] at this
 unfold AV.byte
 rwa [B4]
theorem R4 {T T' : TypeId} {x y : Operand} {m n : Int} (hx : ev ρ x = .int m) (hy : evO ρ y = some (.val (.int .u64 n))) (h0 : 0 ≤ n) (h1 : n ≤ 64) (hb : AX (m * 2 ^ n.toNat)) : Pure P G ⟨dst, .binOp .shl T x y T', ty, pos, after, g⟩ ρ h (.int (m * 2 ^ n.toNat)) :=
 BC hx (AA hy) (fun _ => by rw [eqGuard_shl]; rfl) fun _ => by rw [binOp_shl, shift_shl .i64 .u64 m n h0 h1, D9 hb]; rfl
theorem SX {T T' : TypeId} {x y : Operand} {m n : Int} (hx : ev ρ x = .int m) (hy : evO ρ y = some (.val (.int .u64 n))) (h0 : 0 ≤ n) (h1 : n ≤ 64) : Pure P G ⟨dst, .binOp .shr T x y T', ty, pos, after, g⟩ ρ h (.int (m / 2 ^ n.toNat)) :=
 BC hx (AA hy) (fun _ => by rw [eqGuard_shr]; rfl) fun _ => by rw [binOp_shr, shift_shr .i64 .u64 m n h0 h1]; rfl
theorem TO {T E E' : TypeId} {x : Operand} {v : Value} {n sz : Nat} {xs : List AV} (hT : P.underlying T = some (.slice E')) (hx : evO ρ x = some (.val v)) (hm : Ent.row v n E sz xs ∈ h) : Pure P G ⟨dst, .call { callee := .builtin .len, args := #[x], argTypes := #[T] }, ty, pos, after, g⟩ ρ h (.int n) := by
 intro c I m a w _ k s
 have e1 := AL (s.ev x) (AA hx)
 refine ⟨_, rfl, fun w' _ => ?_⟩
 obtain ⟨us, ho, _⟩ := k.ent _ hm
 rcases ho.2 with ⟨rfl, rfl⟩ | ⟨g, cap, cur, rfl, _⟩
 · simp [execOp, resolve, invoke, builtin, e1, Builtin.len_, run_underlying hT, goInt]
 · simp [execOp, resolve, invoke, builtin, e1, Builtin.len_, run_underlying hT, goInt]
end
section
variable {k : Kx} {Q : Exit → Env → H → Prop} {ρ ρ' : Env} {h h1 h2 : H} {ops : Array Oper} {l : List Oper} {d : Nat} {dst : Option Tmp} {ty : TypeId} {pos : String} {after : Array Edge} {g : Option (Nat × Bool)}
theorem IQ {P : Program} {T E : TypeId} (hT : P.underlying T = some (.slice E)) (ad : Option Addr) (n c : Nat) (w : World) : (binOp .eql T (.slice ad n c) (.slice none 0 0)).run P w = .ok (.bool ad.isNone) w := by
 have h1 : ∀ m, (Op.equalIn (m + 1) T (.slice ad n c) (.slice none 0 0)).run P w = .ok ad.isNone w := fun m => by
  simp only [Op.equalIn, Sem.run_bind, run_underlying hT, Result.andThen_ok]
  cases ad <;> rfl
 have h2 : (Op.equal T (.slice ad n c) (.slice none 0 0)).run P w = .ok ad.isNone w := h1 9999
 simp only [binOp, Sem.run_bind, h2]
 first | rfl | simp
theorem dR {T T' E : TypeId} {x y : Operand} {sz eb : Nat} {rows : List (List D)} (hx : evO ρ x = some (.d (.l sz eb rows))) (hy : evO ρ y = some (.val (.slice none 0 0))) (hT : k.P.underlying T = some (.slice E)) (hd : Nat.blt d k.n = true)
 (hj : All fun b => Imp (b = true → rows = []) (JL k ops l Q ((d, .bool b) :: ρ) h)) : JL k ops (⟨some d, .binOp .eql T x y T', ty, pos, after, none⟩ :: l) Q ρ h := by
 refine D3 rfl (fun t ht => by cases ht; exact blt hd) fun I a w k1 k2 => ?_
 have e1 := BW (k2.ev x) (AA hx)
 have e2 := AL (k2.ev y) (AA hy)
 have key : ∀ (b : Bool), (b = true → rows = []) → (execOp a.eval ⟨some d, .binOp .eql T x y T', ty, pos, after, none⟩).run k.P w = .ok (.value (.bool b)) w →
  ∃ v w' I' r h', (execOp a.eval ⟨some d, .binOp .eql T x y T', ty, pos, after, none⟩).run k.P w = .ok (.value v) w' ∧ Ok k.c I' h' w' ∧ SF k.n w' I' ρ a ∧ AV.rel w' I' r v ∧ JL k ops l Q (put ρ (some d) r) h' :=
  fun b hb hrun => ⟨_, w, I, .bool b, h, hrun, k1, k2, rfl, (hj.get b).get hb⟩
 generalize hv : a.eval x = v at e1
 cases e1 with
 | nil => exact key true (fun _ => rfl) (by simp [execOp, hv, e2, IQ hT, eqGuard])
 | emp => exact key false (fun h => by cases h) (by simp [execOp, hv, e2, IQ hT, eqGuard])
 | l _ _ _ ad cap css => exact key false (fun h => by cases h) (by simp [execOp, hv, e2, IQ hT, eqGuard])
theorem aG {α : Type} (f : α → List D) {T E : TypeId} {z : Value} {sz eb : Nat} (hT : k.P.underlying T = some (.slice E)) (he : El k.P E z sz eb) (hd : Nat.blt d k.n = true)
 (hj : All fun v => JL k ops l Q ((d, .val v) :: ρ) (AH v E sz f [] :: h)) : JL k ops (⟨some d, .buildSlice T 0 #[], ty, pos, after, none⟩ :: l) Q ρ h := by
 obtain ⟨i, hi, hz0, hz1, _⟩ := he.get
 refine D3 rfl (fun t ht => by cases ht; exact blt hd) fun I a w k1 k2 => ?_
 refine ⟨.slice (some ⟨w.heap.size, 0, none⟩) 0 0, w.alloc (.cells #[] E), I, .val (.slice (some ⟨w.heap.size, 0, none⟩) 0 0), _, ?_, k1.fresh _ (AH (.slice (some ⟨w.heap.size, 0, none⟩) 0 0) E sz f []) rfl ?_, k2.fresh k1 _, rfl, hj.get _⟩
 · simp [execOp, Instr.buildSlice, run_underlying hT, sizeOf, typeInfo, hi, Instr.fill, newRow]
   have : Array.range 0 = #[] := by apply Array.ext'; simp
   rw [this, Array.map_empty]
 · refine ⟨[], ⟨by simp, .inr ⟨w.heap.size, 0, #[], rfl, by simp, heap_alloc_new w _, ?_⟩⟩, trivial⟩
   simp
end

section
variable {k : Kx} {Q : Exit → Env → H → Prop} {ρ ρ' : Env} {h h1 h2 : H} {ops : Array Oper} {l : List Oper} {d : Nat} {dst : Option Tmp} {ty : TypeId} {pos : String} {after : Array Edge} {g : Option (Nat × Bool)} {e1 e2 e3 e4 e5 e6 : Ent}
theorem XT {T T0 : TypeId} {x y : Operand} {b : Nat} {cs vs : List AV} {z : Value} {sz eb : Nat} (hx : evO ρ x = some (.val (.pointer (some ⟨b, 0, none⟩)))) (hy : evO ρ y = some (.agg cs)) (hs : cs.all AV.flat = true) (hE : El k.P T z sz eb) (hn : sz = cs.length) (hl : vs.length = cs.length) (hh : h = h1 ++ .cells b T0 vs :: h2)
 (hj : JL k ops l Q ρ (h1 ++ .cells b T0 cs :: h2)) : JL k ops (⟨none, .store T x y, ty, pos, after, none⟩ :: l) Q ρ h := by
 refine Ft (off := 0) (r := .agg cs) (vs := vs) (AA hx) (AA hy) hs hE hn hh (by simp [AV.cl, hl]) ?_
 have : setAt vs 0 (AV.agg cs).cl = cs := by simp [setAt, AV.cl, ← hl]
 rw [this]
 exact hj
theorem XV {β : Type} {X : β → AV} {en : β → Ent} {f : FuncId} {xs : Array Operand} {ats : Array TypeId} {args : List AV} (hargs : FN ρ xs.toList = some args) (hcal : Cal k.P f) (hac : AC k.P k.c.G f args [] fun r h => ∃ v, r = .ret (X v) ∧ h = [en v]) (hd : Nat.blt d k.n = true)
 (hj : All fun v => JL k ops l Q ((d, X v) :: ρ) (en v :: h)) : JL k ops (⟨some d, .call { callee := .value (.func f), args := xs, argTypes := ats }, ty, pos, after, none⟩ :: l) Q ρ h :=
 MH (hc := []) (hr := h) hargs hcal rfl hac hd (fun r h' hq => by obtain ⟨v, e1, e2⟩ := hq; cases e1; subst e2; exact hj.get v) (fun ch h' hq => by obtain ⟨v, e1, _⟩ := hq; cases e1)

theorem Jw {β : Type} {X : β → AV} {en : β → Ent} {e0 : Ent} {f : FuncId} {xs : Array Operand} {ats : Array TypeId} {args : List AV} (hargs : FN ρ xs.toList = some args) (hcal : Cal k.P f) (hac : AC k.P k.c.G f args [e0] fun r h => ∃ v, r = .ret (X v) ∧ h = [en v]) (hd : Nat.blt d k.n = true)
 (hj : All fun v => JL k ops l Q ((d, X v) :: ρ) (en v :: h2)) : JL k ops (⟨some d, .call { callee := .value (.func f), args := xs, argTypes := ats }, ty, pos, after, none⟩ :: l) Q ρ (e0 :: h2) :=
 C3 (VS.perm (List.perm_middle (l₁ := []) (l₂ := h2))) (MH (hc := [e0]) (hr := h2) hargs hcal rfl hac hd (fun r h' hq => by obtain ⟨v, e1, e2⟩ := hq; cases e1; subst e2; exact hj.get v) (fun ch h' hq => by obtain ⟨v, e1, _⟩ := hq; cases e1))
theorem JY {β : Type} {X : β → AV} {en : β → Ent} {e0 : Ent} {f : FuncId} {xs : Array Operand} {ats : Array TypeId} {args : List AV} (hargs : FN ρ xs.toList = some args) (hcal : Cal k.P f) (hac : AC k.P k.c.G f args [e0] fun r h => ∃ v, r = .ret (X v) ∧ h = [en v]) (hd : Nat.blt d k.n = true)
 (hj : All fun v => JL k ops l Q ((d, X v) :: ρ) (en v :: e1 :: e2 :: e3 :: e4 :: h2)) : JL k ops (⟨some d, .call { callee := .value (.func f), args := xs, argTypes := ats }, ty, pos, after, none⟩ :: l) Q ρ (e1 :: e2 :: e3 :: e4 :: e0 :: h2) :=
 C3 (VS.perm (List.perm_middle (l₁ := [e1, e2, e3, e4]) (l₂ := h2))) (MH (hc := [e0]) (hr := e1 :: e2 :: e3 :: e4 :: h2) hargs hcal rfl hac hd (fun r h' hq => by obtain ⟨v, e1, e2⟩ := hq; cases e1; subst e2; exact hj.get v) (fun ch h' hq => by obtain ⟨v, e1, _⟩ := hq; cases e1))
theorem DZ {α : Type} {f : α → List D} {xs : List α} {v : Value} {E : TypeId} {sz : Nat} (eb : Nat) (hm : AH v E sz f xs ∈ h) (h0 : Nat.blt 0 sz = true) (hsz : ∀ a, (f a).length = sz) (hb : xs.length * eb ≤ 140737488355328) : Bor h (.val v) (.d (.l sz eb (xs.map f))) := by
 intro c I w u kk hr
 obtain rfl : u = v := hr
 obtain ⟨s, t, rfl⟩ := List.append_of_mem hm
 obtain ⟨os, ho, hos⟩ := kk.ent (AH u E sz f xs) (by simp)
 rcases ho.2 with ⟨rfl, hn⟩ | ⟨g, cap, cur, hv, _, hg, hnc, hcm, hcs, htake⟩
 · have : xs = [] := List.eq_nil_of_length_eq_zero hn
   subst this
   exact .nil sz eb
 · have hin : g ∈ blks (s ++ AH u E sz f xs :: t) := by
    rw [AZ]; subst hv
    exact List.mem_append.2 (.inr (by simp [blks, Ent.blk, Value.ownBlock]))
   have hcell : ∀ q x, (xs.map f).flatten[q]? = some x → ∃ c, w.cell? ((⟨g, 0, none⟩ : Addr).add q) = some c ∧ Rel w I x c := fun q x hx => by
    obtain ⟨c, hc1, hc2⟩ := AV.rels_get hos q x.av (by rw [List.getElem?_map, hx]; rfl)
    exact ⟨c, ho.cells (g := g) (by rw [hv]; rfl) q c hc1, D.av_rel' hc2⟩
   have hszs : ∀ r ∈ xs.map f, r.length = sz := fun r hr => by obtain ⟨a, _, rfl⟩ := List.mem_map.1 hr; exact hsz a
   have hq : ∀ (j u : Nat) (r : List D) (x : D), (xs.map f)[j]? = some r → r[u]? = some x → (xs.map f).flatten[j * sz + u]? = some x := fun j u r x hr hx => by
    have hu : u < sz := by
     have := (List.getElem?_eq_some_iff.1 hx).1
     rwa [hszs r (List.mem_of_getElem? hr)] at this
    rw [B6 (blt h0) _ hszs, Nat.add_comm, Nat.add_mul_div_right _ _ (blt h0), Nat.add_mul_mod_self_right, Nat.div_eq_of_lt hu, Nat.mod_eq_of_lt hu, Nat.zero_add, hr]
    exact hx
   have hres := Rel.l (w := w) (I := fun b => I b ∨ b ∈ blks (s ++ AH u E sz f xs :: t)) sz eb (xs.map f) ⟨g, 0, none⟩ cap (fun j u => (w.cell? ((⟨g, 0, none⟩ : Addr).add (j * sz + u))).getD undef) (.inr hin) (by simpa using hnc) hcm (by simpa using hb) hszs (fun j u r x hr hx => by
    obtain ⟨c, hc1, _⟩ := hcell _ x (hq j u r x hr hx)
    simp only [hc1, Option.getD_some]) (fun j u r x hr hx => by
    obtain ⟨c, hc1, hc2⟩ := hcell _ x (hq j u r x hr hx)
    simp only [hc1, Option.getD_some]
    exact hc2.mono (fun _ _ => rfl) fun _ h => .inl h)
   rw [List.length_map] at hres
   show Rel w (fun b => I b ∨ b ∈ blks (s ++ AH u E sz f xs :: t)) (.l sz eb (xs.map f)) u
   generalize (fun b => I b ∨ b ∈ blks (s ++ AH u E sz f xs :: t)) = J at hres ⊢
   rw [hv]
   exact hres

theorem PL {T E : TypeId} {x0 x1 x2 x3 : Operand} {b0 b1 b2 b3 : UInt8} {z : Value} (h0 : evO ρ x0 = some (AV.byte b0)) (h1 : evO ρ x1 = some (AV.byte b1)) (h2 : evO ρ x2 = some (AV.byte b2)) (h3 : evO ρ x3 = some (AV.byte b3)) (hT : k.P.underlying T = some (.slice E)) (he : El k.P E z 1 1)
 (hd : Nat.blt d k.n = true) (hj : JL k ops l Q ((d, .d (.l 1 1 ([b0, b1, b2, b3].map Cy))) :: ρ) h) : JL k ops (⟨some d, .buildSlice T 4 #[(0, x0), (1, x1), (2, x2), (3, x3)], ty, pos, after, none⟩ :: l) Q ρ h := by
 refine Bp (xs := [x0, x1, x2, x3]) (rows := [b0, b1, b2, b3].map Cy) hT he (by decide) (by simp) rfl ?_ ?_ ?_ (by simp) (by simp) (fun t ht => by cases ht; exact blt hd) hj
 · simp only [List.map_cons, List.map_nil, AA h0, AA h1, AA h2, AA h3]; rfl
 · intro x hx
   simp only [List.mem_cons, List.not_mem_nil, or_false] at hx
   rcases hx with rfl | rfl | rfl | rfl
   · rw [AA h0]; rfl
   · rw [AA h1]; rfl
   · rw [AA h2]; rfl
   · rw [AA h3]; rfl
 · intro r hr
   simp only [List.map_cons, List.map_nil, List.mem_cons, List.not_mem_nil, or_false] at hr
   rcases hr with rfl | rfl | rfl | rfl <;> rfl
theorem KJ {α : Type} {f : α → List D} {ys : List α} {T E : TypeId} {z : Value} {sz eb len : Nat} {parts : Array (Nat × Operand)} {xs : List Operand} (hT : k.P.underlying T = some (.slice E)) (he : El k.P E z sz eb) (h0 : 0 < sz)
 (hp : parts = ((xs.zipIdx).map fun p => (p.2, p.1)).toArray) (hl : len = xs.length) (hr : xs.map (fun x => (ev ρ x).cl) = (ys.map f).map (·.map D.av)) (hs : ∀ x ∈ xs, (ev ρ x).stor = true) (hsz : ∀ y, (f y).length = sz) (hc : ys.length * sz ≤ 16777216)
 (hd : Nat.blt d k.n = true) (hj : All fun v => JL k ops l Q ((d, .val v) :: ρ) (AH v E sz f ys :: h)) : JL k ops (⟨some d, .buildSlice T len parts, ty, pos, after, none⟩ :: l) Q ρ h := by
 obtain ⟨i, hi, hz0, hz1, _⟩ := he.get
 have hxl : xs.length = ys.length := by have := congrArg List.length hr; simpa using this
 refine D3 rfl (fun t ht => by cases ht; exact blt hd) fun I a w k1 k2 => ?_
 obtain ⟨hrel, hcs⟩ := LN k2 xs (ys.map f) hr hs
 have hsv : ∀ v ∈ xs.map a.eval, v.cells.size = sz := fun v hv => by
  obtain ⟨r, h1, h2⟩ := hcs v hv
  obtain ⟨y, _, rfl⟩ := List.mem_map.1 h1
  rw [h2]; exact hsz y
 let zc : Array Value := if len * sz = 0 then #[] else z.cells
 obtain ⟨cells, hf1, hf2⟩ := MF (sz := sz) (xs.map a.eval) 0 ((Array.range (len * sz)).map (zc[· % zc.size]!)) [] ((Array.range (len * sz)).map (zc[· % zc.size]!)).toList hsv rfl (by simp) (by simp [hl])
 simp only [List.nil_append] at hf2
 have hrun : (Instr.buildSlice T len (parts.map fun (i, x) => (i, a.eval x))).run k.P w = .ok (.slice (some ⟨w.heap.size, 0, none⟩) len len) (w.alloc (.cells cells E)) := by
  have hparts : (parts.map fun (i, x) => (i, a.eval x)).toList = ((xs.map a.eval).zipIdx 0).map fun p => (p.2, p.1) := by
   rw [hp]; simp [List.zipIdx_map]
  have hlt : ¬ len * sz > 2 ^ 24 := by rw [hl, hxl]; omega
  simp only [Instr.buildSlice, Sem.run_bind, run_underlying hT, Result.andThen_ok, sizeOf, typeInfo, run_program, hi, Sem.run_pure, hz1, hlt, if_false, Sem.run_ite, zeroValue, hz0]
  by_cases hzz : len * sz = 0
  · simp only [zc, hzz, if_true] at hf1
    simp only [hzz, if_true, hparts]
    rw [hf1]; simp [newRow]
  · simp only [zc, hzz, if_false] at hf1
    simp only [hzz, if_false, hparts]
    rw [hf1]; simp [newRow]
 have hcl : cells.toList.length = ys.length * sz := by
  rw [hf2]
  have := AV.rels_length hrel
  rw [List.length_map, Bd (ys.map f) (fun r hr => by obtain ⟨y, _, rfl⟩ := List.mem_map.1 hr; exact hsz y), List.length_map] at this
  exact this.symm
 refine ⟨.slice (some ⟨w.heap.size, 0, none⟩) ys.length ys.length, w.alloc (.cells cells E), I, .val (.slice (some ⟨w.heap.size, 0, none⟩) ys.length ys.length), _, ?_, k1.fresh _ (AH (.slice (some ⟨w.heap.size, 0, none⟩) ys.length ys.length) E sz f ys) rfl ?_, k2.fresh k1 _, rfl, hj.get _⟩
 · rw [← hxl, ← hl]
   simp only [execOp, Sem.run_bind, hrun, Result.andThen_ok, Sem.run_pure]
 · have hmono : ∀ b, I b → (w.alloc (.cells cells E)).heap[b]? = w.heap[b]? := fun b hb => Go.RowKit.Below.heap_alloc w _ b (k1.imm b hb).1
   refine ⟨cells.toList, World.ownsRow_lit w cells ys.length (Nat.zero_le _) ?_ (by rw [← hcl]; simp), ?_⟩
   · have : ys.length ≤ ys.length * sz := Nat.le_mul_of_pos_right _ h0
     simp only [maxLen]; omega
   · rw [hf2]
     exact AV.rels_mono hmono (fun _ h => h) hrel
end
section
variable {P : Program} {G : List (Nat × List D)} {ρ : Env} {h : H} {dst : Option Tmp} {ty : TypeId} {pos : String} {after : Array Edge} {g : Option (Nat × Bool)}
theorem dW {x y : Operand} {m n : Int} {ats : Array TypeId} (hx : evO ρ x = some (.int m)) (hy : evO ρ y = some (.int n)) : Pure P G ⟨dst, .call { callee := .builtin .min, args := #[x, y], argTypes := ats }, ty, pos, after, g⟩ ρ h (.int (min m n)) :=
 Ae fun w I _ a hs => by
  have e1 := AL (hs.ev x) (AA hx)
  have e2 := AL (hs.ev y) (AA hy)
  refine ⟨_, rfl, fun w' => ?_⟩
  have e3 : (if n < m then n else m) = min m n := by omega
  have hr : (Builtin.min_ ats ty #[.int .i64 m, .int .i64 n]).run P w' = .ok (.int .i64 (min m n)) w' := by rw [← e3]; simp [Builtin.min_, Builtin.min2]
  simp [execOp, resolve, invoke, builtin, e1, e2, hr]
theorem Rel.cut3 {w : World} {I : Nat → Prop} {sz eb n cap : Nat} {rows : List (List D)} {ad : Option Addr} (h : Rel w I (.l sz eb rows) (.slice ad rows.length cap)) (h2 : n ≤ rows.length) : Rel w I (.l sz eb (rows.take n)) (.slice ad n n) := by
 generalize hv : Value.slice ad rows.length cap = v at h
 cases h with
 | nil => cases hv; obtain rfl : n = 0 := by simpa using h2
          exact .nil sz eb
 | emp _ _ ad0 => cases hv; obtain rfl : n = 0 := by simpa using h2
                  exact .emp sz eb ad0
 | l _ _ _ ad0 cap0 css hI hcap hm hb hsz hc hr =>
   cases hv
   have hlen : (rows.take n).length = n := by rw [List.length_take]; omega
   have hg : ∀ (j : Nat) (r : List D), (rows.take n)[j]? = some r → rows[j]? = some r := fun j r hj => by
    rw [List.getElem?_take] at hj
    split at hj
    · exact hj
    · cases hj
   have := Rel.l (w := w) (I := I) sz eb (rows.take n) ad0 n css hI (by omega) (by omega) (Nat.le_trans (Nat.mul_le_mul_right eb (by rw [hlen]; exact h2)) hb) (fun r hr => hsz r (List.mem_of_mem_take hr))
    (fun j u r x hj hx => hc j u r x (hg j r hj) hx) (fun j u r x hj hx => hr j u r x (hg j r hj) hx)
   rwa [hlen] at this
theorem PS {α : Type} {f : α → List D} {xs : List α} {T E : TypeId} {x hi mx : Operand} {sz eb : Nat} {n : Int} {z : Value} {eb' : Nat} (hx : evO ρ x = some (.d (.l sz eb (xs.map f)))) (hhi : evO ρ hi = some (.int n)) (hmx : evO ρ mx = some (.int n)) (hT : P.underlying T = some (.slice E)) (hE : El P E z sz eb')
 (h0 : 0 ≤ n) (h2 : n ≤ xs.length) : Pure P G ⟨dst, .slice T x none (some hi) (some mx), ty, pos, after, g⟩ ρ h (.d (.l sz eb ((xs.take n.toNat).map f))) :=
 Ae fun w I _ a hs => by
  obtain ⟨i, hE, _, _, _⟩ := hE.get
  have e1 : Rel w I (.l sz eb (xs.map f)) (a.eval x) := by have := hs.ev x; rw [AA hx] at this; exact this
  have e2 := AL (hs.ev hi) (AA hhi)
  have e3 := AL (hs.ev mx) (AA hmx)
  obtain ⟨ad, cap, hv, hcap⟩ : ∃ ad cap, a.eval x = .slice ad (xs.map f).length cap ∧ (xs.map f).length ≤ cap := by
   have key : ∀ {rows : List (List D)}, Rel w I (.l sz eb rows) (a.eval x) → ∃ ad cap, a.eval x = .slice ad rows.length cap ∧ rows.length ≤ cap := by
    intro rows e
    generalize a.eval x = v at e
    cases e with
    | nil => exact ⟨none, 0, rfl, Nat.le_refl _⟩
    | emp _ _ ad => exact ⟨some ad, 0, rfl, Nat.le_refl _⟩
    | l _ _ _ ad cap css hI hcap => exact ⟨some ad, cap, rfl, hcap⟩
   exact key e1
  rw [hv] at e1
  have hcut := Rel.cut3 (n := n.toNat) e1 (by simp; omega)
  rw [← List.map_take] at hcut
  refine ⟨_, hcut, fun w' => ?_⟩
  have b1 : 0 ≤ n ∧ n ≤ (cap : Int) := by simp at hcap; omega
  have b2 : n ≤ max n 0 := by omega
  simp [execOp, hv, e2, e3, Instr.sliceAt, run_underlying hT, Instr.slice, Instr.sliceBounds, Instr.sliceBound, asIntOf, b1, b2, sizeOf, typeInfo, hE]
  intro _
  cases ad with
  | none => rfl
  | some ad0 =>
    obtain ⟨bb, oo, ss⟩ := ad0
    cases ss <;> simp [Addr.add]
end
theorem AV.le_agg {xs ys : List AV} (h : AVs.le xs ys) : AV.le (.agg xs) (.agg ys) := fun _ _ _ ⟨vs, h1, h2⟩ => ⟨vs, h1, AVs.le_rel h h2⟩
theorem RV1.le {P : Program} {G : List (Nat × List D)} {ρ : Env} {h : H} {r : ResultVar} {x y : AV} (hr : RV1 P G ρ h r x) (hl : AV.le x y) : RV1 P G ρ h r y := fun c I n a w h1 h2 h3 => let ⟨v, e1, e2⟩ := hr c I n a w h1 h2 h3; ⟨v, hl _ _ _ e1, e2⟩
theorem RVs.le {P : Program} {G : List (Nat × List D)} {ρ : Env} {h : H} : ∀ {rs : List ResultVar} {xs ys : List AV}, RVs P G ρ h rs xs → AVs.le xs ys → RVs P G ρ h rs ys
 | [], [], [], _, _ => trivial
 | _ :: _, _ :: _, _ :: _, ⟨h1, h2⟩, ⟨g1, g2⟩ => ⟨h1.le g1, RVs.le h2 g2⟩
theorem Eo {P : Program} {G : List (Nat × List D)} {rs : List ResultVar} {Q : AE → H → Prop} {e : Exit} {ρ ρ1 : Env} {h h1 h' : H} {xs ys : List AV} (v : VS ρ h ρ1 h1) (hrv : RVs P G ρ1 h1 rs xs) (hle : AVs.le xs ys) (he : Qz e = true) (hs : List.Sublist h' h1) (hq : Q (.ret (Ky ys)) h') : Zx P G rs Q e ρ h :=
 HA v (hrv.le hle) he hs hq
theorem vid {ρ : Env} {h : H} : VS ρ h ρ h := VS.of_le (Env.le_refl _)

inductive Mix : List Oper → Nat → Nat → List (Nat × Bool) → List Oper → Prop where
 | nil {l : List Oper} {i : Nat} : Mix l 0 i [] l
 | cons {o : Oper} {l l2 : List Oper} {n i : Nat} {p : List (Nat × Bool)} (h : Mix l n (i + 1) p l2) : Mix (o :: l) (n + 1) i ((i, false) :: p) l2
theorem Mix.drop {l l2 : List Oper} {n i : Nat} {p : List (Nat × Bool)} (h : Mix l n i p l2) : l.drop n = l2 := by
 induction h with
 | nil => rfl
 | cons h ih => simpa using ih
inductive Rv {α : Type} : List α → List α → List α → Prop where
 | nil {r : List α} : Rv [] r r
 | cons {x : α} {l a r : List α} (h : Rv l (x :: a) r) : Rv (x :: l) a r
def ZA : Op → Bool
 | .store .. => true
 | .mapUpdate .. => true
 | _ => false
def ak (P : Program) (o : Oper) : Bool :=
 match o.op with
 | .call c => (match c.callee with
   | .value (.func _) => (match P.underlying o.type with
     | some (.int _) => false
     | some .bool => false
     | some .string => false
     | _ => true)
   | _ => false)
 | _ => false
def Ep (P : Program) (ops : Array Oper) (n : Nat) : Bool :=
 ops.any (ak P) && Region.noSelect ops && decide (n ≤ ops.size) && (decide (n = ops.size) || (Region.sinkB .any ops n && Region.chainB .any ops n)) && (ops.toList.take n).all fun o => !ZA o.op
def FA (ops : Array Oper) (listed : Array Bool) (n i : Nat) : Bool := (Region.ready .any ops listed).contains i && Region.free .any ops listed i && decide (i < n)
def Ko (ops : Array Oper) (listed : Array Bool) (n i : Nat) : Bool := decide (Region.ready .any ops listed = [i]) && decide (i < n)
structure JE (k : Kx) (ops : Array Oper) (n f : Nat) (listed : Array Bool) (l2 : List Oper) (s : Nat) (pend held : List (Nat × Bool)) (Q : Exit → Env → H → Prop) (ρ : Env) (h : H) : Prop where
 get : Ep k.P ops n = true → HeadInv .any ops n listed → ∀ I a w, Ok k.c I h w → SF k.n w I ρ a → a.defers = k.df →
  GB k.P .any ops (C1 I h w) n (fun listed' a' w' => Region.seqB .any ops (ops.size - n) n listed' = true ∧ wpList k.P ops (lift k Q) l2 a' w') f listed a w

theorem aE {P : Program} {ops : Array Oper} {n : Nat} (hs : Ep P ops n = true) {i : Nat} (hi : i < n) : ∀ listed, HeadInv .any ops n listed → i ∈ Region.ready .any ops listed → ∀ j ∈ Region.ready .any ops listed, j < n := by
 simp only [Ep, Bool.and_eq_true, Bool.or_eq_true, decide_eq_true_eq] at hs
 obtain ⟨⟨⟨⟨_, hsel⟩, hle⟩, hor⟩, _⟩ := hs
 intro listed inv hr j hj
 rcases hor with hn | ⟨hs, hc⟩
 · obtain ⟨_, o, ho, _⟩ := mem_ready.1 hj
   rw [hn]; exact (Array.getElem?_eq_some_iff.1 ho).1
 · rcases Nat.lt_or_ge j n with h | h
   · exact h
   · obtain ⟨_, o, ho, _⟩ := mem_ready.1 hj
     have hlt := (Array.getElem?_eq_some_iff.1 ho).1
     exact absurd hj (tail_waits hs hc (by omega) inv _ i rfl hi (mem_ready.1 hr).1 j h)

section
variable {k : Kx} {Q : Exit → Env → H → Prop} {ρ ρ' : Env} {h h' : H} {ops : Array Oper} {listed : Array Bool} {l2 : List Oper} {n f s i d : Nat} {op : Op} {ty : TypeId} {pos : String} {after : Array Edge} {pend held : List (Nat × Bool)} {b : Bool}

theorem Bk {id : Nat} {l l2 : List Oper} {p : List (Nat × Bool)} {P : Program} (t : Nat) (hm : P.follows .mixedOrders = true) (hP : k.P = P) (hn : l.length = n + t) (hs : Ep P l.toArray n = true) (hx : Mix l n 0 p l2)
 (hj : JE k l.toArray n n (Array.replicate l.length false) l2 n p [] Q ρ h) : J k (.region id l.toArray true) Q ρ h := by
 subst hP
 intro I a w h1 h2 h3
 refine wp_region_any hm ?_
 have hsm : C1 I h w { w with drawn := w.drawn + 1 } := ⟨rfl, rfl, rfl, Nat.le_refl _, fun _ _ => rfl⟩
 have inv0 : HeadInv .any l.toArray n (Array.replicate l.length false) :=
  ⟨by simp, fun j oj _ hl => (by rw [getD_replicate_false] at hl; cases hl), fun t _ ht => getD_in (by simpa using ht) (getD_replicate_false _ _)⟩
 have H := hj.get hs inv0 I a _ (h1.same hsm) (SF.same h1 hsm h2) h3
 have K := DS (Q := lift k Q) (g := l.length - n) (fun listed' a' w' hL => by
  have hd := hx.drop
  have := wpAny_of_seq (md := .any) (Q' := lift k Q) l2 n listed' a' w' (fun j => by rw [← hd]; simp [List.getElem?_drop]) (by
   have e : l2.length = l.toArray.size - n := by rw [← hd]; simp
   rw [e]; exact hL.1) hL.2
  have e : l2.length = l.length - n := by rw [← hd]; simp
  rwa [e] at this) _ _ _ _ H
 rw [show n + (l.length - n) = l.toArray.size by simp; omega] at K
 simpa using K

theorem aJ (hs : Ep k.P ops n = true) : Region.noSelect ops = true := by
 simp only [Ep, Bool.and_eq_true] at hs
 exact hs.1.1.1.2
theorem ZF (hs : Ep k.P ops n = true) : ∀ (listed : Array Bool) (a : Act) (w : World), (Region.seqB .any ops (ops.size - n) n listed = true ∧ wpList k.P ops (lift k Q) l2 a w) → ∀ j ∈ Region.ready .any ops listed, n ≤ j :=
 fun _ _ _ h => seqB_ready h.1

theorem ay {o : Oper} {v : Value} {r : AV} (ho : ops[i]? = some o) (hc : FA ops listed n i = true) (hd : ∀ t, o.dst = some t → t < k.n)
 (hy : ∀ I a w, Ok k.c I h w → SF k.n w I ρ a → ∃ v, AV.rel w I r v ∧ YieldsIf k.P ops (C1 I h w) o v a)
 (hj : JE k ops n f (listed.setIfInBounds i true) l2 s pend held Q (put ρ o.dst r) h) : JE k ops n (f + 1) listed l2 s ((i, b) :: pend) held Q ρ h := by
 refine ⟨fun hs inv I a w h1 h2 h3 => ?_⟩
 simp only [FA, Bool.and_eq_true, decide_eq_true_eq] at hc
 obtain ⟨⟨hr, hf⟩, hin⟩ := hc
 have hr' : i ∈ Region.ready .any ops listed := by simpa using hr
 obtain ⟨v, hv, hyv⟩ := hy I a w h1 h2
 exact Gy ho (Region.noSelect_spec (aJ hs)) (aE hs hin) hin (ZF hs) f listed a w inv (Region.free_spec ho hf) hr' hyv (C1.refl _ _ _)
  (hj.get hs (inv.set hr' hin) I _ w h1 (h2.put hd hv) (by rw [Act.defers_put]; exact h3))
theorem je_q {r : AV} (ho : ops[i]? = some ⟨some d, op, ty, pos, after, none⟩) (hc : FA ops listed n i = true) (hp : Pure k.P k.c.G ⟨some d, op, ty, pos, after, none⟩ ρ h r) (hd : Nat.blt d k.n = true)
 (hj : JE k ops n f (listed.setIfInBounds i true) l2 s pend held Q ((d, r) :: ρ) h) : JE k ops n (f + 1) listed l2 s ((i, false) :: pend) held Q ρ h :=
 ay (v := undef) ho hc (fun t ht => by cases ht; exact blt hd) (fun I a w h1 h2 => by
  obtain ⟨v, hv, hrun⟩ := hp k.c I k.n a w rfl h1 h2
  exact ⟨v, hv, .inl ⟨by simp [Region.wanted], fun w' hw' => hrun w' (hw'.weak h1)⟩⟩) hj
theorem Z1 (_hc : Ko ops listed n i = false) (hj : JE k ops n f listed l2 s pend ((i, b) :: held) Q ρ h) : JE k ops n f listed l2 s ((i, b) :: pend) held Q ρ h := ⟨hj.get⟩
theorem bX {q : Nat × Bool} {p : List (Nat × Bool)} (_hp : Rv (q :: held) [] p) (hj : JE k ops n f listed l2 s p [] Q ρ h) : JE k ops n f listed l2 (s + 1) [] (q :: held) Q ρ h := ⟨hj.get⟩
theorem bE (hc : Region.seqB .any ops (ops.size - n) n listed = true) (hj : JL k ops l2 Q ρ h) : JE k ops n 0 listed l2 s [] [] Q ρ h := ⟨fun _ _ I a w h1 h2 h3 => ⟨hc, hj I a w h1 h2 h3⟩⟩

theorem C1.step {I I' : Nat → Prop} {h h' : H} {w w' : World} (s : C1 I h w w') : ∀ u, C1 I' h' w' u → C1 I h w u := fun _ t => ⟨t.os.trans s.os, t.tape.trans s.tape, t.output.trans s.output, Nat.le_trans s.size t.size, fun b hb => (t.block b (Nat.lt_of_lt_of_le hb s.size)).trans (s.block b hb)⟩
theorem Q5 {f' : FuncId} {xs : Array Operand} {ats : Array TypeId} {args : List AV} {R : AE → H → Prop} (ho : ops[i]? = some ⟨some d, .call { callee := .value (.func f'), args := xs, argTypes := ats }, ty, pos, after, none⟩) (hc : Ko ops listed n i = true)
 (hargs : FN ρ xs.toList = some args) (hcal : Cal k.P f') (hac : AC k.P k.c.G f' args [] R) (hd : Nat.blt d k.n = true) (hnp : ∀ ch h', ¬ R (.pan ch) h')
 (hret : ∀ r h', R (.ret r) h' → JE k ops n f (listed.setIfInBounds i true) l2 s pend held Q ((d, r) :: ρ) (h' ++ h)) : JE k ops n (f + 1) listed l2 s ((i, b) :: pend) held Q ρ h := by
 refine ⟨fun hs inv I a w h1 h2 h3 => ?_⟩
 simp only [Ko, Bool.and_eq_true, decide_eq_true_eq] at hc
 obtain ⟨hr, hin⟩ := hc
 have hr' : i ∈ Region.ready .any ops listed := by rw [hr]; simp
 refine ⟨by rw [hr]; simp, fun j hj => ?_⟩
 rw [hr] at hj
 obtain rfl : j = i := by simpa using hj
 refine ⟨hin, ?_⟩
 unfold wpOp
 rw [ho]
 dsimp only
 rw [if_pos (by simp [Region.wanted])]
 refine .inl ?_
 unfold Oper.wp
 rw [execOp_call_go, hcal]
 simp only [Oper.upon]
 have hargs' : (#[] ++ xs.map a.eval ++ #[] : Array Value) = (xs.toList.map a.eval).toArray := by
  apply Array.ext'; simp
 rw [hargs']
 have hrels : AV.rels w I args (xs.toList.map a.eval) := by rw [← CA hargs]; exact DW h2 xs.toList
 refine (hac I w _ (by simp) (by simp [blks]) (fun b hb => ⟨(h1.imm b hb).1, by simp [blks]⟩) (fun q hq => h1.glob q hq) hrels).mono ?_
 rintro e w' ⟨r, h', I', hR, hok, hrel⟩
 have k0 : Ok k.c I ([] ++ h) w := h1
 obtain ⟨k1, k2⟩ := Ok.call (hc := []) (hr := h) k0 hok
 have hsm : C1 I h w w' := ⟨hok.os, hok.tape, hok.output, hok.size, fun b hb => hok.keep b hb (by simp [blks])⟩
 have hsf : SF k.n w' I' ρ a := h2.mono k2 (fun b hb => hok.sup b hb)
 cases r with
 | ret r =>
   cases e with
   | returned v => exact ⟨hsm, FG hsm.step _ _ _ _ ((hret r h' hR).get hs (inv.set hr' hin) I' _ w' k1 (hsf.put (fun t ht => by cases ht; exact blt hd) hrel) (by rw [Act.defers_put]; exact h3))⟩
   | panicked ch => exact hrel.elim
   | outgrown => exact hrel.elim
 | pan ch => exact absurd hR (hnp ch h')
theorem Bc {f' : FuncId} {xs : Array Operand} {ats : Array TypeId} {args : List AV} {r : AV} (ho : ops[i]? = some ⟨some d, .call { callee := .value (.func f'), args := xs, argTypes := ats }, ty, pos, after, none⟩) (hc : Ko ops listed n i = true)
 (hargs : FN ρ xs.toList = some args) (hcal : Cal k.P f') (hac : ACr k.P k.c.G f' args r) (hd : Nat.blt d k.n = true)
 (hj : JE k ops n f (listed.setIfInBounds i true) l2 s pend held Q ((d, r) :: ρ) h) : JE k ops n (f + 1) listed l2 s ((i, b) :: pend) held Q ρ h :=
 Q5 ho hc hargs hcal hac hd (fun ch h' hq => by cases hq.1) fun r' h' hq => by obtain ⟨e1, e2⟩ := hq; cases e1; subst e2; exact hj
theorem RZ {β : Type} {X : β → AV} {en : β → Ent} {f' : FuncId} {xs : Array Operand} {ats : Array TypeId} {args : List AV} (ho : ops[i]? = some ⟨some d, .call { callee := .value (.func f'), args := xs, argTypes := ats }, ty, pos, after, none⟩) (hc : Ko ops listed n i = true)
 (hargs : FN ρ xs.toList = some args) (hcal : Cal k.P f') (hac : AC k.P k.c.G f' args [] fun r h => ∃ v, r = .ret (X v) ∧ h = [en v]) (hd : Nat.blt d k.n = true)
 (hj : All fun v => JE k ops n f (listed.setIfInBounds i true) l2 s pend held Q ((d, X v) :: ρ) (en v :: h)) : JE k ops n (f + 1) listed l2 s ((i, b) :: pend) held Q ρ h :=
 Q5 ho hc hargs hcal hac hd (fun ch h' hq => by obtain ⟨v, e1, _⟩ := hq; cases e1) fun r' h' hq => by obtain ⟨v, e1, e2⟩ := hq; cases e1; subst e2; exact hj.get v
end
structure Sl where
 ad : Option Addr
 n : Nat
 c : Nat
abbrev Sl.v (q : Sl) : Value := .slice q.ad q.n q.c
abbrev Sl.nil : Sl := ⟨none, 0, 0⟩
section
variable {k : Kx} {Q : Exit → Env → H → Prop} {ρ ρ' : Env} {h h' h1 h2 : H} {ops : Array Oper} {l : List Oper} {d : Nat} {ty : TypeId} {pos : String} {after : Array Edge} {e1 e2 e3 e4 : Ent}
theorem Ii {v : Value} {n : Nat} {E : TypeId} {sz : Nat} {xs : List AV} (hh : h = h1 ++ .row v n E sz xs :: h2) (hj : ∀ q : Sl, v = q.v → JL k ops l Q ρ h) : JL k ops l Q ρ h := by
 intro I a w k1 k2 k3
 obtain ⟨os, ho, _⟩ := k1.ent (.row v n E sz xs) (by rw [hh]; simp)
 rcases ho.2 with ⟨rfl, _⟩ | ⟨g, cap, cur, rfl, _⟩
 · exact hj ⟨none, 0, 0⟩ rfl I a w k1 k2 k3
 · exact hj ⟨some ⟨g, 0, none⟩, n, cap⟩ rfl I a w k1 k2 k3
theorem eQ {α : Type} {f : α → List D} {xs ys : List α} {T E : TypeId} {x y : Operand} {z : Value} {sz eb eb' : Nat} {v : Value} (hx : evO ρ x = some (.val v)) (hh : h = h1 ++ AH v E sz f xs :: h2) (hy : evO ρ y = some (.d (.l sz eb' (ys.map f)))) (hT : k.P.underlying T = some (.slice E)) (he : El k.P E z sz eb) (hz : z.cells.size = sz) (h0 : Nat.blt 0 sz = true)
 (hd : Nat.blt d k.n = true) (hb : (xs.length + ys.length) * eb ≤ 140737488355328) (hm : xs.length + ys.length ≤ 140737488355328)
 (hj : ∀ q : Sl, JL k ops l Q ((d, .val q.v) :: ρ) (h1 ++ AH q.v E sz f (xs ++ ys) :: h2)) :
 JL k ops (⟨some d, .call { callee := .builtin .append, args := #[x, y], argTypes := #[T, T] }, ty, pos, after, none⟩ :: l) Q ρ h := by
 refine Nn (h1 := h1) (h2 := h2) (n := xs.length) (rows := ys.map f) hT he hz (blt h0) (AA hx) (AA hy) hh (by simpa using hb) (by simpa using hm) (fun t ht => by cases ht; exact blt hd) fun v' => ?_
 refine Ii (h1 := h1) (h2 := h2) rfl fun q hq => ?_
 subst hq
 have := hj q
 rw [Gt]
 unfold AH at this
 rw [List.length_append] at this
 rw [List.length_map]
 exact this
theorem LD {α : Type} (f : α → List D) {T E : TypeId} {z : Value} {sz eb : Nat} (hT : k.P.underlying T = some (.slice E)) (he : El k.P E z sz eb) (hd : Nat.blt d k.n = true)
 (hj : All fun q : Sl => JL k ops l Q ((d, .val q.v) :: ρ) (AH q.v E sz f [] :: h)) : JL k ops (⟨some d, .buildSlice T 0 #[], ty, pos, after, none⟩ :: l) Q ρ h :=
 aG f hT he hd ⟨fun v => Ii (h1 := []) rfl fun q e => by subst e; exact hj.get q⟩
end

section
variable {k : Kx} {Q : Exit → Env → H → Prop} {ρ ρ' : Env} {h h' : H} {ops : Array Oper} {listed : Array Bool} {n f i j d : Nat} {op : Op} {ty : TypeId} {pos : String} {after : Array Edge}

theorem GI {P : Program} {o : Oper} {a : Act} {w : World} {K K' : Act → World → Prop} {Q Q' : Exit → Act → World → Prop} (hK : ∀ a w, K a w → K' a w) (hQ : ∀ e a w, e ≠ .normal → ¬ Q e a w) (h : o.wp P a w K Q) : o.wp P a w K' Q' := by
 unfold Oper.wp at *
 generalize (execOp a.eval o).run P w = r at *
 cases r with
 | ok n w' =>
   cases n <;> simp only [Oper.upon] at h ⊢
   case value u => exact hK _ _ h
   case skip => exact hK _ _ h
   case defer d => exact hK _ _ h
   case enter f args =>
    refine Calls.mono h fun e w'' he => ?_
    cases e with
    | returned u => exact hK _ _ he
    | panicked c => exact absurd he (hQ _ _ _ (by simp))
    | outgrown => obtain ⟨_, _, hf⟩ := he; exact absurd hf (hQ _ _ _ (by simp))
   case row row args => exact Rows.mono h fun u w'' he => hK _ _ he
 | halt x w' =>
   cases x <;> simp only [Oper.upon] at h ⊢
   case panic u => exact absurd h (hQ _ _ _ (by simp))
structure JX (k : Kx) (ops : Array Oper) (f : Nat) (listed : Array Bool) (Q : Exit → Env → H → Prop) (ρ : Env) (h : H) : Prop where
 get : Region.noSelect ops = true → HeadInv .any ops ops.size listed → ∀ I a w, Ok k.c I h w → SF k.n w I ρ a → a.defers = k.df →
  GB k.P .any ops (fun _ => True) ops.size (fun listed' a' w' => Region.ready .any ops listed' = [] ∧ lift k Q .normal a' w') f listed a w

theorem O0 {id : Nat} {l : List Oper} {P : Program} (hm : P.follows .mixedOrders = true) (hP : k.P = P) (hn : l.length = n) (hs : Region.noSelect l.toArray = true)
 (hj : JX k l.toArray n (Array.replicate l.length false) Q ρ h) : J k (.region id l.toArray true) Q ρ h := by
 subst hP
 subst hn
 intro I a w h1 h2 h3
 refine wp_region_any hm ?_
 have hsm : C1 I h w { w with drawn := w.drawn + 1 } := ⟨rfl, rfl, rfl, Nat.le_refl _, fun _ _ => rfl⟩
 have inv0 : HeadInv .any l.toArray l.toArray.size (Array.replicate l.length false) :=
  ⟨by simp, fun j oj _ hl => (by rw [getD_replicate_false] at hl; cases hl), fun t _ ht => getD_in (by simpa using ht) (getD_replicate_false _ _)⟩
 have H := hj.get hs inv0 I a _ (h1.same hsm) (SF.same h1 hsm h2) h3
 have K := DS (Q := lift k Q) (g := 0) (fun listed' a' w' hL => ⟨hL.1, hL.2⟩) _ _ _ _ H
 simpa using K
theorem a6 (hr : Region.ready .any ops listed = []) (hj : Q .normal ρ h) : JX k ops 0 listed Q ρ h := ⟨fun _ _ I _ _ h1 h2 h3 => ⟨hr, I, ρ, h, h1, h2, h3, hj⟩⟩
theorem bQ (hn : Region.ready .any ops listed ≠ []) (hall : ∀ i ∈ Region.ready .any ops listed, ∃ o, ops[i]? = some o ∧ JL k ops [o] (fun e ρ' h' => e = .normal ∧ JX k ops f (listed.setIfInBounds i true) Q ρ' h') ρ h) : JX k ops (f + 1) listed Q ρ h := by
 refine ⟨fun hs inv I a w h1 h2 h3 => ⟨hn, fun i hi => ?_⟩⟩
 obtain ⟨o, ho, hj⟩ := hall i hi
 have hin : i < ops.size := (Array.getElem?_eq_some_iff.1 ho).1
 refine ⟨hin, ?_⟩
 have H := hj I a w h1 h2 h3
 unfold wpOp
 rw [ho]
 dsimp only
 have hK : ∀ a' w', lift k (fun e ρ' h' => e = .normal ∧ JX k ops f (listed.setIfInBounds i true) Q ρ' h') .normal a' w' → True ∧ GB k.P .any ops (fun _ => True) ops.size (fun listed' a' w' => Region.ready .any ops listed' = [] ∧ lift k Q .normal a' w') f (listed.setIfInBounds i true) a' w' := by
  rintro a' w' ⟨I', ρ', h', q1, q2, q3, _, q4⟩
  exact ⟨trivial, q4.get hs (inv.set hi hin) I' a' w' q1 q2 q3⟩
 have hQ : ∀ e a' w', e ≠ .normal → ¬ lift k (fun e ρ' h' => e = .normal ∧ JX k ops f (listed.setIfInBounds i true) Q ρ' h') e a' w' := by
  rintro e a' w' he ⟨_, _, _, _, _, _, q, _⟩
  exact he q
 rw [wpList] at H
 by_cases hw : Region.wanted o (yielded ops a.tmps) = true
 · rw [if_pos hw] at H ⊢
   rcases H with H | ⟨_, a', w', H⟩
   · exact .inl (GI hK hQ H)
   · exact absurd H (hQ _ _ _ (by simp))
 · rw [if_neg hw] at H ⊢
   exact hK _ _ H
theorem OG {o : Oper} {r : AV} (ho : ops[i]? = some o) (hc : FA ops listed ops.size i = true) (hd : ∀ t, o.dst = some t → t < k.n)
 (hy : ∀ I a w, Ok k.c I h w → SF k.n w I ρ a → ∃ v, AV.rel w I r v ∧ YieldsIf k.P ops (fun _ => True) o v a)
 (hj : JX k ops f (listed.setIfInBounds i true) Q (put ρ o.dst r) h) : JX k ops (f + 1) listed Q ρ h := by
 refine ⟨fun hs inv I a w h1 h2 h3 => ?_⟩
 simp only [FA, Bool.and_eq_true, decide_eq_true_eq] at hc
 obtain ⟨⟨hr, hf⟩, hin⟩ := hc
 have hr' : i ∈ Region.ready .any ops listed := by simpa using hr
 obtain ⟨v, hv, hyv⟩ := hy I a w h1 h2
 exact Gy ho (Region.noSelect_spec hs) (fun _ _ _ j hj => by obtain ⟨_, o, ho, _⟩ := mem_ready.1 hj; exact (Array.getElem?_eq_some_iff.1 ho).1) hin (fun _ _ _ hL j hj => by rw [hL.1] at hj; cases hj) f listed a w inv (Region.free_spec ho hf) hr' hyv trivial
  (hj.get hs (inv.set hr' hin) I _ w h1 (h2.put hd hv) (by rw [Act.defers_put]; exact h3))
theorem Zm {x : Operand} {r : AV} (ho : ops[i]? = some ⟨some d, .move x, ty, pos, after, none⟩) (hc : FA ops listed ops.size i = true) (hx : evO ρ x = some r) (hd : Nat.blt d k.n = true)
 (hj : JX k ops f (listed.setIfInBounds i true) Q ((d, r) :: ρ) h) : JX k ops (f + 1) listed Q ρ h :=
 OG ho hc (fun t ht => by cases ht; exact blt hd) (fun _ a _ _ h2 => ⟨a.eval x, BW (h2.ev x) (AA hx), .inl ⟨by simp [Region.wanted], fun _ _ => rfl⟩⟩) hj
structure Stop (p : Prop) : Prop where
 get : p
theorem MB {X : Type} {x : Code} (S : X → Env) (G : X → H) (hx : J k x (fun e ρ' h' => e = .normal ∧ ∃ y, VS ρ' h' (S y) (G y)) ρ h) (hq : ∀ y, Q .normal (S y) (G y)) : J k x Q ρ h := by
 intro I a w h1 h2 h3
 refine wp_mono (hx I a w h1 h2 h3) ?_
 rintro e a' w' ⟨I', ρ', h', k1, k2, k3, rfl, y, hv⟩
 obtain ⟨I'', k4, k5⟩ := hv k.c I' k.n a' w' k1 k2
 exact ⟨I'', S y, G y, k4, k5, k3, hq y⟩
end
end Go.Av
namespace Go.Sp
open Go Go.Av

def ni (l : List Nat) (i : Nat) : Nat := (l[i]?).getD 0
theorem MJ (l : List Nat) (i : Nat) (h : i < l.length) : ni l i = l[i] := by simp [ni, List.getElem?_eq_getElem h]
noncomputable def EP (g : Gn) : List Nat := (List.range g.spots.length).map fun v => (partOf g.nx v).toNat
theorem JG (g : Gn) : (EP g).length = g.spots.length := by simp [EP]
theorem Sw (g : Gn) : (EP g).map (fun k : Nat => (k : Int)) = Fh g := by
 unfold EP Fh
 rw [List.map_map]
 apply List.map_congr_left
 intro v _
 have := Ir (nx := g.nx) v
 simp only [Function.comp_apply]
 omega
theorem Za (g : Gn) (i : Nat) (h : i < (EP g).length) : (EP g)[i] < g.spots.length := by
 have h1 := Ir (nx := g.nx) i
 rw [JG] at h
 simp only [EP, List.getElem_map, List.getElem_range]
 omega
def I4 (g : Gn) (pn : List Nat) (i : Nat) : Prop :=
 ni pn i = i ∧ (∃ u, u < g.spots.length ∧ ni pn u = i ∧ ∃ w ∈ g.nx u, ni pn w = i) ∧ ∀ s, s < g.many → ∃ u, u < g.spots.length ∧ ni pn u = i ∧ (ni g.sets u).testBit s = true
noncomputable instance (g : Gn) (pn : List Nat) (i : Nat) : Decidable (I4 g pn i) := Classical.propDecidable _
noncomputable def HI (g : Gn) (pn : List Nat) : List Bool := (List.range g.spots.length).map fun i => decide (I4 g pn i)
structure LoI (g : Gn) (pn : List Nat) (i k : Nat) (lo : List Bool) : Prop where
 len : lo.length = g.spots.length
 iff : ∀ v, v < g.spots.length → (bi lo v = true ↔ (∃ u, u < i ∧ ni pn u = v ∧ ∃ w ∈ g.nx u, ni pn w = v) ∨ (ni pn i = v ∧ ∃ w ∈ (g.nx i).take k, ni pn w = v))
section
variable {g : Gn} {pn : List Nat} {i k : Nat} {lo : List Bool}
theorem dH (n v : Nat) : bi (List.replicate n false) v = false := by
 unfold bi; rw [List.getElem?_replicate]; split <;> rfl
theorem LoI.start (g : Gn) (pn : List Nat) : LoI g pn 0 0 (List.replicate g.spots.length false) where
 len := by simp
 iff v hv := by simp [dH]
theorem LoI.yes (t : LoI g pn i k lo) (hk : k < (g.nx i).length) (he : ni pn (g.nx i)[k] = ni pn i) (hp : ni pn i < g.spots.length) : LoI g pn i (k + 1) (lo.set (ni pn i) true) where
 len := by simpa using t.len
 iff v hv := by
  rw [Ji _ _ _ _ (by rw [t.len]; exact hp), List.take_succ_eq_append_getElem hk]
  split
  · rename_i e
    subst e
    refine ⟨fun _ => .inr ⟨rfl, _, List.mem_append.2 (.inr (List.mem_singleton.2 rfl)), he⟩, fun _ => rfl⟩
  · rename_i e
    rw [t.iff v hv]
    constructor
    · rintro (h | ⟨h1, w, h2, h3⟩)
      · exact .inl h
      · exact .inr ⟨h1, w, List.mem_append.2 (.inl h2), h3⟩
    · rintro (h | ⟨h1, w, h2, h3⟩)
      · exact .inl h
      · exact absurd h1.symm e
theorem LoI.no (t : LoI g pn i k lo) (hk : k < (g.nx i).length) (he : ¬ ni pn (g.nx i)[k] = ni pn i) : LoI g pn i (k + 1) lo where
 len := t.len
 iff v hv := by
  rw [t.iff v hv, List.take_succ_eq_append_getElem hk]
  constructor
  · rintro (h | ⟨h1, w, h2, h3⟩)
    · exact .inl h
    · exact .inr ⟨h1, w, List.mem_append.2 (.inl h2), h3⟩
  · rintro (h | ⟨h1, w, h2, h3⟩)
    · exact .inl h
    · rcases List.mem_append.1 h2 with h2 | h2
      · exact .inr ⟨h1, w, h2, h3⟩
      · rw [List.mem_singleton.1 h2] at h3
        exact absurd (h3.trans h1.symm) he
theorem LoI.done (t : LoI g pn i (g.nx i).length lo) : LoI g pn (i + 1) 0 lo where
 len := t.len
 iff v hv := by
  rw [t.iff v hv, List.take_length]
  simp only [List.take_zero, List.not_mem_nil, false_and, exists_false, and_false, or_false]
  constructor
  · rintro (⟨u, h1, h2⟩ | ⟨h1, h2⟩)
    · exact ⟨u, by omega, h2⟩
    · exact ⟨i, by omega, h1, h2⟩
  · rintro ⟨u, h1, h2, h3⟩
    by_cases e : u = i
    · subst e; exact .inr ⟨h2, h3⟩
    · exact .inl ⟨u, by omega, h2, h3⟩
def SeI (g : Gn) (pn : List Nat) (i : Nat) (st : List Int) : Prop :=
 st.length = g.spots.length ∧ ∀ v, v < g.spots.length → ∃ x : Nat, gi st v = x ∧ x < 2 ^ g.many ∧ ∀ s, x.testBit s = true ↔ ∃ u, u < i ∧ ni pn u = v ∧ (ni g.sets u).testBit s = true
theorem SeI.start (g : Gn) (pn : List Nat) : SeI g pn 0 (List.replicate g.spots.length 0) := ⟨by simp, fun v hv => ⟨0, by rw [IH]; rfl, Nat.two_pow_pos _, fun s => by simp⟩⟩
theorem Z6 {g : Gn} (hok : g.ok) (i : Nat) : ni g.sets i < 2 ^ g.many := by
 by_cases h : i < g.sets.length
 · rw [MJ _ _ h]; exact hok.bits i h
 · simp only [ni, List.getElem?_eq_none (Nat.le_of_not_lt h), Option.getD_none]
   exact Nat.two_pow_pos _
theorem XB {g : Gn} (hok : g.ok) : 1 ≤ 2 ^ g.many ∧ 2 ^ g.many ≤ 64 := by
 have := hok.many
 have : g.many = 0 ∨ g.many = 1 ∨ g.many = 2 ∨ g.many = 3 ∨ g.many = 4 ∨ g.many = 5 ∨ g.many = 6 := by omega
 rcases this with h | h | h | h | h | h | h <;> rw [h] <;> decide
theorem SeI.step {st : List Int} (hok : g.ok) (t : SeI g pn i st) (hp : ni pn i < g.spots.length) : SeI g pn (i + 1) (st.set (ni pn i) (bits .or .i64 (gi st (ni pn i)) (ni g.sets i : Nat))) := ⟨by simpa using t.1, fun v hv => by
 obtain ⟨x, h1, h2, h3⟩ := t.2 v hv
 rw [Dn _ _ _ _ (by rw [t.1]; exact hp)]
 have hlt := Z6 hok i
 have h64 := XB hok
 split
 · rename_i e
   subst e
   refine ⟨x ||| ni g.sets i, ?_, Nat.or_lt_two_pow h2 hlt, fun s => ?_⟩
   · rw [h1]
     exact (bits_nat .i64 63 (by decide) Dq x (ni g.sets i) (by omega) (by omega)).2
   · rw [Nat.testBit_or, Bool.or_eq_true, h3 s]
     constructor
     · rintro (⟨u, a, b⟩ | h)
       · exact ⟨u, by omega, b⟩
       · exact ⟨i, by omega, rfl, h⟩
     · rintro ⟨u, a, b, c⟩
       by_cases eu : u = i
       · subst eu; exact .inr c
       · exact .inl ⟨u, by omega, b, c⟩
 · rename_i e
   refine ⟨x, h1, h2, fun s => ?_⟩
   rw [h3 s]
   constructor
   · rintro ⟨u, a, b⟩
     exact ⟨u, by omega, b⟩
   · rintro ⟨u, a, b, c⟩
     by_cases eu : u = i
     · subst eu; exact absurd b.symm e
     · exact ⟨u, by omega, b, c⟩⟩
theorem X1 {st : List Int} (t : LoI g pn g.spots.length 0 lo) (q : SeI g pn g.spots.length st) {i : Nat} (hi : i < g.spots.length) : I4 g pn i ↔ ni pn i = i ∧ bi lo i = true ∧ gi st i = 2 ^ g.many - 1 := by
 obtain ⟨x, h1, h2, h3⟩ := q.2 i hi
 rw [t.iff i hi]
 simp only [List.take_zero, List.not_mem_nil, false_and, exists_false, and_false, or_false]
 unfold I4
 refine and_congr_right fun _ => and_congr_right fun _ => ?_
 have hpos : 1 ≤ 2 ^ g.many := Nat.two_pow_pos _
 constructor
 · intro h
   have e : x = 2 ^ g.many - 1 := by
    apply Nat.eq_of_testBit_eq
    intro s
    rw [Nat.testBit_two_pow_sub_one]
    by_cases hs : s < g.many
    · rw [decide_eq_true hs, h3 s]; exact h s hs
    · rw [decide_eq_false hs]
      exact Nat.testBit_lt_two_pow (Nat.lt_of_lt_of_le h2 (Nat.pow_le_pow_right (by decide) (by omega)))
   rw [h1, e]
   have : ((2 ^ g.many - 1 : Nat) : Int) = ((2 ^ g.many : Nat) : Int) - 1 := by omega
   rw [this]
   simp
 · intro h s hs
   have e : x = 2 ^ g.many - 1 := by
    have e1 : ((2 : Int) ^ g.many) = ((2 ^ g.many : Nat) : Int) := by simp
    rw [e1] at h
    omega
   rw [← h3 s, e, Nat.testBit_two_pow_sub_one, decide_eq_true hs]
end
def M0 (g : Gn) (i : Nat) : Prop := C2 g i ∧ I4 g (EP g) i
noncomputable instance (g : Gn) (i : Nat) : Decidable (M0 g i) := Classical.propDecidable _
noncomputable def Np (g : Gn) : Int × Int :=
 match (List.range g.spots.length).find? fun i => decide (M0 g i) with
 | some i => ((i : Int), 0)
 | none => (0, 11)
noncomputable def C5 (g : Gr) : Int × Int := open Classical in if okG g then Np (Yj g) else (0, 9)
theorem My {g : Gn} (h : g.ok) : C5 g.gr = Np g := by rw [C5, if_pos (Gn.ok_gr h), PB h]
theorem V0 {g : Gr} (h : ¬ okG g) : C5 g = (0, 9) := by rw [C5, if_neg h]
theorem SU {n i : Nat} {p : Nat → Bool} (hb : ∀ j, j < i → p j = false) (hi : i < n) (hp : p i = true) : (List.range n).find? p = some i := by
 rw [List.find?_range_eq_some]
 exact ⟨hp, List.mem_range.2 hi, fun j hj => by simp [hb j hj]⟩
theorem VR {n : Nat} {p : Nat → Bool} (hb : ∀ j, j < n → p j = false) : (List.range n).find? p = none := by
 rw [List.find?_eq_none]
 intro x hx
 rw [hb x (List.mem_range.1 hx)]
 decide
theorem Yl {g : Gn} {i : Nat} (hb : ∀ j, j < i → ¬ M0 g j) (hi : i < g.spots.length) (hp : M0 g i) : Np g = ((i : Int), 0) := by
 rw [Np, SU (fun j hj => decide_eq_false (hb j hj)) hi (decide_eq_true hp)]
theorem SI {g : Gn} (hb : ∀ j, j < g.spots.length → ¬ M0 g j) : Np g = (0, 11) := by
 rw [Np, VR fun j hj => decide_eq_false (hb j hj)]
end Go.Sp
namespace Go.Av
open Go

inductive Upd (e e' : Ent) : H → H → Prop where
 | here {h : H} : Upd e e' (e :: h) (e' :: h)
 | there {x : Ent} {h h' : H} (u : Upd e e' h h') : Upd e e' (x :: h) (x :: h')
theorem Upd.split {e e' : Ent} {h h' : H} (u : Upd e e' h h') : ∃ h1 h2, h = h1 ++ e :: h2 ∧ h' = h1 ++ e' :: h2 := by
 induction u with
 | here => exact ⟨[], _, rfl, rfl⟩
 | there _ ih =>
   obtain ⟨h1, h2, rfl, rfl⟩ := ih
   exact ⟨_ :: h1, h2, rfl, rfl⟩
theorem Upd.perm {e e' : Ent} {h h' : H} (u : Upd e e' h h') : ∃ r, h.Perm (e :: r) ∧ h'.Perm (e' :: r) := by
 obtain ⟨h1, h2, rfl, rfl⟩ := u.split
 exact ⟨h1 ++ h2, List.perm_middle, List.perm_middle⟩
inductive Sel (e : Ent) : H → H → Prop where
 | here {h : H} : Sel e (e :: h) h
 | there {x : Ent} {h h' : H} (u : Sel e h h') : Sel e (x :: h) (x :: h')
theorem Sel.perm {e : Ent} {h h' : H} (u : Sel e h h') : h.Perm (e :: h') := by
 induction u with
 | here => exact List.Perm.refl _
 | there _ ih => exact (ih.cons _).trans (List.Perm.swap ..)
inductive Take : H → H → H → Prop where
 | nil {h : H} : Take h [] h
 | cons {e : Ent} {h h1 hc hr : H} (s : Sel e h h1) (t : Take h1 hc hr) : Take h (e :: hc) hr
theorem Take.perm {h hc hr : H} (t : Take h hc hr) : h.Perm (hc ++ hr) := by
 induction t with
 | nil => exact List.Perm.refl _
 | cons s _ ih => exact s.perm.trans (ih.cons _)
inductive App : H → H → H → Prop where
 | nil {h : H} : App [] h h
 | cons {e : Ent} {a h h' : H} (p : App a h h') : App (e :: a) h (e :: h')
theorem App.eq {a h h' : H} (p : App a h h') : h' = a ++ h := by
 induction p with
 | nil => rfl
 | cons _ ih => rw [ih]; rfl

section
variable {k : Kx} {Q : Exit → Env → H → Prop} {ρ ρ' : Env} {h h' hr : H} {ops : Array Oper} {l : List Oper} {d : Nat} {dst : Option Tmp} {ty : TypeId} {pos : String} {after : Array Edge}

theorem VS.take {hc : H} (t : Take h hc hr) (hle : Env.le ρ ρ') : VS ρ h ρ' hc := VS.trans (VS.perm t.perm) (VS.trans (VS.drop (List.sublist_append_left hc hr)) (VS.of_le hle))

theorem dr {α : Type} {f : α → AV} {T T0 : TypeId} {x y : Operand} {b off : Nat} {a : α} {vs : List α} {z : Value} {eb : Nat} (hx : evO ρ x = some (.val (.pointer (some ⟨b, off, none⟩))))
 (hu : Upd (.cells b T0 (vs.map f)) (.cells b T0 ((vs.set off a).map f)) h h') (hy : evO ρ y = some (f a)) (hs : (f a).flat = true) (hE : El k.P T z 1 eb) (hl : off < vs.length)
 (hj : JL k ops l Q ρ h') : JL k ops (⟨none, .store T x y, ty, pos, after, none⟩ :: l) Q ρ h := by
 obtain ⟨h1, h2, rfl, rfl⟩ := hu.split
 exact db hx rfl hy hs hE hl hj
theorem fO {T T0 : TypeId} {x y : Operand} {b : Nat} {cs vs : List AV} {z : Value} {sz eb : Nat} (hx : evO ρ x = some (.val (.pointer (some ⟨b, 0, none⟩)))) (hy : evO ρ y = some (.agg cs)) (hs : cs.all AV.flat = true) (hE : El k.P T z sz eb) (hn : sz = cs.length)
 (hu : Upd (.cells b T0 vs) (.cells b T0 cs) h h') (hl : vs.length = cs.length)
 (hj : JL k ops l Q ρ h') : JL k ops (⟨none, .store T x y, ty, pos, after, none⟩ :: l) Q ρ h := by
 obtain ⟨h1, h2, rfl, rfl⟩ := hu.split
 exact XT hx hy hs hE hn hl rfl hj
inductive Gp : List AV → Nat → List AV → List AV → Prop where
 | nil {l : List AV} : Gp l 0 [] l
 | put {x c : AV} {l cs l' : List AV} (h : Gp l 0 cs l') : Gp (x :: l) 0 (c :: cs) (c :: l')
 | skip {x : AV} {l cs l' : List AV} {n : Nat} (h : Gp l n cs l') : Gp (x :: l) (n + 1) cs (x :: l')
theorem Gp.eq {l cs l' : List AV} {n : Nat} (h : Gp l n cs l') : l' = setAt l n cs ∧ n + cs.length ≤ l.length := by
 induction h with
 | nil => simp [setAt]
 | put _ ih =>
   obtain ⟨rfl, h2⟩ := ih
   refine ⟨by simp [setAt, Nat.add_comm], by simp at h2 ⊢; omega⟩
 | skip _ ih =>
   obtain ⟨rfl, h2⟩ := ih
   refine ⟨by simp [setAt, Nat.add_right_comm], by simp at h2 ⊢; omega⟩
theorem dw {T T0 : TypeId} {x y : Operand} {b off : Nat} {r : AV} {vs vs' : List AV} {z : Value} {eb : Nat} (hx : evO ρ x = some (.val (.pointer (some ⟨b, off, none⟩)))) (hy : evO ρ y = some r) (hs : r.flat = true) (hE : El k.P T z 1 eb)
 (hu : Upd (.cells b T0 vs) (.cells b T0 vs') h h') (hv : Gp vs off [r] vs')
 (hj : JL k ops l Q ρ h') : JL k ops (⟨none, .store T x y, ty, pos, after, none⟩ :: l) Q ρ h := by
 obtain ⟨h1, h2, rfl, rfl⟩ := hu.split
 obtain ⟨rfl, hl⟩ := hv.eq
 simp only [List.length_cons, List.length_nil] at hl
 refine Yo hx hy hs hE rfl (by omega) ?_
 rw [← Ht _ _ _ (by omega)]
 exact hj
theorem eE {T T0 : TypeId} {x y : Operand} {b off : Nat} {cs vs vs' : List AV} {z : Value} {sz eb : Nat} (hx : evO ρ x = some (.val (.pointer (some ⟨b, off, none⟩)))) (hy : evO ρ y = some (.agg cs)) (hs : cs.all AV.flat = true) (hE : El k.P T z sz eb) (hn : sz = cs.length)
 (hu : Upd (.cells b T0 vs) (.cells b T0 vs') h h') (hv : Gp vs off cs vs')
 (hj : JL k ops l Q ρ h') : JL k ops (⟨none, .store T x y, ty, pos, after, none⟩ :: l) Q ρ h := by
 obtain ⟨h1, h2, rfl, rfl⟩ := hu.split
 obtain ⟨rfl, hl⟩ := hv.eq
 exact Ft (off := off) (r := .agg cs) (vs := vs) (AA hx) (AA hy) hs hE hn rfl hl hj

theorem fI {α : Type} {f : α → List D} {xs ys : List α} {T E : TypeId} {x y : Operand} {z : Value} {sz eb eb' : Nat} {v : Value} {H' : Sl → H} (hx : evO ρ x = some (.val v)) (hT : k.P.underlying T = some (.slice E)) (he : El k.P E z sz eb)
 (hu : ∀ q : Sl, Upd (AH v E sz f xs) (AH q.v E sz f (xs ++ ys)) h (H' q)) (hy : evO ρ y = some (.d (.l sz eb' (ys.map f)))) (hz : z.cells.size = sz) (h0 : Nat.blt 0 sz = true)
 (hd : Nat.blt d k.n = true) (hb : (xs.length + ys.length) * eb ≤ 140737488355328) (hm : xs.length + ys.length ≤ 140737488355328)
 (hj : All fun q : Sl => JL k ops l Q ((d, .val q.v) :: ρ) (H' q)) :
 JL k ops (⟨some d, .call { callee := .builtin .append, args := #[x, y], argTypes := #[T, T] }, ty, pos, after, none⟩ :: l) Q ρ h := by
 obtain ⟨h1, h2, e1, _⟩ := (hu Sl.nil).split
 refine eQ (h1 := h1) (h2 := h2) hx e1 hy hT he hz h0 hd hb hm fun q => ?_
 refine C3 (VS.perm ?_) (hj.get q)
 obtain ⟨r, p1, p2⟩ := (hu q).perm
 refine List.perm_middle.trans (List.Perm.trans (List.Perm.cons _ ?_) p2.symm)
 rw [e1] at p1
 exact (List.perm_middle.symm.trans p1).cons_inv
theorem BX {α : Type} {f : α → List D} {xs : List α} {u : α} {T E : TypeId} {x y : Operand} {z : Value} {sz eb eb' : Nat} {v : Value} {H' : Sl → H} (hx : evO ρ x = some (.val v)) (hT : k.P.underlying T = some (.slice E)) (he : El k.P E z sz eb)
 (hu : ∀ q : Sl, Upd (AH v E sz f xs) (AH q.v E sz f (xs ++ [u])) h (H' q)) (hy : evO ρ y = some (.d (.l sz eb' [f u]))) (hz : z.cells.size = sz) (h0 : Nat.blt 0 sz = true)
 (hd : Nat.blt d k.n = true) (hb : (xs.length + 1) * eb ≤ 140737488355328) (hm : xs.length + 1 ≤ 140737488355328)
 (hj : All fun q : Sl => JL k ops l Q ((d, .val q.v) :: ρ) (H' q)) :
 JL k ops (⟨some d, .call { callee := .builtin .append, args := #[x, y], argTypes := #[T, T] }, ty, pos, after, none⟩ :: l) Q ρ h := fI (ys := [u]) hx hT he hu hy hz h0 hd hb hm hj

theorem As {β : Type} {X : β → AV} {en : β → H} {hc : H} {H' : β → H} {f : FuncId} {xs : Array Operand} {ats : Array TypeId} {args : List AV} (hargs : FN ρ xs.toList = some args) (hcal : Cal k.P f) (hac : AC k.P k.c.G f args hc fun r h => ∃ v, r = .ret (X v) ∧ h = en v)
 (ht : Take h hc hr) (hd : Nat.blt d k.n = true) (ha : ∀ v, App (en v) hr (H' v)) (hj : All fun v => JL k ops l Q ((d, X v) :: ρ) (H' v)) :
 JL k ops (⟨some d, .call { callee := .value (.func f), args := xs, argTypes := ats }, ty, pos, after, none⟩ :: l) Q ρ h :=
 C3 (VS.perm ht.perm) (MH (hc := hc) (hr := hr) hargs hcal rfl hac hd (fun r h' hq => by obtain ⟨v, e1, e2⟩ := hq; cases e1; subst e2; rw [← (ha v).eq]; exact hj.get v) (fun ch h' hq => by obtain ⟨v, e1, _⟩ := hq; cases e1))
theorem Ys {f : FuncId} {x : Operand} {xs : Array Operand} {ats : Array TypeId} {caps : Array Value} {es : List AV} {hc hr : H} {R : AE → H → Prop} (hf : evO ρ x = some (.val (.func (.func f) #[] caps))) (hxs : FN ρ xs.toList = some es) (hcal : Cal k.P f) (hac : AC k.P k.c.G f (es ++ caps.toList.map AV.val) hc R) (hs : h = hc ++ hr) (hd : ∀ t, dst = some t → t < k.n)
 (hret : ∀ r h', R (.ret r) h' → JL k ops l Q (put ρ dst r) (h' ++ hr)) (hpan : ∀ ch h', R (.pan ch) h' → Q (.panic ch) ρ (h' ++ hr)) :
 JL k ops (⟨dst, .call { callee := .value x, args := xs, argTypes := ats }, ty, pos, after, none⟩ :: l) Q ρ h := by
 intro I a w h1 h2 h3
 subst hs
 refine wpList_plain rfl fun K hK => ?_
 unfold Oper.wp
 rw [DO (AL (h2.ev x) (AA hf)), hcal]
 simp only [Oper.upon]
 have hr' : AV.rels w I (es ++ caps.toList.map AV.val) (xs.toList.map a.eval ++ caps.toList) := AV.rels_append (by rw [← CA hxs]; exact DW h2 xs.toList) (GX w I _)
 refine (hac I w _ (fun e he => h1.ent e (List.mem_append.2 (.inl he))) ?_ ?_ (fun q hq => h1.glob q hq) hr').mono ?_
 · have := h1.nd; rw [AZ] at this; exact (List.nodup_append.1 this).1
 · intro b hb
   have := h1.imm b hb
   rw [AZ, List.mem_append] at this
   exact ⟨this.1, fun hm => this.2 (.inl hm)⟩
 · rintro e w' ⟨r, h', I', hR, hok, hrel⟩
   obtain ⟨k1, k2⟩ := h1.call hok
   have hsf : SF k.n w' I' ρ a := h2.mono k2 (fun b hb => hok.sup b hb)
   cases r with
   | ret r =>
     cases e with
     | returned v => exact hK _ _ (hret r h' hR I' _ w' k1 (hsf.put hd hrel) (by rw [Act.defers_put]; exact h3))
     | panicked ch => exact hrel.elim
     | outgrown => exact hrel.elim
   | pan ch =>
     cases e with
     | returned v => exact hrel.elim
     | panicked ch' => subst hrel; exact ⟨I', ρ, h' ++ hr, k1, hsf, h3, hpan _ _ hR⟩
     | outgrown => exact hrel.elim
theorem Ev {β : Type} {X : β → AV} {en : β → H} {hc : H} {H' : β → H} {f : FuncId} {x : Operand} {xs : Array Operand} {ats : Array TypeId} {caps : Array Value} {es : List AV} (hf : evO ρ x = some (.val (.func (.func f) #[] caps))) (hxs : FN ρ xs.toList = some es) (hcal : Cal k.P f)
 (hac : AC k.P k.c.G f (es ++ caps.toList.map AV.val) hc fun r h => ∃ v, r = .ret (X v) ∧ h = en v)
 (ht : Take h hc hr) (hd : Nat.blt d k.n = true) (ha : ∀ v, App (en v) hr (H' v)) (hj : All fun v => JL k ops l Q ((d, X v) :: ρ) (H' v)) :
 JL k ops (⟨some d, .call { callee := .value x, args := xs, argTypes := ats }, ty, pos, after, none⟩ :: l) Q ρ h :=
 C3 (VS.perm ht.perm) (Ys (hc := hc) (hr := hr) hf hxs hcal hac rfl (fun t ht => by cases ht; exact blt hd) (fun r h' hq => by obtain ⟨v, e1, e2⟩ := hq; cases e1; subst e2; rw [← (ha v).eq]; exact hj.get v) (fun ch h' hq => by obtain ⟨v, e1, _⟩ := hq; cases e1))
end

def Sl.at (q : Sl) (off : Nat) : Addr := ⟨(q.ad.map (·.block)).getD 0, off, none⟩
theorem Ent.row_form {w : World} {I : Nat → Prop} {q : Sl} {n : Nat} {E : TypeId} {sz : Nat} {l : List AV} (h : (Ent.row q.v n E sz l).rel w I) (hn : 0 < n) :
 ∃ g cap cur, q = ⟨some ⟨g, 0, none⟩, n, cap⟩ ∧ w.heap[g]? = some (.cells cur E (0, 0)) ∧ n ≤ cap ∧ cap ≤ maxLen ∧ cur.size = cap * sz ∧ AV.rels w I l (cur.toList.take (n * sz)) := by
 obtain ⟨os, ho, hr⟩ := h
 rcases ho.2 with ⟨_, rfl⟩ | ⟨g, cap, cur, hv, _, hg, h1, h2, h3, rfl⟩
 · omega
 · obtain ⟨ad, m, c⟩ := q
   simp only [Sl.v, Value.slice.injEq] at hv
   obtain ⟨rfl, rfl, rfl⟩ := hv
   exact ⟨g, _, cur, rfl, hg, h1, h2, h3, hr⟩
section
variable {P : Program} {G : List (Nat × List D)} {ρ : Env} {h : H} {dst : Option Tmp} {ty : TypeId} {pos : String} {after : Array Edge} {g : Option (Nat × Bool)}
theorem Rt {α : Type} {f : α → List D} {xs : List α} {sz j u : Nat} {c : D} (hsz : ∀ a, (f a).length = sz) (hj : j < xs.length) (hc : (f xs[j])[u]? = some c) : (((xs.map f).flatten).map D.av)[j * sz + u]? = some c.av := by
 have hu : u < sz := by rw [← hsz xs[j]]; exact (List.getElem?_eq_some_iff.1 hc).1
 have h0 : 0 < sz := by omega
 rw [List.getElem?_map, B6 h0 _ (fun r hr => by obtain ⟨a, _, rfl⟩ := List.mem_map.1 hr; exact hsz a)]
 have e1 : (j * sz + u) / sz = j := by rw [Nat.mul_comm, Nat.mul_add_div (by omega), Nat.div_eq_of_lt hu, Nat.add_zero]
 have e2 : (j * sz + u) % sz = u := by rw [Nat.mul_comm, Nat.mul_add_mod, Nat.mod_eq_of_lt hu]
 rw [e1, e2, List.getElem?_map, List.getElem?_eq_getElem hj]
 simp [hc]
theorem JT {α : Type} {f : α → List D} {xs : List α} {T E : TypeId} {x y : Operand} {q : Sl} {n sz eb : Nat} {z : Value} (hx : evO ρ x = some (.val q.v)) (hy : evO ρ y = some (.int (n : Int))) (hT : P.underlying T = some (.slice E)) (hE : El P E z sz eb)
 (hm : AH q.v E sz f xs ∈ h) (hn : n < xs.length) : Pure P G ⟨dst, .indexAddr T x y, ty, pos, after, g⟩ ρ h (.val (.pointer (some (q.at (n * sz))))) := by
 intro c I m a w _ hok hs
 obtain ⟨i, hi, _, hsz, _⟩ := hE.get
 obtain ⟨gb, cap, cur, rfl, _⟩ := Ent.row_form (hok.ent _ hm) (by omega)
 have e1 := AL (hs.ev x) (AA hx)
 have e2 := AL (hs.ev y) (AA hy)
 refine ⟨_, rfl, fun w' _ => ?_⟩
 simp [execOp, e1, e2, Instr.indexAt, run_underlying hT, asIntOf, hn, sizeOf, typeInfo, hi, hsz, Sl.at, Addr.add]
 exact fun h => h.symm
theorem Mn {α : Type} {f : α → List D} {xs : List α} {T E : TypeId} {x y : Operand} {q : Sl} {n : Int} {sz eb : Nat} {z : Value} (hx : evO ρ x = some (.val q.v)) (hy : evO ρ y = some (.int n)) (hT : P.underlying T = some (.slice E)) (hE : El P E z sz eb)
 (hm : AH q.v E sz f xs ∈ h) (h0 : 0 ≤ n) (hn : n.toNat < xs.length) : Pure P G ⟨dst, .indexAddr T x y, ty, pos, after, g⟩ ρ h (.val (.pointer (some (q.at (n.toNat * sz))))) :=
 JT (n := n.toNat) hx (by rw [Int.toNat_of_nonneg h0]; exact hy) hT hE hm hn
theorem RG {T E : TypeId} {x y : Operand} {b len cap n : Nat} {eb : Nat} {z : Value} (hx : evO ρ x = some (.val (.slice (some ⟨b, 0, none⟩) len cap))) (hy : evO ρ y = some (.int (n : Int))) (hT : P.underlying T = some (.slice E)) (hE : El P E z 1 eb)
 (h1 : n < len) : Pure P G ⟨dst, .indexAddr T x y, ty, pos, after, g⟩ ρ h (.val (.pointer (some ⟨b, n, none⟩))) := by
 have := HD (P := P) (G := G) (h := h) (dst := dst) (ty := ty) (pos := pos) (after := after) (g := g) hx hT hE (AA hy) (by omega) (by omega)
 simpa using this
theorem I5 {α : Type} {f : α → List D} {xs : List α} {T E : TypeId} {x : Operand} {q : Sl} {j u sz : Nat} {c : D} (hT : A0 P T = some false) (hx : evO ρ x = some (.val (.pointer (some (q.at (j * sz + u)))))) (hm : AH q.v E sz f xs ∈ h) (hsz : ∀ a, (f a).length = sz) (hj : j < xs.length) (hc : (f xs[j])[u]? = some c) :
 Pure P G ⟨dst, .load T x, ty, pos, after, g⟩ ρ h c.av := by
 intro cx I m a w _ hok hs
 obtain ⟨gb, cap, cur, rfl, hg, hnc, hcm, hcs, hrel⟩ := Ent.row_form (hok.ent _ hm) (by omega)
 have e1 := AL (hs.ev x) (AA hx)
 obtain ⟨v, hv, hr⟩ := AV.rels_get hrel _ _ (Rt hsz hj hc)
 refine ⟨v, hr, fun w' hw' => ?_⟩
 have hcell : w'.cell? ⟨gb, j * sz + u, none⟩ = some v := by
  have hbk : w'.heap[(⟨gb, j * sz + u, none⟩ : Addr).block]? = w.heap[(⟨gb, j * sz + u, none⟩ : Addr).block]? := hw'.own gb (DY hm rfl)
  rw [World.cell?_of_block (w := w) hbk]
  have : cur.toList[j * sz + u]? = some v := by
   rw [List.getElem?_take] at hv
   split at hv
   · exact hv
   · cases hv
  simpa [World.cell?, hg] using this
 have e3 : a.eval x = .pointer (some ⟨gb, j * sz + u, none⟩) := e1
 simp [execOp, e3, Instr.loadAt, Instr.sureAddr, loadVar, Cq hT, run_load, hcell]
theorem OV {α : Type} {f : α → List D} {xs : List α} {T E : TypeId} {x : Operand} {q : Sl} {j sz : Nat} {c : D} (hT : A0 P T = some false) (hx : evO ρ x = some (.val (.pointer (some (q.at (j * sz)))))) (hm : AH q.v E sz f xs ∈ h) (hsz : ∀ a, (f a).length = sz) (hj : j < xs.length) (hc : (f xs[j])[0]? = some c) :
 Pure P G ⟨dst, .load T x, ty, pos, after, g⟩ ρ h c.av := I5 (u := 0) hT hx hm hsz hj hc
theorem RO {α : Type} {f : α → AV} {xs : List α} {T T0 : TypeId} {x : Operand} {b off : Nat} (hT : A0 P T = some false) (hx : evO ρ x = some (.val (.pointer (some ⟨b, off, none⟩)))) (hh : Ent.cells b T0 (xs.map f) ∈ h) (hl : off < xs.length) : Pure P G ⟨dst, .load T x, ty, pos, after, g⟩ ρ h (f xs[off]) :=
 Gm hT (AA hx) hh (by rw [List.getElem?_map, List.getElem?_eq_getElem hl]; rfl)
end
theorem AC.frz {α : Type} {f : α → List D} {xs : List α} {P : Program} {G : List (Nat × List D)} {fn : FuncId} {args : List AV} {E : TypeId} {sz : Nat} (eb : Nat) (hac : AC P G fn args [] fun e h => ∃ q : Sl, e = .ret (.val q.v) ∧ h = [AH q.v E sz f xs]) (h0 : Nat.blt 0 sz = true) (hsz : ∀ a, (f a).length = sz) (hb : xs.length * eb ≤ 140737488355328) :
 ACr P G fn args (.d (.l sz eb (xs.map f))) := by
 intro I W vs h1 h2 h3 h4 h5
 refine (hac I W vs h1 h2 h3 h4 h5).mono ?_
 rintro e w' ⟨r, h', I', ⟨q, rfl, rfl⟩, hok, hrel⟩
 have hok' : Ok ⟨W, I, [], G⟩ I' ([] ++ .row q.v xs.length E sz ((xs.map f).flatten.map D.av) :: []) w' := hok
 obtain ⟨I'', k1, _, k3⟩ := UK eb hok' (blt h0) (by simp) (fun r hr => by obtain ⟨a, _, rfl⟩ := List.mem_map.1 hr; exact hsz a) hb
 refine ⟨.ret (.d (.l sz eb (xs.map f))), [], I'', ⟨rfl, rfl⟩, k1, ?_⟩
 cases e with
 | returned v =>
   have : v = q.v := hrel
   subst this
   exact k3
 | panicked ch => exact hrel.elim
 | outgrown => exact hrel.elim
section
variable {k : Kx} {Q : Exit → Env → H → Prop} {ρ : Env} {h : H} {ops : Array Oper} {listed : Array Bool} {n f i m d : Nat} {op : Op} {ty : TypeId} {pos : String} {after : Array Edge}
structure JXP (k : Kx) (ops : Array Oper) (n f : Nat) (listed : Array Bool) (i m : Nat) (Q : Exit → Env → H → Prop) (ρ : Env) (h : H) : Prop where
 get : JX k ops f listed Q ρ h
structure JXS (k : Kx) (ops : Array Oper) (n f : Nat) (listed : Array Bool) (i m : Nat) (Q : Exit → Env → H → Prop) (ρ : Env) (h : H) : Prop where
 get : ∀ j, i ≤ j → j < i + m → j ∈ Region.ready .any ops listed → ∃ o, ops[j]? = some o ∧ JL k ops [o] (fun e ρ' h' => e = .normal ∧ JXP k ops n f (listed.setIfInBounds j true) 0 n Q ρ' h') ρ h
theorem Xu (hn : Region.ready .any ops listed ≠ []) (hall : ∀ i ∈ Region.ready .any ops listed, ∃ o, ops[i]? = some o ∧ JL k ops [o] (fun e ρ' h' => e = .normal ∧ JXP k ops n f (listed.setIfInBounds i true) 0 n Q ρ' h') ρ h) : JX k ops (f + 1) listed Q ρ h := by
 refine ⟨fun hs inv I a w h1 h2 h3 => ⟨hn, fun i hi => ?_⟩⟩
 obtain ⟨o, ho, hj⟩ := hall i hi
 have hin : i < ops.size := (Array.getElem?_eq_some_iff.1 ho).1
 refine ⟨hin, ?_⟩
 have H := hj I a w h1 h2 h3
 unfold wpOp
 rw [ho]
 dsimp only
 have hK : ∀ a' w', lift k (fun e ρ' h' => e = .normal ∧ JXP k ops n f (listed.setIfInBounds i true) 0 n Q ρ' h') .normal a' w' → True ∧ GB k.P .any ops (fun _ => True) ops.size (fun listed' a' w' => Region.ready .any ops listed' = [] ∧ lift k Q .normal a' w') f (listed.setIfInBounds i true) a' w' := by
  rintro a' w' ⟨I', ρ', h', q1, q2, q3, _, q4⟩
  exact ⟨trivial, q4.get.get hs (inv.set hi hin) I' a' w' q1 q2 q3⟩
 have hQ : ∀ e a' w', e ≠ .normal → ¬ lift k (fun e ρ' h' => e = .normal ∧ JXP k ops n f (listed.setIfInBounds i true) 0 n Q ρ' h') e a' w' := by
  rintro e a' w' he ⟨_, _, _, _, _, _, q, _⟩
  exact he q
 rw [wpList] at H
 by_cases hw : Region.wanted o (yielded ops a.tmps) = true
 · rw [if_pos hw] at H ⊢
   rcases H with H | ⟨_, a', w', H⟩
   · exact .inl (GI hK hQ H)
   · exact absurd H (hQ _ _ _ (by simp))
 · rw [if_neg hw] at H ⊢
   exact hK _ _ H
theorem I6 {id : Nat} {l : List Oper} {P : Program} (hm : P.follows .mixedOrders = true) (hP : k.P = P) (hn : l.length = n) (hs : Region.noSelect l.toArray = true)
 (hj : JXP k l.toArray n n (Array.replicate n false) 0 n Q ρ h) : J k (.region id l.toArray true) Q ρ h := by
 subst hn
 exact O0 hm hP rfl hs hj.get
theorem Pb {x : Operand} {r : AV} (ho : ops[i]? = some ⟨some d, .move x, ty, pos, after, none⟩) (hc : FA ops listed ops.size i = true) (hx : evO ρ x = some r) (hd : Nat.blt d k.n = true)
 (hj : JXP k ops n f (listed.setIfInBounds i true) 0 n Q ((d, r) :: ρ) h) : JXP k ops n (f + 1) listed i (m + 1) Q ρ h := ⟨Zm ho hc hx hd hj.get⟩
theorem RA (hj : JXP k ops n f listed (i + 1) m Q ρ h) : JXP k ops n f listed i (m + 1) Q ρ h := ⟨hj.get⟩
theorem YP (hr : Region.ready .any ops listed = []) (hj : Q .normal ρ h) : JXP k ops n 0 listed i m Q ρ h := ⟨a6 hr hj⟩
theorem aj (hne : (Region.ready .any ops listed).isEmpty = false) (hs : ops.size = n) (hj : JXS k ops n f listed 0 n Q ρ h) : JXP k ops n (f + 1) listed i 0 Q ρ h :=
 ⟨Xu (fun e => by rw [e] at hne; cases hne) fun j hr => by
  obtain ⟨_, o, ho, _⟩ := mem_ready.1 hr
  have := (Array.getElem?_eq_some_iff.1 ho).1
  exact hj.get j (Nat.zero_le _) (by omega) hr⟩
theorem Z4 (_ht : True) : JXS k ops n f listed i 0 Q ρ h := ⟨fun j h1 h2 => by omega⟩
theorem cU (hc : (Region.ready .any ops listed).contains i = false) (hj : JXS k ops n f listed (i + 1) m Q ρ h) : JXS k ops n f listed i (m + 1) Q ρ h :=
 ⟨fun j h1 h2 hr => by
  by_cases e : j = i
  · subst e
    have : (Region.ready .any ops listed).contains j = true := by simpa using hr
    rw [this] at hc; cases hc
  · exact hj.get j (by omega) (by omega) hr⟩
theorem bH {o : Oper} (ho : ops[i]? = some o) (hd : JL k ops [o] (fun e ρ' h' => e = .normal ∧ JXP k ops n f (listed.setIfInBounds i true) 0 n Q ρ' h') ρ h) (hj : JXS k ops n f listed (i + 1) m Q ρ h) : JXS k ops n f listed i (m + 1) Q ρ h :=
 ⟨fun j h1 h2 hr => by
  by_cases e : j = i
  · subst e
    exact ⟨o, ho, hd⟩
  · exact hj.get j (by omega) (by omega) hr⟩
theorem Wn {dst : Option Tmp} {g : Option (Nat × Bool)} (ho : ops[i]? = some ⟨dst, op, ty, pos, after, g⟩) (hj : Two (JL k ops [⟨dst, op, ty, pos, after, g⟩] (fun e ρ' h' => e = .normal ∧ JXP k ops n f (listed.setIfInBounds i true) 0 n Q ρ' h') ρ h) (JXS k ops n f listed (i + 1) m Q ρ h)) : JXS k ops n f listed i (m + 1) Q ρ h := bH ho hj.fst hj.snd
theorem fA {p : Prop} (hp : p) : Exit.normal = Exit.normal ∧ p := ⟨rfl, hp⟩
end

theorem Ok.reent {c : Cx} {I : Nat → Prop} {h1 h2 : H} {e e' : Ent} {w : World} (k : Ok c I (h1 ++ e :: h2) w) (hb : e'.blk = e.blk) (he : e'.rel w I) : Ok c I (h1 ++ e' :: h2) w := by
 have hblk : blks (h1 ++ e' :: h2) = blks (h1 ++ e :: h2) := by
  simp only [blks, List.filterMap_append, List.filterMap_cons, hb]
 refine { k with ent := fun x hx => ?_, nd := by rw [hblk]; exact k.nd, imm := fun b hb' => by rw [hblk]; exact k.imm b hb', new := fun b hb' => k.new b (by rw [← hblk]; exact hb') }
 rcases List.mem_append.1 hx with hx | hx
 · exact k.ent x (List.mem_append.2 (.inl hx))
 · rcases List.mem_cons.1 hx with rfl | hx
   · exact he
   · exact k.ent x (List.mem_append.2 (.inr (List.mem_cons_of_mem _ hx)))
section
variable {k : Kx} {Q : Exit → Env → H → Prop} {ρ ρ' : Env} {h h' h1 h2 hr : H} {ops : Array Oper} {l : List Oper} {d : Nat} {dst : Option Tmp} {ty : TypeId} {pos : String} {after : Array Edge}
theorem a8 {q : Sl} {n : Nat} {E : TypeId} {sz : Nat} {cs : List AV} (hn : 0 < n)
 (hj : ∀ (g cap : Nat) (js : List Value), q = ⟨some ⟨g, 0, none⟩, n, cap⟩ → n ≤ cap → cap ≤ maxLen → cs.length = n * sz → cs.length + js.length = cap * sz → JL k ops l Q ρ (h1 ++ .cells g E (cs ++ js.map AV.val) :: h2)) :
 JL k ops l Q ρ (h1 ++ .row q.v n E sz cs :: h2) := by
 intro I a w k1 k2 k3
 have he := k1.ent (.row q.v n E sz cs) (by simp)
 obtain ⟨g, cap, cur, rfl, hg, m1, m2, m3, hrel⟩ := Ent.row_form he hn
 have hl : cs.length = n * sz := by
  have h1 := AV.rels_length hrel
  have h2 : n * sz ≤ cap * sz := Nat.mul_le_mul_right _ m1
  rw [List.length_take, Array.length_toList (xs := cur), m3] at h1
  omega
 have e := hj g cap (cur.toList.drop (n * sz)) rfl m1 m2 hl (by rw [hl, List.length_drop, Array.length_toList (xs := cur), m3]; have h2 : n * sz ≤ cap * sz := Nat.mul_le_mul_right _ m1; omega)
 refine e I a w (k1.reent rfl ⟨cur, hg, ?_⟩) k2 k3
 have := AV.rels_append hrel (Fx w I (cur.toList.drop (n * sz)))
 rwa [List.take_append_drop] at this
theorem Wt {g cap n : Nat} {E : TypeId} {sz : Nat} {cs : List AV} {js : List Value} (m1 : n ≤ cap) (m2 : cap ≤ maxLen) (hl : cs.length = n * sz) (hc : cs.length + js.length = cap * sz)
 (hj : JL k ops l Q ρ (h1 ++ .row (.slice (some ⟨g, 0, none⟩) n cap) n E sz cs :: h2)) : JL k ops l Q ρ (h1 ++ .cells g E (cs ++ js.map AV.val) :: h2) := by
 intro I a w k1 k2 k3
 obtain ⟨cur, hg, hrel⟩ := k1.ent (.cells g E (cs ++ js.map AV.val)) (by simp)
 have hlen := AV.rels_length hrel
 rw [List.length_append, List.length_map, Array.length_toList (xs := cur)] at hlen
 refine hj I a w (k1.reent rfl ⟨cur.toList.take (n * sz), ⟨?_, .inr ⟨g, cap, cur, rfl, Nat.zero_le _, hg, m1, m2, by omega, rfl⟩⟩, ?_⟩) k2 k3
 · rw [List.length_take, Array.length_toList (xs := cur)]; omega
 · have := DI (n * sz) hrel
   rwa [List.take_append_of_le_length (by omega), List.take_of_length_le (by omega)] at this
theorem SM {cs js rs : List AV} {off : Nat} (h : off + rs.length ≤ cs.length) : setAt (cs ++ js) off rs = setAt cs off rs ++ js := by
 unfold setAt
 rw [List.take_append_of_le_length (by omega), List.drop_append_of_le_length h]
 simp [List.append_assoc]
theorem NP {T E : TypeId} {x y : Operand} {q : Sl} {off n sz0 : Nat} {r : AV} {cs : List AV} {z : Value} {sz eb : Nat} (hx : ev ρ x = .val (.pointer (some (q.at off)))) (hy : ev ρ y = r) (hs : r.stor = true) (hE : El k.P T z sz eb) (hn : sz = r.cl.length) (h0 : 0 < n)
 (hoff : off + r.cl.length ≤ cs.length) (hj : JL k ops l Q ρ (h1 ++ .row q.v n E sz0 (setAt cs off r.cl) :: h2)) : JL k ops (⟨none, .store T x y, ty, pos, after, none⟩ :: l) Q ρ (h1 ++ .row q.v n E sz0 cs :: h2) := by
 refine a8 h0 fun g cap js hq m1 m2 m3 m4 => ?_
 subst hq
 refine Ft (b := g) (off := off) (r := r) (vs := cs ++ js.map AV.val) hx hy hs hE hn rfl (by rw [List.length_append]; omega) ?_
 rw [SM hoff]
 have hl : (setAt cs off r.cl).length = cs.length := by
  unfold setAt
  simp only [List.length_append, List.length_take, List.length_drop]
  omega
 exact Wt m1 m2 (by rw [hl]; exact m3) (by rw [hl]; exact m4) hj
theorem LB {α : Type} {f : α → List D} {sz : Nat} (hsz : ∀ a, (f a).length = sz) : ∀ (xs : List α) (j : Nat) (a : α), j < xs.length → setAt (((xs.map f).flatten).map D.av) (j * sz) ((f a).map D.av) = (((xs.set j a).map f).flatten).map D.av
 | [], j, a, h => by simp at h
 | x :: xs, 0, a, _ => by
   have e : ((f x).map D.av).length = sz := by rw [List.length_map, hsz]
   have e' : ((f a).map D.av).length = sz := by rw [List.length_map, hsz]
   simp only [setAt, Nat.zero_mul, List.take_zero, List.nil_append, Nat.zero_add, List.map_cons, List.flatten_cons, List.map_append, List.set_cons_zero]
   rw [e', ← e, List.drop_left]
 | x :: xs, j + 1, a, h => by
   have ih := LB hsz xs j a (by simpa using h)
   have e : ((f x).map D.av).length = sz := by rw [List.length_map, hsz]
   simp only [List.map_cons, List.flatten_cons, List.map_append, List.set_cons_succ]
   rw [← ih]
   unfold setAt
   have e2 : (j + 1) * sz = ((f x).map D.av).length + j * sz := by rw [e, Nat.add_mul]; omega
   rw [e2, List.take_length_add_append, Nat.add_assoc, List.drop_length_add_append]
   simp [List.append_assoc]
theorem dC {α : Type} {f : α → List D} {xs : List α} {a : α} {T E : TypeId} {x y : Operand} {q : Sl} {j sz : Nat} {r : AV} {z : Value} {eb : Nat} (hx : evO ρ x = some (.val (.pointer (some (q.at (j * sz)))))) (hy : evO ρ y = some r) (hu : Upd (AH q.v E sz f xs) (AH q.v E sz f (xs.set j a)) h h') (hr : r.cl = (f a).map D.av) (hs : r.stor = true) (hE : El k.P T z sz eb) (hsz : ∀ a, (f a).length = sz) (hjl : j < xs.length)
 (hj : JL k ops l Q ρ h') : JL k ops (⟨none, .store T x y, ty, pos, after, none⟩ :: l) Q ρ h := by
 obtain ⟨h1, h2, rfl, rfl⟩ := hu.split
 have hfl : ((((xs.map f).flatten).map D.av)).length = xs.length * sz := by
  rw [List.length_map, Bd _ (fun r hr => by obtain ⟨a, _, rfl⟩ := List.mem_map.1 hr; exact hsz a), List.length_map]
 have hlen : r.cl.length = sz := by rw [hr, List.length_map, hsz]
 refine NP (off := j * sz) (r := r) (AA hx) (AA hy) hs hE hlen.symm (by omega) ?_ ?_
 · rw [hfl, hlen]
   have : (j + 1) * sz ≤ xs.length * sz := Nat.mul_le_mul_right _ (by omega)
   rw [Nat.add_mul] at this
   omega
 · rw [hr, LB hsz xs j a hjl]
   unfold AH at hj
   rwa [List.length_set] at hj
theorem aX {α : Type} {f : α → List D} {xs : List α} {a : α} {T E : TypeId} {x y : Operand} {q : Sl} {j : Nat} {r : AV} {z : Value} {eb : Nat} (hx : evO ρ x = some (.val (.pointer (some (q.at (j * 1)))))) (hy : evO ρ y = some r) (hE : El k.P T z 1 eb) (hs : r.flat = true) (hu : Upd (AH q.v E 1 f xs) (AH q.v E 1 f (xs.set j a)) h h') (hr : [r] = (f a).map D.av) (hsz : ∀ a, (f a).length = 1) (hjl : j < xs.length)
 (hj : JL k ops l Q ρ h') : JL k ops (⟨none, .store T x y, ty, pos, after, none⟩ :: l) Q ρ h :=
 dC hx hy hu (by rw [(PY hs).1]; exact hr) (PY hs).2 hE hsz hjl hj
theorem cd {α : Type} {f : α → List D} {xs : List α} {T E : TypeId} {x hi : Operand} {q : Sl} {n : Int} {sz eb : Nat} {z : Value} {H' : Sl → H} (hx : evO ρ x = some (.val q.v)) (hhi : evO ρ hi = some (.int n)) (hT : k.P.underlying T = some (.slice E)) (hE : El k.P E z sz eb)
 (hu : ∀ q' : Sl, Upd (AH q.v E sz f xs) (AH q'.v E sz f (xs.take n.toNat)) h (H' q')) (hsz : ∀ a, (f a).length = sz) (h0 : 0 ≤ n) (hn : n ≤ xs.length) (hd : Nat.blt d k.n = true)
 (hj : All fun q' : Sl => JL k ops l Q ((d, .val q'.v) :: ρ) (H' q')) : JL k ops (⟨some d, .slice T x none (some hi) none, ty, pos, after, none⟩ :: l) Q ρ h := by
 obtain ⟨h1, h2, e1, _⟩ := (hu Sl.nil).split
 have hperm : ∀ q' : Sl, (h1 ++ AH q'.v E sz f (xs.take n.toNat) :: h2).Perm (H' q') := fun q' => by
  obtain ⟨r, p1, p2⟩ := (hu q').perm
  refine List.perm_middle.trans (List.Perm.trans (List.Perm.cons _ ?_) p2.symm)
  rw [e1] at p1
  exact (List.perm_middle.symm.trans p1).cons_inv
 subst e1
 obtain ⟨i, hi', _, hsz', _⟩ := hE.get
 refine D3 rfl (fun t ht => by cases ht; exact blt hd) fun I a w k1 k2 => ?_
 have v1 := AL (k2.ev x) (AA hx)
 have v2 := AL (k2.ev hi) (AA hhi)
 have hfl : ∀ ys : List α, ((((ys.map f).flatten).map D.av)).length = ys.length * sz := fun ys => by
  rw [List.length_map, Bd _ (fun r hr => by obtain ⟨a, _, rfl⟩ := List.mem_map.1 hr; exact hsz a), List.length_map]
 have htake : (((xs.take n.toNat).map f).flatten).map D.av = ((((xs.map f).flatten).map D.av)).take (n.toNat * sz) := by
  have hl0 : ((((xs.take n.toNat).map f).flatten).map D.av).length = n.toNat * sz := by rw [hfl, List.length_take, Nat.min_eq_left (by omega)]
  have e : ((xs.map f).flatten).map D.av = (((xs.take n.toNat).map f).flatten).map D.av ++ (((xs.drop n.toNat).map f).flatten).map D.av := by
   rw [← List.map_append, ← List.flatten_append, ← List.map_append, List.take_append_drop]
  rw [e, List.take_append_of_le_length (by omega)]
  exact (List.take_of_length_le (by omega)).symm
 have hlt : (xs.take n.toNat).length = n.toNat := by rw [List.length_take]; omega
 by_cases hx0 : 0 < xs.length
 · obtain ⟨g, cap, cur, rfl, hg, m1, m2, m3, hrel⟩ := Ent.row_form (k1.ent (AH q.v E sz f xs) (by simp)) hx0
   have b1 : 0 ≤ n ∧ n ≤ (cap : Int) := by omega
   have hle : n.toNat * sz ≤ cap * sz := Nat.mul_le_mul_right _ (by omega)
   have hle2 : n.toNat * sz ≤ xs.length * sz := Nat.mul_le_mul_right _ (by omega)
   refine ⟨.slice (some ⟨g, 0, none⟩) n.toNat cap, w, I, .val (Sl.v ⟨some ⟨g, 0, none⟩, n.toNat, cap⟩), _, ?_, (Ok.reent k1 (e' := AH (Sl.v ⟨some ⟨g, 0, none⟩, n.toNat, cap⟩) E sz f (xs.take n.toNat)) rfl ?_), k2, rfl, C3 (VS.perm (hperm _)) (hj.get _)⟩
   · simp [execOp, v1, v2, Instr.sliceAt, run_underlying hT, Instr.slice, Instr.sliceBounds, Instr.sliceBound, asIntOf, b1, sizeOf, typeInfo, hi', Addr.add]
   · refine ⟨cur.toList.take (n.toNat * sz), ⟨?_, .inr ⟨g, cap, cur, by rw [hlt], Nat.zero_le _, hg, by rw [hlt]; omega, m2, m3, by rw [hlt]⟩⟩, ?_⟩
     · rw [List.length_take, Array.length_toList (xs := cur), m3, hlt]; omega
     · rw [htake]
       have := DI (n.toNat * sz) hrel
       rwa [List.take_take, Nat.min_eq_left hle2] at this
 · obtain rfl : xs = [] := List.eq_nil_of_length_eq_zero (by omega)
   have hn0 : n = 0 := by simp at hn; omega
   subst hn0
   have he := k1.ent (AH q.v E sz f []) (by simp)
   obtain ⟨os, ho, _⟩ := he
   obtain ⟨ad, c, hq⟩ : ∃ ad c, q = ⟨ad, 0, c⟩ := by
    rcases ho.2 with ⟨hv, _⟩ | ⟨g, cap, cur, hv, _⟩
    · obtain ⟨a1, a2, a3⟩ := q
      simp only [Sl.v, Value.slice.injEq] at hv
      exact ⟨a1, a3, by rw [hv.2.1]⟩
    · obtain ⟨a1, a2, a3⟩ := q
      simp only [Sl.v, Value.slice.injEq] at hv
      exact ⟨a1, a3, by rw [hv.2.1]; rfl⟩
   subst hq
   refine ⟨.slice ad 0 c, w, I, .val (Sl.v ⟨ad, 0, c⟩), _, ?_, k1, k2, rfl, C3 (VS.perm (hperm ⟨ad, 0, c⟩)) (hj.get _)⟩
   have e0 : ad.map (fun x => x.add 0) = ad := by cases ad <;> simp [Addr.add]
   simp [execOp, v1, v2, Instr.sliceAt, run_underlying hT, Instr.slice, Instr.sliceBounds, Instr.sliceBound, asIntOf, sizeOf, typeInfo, hi', e0]
end
def Sl.sub (q : Sl) (m sz : Nat) : Sl := ⟨if q.c = m then q.ad else q.ad.map (·.add (m * sz)), q.n - m, q.c - m⟩
section
variable {P : Program} {G : List (Nat × List D)} {ρ : Env} {h : H} {dst : Option Tmp} {ty : TypeId} {pos : String} {after : Array Edge} {g : Option (Nat × Bool)}
theorem UO {c : Cx} {I : Nat → Prop} {w : World} {α : Type} {f : α → List D} {xs : List α} {E : TypeId} {q : Sl} {sz : Nat} (hok : Ok c I h w) (hm : AH q.v E sz f xs ∈ h) : q.n = xs.length ∧ q.n ≤ q.c := by
 obtain ⟨os, ho, _⟩ := hok.ent _ hm
 obtain ⟨a1, a2, a3⟩ := q
 rcases ho.2 with ⟨hv, h0⟩ | ⟨g, cap, cur, hv, _, _, m1, _⟩
 · simp only [Sl.v, Value.slice.injEq] at hv
   obtain ⟨rfl, rfl, rfl⟩ := hv
   exact ⟨by dsimp only; omega, Nat.le_refl _⟩
 · simp only [Sl.v, Value.slice.injEq] at hv
   obtain ⟨rfl, rfl, rfl⟩ := hv
   exact ⟨rfl, m1⟩
theorem PG {α : Type} {f : α → List D} {xs : List α} {T E : TypeId} {x lo : Operand} {q : Sl} {m : Int} {sz eb : Nat} {z : Value} (hx : evO ρ x = some (.val q.v)) (hlo : evO ρ lo = some (.int m)) (hT : P.underlying T = some (.slice E)) (hE : El P E z sz eb)
 (hm : AH q.v E sz f xs ∈ h) (h0 : 0 ≤ m) (hn : m ≤ xs.length) : Pure P G ⟨dst, .slice T x (some lo) none none, ty, pos, after, g⟩ ρ h (.val (q.sub m.toNat sz).v) := by
 intro c I n a w _ hok hs
 obtain ⟨i, hi, _, hsz, _⟩ := hE.get
 have e1 := AL (hs.ev x) (AA hx)
 have e2 := AL (hs.ev lo) (AA hlo)
 obtain ⟨r1, r2⟩ := UO hok hm
 refine ⟨_, rfl, fun w' _ => ?_⟩
 have b1 : 0 ≤ m ∧ m ≤ (q.n : Int) := by omega
 have b2 : (0 : Int) ≤ q.n ∧ (q.n : Int) ≤ q.c := by omega
 simp [execOp, e1, e2, Instr.sliceAt, run_underlying hT, Instr.slice, Instr.sliceBounds, Instr.sliceBound, asIntOf, b1, b2, sizeOf, typeInfo, hi, hsz, Sl.sub]
theorem SY {α : Type} {f : α → List D} {xs : List α} {T E E' : TypeId} {x : Operand} {q : Sl} {m sz sz' : Nat} (hx : evO ρ x = some (.val (q.sub m sz).v)) (hT : P.underlying T = some (.slice E')) (hm : AH q.v E sz' f xs ∈ h) : Pure P G ⟨dst, .call { callee := .builtin .len, args := #[x], argTypes := #[T] }, ty, pos, after, g⟩ ρ h (.int ((xs.length - m : Nat) : Int)) := by
 intro c I n a w _ hok hs
 obtain ⟨r1, r2⟩ := UO hok hm
 have e1 := AL (hs.ev x) (AA hx)
 refine ⟨_, rfl, fun w' _ => ?_⟩
 have e2 : a.eval x = .slice (q.sub m sz).ad (q.n - m) (q.c - m) := e1
 simp [execOp, resolve, invoke, builtin, e2, Builtin.len_, run_underlying hT, goInt, r1]
theorem PZ {α : Type} {f : α → List D} {xs : List α} {T E : TypeId} {x y : Operand} {q : Sl} {m n sz eb : Nat} {z : Value} (hx : evO ρ x = some (.val (q.sub m sz).v)) (hy : evO ρ y = some (.int (n : Int))) (hT : P.underlying T = some (.slice E)) (hE : El P E z sz eb)
 (hm : AH q.v E sz f xs ∈ h) (hn : m + n < xs.length) : Pure P G ⟨dst, .indexAddr T x y, ty, pos, after, g⟩ ρ h (.val (.pointer (some (q.at ((m + n) * sz))))) := by
 intro c I o a w _ hok hs
 obtain ⟨i, hi, _, hsz, _⟩ := hE.get
 obtain ⟨gb, cap, cur, rfl, hg, m1, _⟩ := Ent.row_form (hok.ent _ hm) (by omega)
 have e1 := AL (hs.ev x) (AA hx)
 have e2 := AL (hs.ev y) (AA hy)
 have hc : cap ≠ m := by omega
 have e3 : a.eval x = .slice (some ⟨gb, m * sz, none⟩) (xs.length - m) (cap - m) := by
  rw [e1]; simp [Sl.sub, Sl.v, hc, Addr.add_lit]
 refine ⟨_, rfl, fun w' _ => ?_⟩
 have h1 : n < xs.length - m := by omega
 simp [execOp, e3, e2, Instr.indexAt, run_underlying hT, asIntOf, h1, sizeOf, typeInfo, hi, hsz, Sl.at, Addr.add_lit, Nat.add_mul]
end
inductive InA (d : D) : List AV → Prop where
 | here {as_ : List AV} : InA d (.d d :: as_)
 | agg {cs as_ : List AV} (h : InA d cs) : InA d (.agg cs :: as_)
 | there {a : AV} {as_ : List AV} (h : InA d as_) : InA d (a :: as_)
theorem InA.rel {d : D} {w : World} {I : Nat → Prop} {args : List AV} (h : InA d args) : ∀ {vs : List Value}, AV.rels w I args vs → ∃ v, Rel w I d v := by
 induction h with
 | here => intro vs hr; cases vs with | nil => exact hr.elim | cons v vs => exact ⟨v, hr.1⟩
 | agg _ ih => intro vs hr; cases vs with | nil => exact hr.elim | cons v vs => obtain ⟨us, _, h⟩ := hr.1; exact ih h
 | there _ ih => intro vs hr; cases vs with | nil => exact hr.elim | cons v vs => exact ih hr.2
theorem AC.factI {α : Type} {f : α → List D} {xs : List α} {P : Program} {G : List (Nat × List D)} {fn : FuncId} {args : List AV} {h : H} {Q : AE → H → Prop} {sz eb : Nat} (hm : InA (.l sz eb (xs.map f)) args) (hac : xs.length * eb ≤ 140737488355328 → AC P G fn args h Q) : AC P G fn args h Q := by
 intro I W vs h1 h2 h3 h4 h5
 obtain ⟨v, hv⟩ := hm.rel h5
 have := (Rel.len_le hv).1
 rw [List.length_map] at this
 exact hac this I W vs h1 h2 h3 h4 h5
theorem AC.factN {α : Type} {f : α → List D} {g : List α → List D} {xss : List (List α)} {P : Program} {G : List (Nat × List D)} {fn : FuncId} {args : List AV} {h : H} {Q : AE → H → Prop} {sz eb : Nat} (sz' eb' : Nat) (hg : ∀ x, g x = [.l sz' eb' (x.map f)]) (hm : InA (.l sz eb (xss.map g)) args) (hac : (∀ x ∈ xss, x.length * eb' ≤ 140737488355328) → AC P G fn args h Q) : AC P G fn args h Q := by
 intro I W vs h1 h2 h3 h4 h5
 obtain ⟨v, hv⟩ := hm.rel h5
 refine hac (fun x hx => ?_) I W vs h1 h2 h3 h4 h5
 obtain ⟨j, hj, rfl⟩ := List.getElem_of_mem hx
 have key : ∀ rows, rows = xss.map g → Rel W I (.l sz eb rows) v → ∃ u, Rel W I (.l sz' eb' (xss[j].map f)) u := fun rows hr hrel => by
  have hrow : rows[j]? = some [D.l sz' eb' (xss[j].map f)] := by rw [hr, List.getElem?_map, List.getElem?_eq_getElem hj, ← hg]; rfl
  cases hrel with
  | nil => simp at hrow
  | emp => simp at hrow
  | l _ _ _ ad cap css hI hcap hm hb hsz hc hr => exact ⟨_, hr j 0 _ _ hrow rfl⟩
 obtain ⟨u, hu⟩ := key _ rfl hv
 have := (Rel.len_le hu).1
 rwa [List.length_map] at this

def Sl.cut (q : Sl) (n : Nat) : Sl := ⟨q.ad, n, q.c⟩
section
variable {k : Kx} {Q : Exit → Env → H → Prop} {ρ ρ' : Env} {h h' h1 h2 hr : H} {ops : Array Oper} {l : List Oper} {d : Nat} {dst : Option Tmp} {ty : TypeId} {pos : String} {after : Array Edge}
theorem VS.cut {α : Type} {f : α → List D} {xs : List α} {E : TypeId} {sz : Nat} {q : Sl} {n : Nat} (hu : Upd (AH q.v E sz f xs) (AH (q.cut n).v E sz f (xs.take n)) h h') (hsz : ∀ a, (f a).length = sz) (hn : n ≤ xs.length) : VS ρ h ρ h' := by
 obtain ⟨h1, h2, rfl, rfl⟩ := hu.split
 intro c I m a w k1 k2
 have hfl : ∀ ys : List α, ((((ys.map f).flatten).map D.av)).length = ys.length * sz := fun ys => by
  rw [List.length_map, Bd _ (fun r hr => by obtain ⟨a, _, rfl⟩ := List.mem_map.1 hr; exact hsz a), List.length_map]
 have htake : (((xs.take n).map f).flatten).map D.av = ((((xs.map f).flatten).map D.av)).take (n * sz) := by
  have hl0 : ((((xs.take n).map f).flatten).map D.av).length = n * sz := by rw [hfl, List.length_take, Nat.min_eq_left (by omega)]
  have e : ((xs.map f).flatten).map D.av = (((xs.take n).map f).flatten).map D.av ++ (((xs.drop n).map f).flatten).map D.av := by
   rw [← List.map_append, ← List.flatten_append, ← List.map_append, List.take_append_drop]
  rw [e, List.take_append_of_le_length (by omega)]
  exact (List.take_of_length_le (by omega)).symm
 have hlt : (xs.take n).length = n := by rw [List.length_take]; omega
 by_cases hx0 : 0 < xs.length
 · obtain ⟨g, cap, cur, rfl, hg, m1, m2, m3, hrel⟩ := Ent.row_form (k1.ent (AH q.v E sz f xs) (by simp)) hx0
   have hle : n * sz ≤ cap * sz := Nat.mul_le_mul_right _ (by omega)
   have hle2 : n * sz ≤ xs.length * sz := Nat.mul_le_mul_right _ hn
   refine ⟨I, Ok.reent k1 (e' := AH (Sl.v ⟨some ⟨g, 0, none⟩, n, cap⟩) E sz f (xs.take n)) rfl ?_, k2⟩
   refine ⟨cur.toList.take (n * sz), ⟨?_, .inr ⟨g, cap, cur, by rw [hlt], Nat.zero_le _, hg, by rw [hlt]; omega, m2, m3, by rw [hlt]⟩⟩, ?_⟩
   · rw [List.length_take, Array.length_toList (xs := cur), m3, hlt]; omega
   · rw [htake]
     have := DI (n * sz) hrel
     rwa [List.take_take, Nat.min_eq_left hle2] at this
 · obtain rfl : xs = [] := List.eq_nil_of_length_eq_zero (by omega)
   have hn0 : n = 0 := by simpa using hn
   subst hn0
   obtain ⟨r1, r2⟩ := UO k1 (q := q) (f := f) (xs := []) (E := E) (sz := sz) (by simp)
   have : q.cut 0 = q := by
    obtain ⟨a1, a2, a3⟩ := q
    simp only [Sl.cut]
    simp at r1
    rw [r1]
   rw [this]
   exact ⟨I, k1, k2⟩
theorem XY {fr : Nat × Nat → List D} {xs : List (Nat × Nat)} {T E : TypeId} {x y : Operand} {q : Sl} {j : Nat} {v : Int} {z : Value} {eb : Nat} (hx : evO ρ x = some (.val (.pointer (some (q.at (j * 2 + 1)))))) (hy : evO ρ y = some (.int v)) (hE : El k.P T z 1 eb) (hjl : j < xs.length)
 (hu : Upd (AH q.v E 2 fr xs) (AH q.v E 2 fr (xs.set j (xs[j].1, xs[j].2 + 1))) h h') (hfr : ∀ p, fr p = [.i .i64 (p.1 : Int), .i .i64 (p.2 : Int)]) (hv : v = (xs[j].2 : Int) + 1)
 (hj : JL k ops l Q ρ h') : JL k ops (⟨none, .store T x y, ty, pos, after, none⟩ :: l) Q ρ h := by
 obtain ⟨h1, h2, rfl, rfl⟩ := hu.split
 have hsz : ∀ a, (fr a).length = 2 := fun a => by rw [hfr]; rfl
 have hfl : ((((xs.map fr).flatten).map D.av)).length = xs.length * 2 := by
  rw [List.length_map, Bd _ (fun r hr => by obtain ⟨a, _, rfl⟩ := List.mem_map.1 hr; exact hsz a), List.length_map]
 refine NP (off := j * 2 + 1) (r := .int v) (AA hx) (AA hy) rfl hE rfl (by omega) (by rw [hfl]; simp [AV.cl]; omega) ?_
 have e : setAt (((xs.map fr).flatten).map D.av) (j * 2 + 1) (AV.cl (.int v)) = (((xs.set j (xs[j].1, xs[j].2 + 1)).map fr).flatten).map D.av := by
  rw [← LB hsz xs j _ hjl, hfr]
  have hg0 : (((xs.map fr).flatten).map D.av)[j * 2]? = some (.int (xs[j].1 : Int)) := by
   have := Rt (f := fr) (xs := xs) (sz := 2) (j := j) (u := 0) (c := .i .i64 (xs[j].1 : Int)) hsz hjl (by rw [hfr]; rfl)
   simpa [D.av] using this
  generalize (((xs.map fr).flatten).map D.av) = cs at hg0
  have hlt := (List.getElem?_eq_some_iff.1 hg0).1
  have hge := (List.getElem?_eq_some_iff.1 hg0).2
  subst hv
  simp only [setAt, AV.cl, List.map_cons, List.map_nil, D.av, List.length_cons, List.length_nil]
  rw [List.take_succ_eq_append_getElem hlt, hge]
  simp [List.append_assoc]
 rw [e]
 unfold AH at hj
 rwa [List.length_set] at hj
end
section
variable {P : Program} {G : List (Nat × List D)} {ρ : Env} {h : H} {dst : Option Tmp} {ty : TypeId} {pos : String} {after : Array Edge} {g : Option (Nat × Bool)}
theorem PI {α : Type} {f : α → List D} {xs : List α} {T E : TypeId} {x hi : Operand} {q : Sl} {n : Int} {sz eb : Nat} {z : Value} (hx : evO ρ x = some (.val q.v)) (hhi : evO ρ hi = some (.int n)) (hT : P.underlying T = some (.slice E)) (hE : El P E z sz eb)
 (hm : AH q.v E sz f xs ∈ h) (h0 : 0 ≤ n) (hn : n ≤ xs.length) : Pure P G ⟨dst, .slice T x none (some hi) none, ty, pos, after, g⟩ ρ h (.val (q.cut n.toNat).v) := by
 intro c I o a w _ hok hs
 obtain ⟨i, hi', _, hsz, _⟩ := hE.get
 have e1 := AL (hs.ev x) (AA hx)
 have e2 := AL (hs.ev hi) (AA hhi)
 obtain ⟨r1, r2⟩ := UO hok hm
 refine ⟨_, rfl, fun w' _ => ?_⟩
 have b1 : 0 ≤ n ∧ n ≤ (q.c : Int) := by omega
 have e0 : q.ad.map (fun x => x.add 0) = q.ad := by cases q.ad <;> simp [Addr.add_lit, Addr.add]
 simp [execOp, e1, e2, Instr.sliceAt, run_underlying hT, Instr.slice, Instr.sliceBounds, Instr.sliceBound, asIntOf, b1, sizeOf, typeInfo, hi', Sl.cut, e0]
end

def ai : List Nat → List (List Nat)
 | [] => [[]]
 | x :: l => ai l ++ (ai l).map (x :: ·)
theorem Wp {S l : List Nat} (h : S.Sublist l) : S ∈ ai l := by
 induction h with
 | slnil => exact List.mem_cons_self
 | cons a _ ih => exact List.mem_append.2 (.inl ih)
 | cons_cons a _ ih => exact List.mem_append.2 (.inr (List.mem_map.2 ⟨_, ih, rfl⟩))
def marks (listed : Array Bool) : List Nat → Array Bool
 | [] => listed
 | i :: l => (marks listed l).setIfInBounds i true
theorem MN {listed : Array Bool} {l l' : List Nat} (h : l.Perm l') : marks listed l = marks listed l' := by
 induction h with
 | nil => rfl
 | cons x _ ih => simp only [marks, ih]
 | swap x y l =>
   simp only [marks]
   by_cases e : x = y
   · rw [e]
   · rw [Array.setIfInBounds_comm _ _ (Ne.symm e)]
 | trans _ _ ih1 ih2 => exact ih1.trans ih2
def ZE (ops : Array Oper) (listed : Array Bool) (is : List Nat) : Bool :=
 (ai is).all fun T => decide (T.length = is.length) || (!(Region.ready .any ops (marks listed T)).isEmpty && (Region.ready .any ops (marks listed T)).all fun j => is.contains j && !T.contains j)
section
variable {k : Kx} {Q : Exit → Env → H → Prop} {ρ ρ' : Env} {h : H} {ops : Array Oper} {listed : Array Bool} {n f : Nat}
theorem eD (hle : Env.le ρ ρ') (hj : JX k ops f listed Q ρ' h) : JX k ops f listed Q ρ h := ⟨fun h1 h2 I a w k1 k2 k3 => hj.get h1 h2 I a w k1 (k2.le hle) k3⟩
inductive Reads (k : Kx) (ops : Array Oper) (ρ : Env) (h : H) : List (Nat × Nat × AV) → Prop where
 | nil : Reads k ops ρ h []
 | cons {i d : Nat} {r : AV} {op : Op} {ty : TypeId} {pos : String} {after : Array Edge} {l : List (Nat × Nat × AV)} (ho : ops[i]? = some ⟨some d, op, ty, pos, after, none⟩) (hp : Pure k.P k.c.G ⟨some d, op, ty, pos, after, none⟩ ρ h r) (hd : Nat.blt d k.n = true) (hf : FO ρ d = none) (t : Reads k ops ρ h l) : Reads k ops ρ h ((i, d, r) :: l)
theorem Reads.get {l : List (Nat × Nat × AV)} (t : Reads k ops ρ h l) {p : Nat × Nat × AV} (hp : p ∈ l) : ∃ op ty pos after, ops[p.1]? = some ⟨some p.2.1, op, ty, pos, after, none⟩ ∧ Pure k.P k.c.G ⟨some p.2.1, op, ty, pos, after, none⟩ ρ h p.2.2 ∧ p.2.1 < k.n ∧ FO ρ p.2.1 = none := by
 induction t with
 | nil => cases hp
 | cons ho h1 h2 h3 _ ih =>
   rcases List.mem_cons.1 hp with rfl | hp
   · exact ⟨_, _, _, _, ho, h1, blt h2, h3⟩
   · exact ih hp
def F3 (T : List (Nat × Nat × AV)) (ρ : Env) : Env := T.map (fun p => (p.2.1, p.2.2)) ++ ρ
theorem get_none : ∀ {ρ : Env} {t : Nat}, FO ρ t = none → Av.get ρ t = .any
 | [], _, _ => rfl
 | (u, v) :: r, t, h => by
   simp only [FO, Av.get] at h ⊢
   cases hb : Nat.beq u t with
   | true => rw [hb] at h; cases h
   | false => rw [hb] at h; simp only [cond_false] at h ⊢; exact get_none h
theorem YD {T : List (Nat × Nat × AV)} (hf : ∀ p ∈ T, FO ρ p.2.1 = none) : Env.le (F3 T ρ) ρ := by
 induction T with
 | nil => exact Env.le_refl _
 | cons p T ih =>
   intro t
   have h1 := ih (fun q hq => hf q (List.mem_cons_of_mem _ hq)) t
   show AV.le (bif Nat.beq p.2.1 t then p.2.2 else Av.get (F3 T ρ) t) (Av.get ρ t)
   cases hb : Nat.beq p.2.1 t with
   | true =>
     have e : p.2.1 = t := Nat.eq_of_beq_eq_true hb
     rw [← e, get_none (hf p List.mem_cons_self)]
     exact AV.le_any _
   | false => exact h1
theorem SV {T T' : List (Nat × Nat × AV)} (hp : T.Perm T') (hn : (T.map fun p => p.2.1).Nodup) : ∀ t, Av.get (F3 T ρ) t = Av.get (F3 T' ρ) t := by
 induction hp with
 | nil => intro t; rfl
 | cons x _ ih =>
   intro t
   show (bif Nat.beq x.2.1 t then x.2.2 else Av.get (F3 _ ρ) t) = (bif Nat.beq x.2.1 t then x.2.2 else Av.get (F3 _ ρ) t)
   rw [ih (List.nodup_cons.1 hn).2 t]
 | swap x y l =>
   intro t
   show (bif Nat.beq y.2.1 t then y.2.2 else bif Nat.beq x.2.1 t then x.2.2 else Av.get (F3 l ρ) t) = (bif Nat.beq x.2.1 t then x.2.2 else bif Nat.beq y.2.1 t then y.2.2 else Av.get (F3 l ρ) t)
   have hne : y.2.1 ≠ x.2.1 := fun e => (List.nodup_cons.1 hn).1 (by show y.2.1 ∈ _; rw [e]; exact List.mem_cons_self)
   cases h1 : Nat.beq y.2.1 t with
   | false => rfl
   | true =>
     have e1 : y.2.1 = t := Nat.eq_of_beq_eq_true h1
     cases h2 : Nat.beq x.2.1 t with
     | false => rfl
     | true => exact absurd (e1.trans (Nat.eq_of_beq_eq_true h2).symm) hne
 | trans h1 _ ih1 ih2 =>
   intro t
   rw [ih1 hn t, ih2 ((h1.map _).nodup_iff.1 hn) t]
theorem Wk {L : List (Nat × Nat × AV)} (t : Reads k ops ρ h L) (hc : ZE ops listed (L.map (·.1)) = true) (hn : (L.map fun p => p.2.1).Nodup) (hi : (L.map (·.1)).Nodup)
 (hj : JX k ops f (marks listed (L.map (·.1))) Q (F3 L ρ) h) : ∀ (m : Nat) (T R : List (Nat × Nat × AV)), R.length = m → (T ++ R).Perm L → JX k ops (f + m) (marks listed (T.map (·.1))) Q (F3 T ρ) h := by
 intro m
 induction m with
 | zero =>
   intro T R hR hp
   obtain rfl : R = [] := List.eq_nil_of_length_eq_zero hR
   rw [List.append_nil] at hp
   rw [MN (hp.map _)]
   exact eD (fun t => AV.le_of_eq (SV hp ((hp.map _).nodup_iff.2 hn) t)) hj
 | succ m ih =>
   intro T R hR hp
   have hpi := hp.map (·.1)
   rw [List.map_append] at hpi
   have hnd := hpi.nodup_iff.2 hi
   have hS : ((L.map (·.1)).filter fun j => (T.map (·.1)).contains j).Perm (T.map (·.1)) := by
    refine (hpi.symm.filter _).trans ?_
    rw [List.filter_append]
    have e1 : (T.map (·.1)).filter (fun j => (T.map (·.1)).contains j) = T.map (·.1) := List.filter_eq_self.2 fun a ha => by simpa using ha
    have e2 : (R.map (·.1)).filter (fun j => (T.map (·.1)).contains j) = [] := List.filter_eq_nil_iff.2 fun a ha hc => (List.nodup_append.1 hnd).2.2 a (by simpa using hc) a ha rfl
    rw [e1, e2, List.append_nil]
   have hsub := Wp (List.filter_sublist (p := fun j => (T.map (·.1)).contains j) (l := L.map (·.1)))
   have hchk := List.all_eq_true.1 hc _ hsub
   have hlen : ((L.map (·.1)).filter fun j => (T.map (·.1)).contains j).length ≠ (L.map (·.1)).length := by
    rw [hS.length_eq, ← hpi.length_eq]
    simp only [List.length_append, List.length_map]
    omega
   rw [decide_eq_false hlen, Bool.false_or, MN hS, Bool.and_eq_true] at hchk
   refine bQ (fun e => by rw [e] at hchk; simp at hchk) fun j hjr => ?_
   have hjc := List.all_eq_true.1 hchk.2 j hjr
   simp only [Bool.and_eq_true, Bool.not_eq_true'] at hjc
   have hjL : j ∈ L.map (·.1) := by simpa using hjc.1
   have hjT : j ∉ T.map (·.1) := fun hm => by
    have : ((L.map (·.1)).filter fun j => (T.map (·.1)).contains j).contains j = true := by simpa using hS.mem_iff.2 hm
    rw [this] at hjc
    exact absurd hjc.2 (by decide)
   have hjR : j ∈ R.map (·.1) := by
    rcases List.mem_append.1 (hpi.mem_iff.2 hjL) with h1 | h1
    · exact absurd h1 hjT
    · exact h1
   obtain ⟨p, hpR, rfl⟩ := List.mem_map.1 hjR
   obtain ⟨R1, R2, rfl⟩ := List.append_of_mem hpR
   have hpL : p ∈ L := hp.mem_iff.1 (by simp)
   obtain ⟨op, ty, pos, after, ho, hpu, hd, hfr⟩ := t.get hpL
   have hle : Env.le (F3 T ρ) ρ := YD fun q hq => by
    obtain ⟨_, _, _, _, _, _, _, h4⟩ := t.get (hp.mem_iff.1 (List.mem_append.2 (.inl hq)))
    exact h4
   have hpu' : Pure k.P k.c.G ⟨some p.2.1, op, ty, pos, after, none⟩ (F3 T ρ) h p.2.2 := fun c I n a w e1 e2 e3 => hpu c I n a w e1 e2 (e3.le hle)
   refine ⟨_, ho, UR hpu' rfl (fun t ht => by cases ht; exact hd) (LU ⟨rfl, ?_⟩)⟩
   have hperm : (p :: T ++ (R1 ++ R2)).Perm L := by
    refine List.Perm.trans ?_ hp
    rw [List.cons_append, ← List.append_assoc, ← List.append_assoc]
    exact (List.perm_middle (l₁ := T ++ R1) (l₂ := R2) (a := p)).symm
   have := ih (p :: T) (R1 ++ R2) (by simp at hR ⊢; omega) hperm
   exact this
theorem Ug (L : List (Nat × Nat × AV)) (is ds : List Nat) {g i m : Nat} (t : Reads k ops ρ h L) (his : L.map (·.1) = is) (hds : (L.map fun p => p.2.1) = ds) (hf : f + L.length = g) (hc : ZE ops listed is = true) (hn : ds.Nodup) (hi : is.Nodup)
 (hj : JXP k ops n f (marks listed is) 0 n Q (F3 L ρ) h) : JXP k ops n g listed i m Q ρ h := by
 subst his hds
 exact ⟨by rw [← hf]; exact Wk t hc hn hi hj.get L.length [] L rfl (by simp)⟩
end

structure Sam (T : List Nat) (w w' : World) : Prop where
 os : w'.os = w.os
 tape : w'.tape = w.tape
 output : w'.output = w.output
 size : w.heap.size ≤ w'.heap.size
 block : ∀ b, b < w.heap.size → b ∉ T → w'.heap[b]? = w.heap[b]?
theorem Sam.refl (T : List Nat) (w : World) : Sam T w w := ⟨rfl, rfl, rfl, Nat.le_refl _, fun _ _ _ => rfl⟩
def Ga (ops : Array Oper) (n : Nat) : Bool :=
 Region.noSelect ops && decide (n ≤ ops.size) && (decide (n = ops.size) || (Region.sinkB .any ops n && Region.chainB .any ops n))
structure JH (k : Kx) (ops : Array Oper) (n f : Nat) (listed : Array Bool) (l2 : List Oper) (i m : Nat) (pr : Bool) (Q : Exit → Env → H → Prop) (hT : H) (ρ : Env) (h : H) : Prop where
 get : Ga ops n = true → HeadInv .any ops n listed → ∀ I a w, Ok k.c I (hT ++ h) w → SF k.n w I ρ a → a.defers = k.df →
  GB k.P .any ops (Sam (blks hT) w) n (fun listed' a' w' => Region.seqB .any ops (ops.size - n) n listed' = true ∧ wpList k.P ops (lift k Q) l2 a' w') f listed a w
structure JHS (k : Kx) (ops : Array Oper) (n f : Nat) (listed : Array Bool) (l2 : List Oper) (i m : Nat) (Q : Exit → Env → H → Prop) (hT : H) (ρ : Env) (h : H) : Prop where
 get : ∀ j, i ≤ j → j < i + m → j ∈ Region.ready .any ops listed → ∃ o, ops[j]? = some o ∧ ∀ c : World × (Nat → Prop) × List Nat, JL ⟨k.P, ⟨c.1, c.2.1, c.2.2, k.c.G⟩, k.n, k.df⟩ ops [o] (fun e ρ' hT' => e = .normal ∧ JH k ops n f (listed.setIfInBounds j true) l2 0 n false Q hT' ρ' h) ρ hT
theorem ME {ops : Array Oper} {n : Nat} (hs : Ga ops n = true) {i : Nat} (hi : i < n) : ∀ listed, HeadInv .any ops n listed → i ∈ Region.ready .any ops listed → ∀ j ∈ Region.ready .any ops listed, j < n := by
 simp only [Ga, Bool.and_eq_true, Bool.or_eq_true, decide_eq_true_eq] at hs
 obtain ⟨⟨hsel, hle⟩, hor⟩ := hs
 intro listed inv hr j hj
 rcases hor with hn | ⟨hs, hc⟩
 · obtain ⟨_, o, ho, _⟩ := mem_ready.1 hj
   rw [hn]; exact (Array.getElem?_eq_some_iff.1 ho).1
 · rcases Nat.lt_or_ge j n with h | h
   · exact h
   · obtain ⟨_, o, ho, _⟩ := mem_ready.1 hj
     have hlt := (Array.getElem?_eq_some_iff.1 ho).1
     exact absurd hj (tail_waits hs hc (by omega) inv _ i rfl hi (mem_ready.1 hr).1 j h)
theorem aM {ops : Array Oper} {n : Nat} (hs : Ga ops n = true) : Region.noSelect ops = true := by
 simp only [Ga, Bool.and_eq_true] at hs
 exact hs.1.1
section
variable {k : Kx} {Q : Exit → Env → H → Prop} {ρ ρ' : Env} {h h' hT : H} {ops : Array Oper} {listed : Array Bool} {l2 : List Oper} {n f i m d : Nat} {op : Op} {ty : TypeId} {pos : String} {after : Array Edge} {pr : Bool}

theorem Ok.right {c : Cx} {I : Nat → Prop} {w : World} (k1 : Ok c I (hT ++ h) w) : Ok c I h w where
 ent e he := k1.ent e (List.mem_append.2 (.inr he))
 nd := by have := k1.nd; rw [AZ] at this; exact (List.nodup_append.1 this).2.1
 imm b hb := ⟨(k1.imm b hb).1, fun hm => (k1.imm b hb).2 (by rw [AZ]; exact List.mem_append.2 (.inr hm))⟩
 new b hb := k1.new b (by rw [AZ]; exact List.mem_append.2 (.inr hb))
 inew := k1.inew
 sup := k1.sup
 os := k1.os
 tape := k1.tape
 output := k1.output
 size := k1.size
 keep := k1.keep
 glob := k1.glob
theorem Ok.left {c : Cx} {I : Nat → Prop} {w : World} (k1 : Ok c I (hT ++ h) w) : Ok ⟨w, I, blks hT, c.G⟩ I hT w where
 ent e he := k1.ent e (List.mem_append.2 (.inl he))
 nd := by have := k1.nd; rw [AZ] at this; exact (List.nodup_append.1 this).1
 imm b hb := ⟨(k1.imm b hb).1, fun hm => (k1.imm b hb).2 (by rw [AZ]; exact List.mem_append.2 (.inl hm))⟩
 new b hb := .inl hb
 inew b hb := .inl hb
 sup b hb := hb
 os := rfl
 tape := rfl
 output := rfl
 size := Nat.le_refl _
 keep _ _ _ := rfl
 glob := k1.glob
theorem Sam.weak {c : Cx} {I : Nat → Prop} {w w' : World} (k1 : Ok c I (hT ++ h) w) (s : Sam (blks hT) w w') : ND I h w w' where
 imm b hb := s.block b (k1.imm b hb).1 fun hm => (k1.imm b hb).2 (by rw [AZ]; exact List.mem_append.2 (.inl hm))
 own b hb := s.block b (by
  obtain ⟨e, he, heb⟩ := List.mem_filterMap.1 hb
  exact Ent.blk_lt (k1.ent e (List.mem_append.2 (.inr he))) heb) fun hm => by
  have := k1.nd
  rw [AZ] at this
  exact (List.nodup_append.1 this).2.2 b hm b hb rfl
theorem Ov {o : Oper} {r : AV} (ho : ops[i]? = some o) (hc : FA ops listed n i = true) (hd : ∀ t, o.dst = some t → t < k.n)
 (hy : ∀ I a w, Ok k.c I (hT ++ h) w → SF k.n w I ρ a → ∃ v, AV.rel w I r v ∧ YieldsIf k.P ops (Sam (blks hT) w) o v a)
 (hj : JH k ops n f (listed.setIfInBounds i true) l2 (i + 1) m true Q hT (put ρ o.dst r) h) : JH k ops n (f + 1) listed l2 i (m + 1) pr Q hT ρ h := by
 refine ⟨fun hs inv I a w h1 h2 h3 => ?_⟩
 simp only [FA, Bool.and_eq_true, decide_eq_true_eq] at hc
 obtain ⟨⟨hr, hf⟩, hin⟩ := hc
 have hr' : i ∈ Region.ready .any ops listed := by simpa using hr
 obtain ⟨v, hv, hyv⟩ := hy I a w h1 h2
 exact Gy ho (Region.noSelect_spec (aM hs)) (ME hs hin) hin (fun _ _ _ h => seqB_ready h.1) f listed a w inv (Region.free_spec ho hf) hr' hyv (Sam.refl _ _)
  (hj.get hs (inv.set hr' hin) I _ w h1 (h2.put hd hv) (by rw [Act.defers_put]; exact h3))
theorem Kk {r : AV} (ho : ops[i]? = some ⟨some d, op, ty, pos, after, none⟩) (hc : FA ops listed n i = true) (hp : Pure k.P k.c.G ⟨some d, op, ty, pos, after, none⟩ ρ h r) (hd : Nat.blt d k.n = true)
 (hj : JH k ops n f (listed.setIfInBounds i true) l2 (i + 1) m true Q hT ((d, r) :: ρ) h) : JH k ops n (f + 1) listed l2 i (m + 1) pr Q hT ρ h :=
 Ov ho hc (fun t ht => by cases ht; exact blt hd) (fun I a w h1 h2 => by
  obtain ⟨v, hv, hrun⟩ := hp k.c I k.n a w rfl h1.right h2
  exact ⟨v, hv, .inl ⟨by simp [Region.wanted], fun w' hw' => hrun w' (hw'.weak h1)⟩⟩) hj
theorem Yf {j dj : Nat} {want : Bool} {oj : Oper} {r : AV} (ho : ops[i]? = some ⟨some d, op, ty, pos, after, some (j, want)⟩) (hoj : ops[j]? = some oj) (hdj : oj.dst = some dj) (hr : get ρ dj = .val (.bool want)) (hn : Nat.blt dj k.n = true) (hc : FA ops listed n i = true)
 (hp : Pure k.P k.c.G ⟨some d, op, ty, pos, after, some (j, want)⟩ ρ h r) (hd : Nat.blt d k.n = true)
 (hj : JH k ops n f (listed.setIfInBounds i true) l2 (i + 1) m true Q hT ((d, r) :: ρ) h) : JH k ops n (f + 1) listed l2 i (m + 1) pr Q hT ρ h :=
 Ov ho hc (fun t ht => by cases ht; exact blt hd) (fun I a w h1 h2 => by
  obtain ⟨v, hv, hrun⟩ := hp k.c I k.n a w rfl h1.right h2
  have hw := Ej (ops := ops) (o := ⟨some d, op, ty, pos, after, some (j, want)⟩) h2 rfl hoj hdj hr (blt hn)
  exact ⟨v, hv, .inl ⟨by rw [hw]; simp, fun w' hw' => hrun w' (hw'.weak h1)⟩⟩) hj
theorem Xj {j dj : Nat} {want : Bool} {oj : Oper} (ho : ops[i]? = some ⟨some d, op, ty, pos, after, some (j, want)⟩) (hoj : ops[j]? = some oj) (hdj : oj.dst = some dj) (hr : get ρ dj = .val (.bool (!want))) (hn : Nat.blt dj k.n = true) (hc : FA ops listed n i = true) (hd : Nat.blt d k.n = true)
 (hj : JH k ops n f (listed.setIfInBounds i true) l2 (i + 1) m true Q hT ((d, .val undef) :: ρ) h) : JH k ops n (f + 1) listed l2 i (m + 1) pr Q hT ρ h :=
 Ov ho hc (fun t ht => by cases ht; exact blt hd) (fun I a w h1 h2 => by
  have hw := Ej (ops := ops) (o := ⟨some d, op, ty, pos, after, some (j, want)⟩) h2 rfl hoj hdj hr (blt hn)
  exact ⟨undef, rfl, .inr ⟨by rw [hw]; cases want <;> simp, rfl⟩⟩) hj
theorem b9 (hle : Env.le ρ ρ') (hj : JH k ops n f listed l2 i m pr Q hT ρ' h) : JH k ops n f listed l2 i m pr Q hT ρ h := ⟨fun hs inv I a w h1 h2 h3 => hj.get hs inv I a w h1 (h2.le hle) h3⟩
theorem MY {j dj : Nat} {c want : Bool} {oj : Oper} (ho : ops[i]? = some ⟨some d, op, ty, pos, after, some (j, want)⟩) (hoj : ops[j]? = some oj) (hdj : oj.dst = some dj) (hr : get ρ dj = .val (.bool c)) (hc : FA ops listed n i = true)
 (hb : CB c (JH k ops n (f + 1) listed l2 i (m + 1) pr Q hT ((dj, .bool true) :: ρ) h) (JH k ops n (f + 1) listed l2 i (m + 1) pr Q hT ((dj, .bool false) :: ρ) h)) : JH k ops n (f + 1) listed l2 i (m + 1) pr Q hT ρ h := by
 cases c with
 | true => exact b9 (Env.le_cons (AV.le_of_eq hr) (Env.le_refl _)) (hb.1 rfl)
 | false => exact b9 (Env.le_cons (AV.le_of_eq hr) (Env.le_refl _)) (hb.2 rfl)
theorem Nu (hj : JH k ops n f listed l2 (i + 1) m pr Q hT ρ h) : JH k ops n f listed l2 i (m + 1) pr Q hT ρ h := ⟨hj.get⟩
theorem OF (hj : JH k ops n f listed l2 0 n false Q hT ρ h) : JH k ops n f listed l2 i 0 true Q hT ρ h := ⟨hj.get⟩
theorem PU (hc : Region.seqB .any ops (ops.size - n) n listed = true) (ha : App hT h h') (hj : JL k ops l2 Q ρ h') : JH k ops n 0 listed l2 i m pr Q hT ρ h :=
 ⟨fun _ _ I a w h1 h2 h3 => ⟨hc, hj I a w (by rw [ha.eq]; exact h1) h2 h3⟩⟩
theorem X0 (hne : (Region.ready .any ops listed).isEmpty = false) (hs : (Region.ready .any ops listed).all (fun j => decide (j < n)) = true) (hj : JHS k ops n f listed l2 0 n Q hT ρ h) : JH k ops n (f + 1) listed l2 i 0 false Q hT ρ h := by
 refine ⟨fun hsh inv I a w h1 h2 h3 => ⟨fun e => by rw [e] at hne; simp at hne, fun j hjr => ?_⟩⟩
 have hjn : j < n := by simpa using List.all_eq_true.1 hs j hjr
 refine ⟨hjn, ?_⟩
 obtain ⟨o, ho, hJ⟩ := hj.get j (Nat.zero_le _) (by omega) hjr
 have H := hJ (w, I, blks hT) I a w h1.left h2 h3
 unfold wpOp
 rw [ho]
 dsimp only at H ⊢
 have hK : ∀ a' w', lift ⟨k.P, ⟨w, I, blks hT, k.c.G⟩, k.n, k.df⟩ (fun e ρ' hT' => e = .normal ∧ JH k ops n f (listed.setIfInBounds j true) l2 0 n false Q hT' ρ' h) .normal a' w' →
  Sam (blks hT) w w' ∧ GB k.P .any ops (Sam (blks hT) w) n (fun listed' a' w' => Region.seqB .any ops (ops.size - n) n listed' = true ∧ wpList k.P ops (lift k Q) l2 a' w') f (listed.setIfInBounds j true) a' w' := by
  rintro a' w' ⟨I', ρ', hT', q1, q2, q3, _, q4⟩
  obtain ⟨k1, _⟩ := Ok.call (hc := hT) (hr := h) h1 q1
  have hsm : Sam (blks hT) w w' := ⟨q1.os, q1.tape, q1.output, q1.size, fun b hb hE => q1.keep b hb hE⟩
  refine ⟨hsm, FG (S := Sam (blks hT') w') (fun u hu => ?_) _ _ _ _ (q4.get hsh (inv.set hjr hjn) I' a' w' k1 q2 q3)⟩
  refine ⟨hu.os.trans hsm.os, hu.tape.trans hsm.tape, hu.output.trans hsm.output, Nat.le_trans hsm.size hu.size, fun b hb hE => (hu.block b (Nat.lt_of_lt_of_le hb hsm.size) fun hm => ?_).trans (hsm.block b hb hE)⟩
  rcases q1.new b hm with hx | hx
  · exact hE hx
  · exact absurd hb (Nat.not_lt.2 hx)
 have hQ : ∀ e a' w', e ≠ .normal → ¬ lift ⟨k.P, ⟨w, I, blks hT, k.c.G⟩, k.n, k.df⟩ (fun e ρ' hT' => e = .normal ∧ JH k ops n f (listed.setIfInBounds j true) l2 0 n false Q hT' ρ' h) e a' w' := by
  rintro e a' w' he ⟨_, _, _, _, _, _, q, _⟩
  exact he q
 rw [wpList] at H
 by_cases hw : Region.wanted o (yielded ops a.tmps) = true
 · rw [if_pos hw] at H ⊢
   rcases H with H | ⟨_, a', w', H⟩
   · exact .inl (GI hK hQ H)
   · exact absurd H (hQ _ _ _ (by simp))
 · rw [if_neg hw] at H ⊢
   exact hK _ _ H
theorem Tj (_ht : True) : JHS k ops n f listed l2 i 0 Q hT ρ h := ⟨fun j h1 h2 => by omega⟩
theorem XS (hc : (Region.ready .any ops listed).contains i = false) (hj : JHS k ops n f listed l2 (i + 1) m Q hT ρ h) : JHS k ops n f listed l2 i (m + 1) Q hT ρ h :=
 ⟨fun j h1 h2 hr => by
  by_cases e : j = i
  · subst e
    have : (Region.ready .any ops listed).contains j = true := by simpa using hr
    rw [this] at hc; cases hc
  · exact hj.get j (by omega) (by omega) hr⟩
structure dh (p : World × (Nat → Prop) × List Nat → Prop) : Prop where
 get : ∀ c, p c
theorem AF {p : World × (Nat → Prop) × List Nat → Prop} (h : ∀ c, p c) : dh p := ⟨h⟩
theorem Ts {dst : Option Tmp} {g : Option (Nat × Bool)} (ho : ops[i]? = some ⟨dst, op, ty, pos, after, g⟩)
 (hj : Two (dh fun c => JL ⟨k.P, ⟨c.1, c.2.1, c.2.2, k.c.G⟩, k.n, k.df⟩ ops [⟨dst, op, ty, pos, after, g⟩] (fun e ρ' hT' => e = .normal ∧ JH k ops n f (listed.setIfInBounds i true) l2 0 n false Q hT' ρ' h) ρ hT) (JHS k ops n f listed l2 (i + 1) m Q hT ρ h)) : JHS k ops n f listed l2 i (m + 1) Q hT ρ h :=
 ⟨fun j h1 h2 hr => by
  by_cases e : j = i
  · subst e
    exact ⟨_, ho, hj.fst.get⟩
  · exact hj.snd.get j (by omega) (by omega) hr⟩
theorem SO {k' : Kx} (hj : JH k ops n f listed l2 i m pr Q hT ρ h) : JL k' ops [] (fun e ρ' hT' => e = .normal ∧ JH k ops n f listed l2 i m pr Q hT' ρ' h) ρ hT := LU ⟨rfl, hj⟩

def effB : Op → Bool
 | .makeSlice _ _ _ => true
 | .alloc _ => true
 | .box _ _ => true
 | .buildSlice _ _ _ => true
 | .call c => (match c.callee with
   | .value _ => true
   | .builtin .append => true
   | _ => false)
 | _ => false
theorem GW {X : Type} {x : Code} {N : Env → H → Prop} (S : X → Env) (G : X → H) (hx : J k x (fun e ρ' h' => e = .normal ∧ ∃ y, VS ρ' h' (S y) (G y)) ρ h) (hq : ∀ y, N (S y) (G y)) : J k x (KC N Q) ρ h :=
 MB S G hx fun y => DH (hq y)

inductive Hd : List Oper → Nat → List Oper → Prop where
 | nil {l : List Oper} : Hd l 0 l
 | cons {d : Option Tmp} {op : Op} {ty : TypeId} {pos : String} {after : Array Edge} {g : Option (Nat × Bool)} {l l2 : List Oper} {n : Nat} (hb : ZA op = false) (h : Hd l n l2) : Hd (⟨d, op, ty, pos, after, g⟩ :: l) (n + 1) l2
theorem Hd.drop {l l2 : List Oper} {n : Nat} (h : Hd l n l2) : l.drop n = l2 ∧ n ≤ l.length := by
 induction h with
 | nil => exact ⟨rfl, Nat.zero_le _⟩
 | cons _ h ih => exact ⟨by simpa using ih.1, by simp; omega⟩
theorem Bn {id t : Nat} {l l2 : List Oper} {P : Program} (hT : H) (hm : P.follows .mixedOrders = true) (hP : k.P = P) (hx : Hd l n l2) (hn : l.length = t) (hs : Ga l.toArray n = true) (ht : Take h hT h')
 (hj : JH k l.toArray n n (Array.replicate t false) l2 0 n false Q hT ρ h') : J k (.region id l.toArray true) Q ρ h := by
 refine Ox (VS.perm ht.perm) ?_
 subst hP
 subst hn
 intro I a w h1 h2 h3
 obtain ⟨hd, hle⟩ := hx.drop
 refine wp_region_any hm ?_
 have hsm : C1 I (hT ++ h') w { w with drawn := w.drawn + 1 } := ⟨rfl, rfl, rfl, Nat.le_refl _, fun _ _ => rfl⟩
 have inv0 : HeadInv .any l.toArray n (Array.replicate l.length false) :=
  ⟨by simp, fun j oj _ hl => (by rw [getD_replicate_false] at hl; cases hl), fun t _ ht => getD_in (by simpa using ht) (getD_replicate_false _ _)⟩
 have H := hj.get hs inv0 I a _ (h1.same hsm) (SF.same h1 hsm h2) h3
 have K := DS (Q := lift k Q) (g := l.length - n) (fun listed' a' w' hL => by
  have := wpAny_of_seq (md := .any) (Q' := lift k Q) l2 n listed' a' w' (fun j => by rw [← hd]; simp [List.getElem?_drop]) (by
   have e : l2.length = l.toArray.size - n := by rw [← hd]; simp
   rw [e]; exact hL.1) hL.2
  have e : l2.length = l.length - n := by rw [← hd]; simp
  rwa [e] at this) _ _ _ _ H
 rw [show n + (l.length - n) = l.toArray.size by simp; omega] at K
 simpa using K
theorem HB {id t : Nat} {l l2 : List Oper} {P : Program} (hm : P.follows .mixedOrders = true) (hP : k.P = P) (hx : Hd l n l2) (hn : l.length = t) (hs : Ga l.toArray n = true)
 (hj : JH k l.toArray n n (Array.replicate t false) l2 0 n false Q [] ρ h) : J k (.region id l.toArray true) Q ρ h := Bn [] hm hP hx hn hs .nil hj
end

section
variable {ρ : Env} {h h' : H} {α : Type} {f : α → List D} {E : TypeId} {sz : Nat} {qs : List Sl} {ls : List (List α)}
theorem Cvs.refl (v : Value) (d : D) : ∀ xs : List AV, Cvs v d xs xs
 | [] => .nil
 | x :: xs => .cons (.same x) (Cvs.refl v d xs)
end
section
variable {k : Kx} {Q : Exit → Env → H → Prop} {ρ ρ' : Env} {h h' : H} {ops : Array Oper} {l : List Oper} {d : Nat} {ty : TypeId} {pos : String} {after : Array Edge}
theorem PC {T E : TypeId} {x y : Operand} {sz' eb' sz2 eb2 : Nat} {rows rows2 : List (List D)} {z : Value} {eb : Nat} (hx : evO ρ x = some (.d (.l sz' eb' rows))) (hy : evO ρ y = some (.d (.l sz2 eb2 rows2))) (hT : k.P.underlying T = some (.slice E)) (he : El k.P E z 1 eb) (hb : Nat.ble eb 1000000 = true)
 (hd : Nat.blt d k.n = true) (hj : JL k ops l Q ((d, .d (.l 1 eb [[.l sz' eb' rows], [.l sz2 eb2 rows2]])) :: ρ) h) : JL k ops (⟨some d, .buildSlice T 2 #[(0, x), (1, y)], ty, pos, after, none⟩ :: l) Q ρ h := by
 have hb' := Nat.le_of_ble_eq_true hb
 refine Bp (xs := [x, y]) (rows := [[.l sz' eb' rows], [.l sz2 eb2 rows2]]) hT he (by decide) rfl rfl ?_ ?_ ?_ ?_ ?_ (fun t ht => by cases ht; exact blt hd) hj
 · simp [AA hx, AA hy, D.av, AV.cl]
 · intro o ho
   simp only [List.mem_cons, List.not_mem_nil, or_false] at ho
   rcases ho with rfl | rfl
   · rw [AA hx]; rfl
   · rw [AA hy]; rfl
 · intro r hr
   simp only [List.mem_cons, List.not_mem_nil, or_false] at hr
   rcases hr with rfl | rfl <;> rfl
 · simp; omega
 · simp
end
open Go Go.Instr

def BV : List (Value × Value) → Nat → List MapEntry
 | [], _ => []
 | p :: ps, i => ⟨p.1, p.2, i⟩ :: BV ps (i + 1)
def A1 (ps : List (Value × Value)) : Obj := .map (BV ps 0).toArray ps.length
theorem EW : ∀ (ps qs : List (Value × Value)) (i : Nat), BV (ps ++ qs) i = BV ps i ++ BV qs (i + ps.length)
 | [], qs, i => by simp [BV]
 | p :: ps, qs, i => by
   simp only [List.cons_append, BV, EW ps qs (i + 1), List.length_cons]
   rw [show i + 1 + ps.length = i + (ps.length + 1) by omega]
structure K9 (kd : TypeDesc) {α : Type} (kv : α → Value) [DecidableEq α] : Prop where
 same : ∀ a b, sameNow kd (kv a) (kv b) = some (decide (a = b))
 easy : ∀ (P : Program) (T : TypeId) (e : Bool) (a : α) (w : World), P.underlying T = some kd → (checkKey e 10000 T (kv a)).run P w = .ok () w
theorem AS (k : IntKind) : K9 (.int k) (Value.int k) where
 same a b := by
  simp only [sameNow, if_pos trivial]
  exact congrArg some (Bool.eq_iff_iff.2 (by simp))
 easy P T e a w h := by
  unfold checkKey
  simp [run_underlying h]
theorem IJ (a b : ByteArray) : (a == b) = true ↔ a = b := by
 cases a; cases b
 rw [ByteArray.mk.injEq]
 show (_ == _) = true ↔ _
 simp only [BEq.beq]
 unfold ByteArray.beq
 simp
theorem AT : K9 .string Value.string where
 same a b := by
  simp only [sameNow]
  exact congrArg some (Bool.eq_iff_iff.2 (by rw [IJ]; simp))
 easy P T e a w h := by
  unfold checkKey
  simp [run_underlying h]
section
variable {α β : Type} [DecidableEq α] {kd : TypeDesc} {kv : α → Value} {vv : β → Value}
def Ac (kv : α → Value) (vv : β → Value) (ps : List (α × β)) : List (Value × Value) := ps.map fun p => (kv p.1, vv p.2)
theorem Ki (K : K9 kd kv) (a : α) : ∀ (ps : List (α × β)) (i j : Nat), (∀ p ∈ ps, p.1 ≠ a) → findNow kd (kv a) (BV (Ac kv vv ps) i) j = some none
 | [], _, _, _ => rfl
 | p :: ps, i, j, h => by
   have h1 : a ≠ p.1 := fun e => h p List.mem_cons_self e.symm
   simp only [Ac, List.map_cons, BV, findNow, K.same, decide_eq_false h1]
   exact Ki K a ps (i + 1) (j + 1) fun q hq => h q (List.mem_cons_of_mem _ hq)
theorem Rp (K : K9 kd kv) (a : α) (b : β) : ∀ (ps qs : List (α × β)) (i j : Nat), (∀ p ∈ ps, p.1 ≠ a) → findNow kd (kv a) (BV (Ac kv vv (ps ++ (a, b) :: qs)) i) j = some (some (j + ps.length, vv b))
 | [], qs, i, j, _ => by simp [Ac, BV, findNow, K.same]
 | p :: ps, qs, i, j, h => by
   have h1 : a ≠ p.1 := fun e => h p List.mem_cons_self e.symm
   have ih := Rp K a b ps qs (i + 1) (j + 1) fun q hq => h q (List.mem_cons_of_mem _ hq)
   simp only [Ac] at ih
   simp only [Ac, List.cons_append, List.map_cons, BV, findNow, K.same, decide_eq_false h1, ih, List.length_cons]
   rw [show j + 1 + ps.length = j + (ps.length + 1) by omega]
def getM (ps : List (α × β)) (a : α) : Option β := (ps.find? fun p => p.1 == a).map (·.2)
theorem Kh {ps : List (α × β)} {a : α} (h : ∀ p ∈ ps, p.1 ≠ a) : getM ps a = none := by
 simp only [getM, Option.map_eq_none_iff, List.find?_eq_none]
 intro p hp
 simpa using h p hp
theorem Lu {ps : List (α × β)} {a : α} (h : ¬ ∀ p ∈ ps, p.1 ≠ a) : ∃ b l r, ps = l ++ (a, b) :: r ∧ (∀ p ∈ l, p.1 ≠ a) ∧ getM ps a = some b := by
 induction ps with
 | nil => exact absurd (by simp) h
 | cons p ps ih =>
   by_cases e : p.1 = a
   · refine ⟨p.2, [], ps, by rw [← e]; rfl, by simp, ?_⟩
     simp [getM, e]
   · obtain ⟨b, l, r, h1, h2, h3⟩ := ih fun k => h fun q hq => by
      rcases List.mem_cons.1 hq with rfl | hq
      · exact e
      · exact k q hq
     refine ⟨b, p :: l, r, by rw [h1]; rfl, fun q hq => ?_, ?_⟩
     · rcases List.mem_cons.1 hq with rfl | hq
       · exact e
       · exact h2 q hq
     · rw [← h3]
       have e' : (p.1 == a) = false := by simpa using e
       simp [getM, List.find?_cons, e']
theorem getM_none {ps : List (α × β)} {a : α} : getM ps a = none ↔ ∀ p ∈ ps, p.1 ≠ a := by
 constructor
 · intro h
   by_cases k : ∀ p ∈ ps, p.1 ≠ a
   · exact k
   · obtain ⟨b, l, r, _, _, h3⟩ := Lu k
     rw [h] at h3; cases h3
 · exact Kh
theorem QM (K : K9 kd kv) {P : Program} {T : TypeId} (hT : P.underlying T = some kd) (ps : List (α × β)) (a : α) (w : World) :
 ∃ r : Option (Nat × Value), (findKey T (kv a) (BV (Ac kv vv ps) 0)).run P w = .ok r w ∧ r.map (·.2) = (getM ps a).map vv := by
 by_cases h : ∀ p ∈ ps, p.1 ≠ a
 · refine ⟨none, ?_, by rw [Kh h]; rfl⟩
   simp [findKey, run_underlying hT, Ki K a ps 0 0 h]
 · obtain ⟨b, l, r, e, h2, h3⟩ := Lu h
   refine ⟨some (0 + l.length, vv b), ?_, by rw [h3]; rfl⟩
   subst e
   simp [findKey, run_underlying hT, Rp K a b l r 0 0 h2]
end
section
variable {k : Kx} {Q : Exit → Env → H → Prop} {ρ ρ' : Env} {h h' : H} {ops : Array Oper} {l : List Oper} {d : Nat} {dst : Option Tmp} {ty : TypeId} {pos : String} {after : Array Edge} {g : Option (Nat × Bool)}
theorem ZS {T : TypeId} (hd : Nat.blt d k.n = true) (hj : All fun b : Nat => JL k ops l Q ((d, .val (.map (some b))) :: ρ) (.raw b (A1 []) :: h)) : JL k ops (⟨some d, .makeMap T none, ty, pos, after, none⟩ :: l) Q ρ h := by
 refine D3 rfl (fun t ht => by cases ht; exact blt hd) fun I ac w h1 h2 => ?_
 refine ⟨.map (some w.heap.size), w.alloc (.map #[] 0), I, .val (.map (some w.heap.size)), _, ?_, h1.fresh _ (.raw w.heap.size (A1 [])) rfl (heap_alloc_new w _), h2.fresh h1 _, rfl, hj.get w.heap.size⟩
 have hm : (makeMap T none).run k.P w = .ok (.map (some w.heap.size)) (w.alloc (.map #[] 0)) := rfl
 simp [execOp, hm]
theorem Lh {P : Program} {w : World} {r : Nat} {es : Array MapEntry} {clock : Nat} (o : Obj) (hb : w.heap[r]? = some (.map es clock)) : (setObj r o).run P w = .ok () { w with heap := w.heap.setIfInBounds r o } := by
 simp [setObj, Sem.run, hb]
theorem ZO {α β : Type} [DecidableEq α] {kd : TypeDesc} {kv : α → Value} {vv : β → Value} (K : K9 kd kv) {T KT ET : TypeId} {x y u : Operand} {r : AV} {b : Nat} {ps : List (α × β)} {a : α} {c : β}
 (hx : evO ρ x = some (.val (.map (some b)))) (hy : evO ρ y = some (.val (kv a))) (hv : evO ρ u = some r) (hr : ∀ w I v, AV.rel w I r v → v = vv c) (hT : k.P.underlying T = some (.map KT ET)) (hK : k.P.underlying KT = some kd)
 (hu : Upd (.raw b (A1 (Ac kv vv ps))) (.raw b (A1 (Ac kv vv (ps ++ [(a, c)])))) h h') (hno : getM ps a = none)
 (hj : JL k ops l Q ρ h') : JL k ops (⟨none, .mapUpdate T x y u, ty, pos, after, none⟩ :: l) Q ρ h := by
 obtain ⟨h1, h2, rfl, rfl⟩ := hu.split
 refine FP rfl rfl fun I ac w k1 k2 => ?_
 have e1 := AL (k2.ev x) (AA hx)
 have e2 := AL (k2.ev y) (AA hy)
 have e3 := hr _ _ _ (BW (k2.ev u) (AA hv))
 have hb : w.heap[b]? = some (A1 (Ac kv vv ps)) := k1.ent (.raw b (A1 (Ac kv vv ps))) (by simp)
 have hfind := Ki (vv := vv) K a ps 0 0 (getM_none.1 hno)
 have hnew : Obj.map (BV (Ac kv vv ps) 0 ++ [(⟨kv a, vv c, (Ac kv vv ps).length⟩ : MapEntry)]).toArray ((Ac kv vv ps).length + 1) = A1 (Ac kv vv (ps ++ [(a, c)])) := by
  have e : Ac kv vv (ps ++ [(a, c)]) = Ac kv vv ps ++ [(kv a, vv c)] := by simp [Ac]
  unfold A1
  rw [e, EW]
  simp [BV]
 obtain ⟨g1, g2⟩ := k1.write (w' := { w with heap := w.heap.setIfInBounds b (A1 (Ac kv vv (ps ++ [(a, c)]))) }) (e' := .raw b (A1 (Ac kv vv (ps ++ [(a, c)])))) (b := b) rfl rfl rfl rfl rfl (by simp)
  (fun x hx => by simp [Array.getElem?_setIfInBounds, Ne.symm hx]) (by
   have hlt := (Array.getElem?_eq_some_iff.1 hb).1
   show _ = _
   simp [Array.getElem?_setIfInBounds, hlt])
 refine ⟨{ w with heap := w.heap.setIfInBounds b (A1 (Ac kv vv (ps ++ [(a, c)]))) }, I, h1 ++ .raw b (A1 (Ac kv vv (ps ++ [(a, c)]))) :: h2, ?_, g1, k2.mono g2 (fun _ h => h), hj⟩
 have hobj : (getObj b).run k.P w = .ok (.map (BV (Ac kv vv ps) 0).toArray (Ac kv vv ps).length) w := by simp [getObj, Sem.run, hb, A1]
 have hset := Lh (P := k.P) (w := w) (r := b) (A1 (Ac kv vv (ps ++ [(a, c)]))) (es := (BV (Ac kv vv ps) 0).toArray) (clock := (Ac kv vv ps).length) hb
 simp only [execOp, e1, e2, e3, mapUpdate]
 simp [run_underlying hT, hobj, K.easy k.P KT false a w hK, findKey, run_underlying hK, hfind, hnew, hset]
end
section
variable {P : Program} {G : List (Nat × List D)} {ρ : Env} {h : H} {dst : Option Tmp} {ty : TypeId} {pos : String} {after : Array Edge} {g : Option (Nat × Bool)}
theorem ZH {α β : Type} [DecidableEq α] {kd : TypeDesc} {kv : α → Value} {vv : β → Value} (K : K9 kd kv) {T KT ET : TypeId} {x y : Operand} {b : Nat} {ps : List (α × β)} {a : α} {z : Value} {sz eb : Nat}
 (hx : evO ρ x = some (.val (.map (some b)))) (hy : evO ρ y = some (.val (kv a))) (hT : P.underlying T = some (.map KT ET)) (hK : P.underlying KT = some kd) (hE : El P ET z sz eb) (hm : Ent.raw b (A1 (Ac kv vv ps)) ∈ h) :
 Pure P G ⟨dst, .lookup T x y true, ty, pos, after, g⟩ ρ h (.tup [.val (((getM ps a).map vv).getD z), .bool (getM ps a).isSome]) := by
 intro c I n ac w _ hok hs
 obtain ⟨i, hi, hz, _, _⟩ := hE.get
 have e1 := AL (hs.ev x) (AA hx)
 have e2 := AL (hs.ev y) (AA hy)
 have hb : w.heap[b]? = some (A1 (Ac kv vv ps)) := hok.ent _ hm
 refine ⟨.tuple #[((getM ps a).map vv).getD z, .bool (getM ps a).isSome], ⟨[_, _], rfl, rfl, rfl, trivial⟩, fun w' hw' => ?_⟩
 have hb' : w'.heap[b]? = some (A1 (Ac kv vv ps)) := (hw'.own b (DY hm rfl)).trans hb
 have hobj : (getObj b).run P w' = .ok (.map (BV (Ac kv vv ps) 0).toArray (Ac kv vv ps).length) w' := by simp [getObj, Sem.run, hb', A1]
 obtain ⟨r, hr1, hr2⟩ := QM (vv := vv) K hK ps a w'
 simp only [execOp, e1, e2, lookup]
 cases r with
 | none =>
   have hr3 : (getM ps a).map vv = none := hr2.symm
   have hr4 : getM ps a = none := by simpa using hr3
   simp [run_underlying hT, hobj, K.easy P KT _ a w' hK, hr1, hr4, zeroValue, typeInfo, hi, hz]
 | some r =>
   obtain ⟨j, v⟩ := r
   have hr3 : (getM ps a).map vv = some v := hr2.symm
   obtain ⟨bb, hb1, hb2⟩ := Option.map_eq_some_iff.1 hr3
   simp [run_underlying hT, hobj, K.easy P KT _ a w' hK, hr1, hb1, hb2]
end
def Q4 {α : Type} (kv : α → Value) (xs : List α) : Obj := A1 (Ac kv (fun _ : Unit => .agg #[]) (xs.map fun x => (x, ())))
theorem Wa {α : Type} [DecidableEq α] (xs : List α) (a : α) : (getM (xs.map fun x => (x, ())) a).isSome = decide (a ∈ xs) := by
 by_cases h : a ∈ xs
 · rw [decide_eq_true h]
   cases hg : getM (xs.map fun x => (x, ())) a with
   | none => exact absurd rfl (getM_none.1 hg (a, ()) (List.mem_map.2 ⟨a, h, rfl⟩))
   | some _ => rfl
 · rw [decide_eq_false h, Kh]
   · rfl
   · intro p hp
     obtain ⟨x, hx, rfl⟩ := List.mem_map.1 hp
     exact fun e => h (by subst e; exact hx)
section
variable {k : Kx} {Q : Exit → Env → H → Prop} {ρ ρ' : Env} {h h' : H} {ops : Array Oper} {l : List Oper} {d : Nat} {dst : Option Tmp} {ty : TypeId} {pos : String} {after : Array Edge} {g : Option (Nat × Bool)}
theorem Ba {α : Type} (kv : α → Value) {T : TypeId} (hd : Nat.blt d k.n = true) (hj : All fun b : Nat => JL k ops l Q ((d, .val (.map (some b))) :: ρ) (.raw b (Q4 kv []) :: h)) : JL k ops (⟨some d, .makeMap T none, ty, pos, after, none⟩ :: l) Q ρ h := ZS hd hj
theorem A4 {α : Type} [DecidableEq α] {kd : TypeDesc} {kv : α → Value} (K : K9 kd kv) {T KT ET : TypeId} {x y u : Operand} {b : Nat} {xs : List α} {a : α}
 (hx : evO ρ x = some (.val (.map (some b)))) (hy : evO ρ y = some (.val (kv a))) (hv : evO ρ u = some (.agg [])) (hT : k.P.underlying T = some (.map KT ET)) (hK : k.P.underlying KT = some kd)
 (hu : Upd (.raw b (Q4 kv xs)) (.raw b (Q4 kv (xs ++ [a]))) h h') (hno : a ∉ xs)
 (hj : JL k ops l Q ρ h') : JL k ops (⟨none, .mapUpdate T x y u, ty, pos, after, none⟩ :: l) Q ρ h := by
 have hno' : getM (xs.map fun x => (x, ())) a = none := Kh fun p hp => by
  obtain ⟨x, hx, rfl⟩ := List.mem_map.1 hp
  exact fun e => hno (by subst e; exact hx)
 have hu' : Upd (.raw b (A1 (Ac kv (fun _ : Unit => .agg #[]) (xs.map fun x => (x, ()))))) (.raw b (A1 (Ac kv (fun _ : Unit => .agg #[]) (xs.map (fun x => (x, ())) ++ [(a, ())])))) h h' := by
  have := hu
  unfold Q4 at this
  rwa [List.map_append] at this
 exact ZO K (c := ()) hx hy hv (fun w I v hr => by
  obtain ⟨vs, e1, e2⟩ := hr
  cases vs with
  | nil => exact e1
  | cons _ _ => exact e2.elim) hT hK hu' hno' hj
end
section
variable {P : Program} {G : List (Nat × List D)} {ρ : Env} {h : H} {dst : Option Tmp} {ty : TypeId} {pos : String} {after : Array Edge} {g : Option (Nat × Bool)}
theorem Ap {α : Type} [DecidableEq α] {kd : TypeDesc} {kv : α → Value} (K : K9 kd kv) {T KT ET : TypeId} {x y : Operand} {b : Nat} {xs : List α} {a : α} {eb : Nat}
 (hx : evO ρ x = some (.val (.map (some b)))) (hy : evO ρ y = some (.val (kv a))) (hT : P.underlying T = some (.map KT ET)) (hK : P.underlying KT = some kd) (hE : El P ET (.agg #[]) 0 eb) (hm : Ent.raw b (Q4 kv xs) ∈ h) :
 Pure P G ⟨dst, .lookup T x y true, ty, pos, after, g⟩ ρ h (.tup [.agg [], .bool (decide (a ∈ xs))]) := by
 intro c I n ac w e1 e2 e3
 obtain ⟨v, hv, hrun⟩ := ZH (P := P) (G := G) (ρ := ρ) (h := h) (dst := dst) (ty := ty) (pos := pos) (after := after) (g := g) (vv := fun _ : Unit => .agg #[]) K hx hy hT hK hE hm c I n ac w e1 e2 e3
 refine ⟨v, ?_, hrun⟩
 obtain ⟨vs, h1, h2⟩ := hv
 refine ⟨vs, h1, ?_⟩
 match vs, h2 with
 | [p, q], ⟨g1, g2, g3⟩ =>
   refine ⟨⟨[], ?_, trivial⟩, ?_, g3⟩
   · rw [show p = _ from g1]
     cases getM (xs.map fun x => (x, ())) a <;> rfl
   · rw [Wa] at g2; exact g2
end
section
variable {k : Kx} {Q : Exit → Env → H → Prop} {ρ ρ' : Env} {h h' : H} {ops : Array Oper} {l : List Oper} {d : Nat} {ty : TypeId} {pos : String} {after : Array Edge}
theorem Hi {S T E : TypeId} {x : Operand} {s : ByteArray} (hx : evO ρ x = some (.val (.string s))) (hS : k.P.underlying S = some .string) (hT : k.P.underlying T = some (.slice E)) (hE : k.P.underlying E = some (.int .u8)) (hb : s.data.toList.length ≤ 140737488355328) (hd : Nat.blt d k.n = true)
 (hj : JL k ops l Q ((d, .d (B0 s.data.toList)) :: ρ) h) : JL k ops (⟨some d, .convert S T x, ty, pos, after, none⟩ :: l) Q ρ h := by
 refine D3 rfl (fun t ht => by cases ht; exact blt hd) fun I ac w h1 h2 => ?_
 have e1 := AL (h2.ev x) (AA hx)
 have hrun := run_bytes_of_string (P := k.P) w S T E s hS hT hE
 have hge := grownCap_ge w s.size 0 E
 have hsz : s.size = s.data.toList.length := by rw [Array.length_toList]; rfl
 have hle := grownCap_le_maxLen w s.size 0 E (by unfold maxLen; omega)
 have hs : C1 I h w w.drew := ⟨rfl, rfl, rfl, Nat.le_refl _, fun _ _ => rfl⟩
 have k1 := h1.same hs
 have k2 := SF.same h1 hs h2
 generalize grownCap w s.size 0 E = cap at hrun hge hle
 generalize ho : Obj.cells (bytesRow s cap) E ((bytesRow s cap).size, (bytesRow s cap).size + 1) = o at hrun
 have hok := Ok.release (h1 := []) (b := w.drew.heap.size) (k1.fresh o (.raw w.drew.heap.size o) rfl (heap_alloc_new w.drew o)) rfl
 have hmono : ∀ b, I b → (w.drew.alloc o).heap[b]? = w.drew.heap[b]? := fun b hb => Go.RowKit.Below.heap_alloc w.drew _ b (k1.imm b hb).1
 have hblk : (w.drew.alloc o).heap[w.drew.heap.size]? = some (.cells (bytesRow s cap) E ((bytesRow s cap).size, (bytesRow s cap).size + 1)) := by rw [ho]; exact heap_alloc_new w.drew o
 refine ⟨.slice (some ⟨w.drew.heap.size, 0, none⟩) s.size cap, w.drew.alloc o, _, .d (B0 s.data.toList), _, ?_, hok, k2.mono hmono (fun _ h => .inl h), ?_, hj⟩
 · have hrun' : (convert S T (.string s)).run k.P w = .ok (.slice (some ⟨w.drew.heap.size, 0, none⟩) s.size cap) (w.drew.alloc o) := hrun
   simp [execOp, e1, hrun']
 · have hlen : (s.data.toList.map Cy).length = s.size := by rw [List.length_map, hsz]
   have := Rel.l (w := w.drew.alloc o) (I := fun x => I x ∨ x = w.drew.heap.size) 1 1 (s.data.toList.map Cy) ⟨w.drew.heap.size, 0, none⟩ cap (fun j _ => .int .u8 ((s.data.toList[j]?.getD 0).toNat : Int)) (.inr rfl) (by rw [hlen]; omega) hle (by rw [hlen]; omega)
    (fun r hr => by obtain ⟨a, _, rfl⟩ := List.mem_map.1 hr; rfl) (fun j u r x hr hx => ?_) (fun j u r x hr hx => ?_)
   · rw [hlen] at this
     exact this
   · rw [List.getElem?_map] at hr
     obtain ⟨b, hb1, rfl⟩ := Option.map_eq_some_iff.1 hr
     have hu : u = 0 := by
      have := (List.getElem?_eq_some_iff.1 hx).1
      simp [Cy] at this
      exact this
     subst hu
     have hjl : j < s.data.size := by
      have := (List.getElem?_eq_some_iff.1 hb1).1
      simpa using this
     rw [Addr.add_lit, cell_of_row (w.drew.alloc o) _ _ _ _ _ hblk, hb1]
     simp only [Nat.zero_add, Nat.mul_one, Nat.add_zero, Option.getD_some]
     rw [Array.getElem?_toList] at hb1
     have hjl' : j < s.size := hjl
     have hbb : s.data[j] = b := (Array.getElem?_eq_some_iff.1 hb1).2
     simp [bytesRow, Array.getElem?_append, hjl', hb1, hbb]
   · rw [List.getElem?_map] at hr
     obtain ⟨b, hb1, rfl⟩ := Option.map_eq_some_iff.1 hr
     have hu : u = 0 := by
      have := (List.getElem?_eq_some_iff.1 hx).1
      simp [Cy] at this
      exact this
     subst hu
     simp only [Cy, List.getElem?_cons_zero, Option.some.injEq] at hx
     subst hx
     simp only [hb1, Option.getD_some]
     exact .i _ _
theorem Vj {T E : TypeId} {parts : Array (Nat × Operand)} {len : Nat} (ns : List Int) {z : Value} {eb : Nat} (hp : parts = (((ns.map fun n => Operand.const (.int .i64 n)).zipIdx).map fun p => (p.2, p.1)).toArray) (hl : len = ns.length) (hT : k.P.underlying T = some (.slice E)) (he : El k.P E z 1 eb) (hb : Nat.ble (ns.length * eb) 1000000 = true) (hc : Nat.ble ns.length 1000000 = true)
 (hd : Nat.blt d k.n = true) (hj : JL k ops l Q ((d, .d (.l 1 eb (ns.map fun n => [.i .i64 n]))) :: ρ) h) : JL k ops (⟨some d, .buildSlice T len parts, ty, pos, after, none⟩ :: l) Q ρ h := by
 refine Bp (xs := ns.map fun n => Operand.const (.int .i64 n)) (rows := ns.map fun n => [.i .i64 n]) hT he (by decide) hp (by simpa using hl) ?_ ?_ ?_ ?_ ?_ (fun t ht => by cases ht; exact blt hd) hj
 · rw [List.map_map, List.map_map]
   apply List.map_congr_left
   intro n _
   rfl
 · intro o ho
   obtain ⟨n, _, rfl⟩ := List.mem_map.1 ho
   rfl
 · intro r hr
   obtain ⟨n, _, rfl⟩ := List.mem_map.1 hr
   rfl
 · rw [List.length_map]
   exact Nat.le_trans (Nat.le_of_ble_eq_true hb) (by decide)
 · rw [List.length_map, Nat.mul_one]
   exact Nat.le_trans (Nat.le_of_ble_eq_true hc) (by decide)
end
section
variable {P : Program} {G : List (Nat × List D)} {ρ : Env} {h : H} {dst : Option Tmp} {ty : TypeId} {pos : String} {after : Array Edge} {g : Option (Nat × Bool)}
theorem GU {T : TypeId} {x : Operand} {s : ByteArray} (hx : evO ρ x = some (.val (.string s))) (hT : P.underlying T = some .string) : Pure P G ⟨dst, .call { callee := .builtin .len, args := #[x], argTypes := #[T] }, ty, pos, after, g⟩ ρ h (.int (s.data.toList.length : Nat)) := by
 have := KS (P := P) (G := G) (h := h) (dst := dst) (ty := ty) (pos := pos) (after := after) (g := g) hT (AA hx)
 rwa [show s.size = s.data.toList.length by rw [Array.length_toList]; rfl] at this
end
end Go.Av
namespace Go.Sp
open Go Go.Av

inductive bA (nx : Nat → List Nat) (fr : List Nat) (ins : Nat → Bool) : Nat → Prop where
 | base {k : Nat} (h : k ∈ fr) : bA nx fr ins k
 | step {j k : Nat} (h : bA nx fr ins j) (e : k ∈ nx j) (hi : ins k = true) : bA nx fr ins k
def IV (nx : Nat → List Nat) (ins : Nat → Bool) : List Nat → Prop
 | [] => True
 | [_] => True
 | a :: b :: l => (b ∈ nx a ∧ ins b = true) ∧ IV nx ins (b :: l)
structure dx (nx : Nat → List Nat) (n : Nat) (fr : List Nat) (ins wnt : Nat → Bool) (l : List Nat) : Prop where
 ne : l ≠ []
 head : ∀ a, l.head? = some a → a ∈ fr
 chain : IV nx ins l
 last : ∀ a, l.getLast? = some a → wnt a = true
 lt : ∀ a ∈ l, a < n
def fM (nx : Nat → List Nat) (n : Nat) (fr : List Nat) (ins wnt : Nat → Bool) (l : List Nat) : Prop :=
 dx nx n fr ins wnt l ∨ (l = [] ∧ ∀ v, bA nx fr ins v → wnt v = false)
structure WI (nx : Nat → List Nat) (n : Nat) (fr : List Nat) (ins : Nat → Bool) (ps : List (Int × Int)) : Prop where
 nodup : (ps.map (·.1)).Nodup
 key : ∀ (j : Nat) (h : j < ps.length), ∃ k : Nat, ps[j].1 = k ∧ k < n ∧ ((ps[j].2 = -1 ∧ k ∈ fr) ∨ ∃ (i : Nat) (hi : i < j) (p : Nat), (ps[i]'(Nat.lt_trans hi h)).1 = p ∧ ps[j].2 = p ∧ k ∈ nx p ∧ ins k = true)
variable {nx : Nat → List Nat} {n : Nat} {fr : List Nat} {ins wnt : Nat → Bool} {ps : List (Int × Int)}
def isKey (ps : List (Int × Int)) (k : Nat) : Prop := getM ps (k : Int) ≠ none
structure WS (nx : Nat → List Nat) (n : Nat) (fr : List Nat) (ins wnt : Nat → Bool) (ps : List (Int × Int)) (td : List Int) (x : Option (Nat × Nat)) : Prop where
 wi : WI nx n fr ins ps
 first : ∀ k ∈ fr, isKey ps k
 todo : ∀ y ∈ td, ∃ k : Nat, y = k ∧ isKey ps k
 un : ∀ k, isKey ps k → wnt k = false
 cl : ∀ k, isKey ps k → (k : Int) ∉ td → (∀ m, x ≠ some (k, m)) → ∀ y ∈ nx k, ins y = true → isKey ps y
 part : ∀ k m, x = some (k, m) → isKey ps k ∧ ∀ y ∈ (nx k).take m, ins y = true → isKey ps y
theorem fM.one {k : Nat} (h : k ∈ fr) (hk : k < n) (hw : wnt k = true) : fM nx n fr ins wnt [k] :=
 .inl ⟨by simp, fun a ha => by simp at ha; subst ha; exact h, trivial, fun a ha => by simp at ha; subst ha; exact hw, fun a ha => by rw [List.mem_singleton.1 ha]; exact hk⟩

noncomputable def insP (g : Gn) (h k : Nat) : Bool := decide (ni (EP g) k = h)
structure LasI (g : Gn) (h b : Nat) (l : List Nat) (met : Nat) : Prop where
 head : l.head? = some h
 chain : IV g.nx (insP g h) l
 ins : ∀ a ∈ l, a < g.spots.length ∧ ni (EP g) a = h
 bits : ∀ s, s < b → ∃ a ∈ l, (ni g.sets a).testBit s = true
 met : ∀ s, met.testBit s = true → ∃ a ∈ l, (ni g.sets a).testBit s = true
structure FitP (g : Gn) (stem loop : List Nat) : Prop where
 ne : loop ≠ []
 lt : ∀ a ∈ stem ++ loop, a < g.spots.length
 chain : ∀ a, loop.head? = some a → IV g.nx (fun _ => true) (stem ++ loop ++ [a])
 first : ∀ a, (stem ++ loop).head? = some a → a < g.init
 bits : ∀ s, s < g.many → ∃ a ∈ loop, (ni g.sets a).testBit s = true
open Go.Av

theorem Li {l : List Fo} {i : Nat} {w : Int} {e : Int} (hw : 1 ≤ w) (h : scan (l.drop i) w i = (e, 0)) : (AR l i).2 = 0 ∧ (AR l i).1 ≤ e := by
 by_cases h1 : w = 1
 · subst h1
   have he : AR l i = scan (l.drop i) 1 i := by unfold AR; rw [Int.toNat_natCast]
   rw [he, h]; exact ⟨rfl, Int.le_refl _⟩
 · have hw' : w = (w - 1) + 1 := by omega
   rw [hw', GF l i (w - 1) (by omega)] at h
   by_cases h2 : (AR l i).2 ≠ 0
   · rw [if_pos h2] at h; simp at h; exact absurd h.2 h2
   rw [if_neg h2] at h
   have hb := A7 l i (by simpa using h2)
   have := C4 (l.drop (AR l i).1.toNat) (w - 1) (AR l i).1 (by rw [h])
   rw [h] at this
   exact ⟨by simpa using h2, by dsimp only at this; omega⟩

theorem Ja (l : List Fo) : ∀ (m i : Nat) (w : Int) (e : Int), l.length ≤ i + m → 1 ≤ w → scan (l.drop i) w i = (e, 0) → ∀ k : Nat, i ≤ k → (k : Int) < e → (AR l k).2 = 0 ∧ (AR l k).1 ≤ e
 | 0, i, w, e, hm, hw, h, k, h1, h2 => by
   rw [List.drop_eq_nil_of_le (by omega)] at h; simp [scan] at h
 | m + 1, i, w, e, hm, hw, h, k, h1, h2 => by
   by_cases hk : k = i
   · subst hk; exact Li hw h
   by_cases hi : i < l.length
   · rw [List.drop_eq_getElem_cons hi, B2] at h
     have hp := D4 l[i].kind
     by_cases h3 : (partsOf l[i].kind).2 ≠ 0
     · rw [if_pos h3] at h; simp at h; exact absurd h.2 h3
     rw [if_neg h3] at h
     by_cases h4 : w + (partsOf l[i].kind).1 - 1 = 0
     · rw [if_pos h4] at h; simp at h; omega
     · rw [if_neg h4] at h
       exact Ja l m (i + 1) _ e (by omega) (by omega) h k (by omega) h2
   · rw [List.drop_eq_nil_of_le (by omega)] at h; simp [scan] at h


def FJ (k v props : Int) : Int := if k < 8 then 13 else if (k = 13 ∧ (v < 0 ∨ props ≤ v)) ∨ (k ≠ 13 ∧ v ≠ 0) then 2 else 0
abbrev Ar (k : Int) : Prop := 14 ≤ k ∧ k ≤ 18
def Hb : List Fo → Int → Nat → Int
 | [], _, n => if 6 < n then 1 else 0
 | o :: r, props, n => if FJ o.kind o.val props ≠ 0 then FJ o.kind o.val props else Hb r props (if Ar o.kind then n + 1 else n)
def DT (l : List Fo) (props : Int) : Int := if props < 0 ∨ 6 < props then 2 else if (Aw l).2 ≠ 0 then (Aw l).2 else Hb l props 0
theorem RP (l : List Fo) (i : Nat) (hi : i < l.length) (props : Int) (n : Nat) : Hb (l.drop i) props n = if FJ l[i].kind l[i].val props ≠ 0 then FJ l[i].kind l[i].val props else Hb (l.drop (i + 1)) props (if Ar l[i].kind then n + 1 else n) := by
 rw [List.drop_eq_getElem_cons hi]; rfl
theorem NM (l : List Fo) (i : Nat) (hi : l.length ≤ i) (props : Int) (n : Nat) : Hb (l.drop i) props n = if 6 < n then 1 else 0 := by
 rw [List.drop_eq_nil_of_le hi]; rfl
def DU : List Fo → Nat → List Int
 | [], _ => []
 | o :: r, i => if Ar o.kind then (i : Int) :: DU r (i + 1) else DU r (i + 1)
def Ai (l : List Fo) (props : Int) : List Int × Int := if DT l props ≠ 0 then ([], DT l props) else (DU l 0, 0)
theorem Nr (l : List Fo) (i : Nat) (hi : i < l.length) : DU (l.drop i) i = if Ar l[i].kind then (i : Int) :: DU (l.drop (i + 1)) (i + 1) else DU (l.drop (i + 1)) (i + 1) := by
 rw [List.drop_eq_getElem_cons hi]; rfl
theorem LK (l : List Fo) (i : Nat) (hi : l.length ≤ i) : DU (l.drop i) i = [] := by
 rw [List.drop_eq_nil_of_le hi]; rfl
end Go.Sp
