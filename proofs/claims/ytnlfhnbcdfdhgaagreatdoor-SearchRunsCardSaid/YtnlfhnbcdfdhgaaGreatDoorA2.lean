/- Own texts. -/
import Derived.Test.YtnlfhnbcdfdhgaaGreatDoorA1
set_option linter.unusedVariables false
set_option linter.unusedSimpArgs false
set_option maxRecDepth 100000
set_option maxHeartbeats 4000000
namespace Go.Sp
open Go.Av
def BP (l : List Int) : List D := [AJ l]
abbrev AX (l : List (List Int)) : D := .l 1 24 (l.map BP)
def Gj (n : Nat) : List D := [.i .i64 (n : Int)]
abbrev BA (l : List Nat) : D := .l 1 8 (l.map Gj)
def Kf (l : List Nat) : List D := [BA l]
abbrev Bp (l : List (List Nat)) : D := .l 1 24 (l.map Kf)
structure Gr where
 spots : List Fo
 init : Int
 next : List (List Int)
 sets : List Int
 many : Int
def ES (g : Gr) : Prop := g.spots.length ≤ 20000 ∧ g.next.length = g.spots.length ∧ g.sets.length = g.spots.length ∧ 0 ≤ g.init ∧ g.init ≤ g.spots.length ∧ 0 ≤ g.many ∧ g.many ≤ 6
def WJ (g : Gr) (i : Nat) : Prop := (∀ (h : i < g.next.length), ∀ k ∈ g.next[i], 0 ≤ k ∧ k < g.spots.length) ∧ ∀ (h : i < g.sets.length), 0 ≤ g.sets[i] ∧ g.sets[i] < 2 ^ g.many.toNat
def okG (g : Gr) : Prop := ES g ∧ ∀ i, i < g.spots.length → WJ g i
noncomputable instance (g : Gr) : Decidable (okG g) := Classical.propDecidable _
noncomputable def Hg (g : Gr) : Int := if okG g then 0 else 9
structure Gn where
 spots : List Fo
 init : Nat
 next : List (List Nat)
 sets : List Nat
 many : Nat
def Gn.gr (g : Gn) : Gr := ⟨g.spots, g.init, g.next.map (·.map fun k : Nat => (k : Int)), g.sets.map fun k : Nat => (k : Int), g.many⟩
structure Gn.ok (g : Gn) : Prop where
 size : g.spots.length ≤ 20000
 next : g.next.length = g.spots.length
 sets : g.sets.length = g.spots.length
 init : g.init ≤ g.spots.length
 many : g.many ≤ 6
 to : ∀ (i : Nat) (h : i < g.next.length), ∀ k ∈ g.next[i], k < g.spots.length
 bits : ∀ (i : Nat) (h : i < g.sets.length), g.sets[i] < 2 ^ g.many
theorem KQ (l : List Nat) : BA l = AJ (l.map fun k : Nat => (k : Int)) := by
 unfold BA AJ; rw [List.map_map]; rfl
theorem Z1 (l : List (List Nat)) : Bp l = AX (l.map (·.map fun k : Nat => (k : Int))) := by
 unfold Bp AX
 rw [List.map_map]
 congr 1
 refine List.map_congr_left fun x _ => ?_
 simp only [Kf, BP, Function.comp, KQ]
theorem S0 {l : List Int} (h : ∀ k ∈ l, 0 ≤ k) : (l.map Int.toNat).map (fun k : Nat => (k : Int)) = l := by
 rw [List.map_map]
 conv => rhs; rw [← List.map_id l]
 refine List.map_congr_left fun k hk => ?_
 have := h k hk
 simp only [Function.comp, id]
 omega
theorem GZ {g : Gr} (h : okG g) : ∃ gn : Gn, gn.gr = g ∧ gn.ok := by
 obtain ⟨⟨h1, h2, h3, h4, h5, h6, h7⟩, h8⟩ := h
 refine ⟨⟨g.spots, g.init.toNat, g.next.map (·.map Int.toNat), g.sets.map Int.toNat, g.many.toNat⟩, ?_, ?_⟩
 · have e1 : (g.next.map (·.map Int.toNat)).map (·.map fun k : Nat => (k : Int)) = g.next := by
    rw [List.map_map]
    conv => rhs; rw [← List.map_id g.next]
    refine List.map_congr_left fun l hl => ?_
    obtain ⟨i, hi, rfl⟩ := List.getElem_of_mem hl
    exact S0 fun k hk => ((h8 i jB).1 hi k hk).1
   have e2 : (g.sets.map Int.toNat).map (fun k : Nat => (k : Int)) = g.sets := S0 fun k hk => by
    obtain ⟨i, hi, rfl⟩ := List.getElem_of_mem hk
    exact ((h8 i jB).2 hi).1
   unfold Gn.gr
   dsimp only
   rw [e1, e2, Int.toNat_of_nonneg h4, Int.toNat_of_nonneg h6]
 · refine ⟨h1, by simpa using h2, by simpa using h3, jC, jC, fun i hi k hk => ?_, fun i hi => ?_⟩
   · simp only [List.length_map] at hi
     simp only [List.getElem_map, List.mem_map] at hk
     obtain ⟨a, ha, rfl⟩ := hk
     have := (h8 i jB).1 hi a ha
     dsimp only
     omega
   · simp only [List.length_map] at hi
     have := (h8 i jB).2 hi
     simp only [List.getElem_map]
     have e : ((2 ^ g.many.toNat : Nat) : Int) = 2 ^ g.many.toNat := by exact_mod_cast rfl
     omega
theorem Gn.ok_gr {g : Gn} (h : g.ok) : okG g.gr := by
 refine ⟨⟨h.size, by simpa [Gn.gr] using h.next, by simpa [Gn.gr] using h.sets, by simp [Gn.gr], by have := h.init; simp only [Gn.gr]; omega, by simp [Gn.gr], by have := h.many; simp only [Gn.gr]; omega⟩, fun i _ => ⟨fun hi k hk => ?_, fun hi => ?_⟩⟩
 · simp only [Gn.gr, List.length_map] at hi
   simp only [Gn.gr, List.getElem_map, List.mem_map] at hk
   obtain ⟨a, ha, rfl⟩ := hk
   have := h.to i hi a ha
   simp only [Gn.gr]
   omega
 · simp only [Gn.gr, List.length_map] at hi
   have := h.bits i hi
   simp only [Gn.gr, List.getElem_map, Int.toNat_natCast]
   exact ⟨by omega, by exact_mod_cast this⟩
def Gn.nx (g : Gn) (i : Nat) : List Nat := (g.next[i]?).getD []
theorem Gn.nx_get (g : Gn) (i : Nat) (h : i < g.next.length) : g.nx i = g.next[i] := by simp [Gn.nx, List.getElem?_eq_getElem h]
theorem Gn.nx_lt {g : Gn} (h : g.ok) (i : Nat) : ∀ k ∈ g.nx i, k < g.spots.length := by
 intro k hk
 by_cases hi : i < g.next.length
 · rw [g.nx_get i hi] at hk; exact h.to i hi k hk
 · simp [Gn.nx, List.getElem?_eq_none (by omega : g.next.length ≤ i)] at hk
inductive Rch (nx : Nat → List Nat) : Nat → Nat → Prop where
 | refl (i : Nat) : Rch nx i i
 | step {i j k : Nat} (h : Rch nx i j) (e : k ∈ nx j) : Rch nx i k
theorem Rch.trans {nx : Nat → List Nat} {i j k : Nat} (h : Rch nx i j) (h2 : Rch nx j k) : Rch nx i k := by
 induction h2 with
 | refl => exact h
 | step _ e ih => exact .step ih e
theorem Rch.one {nx : Nat → List Nat} {i j : Nat} (e : j ∈ nx i) : Rch nx i j := .step (.refl i) e
theorem Rch.closed {nx : Nat → List Nat} {S : Nat → Prop} (hS : ∀ i, S i → ∀ k ∈ nx i, S k) {i j : Nat} (h : Rch nx i j) (hi : S i) : S j := by
 induction h with
 | refl => exact hi
 | step _ e ih => exact hS _ ih _ e
def CZ (g : Gn) (i : Nat) : Prop := ∃ j, j < g.init ∧ Rch g.nx j i
noncomputable instance (g : Gn) (i : Nat) : Decidable (CZ g i) := Classical.propDecidable _
noncomputable def Bo (g : Gn) : List Bool := (List.range g.spots.length).map fun i => decide (CZ g i)
def gi (l : List Int) (i : Nat) : Int := (l[i]?).getD 0
theorem B0 (l : List Int) (i : Nat) (h : i < l.length) : gi l i = l[i] := by simp [gi, List.getElem?_eq_getElem h]
theorem Uu (l : List Int) (i : Nat) (h : l.length ≤ i) : gi l i = 0 := by simp [gi, List.getElem?_eq_none h]
theorem Bt (l : List Int) (i j : Nat) (v : Int) (h : i < l.length) : gi (l.set i v) j = if j = i then v else gi l j := by
 unfold gi
 by_cases e : j = i
 · subst e; rw [if_pos rfl, List.getElem?_set_self h]; rfl
 · rw [if_neg e, List.getElem?_set_ne (Ne.symm e)]
structure TS where
 order : List Int
 low : List Int
 part : List Int
 opn : List Nat
 calls : List (Nat × Nat)
 met : Nat
abbrev TS.F (s : TS) : List Nat := s.calls.map Prod.fst
def TS.enter (s : TS) (a : Nat) : TS := ⟨s.order.set a (s.met + 1), s.low.set a (s.met + 1), s.part, s.opn ++ [a], s.calls ++ [(a, 0)], s.met + 1⟩
def TS.low1 (s : TS) (a : Nat) : List Int :=
 match s.calls.dropLast.getLast? with
 | none => s.low
 | some p => s.low.set p.1 (min (gi s.low p.1) (gi s.low a))
def TS.pop (s : TS) (a : Nat) : TS := { s with low := s.low1 a, calls := s.calls.dropLast }
def leastOf (a : Nat) (C : List Nat) : Nat := C.foldl min a
def Bb (p : List Int) (C : List Nat) (m : Nat) : List Int := C.foldl (fun p k => p.set k m) p
def TS.leave (s : TS) (a : Nat) : TS :=
 if gi (s.low1 a) a ≠ gi s.order a then s.pop a
 else { s.pop a with part := Bb s.part (s.opn.drop (s.opn.idxOf a)) (Go.Sp.leastOf a (s.opn.drop (s.opn.idxOf a))), opn := s.opn.take (s.opn.idxOf a) }
def TS.next (s : TS) (a j : Nat) : TS := { s with calls := s.calls.dropLast ++ [(a, j + 1)] }
def TS.lower (s : TS) (a k : Nat) : TS := { s with low := s.low.set a (min (gi s.low a) (gi s.order k)) }
def TS.go (nx : Nat → List Nat) (s : TS) : TS :=
 match s.calls.getLast? with
 | none => s
 | some p =>
   if h : p.2 < (nx p.1).length then
    if gi s.order (nx p.1)[p.2] = 0 then (s.next p.1 p.2).enter (nx p.1)[p.2]
    else if gi s.part (nx p.1)[p.2] < 0 then (s.next p.1 p.2).lower p.1 (nx p.1)[p.2]
    else s.next p.1 p.2
   else s.leave p.1
def TS.done (nx : Nat → List Nat) (s : TS) (v w : Nat) : Prop := w ∈ nx v ∧ ∀ j, (v, j) ∈ s.calls → w ∈ (nx v).take j
def FO (nx : Nat → List Nat) (v : Nat) (m : Int) : Prop := ∃ k : Nat, m = k ∧ Rch nx v k ∧ Rch nx k v ∧ ∀ u, Rch nx v u → Rch nx u v → k ≤ u
structure B3 (nx : Nat → List Nat) (n : Nat) (x : Option Nat) (s : TS) : Prop where
 lo : s.order.length = n
 ll : s.low.length = n
 lp : s.part.length = n
 om : ∀ v, 0 ≤ gi s.order v ∧ gi s.order v ≤ s.met
 pw : s.opn.Pairwise (fun a b => gi s.order a < gi s.order b)
 mem : ∀ v, v ∈ s.opn ↔ gi s.order v ≠ 0 ∧ gi s.part v < 0
 fpw : s.F.Pairwise (fun a b => gi s.order a < gi s.order b)
 fin : ∀ c ∈ s.F, c ∈ s.opn
 fj : ∀ p ∈ s.calls, p.2 ≤ (nx p.1).length
 bot : s.opn.head? = s.F.head?
 vis : ∀ v w, gi s.order v ≠ 0 → s.done nx v w → gi s.order w ≠ 0 ∨ x = some w
 dsc : ∀ c ∈ s.F, ∀ v ∈ s.opn, gi s.order c ≤ gi s.order v → Rch nx c v
 cls : ∀ v, gi s.order v ≠ 0 → 0 ≤ gi s.part v → ∀ w ∈ nx v, gi s.order w ≠ 0 ∧ 0 ≤ gi s.part w
 prt : ∀ v, gi s.order v ≠ 0 → 0 ≤ gi s.part v → FO nx v (gi s.part v)
 lwr : ∀ v ∈ s.opn, ∃ w ∈ s.opn, gi s.order w = gi s.low v ∧ Rch nx v w
 lwf : ∀ v ∈ s.opn, gi s.low v ≤ gi s.order v ∧ (v ∉ s.F → gi s.low v < gi s.order v)
 anc : ∀ c ∈ s.F, ∀ v ∈ s.opn, gi s.order c ≤ gi s.order v → (∀ q ∈ s.F, gi s.order q ≤ gi s.order v → gi s.order q ≤ gi s.order c) →
  gi s.low c ≤ gi s.low v ∧ ∀ w, s.done nx v w → w ∈ s.opn → gi s.low c ≤ gi s.order w
 pn : ∀ v, v < n → gi s.order v = 0 → gi s.part v = -1
section
variable {nx : Nat → List Nat} {n : Nat} {x : Option Nat} {s : TS}
theorem fX {l : List Nat} {f : Nat → Int} (h : l.Pairwise (fun a b => f a < f b)) : ∀ a ∈ l, ∀ b ∈ l, f a = f b → a = b := by
 induction l with
 | nil => intro a ha; cases ha
 | cons y l ih =>
   rw [List.pairwise_cons] at h
   intro a ha b hb e
   rcases List.mem_cons.1 ha with e1 | ha' <;> rcases List.mem_cons.1 hb with e2 | hb'
   · rw [e1, e2]
   · have := h.1 b hb'; rw [e1] at e; omega
   · have := h.1 a ha'; rw [e2] at e; omega
   · exact ih h.2 a ha' b hb' e
theorem B3.inj (t : B3 nx n x s) {a b : Nat} (ha : a ∈ s.opn) (hb : b ∈ s.opn) (e : gi s.order a = gi s.order b) : a = b := fX t.pw a ha b hb e
theorem B3.lt (t : B3 nx n x s) {v : Nat} (h : gi s.order v ≠ 0) : v < n := by
 rcases Nat.lt_or_ge v n with h' | h'
 · exact h'
 · exact absurd (Uu s.order v (by rw [t.lo]; exact h')) h
theorem Fz {p : Nat × Nat} (h : s.calls.getLast? = some p) : s.calls = s.calls.dropLast ++ [p] := by
 obtain ⟨ys, e⟩ := List.getLast?_eq_some_iff.1 h
 rw [e]; simp
theorem Qv {p : Nat × Nat} (h : s.calls.getLast? = some p) : s.F = s.calls.dropLast.map Prod.fst ++ [p.1] := by
 have e := Fz h
 unfold TS.F
 conv => lhs; rw [e]
 simp
theorem HO {p : Nat × Nat} (h : s.calls.getLast? = some p) : p ∈ s.calls := by rw [Fz h]; simp
theorem B3.last_le (t : B3 nx n x s) {p : Nat × Nat} (h : s.calls.getLast? = some p) : ∀ c ∈ s.F, gi s.order c ≤ gi s.order p.1 := by
 intro c hc
 have hp := t.fpw
 rw [Qv h, List.pairwise_append] at hp
 rw [Qv h, List.mem_append] at hc
 rcases hc with hc | hc
 · have := hp.2.2 c hc p.1 (by simp); omega
 · rw [List.mem_singleton.1 hc]; exact Int.le_refl _
theorem B3.frame_uniq (t : B3 nx n x s) {a i j : Nat} (h1 : (a, i) ∈ s.calls) (h2 : (a, j) ∈ s.calls) : i = j := by
 have key : ∀ l : List (Nat × Nat), (l.map Prod.fst).Pairwise (fun a b => gi s.order a < gi s.order b) → (a, i) ∈ l → (a, j) ∈ l → i = j := by
  intro l
  induction l with
  | nil => intro _ h; cases h
  | cons y l ih =>
    intro hp h1 h2
    rw [List.map_cons, List.pairwise_cons] at hp
    rcases List.mem_cons.1 h1 with h1 | h1 <;> rcases List.mem_cons.1 h2 with h2 | h2
    · rw [← h1] at h2; cases h2; rfl
    · have := hp.1 a (List.mem_map.2 ⟨_, h2, rfl⟩); rw [← h1] at this; dsimp only at this; omega
    · have := hp.1 a (List.mem_map.2 ⟨_, h1, rfl⟩); rw [← h2] at this; dsimp only at this; omega
    · exact ih hp.2 h1 h2
 exact key _ t.fpw h1 h2
theorem Tz {p : Nat × Nat} (h : s.calls.getLast? = some p) : (s.next p.1 p.2).F = s.F := by
 rw [Qv h]; simp [TS.next, TS.F]
theorem JI (t : B3 nx n x s) {p : Nat × Nat} (h : s.calls.getLast? = some p) (hj : p.2 < (nx p.1).length) {v w : Nat} (hd : (s.next p.1 p.2).done nx v w) : s.done nx v w ∨ (v = p.1 ∧ w = (nx p.1)[p.2]) := by
 obtain ⟨hw, hd⟩ := hd
 have e := Fz h
 by_cases hv : v = p.1
 · subst hv
   have hk := hd (p.2 + 1) (by simp [TS.next])
   rw [jZ hj] at hk
   rcases List.mem_append.1 hk with hk | hk
   · refine .inl ⟨hw, fun j hj' => ?_⟩
     rw [t.frame_uniq hj' (HO h)]; exact hk
   · exact .inr ⟨rfl, by simpa using hk⟩
 · refine .inl ⟨hw, fun j hj' => hd j ?_⟩
   rw [e] at hj'
   rcases List.mem_append.1 hj' with hj' | hj'
   · simp [TS.next, hj']
   · rw [List.mem_singleton] at hj'; subst hj'; exact absurd rfl hv
theorem WL (t : B3 nx n x s) {p : Nat × Nat} (hj : p.2 < (nx p.1).length) : ∀ q ∈ (s.next p.1 p.2).calls, q.2 ≤ (nx q.1).length := by
 intro q hq
 simp only [TS.next, List.mem_append, List.mem_singleton] at hq
 rcases hq with hq | rfl
 · exact t.fj q (List.dropLast_subset _ hq)
 · exact hj
theorem B3.next (t : B3 nx n none s) {p : Nat × Nat} (h : s.calls.getLast? = some p) (hj : p.2 < (nx p.1).length) (y : Option Nat) (hk : gi s.order (nx p.1)[p.2] ≠ 0 ∨ y = some (nx p.1)[p.2]) (ho : ¬ (nx p.1)[p.2] ∈ s.opn) :
 B3 nx n y (s.next p.1 p.2) := by
 have eF := Tz (s := s) h
 refine { lo := t.lo, ll := t.ll, lp := t.lp, om := t.om, pw := t.pw, mem := t.mem, fpw := by rw [eF]; exact t.fpw, fin := by rw [eF]; exact t.fin, fj := WL t hj, bot := by rw [eF]; exact t.bot, vis := ?_, dsc := by rw [eF]; exact t.dsc, cls := t.cls, prt := t.prt, lwr := t.lwr, lwf := by rw [eF]; exact t.lwf, anc := ?_, pn := t.pn }
 · intro v w hv hd
   rcases JI t h hj hd with hd | ⟨rfl, rfl⟩
   · rcases t.vis v w hv hd with h1 | h1
     · exact .inl h1
     · cases h1
   · exact hk
 · rw [eF]
   intro c hc v hv h1 h2
   obtain ⟨q1, q2⟩ := t.anc c hc v hv h1 h2
   refine ⟨q1, fun w hd hw => ?_⟩
   rcases JI t h hj hd with hd | ⟨rfl, rfl⟩
   · exact q2 w hd hw
   · exact absurd hw ho
theorem B3.lower (t : B3 nx n none s) {p : Nat × Nat} (h : s.calls.getLast? = some p) (hj : p.2 < (nx p.1).length) (hk : (nx p.1)[p.2] ∈ s.opn) :
 B3 nx n none ((s.next p.1 p.2).lower p.1 (nx p.1)[p.2]) := by
 have eF : ((s.next p.1 p.2).lower p.1 (nx p.1)[p.2]).F = s.F := Tz (s := s) h
 have hpF : p.1 ∈ s.F := List.mem_map.2 ⟨p, HO h, rfl⟩
 have hpo := t.fin _ hpF
 have hlt : p.1 < s.low.length := by rw [t.ll]; exact t.lt ((t.mem _).1 hpo).1
 have el : ∀ v, gi ((s.next p.1 p.2).lower p.1 (nx p.1)[p.2]).low v = if v = p.1 then min (gi s.low p.1) (gi s.order (nx p.1)[p.2]) else gi s.low v := fun v => Bt _ _ _ _ hlt
 have hle : ∀ v, gi ((s.next p.1 p.2).lower p.1 (nx p.1)[p.2]).low v ≤ gi s.low v := fun v => by
  rw [el]; split
  · rename_i e; rw [e]; omega
  · exact Int.le_refl _
 refine { lo := t.lo, ll := by simp [TS.lower, TS.next, t.ll], lp := t.lp, om := t.om, pw := t.pw, mem := t.mem, fpw := by rw [eF]; exact t.fpw, fin := by rw [eF]; exact t.fin, fj := WL t hj, bot := by rw [eF]; exact t.bot, vis := ?_, dsc := by rw [eF]; exact t.dsc, cls := t.cls, prt := t.prt, lwr := ?_, lwf := ?_, anc := ?_, pn := t.pn }
 · intro v w hv hd
   rcases JI t h hj hd with hd | ⟨rfl, rfl⟩
   · exact t.vis v w hv hd
   · exact .inl ((t.mem _).1 hk).1
 · intro v hv
   show ∃ w ∈ s.opn, gi s.order w = _ ∧ _
   rw [el]
   by_cases e : v = p.1
   · rw [if_pos e]
     by_cases hm : gi s.low p.1 ≤ gi s.order (nx p.1)[p.2]
     · rw [Int.min_eq_left hm, e]; exact t.lwr _ hpo
     · rw [Int.min_eq_right jB, e]; exact ⟨_, hk, rfl, Rch.one (jb _)⟩
   · rw [if_neg e]; exact t.lwr v hv
 · intro v hv
   rw [eF]
   have q := t.lwf v hv
   have q' := hle v
   exact ⟨Int.le_trans q' q.1, fun hf => Int.lt_of_le_of_lt q' (q.2 hf)⟩
 · rw [eF]
   intro c hc v hv h1 h2
   obtain ⟨q1, q2⟩ := t.anc c hc v hv h1 h2
   have hcv : v = p.1 → c = p.1 := fun e => by
    have := h2 p.1 hpF (by rw [e]; exact Int.le_refl _)
    rw [e] at h1
    exact t.inj (t.fin c hc) hpo (Int.le_antisymm h1 this)
   have q' := hle c
   refine ⟨?_, fun w hd hw => ?_⟩
   · by_cases e : v = p.1
     · rw [hcv e, e]; exact Int.le_refl _
     · rw [el v, if_neg e]; omega
   · rcases JI t h hj hd with hd | ⟨e, rfl⟩
     · have := q2 w hd hw
       show _ ≤ gi s.order w
       omega
     · rw [el c, if_pos (hcv e)]
       show _ ≤ gi s.order _
       omega
theorem B3.enter {k : Nat} (t : B3 nx n (some k) s) (hk : k < n) (h0 : gi s.order k = 0) (hr : ∀ c ∈ s.F, Rch nx c k) : B3 nx n none (s.enter k) := by
 have hko : k ∉ s.opn := fun h => ((t.mem k).1 h).1 h0
 have hkF : k ∉ s.F := fun h => hko (t.fin k h)
 have eo : ∀ v, gi (s.enter k).order v = if v = k then (s.met : Int) + 1 else gi s.order v := fun v => Bt _ _ _ _ (by rw [t.lo]; exact hk)
 have el : ∀ v, gi (s.enter k).low v = if v = k then (s.met : Int) + 1 else gi s.low v := fun v => Bt _ _ _ _ (by rw [t.ll]; exact hk)
 have eF : (s.enter k).F = s.F ++ [k] := by simp [TS.enter, TS.F]
 have eon : ∀ v, v ≠ k → gi (s.enter k).order v = gi s.order v := fun v h => by rw [eo, if_neg h]
 have eln : ∀ v, v ≠ k → gi (s.enter k).low v = gi s.low v := fun v h => by rw [el, if_neg h]
 have eok : gi (s.enter k).order k = (s.met : Int) + 1 := by rw [eo, if_pos rfl]
 have elk : gi (s.enter k).low k = (s.met : Int) + 1 := by rw [el, if_pos rfl]
 have hne : ∀ v ∈ s.opn, v ≠ k := fun v hv e => hko (e ▸ hv)
 have hop : ∀ v, v ∈ (s.enter k).opn ↔ v ∈ s.opn ∨ v = k := fun v => by simp [TS.enter]
 have hF : ∀ v, v ∈ (s.enter k).F ↔ v ∈ s.F ∨ v = k := fun v => by rw [eF]; simp
 have hd : ∀ v w, (s.enter k).done nx v w → v ≠ k ∧ s.done nx v w := fun v w ⟨h1, h2⟩ => by
  refine ⟨fun e => ?_, h1, fun j hj => h2 j (by simp [TS.enter, hj])⟩
  have := h2 0 (by simp [TS.enter, e])
  simp at this
 refine { lo := by simp [TS.enter, t.lo], ll := by simp [TS.enter, t.ll], lp := t.lp, om := ?_, pw := ?_, mem := ?_, fpw := ?_, fin := ?_, fj := ?_, bot := ?_, vis := ?_, dsc := ?_, cls := ?_, prt := ?_, lwr := ?_, lwf := ?_, anc := ?_, pn := ?_ }
 · intro v
   show 0 ≤ _ ∧ _ ≤ ((s.met + 1 : Nat) : Int)
   have := t.om v
   rw [eo]; split <;> omega
 · show (s.opn ++ [k]).Pairwise _
   rw [List.pairwise_append]
   refine ⟨?_, by simp, fun a ha b hb => ?_⟩
   · refine List.Pairwise.imp_of_mem (fun {a b} ha hb hab => ?_) t.pw
     rw [eon a (hne a ha), eon b (hne b hb)]; exact hab
   · rw [List.mem_singleton.1 hb, eok, eon a (hne a ha)]
     have := t.om a
     omega
 · intro v
   rw [hop]
   by_cases e : v = k
   · subst e
     have := t.pn v hk h0
     rw [eok]
     refine ⟨fun _ => ⟨by omega, by show gi s.part v < 0; omega⟩, fun _ => .inr rfl⟩
   · rw [eon v e]
     show _ ↔ _ ∧ gi s.part v < 0
     rw [← t.mem v]
     simp [e]
 · rw [eF, List.pairwise_append]
   refine ⟨?_, by simp, fun a ha b hb => ?_⟩
   · refine List.Pairwise.imp_of_mem (fun {a b} ha hb hab => ?_) t.fpw
     rw [eon a (hne a (t.fin a ha)), eon b (hne b (t.fin b hb))]; exact hab
   · rw [List.mem_singleton.1 hb, eok, eon a (hne a (t.fin a ha))]
     have := t.om a
     omega
 · intro c hc
   rw [hop]
   rcases (hF c).1 hc with hc | hc
   · exact .inl (t.fin c hc)
   · exact .inr hc
 · intro p hp
   simp only [TS.enter, List.mem_append, List.mem_singleton] at hp
   rcases hp with hp | rfl
   · exact t.fj p hp
   · exact Nat.zero_le _
 · rw [eF]
   show (s.opn ++ [k]).head? = _
   rw [List.head?_append, List.head?_append, t.bot]
 · intro v w hv hw
   obtain ⟨h1, h2⟩ := hd v w hw
   rw [eon v h1] at hv
   by_cases e : w = k
   · refine .inl ?_
     rw [e, eok]
     omega
   · rw [eon w e]
     rcases t.vis v w hv h2 with h3 | h3
     · exact .inl h3
     · exact absurd (by simpa using h3.symm) e
 · intro c hc v hv h1
   rcases (hop v).1 hv with hv' | ev
   · rcases (hF c).1 hc with hc' | ec
     · rw [eon v (hne v hv'), eon c (hne c (t.fin c hc'))] at h1
       exact t.dsc c hc' v hv' h1
     · rw [ec, eok, eon v (hne v hv')] at h1
       have := t.om v
       omega
   · rw [ev]
     rcases (hF c).1 hc with hc' | ec
     · exact hr c hc'
     · rw [ec]; exact .refl _
 · intro v hv hp w hw
   have hvk : v ≠ k := fun e => by have := t.pn k hk h0; rw [e] at hp; change 0 ≤ gi s.part k at hp; omega
   rw [eon v hvk] at hv
   obtain ⟨h1, h2⟩ := t.cls v hv hp w hw
   refine ⟨?_, h2⟩
   rw [eo]; split
   · omega
   · exact h1
 · intro v hv hp
   have hvk : v ≠ k := fun e => by have := t.pn k hk h0; rw [e] at hp; change 0 ≤ gi s.part k at hp; omega
   rw [eon v hvk] at hv
   exact t.prt v hv hp
 · intro v hv
   rcases (hop v).1 hv with hv | rfl
   · obtain ⟨w, h1, h2, h3⟩ := t.lwr v hv
     exact ⟨w, (hop w).2 (.inl h1), by rw [eon w (hne w h1), eln v (hne v hv)]; exact h2, h3⟩
   · exact ⟨v, hv, by rw [eok, elk], .refl _⟩
 · intro v hv
   rcases (hop v).1 hv with hv | rfl
   · have q := t.lwf v hv
     rw [eon v (hne v hv), eln v (hne v hv)]
     exact ⟨q.1, fun hf => q.2 fun h => hf ((hF v).2 (.inl h))⟩
   · rw [eok, elk]
     exact ⟨Int.le_refl _, fun hf => absurd ((hF v).2 (.inr rfl)) hf⟩
 · intro c hc v hv h1 h2
   rcases (hop v).1 hv with hv' | ev
   · rcases (hF c).1 hc with hc' | ec
     · have hck := hne c (t.fin c hc')
       rw [eon v (hne v hv'), eon c hck] at h1
       obtain ⟨q1, q2⟩ := t.anc c hc' v hv' h1 fun q hq hle => by
        have := h2 q ((hF q).2 (.inl hq)) (by rw [eon q (hne q (t.fin q hq)), eon v (hne v hv')]; exact hle)
        rwa [eon q (hne q (t.fin q hq)), eon c hck] at this
       rw [eln c hck, eln v (hne v hv')]
       refine ⟨q1, fun w hw hwo => ?_⟩
       rcases (hop w).1 hwo with hwo' | ew
       · rw [eon w (hne w hwo')]; exact q2 w (hd v w hw).2 hwo'
       · rw [ew, eok]
         have a1 := (t.lwf c (t.fin c hc')).1
         have a2 := t.om c
         omega
     · rw [ec, eok, eon v (hne v hv')] at h1
       have := t.om v
       omega
   · have hck : c = v := by
      have a1 := h2 v ((hF v).2 (.inr ev)) (Int.le_refl _)
      rcases (hF c).1 hc with hc' | ec
      · rw [ev, eok, eon c (hne c (t.fin c hc'))] at a1
        have := t.om c
        omega
      · rw [ec, ev]
     rw [hck]
     exact ⟨Int.le_refl _, fun w hw _ => absurd ev (hd v w hw).1⟩
 · intro v hv hv0
   by_cases e : v = k
   · rw [e, eok] at hv0; omega
   · rw [eon v e] at hv0; exact t.pn v hv hv0
end
section
variable {nx : Nat → List Nat} {n : Nat} {x : Option Nat} {s : TS}
theorem leastOf_spec (a : Nat) : ∀ (C : List Nat), (leastOf a C = a ∨ leastOf a C ∈ C) ∧ leastOf a C ≤ a ∧ ∀ v ∈ C, leastOf a C ≤ v := by
 intro C
 induction C generalizing a with
 | nil => exact ⟨.inl rfl, Nat.le_refl _, fun v h => by cases h⟩
 | cons y C ih =>
   obtain ⟨h1, h2, h3⟩ := ih (min a y)
   have e : leastOf a (y :: C) = leastOf (min a y) C := rfl
   rw [e]
   refine ⟨?_, by omega, fun v hv => ?_⟩
   · rcases h1 with h1 | h1
     · rw [h1]
       by_cases hm : a ≤ y
       · left; omega
       · right; rw [Nat.min_eq_right jB]; exact List.mem_cons_self
     · exact .inr (List.mem_cons_of_mem _ h1)
   · rcases List.mem_cons.1 hv with rfl | hv
     · omega
     · exact h3 v hv
theorem EL (m : Nat) : ∀ (C : List Nat) (p : List Int), (Bb p C m).length = p.length
 | [], _ => rfl
 | k :: C, p => by
   have e : Bb p (k :: C) m = Bb (p.set k m) C m := rfl
   rw [e, EL m C]; simp
theorem Lh (m : Nat) (v : Nat) : ∀ (C : List Nat) (p : List Int), (∀ k ∈ C, k < p.length) → gi (Bb p C m) v = if v ∈ C then (m : Int) else gi p v
 | [], p, _ => by simp [Bb]
 | k :: C, p, h => by
   have e : Bb p (k :: C) m = Bb (p.set k m) C m := rfl
   rw [e, Lh m v C _ (fun j hj => by rw [List.length_set]; exact h j (List.mem_cons_of_mem _ hj)), Bt _ _ _ _ (h k List.mem_cons_self)]
   by_cases h1 : v ∈ C
   · rw [if_pos h1, if_pos (List.mem_cons_of_mem _ h1)]
   · rw [if_neg h1]
     by_cases h2 : v = k
     · rw [if_pos h2, if_pos (by rw [h2]; exact List.mem_cons_self)]
     · rw [if_neg h2, if_neg (by simp [h1, h2])]
theorem HY (a : Nat) (h : s.calls.dropLast = []) : s.low1 a = s.low := by simp [TS.low1, h]
theorem LC (a : Nat) {p : Nat × Nat} (h : s.calls.dropLast.getLast? = some p) : s.low1 a = s.low.set p.1 (min (gi s.low p.1) (gi s.low a)) := by simp [TS.low1, h]
structure AtEnd (nx : Nat → List Nat) (n : Nat) (s : TS) (a : Nat) : Prop where
 inv : B3 nx n none s
 last : ∃ p, s.calls.getLast? = some p ∧ p.1 = a ∧ p.2 = (nx a).length
namespace AtEnd
variable {a : Nat}
theorem aF (t : AtEnd nx n s a) : a ∈ s.F := by
 obtain ⟨p, h, e, _⟩ := t.last
 rw [← e]; exact List.mem_map.2 ⟨p, HO h, rfl⟩
theorem ao (t : AtEnd nx n s a) : a ∈ s.opn := t.inv.fin a t.aF
theorem an (t : AtEnd nx n s a) : a < n := t.inv.lt ((t.inv.mem a).1 t.ao).1
theorem eF (t : AtEnd nx n s a) : s.F = s.calls.dropLast.map Prod.fst ++ [a] := by
 obtain ⟨p, h, e, _⟩ := t.last
 rw [Qv h, e]
theorem last_le (t : AtEnd nx n s a) : ∀ c ∈ s.F, gi s.order c ≤ gi s.order a := by
 obtain ⟨p, h, e, _⟩ := t.last
 rw [← e]; exact t.inv.last_le h
theorem f0 (t : AtEnd nx n s a) {c : Nat} (hc : c ∈ s.calls.dropLast.map Prod.fst) : c ∈ s.F ∧ gi s.order c < gi s.order a := by
 have hp := t.inv.fpw
 rw [t.eF, List.pairwise_append] at hp
 exact ⟨by rw [t.eF]; exact List.mem_append.2 (.inl hc), hp.2.2 c hc a (by simp)⟩
theorem f0_iff (t : AtEnd nx n s a) {c : Nat} : c ∈ s.calls.dropLast.map Prod.fst ↔ c ∈ s.F ∧ c ≠ a := by
 refine ⟨fun h => ⟨(t.f0 h).1, fun e => ?_⟩, fun ⟨h, e⟩ => ?_⟩
 · have := (t.f0 h).2; rw [e] at this; omega
 · rw [t.eF] at h
   rcases List.mem_append.1 h with h | h
   · exact h
   · exact absurd (List.mem_singleton.1 h) e
theorem done_a (t : AtEnd nx n s a) {w : Nat} (hw : w ∈ nx a) : s.done nx a w := by
 obtain ⟨p, h, e, e2⟩ := t.last
 refine ⟨hw, fun j hj => ?_⟩
 have : j = p.2 := t.inv.frame_uniq hj (by rw [← e]; exact HO h)
 rw [this, e2, List.take_length]; exact hw
theorem pop_done (t : AtEnd nx n s a) {v w : Nat} (hd : (s.pop a).done nx v w) : s.done nx v w := by
 by_cases e : v = a
 · rw [e]; rw [e] at hd; exact t.done_a hd.1
 · refine ⟨hd.1, fun j hj => hd.2 j ?_⟩
   obtain ⟨p, h, e1, _⟩ := t.last
   rw [Fz h] at hj
   rcases List.mem_append.1 hj with hj | hj
   · exact hj
   · rw [List.mem_singleton] at hj; rw [← hj] at e1; exact absurd e1 e
theorem up (t : AtEnd nx n s a) {p : Nat × Nat} (h : s.calls.dropLast.getLast? = some p) : p.1 ∈ s.calls.dropLast.map Prod.fst ∧ ∀ c ∈ s.calls.dropLast.map Prod.fst, gi s.order c ≤ gi s.order p.1 := by
 obtain ⟨ys, hy⟩ := List.getLast?_eq_some_iff.1 h
 refine ⟨by rw [hy]; simp, fun c hc => ?_⟩
 have hp := t.inv.fpw
 rw [t.eF, List.pairwise_append, hy, List.map_append, List.pairwise_append] at hp
 rw [hy, List.map_append] at hc
 rcases List.mem_append.1 hc with hc | hc
 · have := hp.1.2.2 c hc p.1 (by simp); omega
 · simp at hc; rw [hc]; exact Int.le_refl _
theorem low1_get (t : AtEnd nx n s a) {p : Nat × Nat} (h : s.calls.dropLast.getLast? = some p) (v : Nat) : gi (s.low1 a) v = if v = p.1 then min (gi s.low p.1) (gi s.low a) else gi s.low v := by
 rw [LC a h]
 refine Bt _ _ _ _ ?_
 rw [t.inv.ll]
 exact t.inv.lt ((t.inv.mem _).1 (t.inv.fin _ (t.f0 (t.up h).1).1)).1
theorem low1_le (t : AtEnd nx n s a) (v : Nat) : gi (s.low1 a) v ≤ gi s.low v := by
 cases h : s.calls.dropLast.getLast? with
 | none => rw [HY a (List.getLast?_eq_none_iff.1 h)]; exact Int.le_refl _
 | some p =>
   rw [t.low1_get h]; split
   · rename_i e; rw [e]; omega
   · exact Int.le_refl _
theorem low1_a (t : AtEnd nx n s a) : gi (s.low1 a) a = gi s.low a := by
 cases h : s.calls.dropLast.getLast? with
 | none => rw [HY a (List.getLast?_eq_none_iff.1 h)]
 | some p =>
   rw [t.low1_get h, if_neg]
   intro e
   have := (t.f0 (t.up h).1).2
   rw [e] at this; omega
theorem low1_len (t : AtEnd nx n s a) : (s.low1 a).length = n := by
 cases h : s.calls.dropLast.getLast? with
 | none => rw [HY a (List.getLast?_eq_none_iff.1 h)]; exact t.inv.ll
 | some p => rw [LC a h]; simp [t.inv.ll]
theorem pop (t : AtEnd nx n s a) (hne : gi s.low a ≠ gi s.order a) : B3 nx n none (s.pop a) := by
 have i := t.inv
 have hF0 : s.calls.dropLast ≠ [] := by
  intro h0
  have e1 := t.eF
  rw [h0] at e1
  obtain ⟨w, hw, h1, _⟩ := i.lwr a t.ao
  have hb := i.bot
  rw [e1] at hb
  have := (i.lwf a t.ao).1
  have hle : gi s.order a ≤ gi s.order w := by
   cases ho : s.opn with
   | nil => rw [ho] at hw; cases hw
   | cons y l =>
     rw [ho] at hb
     simp at hb
     have hp := i.pw
     rw [ho, List.pairwise_cons] at hp
     rw [ho] at hw
     rcases List.mem_cons.1 hw with rfl | hw
     · rw [hb]; exact Int.le_refl _
     · have := hp.1 w hw; rw [hb] at this; omega
  omega
 obtain ⟨p, hp⟩ : ∃ p, s.calls.dropLast.getLast? = some p := by
  cases h : s.calls.dropLast.getLast? with
  | none => exact absurd (List.getLast?_eq_none_iff.1 h) hF0
  | some p => exact ⟨p, rfl⟩
 have hup := t.up hp
 have hupF := t.f0 hup.1
 have hpop : ∀ c, c ∈ (s.pop a).F ↔ c ∈ s.F ∧ c ≠ a := fun c => t.f0_iff
 have hdsc : Rch nx p.1 a := i.dsc p.1 hupF.1 a t.ao jB
 refine { lo := i.lo, ll := t.low1_len, lp := i.lp, om := i.om, pw := i.pw, mem := i.mem, fpw := ?_, fin := fun c hc => i.fin c ((hpop c).1 hc).1, fj := fun q hq => i.fj q (List.dropLast_subset _ hq), bot := ?_, vis := fun v w hv hd => i.vis v w hv (t.pop_done hd), dsc := fun c hc => i.dsc c ((hpop c).1 hc).1, cls := i.cls, prt := i.prt, lwr := ?_, lwf := ?_, anc := ?_, pn := i.pn }
 · have := i.fpw
   rw [t.eF, List.pairwise_append] at this
   exact this.1
 · show s.opn.head? = (s.calls.dropLast.map Prod.fst).head?
   rw [i.bot, t.eF, List.head?_append]
   cases h : s.calls.dropLast with
   | nil => exact absurd h hF0
   | cons y l => rfl
 · intro v hv
   show ∃ w ∈ s.opn, gi s.order w = gi (s.low1 a) v ∧ _
   rw [t.low1_get hp]
   by_cases e : v = p.1
   · rw [if_pos e]
     by_cases hm : gi s.low p.1 ≤ gi s.low a
     · rw [Int.min_eq_left hm, e]; exact i.lwr _ (i.fin _ hupF.1)
     · obtain ⟨w, h1, h2, h3⟩ := i.lwr a t.ao
       rw [Int.min_eq_right jB, e]
       exact ⟨w, h1, h2, hdsc.trans h3⟩
   · rw [if_neg e]; exact i.lwr v hv
 · intro v hv
   have q := i.lwf v hv
   have q' := t.low1_le v
   refine ⟨Int.le_trans q' q.1, fun hf => ?_⟩
   by_cases e : v = a
   · rw [e]
     have := (i.lwf a t.ao).1
     have h1 := t.low1_a
     show gi (s.low1 a) a < gi s.order a
     omega
   · exact Int.lt_of_le_of_lt q' (q.2 fun h => hf ((hpop v).2 ⟨h, e⟩))
 · intro c hc v hv h1 h2
   obtain ⟨hcF, hca⟩ := (hpop c).1 hc
   show gi (s.low1 a) c ≤ gi (s.low1 a) v ∧ ∀ w, _ → w ∈ s.opn → gi (s.low1 a) c ≤ gi s.order w
   by_cases hav : gi s.order a ≤ gi s.order v
   · have hcp : c = p.1 := by
      have q := h2 p.1 hup.1 (by show gi s.order p.1 ≤ gi s.order v; omega)
      exact i.inj (i.fin c hcF) (i.fin _ hupF.1) (Int.le_antisymm (hup.2 c (t.f0_iff.2 ⟨hcF, hca⟩)) q)
     obtain ⟨q1, q2⟩ := i.anc a t.aF v hv hav fun q hq _ => t.last_le q hq
     have hvp : v ≠ p.1 := fun e => by rw [e] at hav; omega
     have el : gi (s.low1 a) c ≤ gi s.low a := by rw [t.low1_get hp, if_pos hcp]; omega
     refine ⟨?_, fun w hd hw => ?_⟩
     · rw [t.low1_get hp v, if_neg hvp]; omega
     · have := q2 w (t.pop_done hd) hw; omega
   · obtain ⟨q1, q2⟩ := i.anc c hcF v hv h1 fun q hq hle => by
      by_cases e : q = a
      · rw [e] at hle; omega
      · exact h2 q ((hpop q).2 ⟨hq, e⟩) hle
     have el := t.low1_le c
     refine ⟨?_, fun w hd hw => ?_⟩
     · by_cases e : v = p.1
       · have hcv : c = p.1 := by
          have q := h2 p.1 hup.1 (by rw [← e]; exact Int.le_refl _)
          exact i.inj (i.fin c hcF) (i.fin _ hupF.1) (Int.le_antisymm (hup.2 c (t.f0_iff.2 ⟨hcF, hca⟩)) q)
         rw [hcv, e]; exact Int.le_refl _
       · rw [t.low1_get hp v, if_neg e]; omega
     · have := q2 w (t.pop_done hd) hw; omega
theorem split_at (t : AtEnd nx n s a) : ∃ A B, s.opn = A ++ a :: B ∧ a ∉ A ∧ s.opn.take (s.opn.idxOf a) = A ∧ s.opn.drop (s.opn.idxOf a) = a :: B := by
 obtain ⟨A, B, e, hA⟩ : ∃ A B, s.opn = A ++ a :: B ∧ a ∉ A := List.mem_iff_append.1 t.ao |> fun ⟨A, B, e⟩ => by
  refine ⟨A, B, e, fun hA => ?_⟩
  have hp := t.inv.pw
  rw [e, List.pairwise_append] at hp
  have := hp.2.2 a hA a (by simp)
  omega
 have hi : s.opn.idxOf a = A.length := by
  rw [e, List.idxOf_append, if_neg hA]; simp
 exact ⟨A, B, e, hA, by rw [hi, e, List.take_left], by rw [hi, e, List.drop_left]⟩
theorem leave (t : AtEnd nx n s a) (heq : gi s.low a = gi s.order a) : B3 nx n none { s.pop a with part := Bb s.part (s.opn.drop (s.opn.idxOf a)) (Go.Sp.leastOf a (s.opn.drop (s.opn.idxOf a))), opn := s.opn.take (s.opn.idxOf a) } := by
 have i := t.inv
 obtain ⟨A, B, e, hA, e1, e2⟩ := t.split_at
 rw [e1, e2]
 have hpw := i.pw
 rw [e, List.pairwise_append, List.pairwise_cons] at hpw
 have hAlt : ∀ v ∈ A, gi s.order v < gi s.order a := fun v hv => hpw.2.2 v hv a (by simp)
 have hClt : ∀ v ∈ a :: B, gi s.order a ≤ gi s.order v := fun v hv => by
  rcases List.mem_cons.1 hv with rfl | hv
  · exact Int.le_refl _
  · have := hpw.2.1.1 v hv; omega
 have hop : ∀ v, v ∈ s.opn ↔ v ∈ A ∨ v ∈ a :: B := fun v => by rw [e, List.mem_append]
 have hAC : ∀ v ∈ A, v ∉ a :: B := fun v h1 h2 => by have q1 := hAlt v h1; have q2 := hClt v h2; omega
 have hCn : ∀ k ∈ a :: B, k < s.part.length := fun k hk => by rw [i.lp]; exact i.lt ((i.mem k).1 ((hop k).2 (.inr hk))).1
 have hpop : ∀ c, c ∈ s.calls.dropLast.map Prod.fst ↔ c ∈ s.F ∧ c ≠ a := fun c => t.f0_iff
 -- low stands
 have NY : ∀ v, gi (s.low1 a) v = gi s.low v := fun v => by
  cases h : s.calls.dropLast.getLast? with
  | none => rw [HY a (List.getLast?_eq_none_iff.1 h)]
  | some p =>
    rw [t.low1_get h]; split
    · rename_i ev
      have q1 := (t.f0 (t.up h).1)
      have q2 := (i.lwf p.1 (i.fin _ q1.1)).1
      rw [ev, Int.min_eq_left jB]
    · rfl
 -- those that are open from a on
 have hanc : ∀ v ∈ a :: B, gi s.order a ≤ gi s.low v ∧ ∀ w, s.done nx v w → w ∈ s.opn → gi s.order a ≤ gi s.order w := fun v hv => by
  rw [← heq]
  exact i.anc a t.aF v ((hop v).2 (.inr hv)) (hClt v hv) fun q hq _ => t.last_le q hq
 have hCF : ∀ v ∈ a :: B, v ≠ a → v ∉ s.F := fun v hv hne hf => by
  have h1 := t.last_le v hf
  have h2 := hClt v hv
  exact hne (i.inj ((hop v).2 (.inr hv)) t.ao (Int.le_antisymm h1 h2))
 have hdone : ∀ v ∈ a :: B, ∀ w ∈ nx v, s.done nx v w := fun v hv w hw => by
  by_cases hva : v = a
  · rw [hva] at hw ⊢; exact t.done_a hw
  · exact ⟨hw, fun j hj => absurd (List.mem_map.2 ⟨_, hj, rfl⟩) (hCF v hv hva)⟩
 have hin : ∀ w, w ∈ s.opn → gi s.order a ≤ gi s.order w → w ∈ a :: B := fun w hw hle => by
  rcases (hop w).1 hw with h | h
  · have := hAlt w h; omega
  · exact h
 have hout : ∀ v ∈ a :: B, ∀ w ∈ nx v, w ∈ a :: B ∨ (gi s.order w ≠ 0 ∧ 0 ≤ gi s.part w) := fun v hv w hw => by
  have hd := hdone v hv w hw
  have hvis : gi s.order w ≠ 0 := by
   rcases i.vis v w ((i.mem v).1 ((hop v).2 (.inr hv))).1 hd with h | h
   · exact h
   · cases h
  by_cases hwo : w ∈ s.opn
  · exact .inl (hin w hwo ((hanc v hv).2 w hd hwo))
  · refine .inr ⟨hvis, ?_⟩
    have := mt (i.mem w).2 hwo
    by_cases hp : gi s.part w < 0
    · exact absurd ⟨hvis, hp⟩ this
    · omega
 have hback : ∀ (m : Nat) (v : Nat), v ∈ a :: B → (gi s.order v).toNat < m → Rch nx v a := by
  intro m
  induction m with
  | zero => intro v _ h; omega
  | succ m ih =>
    intro v hv hm
    by_cases hva : v = a
    · rw [hva]; exact .refl _
    obtain ⟨w, h1, h2, h3⟩ := i.lwr v ((hop v).2 (.inr hv))
    have h4 := (i.lwf v ((hop v).2 (.inr hv))).2 (hCF v hv hva)
    have h5 := (hanc v hv).1
    have h6 := i.om w
    have hw := hin w h1 jB
    exact h3.trans (ih w hw jB)
 have hto : ∀ v ∈ a :: B, Rch nx v a := fun v hv => hback _ v hv (Nat.lt_succ_self _)
 have hfro : ∀ v ∈ a :: B, Rch nx a v := fun v hv => i.dsc a t.aF v ((hop v).2 (.inr hv)) (hClt v hv)
 have hclosed : ∀ u, u ∈ a :: B ∨ (gi s.order u ≠ 0 ∧ 0 ≤ gi s.part u) → ∀ w ∈ nx u, w ∈ a :: B ∨ (gi s.order w ≠ 0 ∧ 0 ≤ gi s.part w) := fun u hu w hw => by
  rcases hu with hu | ⟨h1, h2⟩
  · exact hout u hu w hw
  · exact .inr (i.cls u h1 h2 w hw)
 have hcls2 : ∀ u, (gi s.order u ≠ 0 ∧ 0 ≤ gi s.part u) → ∀ w ∈ nx u, (gi s.order w ≠ 0 ∧ 0 ≤ gi s.part w) := fun u hu w hw => i.cls u hu.1 hu.2 w hw
 obtain ⟨g1, g2, g3⟩ := leastOf_spec a (a :: B)
 have hmC : Go.Sp.leastOf a (a :: B) ∈ a :: B := by
  rcases g1 with g1 | g1
  · rw [g1]; exact List.mem_cons_self
  · exact g1
 have hlst : ∀ v ∈ a :: B, FO nx v ((Go.Sp.leastOf a (a :: B) : Nat) : Int) := fun v hv => by
  refine ⟨_, rfl, (hto v hv).trans (hfro _ hmC), (hto _ hmC).trans (hfro v hv), fun u h1 h2 => ?_⟩
  rcases Rch.closed hclosed h1 (.inl hv) with h3 | h3
  · exact g3 u h3
  · have h4 := Rch.closed hcls2 h2 h3
    have h5 := ((i.mem v).1 ((hop v).2 (.inr hv))).2
    omega
 have ep : ∀ v, gi (Bb s.part (a :: B) (Go.Sp.leastOf a (a :: B))) v = if v ∈ a :: B then ((Go.Sp.leastOf a (a :: B) : Nat) : Int) else gi s.part v := fun v => Lh _ v _ _ hCn
 refine { lo := i.lo, ll := t.low1_len, lp := by rw [← i.lp]; exact EL _ _ _, om := i.om, pw := hpw.1, mem := ?_, fpw := ?_, fin := ?_, fj := fun q hq => i.fj q (List.dropLast_subset _ hq), bot := ?_, vis := fun v w hv hd => i.vis v w hv (t.pop_done hd), dsc := ?_, cls := ?_, prt := ?_, lwr := ?_, lwf := ?_, anc := ?_, pn := ?_ }
 · intro v
   show v ∈ A ↔ gi s.order v ≠ 0 ∧ gi (Bb _ _ _) v < 0
   rw [ep]
   by_cases hv : v ∈ a :: B
   · rw [if_pos hv]
     refine ⟨fun h => absurd hv (hAC v h), fun h => ?_⟩
     omega
   · rw [if_neg hv, ← i.mem v, hop v]
     simp [hv]
 · have := i.fpw
   rw [t.eF, List.pairwise_append] at this
   exact this.1
 · intro c hc
   have hc' := t.f0 hc
   rcases (hop c).1 (i.fin c hc'.1) with h | h
   · exact h
   · have := hClt c h; omega
 · show A.head? = (s.calls.dropLast.map Prod.fst).head?
   have hb := i.bot
   rw [t.eF, e, List.head?_append, List.head?_append] at hb
   cases hA' : A with
   | nil =>
     cases h0 : s.calls.dropLast.map Prod.fst with
     | nil => rfl
     | cons c l =>
       rw [hA', h0] at hb
       simp at hb
       have := (t.f0 (c := c) (by rw [h0]; exact List.mem_cons_self)).2
       rw [hb] at this; omega
   | cons y l =>
     cases h0 : s.calls.dropLast.map Prod.fst with
     | nil =>
       rw [hA', h0] at hb
       simp at hb
       exact absurd (by rw [hA', hb]; exact List.mem_cons_self) hA
     | cons c l' =>
       rw [hA', h0] at hb
       simpa using hb
 · intro c hc v hv h1
   exact i.dsc c (t.f0 hc).1 v ((hop v).2 (.inl hv)) h1
 · intro v hv hp w hw
   show gi s.order w ≠ 0 ∧ 0 ≤ gi (Bb _ _ _) w
   have hp' : 0 ≤ gi (Bb s.part (a :: B) (Go.Sp.leastOf a (a :: B))) v := hp
   have hcl : w ∈ a :: B ∨ (gi s.order w ≠ 0 ∧ 0 ≤ gi s.part w) := by
    by_cases hvC : v ∈ a :: B
    · exact hout v hvC w hw
    · rw [ep, if_neg hvC] at hp'
      exact .inr (i.cls v hv hp' w hw)
   rcases hcl with h | h
   · rw [ep, if_pos h]
     exact ⟨((i.mem w).1 ((hop w).2 (.inr h))).1, by omega⟩
   · refine ⟨h.1, ?_⟩
     rw [ep]; split
     · omega
     · exact h.2
 · intro v hv hp
   show FO nx v (gi (Bb _ _ _) v)
   have hp' : 0 ≤ gi (Bb s.part (a :: B) (Go.Sp.leastOf a (a :: B))) v := hp
   rw [ep] at hp' ⊢
   by_cases hvC : v ∈ a :: B
   · rw [if_pos hvC]; exact hlst v hvC
   · rw [if_neg hvC] at hp' ⊢
     exact i.prt v hv hp'
 · intro v hv
   obtain ⟨w, h1, h2, h3⟩ := i.lwr v ((hop v).2 (.inl hv))
   refine ⟨w, ?_, by show gi s.order w = gi (s.low1 a) v; rw [NY]; exact h2, h3⟩
   rcases (hop w).1 h1 with h | h
   · exact h
   · have q1 := hClt w h
     have q2 := (i.lwf v ((hop v).2 (.inl hv))).1
     have q3 := hAlt v hv
     omega
 · intro v hv
   show gi (s.low1 a) v ≤ gi s.order v ∧ (v ∉ s.calls.dropLast.map Prod.fst → gi (s.low1 a) v < gi s.order v)
   rw [NY]
   have q := i.lwf v ((hop v).2 (.inl hv))
   exact ⟨q.1, fun hf => q.2 fun h => hf ((hpop v).2 ⟨h, fun e => hA (e ▸ hv)⟩)⟩
 · intro c hc v hv h1 h2
   show gi (s.low1 a) c ≤ gi (s.low1 a) v ∧ ∀ w, _ → w ∈ A → gi (s.low1 a) c ≤ gi s.order w
   rw [NY, NY]
   obtain ⟨q1, q2⟩ := i.anc c (t.f0 hc).1 v ((hop v).2 (.inl hv)) h1 fun q hq hle => by
    by_cases eq : q = a
    · have q3 := hAlt v hv; rw [eq] at hle; omega
    · exact h2 q ((hpop q).2 ⟨hq, eq⟩) hle
   exact ⟨q1, fun w hd hw => q2 w (t.pop_done hd) ((hop w).2 (.inl hw))⟩
 · intro v hv h0
   show gi (Bb _ _ _) v = -1
   rw [ep, if_neg]
   · exact i.pn v hv h0
   · intro hC
     exact ((i.mem v).1 ((hop v).2 (.inr hC))).1 h0
end AtEnd
theorem B3.go (hn : ∀ i, ∀ k ∈ nx i, k < n) (t : B3 nx n none s) : B3 nx n none (s.go nx) := by
 unfold TS.go
 cases h : s.calls.getLast? with
 | none => exact t
 | some p =>
   dsimp only
   by_cases hj : p.2 < (nx p.1).length
   · rw [dif_pos hj]
     have hpF : p.1 ∈ s.F := List.mem_map.2 ⟨p, HO h, rfl⟩
     by_cases h0 : gi s.order (nx p.1)[p.2] = 0
     · rw [if_pos h0]
       refine B3.enter (t.next h hj _ (.inr rfl) fun ho => ((t.mem _).1 ho).1 h0) (hn p.1 _ (jb _)) h0 fun c hc => ?_
       rw [Tz h] at hc
       exact .step (t.dsc c hc p.1 (t.fin _ hpF) (t.last_le h c hc)) (jb _)
     · rw [if_neg h0]
       by_cases h1 : gi s.part (nx p.1)[p.2] < 0
       · rw [if_pos h1]; exact t.lower h hj ((t.mem _).2 ⟨h0, h1⟩)
       · rw [if_neg h1]; exact t.next h hj none (.inl h0) fun ho => h1 ((t.mem _).1 ho).2
   · rw [dif_neg hj]
     have ha : AtEnd nx n s p.1 := ⟨t, p, h, rfl, by have := t.fj p (HO h); omega⟩
     unfold TS.leave
     rw [ha.low1_a]
     by_cases he : gi s.low p.1 = gi s.order p.1
     · rw [if_neg (by simpa using he)]; exact ha.leave he
     · rw [if_pos he]; exact ha.pop he
def TS.init (n : Nat) : TS := ⟨List.replicate n 0, List.replicate n 0, List.replicate n (-1), [], [], 0⟩
theorem Hi (n i : Nat) : gi (List.replicate n 0) i = 0 := by
 unfold gi; rw [List.getElem?_replicate]; split <;> rfl
theorem B3.init (nx : Nat → List Nat) (n : Nat) : B3 nx n none (TS.init n) where
 lo := by simp [TS.init]
 ll := by simp [TS.init]
 lp := by simp [TS.init]
 om v := by simp [TS.init, Hi]
 pw := by simp [TS.init]
 mem v := by simp [TS.init, Hi]
 fpw := by simp [TS.init, TS.F]
 fin := by simp [TS.init, TS.F]
 fj := by simp [TS.init]
 bot := rfl
 vis v w h := absurd (Hi n v) h
 dsc := by simp [TS.init, TS.F]
 cls v h := absurd (Hi n v) h
 prt v h := absurd (Hi n v) h
 lwr := by simp [TS.init]
 lwf := by simp [TS.init]
 anc := by simp [TS.init, TS.F]
 pn v hv _ := by simp [TS.init, gi, List.getElem?_replicate, hv]
theorem B3.root {k : Nat} (t : B3 nx n none s) (hc : s.calls = []) (hk : k < n) (h0 : gi s.order k = 0) : B3 nx n none (s.enter k) := by
 refine B3.enter { t with vis := fun v w hv hd => .inl ?_ } hk h0 fun c hc' => ?_
 · rcases t.vis v w hv hd with h | h
   · exact h
   · cases h
 · simp [TS.F, hc] at hc'
theorem B3.calm (t : B3 nx n none s) (hc : s.calls = []) {v : Nat} (hv : gi s.order v ≠ 0) : FO nx v (gi s.part v) := by
 have ho : s.opn = [] := by
  have := t.bot
  rw [TS.F, hc] at this
  cases h : s.opn with
  | nil => rfl
  | cons _ _ => rw [h] at this; simp at this
 have hp : ¬ gi s.part v < 0 := fun h => by
  have := (t.mem v).2 ⟨hv, h⟩
  rw [ho] at this; cases this
 exact t.prt v hv jB
theorem SG (t : B3 nx n none s) {v : Nat} (hv : gi s.order v ≠ 0) : gi (s.go nx).order v ≠ 0 := by
 unfold TS.go
 cases h : s.calls.getLast? with
 | none => exact hv
 | some p =>
   dsimp only
   split
   · split
     · rename_i hj h0
       show gi (s.order.set _ _) v ≠ 0
       by_cases hk : (nx p.1)[p.2] < s.order.length
       · rw [Bt _ _ _ _ hk]
         split
         · show ((s.met : Int) + 1) ≠ 0; omega
         · exact hv
       · rw [List.set_eq_of_length_le jB]; exact hv
     · split <;> exact hv
   · unfold TS.leave
     split <;> exact hv
theorem QO {v : Nat} {m m' : Int} (h : FO nx v m) (h' : FO nx v m') : m = m' := by
 obtain ⟨k, rfl, a1, a2, a3⟩ := h
 obtain ⟨k', rfl, b1, b2, b3⟩ := h'
 have h1 := a3 k' b1 b2
 have h2 := b3 k a1 a2
 omega
end
open Go.Av
section
variable {nx : Nat → List Nat} {n : Nat} {x : Option Nat} {s : TS}
def Kn (n : Nat) (f : Nat → Nat) : Nat := ((List.range n).map f).sum
theorem HU (n : Nat) (f : Nat → Nat) : Kn (n + 1) f = Kn n f + f n := by simp [Kn, List.range_succ]
theorem PN {f g : Nat → Nat} : ∀ n, (∀ v, v < n → f v = g v) → Kn n f = Kn n g
 | 0, _ => rfl
 | n + 1, h => by rw [HU, HU, PN n (fun v hv => h v jB), h n jB]
theorem Mg {f g : Nat → Nat} {k : Nat} : ∀ n, k < n → (∀ v, v ≠ k → f v = g v) → Kn n f + g k = Kn n g + f k
 | 0, h, _ => by omega
 | n + 1, h, he => by
   rw [HU, HU]
   by_cases hk : k = n
   · rw [PN (g := g) n fun v hv => he v jB, hk]; omega
   · have := Mg n jB he
     rw [he n jB]
     omega
def wt (nx : Nat → List Nat) (p : Nat × Nat) : Nat := (nx p.1).length - p.2 + 1
def TS.mu (nx : Nat → List Nat) (n : Nat) (s : TS) : Nat := Kn n (fun v => if gi s.order v = 0 then (nx v).length + 2 else 0) + (s.calls.map (wt nx)).sum
theorem du (hn : ∀ i, ∀ k ∈ nx i, k < n) (t : B3 nx n none s) {p : Nat × Nat} (h : s.calls.getLast? = some p) : (s.go nx).mu nx n < s.mu nx n := by
 have e : (s.calls.map (wt nx)).sum = (s.calls.dropLast.map (wt nx)).sum + wt nx p := by
  conv => lhs; rw [Fz h]
  simp
 unfold TS.go
 rw [h]
 dsimp only
 by_cases hj : p.2 < (nx p.1).length
 · rw [dif_pos hj]
   have hw : wt nx (p.1, p.2 + 1) + 1 = wt nx p := by unfold wt; dsimp only; omega
   have hk := hn p.1 _ (jb hj)
   by_cases h0 : gi s.order (nx p.1)[p.2] = 0
   · rw [if_pos h0]
     have e2 : (((s.next p.1 p.2).enter (nx p.1)[p.2]).calls.map (wt nx)).sum = (s.calls.dropLast.map (wt nx)).sum + wt nx (p.1, p.2 + 1) + wt nx ((nx p.1)[p.2], 0) := by
      simp [TS.enter, TS.next, Nat.add_assoc]
     have hs := Mg (f := fun v => if gi ((s.next p.1 p.2).enter (nx p.1)[p.2]).order v = 0 then (nx v).length + 2 else 0) (g := fun v => if gi s.order v = 0 then (nx v).length + 2 else 0) (k := (nx p.1)[p.2]) n hk fun v hv => by
      have : gi ((s.next p.1 p.2).enter (nx p.1)[p.2]).order v = gi s.order v := by
       show gi (s.order.set _ _) v = _
       rw [Bt _ _ _ _ (by rw [t.lo]; exact hk), if_neg hv]
      rw [this]
     have e3 : gi ((s.next p.1 p.2).enter (nx p.1)[p.2]).order (nx p.1)[p.2] = (s.met : Int) + 1 := by
      show gi (s.order.set _ _) _ = _
      rw [Bt _ _ _ _ (by rw [t.lo]; exact hk), if_pos rfl]; rfl
     rw [e3, if_pos h0, if_neg jB] at hs
     unfold TS.mu
     rw [e2, e]
     have : wt nx ((nx p.1)[p.2], 0) = (nx (nx p.1)[p.2]).length + 1 := rfl
     omega
   · rw [if_neg h0]
     have e2 : ((s.next p.1 p.2).calls.map (wt nx)).sum = (s.calls.dropLast.map (wt nx)).sum + wt nx (p.1, p.2 + 1) := by simp [TS.next]
     have e3 : (((s.next p.1 p.2).lower p.1 (nx p.1)[p.2]).calls.map (wt nx)).sum = (s.calls.dropLast.map (wt nx)).sum + wt nx (p.1, p.2 + 1) := e2
     split
     · unfold TS.mu
       rw [e3, e]
       show Kn n (fun v => if gi s.order v = 0 then _ else 0) + _ < _
       omega
     · unfold TS.mu
       rw [e2, e]
       show Kn n (fun v => if gi s.order v = 0 then _ else 0) + _ < _
       omega
 · rw [dif_neg hj]
   unfold TS.leave
   have : 0 < wt nx p := by unfold wt; omega
   split
   · unfold TS.mu
     rw [e]
     show Kn n (fun v => if gi s.order v = 0 then _ else 0) + (s.calls.dropLast.map (wt nx)).sum < _
     omega
   · unfold TS.mu
     rw [e]
     show Kn n (fun v => if gi s.order v = 0 then _ else 0) + (s.calls.dropLast.map (wt nx)).sum < _
     omega
end
section
variable {nx : Nat → List Nat} {n : Nat} {s : TS}
theorem len_le : ∀ (n : Nat) (l : List Nat), l.Nodup → (∀ v ∈ l, v < n) → l.length ≤ n
 | 0, l, _, h => by
   cases l with
   | nil => exact Nat.le_refl _
   | cons v l => have := h v List.mem_cons_self; omega
 | n + 1, l, hd, h => by
   by_cases hn : n ∈ l
   · have h1 := List.length_erase_of_mem hn
     have h2 := len_le n (l.erase n) (hd.erase n) fun v hv => by
      have h3 := (hd.mem_erase_iff).1 hv
      have := h v h3.2
      have : v ≠ n := h3.1
      omega
     omega
   · have := len_le n l hd fun v hv => by
      have := h v hv
      have : v ≠ n := fun e => hn (e ▸ hv)
      omega
     omega
theorem NS {l : List Nat} {f : Nat → Int} (h : l.Pairwise (fun a b => f a < f b)) : l.Nodup :=
 List.Pairwise.imp (fun {a b} hab e => by rw [e] at hab; omega) h
def TS.un (n : Nat) (s : TS) : Nat := Kn n fun v => if gi s.order v = 0 then 1 else 0
theorem TO {k : Nat} (hl : s.order.length = n) (hk : k < n) (h0 : gi s.order k = 0) : (s.enter k).met + (s.enter k).un n = s.met + s.un n := by
 have hs := Mg (f := fun v => if gi (s.enter k).order v = 0 then 1 else 0) (g := fun v => if gi s.order v = 0 then 1 else 0) (k := k) n hk fun v hv => by
  have : gi (s.enter k).order v = gi s.order v := by
   show gi (s.order.set _ _) v = _
   rw [Bt _ _ _ _ (by rw [hl]; exact hk), if_neg hv]
  rw [this]
 have e3 : gi (s.enter k).order k = (s.met : Int) + 1 := by
  show gi (s.order.set _ _) _ = _
  rw [Bt _ _ _ _ (by rw [hl]; exact hk), if_pos rfl]
 rw [e3, if_pos h0, if_neg jB] at hs
 unfold TS.un
 show s.met + 1 + _ = _
 omega
theorem eQ (hn : ∀ i, ∀ k ∈ nx i, k < n) (hl : s.order.length = n) : (s.go nx).met + (s.go nx).un n = s.met + s.un n := by
 unfold TS.go
 cases h : s.calls.getLast? with
 | none => rfl
 | some p =>
   dsimp only
   split
   · rename_i hj
     split
     · rename_i h0
       exact TO (s := s.next p.1 p.2) hl (hn p.1 _ (jb hj)) h0
     · split <;> rfl
   · unfold TS.leave
     split <;> rfl
theorem B3.opn_len {x : Option Nat} (t : B3 nx n x s) : s.opn.length ≤ n := len_le n _ (NS t.pw) fun v hv => t.lt ((t.mem v).1 hv).1
theorem B3.calls_len {x : Option Nat} (t : B3 nx n x s) : s.calls.length ≤ n := by
 have := len_le n s.F (NS t.fpw) fun v hv => t.lt ((t.mem v).1 (t.fin v hv)).1
 simpa using this
theorem B3.idx {x : Option Nat} (t : B3 nx n x s) {a : Nat} (i : Nat) (hi : i < s.opn.length) (h : s.opn[i] = a) : i = s.opn.idxOf a := by
 subst h
 exact ((NS t.pw).idxOf_getElem i hi).symm
theorem cI (n : Nat) : (TS.init n).met + (TS.init n).un n ≤ n := by
 have : ∀ m, Kn m (fun v => if gi (TS.init n).order v = 0 then 1 else 0) = m := fun m => by
  induction m with
  | zero => rfl
  | succ m ih =>
    rw [HU, ih, if_pos (by simp [TS.init, Hi])]
 unfold TS.un
 rw [this]
 simp [TS.init]
end
theorem ZL {p : Nat → Prop} (m : Nat) (h : p m) : ∃ k, p k ∧ ∀ u, p u → k ≤ u := by
 induction m using Nat.strongRecOn with
 | _ m ih =>
   by_cases h' : ∃ j, j < m ∧ p j
   · obtain ⟨j, hj, hp⟩ := h'; exact ih j hj hp
   · exact ⟨m, h, fun u hu => by
      rcases Nat.lt_or_ge u m with h1 | h1
      · exact absurd ⟨u, h1, hu⟩ h'
      · exact h1⟩
theorem MT (nx : Nat → List Nat) (v : Nat) : ∃ m, FO nx v m := by
 obtain ⟨k, ⟨h1, h2⟩, h3⟩ := ZL (p := fun u => Rch nx v u ∧ Rch nx u v) v ⟨.refl v, .refl v⟩
 exact ⟨k, k, rfl, h1, h2, fun u a b => h3 u ⟨a, b⟩⟩
noncomputable def partOf (nx : Nat → List Nat) (v : Nat) : Int := Classical.choose (MT nx v)
theorem E0 (nx : Nat → List Nat) (v : Nat) : FO nx v (partOf nx v) := Classical.choose_spec (MT nx v)
theorem Ow {nx : Nat → List Nat} {v : Nat} {m : Int} (h : FO nx v m) : m = partOf nx v := QO h (E0 nx v)
noncomputable def Ft (g : Gn) : List Int := (List.range g.spots.length).map (partOf g.nx)
theorem Jm (g : Gn) : (Ft g).length = g.spots.length := by simp [Ft]
theorem MZ (g : Gn) (i : Nat) (h : i < (Ft g).length) : (Ft g)[i] = partOf g.nx i := by simp [Ft]
theorem Mo {nx : Nat → List Nat} {u v : Nat} : partOf nx u = partOf nx v ↔ Rch nx u v ∧ Rch nx v u := by
 obtain ⟨k, e, a1, a2, a3⟩ := E0 nx u
 obtain ⟨k', e', b1, b2, b3⟩ := E0 nx v
 constructor
 · intro h
   have : k = k' := by omega
   subst this
   exact ⟨a1.trans b2, b1.trans a2⟩
 · rintro ⟨h1, h2⟩
   exact (Ow (v := u) ⟨k', e', h1.trans b1, b2.trans h2, fun w c1 c2 => b3 w (h2.trans c1) (c2.trans h1)⟩).symm
theorem Dh {nx : Nat → List Nat} (v : Nat) : 0 ≤ partOf nx v ∧ partOf nx v ≤ v := by
 obtain ⟨k, e, a1, a2, a3⟩ := E0 nx v
 have := a3 v (.refl v) (.refl v)
 omega
def bi (l : List Bool) (i : Nat) : Bool := (l[i]?).getD false
theorem It (l : List Bool) (i : Nat) (h : i < l.length) : bi l i = l[i] := by simp [bi, List.getElem?_eq_getElem h]
theorem K5 (l : List Bool) (i j : Nat) (v : Bool) (h : i < l.length) : bi (l.set i v) j = if j = i then v else bi l j := by
 unfold bi
 by_cases e : j = i
 · subst e; rw [if_pos rfl, List.getElem?_set_self h]; rfl
 · rw [if_neg e, List.getElem?_set_ne (Ne.symm e)]
def IY : List Bool → Nat
 | [] => 0
 | b :: l => (if b then 0 else 1) + IY l
theorem My : ∀ (l : List Bool) (i : Nat) (h : i < l.length), l[i] = false → IY (l.set i true) + 1 = IY l
 | [], i, h, _ => by simp at h
 | b :: l, 0, _, h0 => by
   have : b = false := h0
   subst this
   simp [IY, Nat.add_comm]
 | b :: l, i + 1, h, h0 => by
   have ih := My l i (by simpa using h) (by simpa using h0)
   simp only [List.set_cons_succ, IY]
   omega
def CJ (p : List Bool × List Nat) (i : Nat) : List Bool × List Nat := if bi p.1 i then p else (p.1.set i true, p.2 ++ [i])
structure RI (g : Gn) (x : Option (Nat × Nat)) (k : Nat) (p : List Bool × List Nat) : Prop where
 len : p.1.length = g.spots.length
 todo : ∀ v ∈ p.2, v < g.spots.length ∧ bi p.1 v = true
 sound : ∀ v, bi p.1 v = true → CZ g v
 init : ∀ j, j < k → bi p.1 j = true
 cl : ∀ v, bi p.1 v = true → v ∉ p.2 → ∀ (m : Nat) (hm : m < (g.nx v).length), (∀ j, x = some (v, j) → m < j) → bi p.1 ((g.nx v)[m]) = true
def muR (p : List Bool × List Nat) : Nat := 2 * IY p.1 + p.2.length
theorem Rg {p : List Bool × List Nat} {i : Nat} (h : i < p.1.length) : muR (CJ p i) ≤ muR p := by
 unfold CJ
 split
 · exact Nat.le_refl _
 · rename_i hb
   have := My p.1 i h (by rw [It _ _ h] at hb; simpa using hb)
   simp only [muR, List.length_append, List.length_singleton]
   omega
theorem Gg {p : List Bool × List Nat} {i v : Nat} (h : i < p.1.length) (hv : bi p.1 v = true) : bi (CJ p i).1 v = true := by
 unfold CJ
 split
 · exact hv
 · rw [K5 _ _ _ _ h]; split
   · rfl
   · exact hv
theorem J7 {p : List Bool × List Nat} {i : Nat} (h : i < p.1.length) : bi (CJ p i).1 i = true := by
 unfold CJ
 split
 · assumption
 · rw [K5 _ _ _ _ h, if_pos rfl]
theorem Px (p : List Bool × List Nat) (i : Nat) : (CJ p i).1.length = p.1.length := by
 unfold CJ; split <;> simp
theorem RI.visit {g : Gn} {x : Option (Nat × Nat)} {k i : Nat} {p : List Bool × List Nat} (t : RI g x k p) (hi : i < g.spots.length) (hr : CZ g i) : RI g x k (CJ p i) := by
 have hil : i < p.1.length := by rw [t.len]; exact hi
 refine ⟨by rw [Px, t.len], fun v hv => ?_, fun v hv => ?_, fun j hj => Gg hil (t.init j hj), fun v hv hn m hm hx => ?_⟩
 · by_cases hb : bi p.1 i = true
   · rw [CJ, if_pos hb] at hv ⊢; exact t.todo v hv
   · have hv' : v ∈ p.2 ∨ v = i := by rw [CJ, if_neg hb] at hv; simpa using hv
     rcases hv' with h | h
     · exact ⟨(t.todo v h).1, Gg hil (t.todo v h).2⟩
     · rw [h]; exact ⟨hi, J7 hil⟩
 · by_cases e : v = i
   · rw [e]; exact hr
   · unfold CJ at hv
     split at hv
     · exact t.sound v hv
     · rw [K5 _ _ _ _ hil, if_neg e] at hv; exact t.sound v hv
 · by_cases hb : bi p.1 i = true
   · rw [CJ, if_pos hb] at hv hn ⊢; exact t.cl v hv hn m hm hx
   · have hn' : v ∉ p.2 ∧ v ≠ i := by rw [CJ, if_neg hb] at hn; simpa using hn
     have hv' : bi p.1 v = true := by rw [CJ, if_neg hb, K5 _ _ _ _ hil, if_neg hn'.2] at hv; exact hv
     exact Gg hil (t.cl v hv' hn'.1 m hm hx)
theorem RI.start (g : Gn) : RI g none 0 (List.replicate g.spots.length false, []) where
 len := by simp
 todo := by simp
 sound v h := by simp [bi, List.getElem?_replicate] at h; split at h <;> simp at h
 init j h := by omega
 cl v h := by simp [bi, List.getElem?_replicate] at h; split at h <;> simp at h
theorem RI.initStep {g : Gn} (hok : g.ok) {k : Nat} {p : List Bool × List Nat} (t : RI g none k p) (hk : k < g.init) : RI g none (k + 1) (CJ p k) := by
 have hi : k < g.spots.length := Nat.lt_of_lt_of_le hk hok.init
 have t' := t.visit hi ⟨k, hk, .refl k⟩
 refine { t' with init := fun j hj => ?_ }
 by_cases e : j = k
 · rw [e]; exact J7 (by rw [t.len]; exact hi)
 · exact t'.init j jB
theorem RI.pop {g : Gn} {k v : Nat} {p : List Bool × List Nat} {r : List Nat} (t : RI g none k p) (hp : p.2 = r ++ [v]) : RI g (some (v, 0)) k (p.1, r) where
 len := t.len
 todo w hw := t.todo w (by rw [hp]; exact List.mem_append.2 (.inl hw))
 sound := t.sound
 init := t.init
 cl w hw hn m hm hx := by
  by_cases e : w = v
  · have := hx 0 (by rw [e]); omega
  · exact t.cl w hw (by rw [hp]; simp [e, hn]) m hm fun j h => by cases h
theorem RI.edge {g : Gn} (hok : g.ok) {k v j : Nat} {p : List Bool × List Nat} (t : RI g (some (v, j)) k p) (hv : bi p.1 v = true) (hj : j < (g.nx v).length) : RI g (some (v, j + 1)) k (CJ p (g.nx v)[j]) := by
 have hw := g.nx_lt hok v _ (jb hj)
 have hr : CZ g (g.nx v)[j] := by
  obtain ⟨a, h1, h2⟩ := t.sound v hv
  exact ⟨a, h1, .step h2 (jb hj)⟩
 have t' := t.visit hw hr
 refine { t' with cl := fun u hu hn m hm hx => ?_ }
 by_cases e : u = v ∧ m = j
 · obtain ⟨rfl, rfl⟩ := e
   exact J7 (by rw [t.len]; exact hw)
 · refine t'.cl u hu hn m hm fun i hi => ?_
   cases hi
   have := hx (j + 1) rfl
   have : m ≠ j := fun h => e ⟨rfl, h⟩
   omega
theorem RI.done {g : Gn} {k v : Nat} {p : List Bool × List Nat} (t : RI g (some (v, (g.nx v).length)) k p) : RI g none k p :=
 { t with cl := fun w hw hn m hm _ => t.cl w hw hn m hm fun j h => by cases h; exact hm }
theorem RI.all {g : Gn} {p : List Bool × List Nat} (t : RI g none g.init p) (h0 : p.2 = []) : p.1 = Bo g := by
 refine List.ext_getElem (by rw [t.len]; simp [Bo]) fun i h1 h2 => ?_
 have e : (Bo g)[i] = decide (CZ g i) := by simp [Bo]
 rw [e, ← It _ _ h1]
 have key : bi p.1 i = true ↔ CZ g i := by
  refine ⟨t.sound i, fun ⟨j, hj, hr⟩ => ?_⟩
  refine Rch.closed (S := fun v => bi p.1 v = true) (fun v hv w hw => ?_) hr (t.init j hj)
  obtain ⟨m, hm, rfl⟩ := List.getElem_of_mem hw
  exact t.cl v hv (by rw [h0]; simp) m hm fun _ h => by cases h
 by_cases h : CZ g i
 · rw [key.2 h, decide_eq_true h]
 · rw [decide_eq_false h]
   cases hb : bi p.1 i with
   | false => rfl
   | true => exact absurd (key.1 hb) h
def Ja (nx : Nat → List Nat) (fr : List Nat) (i : Nat) : Prop := ∃ j ∈ fr, Rch nx j i
noncomputable instance (nx : Nat → List Nat) (fr : List Nat) (i : Nat) : Decidable (Ja nx fr i) := Classical.propDecidable _
noncomputable def Dk (nx : Nat → List Nat) (n : Nat) (fr : List Nat) : List Bool := (List.range n).map fun i => decide (Ja nx fr i)
structure FI (nx : Nat → List Nat) (n : Nat) (fr : List Nat) (x : Option (Nat × Nat)) (st : List Int) : Prop where
 len : st.length = n
 val : ∀ v, gi st v = 0 ∨ gi st v = 1 ∨ gi st v = 2
 sound : ∀ v, gi st v ≠ 0 → Ja nx fr v
 init : ∀ v ∈ fr, gi st v ≠ 0
 cl : ∀ v, gi st v = 2 → ∀ (m : Nat) (hm : m < (nx v).length), (∀ j, x = some (v, j) → m < j) → gi st (nx v)[m] ≠ 0
def IG : List Int → Nat
 | [] => 0
 | b :: l => (if b = 2 then 0 else 1) + IG l
theorem Ox : ∀ (l : List Int) (i : Nat) (h : i < l.length), l[i] ≠ 2 → IG (l.set i 2) + 1 = IG l
 | [], i, h, _ => by simp at h
 | b :: l, 0, _, h0 => by
   have : b ≠ 2 := h0
   simp [IG, this, Nat.add_comm]
 | b :: l, i + 1, h, h0 => by
   have ih := Ox l i (by simpa using h) (by simpa using h0)
   simp only [List.set_cons_succ, IG]
   omega
theorem PK : ∀ (l : List Int) (i : Nat) (h : i < l.length), l[i] ≠ 2 → IG (l.set i 1) = IG l
 | [], i, h, _ => by simp at h
 | b :: l, 0, _, h0 => by
   have : b ≠ 2 := h0
   simp [IG, this]
 | b :: l, i + 1, h, h0 => by
   have ih := PK l i (by simpa using h) (by simpa using h0)
   simp only [List.set_cons_succ, IG]
   omega
section
variable {nx : Nat → List Nat} {n : Nat} {fr : List Nat} {st : List Int}
theorem FI.take {v : Nat} (t : FI nx n fr none st) (hv : gi st v = 1) : FI nx n fr (some (v, 0)) (st.set v 2) := by
 have hl : v < st.length := by
  rcases Nat.lt_or_ge v st.length with h | h
  · exact h
  · rw [Uu _ _ h] at hv; cases hv
 refine ⟨by simp [t.len], fun w => ?_, fun w hw => ?_, fun w hw => ?_, fun w hw m hm hx => ?_⟩
 · rw [Bt _ _ _ _ hl]; split
   · exact .inr (.inr rfl)
   · exact t.val w
 · rw [Bt _ _ _ _ hl] at hw
   by_cases e : w = v
   · rw [e]; exact t.sound v jB
   · rw [if_neg e] at hw; exact t.sound w hw
 · rw [Bt _ _ _ _ hl]; split
   · decide
   · exact t.init w hw
 · by_cases e : w = v
   · have := hx 0 (by rw [e]); omega
   · rw [Bt _ _ _ _ hl, if_neg e] at hw
     have := t.cl w hw m hm fun j h => by cases h
     rw [Bt _ _ _ _ hl]; split
     · decide
     · exact this
def EV (st : List Int) (w : Nat) : List Int := if gi st w = 0 then st.set w 1 else st
theorem Qy (st : List Int) (w : Nat) : (EV st w).length = st.length := by unfold EV; split <;> simp
theorem FI.mark {v j : Nat} (hn : ∀ i, ∀ k ∈ nx i, k < n) (t : FI nx n fr (some (v, j)) st) (hv : gi st v = 2) (hj : j < (nx v).length) : FI nx n fr (some (v, j + 1)) (EV st (nx v)[j]) ∧ gi (EV st (nx v)[j]) v = 2 ∧ IG (EV st (nx v)[j]) = IG st := by
 have hl : (nx v)[j] < st.length := by rw [t.len]; exact hn v _ (jb hj)
 have hkeep : ∀ w, gi st w ≠ 0 → gi (EV st (nx v)[j]) w = gi st w := fun w hw => by
  unfold EV; split
  · rename_i h0
    rw [Bt _ _ _ _ hl, if_neg]
    intro e; rw [e] at hw; exact hw h0
  · rfl
 have hself : gi (EV st (nx v)[j]) (nx v)[j] ≠ 0 := by
  unfold EV; split
  · rw [Bt _ _ _ _ hl, if_pos rfl]; decide
  · assumption
 have h2 : ∀ w, gi (EV st (nx v)[j]) w = 2 → gi st w = 2 := fun w hw => by
  unfold EV at hw; split at hw
  · rw [Bt _ _ _ _ hl] at hw
    split at hw
    · cases hw
    · exact hw
  · exact hw
 refine ⟨⟨by rw [Qy, t.len], fun w => ?_, fun w hw => ?_, fun w hw => ?_, fun w hw m hm hx => ?_⟩, ?_, ?_⟩
 · unfold EV; split
   · rw [Bt _ _ _ _ hl]; split
     · exact .inr (.inl rfl)
     · exact t.val w
   · exact t.val w
 · by_cases e : w = (nx v)[j]
   · obtain ⟨a, h1, h3⟩ := t.sound v jB
     rw [e]; exact ⟨a, h1, .step h3 (jb hj)⟩
   · refine t.sound w ?_
     unfold EV at hw; split at hw
     · rw [Bt _ _ _ _ hl, if_neg e] at hw; exact hw
     · exact hw
 · rw [hkeep w (t.init w hw)]; exact t.init w hw
 · by_cases e : w = v ∧ m = j
   · obtain ⟨rfl, rfl⟩ := e; exact hself
   · have := t.cl w (h2 w hw) m hm fun i hi => by
      cases hi
      have := hx (j + 1) rfl
      have : m ≠ j := fun h => e ⟨rfl, h⟩
      omega
     rw [hkeep _ this]; exact this
 · rw [hkeep v jB]; exact hv
 · unfold EV; split
   · rename_i h0
     exact PK _ _ hl (by rw [← B0 _ _ hl, h0]; decide)
   · rfl
theorem FI.done {v : Nat} (t : FI nx n fr (some (v, (nx v).length)) st) : FI nx n fr none st :=
 { t with cl := fun w hw m hm _ => t.cl w hw m hm fun j h => by cases h; exact hm }
theorem FI.all (t : FI nx n fr none st) (h1 : ∀ i, i < n → gi st i ≠ 1) (hn : ∀ i, ∀ k ∈ nx i, k < n) : st.map (fun s => decide (0 < s)) = Dk nx n fr := by
 refine List.ext_getElem (by simp [Dk, t.len]) fun i h2 h3 => ?_
 have hi : i < st.length := by simpa using h2
 have e : (Dk nx n fr)[i] = decide (Ja nx fr i) := by simp [Dk]
 rw [e, List.getElem_map, ← B0 _ _ hi]
 have h02 : ∀ v, gi st v ≠ 0 → gi st v = 2 := fun v hv => by
  have hvn : v < n := by
   rcases Nat.lt_or_ge v st.length with h | h
   · rw [t.len] at h; exact h
   · rw [Uu _ _ h] at hv; exact absurd rfl hv
  rcases t.val v with h | h | h
  · exact absurd h hv
  · exact absurd h (h1 v hvn)
  · exact h
 have key : gi st i ≠ 0 ↔ Ja nx fr i := by
  refine ⟨t.sound i, fun ⟨j, hj, hr⟩ => ?_⟩
  refine Rch.closed (S := fun v => gi st v ≠ 0) (fun v hv w hw => ?_) hr (t.init j hj)
  obtain ⟨m, hm, rfl⟩ := List.getElem_of_mem hw
  exact t.cl v (h02 v hv) m hm fun _ h => by cases h
 have hval := t.val i
 by_cases h : Ja nx fr i
 · have := key.2 h
   rw [decide_eq_true h, decide_eq_true jB]
 · have : ¬ gi st i ≠ 0 := fun hh => h (key.1 hh)
   rw [decide_eq_false h, decide_eq_false jB]
end
noncomputable def YX (g : Gr) : Gn := open Classical in if h : okG g then Classical.choose (GZ h) else ⟨[], 0, [], [], 0⟩
theorem Gn.gr_inj {a b : Gn} (h : a.gr = b.gr) : a = b := by
 obtain ⟨a1, a2, a3, a4, a5⟩ := a
 obtain ⟨b1, b2, b3, b4, b5⟩ := b
 simp only [Gn.gr, Gr.mk.injEq] at h
 obtain ⟨h1, h2, h3, h4, h5⟩ := h
 have hinj : Function.Injective (fun k : Nat => (k : Int)) := fun x y h => by have h' : (x : Int) = y := h; omega
 have e3 : a3 = b3 := List.map_inj_right (fun x y h => List.map_inj_right (fun _ _ h => hinj h) |>.1 h) |>.1 h3
 have e4 : a4 = b4 := List.map_inj_right (fun _ _ h => hinj h) |>.1 h4
 subst h1 e3 e4
 have e2 : a2 = b2 := by omega
 have e5 : a5 = b5 := by omega
 subst e2 e5
 rfl
theorem QL {g : Gn} (h : g.ok) : YX g.gr = g := by
 have hk := (Gn.ok_gr h)
 unfold YX
 rw [dif_pos hk]
 exact Gn.gr_inj (Classical.choose_spec (GZ hk)).1
noncomputable def Dy (g : Gr) : List Bool × Int := open Classical in if okG g then (Bo (YX g), 0) else ([], 9)
theorem FV {g : Gn} (h : g.ok) : Dy g.gr = (Bo g, 0) := by rw [Dy, if_pos (Gn.ok_gr h), QL h]
theorem KO {g : Gr} (h : ¬ okG g) : Dy g = ([], 9) := by rw [Dy, if_neg h]
theorem Ts (g : Gn) : Dk g.nx g.spots.length (List.range g.init) = Bo g := by
 unfold Dk Bo
 refine List.map_congr_left fun i _ => ?_
 have : Ja g.nx (List.range g.init) i ↔ CZ g i := by simp [Ja, CZ]
 exact decide_eq_decide.2 this
open Go Go.Av
def Gn.ways (g : Gn) (i : Nat) : Nat := ((g.next.take i).map List.length).sum
theorem Gn.ways_succ (g : Gn) (i : Nat) (h : i < g.next.length) : g.ways (i + 1) = g.ways i + (g.nx i).length := by
 unfold Gn.ways
 rw [jZ h, List.map_append, List.sum_append, g.nx_get i h]
 simp
theorem Gn.ways_le (g : Gn) : ∀ i, g.ways i ≤ g.ways g.next.length := fun i => by
 rcases Nat.lt_or_ge i g.next.length with h | h
 · have key : ∀ d, i + d ≤ g.next.length → g.ways i ≤ g.ways (i + d) := by
    intro d
    induction d with
    | zero => intro _; exact Nat.le_refl _
    | succ d ih =>
      intro hd
      have := ih jB
      rw [← Nat.add_assoc, g.ways_succ (i + d) jB]
      omega
   have := key (g.next.length - i) jB
   rwa [Nat.add_sub_cancel' (Nat.le_of_lt h)] at this
 · unfold Gn.ways
   rw [List.take_of_length_le h, List.take_length]
   exact Nat.le_refl _
structure TuI (g : Gn) (i k : Nat) (ls : List (List Nat)) : Prop where
 len : ls.length = g.spots.length
 mem : ∀ (to : Nat) (h : to < ls.length) (v : Nat), v ∈ ls[to] ↔ (v < i ∧ to ∈ g.nx v) ∨ (v = i ∧ to ∈ (g.nx i).take k)
 few : ∀ l ∈ ls, l.length ≤ g.ways i + k
section
variable {g : Gn} {i k : Nat} {ls : List (List Nat)}
theorem TuI.start (g : Gn) : TuI g 0 0 (List.replicate g.spots.length []) where
 len := by simp
 mem to h v := by simp
 few l hl := by obtain ⟨_, rfl⟩ := List.mem_replicate.1 hl; simp
theorem TuI.step (t : TuI g i k ls) (hk : k < (g.nx i).length) (hto : (g.nx i)[k] < ls.length) : TuI g i (k + 1) (ls.set (g.nx i)[k] (ls[(g.nx i)[k]] ++ [i])) where
 len := by simpa using t.len
 mem to h v := by
  have hto' : to < ls.length := by simpa using h
  rw [jZ hk, List.getElem_set]
  split
  · rename_i e
    subst e
    rw [List.mem_append, t.mem _ hto v]
    simp only [List.mem_singleton, List.mem_append]
    constructor
    · rintro ((h | h) | h)
      · exact .inl h
      · exact .inr ⟨h.1, .inl h.2⟩
      · exact .inr ⟨h, .inr trivial⟩
    · rintro (h | ⟨h1, h2⟩)
      · exact .inl (.inl h)
      · exact .inr h1
  · rename_i e
    rw [t.mem to hto' v]
    simp only [List.mem_append, List.mem_singleton]
    constructor
    · rintro (h | h)
      · exact .inl h
      · exact .inr ⟨h.1, .inl h.2⟩
    · rintro (h | ⟨h1, h2 | h2⟩)
      · exact .inl h
      · exact .inr ⟨h1, h2⟩
      · exact absurd h2.symm e
 few l hl := by
  rcases List.mem_or_eq_of_mem_set hl with h | rfl
  · have := t.few l h; omega
  · have := t.few _ (jb hto)
    simp
    omega
theorem TuI.done (t : TuI g i (g.nx i).length ls) (hi : i < g.next.length) : TuI g (i + 1) 0 ls where
 len := t.len
 mem to h v := by
  rw [t.mem to h v, List.take_length]
  simp only [List.take_zero, List.not_mem_nil, and_false, or_false]
  constructor
  · rintro (⟨h1, h2⟩ | ⟨rfl, h2⟩)
    · exact ⟨by omega, h2⟩
    · exact ⟨by omega, h2⟩
  · rintro ⟨h1, h2⟩
    by_cases e : v = i
    · subst e; exact .inr ⟨rfl, h2⟩
    · exact .inl ⟨by omega, h2⟩
 few l hl := by
  have := t.few l hl
  rw [g.ways_succ i hi]
  omega
end
def Gn.back (g : Gn) (ls : List (List Nat)) : Gn := ⟨g.spots, 0, ls, [], 0⟩
structure LP (g b : Gn) : Prop where
 len : b.next.length = g.spots.length
 mem : ∀ u v, v ∈ b.nx u ↔ u ∈ g.nx v
theorem TuI.turned {g : Gn} {ls : List (List Nat)} (hok : g.ok) (t : TuI g g.next.length 0 ls) : LP g (g.back ls) where
 len := t.len
 mem u v := by
  by_cases hu : u < ls.length
  · rw [(g.back ls).nx_get u hu]
    show v ∈ ls[u] ↔ _
    rw [t.mem u hu v]
    simp only [List.take_zero, List.not_mem_nil, and_false, or_false]
    constructor
    · exact fun h => h.2
    · intro h
      refine ⟨?_, h⟩
      rcases Nat.lt_or_ge v g.next.length with hv | hv
      · exact hv
      · rw [Gn.nx, List.getElem?_eq_none hv] at h; simp at h
  · constructor
    · intro h
      rw [Gn.nx, List.getElem?_eq_none (by simpa [Gn.back] using hu)] at h
      simp at h
    · intro h
      have := g.nx_lt hok v u h
      rw [t.len] at hu
      omega
theorem LP.rch {g b : Gn} (t : LP g b) {u v : Nat} : Rch b.nx u v ↔ Rch g.nx v u := by
 constructor
 · intro h
   induction h with
   | refl => exact .refl _
   | step _ e ih => exact (Rch.one ((t.mem _ _).1 e)).trans ih
 · intro h
   induction h with
   | refl => exact .refl _
   | step _ e ih => exact (Rch.one ((t.mem _ _).2 e)).trans ih
theorem LP.lt {g b : Gn} (t : LP g b) (hok : g.ok) : ∀ i, ∀ k ∈ b.nx i, k < g.spots.length := fun i k hk => by
 have := (t.mem i k).1 hk
 have hn := hok.next
 rcases Nat.lt_or_ge k g.next.length with h | h
 · omega
 · rw [Gn.nx, List.getElem?_eq_none h] at this; simp at this
open Classical in
theorem Rf {nx : Nat → List Nat} {n i k : Nat} (hk : k < n) : bi (Dk nx n [i]) k = decide (Rch nx i k) := by
 rw [It _ _ (by simp [Dk, hk])]
 simp only [Dk, List.getElem_map, List.getElem_range]
 apply decide_eq_decide.2
 simp [Ja]
def PaI (g : Gn) (i : Nat) (p : List Int) : Prop := p.length = g.spots.length ∧ ∀ v, v < g.spots.length → gi p v = if partOf g.nx v < i then partOf g.nx v else -1
theorem PaI.start (g : Gn) : PaI g 0 (List.replicate g.spots.length (-1)) := ⟨by simp, fun v hv => by
 have := Dh (nx := g.nx) v
 rw [if_neg jB]
 simp [gi, List.getElem?_replicate, hv]⟩
theorem PaI.old {g : Gn} {i : Nat} {p : List Int} (t : PaI g i p) (hi : i < g.spots.length) (h : 0 ≤ gi p i) : PaI g (i + 1) p := ⟨t.1, fun v hv => by
 rw [t.2 v hv]
 have h1 := t.2 i hi
 have hb := Dh (nx := g.nx) i
 have hne : partOf g.nx v ≠ i := fun e => by
  obtain ⟨k, e1, a1, a2, a3⟩ := E0 g.nx v
  have hk : k = i := by omega
  subst hk
  have := (Mo (nx := g.nx) (u := v) (v := k)).2 ⟨a1, a2⟩
  rw [if_neg jB] at h1
  omega
 by_cases hlt : partOf g.nx v < i
 · rw [if_pos hlt, if_pos jB]
 · rw [if_neg hlt, if_neg jB]⟩
theorem PaI.new {g : Gn} {i : Nat} {p p' : List Int} (t : PaI g i p) (hi : i < g.spots.length) (h : ¬ 0 ≤ gi p i) (hl : p'.length = g.spots.length) (h' : ∀ v, v < g.spots.length → (Rch g.nx i v ∧ Rch g.nx v i → gi p' v = i) ∧ (¬ (Rch g.nx i v ∧ Rch g.nx v i) → gi p' v = gi p v)) : PaI g (i + 1) p' := ⟨hl, fun v hv => by
 have h1 := t.2 i hi
 have hb := Dh (nx := g.nx) i
 have hpi : partOf g.nx i = i := by
  by_cases e : partOf g.nx i < i
  · rw [if_pos e] at h1; omega
  · omega
 have h2 := h' v hv
 rw [t.2 v hv, ← Mo, hpi] at h2
 by_cases e : (i : Int) = partOf g.nx v
 · rw [h2.1 e, if_pos jB]; exact e
 · rw [h2.2 e]
   by_cases hlt : partOf g.nx v < i
   · rw [if_pos hlt, if_pos jB]
   · rw [if_neg hlt, if_neg jB]⟩
theorem PaI.all {g : Gn} {p : List Int} (t : PaI g g.spots.length p) : p = Ft g := by
 apply List.ext_getElem
 · rw [t.1, Jm]
 · intro j a b
   have h1 := t.2 j (by rw [← t.1]; exact a)
   have hb := Dh (nx := g.nx) j
   have hj : j < g.spots.length := by rw [← t.1]; exact a
   rw [B0 _ _ a, if_pos jB] at h1
   rw [h1, MZ]
end Go.Sp
namespace Go.Av
open Go
section
variable {k : Kx} {Q : Exit → Env → H → Prop} {ρ ρ' : Env} {h h1 h2 : H} {ops : Array Oper} {l : List Oper} {d : Nat} {dst : Option Tmp} {ty : TypeId} {pos : String} {after : Array Edge} {g : Option (Nat × Bool)} {e1 e2 e3 e4 : Ent}
theorem Qp {r : AV} (hs : r.flat = true) : r.cl = [r] ∧ r.stor = true := by cases r <;> first | exact ⟨rfl, hs⟩ | cases hs
theorem aN {T T0 : TypeId} {x y : Operand} {b off : Nat} {r : AV} {vs : List AV} {z : Value} {eb : Nat} (hx : evO ρ x = some (.val (.pointer (some ⟨b, off, none⟩)))) (hy : evO ρ y = some r) (hs : r.flat = true) (hE : El k.P T z 1 eb) (hh : h = h1 ++ .cells b T0 vs :: h2) (hl : off < vs.length)
 (hj : JL k ops l Q ρ (h1 ++ .cells b T0 (vs.set off r) :: h2)) : JL k ops (⟨none, .store T x y, ty, pos, after, none⟩ :: l) Q ρ h := by
 obtain ⟨hcl, hst⟩ := Qp hs
 refine HH (off := off) (r := r) (vs := vs) (AD hx) (AD hy) hst hE (by rw [hcl]; rfl) hh (by rw [hcl]; simp; omega) ?_
 rw [hcl, JT _ _ _ hl]
 exact hj
theorem gI {α : Type} {f : α → AV} {T T0 : TypeId} {x y : Operand} {b off : Nat} {a : α} {vs : List α} {z : Value} {eb : Nat} (hx : evO ρ x = some (.val (.pointer (some ⟨b, off, none⟩)))) (hh : h = h1 ++ .cells b T0 (vs.map f) :: h2) (hy : evO ρ y = some (f a)) (hs : (f a).flat = true) (hE : El k.P T z 1 eb) (hl : off < vs.length)
 (hj : JL k ops l Q ρ (h1 ++ .cells b T0 ((vs.set off a).map f) :: h2)) : JL k ops (⟨none, .store T x y, ty, pos, after, none⟩ :: l) Q ρ h := by
 refine aN hx hy hs hE hh (by simpa using hl) ?_
 rw [List.map_set] at hj
 exact hj
theorem YV {T : TypeId} {z : Value} {eb : Nat} (hz : El k.P T z 1 eb) (h1 : z.oneCell' = true) (hd : Nat.blt d k.n = true)
 (hj : All fun b => JL k ops l Q ((d, .val (.pointer (some ⟨b, 0, none⟩))) :: ρ) (.cells b T [.val z] :: h)) : JL k ops (⟨some d, .alloc T, ty, pos, after, none⟩ :: l) Q ρ h := QT hz h1 hd hj.get
theorem jmk {α : Type} (f : α → AV) (a : α) {z : Value} {T E : TypeId} {x : Operand} {n : Nat} {eb : Nat} (hx : evO ρ x = some (.int n)) (hT : k.P.underlying T = some (.slice E)) (hz : El k.P E z 1 eb) (hz1 : z.oneCell' = true) (hf : f a = .val z) (hb : eb * n ≤ 281474976710656) (hm : n ≤ 9223372036854775807) (hd : Nat.blt d k.n = true)
 (hj : All fun b => JL k ops l Q ((d, .val (.slice (some ⟨b, 0, none⟩) n n)) :: ρ) (.cells b E ((List.replicate n a).map f) :: h)) : JL k ops (⟨some d, .makeSlice T x x, ty, pos, after, none⟩ :: l) Q ρ h :=
 VW hT hz hz1 (AD hx) hb hm (fun t ht => by cases ht; exact blt hd) fun b => by have := hj.get b; rwa [List.map_replicate, hf] at this
theorem Z0 {T E : TypeId} {x : Operand} {n : Nat} {eb : Nat} (hx : evO ρ x = some (.int n)) (hT : k.P.underlying T = some (.slice E)) (hz : El k.P E (.bool false) 1 eb) (hb : eb * n ≤ 281474976710656) (hm : n ≤ 9223372036854775807) (hd : Nat.blt d k.n = true)
 (hj : All fun b => JL k ops l Q ((d, .val (.slice (some ⟨b, 0, none⟩) n n)) :: ρ) (.cells b E ((List.replicate n false).map AV.bool) :: h)) : JL k ops (⟨some d, .makeSlice T x x, ty, pos, after, none⟩ :: l) Q ρ h :=
 jmk AV.bool false hx hT hz rfl rfl hb hm hd hj
theorem dp {T E : TypeId} {x : Operand} {n : Nat} {eb : Nat} (hx : evO ρ x = some (.int n)) (hT : k.P.underlying T = some (.slice E)) (hz : El k.P E (.int .i64 0) 1 eb) (hb : eb * n ≤ 281474976710656) (hm : n ≤ 9223372036854775807) (hd : Nat.blt d k.n = true)
 (hj : All fun b => JL k ops l Q ((d, .val (.slice (some ⟨b, 0, none⟩) n n)) :: ρ) (.cells b E ((List.replicate n 0).map AV.int) :: h)) : JL k ops (⟨some d, .makeSlice T x x, ty, pos, after, none⟩ :: l) Q ρ h :=
 jmk AV.int 0 hx hT hz rfl rfl hb hm hd hj
end
theorem EZ (n : Int) (h0 : 0 ≤ n) (h1 : n < 2 ^ 63) : IntKind.i64.wrap n = n := FU (by unfold Ao; omega)
theorem and1 {m : Int} (h0 : 0 ≤ m) (h1 : m ≤ 9223372036854775807) : bits .and .i64 m 1 = m % 2 := bits_mask .i64 63 (by decide) EZ 1 (by decide) m h0 jB
theorem cE {x y : Int} (j : Nat) (hx0 : 0 ≤ x) (hx : x < 2 ^ j) (hy0 : 0 ≤ y) (hy : y % 2 ^ j = 0) (hj : (2 : Int) ^ j < 2 ^ 63) (hy1 : y < 2 ^ 63) : bits .or .i64 x y = x + y := by
 obtain ⟨a, rfl⟩ := Int.eq_ofNat_of_zero_le hx0
 obtain ⟨b, rfl⟩ := Int.eq_ofNat_of_zero_le hy0
 have ha : a < 2 ^ 63 := by have := Int.lt_trans hx hj; exact_mod_cast this
 have hb : b < 2 ^ 63 := by exact_mod_cast hy1
 have e1 := (bits_nat .i64 63 (by decide) EZ a b ha hb).2
 have e2 := (bits_nat .i64 63 (by decide) EZ b a hb ha).2
 have e3 := bits_join .i64 63 (by decide) EZ j (b : Int) (a : Int) hy0 hy hy1 hx0 hx (Int.lt_trans hx hj)
 rw [e2] at e3
 rw [e1, Nat.or_comm, e3, Int.add_comm]
theorem vfz {α : Type} {f : α → List D} {g : α → AV} {xs : List α} {ρ : Env} {h h1 h2 : H} {t b n : Nat} {E : TypeId} (sz eb : Nat) (h0 : Nat.blt 0 sz = true) (ht : GG ρ t = some (.val (.slice (some ⟨b, 0, none⟩) n n))) (hh : h = h1 ++ .cells b E (xs.map g) :: h2)
 (hv : xs.map g = ((xs.map f).flatten).map D.av) (hn : xs.length = n) (hsz : ∀ a, (f a).length = sz) (hb : n * eb ≤ 140737488355328) (hm : n ≤ 140737488355328) : VS ρ h ((t, .d (.l sz eb (xs.map f))) :: ρ) [] :=
 VS.trans (VS.freezeCells (blt h0) (BX ht) hh hv (by simpa using hn) (fun r hr => by obtain ⟨a, _, rfl⟩ := List.mem_map.1 hr; exact hsz a) hb (by simpa [maxLen] using Nat.le_trans hm (by decide))) jE
def MN (tmps : Array Value) : ResultVar → Sem Value
 | .tmp t => pure (tmps.getD t undef)
 | .cell a t => do loadVar t (← asAddr (tmps.getD a undef))
def RV1 (P : Program) (G : List (Nat × List D)) (ρ : Env) (h : H) (r : ResultVar) (x : AV) : Prop :=
 ∀ (c : Cx) (I : Nat → Prop) (n : Nat) (a : Act) (w : World), c.G = G → Ok c I h w → SF n w I ρ a → ∃ v, AV.rel w I x v ∧ (MN a.tmps r).run P w = .ok v w
def RVs (P : Program) (G : List (Nat × List D)) (ρ : Env) (h : H) : List ResultVar → List AV → Prop
 | [], [] => True
 | r :: rs, x :: xs => RV1 P G ρ h r x ∧ RVs P G ρ h rs xs
 | _, _ => False
def OF : List AV → AV
 | [x] => x
 | xs => .tup xs
theorem KR {P : Program} {G : List (Nat × List D)} {ρ : Env} {h : H} {c : Cx} {I : Nat → Prop} {n : Nat} {a : Act} {w : World} (hG : c.G = G) (k : Ok c I h w) (s : SF n w I ρ a) : ∀ {rs : List ResultVar} {xs : List AV}, RVs P G ρ h rs xs →
 ∃ vs, (List.mapM (MN a.tmps) rs).run P w = .ok vs w ∧ AV.rels w I xs vs
 | [], [], _ => ⟨[], rfl, trivial⟩
 | r :: rs, x :: xs, ⟨h1, h2⟩ => by
   obtain ⟨v, e1, e2⟩ := h1 c I n a w hG k s
   obtain ⟨vs, f1, f2⟩ := KR hG k s h2
   refine ⟨v :: vs, ?_, e1, f2⟩
   rw [List.mapM_cons]
   simp only [Sem.run_bind, Sem.run_pure, Result.andThen_ok, e2, f1]
theorem Qw {P : Program} {fn : Func} {rs : List ResultVar} (hr : fn.results = rs.toArray) {tmps : Array Value} {w : World} {vs : List Value} (hm : (List.mapM (MN tmps) rs).run P w = .ok vs w) :
 (results fn tmps).run P w = .ok (if h : vs.toArray.size = 1 then vs.toArray[0] else .tuple vs.toArray) w := by
 have e : (fun (x : ResultVar) => (match x with | .tmp t => pure (tmps.getD t undef) | .cell a t => do loadVar t (← asAddr (tmps.getD a undef)) : Sem Value)) = MN tmps := by
  funext x; cases x <;> rfl
 unfold results
 rw [hr]
 simp only [List.mapM_toArray, Sem.run_bind, Sem.run_map]
 erw [e]
 rw [hm]
 rfl
def bf (P : Program) (G : List (Nat × List D)) (rs : List ResultVar) (Q : AE → H → Prop) (e : Exit) (ρ : Env) (h : H) : Prop :=
 match e with
 | .normal => ∃ ρ1 h1 xs h', VS ρ h ρ1 h1 ∧ RVs P G ρ1 h1 rs xs ∧ List.Sublist h' h1 ∧ Q (.ret (OF xs)) h'
 | .ret => ∃ ρ1 h1 xs h', VS ρ h ρ1 h1 ∧ RVs P G ρ1 h1 rs xs ∧ List.Sublist h' h1 ∧ Q (.ret (OF xs)) h'
 | .panic ch => Q (.pan ch) h
 | _ => False
theorem bc {w : World} {I : Nat → Prop} {xs : List AV} {vs : List Value} (h : AV.rels w I xs vs) : AV.rel w I (OF xs) (if h : vs.toArray.size = 1 then vs.toArray[0] else .tuple vs.toArray) := by
 match xs, vs, h with
 | [], [], _ => exact ⟨[], rfl, trivial⟩
 | [x], [v], h => exact h.1
 | x :: y :: xs, u :: v :: vs, h =>
   rw [dif_neg (by simp)]
   exact ⟨_, rfl, h⟩
theorem Ok.sub {c : Cx} {I : Nat → Prop} {h h' : H} {w : World} (h1 : Ok c I h w) (hs : List.Sublist h' h) : Ok c I h' w :=
 { ent := fun e he => h1.ent e (hs.subset he), nd := h1.nd.sublist (Bl hs), imm := fun b hb => ⟨(h1.imm b hb).1, fun hm => (h1.imm b hb).2 ((Bl hs).subset hm)⟩,
   new := fun b hb => h1.new b ((Bl hs).subset hb), inew := h1.inew, sup := h1.sup, os := h1.os, tape := h1.tape, output := h1.output, size := h1.size, keep := h1.keep, glob := h1.glob }
theorem BV {P : Program} {G : List (Nat × List D)} {f : FuncId} {fn : Func} {c : Code} {args : List AV} {h : H} {Q : AE → H → Prop} {rs : List ResultVar} (n : Nat) (hf : P.funcs[f]? = some fn) (hb : fn.body = some c) (hn : fn.ntmps = n) (hr : fn.results = rs.toArray) (ha : args.length ≤ n)
 (hj : ∀ W I, J ⟨P, ⟨W, I, blks h, G⟩, n, []⟩ c (bf P G rs Q) (Et 0 args) h) : AC P G f args h Q := by
 intro I W vs h1 h2 h3 hG h4
 have hlen := AV.rels_length h4
 refine calls_of_wp hf hb ?_
 have hok : Ok ⟨W, I, blks h, G⟩ I h W :=
  { ent := h1, nd := h2, imm := h3, new := fun b hb => .inl hb, inew := fun b hb => .inl hb, sup := fun b hb => hb, os := rfl, tape := rfl, output := rfl, size := Nat.le_refl _, keep := fun _ _ _ => rfl, glob := hG }
 have hsf : SF n W I (Et 0 args) { tmps := vs.toArray ++ Array.replicate (fn.ntmps - vs.toArray.size) undef, defers := [] } := by
  refine ⟨by simp [hn]; omega, fun t => ?_⟩
  have := GY W I args vs 0 t h4
  simp only [Nat.zero_le, if_true, Nat.sub_zero] at this
  have e : (vs.toArray ++ Array.replicate (fn.ntmps - vs.toArray.size) undef).getD t undef = (vs[t]?).getD undef := by
   rw [Array.getD_eq_getD_getElem?, Array.getElem?_append]
   by_cases ht : t < vs.length
   · simp [ht]
   · simp only [List.size_toArray, ht, if_false]
     rw [List.getElem?_eq_none jB]
     simp only [Array.getElem?_replicate]
     split <;> rfl
  rw [e]; exact this
 refine wp_mono (hj W I I _ W hok hsf rfl) ?_
 rintro e a w ⟨I', ρ', h', k1, k2, k3, k4⟩
 have fin : (∃ ρ1 h1 xs h'', VS ρ' h' ρ1 h1 ∧ RVs P G ρ1 h1 rs xs ∧ List.Sublist h'' h1 ∧ Q (.ret (OF xs)) h'') → ∃ v, (results fn a.tmps).run P w = .ok v w ∧ Mn G W I h Q (.returned v) w := by
  rintro ⟨ρ1, hh1, xs, h'', v, hrv, hsub, hq⟩
  obtain ⟨I1, m1, m2⟩ := v _ _ _ _ _ k1 k2
  obtain ⟨us, e1, e2⟩ := KR rfl m1 m2 hrv
  exact ⟨_, Qw hr e1, _, h'', I1, hq, m1.sub hsub, bc e2⟩
 cases e with
 | normal => obtain ⟨v, e1, e2⟩ := fin k4; exact ⟨k3, v, e1, e2⟩
 | ret => obtain ⟨v, e1, e2⟩ := fin k4; exact ⟨k3, v, e1, e2⟩
 | panic ch => exact ⟨k3, _, h', I', k4, k1, rfl⟩
 | exit _ => exact k4.elim
 | goto _ => exact k4.elim
 | outgrown => exact k4.elim
theorem FM {P : Program} {G : List (Nat × List D)} {rs : List ResultVar} {Q : AE → H → Prop} {e : Exit} {ρ ρ1 : Env} {h h1 h' : H} {xs : List AV} (v : VS ρ h ρ1 h1) (hrv : RVs P G ρ1 h1 rs xs) (he : Tg e = true) (hs : List.Sublist h' h1) (hq : Q (.ret (OF xs)) h') : bf P G rs Q e ρ h := by
 cases e <;> first | exact ⟨ρ1, h1, xs, h', v, hrv, hs, hq⟩ | cases he
theorem Mv {P : Program} {G : List (Nat × List D)} {rs : List ResultVar} {Q : AE → H → Prop} {e : Exit} {ρ : Env} {h h' : H} {xs : List AV} (hrv : RVs P G ρ h rs xs) (he : Tg e = true) (hs : List.Sublist h' h) (hq : Q (.ret (OF xs)) h') : bf P G rs Q e ρ h :=
 FM (VS.of_le (Env.le_refl _)) hrv he hs hq
section
variable {P : Program} {G : List (Nat × List D)} {ρ : Env} {h : H}
theorem A4 {t : Nat} {x : AV} (hx : GG ρ t = some x) : RV1 P G ρ h (.tmp t) x := fun _ I _ a w _ _ s => ⟨a.tmps.getD t undef, by have := s.2 t; rw [BX hx] at this; exact this, rfl⟩
theorem Ax {r T b : Nat} {T0 : TypeId} {vs : List AV} {z : Value} {sz eb : Nat} (hT : BR P T = some true) (hE : El P T z sz eb) (hx : GG ρ r = some (.val (.pointer (some ⟨b, 0, none⟩)))) (hm : Ent.cells b T0 vs ∈ h) (hn : sz = vs.length) : RV1 P G ρ h (.cell r T) (.agg vs) := fun _ I _ a w _ k s => by
 obtain ⟨i, hi, _, rfl, _⟩ := hE.get
 obtain ⟨cs, hc1, hc2⟩ := k.ent _ hm
 have hlen : cs.toList.length = vs.length := (AV.rels_length hc2).symm
 refine ⟨.agg cs.toList.toArray, ⟨_, rfl, hc2⟩, ?_⟩
 have e1 := AQ (s.2 r) (BX hx)
 have hload := run_loadCells_list (P := P) w ⟨b, 0, none⟩ cs.toList fun j v hv => by
  rw [Addr.add_lit, Nat.zero_add, cell_of_row w b j cs T0 (0, 0) hc1]
  simpa using hv
 have hsz : cs.toList.length = i.size := by rw [hlen, hn]
 rw [hsz] at hload
 rw [Array.getD_eq_getD_getElem?] at e1
 simp [MN, e1, asAddr, loadVar, Da hT, sizeOf, typeInfo, hi, hload]
end
mutual
inductive Cv (v : Value) (d : D) : AV → AV → Prop where
 | same (x : AV) : Cv v d x x
 | here : Cv v d (.val v) (.d d)
 | agg {xs ys : List AV} (h : Cvs v d xs ys) : Cv v d (.agg xs) (.agg ys)
inductive Cvs (v : Value) (d : D) : List AV → List AV → Prop where
 | nil : Cvs v d [] []
 | cons {x y : AV} {xs ys : List AV} (h1 : Cv v d x y) (h2 : Cvs v d xs ys) : Cvs v d (x :: xs) (y :: ys)
end
mutual
theorem Cv.rel {v : Value} {d : D} {w : World} {I : Nat → Prop} (hr : Rel w I d v) : ∀ {x y : AV} {u : Value}, Cv v d x y → AV.rel w I x u → AV.rel w I y u
 | _, _, _, .same x, h => h
 | _, _, _, .here, h => by cases h; exact hr
 | _, _, _, .agg hc, ⟨vs, h1, h2⟩ => ⟨vs, h1, Cvs.rel hr hc h2⟩
theorem Cvs.rel {v : Value} {d : D} {w : World} {I : Nat → Prop} (hr : Rel w I d v) : ∀ {xs ys : List AV} {us : List Value}, Cvs v d xs ys → AV.rels w I xs us → AV.rels w I ys us
 | [], [], us, .nil, h => h
 | _ :: _, _ :: _, u :: us, .cons h1 h2, ⟨g1, g2⟩ => ⟨Cv.rel hr h1 g1, Cvs.rel hr h2 g2⟩
end
def CvE (v : Value) (d : D) (ρ ρ' : Env) : Prop := ∀ t, Cv v d (get ρ t) (get ρ' t)
theorem CvE.refl (v : Value) (d : D) (ρ : Env) : CvE v d ρ ρ := fun _ => .same _
theorem CvE.cons {v : Value} {d : D} {ρ ρ' : Env} {t : Nat} {x y : AV} (hx : GG ρ t = some x) (hc : Cv v d x y) (h : CvE v d ρ ρ') : CvE v d ρ ((t, y) :: ρ') := fun s => by
 simp only [get]
 cases hb : Nat.beq t s with
 | true => rw [← Nat.eq_of_beq_eq_true hb, BX hx]; exact hc
 | false => exact h s
inductive CvH (v : Value) (d : D) : H → H → Prop where
 | refl (h : H) : CvH v d h h
 | keep {e : Ent} {h h' : H} (k : CvH v d h h') : CvH v d (e :: h) (e :: h')
 | cells {b : Nat} {T : TypeId} {vs vs' : List AV} {h h' : H} (hc : Cvs v d vs vs') (k : CvH v d h h') : CvH v d (.cells b T vs :: h) (.cells b T vs' :: h')
theorem CvH.blks {v : Value} {d : D} {h h' : H} (k : CvH v d h h') : blks h' = blks h := by
 induction k with
 | refl h => rfl
 | keep k ih => rename_i e _ _; simp only [Av.blks, List.filterMap_cons] at ih ⊢; rw [ih]
 | cells hc k ih => simp only [Av.blks, List.filterMap_cons, Ent.blk] at ih ⊢; rw [ih]
theorem CvH.ent {v : Value} {d : D} {w : World} {I : Nat → Prop} (hr : Rel w I d v) {h h' : H} (k : CvH v d h h') : (∀ e ∈ h, e.rel w I) → ∀ e ∈ h', e.rel w I := by
 induction k with
 | refl h => exact fun h => h
 | keep k ih =>
   intro hh e he
   rcases List.mem_cons.1 he with rfl | he
   · exact hh _ (by simp)
   · exact ih (fun e he => hh e (by simp [he])) e he
 | cells hc k ih =>
   intro hh e he
   rcases List.mem_cons.1 he with rfl | he
   · obtain ⟨cs, h1, h2⟩ := hh _ List.mem_cons_self
     exact ⟨cs, h1, hc.rel hr h2⟩
   · exact ih (fun e he => hh e (by simp [he])) e he
theorem Ok.conv {c : Cx} {I : Nat → Prop} {h h' : H} {w : World} {v : Value} {d : D} (k : Ok c I h w) (hr : Rel w I d v) (hc : CvH v d h h') : Ok c I h' w :=
 { ent := hc.ent hr k.ent, nd := hc.blks ▸ k.nd, imm := fun b hb => hc.blks ▸ k.imm b hb, new := fun b hb => k.new b (hc.blks ▸ hb), inew := k.inew, sup := k.sup, os := k.os, tape := k.tape, output := k.output, size := k.size, keep := k.keep, glob := k.glob }
theorem SF.conv {n : Nat} {w : World} {I : Nat → Prop} {ρ ρ' : Env} {a : Act} {v : Value} {d : D} (f : SF n w I ρ a) (hr : Rel w I d v) (hc : CvE v d ρ ρ') : SF n w I ρ' a := ⟨f.1, fun t => (hc t).rel hr (f.2 t)⟩
theorem Vl {c : Cx} {I : Nat → Prop} {w : World} {v : Value} {n : Nat} {E : TypeId} {sz : Nat} (eb : Nat) {rows : List (List D)} {h1 h2 : H} (k1 : Ok c I (h1 ++ .row v n E sz (rows.flatten.map D.av) :: h2) w) (h0 : 0 < sz) (hn : rows.length = n) (hsz : ∀ r ∈ rows, r.length = sz) (hb : n * eb ≤ 140737488355328) :
 ∃ I' : Nat → Prop, Ok c I' (h1 ++ h2) w ∧ (∀ b, I b → I' b) ∧ Rel w I' (.l sz eb rows) v := by
 obtain ⟨os, ho, hos⟩ := k1.ent (.row v n E sz (rows.flatten.map D.av)) (by simp)
 rcases ho.2 with ⟨rfl, rfl⟩ | ⟨g, cap, cur, rfl, _, hg, hnc, hcm, hcs, htake⟩
 · have : rows = [] := List.eq_nil_of_length_eq_zero hn
   subst this
   have hok : Ok c I (h1 ++ h2) w := by
    have hbe : blks (h1 ++ Ent.row (.slice none 0 0) 0 E sz (List.map D.av [].flatten) :: h2) = blks (h1 ++ h2) := by rw [Ad, Ad]; rfl
    exact { ent := fun e he => k1.ent e (((List.sublist_cons_self _ h2).append_left h1).subset he), nd := hbe ▸ k1.nd, imm := fun b hb => hbe ▸ k1.imm b hb, new := fun b hb => k1.new b (hbe ▸ hb), inew := k1.inew, sup := k1.sup, os := k1.os, tape := k1.tape, output := k1.output, size := k1.size, keep := k1.keep, glob := k1.glob }
   exact ⟨I, hok, fun _ h => h, .nil sz eb⟩
 · have hok := k1.release (b := g) (e := .row (.slice (some ⟨g, 0, none⟩) n cap) n E sz (rows.flatten.map D.av)) rfl
   refine ⟨_, hok, fun _ h => .inl h, ?_⟩
   subst hn
   have hcell : ∀ q x, rows.flatten[q]? = some x → ∃ c, w.cell? ((⟨g, 0, none⟩ : Addr).add q) = some c ∧ Rel w I x c := fun q x hx => by
    obtain ⟨c, hc1, hc2⟩ := AV.rels_get hos q x.av (by rw [List.getElem?_map, hx]; rfl)
    exact ⟨c, ho.cells (g := g) rfl q c hc1, D.av_rel' hc2⟩
   have hq : ∀ (j u : Nat) (r : List D) (x : D), rows[j]? = some r → r[u]? = some x → rows.flatten[j * sz + u]? = some x := fun j u r x hr hx => by
    have hu : u < sz := by
     have := (List.getElem?_eq_some_iff.1 hx).1
     rwa [hsz r (List.mem_of_getElem? hr)] at this
    rw [CM h0 rows hsz, Nat.add_comm, Nat.add_mul_div_right _ _ h0, Nat.add_mul_mod_self_right, Nat.div_eq_of_lt hu, Nat.mod_eq_of_lt hu, Nat.zero_add, hr]
    exact hx
   refine .l sz eb rows ⟨g, 0, none⟩ cap (fun j u => (w.cell? ((⟨g, 0, none⟩ : Addr).add (j * sz + u))).getD undef) (.inr rfl) hnc hcm hb hsz (fun j u r x hr hx => ?_) (fun j u r x hr hx => ?_)
   · obtain ⟨c, hc1, _⟩ := hcell _ x (hq j u r x hr hx)
     simp only [hc1, Option.getD_some]
   · obtain ⟨c, hc1, hc2⟩ := hcell _ x (hq j u r x hr hx)
     simp only [hc1, Option.getD_some]
     exact hc2.mono (fun _ _ => rfl) fun _ h => .inl h
theorem Wc {c : Cx} {I : Nat → Prop} {w : World} {b n : Nat} {E : TypeId} {sz : Nat} (eb : Nat) {rows : List (List D)} {h1 h2 : H} (k1 : Ok c I (h1 ++ .cells b E (rows.flatten.map D.av) :: h2) w) (h0 : 0 < sz) (hn : rows.length = n) (hsz : ∀ r ∈ rows, r.length = sz) (hb : n * eb ≤ 140737488355328) (hm : n ≤ maxLen) :
 ∃ I' : Nat → Prop, Ok c I' (h1 ++ h2) w ∧ (∀ b, I b → I' b) ∧ Rel w I' (.l sz eb rows) (.slice (some ⟨b, 0, none⟩) n n) := by
 subst hn
 have hbr := RY (h := h1 ++ .cells b E (rows.flatten.map D.av) :: h2) (b := b) (E := E) (eb := eb) (by simp) h0 rfl rfl hsz hb hm
 refine ⟨_, k1.release (b := b) rfl, fun _ h => .inl h, ?_⟩
 obtain ⟨cs, hc1, hc2⟩ := k1.ent (.cells b E (rows.flatten.map D.av)) (by simp)
 have hcell : ∀ q x, rows.flatten[q]? = some x → ∃ c, w.cell? ((⟨b, 0, none⟩ : Addr).add q) = some c ∧ Rel w I x c := fun q x hx => by
  obtain ⟨c, hc3, hc4⟩ := AV.rels_get hc2 q x.av (by rw [List.getElem?_map, hx]; rfl)
  refine ⟨c, ?_, D.av_rel' hc4⟩
  rw [Addr.add_lit, Nat.zero_add, cell_of_row w b q cs E (0, 0) hc1]
  simpa using hc3
 have hq : ∀ (j u : Nat) (r : List D) (x : D), rows[j]? = some r → r[u]? = some x → rows.flatten[j * sz + u]? = some x := fun j u r x hr hx => by
  have hu : u < sz := by
   have := (List.getElem?_eq_some_iff.1 hx).1
   rwa [hsz r (List.mem_of_getElem? hr)] at this
  rw [CM h0 rows hsz, Nat.add_comm, Nat.add_mul_div_right _ _ h0, Nat.add_mul_mod_self_right, Nat.div_eq_of_lt hu, Nat.mod_eq_of_lt hu, Nat.zero_add, hr]
  exact hx
 refine Rel.l sz eb rows ⟨b, 0, none⟩ rows.length (fun j u => (w.cell? ((⟨b, 0, none⟩ : Addr).add (j * sz + u))).getD undef) (.inr rfl) (Nat.le_refl _) hm hb hsz (fun j u r x hr hx => ?_) (fun j u r x hr hx => ?_)
 · obtain ⟨c, hc3, _⟩ := hcell _ x (hq j u r x hr hx)
   simp only [hc3, Option.getD_some]
 · obtain ⟨c, hc3, hc4⟩ := hcell _ x (hq j u r x hr hx)
   simp only [hc3, Option.getD_some]
   exact hc4.mono (fun _ _ => rfl) fun _ h => .inl h
theorem EA {α : Type} {f : α → List D} {xs : List α} {ρ ρ' : Env} {h h1 h2 h' : H} {v : Value} {E : TypeId} {sz : Nat} (eb : Nat) (h0 : Nat.blt 0 sz = true) (hh : h = h1 ++ AL v E sz f xs :: h2) (hsz : ∀ a, (f a).length = sz) (hb : xs.length * eb ≤ 140737488355328)
 (hρ : CvE v (.l sz eb (xs.map f)) ρ ρ') (hH : CvH v (.l sz eb (xs.map f)) (h1 ++ h2) h') : VS ρ h ρ' h' := by
 subst hh
 intro c I m a w k1 k2
 obtain ⟨I', g1, g2, g3⟩ := Vl eb k1 (blt h0) (by simp) (fun r hr => by obtain ⟨a, _, rfl⟩ := List.mem_map.1 hr; exact hsz a) hb
 exact ⟨I', g1.conv g3 hH, (k2.wider g2).conv g3 hρ⟩
theorem hD {α : Type} {f : α → List D} {g : α → AV} {xs : List α} {ρ ρ' : Env} {h h1 h2 h' : H} {b n : Nat} {E : TypeId} {sz : Nat} (eb : Nat) (h0 : Nat.blt 0 sz = true) (hh : h = h1 ++ .cells b E (xs.map g) :: h2) (hv : xs.map g = ((xs.map f).flatten).map D.av) (hn : xs.length = n) (hsz : ∀ a, (f a).length = sz) (hb : n * eb ≤ 140737488355328) (hm : n ≤ 140737488355328)
 (hρ : CvE (.slice (some ⟨b, 0, none⟩) n n) (.l sz eb (xs.map f)) ρ ρ') (hH : CvH (.slice (some ⟨b, 0, none⟩) n n) (.l sz eb (xs.map f)) (h1 ++ h2) h') : VS ρ h ρ' h' := by
 subst hh
 rw [hv]
 intro c I m a w k1 k2
 obtain ⟨I', g1, g2, g3⟩ := Wc (n := n) eb k1 (blt h0) (by simpa using hn) (fun r hr => by obtain ⟨a, _, rfl⟩ := List.mem_map.1 hr; exact hsz a) hb (by simp only [maxLen]; omega)
 exact ⟨I', g1.conv g3 hH, (k2.wider g2).conv g3 hρ⟩
def Bls (P : Program) (t : TypeId) (zs : List Value) (pl : List (Nat × Nat)) : Prop :=
 (match P.info? t, P.underlying t with
 | some it, some (.struct fields) =>
   match it.zero, fields.toList.mapM (fun f => (P.info? f.type).map fun i => (f.offset, i.size)) with
   | some z, some places => some (z.cells.toList, places)
   | _, _ => none
 | _, _ => none) = some (zs, pl)
theorem Bls.built {P : Program} {t : TypeId} {zs : List Value} {pl : List (Nat × Nat)} (h : Bls P t zs pl) (parts : List (Nat × Value)) : P.built t parts = Instr.fill (pl.toArray[·]?) zs.toArray parts := by
 unfold Bls at h
 unfold Program.built
 cases h1 : P.info? t with
 | none => rw [h1] at h; cases h
 | some it =>
   cases h2 : P.underlying t with
   | none => rw [h1, h2] at h; cases h
   | some d =>
     cases d with
     | struct fields =>
       rw [h1, h2] at h
       dsimp only at h ⊢
       cases h3 : it.zero with
       | none => rw [h3] at h; cases h
       | some z =>
         cases h4 : fields.toList.mapM (fun f => (P.info? f.type).map fun i => (f.offset, i.size)) with
         | none => rw [h3, h4] at h; cases h
         | some places =>
           rw [h3, h4] at h
           simp only [Option.some.injEq, Prod.mk.injEq] at h
           obtain ⟨h5, rfl⟩ := h
           subst h5
           rfl
     | _ => rw [h1, h2] at h; cases h
def QG (pl : List (Nat × Nat)) : List AV → List (Nat × AV) → Option (List AV)
 | cs, [] => some cs
 | cs, (i, x) :: r =>
   match pl[i]? with
   | none => none
   | some p => bif Nat.beq x.cl.length p.2 && Nat.ble (p.1 + p.2) cs.length then QG pl (setAt cs p.1 x.cl) r else none
inductive Zs {α β : Type} (R : α → β → Prop) : List α → List β → Prop where
 | nil : Zs R [] []
 | cons {a : α} {b : β} {as_ : List α} {bs : List β} (h : R a b) (t : Zs R as_ bs) : Zs R (a :: as_) (b :: bs)
theorem Rr {w : World} {I : Nat → Prop} {pl : List (Nat × Nat)} : ∀ {ps : List (Nat × AV)} {vs : List (Nat × Value)} {avs avs' : List AV} {cs : Array Value}, AV.rels w I avs cs.toList → Zs (fun p q => p.1 = q.1 ∧ AV.rel w I p.2 q.2 ∧ p.2.stor = true) ps vs → QG pl avs ps = some avs' →
 ∃ cs', Instr.fill (pl.toArray[·]?) cs vs = some cs' ∧ AV.rels w I avs' cs'.toList
 | [], [], avs, avs', cs, hr, _, hf => by cases hf; exact ⟨cs, rfl, hr⟩
 | (i, x) :: ps, (j, v) :: vs, avs, avs', cs, hr, .cons ⟨h1, h2, h3⟩ h4, hf => by
   cases h1
   simp only [QG] at hf
   cases hp : pl[i]? with
   | none => rw [hp] at hf; cases hf
   | some p =>
     rw [hp] at hf
     dsimp only at hf
     cases hc : Nat.beq x.cl.length p.2 && Nat.ble (p.1 + p.2) avs.length with
     | false => rw [hc] at hf; cases hf
     | true =>
       rw [hc] at hf
       simp only [cond_true] at hf
       rw [Bool.and_eq_true] at hc
       have e1 := Nat.eq_of_beq_eq_true hc.1
       have e2 := Nat.le_of_ble_eq_true hc.2
       have hcl := N9 h3 h2
       have hvl : v.cells.toList.length = x.cl.length := (AV.rels_length hcl).symm
       have hcs : cs.toList.length = avs.length := (AV.rels_length hr).symm
       have hsz : v.cells.size = p.2 := by rw [← e1, ← hvl]; simp
       have hfold := OJ v.cells.toList 0 cs (cs.toList.take p.1) (cs.toList.drop p.1) (List.take_append_drop _ _).symm (by rw [List.length_drop, hcs, hvl, e1]; omega)
       have htl : (cs.toList.take p.1).length = p.1 := by rw [List.length_take, hcs]; omega
       rcases hfold with hfold | hfold
       case inr => omega
       rw [htl, Nat.sub_zero, List.drop_drop] at hfold
       have hstep : AV.rels w I (setAt avs p.1 x.cl) ((v.cells.zipIdx).foldl (fun cs q => cs.setIfInBounds (p.1 + q.2) q.1) cs).toList := by
        rw [← Array.foldl_toList, Array.toList_zipIdx, hfold]
        unfold setAt
        rw [hvl]
        exact AV.rels_append (AV.rels_append (D4 _ hr) hcl) (HZ _ hr)
       obtain ⟨cs', g1, g2⟩ := Rr hstep h4 hf
       refine ⟨cs', ?_, g2⟩
       have hb : (v.cells.size ≠ p.2 || p.1 + v.cells.size > cs.size) = false := by
        refine Bool.or_eq_false_iff.2 ⟨by simp [hsz], decide_eq_false ?_⟩
        have : cs.size = avs.length := by rw [← hcs]; simp
        omega
       simp only [Instr.fill]
       have hpa : (pl.toArray)[i]? = some p := by simpa using hp
       rw [hpa]
       dsimp only
       rw [hb]
       exact g1
def Me (ρ : Env) : List (Nat × Operand) → Option (List (Nat × AV))
 | [] => some []
 | (i, x) :: r => (evO ρ x).bind fun a => (Me ρ r).bind fun as_ => some ((i, a) :: as_)
theorem NL {n : Nat} {w : World} {I : Nat → Prop} {ρ : Env} {a : Act} (f : SF n w I ρ a) : ∀ {ps : List (Nat × Operand)} {xs : List (Nat × AV)}, Me ρ ps = some xs → xs.all (fun p => p.2.stor) = true → Zs (fun p q => p.1 = q.1 ∧ AV.rel w I p.2 q.2 ∧ p.2.stor = true) xs (ps.map fun p => (p.1, a.eval p.2))
 | [], xs, h, _ => by cases h; exact .nil
 | (i, x) :: ps, xs, h, hs => by
   simp only [Me] at h
   cases h1 : evO ρ x with
   | none => rw [h1] at h; cases h
   | some r =>
     cases h2 : Me ρ ps with
     | none => rw [h1, h2] at h; cases h
     | some rs =>
       rw [h1, h2] at h
       cases h
       simp only [List.all_cons, Bool.and_eq_true] at hs
       refine .cons ⟨rfl, ?_, hs.1⟩ (NL f h2 hs.2)
       have := f.ev x
       rw [AD h1] at this
       exact this
section
variable {P : Program} {G : List (Nat × List D)} {ρ : Env} {h : H} {dst : Option Tmp} {ty : TypeId} {pos : String} {after : Array Edge} {g : Option (Nat × Bool)}
theorem X9 {T : TypeId} {zs : List Value} {pl : List (Nat × Nat)} {parts : Array (Nat × Operand)} {xs : List (Nat × AV)} {cs : List AV} (hB : Bls P T zs pl) (hx : Me ρ parts.toList = some xs) (hs : xs.all (fun p => p.2.stor) = true) (hf : QG pl (zs.map AV.val) xs = some cs) :
 Pure P G ⟨dst, .build T parts, ty, pos, after, g⟩ ρ h (.agg cs) :=
 Ah fun w I _ a k => by
  obtain ⟨cs', g1, g2⟩ := Rr (cs := zs.toArray) (by simpa using Gz w I zs) (NL k hx hs) hf
  refine ⟨.agg cs', ⟨cs'.toList, by simp, g2⟩, fun w' => ?_⟩
  have e : (parts.map fun (i, x) => (i, a.eval x)).toList = parts.toList.map fun p => (p.1, a.eval p.2) := by simp
  have := run_build (P := P) w' T (parts.map fun (i, x) => (i, a.eval x)) cs' (by rw [hB.built, e]; exact g1)
  simp [execOp, this]
def Dp (b : UInt8) : List D := [.i .u8 b.toNat]
abbrev CT (l : List UInt8) : D := .l 1 1 (l.map Dp)
abbrev AV.byte (b : UInt8) : AV := .val (.int .u8 (b.toNat : Int))
theorem Ti {S T : TypeId} {x : Operand} {b : UInt8} (hS : (P.underlying S).isSome = true) (hT : P.underlying T = some (.int .i64)) (hx : evO ρ x = some (AV.byte b)) : Pure P G ⟨dst, .convert S T x, ty, pos, after, g⟩ ρ h (.int (b.toNat : Int)) := by
 have := FR (P := P) (G := G) (h := h) (dst := dst) (ty := ty) (pos := pos) (after := after) (g := g) hS hT (AD hx)
 have hb := b.toNat_lt
 rwa [FU (by unfold Ao; omega)] at this
theorem Cc (n : Int) : ((UInt8.ofInt n).toNat : Int) = n % 256 := by
 simp [UInt8.ofInt, UInt8.toNat_ofNat']; omega
theorem TI {S T : TypeId} {x : Operand} {n : Int} (hS : (P.underlying S).isSome = true) (hT : P.underlying T = some (.int .u8)) (hx : evO ρ x = some (.int n)) : Pure P G ⟨dst, .convert S T x, ty, pos, after, g⟩ ρ h (AV.byte (UInt8.ofInt n)) := by
 have := FR (P := P) (G := G) (h := h) (dst := dst) (ty := ty) (pos := pos) (after := after) (g := g) hS hT (AD hx)
 rw [IntKind.wrap_u8] at this
 unfold AV.byte
 rwa [Cc]
theorem VH {T T' : TypeId} {x y : Operand} {m n : Int} (hx : ev ρ x = .int m) (hy : evO ρ y = some (.val (.int .u64 n))) (h0 : 0 ≤ n) (h1 : n ≤ 64) (hb : Ao (m * 2 ^ n.toNat)) : Pure P G ⟨dst, .binOp .shl T x y T', ty, pos, after, g⟩ ρ h (.int (m * 2 ^ n.toNat)) :=
 Bi hx (AD hy) (fun _ => by rw [eqGuard_shl]; rfl) fun _ => by rw [binOp_shl, shift_shl .i64 .u64 m n h0 h1, FU hb]; rfl
theorem UX {T T' : TypeId} {x y : Operand} {m n : Int} (hx : ev ρ x = .int m) (hy : evO ρ y = some (.val (.int .u64 n))) (h0 : 0 ≤ n) (h1 : n ≤ 64) : Pure P G ⟨dst, .binOp .shr T x y T', ty, pos, after, g⟩ ρ h (.int (m / 2 ^ n.toNat)) :=
 Bi hx (AD hy) (fun _ => by rw [eqGuard_shr]; rfl) fun _ => by rw [binOp_shr, shift_shr .i64 .u64 m n h0 h1]; rfl
theorem Uy {T E E' : TypeId} {x : Operand} {v : Value} {n sz : Nat} {xs : List AV} (hT : P.underlying T = some (.slice E')) (hx : evO ρ x = some (.val v)) (hm : Ent.row v n E sz xs ∈ h) : Pure P G ⟨dst, .call { callee := .builtin .len, args := #[x], argTypes := #[T] }, ty, pos, after, g⟩ ρ h (.int n) := by
 intro c I m a w _ k s
 have e1 := AQ (s.ev x) (AD hx)
 refine ⟨_, rfl, fun w' _ => ?_⟩
 obtain ⟨us, ho, _⟩ := k.ent _ hm
 rcases ho.2 with ⟨rfl, rfl⟩ | ⟨g, cap, cur, rfl, _⟩
 · simp [execOp, resolve, invoke, builtin, e1, Builtin.len_, run_underlying hT, goInt]
 · simp [execOp, resolve, invoke, builtin, e1, Builtin.len_, run_underlying hT, goInt]
end
section
variable {k : Kx} {Q : Exit → Env → H → Prop} {ρ ρ' : Env} {h h1 h2 : H} {ops : Array Oper} {l : List Oper} {d : Nat} {dst : Option Tmp} {ty : TypeId} {pos : String} {after : Array Edge} {g : Option (Nat × Bool)}
theorem J4 {P : Program} {T E : TypeId} (hT : P.underlying T = some (.slice E)) (ad : Option Addr) (n c : Nat) (w : World) : (binOp .eql T (.slice ad n c) (.slice none 0 0)).run P w = .ok (.bool ad.isNone) w := by
 have h1 : ∀ m, (Op.equalIn (m + 1) T (.slice ad n c) (.slice none 0 0)).run P w = .ok ad.isNone w := fun m => by
  simp only [Op.equalIn, Sem.run_bind, run_underlying hT, Result.andThen_ok]
  cases ad <;> rfl
 have h2 : (Op.equal T (.slice ad n c) (.slice none 0 0)).run P w = .ok ad.isNone w := h1 9999
 simp only [binOp, Sem.run_bind, h2]
 first | rfl | simp
theorem fR {T T' E : TypeId} {x y : Operand} {sz eb : Nat} {rows : List (List D)} (hx : evO ρ x = some (.d (.l sz eb rows))) (hy : evO ρ y = some (.val (.slice none 0 0))) (hT : k.P.underlying T = some (.slice E)) (hd : Nat.blt d k.n = true)
 (hj : All fun b => Imp (b = true → rows = []) (JL k ops l Q ((d, .bool b) :: ρ) h)) : JL k ops (⟨some d, .binOp .eql T x y T', ty, pos, after, none⟩ :: l) Q ρ h := by
 refine Ef rfl (fun t ht => by cases ht; exact blt hd) fun I a w k1 k2 => ?_
 have e1 := BI (k2.ev x) (AD hx)
 have e2 := AQ (k2.ev y) (AD hy)
 have key : ∀ (b : Bool), (b = true → rows = []) → (execOp a.eval ⟨some d, .binOp .eql T x y T', ty, pos, after, none⟩).run k.P w = .ok (.value (.bool b)) w →
  ∃ v w' I' r h', (execOp a.eval ⟨some d, .binOp .eql T x y T', ty, pos, after, none⟩).run k.P w = .ok (.value v) w' ∧ Ok k.c I' h' w' ∧ SF k.n w' I' ρ a ∧ AV.rel w' I' r v ∧ JL k ops l Q (put ρ (some d) r) h' :=
  fun b hb hrun => ⟨_, w, I, .bool b, h, hrun, k1, k2, rfl, (hj.get b).get hb⟩
 generalize hv : a.eval x = v at e1
 cases e1 with
 | nil => exact key true (fun _ => rfl) (by simp [execOp, hv, e2, J4 hT, eqGuard])
 | emp => exact key false (fun h => by cases h) (by simp [execOp, hv, e2, J4 hT, eqGuard])
 | l _ _ _ ad cap css => exact key false (fun h => by cases h) (by simp [execOp, hv, e2, J4 hT, eqGuard])
theorem cD {α : Type} (f : α → List D) {T E : TypeId} {z : Value} {sz eb : Nat} (hT : k.P.underlying T = some (.slice E)) (he : El k.P E z sz eb) (hd : Nat.blt d k.n = true)
 (hj : All fun v => JL k ops l Q ((d, .val v) :: ρ) (AL v E sz f [] :: h)) : JL k ops (⟨some d, .buildSlice T 0 #[], ty, pos, after, none⟩ :: l) Q ρ h := by
 obtain ⟨i, hi, hz0, hz1, _⟩ := he.get
 refine Ef rfl (fun t ht => by cases ht; exact blt hd) fun I a w k1 k2 => ?_
 refine ⟨.slice (some ⟨w.heap.size, 0, none⟩) 0 0, w.alloc (.cells #[] E), I, .val (.slice (some ⟨w.heap.size, 0, none⟩) 0 0), _, ?_, k1.fresh _ (AL (.slice (some ⟨w.heap.size, 0, none⟩) 0 0) E sz f []) rfl ?_, k2.fresh k1 _, rfl, hj.get _⟩
 · simp [execOp, Instr.buildSlice, run_underlying hT, sizeOf, typeInfo, hi, Instr.fill, newRow]
   have : Array.range 0 = #[] := by apply Array.ext'; simp
   rw [this, Array.map_empty]
 · refine ⟨[], ⟨by simp, .inr ⟨w.heap.size, 0, #[], rfl, by simp, heap_alloc_new w _, ?_⟩⟩, trivial⟩
   simp
end
section
variable {k : Kx} {Q : Exit → Env → H → Prop} {ρ ρ' : Env} {h h1 h2 : H} {ops : Array Oper} {l : List Oper} {d : Nat} {dst : Option Tmp} {ty : TypeId} {pos : String} {after : Array Edge} {g : Option (Nat × Bool)} {e1 e2 e3 e4 e5 e6 : Ent}
theorem Ya {T T0 : TypeId} {x y : Operand} {b : Nat} {cs vs : List AV} {z : Value} {sz eb : Nat} (hx : evO ρ x = some (.val (.pointer (some ⟨b, 0, none⟩)))) (hy : evO ρ y = some (.agg cs)) (hs : cs.all AV.flat = true) (hE : El k.P T z sz eb) (hn : sz = cs.length) (hl : vs.length = cs.length) (hh : h = h1 ++ .cells b T0 vs :: h2)
 (hj : JL k ops l Q ρ (h1 ++ .cells b T0 cs :: h2)) : JL k ops (⟨none, .store T x y, ty, pos, after, none⟩ :: l) Q ρ h := by
 refine HH (off := 0) (r := .agg cs) (vs := vs) (AD hx) (AD hy) hs hE hn hh (by simp [AV.cl, hl]) ?_
 have : setAt vs 0 (AV.agg cs).cl = cs := by simp [setAt, AV.cl, ← hl]
 rw [this]
 exact hj
theorem ZM {β : Type} {X : β → AV} {en : β → Ent} {f : FuncId} {xs : Array Operand} {ats : Array TypeId} {args : List AV} (hargs : GJ ρ xs.toList = some args) (hcal : Cal k.P f) (hac : AC k.P k.c.G f args [] fun r h => ∃ v, r = .ret (X v) ∧ h = [en v]) (hd : Nat.blt d k.n = true)
 (hj : All fun v => JL k ops l Q ((d, X v) :: ρ) (en v :: h)) : JL k ops (⟨some d, .call { callee := .value (.func f), args := xs, argTypes := ats }, ty, pos, after, none⟩ :: l) Q ρ h :=
 Ny (hc := []) (hr := h) hargs hcal rfl hac hd (fun r h' hq => by obtain ⟨v, e1, e2⟩ := hq; cases e1; subst e2; exact hj.get v) (fun ch h' hq => by obtain ⟨v, e1, _⟩ := hq; cases e1)
theorem LS {β : Type} {X : β → AV} {en : β → Ent} {e0 : Ent} {f : FuncId} {xs : Array Operand} {ats : Array TypeId} {args : List AV} (hargs : GJ ρ xs.toList = some args) (hcal : Cal k.P f) (hac : AC k.P k.c.G f args [e0] fun r h => ∃ v, r = .ret (X v) ∧ h = [en v]) (hd : Nat.blt d k.n = true)
 (hj : All fun v => JL k ops l Q ((d, X v) :: ρ) (en v :: h2)) : JL k ops (⟨some d, .call { callee := .value (.func f), args := xs, argTypes := ats }, ty, pos, after, none⟩ :: l) Q ρ (e0 :: h2) :=
 GQ (VS.perm (List.perm_middle (l₁ := []) (l₂ := h2))) (Ny (hc := [e0]) (hr := h2) hargs hcal rfl hac hd (fun r h' hq => by obtain ⟨v, e1, e2⟩ := hq; cases e1; subst e2; exact hj.get v) (fun ch h' hq => by obtain ⟨v, e1, _⟩ := hq; cases e1))
theorem LF {β : Type} {X : β → AV} {en : β → Ent} {e0 : Ent} {f : FuncId} {xs : Array Operand} {ats : Array TypeId} {args : List AV} (hargs : GJ ρ xs.toList = some args) (hcal : Cal k.P f) (hac : AC k.P k.c.G f args [e0] fun r h => ∃ v, r = .ret (X v) ∧ h = [en v]) (hd : Nat.blt d k.n = true)
 (hj : All fun v => JL k ops l Q ((d, X v) :: ρ) (en v :: e1 :: e2 :: e3 :: e4 :: h2)) : JL k ops (⟨some d, .call { callee := .value (.func f), args := xs, argTypes := ats }, ty, pos, after, none⟩ :: l) Q ρ (e1 :: e2 :: e3 :: e4 :: e0 :: h2) :=
 GQ (VS.perm (List.perm_middle (l₁ := [e1, e2, e3, e4]) (l₂ := h2))) (Ny (hc := [e0]) (hr := e1 :: e2 :: e3 :: e4 :: h2) hargs hcal rfl hac hd (fun r h' hq => by obtain ⟨v, e1, e2⟩ := hq; cases e1; subst e2; exact hj.get v) (fun ch h' hq => by obtain ⟨v, e1, _⟩ := hq; cases e1))
theorem Dc {α : Type} {f : α → List D} {xs : List α} {v : Value} {E : TypeId} {sz : Nat} (eb : Nat) (hm : AL v E sz f xs ∈ h) (h0 : Nat.blt 0 sz = true) (hsz : ∀ a, (f a).length = sz) (hb : xs.length * eb ≤ 140737488355328) : Bor h (.val v) (.d (.l sz eb (xs.map f))) := by
 intro c I w u kk hr
 obtain rfl : u = v := hr
 obtain ⟨s, t, rfl⟩ := List.append_of_mem hm
 obtain ⟨os, ho, hos⟩ := kk.ent (AL u E sz f xs) (by simp)
 rcases ho.2 with ⟨rfl, hn⟩ | ⟨g, cap, cur, hv, _, hg, hnc, hcm, hcs, htake⟩
 · have : xs = [] := List.eq_nil_of_length_eq_zero hn
   subst this
   exact .nil sz eb
 · have hin : g ∈ blks (s ++ AL u E sz f xs :: t) := by
    rw [Ad]; subst hv
    exact List.mem_append.2 (.inr (by simp [blks, Ent.blk, Value.ownBlock]))
   have hcell : ∀ q x, (xs.map f).flatten[q]? = some x → ∃ c, w.cell? ((⟨g, 0, none⟩ : Addr).add q) = some c ∧ Rel w I x c := fun q x hx => by
    obtain ⟨c, hc1, hc2⟩ := AV.rels_get hos q x.av (by rw [List.getElem?_map, hx]; rfl)
    exact ⟨c, ho.cells (g := g) (by rw [hv]; rfl) q c hc1, D.av_rel' hc2⟩
   have hszs : ∀ r ∈ xs.map f, r.length = sz := fun r hr => by obtain ⟨a, _, rfl⟩ := List.mem_map.1 hr; exact hsz a
   have hq : ∀ (j u : Nat) (r : List D) (x : D), (xs.map f)[j]? = some r → r[u]? = some x → (xs.map f).flatten[j * sz + u]? = some x := fun j u r x hr hx => by
    have hu : u < sz := by
     have := (List.getElem?_eq_some_iff.1 hx).1
     rwa [hszs r (List.mem_of_getElem? hr)] at this
    rw [CM (blt h0) _ hszs, Nat.add_comm, Nat.add_mul_div_right _ _ (blt h0), Nat.add_mul_mod_self_right, Nat.div_eq_of_lt hu, Nat.mod_eq_of_lt hu, Nat.zero_add, hr]
    exact hx
   have hres := Rel.l (w := w) (I := fun b => I b ∨ b ∈ blks (s ++ AL u E sz f xs :: t)) sz eb (xs.map f) ⟨g, 0, none⟩ cap (fun j u => (w.cell? ((⟨g, 0, none⟩ : Addr).add (j * sz + u))).getD undef) (.inr hin) (by simpa using hnc) hcm (by simpa using hb) hszs (fun j u r x hr hx => by
    obtain ⟨c, hc1, _⟩ := hcell _ x (hq j u r x hr hx)
    simp only [hc1, Option.getD_some]) (fun j u r x hr hx => by
    obtain ⟨c, hc1, hc2⟩ := hcell _ x (hq j u r x hr hx)
    simp only [hc1, Option.getD_some]
    exact hc2.mono (fun _ _ => rfl) fun _ h => .inl h)
   rw [List.length_map] at hres
   show Rel w (fun b => I b ∨ b ∈ blks (s ++ AL u E sz f xs :: t)) (.l sz eb (xs.map f)) u
   generalize (fun b => I b ∨ b ∈ blks (s ++ AL u E sz f xs :: t)) = J at hres ⊢
   rw [hv]
   exact hres
theorem QC {T E : TypeId} {x0 x1 x2 x3 : Operand} {b0 b1 b2 b3 : UInt8} {z : Value} (h0 : evO ρ x0 = some (AV.byte b0)) (h1 : evO ρ x1 = some (AV.byte b1)) (h2 : evO ρ x2 = some (AV.byte b2)) (h3 : evO ρ x3 = some (AV.byte b3)) (hT : k.P.underlying T = some (.slice E)) (he : El k.P E z 1 1)
 (hd : Nat.blt d k.n = true) (hj : JL k ops l Q ((d, .d (.l 1 1 ([b0, b1, b2, b3].map Dp))) :: ρ) h) : JL k ops (⟨some d, .buildSlice T 4 #[(0, x0), (1, x1), (2, x2), (3, x3)], ty, pos, after, none⟩ :: l) Q ρ h := by
 refine Jk (xs := [x0, x1, x2, x3]) (rows := [b0, b1, b2, b3].map Dp) hT he (by decide) (by simp) rfl ?_ ?_ ?_ (by simp) (by simp) (fun t ht => by cases ht; exact blt hd) hj
 · simp only [List.map_cons, List.map_nil, AD h0, AD h1, AD h2, AD h3]; rfl
 · intro x hx
   simp only [List.mem_cons, List.not_mem_nil, or_false] at hx
   rcases hx with rfl | rfl | rfl | rfl
   · rw [AD h0]; rfl
   · rw [AD h1]; rfl
   · rw [AD h2]; rfl
   · rw [AD h3]; rfl
 · intro r hr
   simp only [List.map_cons, List.map_nil, List.mem_cons, List.not_mem_nil, or_false] at hr
   rcases hr with rfl | rfl | rfl | rfl <;> rfl
theorem SI {α : Type} {f : α → List D} {ys : List α} {T E : TypeId} {z : Value} {sz eb len : Nat} {parts : Array (Nat × Operand)} {xs : List Operand} (hT : k.P.underlying T = some (.slice E)) (he : El k.P E z sz eb) (h0 : 0 < sz)
 (hp : parts = ((xs.zipIdx).map fun p => (p.2, p.1)).toArray) (hl : len = xs.length) (hr : xs.map (fun x => (ev ρ x).cl) = (ys.map f).map (·.map D.av)) (hs : ∀ x ∈ xs, (ev ρ x).stor = true) (hsz : ∀ y, (f y).length = sz) (hc : ys.length * sz ≤ 16777216)
 (hd : Nat.blt d k.n = true) (hj : All fun v => JL k ops l Q ((d, .val v) :: ρ) (AL v E sz f ys :: h)) : JL k ops (⟨some d, .buildSlice T len parts, ty, pos, after, none⟩ :: l) Q ρ h := by
 obtain ⟨i, hi, hz0, hz1, _⟩ := he.get
 have hxl : xs.length = ys.length := by have := congrArg List.length hr; simpa using this
 refine Ef rfl (fun t ht => by cases ht; exact blt hd) fun I a w k1 k2 => ?_
 obtain ⟨hrel, hcs⟩ := Nd k2 xs (ys.map f) hr hs
 have hsv : ∀ v ∈ xs.map a.eval, v.cells.size = sz := fun v hv => by
  obtain ⟨r, h1, h2⟩ := hcs v hv
  obtain ⟨y, _, rfl⟩ := List.mem_map.1 h1
  rw [h2]; exact hsz y
 let zc : Array Value := if len * sz = 0 then #[] else z.cells
 obtain ⟨cells, hf1, hf2⟩ := NB (sz := sz) (xs.map a.eval) 0 ((Array.range (len * sz)).map (zc[· % zc.size]!)) [] ((Array.range (len * sz)).map (zc[· % zc.size]!)).toList hsv rfl (by simp) (by simp [hl])
 simp only [List.nil_append] at hf2
 have hrun : (Instr.buildSlice T len (parts.map fun (i, x) => (i, a.eval x))).run k.P w = .ok (.slice (some ⟨w.heap.size, 0, none⟩) len len) (w.alloc (.cells cells E)) := by
  have hparts : (parts.map fun (i, x) => (i, a.eval x)).toList = ((xs.map a.eval).zipIdx 0).map fun p => (p.2, p.1) := by
   rw [hp]; simp [List.zipIdx_map]
  have hlt : ¬ len * sz > 2 ^ 24 := by rw [hl, hxl]; omega
  simp only [Instr.buildSlice, Sem.run_bind, run_underlying hT, Result.andThen_ok, sizeOf, typeInfo, run_program, hi, Sem.run_pure, hz1, hlt, if_false, Sem.run_ite, zeroValue, hz0]
  by_cases hzz : len * sz = 0
  · simp only [zc, hzz, if_true] at hf1
    simp only [hzz, if_true, hparts]
    rw [hf1]; simp [newRow]
  · simp only [zc, hzz, if_false] at hf1
    simp only [hzz, if_false, hparts]
    rw [hf1]; simp [newRow]
 have hcl : cells.toList.length = ys.length * sz := by
  rw [hf2]
  have := AV.rels_length hrel
  rw [List.length_map, B8 (ys.map f) (fun r hr => by obtain ⟨y, _, rfl⟩ := List.mem_map.1 hr; exact hsz y), List.length_map] at this
  exact this.symm
 refine ⟨.slice (some ⟨w.heap.size, 0, none⟩) ys.length ys.length, w.alloc (.cells cells E), I, .val (.slice (some ⟨w.heap.size, 0, none⟩) ys.length ys.length), _, ?_, k1.fresh _ (AL (.slice (some ⟨w.heap.size, 0, none⟩) ys.length ys.length) E sz f ys) rfl ?_, k2.fresh k1 _, rfl, hj.get _⟩
 · rw [← hxl, ← hl]
   simp only [execOp, Sem.run_bind, hrun, Result.andThen_ok, Sem.run_pure]
 · have hmono : ∀ b, I b → (w.alloc (.cells cells E)).heap[b]? = w.heap[b]? := fun b hb => Go.RowKit.Below.heap_alloc w _ b (k1.imm b hb).1
   refine ⟨cells.toList, World.ownsRow_lit w cells ys.length (Nat.zero_le _) ?_ (by rw [← hcl]; simp), ?_⟩
   · have : ys.length ≤ ys.length * sz := Nat.le_mul_of_pos_right _ h0
     simp only [maxLen]; omega
   · rw [hf2]
     exact AV.rels_mono hmono (fun _ h => h) hrel
end
section
variable {P : Program} {G : List (Nat × List D)} {ρ : Env} {h : H} {dst : Option Tmp} {ty : TypeId} {pos : String} {after : Array Edge} {g : Option (Nat × Bool)}
theorem gB {x y : Operand} {m n : Int} {ats : Array TypeId} (hx : evO ρ x = some (.int m)) (hy : evO ρ y = some (.int n)) : Pure P G ⟨dst, .call { callee := .builtin .min, args := #[x, y], argTypes := ats }, ty, pos, after, g⟩ ρ h (.int (min m n)) :=
 Ah fun w I _ a hs => by
  have e1 := AQ (hs.ev x) (AD hx)
  have e2 := AQ (hs.ev y) (AD hy)
  refine ⟨_, rfl, fun w' => ?_⟩
  have e3 : (if n < m then n else m) = min m n := by omega
  have hr : (Builtin.min_ ats ty #[.int .i64 m, .int .i64 n]).run P w' = .ok (.int .i64 (min m n)) w' := by rw [← e3]; simp [Builtin.min_, Builtin.min2]
  simp [execOp, resolve, invoke, builtin, e1, e2, hr]
theorem Rel.cut3 {w : World} {I : Nat → Prop} {sz eb n cap : Nat} {rows : List (List D)} {ad : Option Addr} (h : Rel w I (.l sz eb rows) (.slice ad rows.length cap)) (h2 : n ≤ rows.length) : Rel w I (.l sz eb (rows.take n)) (.slice ad n n) := by
 generalize hv : Value.slice ad rows.length cap = v at h
 cases h with
 | nil => cases hv; obtain rfl : n = 0 := by simpa using h2
          exact .nil sz eb
 | emp _ _ ad0 => cases hv; obtain rfl : n = 0 := by simpa using h2
                  exact .emp sz eb ad0
 | l _ _ _ ad0 cap0 css hI hcap hm hb hsz hc hr =>
   cases hv
   have hlen : (rows.take n).length = n := by rw [List.length_take]; omega
   have hg : ∀ (j : Nat) (r : List D), (rows.take n)[j]? = some r → rows[j]? = some r := fun j r hj => by
    rw [List.getElem?_take] at hj
    split at hj
    · exact hj
    · cases hj
   have := Rel.l (w := w) (I := I) sz eb (rows.take n) ad0 n css hI jB jB (Nat.le_trans (Nat.mul_le_mul_right eb (by rw [hlen]; exact h2)) hb) (fun r hr => hsz r (List.mem_of_mem_take hr))
    (fun j u r x hj hx => hc j u r x (hg j r hj) hx) (fun j u r x hj hx => hr j u r x (hg j r hj) hx)
   rwa [hlen] at this
theorem QK {α : Type} {f : α → List D} {xs : List α} {T E : TypeId} {x hi mx : Operand} {sz eb : Nat} {n : Int} {z : Value} {eb' : Nat} (hx : evO ρ x = some (.d (.l sz eb (xs.map f)))) (hhi : evO ρ hi = some (.int n)) (hmx : evO ρ mx = some (.int n)) (hT : P.underlying T = some (.slice E)) (hE : El P E z sz eb')
 (h0 : 0 ≤ n) (h2 : n ≤ xs.length) : Pure P G ⟨dst, .slice T x none (some hi) (some mx), ty, pos, after, g⟩ ρ h (.d (.l sz eb ((xs.take n.toNat).map f))) :=
 Ah fun w I _ a hs => by
  obtain ⟨i, hE, _, _, _⟩ := hE.get
  have e1 : Rel w I (.l sz eb (xs.map f)) (a.eval x) := by have := hs.ev x; rw [AD hx] at this; exact this
  have e2 := AQ (hs.ev hi) (AD hhi)
  have e3 := AQ (hs.ev mx) (AD hmx)
  obtain ⟨ad, cap, hv, hcap⟩ : ∃ ad cap, a.eval x = .slice ad (xs.map f).length cap ∧ (xs.map f).length ≤ cap := by
   have key : ∀ {rows : List (List D)}, Rel w I (.l sz eb rows) (a.eval x) → ∃ ad cap, a.eval x = .slice ad rows.length cap ∧ rows.length ≤ cap := by
    intro rows e
    generalize a.eval x = v at e
    cases e with
    | nil => exact ⟨none, 0, rfl, Nat.le_refl _⟩
    | emp _ _ ad => exact ⟨some ad, 0, rfl, Nat.le_refl _⟩
    | l _ _ _ ad cap css hI hcap => exact ⟨some ad, cap, rfl, hcap⟩
   exact key e1
  rw [hv] at e1
  have hcut := Rel.cut3 (n := n.toNat) e1 (by simp; omega)
  rw [← List.map_take] at hcut
  refine ⟨_, hcut, fun w' => ?_⟩
  have b1 : 0 ≤ n ∧ n ≤ (cap : Int) := by simp at hcap; omega
  have b2 : n ≤ max n 0 := by omega
  simp [execOp, hv, e2, e3, Instr.sliceAt, run_underlying hT, Instr.slice, Instr.sliceBounds, Instr.sliceBound, asIntOf, b1, b2, sizeOf, typeInfo, hE]
  intro _
  cases ad with
  | none => rfl
  | some ad0 =>
    obtain ⟨bb, oo, ss⟩ := ad0
    cases ss <;> simp [Addr.add]
end
theorem AV.le_agg {xs ys : List AV} (h : AVs.le xs ys) : AV.le (.agg xs) (.agg ys) := fun _ _ _ ⟨vs, h1, h2⟩ => ⟨vs, h1, AVs.le_rel h h2⟩
theorem RV1.le {P : Program} {G : List (Nat × List D)} {ρ : Env} {h : H} {r : ResultVar} {x y : AV} (hr : RV1 P G ρ h r x) (hl : AV.le x y) : RV1 P G ρ h r y := fun c I n a w h1 h2 h3 => let ⟨v, e1, e2⟩ := hr c I n a w h1 h2 h3; ⟨v, hl _ _ _ e1, e2⟩
theorem RVs.le {P : Program} {G : List (Nat × List D)} {ρ : Env} {h : H} : ∀ {rs : List ResultVar} {xs ys : List AV}, RVs P G ρ h rs xs → AVs.le xs ys → RVs P G ρ h rs ys
 | [], [], [], _, _ => trivial
 | _ :: _, _ :: _, _ :: _, ⟨h1, h2⟩, ⟨g1, g2⟩ => ⟨h1.le g1, RVs.le h2 g2⟩
theorem D1 {P : Program} {G : List (Nat × List D)} {rs : List ResultVar} {Q : AE → H → Prop} {e : Exit} {ρ ρ1 : Env} {h h1 h' : H} {xs ys : List AV} (v : VS ρ h ρ1 h1) (hrv : RVs P G ρ1 h1 rs xs) (hle : AVs.le xs ys) (he : Tg e = true) (hs : List.Sublist h' h1) (hq : Q (.ret (OF ys)) h') : bf P G rs Q e ρ h :=
 FM v (hrv.le hle) he hs hq
theorem vid {ρ : Env} {h : H} : VS ρ h ρ h := VS.of_le (Env.le_refl _)
inductive Mix : List Oper → Nat → Nat → List (Nat × Bool) → List Oper → Prop where
 | nil {l : List Oper} {i : Nat} : Mix l 0 i [] l
 | cons {o : Oper} {l l2 : List Oper} {n i : Nat} {p : List (Nat × Bool)} (h : Mix l n (i + 1) p l2) : Mix (o :: l) (n + 1) i ((i, false) :: p) l2
theorem Mix.drop {l l2 : List Oper} {n i : Nat} {p : List (Nat × Bool)} (h : Mix l n i p l2) : l.drop n = l2 := by
 induction h with
 | nil => rfl
 | cons h ih => simpa using ih
inductive Rv {α : Type} : List α → List α → List α → Prop where
 | nil {r : List α} : Rv [] r r
 | cons {x : α} {l a r : List α} (h : Rv l (x :: a) r) : Rv (x :: l) a r
def ZD : Op → Bool
 | .store .. => true
 | .mapUpdate .. => true
 | _ => false
def dK (P : Program) (o : Oper) : Bool :=
 match o.op with
 | .call c => (match c.callee with
   | .value (.func _) => (match P.underlying o.type with
     | some (.int _) => false
     | some .bool => false
     | some .string => false
     | _ => true)
   | _ => false)
 | _ => false
def Fm (P : Program) (ops : Array Oper) (n : Nat) : Bool :=
 ops.any (dK P) && Region.noSelect ops && decide (n ≤ ops.size) && (decide (n = ops.size) || (Region.sinkB .any ops n && Region.chainB .any ops n)) && (ops.toList.take n).all fun o => !ZD o.op
def EM (ops : Array Oper) (listed : Array Bool) (n i : Nat) : Bool := (Region.ready .any ops listed).contains i && Region.free .any ops listed i && decide (i < n)
def Nc (ops : Array Oper) (listed : Array Bool) (n i : Nat) : Bool := decide (Region.ready .any ops listed = [i]) && decide (i < n)
structure JE (k : Kx) (ops : Array Oper) (n f : Nat) (listed : Array Bool) (l2 : List Oper) (s : Nat) (pend held : List (Nat × Bool)) (Q : Exit → Env → H → Prop) (ρ : Env) (h : H) : Prop where
 get : Fm k.P ops n = true → HeadInv .any ops n listed → ∀ I a w, Ok k.c I h w → SF k.n w I ρ a → a.defers = k.df →
  HP k.P .any ops (Dq I h w) n (fun listed' a' w' => Region.seqB .any ops (ops.size - n) n listed' = true ∧ wpList k.P ops (lift k Q) l2 a' w') f listed a w
theorem cA {P : Program} {ops : Array Oper} {n : Nat} (hs : Fm P ops n = true) {i : Nat} (hi : i < n) : ∀ listed, HeadInv .any ops n listed → i ∈ Region.ready .any ops listed → ∀ j ∈ Region.ready .any ops listed, j < n := by
 simp only [Fm, Bool.and_eq_true, Bool.or_eq_true, decide_eq_true_eq] at hs
 obtain ⟨⟨⟨⟨_, hsel⟩, hle⟩, hor⟩, _⟩ := hs
 intro listed inv hr j hj
 rcases hor with hn | ⟨hs, hc⟩
 · obtain ⟨_, o, ho, _⟩ := mem_ready.1 hj
   rw [hn]; exact (Array.getElem?_eq_some_iff.1 ho).1
 · rcases Nat.lt_or_ge j n with h | h
   · exact h
   · obtain ⟨_, o, ho, _⟩ := mem_ready.1 hj
     have hlt := (Array.getElem?_eq_some_iff.1 ho).1
     exact absurd hj (tail_waits hs hc jB inv _ i rfl hi (mem_ready.1 hr).1 j h)
section
variable {k : Kx} {Q : Exit → Env → H → Prop} {ρ ρ' : Env} {h h' : H} {ops : Array Oper} {listed : Array Bool} {l2 : List Oper} {n f s i d : Nat} {op : Op} {ty : TypeId} {pos : String} {after : Array Edge} {pend held : List (Nat × Bool)} {b : Bool}
theorem CH {id : Nat} {l l2 : List Oper} {p : List (Nat × Bool)} {P : Program} (t : Nat) (hm : P.follows .mixedOrders = true) (hP : k.P = P) (hn : l.length = n + t) (hs : Fm P l.toArray n = true) (hx : Mix l n 0 p l2)
 (hj : JE k l.toArray n n (Array.replicate l.length false) l2 n p [] Q ρ h) : J k (.region id l.toArray true) Q ρ h := by
 subst hP
 intro I a w h1 h2 h3
 refine wp_region_any hm ?_
 have hsm : Dq I h w { w with drawn := w.drawn + 1 } := ⟨rfl, rfl, rfl, Nat.le_refl _, fun _ _ => rfl⟩
 have inv0 : HeadInv .any l.toArray n (Array.replicate l.length false) :=
  ⟨by simp, fun j oj _ hl => (by rw [getD_replicate_false] at hl; cases hl), fun t _ ht => getD_in (by simpa using ht) (getD_replicate_false _ _)⟩
 have H := hj.get hs inv0 I a _ (h1.same hsm) (SF.same h1 hsm h2) h3
 have K := EC (Q := lift k Q) (g := l.length - n) (fun listed' a' w' hL => by
  have hd := hx.drop
  have := wpAny_of_seq (md := .any) (Q' := lift k Q) l2 n listed' a' w' (fun j => by rw [← hd]; simp [List.getElem?_drop]) (by
   have e : l2.length = l.toArray.size - n := by rw [← hd]; simp
   rw [e]; exact hL.1) hL.2
  have e : l2.length = l.length - n := by rw [← hd]; simp
  rwa [e] at this) _ _ _ _ H
 rw [show n + (l.length - n) = l.toArray.size by simp; omega] at K
 simpa using K
theorem ct (hs : Fm k.P ops n = true) : Region.noSelect ops = true := by
 simp only [Fm, Bool.and_eq_true] at hs
 exact hs.1.1.1.2
theorem aR (hs : Fm k.P ops n = true) : ∀ (listed : Array Bool) (a : Act) (w : World), (Region.seqB .any ops (ops.size - n) n listed = true ∧ wpList k.P ops (lift k Q) l2 a w) → ∀ j ∈ Region.ready .any ops listed, n ≤ j :=
 fun _ _ _ h => seqB_ready h.1
theorem dL {o : Oper} {v : Value} {r : AV} (ho : ops[i]? = some o) (hc : EM ops listed n i = true) (hd : ∀ t, o.dst = some t → t < k.n)
 (hy : ∀ I a w, Ok k.c I h w → SF k.n w I ρ a → ∃ v, AV.rel w I r v ∧ YieldsIf k.P ops (Dq I h w) o v a)
 (hj : JE k ops n f (listed.setIfInBounds i true) l2 s pend held Q (put ρ o.dst r) h) : JE k ops n (f + 1) listed l2 s ((i, b) :: pend) held Q ρ h := by
 refine ⟨fun hs inv I a w h1 h2 h3 => ?_⟩
 simp only [EM, Bool.and_eq_true, decide_eq_true_eq] at hc
 obtain ⟨⟨hr, hf⟩, hin⟩ := hc
 have hr' : i ∈ Region.ready .any ops listed := by simpa using hr
 obtain ⟨v, hv, hyv⟩ := hy I a w h1 h2
 exact Ic ho (Region.noSelect_spec (ct hs)) (cA hs hin) hin (aR hs) f listed a w inv (Region.free_spec ho hf) hr' hyv (Dq.refl _ _ _)
  (hj.get hs (inv.set hr' hin) I _ w h1 (h2.put hd hv) (by rw [Act.defers_put]; exact h3))
theorem je_q {r : AV} (ho : ops[i]? = some ⟨some d, op, ty, pos, after, none⟩) (hc : EM ops listed n i = true) (hp : Pure k.P k.c.G ⟨some d, op, ty, pos, after, none⟩ ρ h r) (hd : Nat.blt d k.n = true)
 (hj : JE k ops n f (listed.setIfInBounds i true) l2 s pend held Q ((d, r) :: ρ) h) : JE k ops n (f + 1) listed l2 s ((i, false) :: pend) held Q ρ h :=
 dL (v := undef) ho hc (fun t ht => by cases ht; exact blt hd) (fun I a w h1 h2 => by
  obtain ⟨v, hv, hrun⟩ := hp k.c I k.n a w rfl h1 h2
  exact ⟨v, hv, .inl ⟨by simp [Region.wanted], fun w' hw' => hrun w' (hw'.weak h1)⟩⟩) hj
theorem dk (_hc : Nc ops listed n i = false) (hj : JE k ops n f listed l2 s pend ((i, b) :: held) Q ρ h) : JE k ops n f listed l2 s ((i, b) :: pend) held Q ρ h := ⟨hj.get⟩
theorem dE {q : Nat × Bool} {p : List (Nat × Bool)} (_hp : Rv (q :: held) [] p) (hj : JE k ops n f listed l2 s p [] Q ρ h) : JE k ops n f listed l2 (s + 1) [] (q :: held) Q ρ h := ⟨hj.get⟩
theorem b7 (hc : Region.seqB .any ops (ops.size - n) n listed = true) (hj : JL k ops l2 Q ρ h) : JE k ops n 0 listed l2 s [] [] Q ρ h := ⟨fun _ _ I a w h1 h2 h3 => ⟨hc, hj I a w h1 h2 h3⟩⟩
theorem Dq.step {I I' : Nat → Prop} {h h' : H} {w w' : World} (s : Dq I h w w') : ∀ u, Dq I' h' w' u → Dq I h w u := fun _ t => ⟨t.os.trans s.os, t.tape.trans s.tape, t.output.trans s.output, Nat.le_trans s.size t.size, fun b hb => (t.block b (Nat.lt_of_lt_of_le hb s.size)).trans (s.block b hb)⟩
theorem Rc {f' : FuncId} {xs : Array Operand} {ats : Array TypeId} {args : List AV} {R : AE → H → Prop} (ho : ops[i]? = some ⟨some d, .call { callee := .value (.func f'), args := xs, argTypes := ats }, ty, pos, after, none⟩) (hc : Nc ops listed n i = true)
 (hargs : GJ ρ xs.toList = some args) (hcal : Cal k.P f') (hac : AC k.P k.c.G f' args [] R) (hd : Nat.blt d k.n = true) (hnp : ∀ ch h', ¬ R (.pan ch) h')
 (hret : ∀ r h', R (.ret r) h' → JE k ops n f (listed.setIfInBounds i true) l2 s pend held Q ((d, r) :: ρ) (h' ++ h)) : JE k ops n (f + 1) listed l2 s ((i, b) :: pend) held Q ρ h := by
 refine ⟨fun hs inv I a w h1 h2 h3 => ?_⟩
 simp only [Nc, Bool.and_eq_true, decide_eq_true_eq] at hc
 obtain ⟨hr, hin⟩ := hc
 have hr' : i ∈ Region.ready .any ops listed := by rw [hr]; simp
 refine ⟨by rw [hr]; simp, fun j hj => ?_⟩
 rw [hr] at hj
 obtain rfl : j = i := by simpa using hj
 refine ⟨hin, ?_⟩
 unfold wpOp
 rw [ho]
 dsimp only
 rw [if_pos (by simp [Region.wanted])]
 refine .inl ?_
 unfold Oper.wp
 rw [execOp_call_go, hcal]
 simp only [Oper.upon]
 have hargs' : (#[] ++ xs.map a.eval ++ #[] : Array Value) = (xs.toList.map a.eval).toArray := by
  apply Array.ext'; simp
 rw [hargs']
 have hrels : AV.rels w I args (xs.toList.map a.eval) := by rw [← Cd hargs]; exact EJ h2 xs.toList
 refine (hac I w _ (by simp) (by simp [blks]) (fun b hb => ⟨(h1.imm b hb).1, by simp [blks]⟩) (fun q hq => h1.glob q hq) hrels).mono ?_
 rintro e w' ⟨r, h', I', hR, hok, hrel⟩
 have k0 : Ok k.c I ([] ++ h) w := h1
 obtain ⟨k1, k2⟩ := Ok.call (hc := []) (hr := h) k0 hok
 have hsm : Dq I h w w' := ⟨hok.os, hok.tape, hok.output, hok.size, fun b hb => hok.keep b hb (by simp [blks])⟩
 have hsf : SF k.n w' I' ρ a := h2.mono k2 (fun b hb => hok.sup b hb)
 cases r with
 | ret r =>
   cases e with
   | returned v => exact ⟨hsm, Fv hsm.step _ _ _ _ ((hret r h' hR).get hs (inv.set hr' hin) I' _ w' k1 (hsf.put (fun t ht => by cases ht; exact blt hd) hrel) (by rw [Act.defers_put]; exact h3))⟩
   | panicked ch => exact hrel.elim
   | outgrown => exact hrel.elim
 | pan ch => exact absurd hR (hnp ch h')
theorem Cs {f' : FuncId} {xs : Array Operand} {ats : Array TypeId} {args : List AV} {r : AV} (ho : ops[i]? = some ⟨some d, .call { callee := .value (.func f'), args := xs, argTypes := ats }, ty, pos, after, none⟩) (hc : Nc ops listed n i = true)
 (hargs : GJ ρ xs.toList = some args) (hcal : Cal k.P f') (hac : ACr k.P k.c.G f' args r) (hd : Nat.blt d k.n = true)
 (hj : JE k ops n f (listed.setIfInBounds i true) l2 s pend held Q ((d, r) :: ρ) h) : JE k ops n (f + 1) listed l2 s ((i, b) :: pend) held Q ρ h :=
 Rc ho hc hargs hcal hac hd (fun ch h' hq => by cases hq.1) fun r' h' hq => by obtain ⟨e1, e2⟩ := hq; cases e1; subst e2; exact hj
theorem TC {β : Type} {X : β → AV} {en : β → Ent} {f' : FuncId} {xs : Array Operand} {ats : Array TypeId} {args : List AV} (ho : ops[i]? = some ⟨some d, .call { callee := .value (.func f'), args := xs, argTypes := ats }, ty, pos, after, none⟩) (hc : Nc ops listed n i = true)
 (hargs : GJ ρ xs.toList = some args) (hcal : Cal k.P f') (hac : AC k.P k.c.G f' args [] fun r h => ∃ v, r = .ret (X v) ∧ h = [en v]) (hd : Nat.blt d k.n = true)
 (hj : All fun v => JE k ops n f (listed.setIfInBounds i true) l2 s pend held Q ((d, X v) :: ρ) (en v :: h)) : JE k ops n (f + 1) listed l2 s ((i, b) :: pend) held Q ρ h :=
 Rc ho hc hargs hcal hac hd (fun ch h' hq => by obtain ⟨v, e1, _⟩ := hq; cases e1) fun r' h' hq => by obtain ⟨v, e1, e2⟩ := hq; cases e1; subst e2; exact hj.get v
end
structure Sl where
 ad : Option Addr
 n : Nat
 c : Nat
abbrev Sl.v (q : Sl) : Value := .slice q.ad q.n q.c
abbrev Sl.nil : Sl := ⟨none, 0, 0⟩
section
variable {k : Kx} {Q : Exit → Env → H → Prop} {ρ ρ' : Env} {h h' h1 h2 : H} {ops : Array Oper} {l : List Oper} {d : Nat} {ty : TypeId} {pos : String} {after : Array Edge} {e1 e2 e3 e4 : Ent}
theorem MX {v : Value} {n : Nat} {E : TypeId} {sz : Nat} {xs : List AV} (hh : h = h1 ++ .row v n E sz xs :: h2) (hj : ∀ q : Sl, v = q.v → JL k ops l Q ρ h) : JL k ops l Q ρ h := by
 intro I a w k1 k2 k3
 obtain ⟨os, ho, _⟩ := k1.ent (.row v n E sz xs) (by rw [hh]; simp)
 rcases ho.2 with ⟨rfl, _⟩ | ⟨g, cap, cur, rfl, _⟩
 · exact hj ⟨none, 0, 0⟩ rfl I a w k1 k2 k3
 · exact hj ⟨some ⟨g, 0, none⟩, n, cap⟩ rfl I a w k1 k2 k3
theorem iH {α : Type} {f : α → List D} {xs ys : List α} {T E : TypeId} {x y : Operand} {z : Value} {sz eb eb' : Nat} {v : Value} (hx : evO ρ x = some (.val v)) (hh : h = h1 ++ AL v E sz f xs :: h2) (hy : evO ρ y = some (.d (.l sz eb' (ys.map f)))) (hT : k.P.underlying T = some (.slice E)) (he : El k.P E z sz eb) (hz : z.cells.size = sz) (h0 : Nat.blt 0 sz = true)
 (hd : Nat.blt d k.n = true) (hb : (xs.length + ys.length) * eb ≤ 140737488355328) (hm : xs.length + ys.length ≤ 140737488355328)
 (hj : ∀ q : Sl, JL k ops l Q ((d, .val q.v) :: ρ) (h1 ++ AL q.v E sz f (xs ++ ys) :: h2)) :
 JL k ops (⟨some d, .call { callee := .builtin .append, args := #[x, y], argTypes := #[T, T] }, ty, pos, after, none⟩ :: l) Q ρ h := by
 refine PG (h1 := h1) (h2 := h2) (n := xs.length) (rows := ys.map f) hT he hz (blt h0) (AD hx) (AD hy) hh (by simpa using hb) (by simpa using hm) (fun t ht => by cases ht; exact blt hd) fun v' => ?_
 refine MX (h1 := h1) (h2 := h2) rfl fun q hq => ?_
 subst hq
 have := hj q
 rw [IZ]
 unfold AL at this
 rw [List.length_append] at this
 rw [List.length_map]
 exact this
theorem MY {α : Type} (f : α → List D) {T E : TypeId} {z : Value} {sz eb : Nat} (hT : k.P.underlying T = some (.slice E)) (he : El k.P E z sz eb) (hd : Nat.blt d k.n = true)
 (hj : All fun q : Sl => JL k ops l Q ((d, .val q.v) :: ρ) (AL q.v E sz f [] :: h)) : JL k ops (⟨some d, .buildSlice T 0 #[], ty, pos, after, none⟩ :: l) Q ρ h :=
 cD f hT he hd ⟨fun v => MX (h1 := []) rfl fun q e => by subst e; exact hj.get q⟩
end
section
variable {k : Kx} {Q : Exit → Env → H → Prop} {ρ ρ' : Env} {h h' : H} {ops : Array Oper} {listed : Array Bool} {n f i j d : Nat} {op : Op} {ty : TypeId} {pos : String} {after : Array Edge}
theorem Hz {P : Program} {o : Oper} {a : Act} {w : World} {K K' : Act → World → Prop} {Q Q' : Exit → Act → World → Prop} (hK : ∀ a w, K a w → K' a w) (hQ : ∀ e a w, e ≠ .normal → ¬ Q e a w) (h : o.wp P a w K Q) : o.wp P a w K' Q' := by
 unfold Oper.wp at *
 generalize (execOp a.eval o).run P w = r at *
 cases r with
 | ok n w' =>
   cases n <;> simp only [Oper.upon] at h ⊢
   case value u => exact hK _ _ h
   case skip => exact hK _ _ h
   case defer d => exact hK _ _ h
   case enter f args =>
    refine Calls.mono h fun e w'' he => ?_
    cases e with
    | returned u => exact hK _ _ he
    | panicked c => exact absurd he (hQ _ _ _ (by simp))
    | outgrown => obtain ⟨_, _, hf⟩ := he; exact absurd hf (hQ _ _ _ (by simp))
   case row row args => exact Rows.mono h fun u w'' he => hK _ _ he
 | halt x w' =>
   cases x <;> simp only [Oper.upon] at h ⊢
   case panic u => exact absurd h (hQ _ _ _ (by simp))
structure JX (k : Kx) (ops : Array Oper) (f : Nat) (listed : Array Bool) (Q : Exit → Env → H → Prop) (ρ : Env) (h : H) : Prop where
 get : Region.noSelect ops = true → HeadInv .any ops ops.size listed → ∀ I a w, Ok k.c I h w → SF k.n w I ρ a → a.defers = k.df →
  HP k.P .any ops (fun _ => True) ops.size (fun listed' a' w' => Region.ready .any ops listed' = [] ∧ lift k Q .normal a' w') f listed a w
theorem Qo {id : Nat} {l : List Oper} {P : Program} (hm : P.follows .mixedOrders = true) (hP : k.P = P) (hn : l.length = n) (hs : Region.noSelect l.toArray = true)
 (hj : JX k l.toArray n (Array.replicate l.length false) Q ρ h) : J k (.region id l.toArray true) Q ρ h := by
 subst hP
 subst hn
 intro I a w h1 h2 h3
 refine wp_region_any hm ?_
 have hsm : Dq I h w { w with drawn := w.drawn + 1 } := ⟨rfl, rfl, rfl, Nat.le_refl _, fun _ _ => rfl⟩
 have inv0 : HeadInv .any l.toArray l.toArray.size (Array.replicate l.length false) :=
  ⟨by simp, fun j oj _ hl => (by rw [getD_replicate_false] at hl; cases hl), fun t _ ht => getD_in (by simpa using ht) (getD_replicate_false _ _)⟩
 have H := hj.get hs inv0 I a _ (h1.same hsm) (SF.same h1 hsm h2) h3
 have K := EC (Q := lift k Q) (g := 0) (fun listed' a' w' hL => ⟨hL.1, hL.2⟩) _ _ _ _ H
 simpa using K
theorem cm (hr : Region.ready .any ops listed = []) (hj : Q .normal ρ h) : JX k ops 0 listed Q ρ h := ⟨fun _ _ I _ _ h1 h2 h3 => ⟨hr, I, ρ, h, h1, h2, h3, hj⟩⟩
theorem cb (hn : Region.ready .any ops listed ≠ []) (hall : ∀ i ∈ Region.ready .any ops listed, ∃ o, ops[i]? = some o ∧ JL k ops [o] (fun e ρ' h' => e = .normal ∧ JX k ops f (listed.setIfInBounds i true) Q ρ' h') ρ h) : JX k ops (f + 1) listed Q ρ h := by
 refine ⟨fun hs inv I a w h1 h2 h3 => ⟨hn, fun i hi => ?_⟩⟩
 obtain ⟨o, ho, hj⟩ := hall i hi
 have hin : i < ops.size := (Array.getElem?_eq_some_iff.1 ho).1
 refine ⟨hin, ?_⟩
 have H := hj I a w h1 h2 h3
 unfold wpOp
 rw [ho]
 dsimp only
 have hK : ∀ a' w', lift k (fun e ρ' h' => e = .normal ∧ JX k ops f (listed.setIfInBounds i true) Q ρ' h') .normal a' w' → True ∧ HP k.P .any ops (fun _ => True) ops.size (fun listed' a' w' => Region.ready .any ops listed' = [] ∧ lift k Q .normal a' w') f (listed.setIfInBounds i true) a' w' := by
  rintro a' w' ⟨I', ρ', h', q1, q2, q3, _, q4⟩
  exact ⟨trivial, q4.get hs (inv.set hi hin) I' a' w' q1 q2 q3⟩
 have hQ : ∀ e a' w', e ≠ .normal → ¬ lift k (fun e ρ' h' => e = .normal ∧ JX k ops f (listed.setIfInBounds i true) Q ρ' h') e a' w' := by
  rintro e a' w' he ⟨_, _, _, _, _, _, q, _⟩
  exact he q
 rw [wpList] at H
 by_cases hw : Region.wanted o (yielded ops a.tmps) = true
 · rw [if_pos hw] at H ⊢
   rcases H with H | ⟨_, a', w', H⟩
   · exact .inl (Hz hK hQ H)
   · exact absurd H (hQ _ _ _ (by simp))
 · rw [if_neg hw] at H ⊢
   exact hK _ _ H
theorem Kj {o : Oper} {r : AV} (ho : ops[i]? = some o) (hc : EM ops listed ops.size i = true) (hd : ∀ t, o.dst = some t → t < k.n)
 (hy : ∀ I a w, Ok k.c I h w → SF k.n w I ρ a → ∃ v, AV.rel w I r v ∧ YieldsIf k.P ops (fun _ => True) o v a)
 (hj : JX k ops f (listed.setIfInBounds i true) Q (put ρ o.dst r) h) : JX k ops (f + 1) listed Q ρ h := by
 refine ⟨fun hs inv I a w h1 h2 h3 => ?_⟩
 simp only [EM, Bool.and_eq_true, decide_eq_true_eq] at hc
 obtain ⟨⟨hr, hf⟩, hin⟩ := hc
 have hr' : i ∈ Region.ready .any ops listed := by simpa using hr
 obtain ⟨v, hv, hyv⟩ := hy I a w h1 h2
 exact Ic ho (Region.noSelect_spec hs) (fun _ _ _ j hj => by obtain ⟨_, o, ho, _⟩ := mem_ready.1 hj; exact (Array.getElem?_eq_some_iff.1 ho).1) hin (fun _ _ _ hL j hj => by rw [hL.1] at hj; cases hj) f listed a w inv (Region.free_spec ho hf) hr' hyv trivial
  (hj.get hs (inv.set hr' hin) I _ w h1 (h2.put hd hv) (by rw [Act.defers_put]; exact h3))
theorem db {x : Operand} {r : AV} (ho : ops[i]? = some ⟨some d, .move x, ty, pos, after, none⟩) (hc : EM ops listed ops.size i = true) (hx : evO ρ x = some r) (hd : Nat.blt d k.n = true)
 (hj : JX k ops f (listed.setIfInBounds i true) Q ((d, r) :: ρ) h) : JX k ops (f + 1) listed Q ρ h :=
 Kj ho hc (fun t ht => by cases ht; exact blt hd) (fun _ a _ _ h2 => ⟨a.eval x, BI (h2.ev x) (AD hx), .inl ⟨by simp [Region.wanted], fun _ _ => rfl⟩⟩) hj
theorem Xh {x : Operand} {r : AV} (ho : ops[i]? = some ⟨some d, .assign x, ty, pos, after, none⟩) (hc : EM ops listed ops.size i = true) (hx : evO ρ x = some r) (hd : Nat.blt d k.n = true)
 (hj : JX k ops f (listed.setIfInBounds i true) Q ((d, r) :: ρ) h) : JX k ops (f + 1) listed Q ρ h :=
 Kj ho hc (fun t ht => by cases ht; exact blt hd) (fun _ a _ _ h2 => ⟨a.eval x, BI (h2.ev x) (AD hx), .inl ⟨by simp [Region.wanted], fun _ _ => rfl⟩⟩) hj
theorem Uq {x : Operand} {m : Nat} {vs : List AV} {r : AV} (ho : ops[i]? = some ⟨some d, .extract x m, ty, pos, after, none⟩) (hc : EM ops listed ops.size i = true) (hx : evO ρ x = some (.tup vs)) (hi : vs[m]? = some r) (hd : Nat.blt d k.n = true)
 (hj : JX k ops f (listed.setIfInBounds i true) Q ((d, r) :: ρ) h) : JX k ops (f + 1) listed Q ρ h :=
 Kj ho hc (fun t ht => by cases ht; exact blt hd) (fun _ a _ _ h2 => by
  obtain ⟨us, e2, e3⟩ := BI (h2.ev x) (AD hx)
  obtain ⟨v, hv, hr⟩ := AV.rels_get e3 m r hi
  exact ⟨v, hr, .inl ⟨by simp [Region.wanted], fun w _ => by simp [execOp, e2, Instr.extract, hv]⟩⟩) hj
def fL : Op → Bool
 | .alloc _ => true
 | _ => false
structure Stop (p : Prop) : Prop where
 get : p
theorem NN {X : Type} {x : Code} (S : X → Env) (G : X → H) (hx : J k x (fun e ρ' h' => e = .normal ∧ ∃ y, VS ρ' h' (S y) (G y)) ρ h) (hq : ∀ y, Q .normal (S y) (G y)) : J k x Q ρ h := by
 intro I a w h1 h2 h3
 refine wp_mono (hx I a w h1 h2 h3) ?_
 rintro e a' w' ⟨I', ρ', h', k1, k2, k3, rfl, y, hv⟩
 obtain ⟨I'', k4, k5⟩ := hv k.c I' k.n a' w' k1 k2
 exact ⟨I'', S y, G y, k4, k5, k3, hq y⟩
end
end Go.Av
namespace Go.Sp
open Go Go.Av
def ni (l : List Nat) (i : Nat) : Nat := (l[i]?).getD 0
theorem Gk (l : List Nat) (i : Nat) (h : i < l.length) : ni l i = l[i] := by simp [ni, List.getElem?_eq_getElem h]
noncomputable def EY (g : Gn) : List Nat := (List.range g.spots.length).map fun v => (partOf g.nx v).toNat
theorem Hs (g : Gn) : (EY g).length = g.spots.length := by simp [EY]
theorem Mr (g : Gn) : (EY g).map (fun k : Nat => (k : Int)) = Ft g := by
 unfold EY Ft
 rw [List.map_map]
 apply List.map_congr_left
 intro v _
 have := Dh (nx := g.nx) v
 simp only [Function.comp_apply]
 omega
theorem RL (g : Gn) (i : Nat) (h : i < (EY g).length) : (EY g)[i] < g.spots.length := by
 have h1 := Dh (nx := g.nx) i
 rw [Hs] at h
 simp only [EY, List.getElem_map, List.getElem_range]
 omega
def I6 (g : Gn) (pn : List Nat) (i : Nat) : Prop :=
 ni pn i = i ∧ (∃ u, u < g.spots.length ∧ ni pn u = i ∧ ∃ w ∈ g.nx u, ni pn w = i) ∧ ∀ s, s < g.many → ∃ u, u < g.spots.length ∧ ni pn u = i ∧ (ni g.sets u).testBit s = true
noncomputable instance (g : Gn) (pn : List Nat) (i : Nat) : Decidable (I6 g pn i) := Classical.propDecidable _
noncomputable def IL (g : Gn) (pn : List Nat) : List Bool := (List.range g.spots.length).map fun i => decide (I6 g pn i)
structure LoI (g : Gn) (pn : List Nat) (i k : Nat) (lo : List Bool) : Prop where
 len : lo.length = g.spots.length
 iff : ∀ v, v < g.spots.length → (bi lo v = true ↔ (∃ u, u < i ∧ ni pn u = v ∧ ∃ w ∈ g.nx u, ni pn w = v) ∨ (ni pn i = v ∧ ∃ w ∈ (g.nx i).take k, ni pn w = v))
section
variable {g : Gn} {pn : List Nat} {i k : Nat} {lo : List Bool}
theorem gH (n v : Nat) : bi (List.replicate n false) v = false := by
 unfold bi; rw [List.getElem?_replicate]; split <;> rfl
theorem LoI.start (g : Gn) (pn : List Nat) : LoI g pn 0 0 (List.replicate g.spots.length false) where
 len := by simp
 iff v hv := by simp [gH]
theorem LoI.yes (t : LoI g pn i k lo) (hk : k < (g.nx i).length) (he : ni pn (g.nx i)[k] = ni pn i) (hp : ni pn i < g.spots.length) : LoI g pn i (k + 1) (lo.set (ni pn i) true) where
 len := by simpa using t.len
 iff v hv := by
  rw [K5 _ _ _ _ (by rw [t.len]; exact hp), jZ hk]
  split
  · rename_i e
    subst e
    refine ⟨fun _ => .inr ⟨rfl, _, List.mem_append.2 (.inr (List.mem_singleton.2 rfl)), he⟩, fun _ => rfl⟩
  · rename_i e
    rw [t.iff v hv]
    constructor
    · rintro (h | ⟨h1, w, h2, h3⟩)
      · exact .inl h
      · exact .inr ⟨h1, w, List.mem_append.2 (.inl h2), h3⟩
    · rintro (h | ⟨h1, w, h2, h3⟩)
      · exact .inl h
      · exact absurd h1.symm e
theorem LoI.no (t : LoI g pn i k lo) (hk : k < (g.nx i).length) (he : ¬ ni pn (g.nx i)[k] = ni pn i) : LoI g pn i (k + 1) lo where
 len := t.len
 iff v hv := by
  rw [t.iff v hv, jZ hk]
  constructor
  · rintro (h | ⟨h1, w, h2, h3⟩)
    · exact .inl h
    · exact .inr ⟨h1, w, List.mem_append.2 (.inl h2), h3⟩
  · rintro (h | ⟨h1, w, h2, h3⟩)
    · exact .inl h
    · rcases List.mem_append.1 h2 with h2 | h2
      · exact .inr ⟨h1, w, h2, h3⟩
      · rw [List.mem_singleton.1 h2] at h3
        exact absurd (h3.trans h1.symm) he
theorem LoI.done (t : LoI g pn i (g.nx i).length lo) : LoI g pn (i + 1) 0 lo where
 len := t.len
 iff v hv := by
  rw [t.iff v hv, List.take_length]
  simp only [List.take_zero, List.not_mem_nil, false_and, exists_false, and_false, or_false]
  constructor
  · rintro (⟨u, h1, h2⟩ | ⟨h1, h2⟩)
    · exact ⟨u, by omega, h2⟩
    · exact ⟨i, by omega, h1, h2⟩
  · rintro ⟨u, h1, h2, h3⟩
    by_cases e : u = i
    · subst e; exact .inr ⟨h2, h3⟩
    · exact .inl ⟨u, by omega, h2, h3⟩
def SeI (g : Gn) (pn : List Nat) (i : Nat) (st : List Int) : Prop :=
 st.length = g.spots.length ∧ ∀ v, v < g.spots.length → ∃ x : Nat, gi st v = x ∧ x < 2 ^ g.many ∧ ∀ s, x.testBit s = true ↔ ∃ u, u < i ∧ ni pn u = v ∧ (ni g.sets u).testBit s = true
theorem SeI.start (g : Gn) (pn : List Nat) : SeI g pn 0 (List.replicate g.spots.length 0) := ⟨by simp, fun v hv => ⟨0, by rw [Hi]; rfl, Nat.two_pow_pos _, fun s => by simp⟩⟩
theorem bw {g : Gn} (hok : g.ok) (i : Nat) : ni g.sets i < 2 ^ g.many := by
 by_cases h : i < g.sets.length
 · rw [Gk _ _ h]; exact hok.bits i h
 · simp only [ni, List.getElem?_eq_none (Nat.le_of_not_lt h), Option.getD_none]
   exact Nat.two_pow_pos _
theorem UQ {g : Gn} (hok : g.ok) : 1 ≤ 2 ^ g.many ∧ 2 ^ g.many ≤ 64 := by
 have := hok.many
 have : g.many = 0 ∨ g.many = 1 ∨ g.many = 2 ∨ g.many = 3 ∨ g.many = 4 ∨ g.many = 5 ∨ g.many = 6 := by omega
 rcases this with h | h | h | h | h | h | h <;> rw [h] <;> decide
theorem SeI.step {st : List Int} (hok : g.ok) (t : SeI g pn i st) (hp : ni pn i < g.spots.length) : SeI g pn (i + 1) (st.set (ni pn i) (bits .or .i64 (gi st (ni pn i)) (ni g.sets i : Nat))) := ⟨by simpa using t.1, fun v hv => by
 obtain ⟨x, h1, h2, h3⟩ := t.2 v hv
 rw [Bt _ _ _ _ (by rw [t.1]; exact hp)]
 have hlt := bw hok i
 have h64 := UQ hok
 split
 · rename_i e
   subst e
   refine ⟨x ||| ni g.sets i, ?_, Nat.or_lt_two_pow h2 hlt, fun s => ?_⟩
   · rw [h1]
     exact (bits_nat .i64 63 (by decide) EZ x (ni g.sets i) jB jB).2
   · rw [Nat.testBit_or, Bool.or_eq_true, h3 s]
     constructor
     · rintro (⟨u, a, b⟩ | h)
       · exact ⟨u, by omega, b⟩
       · exact ⟨i, by omega, rfl, h⟩
     · rintro ⟨u, a, b, c⟩
       by_cases eu : u = i
       · subst eu; exact .inr c
       · exact .inl ⟨u, by omega, b, c⟩
 · rename_i e
   refine ⟨x, h1, h2, fun s => ?_⟩
   rw [h3 s]
   constructor
   · rintro ⟨u, a, b⟩
     exact ⟨u, by omega, b⟩
   · rintro ⟨u, a, b, c⟩
     by_cases eu : u = i
     · subst eu; exact absurd b.symm e
     · exact ⟨u, by omega, b, c⟩⟩
theorem ab {st : List Int} (t : LoI g pn g.spots.length 0 lo) (q : SeI g pn g.spots.length st) {i : Nat} (hi : i < g.spots.length) : I6 g pn i ↔ ni pn i = i ∧ bi lo i = true ∧ gi st i = 2 ^ g.many - 1 := by
 obtain ⟨x, h1, h2, h3⟩ := q.2 i hi
 rw [t.iff i hi]
 simp only [List.take_zero, List.not_mem_nil, false_and, exists_false, and_false, or_false]
 unfold I6
 refine and_congr_right fun _ => and_congr_right fun _ => ?_
 have hpos : 1 ≤ 2 ^ g.many := Nat.two_pow_pos _
 constructor
 · intro h
   have e : x = 2 ^ g.many - 1 := by
    apply Nat.eq_of_testBit_eq
    intro s
    rw [Nat.testBit_two_pow_sub_one]
    by_cases hs : s < g.many
    · rw [decide_eq_true hs, h3 s]; exact h s hs
    · rw [decide_eq_false hs]
      exact Nat.testBit_lt_two_pow (Nat.lt_of_lt_of_le h2 (Nat.pow_le_pow_right (by decide) jB))
   rw [h1, e]
   have : ((2 ^ g.many - 1 : Nat) : Int) = ((2 ^ g.many : Nat) : Int) - 1 := by omega
   rw [this]
   simp
 · intro h s hs
   have e : x = 2 ^ g.many - 1 := by
    have e1 : ((2 : Int) ^ g.many) = ((2 ^ g.many : Nat) : Int) := by simp
    rw [e1] at h
    omega
   rw [← h3 s, e, Nat.testBit_two_pow_sub_one, decide_eq_true hs]
end
theorem cH (x s : Nat) : (((x : Int) / 2 ^ s) % 2 = 1) ↔ x.testBit s = true := by
 rw [Nat.testBit_eq_decide_div_mod_eq, decide_eq_true_iff]
 have e : ((x : Int) / 2 ^ s) % 2 = ((x / 2 ^ s % 2 : Nat) : Int) := by simp
 rw [e]
 omega
def Kr (g : Gn) (i : Nat) : Prop := CZ g i ∧ I6 g (EY g) i
noncomputable instance (g : Gn) (i : Nat) : Decidable (Kr g i) := Classical.propDecidable _
noncomputable def Pm (g : Gn) : Int × Int :=
 match (List.range g.spots.length).find? fun i => decide (Kr g i) with
 | some i => ((i : Int), 0)
 | none => (0, 11)
noncomputable def EE (g : Gr) : Int × Int := open Classical in if okG g then Pm (YX g) else (0, 9)
theorem JK {g : Gn} (h : g.ok) : EE g.gr = Pm g := by rw [EE, if_pos (Gn.ok_gr h), QL h]
theorem Pr {g : Gr} (h : ¬ okG g) : EE g = (0, 9) := by rw [EE, if_neg h]
theorem Un {n i : Nat} {p : Nat → Bool} (hb : ∀ j, j < i → p j = false) (hi : i < n) (hp : p i = true) : (List.range n).find? p = some i := by
 rw [List.find?_range_eq_some]
 exact ⟨hp, List.mem_range.2 hi, fun j hj => by simp [hb j hj]⟩
theorem WR {n : Nat} {p : Nat → Bool} (hb : ∀ j, j < n → p j = false) : (List.range n).find? p = none := by
 rw [List.find?_eq_none]
 intro x hx
 rw [hb x (List.mem_range.1 hx)]
 decide
theorem Sh {g : Gn} {i : Nat} (hb : ∀ j, j < i → ¬ Kr g j) (hi : i < g.spots.length) (hp : Kr g i) : Pm g = ((i : Int), 0) := by
 rw [Pm, Un (fun j hj => decide_eq_false (hb j hj)) hi (decide_eq_true hp)]
theorem NG {g : Gn} (hb : ∀ j, j < g.spots.length → ¬ Kr g j) : Pm g = (0, 11) := by
 rw [Pm, WR fun j hj => decide_eq_false (hb j hj)]
def lpP (g : Gn) (pn : List Nat) (i k j : Nat) : Prop := (∃ u, u < k ∧ ni pn u = i ∧ ∃ w ∈ g.nx u, ni pn w = i) ∨ (ni pn k = i ∧ ∃ w ∈ (g.nx k).take j, ni pn w = i)
theorem aQ (g : Gn) (pn : List Nat) (i : Nat) : ¬ lpP g pn i 0 0 := by simp [lpP]
theorem Yt {g : Gn} {pn : List Nat} {i k j : Nat} (hj : j < (g.nx k).length) : lpP g pn i k (j + 1) ↔ lpP g pn i k j ∨ (ni pn k = i ∧ ni pn (g.nx k)[j] = i) := by
 unfold lpP
 rw [jZ hj]
 constructor
 · rintro (h | ⟨h1, w, h2, h3⟩)
   · exact .inl (.inl h)
   · rcases List.mem_append.1 h2 with h2 | h2
     · exact .inl (.inr ⟨h1, w, h2, h3⟩)
     · rw [List.mem_singleton.1 h2] at h3
       exact .inr ⟨h1, h3⟩
 · rintro ((h | ⟨h1, w, h2, h3⟩) | ⟨h1, h2⟩)
   · exact .inl h
   · exact .inr ⟨h1, w, List.mem_append.2 (.inl h2), h3⟩
   · exact .inr ⟨h1, _, List.mem_append.2 (.inr (List.mem_singleton.2 rfl)), h2⟩
theorem Yd {g : Gn} {pn : List Nat} {i k : Nat} : lpP g pn i k (g.nx k).length ↔ lpP g pn i (k + 1) 0 := by
 unfold lpP
 rw [List.take_length]
 simp only [List.take_zero, List.not_mem_nil, false_and, exists_false, and_false, or_false]
 constructor
 · rintro (⟨u, h1, h2⟩ | ⟨h1, h2⟩)
   · exact ⟨u, by omega, h2⟩
   · exact ⟨k, by omega, h1, h2⟩
 · rintro ⟨u, h1, h2, h3⟩
   by_cases e : u = k
   · subst e; exact .inr ⟨h2, h3⟩
   · exact .inl ⟨u, by omega, h2, h3⟩
theorem dI {g : Gn} {pn : List Nat} {i : Nat} : lpP g pn i g.spots.length 0 ↔ ∃ u, u < g.spots.length ∧ ni pn u = i ∧ ∃ w ∈ g.nx u, ni pn w = i := by
 unfold lpP
 simp
def meP (g : Gn) (pn : List Nat) (i s k : Nat) : Prop := ∃ u, u < k ∧ ni pn u = i ∧ (ni g.sets u).testBit s = true
theorem Yc (g : Gn) (pn : List Nat) (i s : Nat) : ¬ meP g pn i s 0 := by simp [meP]
theorem a8 {g : Gn} {pn : List Nat} {i s k : Nat} : meP g pn i s (k + 1) ↔ meP g pn i s k ∨ (ni pn k = i ∧ (ni g.sets k).testBit s = true) := by
 unfold meP
 constructor
 · rintro ⟨u, h1, h2⟩
   by_cases e : u = k
   · subst e; exact .inr h2
   · exact .inl ⟨u, by omega, h2⟩
 · rintro (⟨u, h1, h2⟩ | h)
   · exact ⟨u, by omega, h2⟩
   · exact ⟨k, by omega, h⟩
end Go.Sp
namespace Go.Av
open Go
inductive Upd (e e' : Ent) : H → H → Prop where
 | here {h : H} : Upd e e' (e :: h) (e' :: h)
 | there {x : Ent} {h h' : H} (u : Upd e e' h h') : Upd e e' (x :: h) (x :: h')
theorem Upd.split {e e' : Ent} {h h' : H} (u : Upd e e' h h') : ∃ h1 h2, h = h1 ++ e :: h2 ∧ h' = h1 ++ e' :: h2 := by
 induction u with
 | here => exact ⟨[], _, rfl, rfl⟩
 | there _ ih =>
   obtain ⟨h1, h2, rfl, rfl⟩ := ih
   exact ⟨_ :: h1, h2, rfl, rfl⟩
theorem Upd.perm {e e' : Ent} {h h' : H} (u : Upd e e' h h') : ∃ r, h.Perm (e :: r) ∧ h'.Perm (e' :: r) := by
 obtain ⟨h1, h2, rfl, rfl⟩ := u.split
 exact ⟨h1 ++ h2, List.perm_middle, List.perm_middle⟩
inductive Sel (e : Ent) : H → H → Prop where
 | here {h : H} : Sel e (e :: h) h
 | there {x : Ent} {h h' : H} (u : Sel e h h') : Sel e (x :: h) (x :: h')
theorem Sel.perm {e : Ent} {h h' : H} (u : Sel e h h') : h.Perm (e :: h') := by
 induction u with
 | here => exact List.Perm.refl _
 | there _ ih => exact (ih.cons _).trans (List.Perm.swap ..)
inductive Take : H → H → H → Prop where
 | nil {h : H} : Take h [] h
 | cons {e : Ent} {h h1 hc hr : H} (s : Sel e h h1) (t : Take h1 hc hr) : Take h (e :: hc) hr
theorem Take.perm {h hc hr : H} (t : Take h hc hr) : h.Perm (hc ++ hr) := by
 induction t with
 | nil => exact List.Perm.refl _
 | cons s _ ih => exact s.perm.trans (ih.cons _)
inductive App : H → H → H → Prop where
 | nil {h : H} : App [] h h
 | cons {e : Ent} {a h h' : H} (p : App a h h') : App (e :: a) h (e :: h')
theorem App.eq {a h h' : H} (p : App a h h') : h' = a ++ h := by
 induction p with
 | nil => rfl
 | cons _ ih => rw [ih]; rfl
section
variable {k : Kx} {Q : Exit → Env → H → Prop} {ρ ρ' : Env} {h h' hr : H} {ops : Array Oper} {l : List Oper} {d : Nat} {dst : Option Tmp} {ty : TypeId} {pos : String} {after : Array Edge}
theorem VS.take {hc : H} (t : Take h hc hr) (hle : Env.le ρ ρ') : VS ρ h ρ' hc := VS.trans (VS.perm t.perm) (VS.trans (VS.drop (List.sublist_append_left hc hr)) (VS.of_le hle))
theorem gm {α : Type} {f : α → AV} {T T0 : TypeId} {x y : Operand} {b off : Nat} {a : α} {vs : List α} {z : Value} {eb : Nat} (hx : evO ρ x = some (.val (.pointer (some ⟨b, off, none⟩))))
 (hu : Upd (.cells b T0 (vs.map f)) (.cells b T0 ((vs.set off a).map f)) h h') (hy : evO ρ y = some (f a)) (hs : (f a).flat = true) (hE : El k.P T z 1 eb) (hl : off < vs.length)
 (hj : JL k ops l Q ρ h') : JL k ops (⟨none, .store T x y, ty, pos, after, none⟩ :: l) Q ρ h := by
 obtain ⟨h1, h2, rfl, rfl⟩ := hu.split
 exact gI hx rfl hy hs hE hl hj
theorem gz {T T0 : TypeId} {x y : Operand} {b : Nat} {cs vs : List AV} {z : Value} {sz eb : Nat} (hx : evO ρ x = some (.val (.pointer (some ⟨b, 0, none⟩)))) (hy : evO ρ y = some (.agg cs)) (hs : cs.all AV.flat = true) (hE : El k.P T z sz eb) (hn : sz = cs.length)
 (hu : Upd (.cells b T0 vs) (.cells b T0 cs) h h') (hl : vs.length = cs.length)
 (hj : JL k ops l Q ρ h') : JL k ops (⟨none, .store T x y, ty, pos, after, none⟩ :: l) Q ρ h := by
 obtain ⟨h1, h2, rfl, rfl⟩ := hu.split
 exact Ya hx hy hs hE hn hl rfl hj
inductive IB : List AV → Nat → List AV → List AV → Prop where
 | nil {l : List AV} : IB l 0 [] l
 | put {x c : AV} {l cs l' : List AV} (h : IB l 0 cs l') : IB (x :: l) 0 (c :: cs) (c :: l')
 | skip {x : AV} {l cs l' : List AV} {n : Nat} (h : IB l n cs l') : IB (x :: l) (n + 1) cs (x :: l')
theorem IB.eq {l cs l' : List AV} {n : Nat} (h : IB l n cs l') : l' = setAt l n cs ∧ n + cs.length ≤ l.length := by
 induction h with
 | nil => simp [setAt]
 | put _ ih =>
   obtain ⟨rfl, h2⟩ := ih
   refine ⟨by simp [setAt, Nat.add_comm], by simp at h2 ⊢; omega⟩
 | skip _ ih =>
   obtain ⟨rfl, h2⟩ := ih
   refine ⟨by simp [setAt, Nat.add_right_comm], by simp at h2 ⊢; omega⟩
theorem gd {T T0 : TypeId} {x y : Operand} {b off : Nat} {r : AV} {vs vs' : List AV} {z : Value} {eb : Nat} (hx : evO ρ x = some (.val (.pointer (some ⟨b, off, none⟩)))) (hy : evO ρ y = some r) (hs : r.flat = true) (hE : El k.P T z 1 eb)
 (hu : Upd (.cells b T0 vs) (.cells b T0 vs') h h') (hv : IB vs off [r] vs')
 (hj : JL k ops l Q ρ h') : JL k ops (⟨none, .store T x y, ty, pos, after, none⟩ :: l) Q ρ h := by
 obtain ⟨h1, h2, rfl, rfl⟩ := hu.split
 obtain ⟨rfl, hl⟩ := hv.eq
 simp only [List.length_cons, List.length_nil] at hl
 refine aN hx hy hs hE rfl jB ?_
 rw [← JT _ _ _ jB]
 exact hj
theorem iG {T T0 : TypeId} {x y : Operand} {b off : Nat} {cs vs vs' : List AV} {z : Value} {sz eb : Nat} (hx : evO ρ x = some (.val (.pointer (some ⟨b, off, none⟩)))) (hy : evO ρ y = some (.agg cs)) (hs : cs.all AV.flat = true) (hE : El k.P T z sz eb) (hn : sz = cs.length)
 (hu : Upd (.cells b T0 vs) (.cells b T0 vs') h h') (hv : IB vs off cs vs')
 (hj : JL k ops l Q ρ h') : JL k ops (⟨none, .store T x y, ty, pos, after, none⟩ :: l) Q ρ h := by
 obtain ⟨h1, h2, rfl, rfl⟩ := hu.split
 obtain ⟨rfl, hl⟩ := hv.eq
 exact HH (off := off) (r := .agg cs) (vs := vs) (AD hx) (AD hy) hs hE hn rfl hl hj
theorem gW {α : Type} {f : α → List D} {xs ys : List α} {T E : TypeId} {x y : Operand} {z : Value} {sz eb eb' : Nat} {v : Value} {H' : Sl → H} (hx : evO ρ x = some (.val v)) (hT : k.P.underlying T = some (.slice E)) (he : El k.P E z sz eb)
 (hu : ∀ q : Sl, Upd (AL v E sz f xs) (AL q.v E sz f (xs ++ ys)) h (H' q)) (hy : evO ρ y = some (.d (.l sz eb' (ys.map f)))) (hz : z.cells.size = sz) (h0 : Nat.blt 0 sz = true)
 (hd : Nat.blt d k.n = true) (hb : (xs.length + ys.length) * eb ≤ 140737488355328) (hm : xs.length + ys.length ≤ 140737488355328)
 (hj : All fun q : Sl => JL k ops l Q ((d, .val q.v) :: ρ) (H' q)) :
 JL k ops (⟨some d, .call { callee := .builtin .append, args := #[x, y], argTypes := #[T, T] }, ty, pos, after, none⟩ :: l) Q ρ h := by
 obtain ⟨h1, h2, e1, _⟩ := (hu Sl.nil).split
 refine iH (h1 := h1) (h2 := h2) hx e1 hy hT he hz h0 hd hb hm fun q => ?_
 refine GQ (VS.perm ?_) (hj.get q)
 obtain ⟨r, p1, p2⟩ := (hu q).perm
 refine List.perm_middle.trans (List.Perm.trans (List.Perm.cons _ ?_) p2.symm)
 rw [e1] at p1
 exact (List.perm_middle.symm.trans p1).cons_inv
theorem DP {α : Type} {f : α → List D} {xs : List α} {u : α} {T E : TypeId} {x y : Operand} {z : Value} {sz eb eb' : Nat} {v : Value} {H' : Sl → H} (hx : evO ρ x = some (.val v)) (hT : k.P.underlying T = some (.slice E)) (he : El k.P E z sz eb)
 (hu : ∀ q : Sl, Upd (AL v E sz f xs) (AL q.v E sz f (xs ++ [u])) h (H' q)) (hy : evO ρ y = some (.d (.l sz eb' [f u]))) (hz : z.cells.size = sz) (h0 : Nat.blt 0 sz = true)
 (hd : Nat.blt d k.n = true) (hb : (xs.length + 1) * eb ≤ 140737488355328) (hm : xs.length + 1 ≤ 140737488355328)
 (hj : All fun q : Sl => JL k ops l Q ((d, .val q.v) :: ρ) (H' q)) :
 JL k ops (⟨some d, .call { callee := .builtin .append, args := #[x, y], argTypes := #[T, T] }, ty, pos, after, none⟩ :: l) Q ρ h := gW (ys := [u]) hx hT he hu hy hz h0 hd hb hm hj
theorem D8 {β : Type} {X : β → AV} {en : β → H} {hc : H} {H' : β → H} {f : FuncId} {xs : Array Operand} {ats : Array TypeId} {args : List AV} (hargs : GJ ρ xs.toList = some args) (hcal : Cal k.P f) (hac : AC k.P k.c.G f args hc fun r h => ∃ v, r = .ret (X v) ∧ h = en v)
 (ht : Take h hc hr) (hd : Nat.blt d k.n = true) (ha : ∀ v, App (en v) hr (H' v)) (hj : All fun v => JL k ops l Q ((d, X v) :: ρ) (H' v)) :
 JL k ops (⟨some d, .call { callee := .value (.func f), args := xs, argTypes := ats }, ty, pos, after, none⟩ :: l) Q ρ h :=
 GQ (VS.perm ht.perm) (Ny (hc := hc) (hr := hr) hargs hcal rfl hac hd (fun r h' hq => by obtain ⟨v, e1, e2⟩ := hq; cases e1; subst e2; rw [← (ha v).eq]; exact hj.get v) (fun ch h' hq => by obtain ⟨v, e1, _⟩ := hq; cases e1))
theorem bD {f : FuncId} {x : Operand} {xs : Array Operand} {ats : Array TypeId} {caps : Array Value} {es : List AV} {hc hr : H} {R : AE → H → Prop} (hf : evO ρ x = some (.val (.func (.func f) #[] caps))) (hxs : GJ ρ xs.toList = some es) (hcal : Cal k.P f) (hac : AC k.P k.c.G f (es ++ caps.toList.map AV.val) hc R) (hs : h = hc ++ hr) (hd : ∀ t, dst = some t → t < k.n)
 (hret : ∀ r h', R (.ret r) h' → JL k ops l Q (put ρ dst r) (h' ++ hr)) (hpan : ∀ ch h', R (.pan ch) h' → Q (.panic ch) ρ (h' ++ hr)) :
 JL k ops (⟨dst, .call { callee := .value x, args := xs, argTypes := ats }, ty, pos, after, none⟩ :: l) Q ρ h := by
 intro I a w h1 h2 h3
 subst hs
 refine wpList_plain rfl fun K hK => ?_
 unfold Oper.wp
 rw [EH (AQ (h2.ev x) (AD hf)), hcal]
 simp only [Oper.upon]
 have hr' : AV.rels w I (es ++ caps.toList.map AV.val) (xs.toList.map a.eval ++ caps.toList) := AV.rels_append (by rw [← Cd hxs]; exact EJ h2 xs.toList) (Hc w I _)
 refine (hac I w _ (fun e he => h1.ent e (List.mem_append.2 (.inl he))) ?_ ?_ (fun q hq => h1.glob q hq) hr').mono ?_
 · have := h1.nd; rw [Ad] at this; exact (List.nodup_append.1 this).1
 · intro b hb
   have := h1.imm b hb
   rw [Ad, List.mem_append] at this
   exact ⟨this.1, fun hm => this.2 (.inl hm)⟩
 · rintro e w' ⟨r, h', I', hR, hok, hrel⟩
   obtain ⟨k1, k2⟩ := h1.call hok
   have hsf : SF k.n w' I' ρ a := h2.mono k2 (fun b hb => hok.sup b hb)
   cases r with
   | ret r =>
     cases e with
     | returned v => exact hK _ _ (hret r h' hR I' _ w' k1 (hsf.put hd hrel) (by rw [Act.defers_put]; exact h3))
     | panicked ch => exact hrel.elim
     | outgrown => exact hrel.elim
   | pan ch =>
     cases e with
     | returned v => exact hrel.elim
     | panicked ch' => subst hrel; exact ⟨I', ρ, h' ++ hr, k1, hsf, h3, hpan _ _ hR⟩
     | outgrown => exact hrel.elim
theorem Fy {β : Type} {X : β → AV} {en : β → H} {hc : H} {H' : β → H} {f : FuncId} {x : Operand} {xs : Array Operand} {ats : Array TypeId} {caps : Array Value} {es : List AV} (hf : evO ρ x = some (.val (.func (.func f) #[] caps))) (hxs : GJ ρ xs.toList = some es) (hcal : Cal k.P f)
 (hac : AC k.P k.c.G f (es ++ caps.toList.map AV.val) hc fun r h => ∃ v, r = .ret (X v) ∧ h = en v)
 (ht : Take h hc hr) (hd : Nat.blt d k.n = true) (ha : ∀ v, App (en v) hr (H' v)) (hj : All fun v => JL k ops l Q ((d, X v) :: ρ) (H' v)) :
 JL k ops (⟨some d, .call { callee := .value x, args := xs, argTypes := ats }, ty, pos, after, none⟩ :: l) Q ρ h :=
 GQ (VS.perm ht.perm) (bD (hc := hc) (hr := hr) hf hxs hcal hac rfl (fun t ht => by cases ht; exact blt hd) (fun r h' hq => by obtain ⟨v, e1, e2⟩ := hq; cases e1; subst e2; rw [← (ha v).eq]; exact hj.get v) (fun ch h' hq => by obtain ⟨v, e1, _⟩ := hq; cases e1))
end
def Sl.at (q : Sl) (off : Nat) : Addr := ⟨(q.ad.map (·.block)).getD 0, off, none⟩
theorem Ent.row_form {w : World} {I : Nat → Prop} {q : Sl} {n : Nat} {E : TypeId} {sz : Nat} {l : List AV} (h : (Ent.row q.v n E sz l).rel w I) (hn : 0 < n) :
 ∃ g cap cur, q = ⟨some ⟨g, 0, none⟩, n, cap⟩ ∧ w.heap[g]? = some (.cells cur E (0, 0)) ∧ n ≤ cap ∧ cap ≤ maxLen ∧ cur.size = cap * sz ∧ AV.rels w I l (cur.toList.take (n * sz)) := by
 obtain ⟨os, ho, hr⟩ := h
 rcases ho.2 with ⟨_, rfl⟩ | ⟨g, cap, cur, hv, _, hg, h1, h2, h3, rfl⟩
 · omega
 · obtain ⟨ad, m, c⟩ := q
   simp only [Sl.v, Value.slice.injEq] at hv
   obtain ⟨rfl, rfl, rfl⟩ := hv
   exact ⟨g, _, cur, rfl, hg, h1, h2, h3, hr⟩
section
variable {P : Program} {G : List (Nat × List D)} {ρ : Env} {h : H} {dst : Option Tmp} {ty : TypeId} {pos : String} {after : Array Edge} {g : Option (Nat × Bool)}
theorem R4 {α : Type} {f : α → List D} {xs : List α} {sz j u : Nat} {c : D} (hsz : ∀ a, (f a).length = sz) (hj : j < xs.length) (hc : (f xs[j])[u]? = some c) : (((xs.map f).flatten).map D.av)[j * sz + u]? = some c.av := by
 have hu : u < sz := by rw [← hsz xs[j]]; exact (List.getElem?_eq_some_iff.1 hc).1
 have h0 : 0 < sz := by omega
 rw [List.getElem?_map, CM h0 _ (fun r hr => by obtain ⟨a, _, rfl⟩ := List.mem_map.1 hr; exact hsz a)]
 have e1 : (j * sz + u) / sz = j := by rw [Nat.mul_comm, Nat.mul_add_div jB, Nat.div_eq_of_lt hu, Nat.add_zero]
 have e2 : (j * sz + u) % sz = u := by rw [Nat.mul_comm, Nat.mul_add_mod, Nat.mod_eq_of_lt hu]
 rw [e1, e2, List.getElem?_map, List.getElem?_eq_getElem hj]
 simp [hc]
theorem KP {α : Type} {f : α → List D} {xs : List α} {T E : TypeId} {x y : Operand} {q : Sl} {n sz eb : Nat} {z : Value} (hx : evO ρ x = some (.val q.v)) (hy : evO ρ y = some (.int (n : Int))) (hT : P.underlying T = some (.slice E)) (hE : El P E z sz eb)
 (hm : AL q.v E sz f xs ∈ h) (hn : n < xs.length) : Pure P G ⟨dst, .indexAddr T x y, ty, pos, after, g⟩ ρ h (.val (.pointer (some (q.at (n * sz))))) := by
 intro c I m a w _ hok hs
 obtain ⟨i, hi, _, hsz, _⟩ := hE.get
 obtain ⟨gb, cap, cur, rfl, _⟩ := Ent.row_form (hok.ent _ hm) jB
 have e1 := AQ (hs.ev x) (AD hx)
 have e2 := AQ (hs.ev y) (AD hy)
 refine ⟨_, rfl, fun w' _ => ?_⟩
 simp [execOp, e1, e2, Instr.indexAt, run_underlying hT, asIntOf, hn, sizeOf, typeInfo, hi, hsz, Sl.at, Addr.add]
 exact fun h => h.symm
theorem OU {α : Type} {f : α → List D} {xs : List α} {T E : TypeId} {x y : Operand} {q : Sl} {n : Int} {sz eb : Nat} {z : Value} (hx : evO ρ x = some (.val q.v)) (hy : evO ρ y = some (.int n)) (hT : P.underlying T = some (.slice E)) (hE : El P E z sz eb)
 (hm : AL q.v E sz f xs ∈ h) (h0 : 0 ≤ n) (hn : n.toNat < xs.length) : Pure P G ⟨dst, .indexAddr T x y, ty, pos, after, g⟩ ρ h (.val (.pointer (some (q.at (n.toNat * sz))))) :=
 KP (n := n.toNat) hx (by rw [Int.toNat_of_nonneg h0]; exact hy) hT hE hm hn
theorem Sx {T E : TypeId} {x y : Operand} {b len cap n : Nat} {eb : Nat} {z : Value} (hx : evO ρ x = some (.val (.slice (some ⟨b, 0, none⟩) len cap))) (hy : evO ρ y = some (.int (n : Int))) (hT : P.underlying T = some (.slice E)) (hE : El P E z 1 eb)
 (h1 : n < len) : Pure P G ⟨dst, .indexAddr T x y, ty, pos, after, g⟩ ρ h (.val (.pointer (some ⟨b, n, none⟩))) := by
 have := F5 (P := P) (G := G) (h := h) (dst := dst) (ty := ty) (pos := pos) (after := after) (g := g) hx hT hE (AD hy) jB jB
 simpa using this
theorem RD {T E : TypeId} {x y : Operand} {b len cap : Nat} {n : Int} {eb : Nat} {z : Value} (hx : evO ρ x = some (.val (.slice (some ⟨b, 0, none⟩) len cap))) (hy : evO ρ y = some (.int n)) (hT : P.underlying T = some (.slice E)) (hE : El P E z 1 eb)
 (h0 : 0 ≤ n) (h1 : n < len) : Pure P G ⟨dst, .indexAddr T x y, ty, pos, after, g⟩ ρ h (.val (.pointer (some ⟨b, n.toNat, none⟩))) := by
 have := F5 (P := P) (G := G) (h := h) (dst := dst) (ty := ty) (pos := pos) (after := after) (g := g) hx hT hE (AD hy) h0 h1
 simpa using this
theorem Kv {α : Type} {f : α → List D} {xs : List α} {T E : TypeId} {x : Operand} {q : Sl} {j u sz : Nat} {c : D} (hT : BR P T = some false) (hx : evO ρ x = some (.val (.pointer (some (q.at (j * sz + u)))))) (hm : AL q.v E sz f xs ∈ h) (hsz : ∀ a, (f a).length = sz) (hj : j < xs.length) (hc : (f xs[j])[u]? = some c) :
 Pure P G ⟨dst, .load T x, ty, pos, after, g⟩ ρ h c.av := by
 intro cx I m a w _ hok hs
 obtain ⟨gb, cap, cur, rfl, hg, hnc, hcm, hcs, hrel⟩ := Ent.row_form (hok.ent _ hm) jB
 have e1 := AQ (hs.ev x) (AD hx)
 obtain ⟨v, hv, hr⟩ := AV.rels_get hrel _ _ (R4 hsz hj hc)
 refine ⟨v, hr, fun w' hw' => ?_⟩
 have hcell : w'.cell? ⟨gb, j * sz + u, none⟩ = some v := by
  have hbk : w'.heap[(⟨gb, j * sz + u, none⟩ : Addr).block]? = w.heap[(⟨gb, j * sz + u, none⟩ : Addr).block]? := hw'.own gb (EG hm rfl)
  rw [World.cell?_of_block (w := w) hbk]
  have : cur.toList[j * sz + u]? = some v := by
   rw [List.getElem?_take] at hv
   split at hv
   · exact hv
   · cases hv
  simpa [World.cell?, hg] using this
 have e3 : a.eval x = .pointer (some ⟨gb, j * sz + u, none⟩) := e1
 simp [execOp, e3, Instr.loadAt, Instr.sureAddr, loadVar, Da hT, run_load, hcell]
theorem RG {α : Type} {f : α → List D} {xs : List α} {T E : TypeId} {x : Operand} {q : Sl} {j sz : Nat} {c : D} (hT : BR P T = some false) (hx : evO ρ x = some (.val (.pointer (some (q.at (j * sz)))))) (hm : AL q.v E sz f xs ∈ h) (hsz : ∀ a, (f a).length = sz) (hj : j < xs.length) (hc : (f xs[j])[0]? = some c) :
 Pure P G ⟨dst, .load T x, ty, pos, after, g⟩ ρ h c.av := Kv (u := 0) hT hx hm hsz hj hc
theorem TJ {α : Type} {f : α → AV} {xs : List α} {T T0 : TypeId} {x : Operand} {b off : Nat} (hT : BR P T = some false) (hx : evO ρ x = some (.val (.pointer (some ⟨b, off, none⟩)))) (hh : Ent.cells b T0 (xs.map f) ∈ h) (hl : off < xs.length) : Pure P G ⟨dst, .load T x, ty, pos, after, g⟩ ρ h (f xs[off]) :=
 H9 hT (AD hx) hh (by rw [List.getElem?_map, List.getElem?_eq_getElem hl]; rfl)
end
theorem AC.frz {α : Type} {f : α → List D} {xs : List α} {P : Program} {G : List (Nat × List D)} {fn : FuncId} {args : List AV} {E : TypeId} {sz : Nat} (eb : Nat) (hac : AC P G fn args [] fun e h => ∃ q : Sl, e = .ret (.val q.v) ∧ h = [AL q.v E sz f xs]) (h0 : Nat.blt 0 sz = true) (hsz : ∀ a, (f a).length = sz) (hb : xs.length * eb ≤ 140737488355328) :
 ACr P G fn args (.d (.l sz eb (xs.map f))) := by
 intro I W vs h1 h2 h3 h4 h5
 refine (hac I W vs h1 h2 h3 h4 h5).mono ?_
 rintro e w' ⟨r, h', I', ⟨q, rfl, rfl⟩, hok, hrel⟩
 have hok' : Ok ⟨W, I, [], G⟩ I' ([] ++ .row q.v xs.length E sz ((xs.map f).flatten.map D.av) :: []) w' := hok
 obtain ⟨I'', k1, _, k3⟩ := Vl eb hok' (blt h0) (by simp) (fun r hr => by obtain ⟨a, _, rfl⟩ := List.mem_map.1 hr; exact hsz a) hb
 refine ⟨.ret (.d (.l sz eb (xs.map f))), [], I'', ⟨rfl, rfl⟩, k1, ?_⟩
 cases e with
 | returned v =>
   have : v = q.v := hrel
   subst this
   exact k3
 | panicked ch => exact hrel.elim
 | outgrown => exact hrel.elim
theorem AC.fact {α : Type} {f : α → List D} {xs : List α} {P : Program} {G : List (Nat × List D)} {fn : FuncId} {as_ : List AV} {h : H} {Q : AE → H → Prop} {sz eb : Nat} (hac : xs.length * eb ≤ 140737488355328 → AC P G fn (.d (.l sz eb (xs.map f)) :: as_) h Q) : AC P G fn (.d (.l sz eb (xs.map f)) :: as_) h Q := by
 intro I W vs h1 h2 h3 h4 h5
 cases vs with
 | nil => exact h5.elim
 | cons v vs =>
   have := (Rel.len_le h5.1).1
   rw [List.length_map] at this
   exact hac this I W (v :: vs) h1 h2 h3 h4 h5
section
variable {k : Kx} {Q : Exit → Env → H → Prop} {ρ : Env} {h : H} {ops : Array Oper} {listed : Array Bool} {n f i m d : Nat} {op : Op} {ty : TypeId} {pos : String} {after : Array Edge}
structure JXP (k : Kx) (ops : Array Oper) (n f : Nat) (listed : Array Bool) (i m : Nat) (Q : Exit → Env → H → Prop) (ρ : Env) (h : H) : Prop where
 get : JX k ops f listed Q ρ h
structure JXS (k : Kx) (ops : Array Oper) (n f : Nat) (listed : Array Bool) (i m : Nat) (Q : Exit → Env → H → Prop) (ρ : Env) (h : H) : Prop where
 get : ∀ j, i ≤ j → j < i + m → j ∈ Region.ready .any ops listed → ∃ o, ops[j]? = some o ∧ JL k ops [o] (fun e ρ' h' => e = .normal ∧ JXP k ops n f (listed.setIfInBounds j true) 0 n Q ρ' h') ρ h
theorem Zi (hn : Region.ready .any ops listed ≠ []) (hall : ∀ i ∈ Region.ready .any ops listed, ∃ o, ops[i]? = some o ∧ JL k ops [o] (fun e ρ' h' => e = .normal ∧ JXP k ops n f (listed.setIfInBounds i true) 0 n Q ρ' h') ρ h) : JX k ops (f + 1) listed Q ρ h := by
 refine ⟨fun hs inv I a w h1 h2 h3 => ⟨hn, fun i hi => ?_⟩⟩
 obtain ⟨o, ho, hj⟩ := hall i hi
 have hin : i < ops.size := (Array.getElem?_eq_some_iff.1 ho).1
 refine ⟨hin, ?_⟩
 have H := hj I a w h1 h2 h3
 unfold wpOp
 rw [ho]
 dsimp only
 have hK : ∀ a' w', lift k (fun e ρ' h' => e = .normal ∧ JXP k ops n f (listed.setIfInBounds i true) 0 n Q ρ' h') .normal a' w' → True ∧ HP k.P .any ops (fun _ => True) ops.size (fun listed' a' w' => Region.ready .any ops listed' = [] ∧ lift k Q .normal a' w') f (listed.setIfInBounds i true) a' w' := by
  rintro a' w' ⟨I', ρ', h', q1, q2, q3, _, q4⟩
  exact ⟨trivial, q4.get.get hs (inv.set hi hin) I' a' w' q1 q2 q3⟩
 have hQ : ∀ e a' w', e ≠ .normal → ¬ lift k (fun e ρ' h' => e = .normal ∧ JXP k ops n f (listed.setIfInBounds i true) 0 n Q ρ' h') e a' w' := by
  rintro e a' w' he ⟨_, _, _, _, _, _, q, _⟩
  exact he q
 rw [wpList] at H
 by_cases hw : Region.wanted o (yielded ops a.tmps) = true
 · rw [if_pos hw] at H ⊢
   rcases H with H | ⟨_, a', w', H⟩
   · exact .inl (Hz hK hQ H)
   · exact absurd H (hQ _ _ _ (by simp))
 · rw [if_neg hw] at H ⊢
   exact hK _ _ H
theorem Hl {id : Nat} {l : List Oper} {P : Program} (hm : P.follows .mixedOrders = true) (hP : k.P = P) (hn : l.length = n) (hs : Region.noSelect l.toArray = true)
 (hj : JXP k l.toArray n n (Array.replicate n false) 0 n Q ρ h) : J k (.region id l.toArray true) Q ρ h := by
 subst hn
 exact Qo hm hP rfl hs hj.get
theorem OY {id : Nat} {l : List Oper} {P : Program} (hm : P.follows .mixedOrders = true) (hP : k.P = P) (hn : l.length = n) (hs : (Region.noSelect l.toArray && l.any fun o => fL o.op) = true)
 (hj : JXP k l.toArray n n (Array.replicate n false) 0 n Q ρ h) : J k (.region id l.toArray true) Q ρ h := Hl hm hP hn (by simp only [Bool.and_eq_true] at hs; exact hs.1) hj
theorem R7 {x : Operand} {r : AV} (ho : ops[i]? = some ⟨some d, .move x, ty, pos, after, none⟩) (hc : EM ops listed ops.size i = true) (hx : evO ρ x = some r) (hd : Nat.blt d k.n = true)
 (hj : JXP k ops n f (listed.setIfInBounds i true) 0 n Q ((d, r) :: ρ) h) : JXP k ops n (f + 1) listed i (m + 1) Q ρ h := ⟨db ho hc hx hd hj.get⟩
theorem UN {x : Operand} {r : AV} (ho : ops[i]? = some ⟨some d, .assign x, ty, pos, after, none⟩) (hc : EM ops listed ops.size i = true) (hx : evO ρ x = some r) (hd : Nat.blt d k.n = true)
 (hj : JXP k ops n f (listed.setIfInBounds i true) 0 n Q ((d, r) :: ρ) h) : JXP k ops n (f + 1) listed i (m + 1) Q ρ h := ⟨Xh ho hc hx hd hj.get⟩
theorem Tn {x : Operand} {j : Nat} {vs : List AV} {r : AV} (ho : ops[i]? = some ⟨some d, .extract x j, ty, pos, after, none⟩) (hc : EM ops listed ops.size i = true) (hx : evO ρ x = some (.tup vs)) (hi : vs[j]? = some r) (hd : Nat.blt d k.n = true)
 (hj : JXP k ops n f (listed.setIfInBounds i true) 0 n Q ((d, r) :: ρ) h) : JXP k ops n (f + 1) listed i (m + 1) Q ρ h := ⟨Uq ho hc hx hi hd hj.get⟩
theorem S7 (hj : JXP k ops n f listed (i + 1) m Q ρ h) : JXP k ops n f listed i (m + 1) Q ρ h := ⟨hj.get⟩
theorem Zp (hr : Region.ready .any ops listed = []) (hj : Q .normal ρ h) : JXP k ops n 0 listed i m Q ρ h := ⟨cm hr hj⟩
theorem cp (hne : (Region.ready .any ops listed).isEmpty = false) (hs : ops.size = n) (hj : JXS k ops n f listed 0 n Q ρ h) : JXP k ops n (f + 1) listed i 0 Q ρ h :=
 ⟨Zi (fun e => by rw [e] at hne; cases hne) fun j hr => by
  obtain ⟨_, o, ho, _⟩ := mem_ready.1 hr
  have := (Array.getElem?_eq_some_iff.1 ho).1
  exact hj.get j (Nat.zero_le _) jB hr⟩
theorem bZ (_ht : True) : JXS k ops n f listed i 0 Q ρ h := ⟨fun j h1 h2 => by omega⟩
theorem gO (hc : (Region.ready .any ops listed).contains i = false) (hj : JXS k ops n f listed (i + 1) m Q ρ h) : JXS k ops n f listed i (m + 1) Q ρ h :=
 ⟨fun j h1 h2 hr => by
  by_cases e : j = i
  · subst e
    have : (Region.ready .any ops listed).contains j = true := by simpa using hr
    rw [this] at hc; cases hc
  · exact hj.get j jB jB hr⟩
theorem cL {o : Oper} (ho : ops[i]? = some o) (hd : JL k ops [o] (fun e ρ' h' => e = .normal ∧ JXP k ops n f (listed.setIfInBounds i true) 0 n Q ρ' h') ρ h) (hj : JXS k ops n f listed (i + 1) m Q ρ h) : JXS k ops n f listed i (m + 1) Q ρ h :=
 ⟨fun j h1 h2 hr => by
  by_cases e : j = i
  · subst e
    exact ⟨o, ho, hd⟩
  · exact hj.get j jB jB hr⟩
theorem bC {dst : Option Tmp} {g : Option (Nat × Bool)} (ho : ops[i]? = some ⟨dst, op, ty, pos, after, g⟩) (hj : Two (JL k ops [⟨dst, op, ty, pos, after, g⟩] (fun e ρ' h' => e = .normal ∧ JXP k ops n f (listed.setIfInBounds i true) 0 n Q ρ' h') ρ h) (JXS k ops n f listed (i + 1) m Q ρ h)) : JXS k ops n f listed i (m + 1) Q ρ h := cL ho hj.fst hj.snd
theorem gU {p : Prop} (hp : p) : Exit.normal = Exit.normal ∧ p := ⟨rfl, hp⟩
end
theorem Ok.reent {c : Cx} {I : Nat → Prop} {h1 h2 : H} {e e' : Ent} {w : World} (k : Ok c I (h1 ++ e :: h2) w) (hb : e'.blk = e.blk) (he : e'.rel w I) : Ok c I (h1 ++ e' :: h2) w := by
 have hblk : blks (h1 ++ e' :: h2) = blks (h1 ++ e :: h2) := by
  simp only [blks, List.filterMap_append, List.filterMap_cons, hb]
 refine { k with ent := fun x hx => ?_, nd := by rw [hblk]; exact k.nd, imm := fun b hb' => by rw [hblk]; exact k.imm b hb', new := fun b hb' => k.new b (by rw [← hblk]; exact hb') }
 rcases List.mem_append.1 hx with hx | hx
 · exact k.ent x (List.mem_append.2 (.inl hx))
 · rcases List.mem_cons.1 hx with rfl | hx
   · exact he
   · exact k.ent x (List.mem_append.2 (.inr (List.mem_cons_of_mem _ hx)))
section
variable {k : Kx} {Q : Exit → Env → H → Prop} {ρ ρ' : Env} {h h' h1 h2 hr : H} {ops : Array Oper} {l : List Oper} {d : Nat} {dst : Option Tmp} {ty : TypeId} {pos : String} {after : Array Edge}
theorem dt {q : Sl} {n : Nat} {E : TypeId} {sz : Nat} {cs : List AV} (hn : 0 < n)
 (hj : ∀ (g cap : Nat) (js : List Value), q = ⟨some ⟨g, 0, none⟩, n, cap⟩ → n ≤ cap → cap ≤ maxLen → cs.length = n * sz → cs.length + js.length = cap * sz → JL k ops l Q ρ (h1 ++ .cells g E (cs ++ js.map AV.val) :: h2)) :
 JL k ops l Q ρ (h1 ++ .row q.v n E sz cs :: h2) := by
 intro I a w k1 k2 k3
 have he := k1.ent (.row q.v n E sz cs) (by simp)
 obtain ⟨g, cap, cur, rfl, hg, m1, m2, m3, hrel⟩ := Ent.row_form he hn
 have hl : cs.length = n * sz := by
  have h1 := AV.rels_length hrel
  have h2 : n * sz ≤ cap * sz := Nat.mul_le_mul_right _ m1
  rw [List.length_take, Array.length_toList (xs := cur), m3] at h1
  omega
 have e := hj g cap (cur.toList.drop (n * sz)) rfl m1 m2 hl (by rw [hl, List.length_drop, Array.length_toList (xs := cur), m3]; have h2 : n * sz ≤ cap * sz := Nat.mul_le_mul_right _ m1; omega)
 refine e I a w (k1.reent rfl ⟨cur, hg, ?_⟩) k2 k3
 have := AV.rels_append hrel (Gz w I (cur.toList.drop (n * sz)))
 rwa [List.take_append_drop] at this
theorem YW {g cap n : Nat} {E : TypeId} {sz : Nat} {cs : List AV} {js : List Value} (m1 : n ≤ cap) (m2 : cap ≤ maxLen) (hl : cs.length = n * sz) (hc : cs.length + js.length = cap * sz)
 (hj : JL k ops l Q ρ (h1 ++ .row (.slice (some ⟨g, 0, none⟩) n cap) n E sz cs :: h2)) : JL k ops l Q ρ (h1 ++ .cells g E (cs ++ js.map AV.val) :: h2) := by
 intro I a w k1 k2 k3
 obtain ⟨cur, hg, hrel⟩ := k1.ent (.cells g E (cs ++ js.map AV.val)) (by simp)
 have hlen := AV.rels_length hrel
 rw [List.length_append, List.length_map, Array.length_toList (xs := cur)] at hlen
 refine hj I a w (k1.reent rfl ⟨cur.toList.take (n * sz), ⟨?_, .inr ⟨g, cap, cur, rfl, Nat.zero_le _, hg, m1, m2, by omega, rfl⟩⟩, ?_⟩) k2 k3
 · rw [List.length_take, Array.length_toList (xs := cur)]; omega
 · have := D4 (n * sz) hrel
   rwa [List.take_append_of_le_length jB, List.take_of_length_le jB] at this
theorem Uc {cs js rs : List AV} {off : Nat} (h : off + rs.length ≤ cs.length) : setAt (cs ++ js) off rs = setAt cs off rs ++ js := by
 unfold setAt
 rw [List.take_append_of_le_length jB, List.drop_append_of_le_length h]
 simp [List.append_assoc]
theorem PZ {T E : TypeId} {x y : Operand} {q : Sl} {off n sz0 : Nat} {r : AV} {cs : List AV} {z : Value} {sz eb : Nat} (hx : ev ρ x = .val (.pointer (some (q.at off)))) (hy : ev ρ y = r) (hs : r.stor = true) (hE : El k.P T z sz eb) (hn : sz = r.cl.length) (h0 : 0 < n)
 (hoff : off + r.cl.length ≤ cs.length) (hj : JL k ops l Q ρ (h1 ++ .row q.v n E sz0 (setAt cs off r.cl) :: h2)) : JL k ops (⟨none, .store T x y, ty, pos, after, none⟩ :: l) Q ρ (h1 ++ .row q.v n E sz0 cs :: h2) := by
 refine dt h0 fun g cap js hq m1 m2 m3 m4 => ?_
 subst hq
 refine HH (b := g) (off := off) (r := r) (vs := cs ++ js.map AV.val) hx hy hs hE hn rfl (by rw [List.length_append]; omega) ?_
 rw [Uc hoff]
 have hl : (setAt cs off r.cl).length = cs.length := by
  unfold setAt
  simp only [List.length_append, List.length_take, List.length_drop]
  omega
 exact YW m1 m2 (by rw [hl]; exact m3) (by rw [hl]; exact m4) hj
theorem Nu {α : Type} {f : α → List D} {sz : Nat} (hsz : ∀ a, (f a).length = sz) : ∀ (xs : List α) (j : Nat) (a : α), j < xs.length → setAt (((xs.map f).flatten).map D.av) (j * sz) ((f a).map D.av) = (((xs.set j a).map f).flatten).map D.av
 | [], j, a, h => by simp at h
 | x :: xs, 0, a, _ => by
   have e : ((f x).map D.av).length = sz := by rw [List.length_map, hsz]
   have e' : ((f a).map D.av).length = sz := by rw [List.length_map, hsz]
   simp only [setAt, Nat.zero_mul, List.take_zero, List.nil_append, Nat.zero_add, List.map_cons, List.flatten_cons, List.map_append, List.set_cons_zero]
   rw [e', ← e, List.drop_left]
 | x :: xs, j + 1, a, h => by
   have ih := Nu hsz xs j a (by simpa using h)
   have e : ((f x).map D.av).length = sz := by rw [List.length_map, hsz]
   simp only [List.map_cons, List.flatten_cons, List.map_append, List.set_cons_succ]
   rw [← ih]
   unfold setAt
   have e2 : (j + 1) * sz = ((f x).map D.av).length + j * sz := by rw [e, Nat.add_mul]; omega
   rw [e2, List.take_length_add_append, Nat.add_assoc, List.drop_length_add_append]
   simp [List.append_assoc]
theorem ed {α : Type} {f : α → List D} {xs : List α} {a : α} {T E : TypeId} {x y : Operand} {q : Sl} {j sz : Nat} {r : AV} {z : Value} {eb : Nat} (hx : evO ρ x = some (.val (.pointer (some (q.at (j * sz)))))) (hy : evO ρ y = some r) (hu : Upd (AL q.v E sz f xs) (AL q.v E sz f (xs.set j a)) h h') (hr : r.cl = (f a).map D.av) (hs : r.stor = true) (hE : El k.P T z sz eb) (hsz : ∀ a, (f a).length = sz) (hjl : j < xs.length)
 (hj : JL k ops l Q ρ h') : JL k ops (⟨none, .store T x y, ty, pos, after, none⟩ :: l) Q ρ h := by
 obtain ⟨h1, h2, rfl, rfl⟩ := hu.split
 have hfl : ((((xs.map f).flatten).map D.av)).length = xs.length * sz := by
  rw [List.length_map, B8 _ (fun r hr => by obtain ⟨a, _, rfl⟩ := List.mem_map.1 hr; exact hsz a), List.length_map]
 have hlen : r.cl.length = sz := by rw [hr, List.length_map, hsz]
 refine PZ (off := j * sz) (r := r) (AD hx) (AD hy) hs hE hlen.symm jB ?_ ?_
 · rw [hfl, hlen]
   have : (j + 1) * sz ≤ xs.length * sz := Nat.mul_le_mul_right _ jB
   rw [Nat.add_mul] at this
   omega
 · rw [hr, Nu hsz xs j a hjl]
   unfold AL at hj
   rwa [List.length_set] at hj
theorem cG {α : Type} {f : α → List D} {xs : List α} {a : α} {T E : TypeId} {x y : Operand} {q : Sl} {j : Nat} {r : AV} {z : Value} {eb : Nat} (hx : evO ρ x = some (.val (.pointer (some (q.at (j * 1)))))) (hy : evO ρ y = some r) (hE : El k.P T z 1 eb) (hs : r.flat = true) (hu : Upd (AL q.v E 1 f xs) (AL q.v E 1 f (xs.set j a)) h h') (hr : [r] = (f a).map D.av) (hsz : ∀ a, (f a).length = 1) (hjl : j < xs.length)
 (hj : JL k ops l Q ρ h') : JL k ops (⟨none, .store T x y, ty, pos, after, none⟩ :: l) Q ρ h :=
 ed hx hy hu (by rw [(Qp hs).1]; exact hr) (Qp hs).2 hE hsz hjl hj
theorem fy {α : Type} {f : α → List D} {xs : List α} {T E : TypeId} {x hi : Operand} {q : Sl} {n : Int} {sz eb : Nat} {z : Value} {H' : Sl → H} (hx : evO ρ x = some (.val q.v)) (hhi : evO ρ hi = some (.int n)) (hT : k.P.underlying T = some (.slice E)) (hE : El k.P E z sz eb)
 (hu : ∀ q' : Sl, Upd (AL q.v E sz f xs) (AL q'.v E sz f (xs.take n.toNat)) h (H' q')) (hsz : ∀ a, (f a).length = sz) (h0 : 0 ≤ n) (hn : n ≤ xs.length) (hd : Nat.blt d k.n = true)
 (hj : All fun q' : Sl => JL k ops l Q ((d, .val q'.v) :: ρ) (H' q')) : JL k ops (⟨some d, .slice T x none (some hi) none, ty, pos, after, none⟩ :: l) Q ρ h := by
 obtain ⟨h1, h2, e1, _⟩ := (hu Sl.nil).split
 have hperm : ∀ q' : Sl, (h1 ++ AL q'.v E sz f (xs.take n.toNat) :: h2).Perm (H' q') := fun q' => by
  obtain ⟨r, p1, p2⟩ := (hu q').perm
  refine List.perm_middle.trans (List.Perm.trans (List.Perm.cons _ ?_) p2.symm)
  rw [e1] at p1
  exact (List.perm_middle.symm.trans p1).cons_inv
 subst e1
 obtain ⟨i, hi', _, hsz', _⟩ := hE.get
 refine Ef rfl (fun t ht => by cases ht; exact blt hd) fun I a w k1 k2 => ?_
 have v1 := AQ (k2.ev x) (AD hx)
 have v2 := AQ (k2.ev hi) (AD hhi)
 have hfl : ∀ ys : List α, ((((ys.map f).flatten).map D.av)).length = ys.length * sz := fun ys => by
  rw [List.length_map, B8 _ (fun r hr => by obtain ⟨a, _, rfl⟩ := List.mem_map.1 hr; exact hsz a), List.length_map]
 have htake : (((xs.take n.toNat).map f).flatten).map D.av = ((((xs.map f).flatten).map D.av)).take (n.toNat * sz) := by
  have hl0 : ((((xs.take n.toNat).map f).flatten).map D.av).length = n.toNat * sz := by rw [hfl, List.length_take, Nat.min_eq_left jB]
  have e : ((xs.map f).flatten).map D.av = (((xs.take n.toNat).map f).flatten).map D.av ++ (((xs.drop n.toNat).map f).flatten).map D.av := by
   rw [← List.map_append, ← List.flatten_append, ← List.map_append, List.take_append_drop]
  rw [e, List.take_append_of_le_length jB]
  exact (List.take_of_length_le jB).symm
 have hlt : (xs.take n.toNat).length = n.toNat := by rw [List.length_take]; omega
 by_cases hx0 : 0 < xs.length
 · obtain ⟨g, cap, cur, rfl, hg, m1, m2, m3, hrel⟩ := Ent.row_form (k1.ent (AL q.v E sz f xs) (by simp)) hx0
   have b1 : 0 ≤ n ∧ n ≤ (cap : Int) := by omega
   have hle : n.toNat * sz ≤ cap * sz := Nat.mul_le_mul_right _ jB
   have hle2 : n.toNat * sz ≤ xs.length * sz := Nat.mul_le_mul_right _ jB
   refine ⟨.slice (some ⟨g, 0, none⟩) n.toNat cap, w, I, .val (Sl.v ⟨some ⟨g, 0, none⟩, n.toNat, cap⟩), _, ?_, (Ok.reent k1 (e' := AL (Sl.v ⟨some ⟨g, 0, none⟩, n.toNat, cap⟩) E sz f (xs.take n.toNat)) rfl ?_), k2, rfl, GQ (VS.perm (hperm _)) (hj.get _)⟩
   · simp [execOp, v1, v2, Instr.sliceAt, run_underlying hT, Instr.slice, Instr.sliceBounds, Instr.sliceBound, asIntOf, b1, sizeOf, typeInfo, hi', Addr.add]
   · refine ⟨cur.toList.take (n.toNat * sz), ⟨?_, .inr ⟨g, cap, cur, by rw [hlt], Nat.zero_le _, hg, by rw [hlt]; omega, m2, m3, by rw [hlt]⟩⟩, ?_⟩
     · rw [List.length_take, Array.length_toList (xs := cur), m3, hlt]; omega
     · rw [htake]
       have := D4 (n.toNat * sz) hrel
       rwa [List.take_take, Nat.min_eq_left hle2] at this
 · obtain rfl : xs = [] := List.eq_nil_of_length_eq_zero jB
   have hn0 : n = 0 := by simp at hn; omega
   subst hn0
   have he := k1.ent (AL q.v E sz f []) (by simp)
   obtain ⟨os, ho, _⟩ := he
   obtain ⟨ad, c, hq⟩ : ∃ ad c, q = ⟨ad, 0, c⟩ := by
    rcases ho.2 with ⟨hv, _⟩ | ⟨g, cap, cur, hv, _⟩
    · obtain ⟨a1, a2, a3⟩ := q
      simp only [Sl.v, Value.slice.injEq] at hv
      exact ⟨a1, a3, by rw [hv.2.1]⟩
    · obtain ⟨a1, a2, a3⟩ := q
      simp only [Sl.v, Value.slice.injEq] at hv
      exact ⟨a1, a3, by rw [hv.2.1]; rfl⟩
   subst hq
   refine ⟨.slice ad 0 c, w, I, .val (Sl.v ⟨ad, 0, c⟩), _, ?_, k1, k2, rfl, GQ (VS.perm (hperm ⟨ad, 0, c⟩)) (hj.get _)⟩
   have e0 : ad.map (fun x => x.add 0) = ad := by cases ad <;> simp [Addr.add]
   simp [execOp, v1, v2, Instr.sliceAt, run_underlying hT, Instr.slice, Instr.sliceBounds, Instr.sliceBound, asIntOf, sizeOf, typeInfo, hi', e0]
end
def Sl.sub (q : Sl) (m sz : Nat) : Sl := ⟨if q.c = m then q.ad else q.ad.map (·.add (m * sz)), q.n - m, q.c - m⟩
section
variable {P : Program} {G : List (Nat × List D)} {ρ : Env} {h : H} {dst : Option Tmp} {ty : TypeId} {pos : String} {after : Array Edge} {g : Option (Nat × Bool)}
theorem Vz {c : Cx} {I : Nat → Prop} {w : World} {α : Type} {f : α → List D} {xs : List α} {E : TypeId} {q : Sl} {sz : Nat} (hok : Ok c I h w) (hm : AL q.v E sz f xs ∈ h) : q.n = xs.length ∧ q.n ≤ q.c := by
 obtain ⟨os, ho, _⟩ := hok.ent _ hm
 obtain ⟨a1, a2, a3⟩ := q
 rcases ho.2 with ⟨hv, h0⟩ | ⟨g, cap, cur, hv, _, _, m1, _⟩
 · simp only [Sl.v, Value.slice.injEq] at hv
   obtain ⟨rfl, rfl, rfl⟩ := hv
   exact ⟨by dsimp only; omega, Nat.le_refl _⟩
 · simp only [Sl.v, Value.slice.injEq] at hv
   obtain ⟨rfl, rfl, rfl⟩ := hv
   exact ⟨rfl, m1⟩
theorem QS {α : Type} {f : α → List D} {xs : List α} {T E : TypeId} {x lo : Operand} {q : Sl} {m : Int} {sz eb : Nat} {z : Value} (hx : evO ρ x = some (.val q.v)) (hlo : evO ρ lo = some (.int m)) (hT : P.underlying T = some (.slice E)) (hE : El P E z sz eb)
 (hm : AL q.v E sz f xs ∈ h) (h0 : 0 ≤ m) (hn : m ≤ xs.length) : Pure P G ⟨dst, .slice T x (some lo) none none, ty, pos, after, g⟩ ρ h (.val (q.sub m.toNat sz).v) := by
 intro c I n a w _ hok hs
 obtain ⟨i, hi, _, hsz, _⟩ := hE.get
 have e1 := AQ (hs.ev x) (AD hx)
 have e2 := AQ (hs.ev lo) (AD hlo)
 obtain ⟨r1, r2⟩ := Vz hok hm
 refine ⟨_, rfl, fun w' _ => ?_⟩
 have b1 : 0 ≤ m ∧ m ≤ (q.n : Int) := by omega
 have b2 : (0 : Int) ≤ q.n ∧ (q.n : Int) ≤ q.c := by omega
 simp [execOp, e1, e2, Instr.sliceAt, run_underlying hT, Instr.slice, Instr.sliceBounds, Instr.sliceBound, asIntOf, b1, b2, sizeOf, typeInfo, hi, hsz, Sl.sub]
theorem Ux {α : Type} {f : α → List D} {xs : List α} {T E E' : TypeId} {x : Operand} {q : Sl} {m sz sz' : Nat} (hx : evO ρ x = some (.val (q.sub m sz).v)) (hT : P.underlying T = some (.slice E')) (hm : AL q.v E sz' f xs ∈ h) : Pure P G ⟨dst, .call { callee := .builtin .len, args := #[x], argTypes := #[T] }, ty, pos, after, g⟩ ρ h (.int ((xs.length - m : Nat) : Int)) := by
 intro c I n a w _ hok hs
 obtain ⟨r1, r2⟩ := Vz hok hm
 have e1 := AQ (hs.ev x) (AD hx)
 refine ⟨_, rfl, fun w' _ => ?_⟩
 have e2 : a.eval x = .slice (q.sub m sz).ad (q.n - m) (q.c - m) := e1
 simp [execOp, resolve, invoke, builtin, e2, Builtin.len_, run_underlying hT, goInt, r1]
theorem Pv {α : Type} {f : α → List D} {xs : List α} {T E : TypeId} {x y : Operand} {q : Sl} {m n sz eb : Nat} {z : Value} (hx : evO ρ x = some (.val (q.sub m sz).v)) (hy : evO ρ y = some (.int (n : Int))) (hT : P.underlying T = some (.slice E)) (hE : El P E z sz eb)
 (hm : AL q.v E sz f xs ∈ h) (hn : m + n < xs.length) : Pure P G ⟨dst, .indexAddr T x y, ty, pos, after, g⟩ ρ h (.val (.pointer (some (q.at ((m + n) * sz))))) := by
 intro c I o a w _ hok hs
 obtain ⟨i, hi, _, hsz, _⟩ := hE.get
 obtain ⟨gb, cap, cur, rfl, hg, m1, _⟩ := Ent.row_form (hok.ent _ hm) jB
 have e1 := AQ (hs.ev x) (AD hx)
 have e2 := AQ (hs.ev y) (AD hy)
 have hc : cap ≠ m := by omega
 have e3 : a.eval x = .slice (some ⟨gb, m * sz, none⟩) (xs.length - m) (cap - m) := by
  rw [e1]; simp [Sl.sub, Sl.v, hc, Addr.add_lit]
 refine ⟨_, rfl, fun w' _ => ?_⟩
 have h1 : n < xs.length - m := by omega
 simp [execOp, e3, e2, Instr.indexAt, run_underlying hT, asIntOf, h1, sizeOf, typeInfo, hi, hsz, Sl.at, Addr.add_lit, Nat.add_mul]
end
inductive InA (d : D) : List AV → Prop where
 | here {as_ : List AV} : InA d (.d d :: as_)
 | agg {cs as_ : List AV} (h : InA d cs) : InA d (.agg cs :: as_)
 | there {a : AV} {as_ : List AV} (h : InA d as_) : InA d (a :: as_)
theorem InA.rel {d : D} {w : World} {I : Nat → Prop} {args : List AV} (h : InA d args) : ∀ {vs : List Value}, AV.rels w I args vs → ∃ v, Rel w I d v := by
 induction h with
 | here => intro vs hr; cases vs with | nil => exact hr.elim | cons v vs => exact ⟨v, hr.1⟩
 | agg _ ih => intro vs hr; cases vs with | nil => exact hr.elim | cons v vs => obtain ⟨us, _, h⟩ := hr.1; exact ih h
 | there _ ih => intro vs hr; cases vs with | nil => exact hr.elim | cons v vs => exact ih hr.2
theorem AC.factI {α : Type} {f : α → List D} {xs : List α} {P : Program} {G : List (Nat × List D)} {fn : FuncId} {args : List AV} {h : H} {Q : AE → H → Prop} {sz eb : Nat} (hm : InA (.l sz eb (xs.map f)) args) (hac : xs.length * eb ≤ 140737488355328 → AC P G fn args h Q) : AC P G fn args h Q := by
 intro I W vs h1 h2 h3 h4 h5
 obtain ⟨v, hv⟩ := hm.rel h5
 have := (Rel.len_le hv).1
 rw [List.length_map] at this
 exact hac this I W vs h1 h2 h3 h4 h5
theorem AC.factN {α : Type} {f : α → List D} {g : List α → List D} {xss : List (List α)} {P : Program} {G : List (Nat × List D)} {fn : FuncId} {args : List AV} {h : H} {Q : AE → H → Prop} {sz eb : Nat} (sz' eb' : Nat) (hg : ∀ x, g x = [.l sz' eb' (x.map f)]) (hm : InA (.l sz eb (xss.map g)) args) (hac : (∀ x ∈ xss, x.length * eb' ≤ 140737488355328) → AC P G fn args h Q) : AC P G fn args h Q := by
 intro I W vs h1 h2 h3 h4 h5
 obtain ⟨v, hv⟩ := hm.rel h5
 refine hac (fun x hx => ?_) I W vs h1 h2 h3 h4 h5
 obtain ⟨j, hj, rfl⟩ := List.getElem_of_mem hx
 have key : ∀ rows, rows = xss.map g → Rel W I (.l sz eb rows) v → ∃ u, Rel W I (.l sz' eb' (xss[j].map f)) u := fun rows hr hrel => by
  have hrow : rows[j]? = some [D.l sz' eb' (xss[j].map f)] := by rw [hr, List.getElem?_map, List.getElem?_eq_getElem hj, ← hg]; rfl
  cases hrel with
  | nil => simp at hrow
  | emp => simp at hrow
  | l _ _ _ ad cap css hI hcap hm hb hsz hc hr => exact ⟨_, hr j 0 _ _ hrow rfl⟩
 obtain ⟨u, hu⟩ := key _ rfl hv
 have := (Rel.len_le hu).1
 rwa [List.length_map] at this
def Sl.cut (q : Sl) (n : Nat) : Sl := ⟨q.ad, n, q.c⟩
section
variable {k : Kx} {Q : Exit → Env → H → Prop} {ρ ρ' : Env} {h h' h1 h2 hr : H} {ops : Array Oper} {l : List Oper} {d : Nat} {dst : Option Tmp} {ty : TypeId} {pos : String} {after : Array Edge}
theorem VS.cut {α : Type} {f : α → List D} {xs : List α} {E : TypeId} {sz : Nat} {q : Sl} {n : Nat} (hu : Upd (AL q.v E sz f xs) (AL (q.cut n).v E sz f (xs.take n)) h h') (hsz : ∀ a, (f a).length = sz) (hn : n ≤ xs.length) : VS ρ h ρ h' := by
 obtain ⟨h1, h2, rfl, rfl⟩ := hu.split
 intro c I m a w k1 k2
 have hfl : ∀ ys : List α, ((((ys.map f).flatten).map D.av)).length = ys.length * sz := fun ys => by
  rw [List.length_map, B8 _ (fun r hr => by obtain ⟨a, _, rfl⟩ := List.mem_map.1 hr; exact hsz a), List.length_map]
 have htake : (((xs.take n).map f).flatten).map D.av = ((((xs.map f).flatten).map D.av)).take (n * sz) := by
  have hl0 : ((((xs.take n).map f).flatten).map D.av).length = n * sz := by rw [hfl, List.length_take, Nat.min_eq_left jB]
  have e : ((xs.map f).flatten).map D.av = (((xs.take n).map f).flatten).map D.av ++ (((xs.drop n).map f).flatten).map D.av := by
   rw [← List.map_append, ← List.flatten_append, ← List.map_append, List.take_append_drop]
  rw [e, List.take_append_of_le_length jB]
  exact (List.take_of_length_le jB).symm
 have hlt : (xs.take n).length = n := by rw [List.length_take]; omega
 by_cases hx0 : 0 < xs.length
 · obtain ⟨g, cap, cur, rfl, hg, m1, m2, m3, hrel⟩ := Ent.row_form (k1.ent (AL q.v E sz f xs) (by simp)) hx0
   have hle : n * sz ≤ cap * sz := Nat.mul_le_mul_right _ jB
   have hle2 : n * sz ≤ xs.length * sz := Nat.mul_le_mul_right _ hn
   refine ⟨I, Ok.reent k1 (e' := AL (Sl.v ⟨some ⟨g, 0, none⟩, n, cap⟩) E sz f (xs.take n)) rfl ?_, k2⟩
   refine ⟨cur.toList.take (n * sz), ⟨?_, .inr ⟨g, cap, cur, by rw [hlt], Nat.zero_le _, hg, by rw [hlt]; omega, m2, m3, by rw [hlt]⟩⟩, ?_⟩
   · rw [List.length_take, Array.length_toList (xs := cur), m3, hlt]; omega
   · rw [htake]
     have := D4 (n * sz) hrel
     rwa [List.take_take, Nat.min_eq_left hle2] at this
 · obtain rfl : xs = [] := List.eq_nil_of_length_eq_zero jB
   have hn0 : n = 0 := by simpa using hn
   subst hn0
   obtain ⟨r1, r2⟩ := Vz k1 (q := q) (f := f) (xs := []) (E := E) (sz := sz) (by simp)
   have : q.cut 0 = q := by
    obtain ⟨a1, a2, a3⟩ := q
    simp only [Sl.cut]
    simp at r1
    rw [r1]
   rw [this]
   exact ⟨I, k1, k2⟩
theorem Yo {fr : Nat × Nat → List D} {xs : List (Nat × Nat)} {T E : TypeId} {x y : Operand} {q : Sl} {j : Nat} {v : Int} {z : Value} {eb : Nat} (hx : evO ρ x = some (.val (.pointer (some (q.at (j * 2 + 1)))))) (hy : evO ρ y = some (.int v)) (hE : El k.P T z 1 eb) (hjl : j < xs.length)
 (hu : Upd (AL q.v E 2 fr xs) (AL q.v E 2 fr (xs.set j (xs[j].1, xs[j].2 + 1))) h h') (hfr : ∀ p, fr p = [.i .i64 (p.1 : Int), .i .i64 (p.2 : Int)]) (hv : v = (xs[j].2 : Int) + 1)
 (hj : JL k ops l Q ρ h') : JL k ops (⟨none, .store T x y, ty, pos, after, none⟩ :: l) Q ρ h := by
 obtain ⟨h1, h2, rfl, rfl⟩ := hu.split
 have hsz : ∀ a, (fr a).length = 2 := fun a => by rw [hfr]; rfl
 have hfl : ((((xs.map fr).flatten).map D.av)).length = xs.length * 2 := by
  rw [List.length_map, B8 _ (fun r hr => by obtain ⟨a, _, rfl⟩ := List.mem_map.1 hr; exact hsz a), List.length_map]
 refine PZ (off := j * 2 + 1) (r := .int v) (AD hx) (AD hy) rfl hE rfl jB (by rw [hfl]; simp [AV.cl]; omega) ?_
 have e : setAt (((xs.map fr).flatten).map D.av) (j * 2 + 1) (AV.cl (.int v)) = (((xs.set j (xs[j].1, xs[j].2 + 1)).map fr).flatten).map D.av := by
  rw [← Nu hsz xs j _ hjl, hfr]
  have hg0 : (((xs.map fr).flatten).map D.av)[j * 2]? = some (.int (xs[j].1 : Int)) := by
   have := R4 (f := fr) (xs := xs) (sz := 2) (j := j) (u := 0) (c := .i .i64 (xs[j].1 : Int)) hsz hjl (by rw [hfr]; rfl)
   simpa [D.av] using this
  generalize (((xs.map fr).flatten).map D.av) = cs at hg0
  have hlt := (List.getElem?_eq_some_iff.1 hg0).1
  have hge := (List.getElem?_eq_some_iff.1 hg0).2
  subst hv
  simp only [setAt, AV.cl, List.map_cons, List.map_nil, D.av, List.length_cons, List.length_nil]
  rw [jZ hlt, hge]
  simp [List.append_assoc]
 rw [e]
 unfold AL at hj
 rwa [List.length_set] at hj
end
section
variable {P : Program} {G : List (Nat × List D)} {ρ : Env} {h : H} {dst : Option Tmp} {ty : TypeId} {pos : String} {after : Array Edge} {g : Option (Nat × Bool)}
theorem QZ {α : Type} {f : α → List D} {xs : List α} {T E : TypeId} {x hi : Operand} {q : Sl} {n : Int} {sz eb : Nat} {z : Value} (hx : evO ρ x = some (.val q.v)) (hhi : evO ρ hi = some (.int n)) (hT : P.underlying T = some (.slice E)) (hE : El P E z sz eb)
 (hm : AL q.v E sz f xs ∈ h) (h0 : 0 ≤ n) (hn : n ≤ xs.length) : Pure P G ⟨dst, .slice T x none (some hi) none, ty, pos, after, g⟩ ρ h (.val (q.cut n.toNat).v) := by
 intro c I o a w _ hok hs
 obtain ⟨i, hi', _, hsz, _⟩ := hE.get
 have e1 := AQ (hs.ev x) (AD hx)
 have e2 := AQ (hs.ev hi) (AD hhi)
 obtain ⟨r1, r2⟩ := Vz hok hm
 refine ⟨_, rfl, fun w' _ => ?_⟩
 have b1 : 0 ≤ n ∧ n ≤ (q.c : Int) := by omega
 have e0 : q.ad.map (fun x => x.add 0) = q.ad := by cases q.ad <;> simp [Addr.add_lit, Addr.add]
 simp [execOp, e1, e2, Instr.sliceAt, run_underlying hT, Instr.slice, Instr.sliceBounds, Instr.sliceBound, asIntOf, b1, sizeOf, typeInfo, hi', Sl.cut, e0]
end
def dM : List Nat → List (List Nat)
 | [] => [[]]
 | x :: l => dM l ++ (dM l).map (x :: ·)
theorem Za {S l : List Nat} (h : S.Sublist l) : S ∈ dM l := by
 induction h with
 | slnil => exact List.mem_cons_self
 | cons a _ ih => exact List.mem_append.2 (.inl ih)
 | cons_cons a _ ih => exact List.mem_append.2 (.inr (List.mem_map.2 ⟨_, ih, rfl⟩))
def marks (listed : Array Bool) : List Nat → Array Bool
 | [] => listed
 | i :: l => (marks listed l).setIfInBounds i true
theorem Ng {listed : Array Bool} {l l' : List Nat} (h : l.Perm l') : marks listed l = marks listed l' := by
 induction h with
 | nil => rfl
 | cons x _ ih => simp only [marks, ih]
 | swap x y l =>
   simp only [marks]
   by_cases e : x = y
   · rw [e]
   · rw [Array.setIfInBounds_comm _ _ (Ne.symm e)]
 | trans _ _ ih1 ih2 => exact ih1.trans ih2
def YA (ops : Array Oper) (listed : Array Bool) (is : List Nat) : Bool :=
 (dM is).all fun T => decide (T.length = is.length) || (!(Region.ready .any ops (marks listed T)).isEmpty && (Region.ready .any ops (marks listed T)).all fun j => is.contains j && !T.contains j)
section
variable {k : Kx} {Q : Exit → Env → H → Prop} {ρ ρ' : Env} {h : H} {ops : Array Oper} {listed : Array Bool} {n f : Nat}
theorem iP (hle : Env.le ρ ρ') (hj : JX k ops f listed Q ρ' h) : JX k ops f listed Q ρ h := ⟨fun h1 h2 I a w k1 k2 k3 => hj.get h1 h2 I a w k1 (k2.le hle) k3⟩
inductive Reads (k : Kx) (ops : Array Oper) (ρ : Env) (h : H) : List (Nat × Nat × AV) → Prop where
 | nil : Reads k ops ρ h []
 | cons {i d : Nat} {r : AV} {op : Op} {ty : TypeId} {pos : String} {after : Array Edge} {l : List (Nat × Nat × AV)} (ho : ops[i]? = some ⟨some d, op, ty, pos, after, none⟩) (hp : Pure k.P k.c.G ⟨some d, op, ty, pos, after, none⟩ ρ h r) (hd : Nat.blt d k.n = true) (hf : GG ρ d = none) (t : Reads k ops ρ h l) : Reads k ops ρ h ((i, d, r) :: l)
theorem Reads.get {l : List (Nat × Nat × AV)} (t : Reads k ops ρ h l) {p : Nat × Nat × AV} (hp : p ∈ l) : ∃ op ty pos after, ops[p.1]? = some ⟨some p.2.1, op, ty, pos, after, none⟩ ∧ Pure k.P k.c.G ⟨some p.2.1, op, ty, pos, after, none⟩ ρ h p.2.2 ∧ p.2.1 < k.n ∧ GG ρ p.2.1 = none := by
 induction t with
 | nil => cases hp
 | cons ho h1 h2 h3 _ ih =>
   rcases List.mem_cons.1 hp with rfl | hp
   · exact ⟨_, _, _, _, ho, h1, blt h2, h3⟩
   · exact ih hp
def Gv (T : List (Nat × Nat × AV)) (ρ : Env) : Env := T.map (fun p => (p.2.1, p.2.2)) ++ ρ
theorem get_none : ∀ {ρ : Env} {t : Nat}, GG ρ t = none → Av.get ρ t = .any
 | [], _, _ => rfl
 | (u, v) :: r, t, h => by
   simp only [GG, Av.get] at h ⊢
   cases hb : Nat.beq u t with
   | true => rw [hb] at h; cases h
   | false => rw [hb] at h; simp only [cond_false] at h ⊢; exact get_none h
theorem aL {T : List (Nat × Nat × AV)} (hf : ∀ p ∈ T, GG ρ p.2.1 = none) : Env.le (Gv T ρ) ρ := by
 induction T with
 | nil => exact Env.le_refl _
 | cons p T ih =>
   intro t
   have h1 := ih (fun q hq => hf q (List.mem_cons_of_mem _ hq)) t
   show AV.le (bif Nat.beq p.2.1 t then p.2.2 else Av.get (Gv T ρ) t) (Av.get ρ t)
   cases hb : Nat.beq p.2.1 t with
   | true =>
     have e : p.2.1 = t := Nat.eq_of_beq_eq_true hb
     rw [← e, get_none (hf p List.mem_cons_self)]
     exact AV.le_any _
   | false => exact h1
theorem Tr {T T' : List (Nat × Nat × AV)} (hp : T.Perm T') (hn : (T.map fun p => p.2.1).Nodup) : ∀ t, Av.get (Gv T ρ) t = Av.get (Gv T' ρ) t := by
 induction hp with
 | nil => intro t; rfl
 | cons x _ ih =>
   intro t
   show (bif Nat.beq x.2.1 t then x.2.2 else Av.get (Gv _ ρ) t) = (bif Nat.beq x.2.1 t then x.2.2 else Av.get (Gv _ ρ) t)
   rw [ih (List.nodup_cons.1 hn).2 t]
 | swap x y l =>
   intro t
   show (bif Nat.beq y.2.1 t then y.2.2 else bif Nat.beq x.2.1 t then x.2.2 else Av.get (Gv l ρ) t) = (bif Nat.beq x.2.1 t then x.2.2 else bif Nat.beq y.2.1 t then y.2.2 else Av.get (Gv l ρ) t)
   have hne : y.2.1 ≠ x.2.1 := fun e => (List.nodup_cons.1 hn).1 (by show y.2.1 ∈ _; rw [e]; exact List.mem_cons_self)
   cases h1 : Nat.beq y.2.1 t with
   | false => rfl
   | true =>
     have e1 : y.2.1 = t := Nat.eq_of_beq_eq_true h1
     cases h2 : Nat.beq x.2.1 t with
     | false => rfl
     | true => exact absurd (e1.trans (Nat.eq_of_beq_eq_true h2).symm) hne
 | trans h1 _ ih1 ih2 =>
   intro t
   rw [ih1 hn t, ih2 ((h1.map _).nodup_iff.1 hn) t]
theorem bW {L : List (Nat × Nat × AV)} (t : Reads k ops ρ h L) (hc : YA ops listed (L.map (·.1)) = true) (hn : (L.map fun p => p.2.1).Nodup) (hi : (L.map (·.1)).Nodup)
 (hj : JX k ops f (marks listed (L.map (·.1))) Q (Gv L ρ) h) : ∀ (m : Nat) (T R : List (Nat × Nat × AV)), R.length = m → (T ++ R).Perm L → JX k ops (f + m) (marks listed (T.map (·.1))) Q (Gv T ρ) h := by
 intro m
 induction m with
 | zero =>
   intro T R hR hp
   obtain rfl : R = [] := List.eq_nil_of_length_eq_zero hR
   rw [List.append_nil] at hp
   rw [Ng (hp.map _)]
   exact iP (fun t => AV.le_of_eq (Tr hp ((hp.map _).nodup_iff.2 hn) t)) hj
 | succ m ih =>
   intro T R hR hp
   have hpi := hp.map (·.1)
   rw [List.map_append] at hpi
   have hnd := hpi.nodup_iff.2 hi
   have hS : ((L.map (·.1)).filter fun j => (T.map (·.1)).contains j).Perm (T.map (·.1)) := by
    refine (hpi.symm.filter _).trans ?_
    rw [List.filter_append]
    have e1 : (T.map (·.1)).filter (fun j => (T.map (·.1)).contains j) = T.map (·.1) := List.filter_eq_self.2 fun a ha => by simpa using ha
    have e2 : (R.map (·.1)).filter (fun j => (T.map (·.1)).contains j) = [] := List.filter_eq_nil_iff.2 fun a ha hc => (List.nodup_append.1 hnd).2.2 a (by simpa using hc) a ha rfl
    rw [e1, e2, List.append_nil]
   have hsub := Za (List.filter_sublist (p := fun j => (T.map (·.1)).contains j) (l := L.map (·.1)))
   have hchk := List.all_eq_true.1 hc _ hsub
   have hlen : ((L.map (·.1)).filter fun j => (T.map (·.1)).contains j).length ≠ (L.map (·.1)).length := by
    rw [hS.length_eq, ← hpi.length_eq]
    simp only [List.length_append, List.length_map]
    omega
   rw [decide_eq_false hlen, Bool.false_or, Ng hS, Bool.and_eq_true] at hchk
   refine cb (fun e => by rw [e] at hchk; simp at hchk) fun j hjr => ?_
   have hjc := List.all_eq_true.1 hchk.2 j hjr
   simp only [Bool.and_eq_true, Bool.not_eq_true'] at hjc
   have hjL : j ∈ L.map (·.1) := by simpa using hjc.1
   have hjT : j ∉ T.map (·.1) := fun hm => by
    have : ((L.map (·.1)).filter fun j => (T.map (·.1)).contains j).contains j = true := by simpa using hS.mem_iff.2 hm
    rw [this] at hjc
    exact absurd hjc.2 (by decide)
   have hjR : j ∈ R.map (·.1) := by
    rcases List.mem_append.1 (hpi.mem_iff.2 hjL) with h1 | h1
    · exact absurd h1 hjT
    · exact h1
   obtain ⟨p, hpR, rfl⟩ := List.mem_map.1 hjR
   obtain ⟨R1, R2, rfl⟩ := List.append_of_mem hpR
   have hpL : p ∈ L := hp.mem_iff.1 (by simp)
   obtain ⟨op, ty, pos, after, ho, hpu, hd, hfr⟩ := t.get hpL
   have hle : Env.le (Gv T ρ) ρ := aL fun q hq => by
    obtain ⟨_, _, _, _, _, _, _, h4⟩ := t.get (hp.mem_iff.1 (List.mem_append.2 (.inl hq)))
    exact h4
   have hpu' : Pure k.P k.c.G ⟨some p.2.1, op, ty, pos, after, none⟩ (Gv T ρ) h p.2.2 := fun c I n a w e1 e2 e3 => hpu c I n a w e1 e2 (e3.le hle)
   refine ⟨_, ho, Vt hpu' rfl (fun t ht => by cases ht; exact hd) (QN ⟨rfl, ?_⟩)⟩
   have hperm : (p :: T ++ (R1 ++ R2)).Perm L := by
    refine List.Perm.trans ?_ hp
    rw [List.cons_append, ← List.append_assoc, ← List.append_assoc]
    exact (List.perm_middle (l₁ := T ++ R1) (l₂ := R2) (a := p)).symm
   have := ih (p :: T) (R1 ++ R2) (by simp at hR ⊢; omega) hperm
   exact this
theorem Wa (L : List (Nat × Nat × AV)) (is ds : List Nat) {g i m : Nat} (t : Reads k ops ρ h L) (his : L.map (·.1) = is) (hds : (L.map fun p => p.2.1) = ds) (hf : f + L.length = g) (hc : YA ops listed is = true) (hn : ds.Nodup) (hi : is.Nodup)
 (hj : JXP k ops n f (marks listed is) 0 n Q (Gv L ρ) h) : JXP k ops n g listed i m Q ρ h := by
 subst his hds
 exact ⟨by rw [← hf]; exact bW t hc hn hi hj.get L.length [] L rfl (by simp)⟩
end
structure Sam (T : List Nat) (w w' : World) : Prop where
 os : w'.os = w.os
 tape : w'.tape = w.tape
 output : w'.output = w.output
 size : w.heap.size ≤ w'.heap.size
 block : ∀ b, b < w.heap.size → b ∉ T → w'.heap[b]? = w.heap[b]?
theorem Sam.refl (T : List Nat) (w : World) : Sam T w w := ⟨rfl, rfl, rfl, Nat.le_refl _, fun _ _ _ => rfl⟩
def Hb (ops : Array Oper) (n : Nat) : Bool :=
 Region.noSelect ops && decide (n ≤ ops.size) && (decide (n = ops.size) || (Region.sinkB .any ops n && Region.chainB .any ops n))
structure JH (k : Kx) (ops : Array Oper) (n f : Nat) (listed : Array Bool) (l2 : List Oper) (i m : Nat) (pr : Bool) (Q : Exit → Env → H → Prop) (hT : H) (ρ : Env) (h : H) : Prop where
 get : Hb ops n = true → HeadInv .any ops n listed → ∀ I a w, Ok k.c I (hT ++ h) w → SF k.n w I ρ a → a.defers = k.df →
  HP k.P .any ops (Sam (blks hT) w) n (fun listed' a' w' => Region.seqB .any ops (ops.size - n) n listed' = true ∧ wpList k.P ops (lift k Q) l2 a' w') f listed a w
structure JHS (k : Kx) (ops : Array Oper) (n f : Nat) (listed : Array Bool) (l2 : List Oper) (i m : Nat) (Q : Exit → Env → H → Prop) (hT : H) (ρ : Env) (h : H) : Prop where
 get : ∀ j, i ≤ j → j < i + m → j ∈ Region.ready .any ops listed → ∃ o, ops[j]? = some o ∧ ∀ c : World × (Nat → Prop) × List Nat, JL ⟨k.P, ⟨c.1, c.2.1, c.2.2, k.c.G⟩, k.n, k.df⟩ ops [o] (fun e ρ' hT' => e = .normal ∧ JH k ops n f (listed.setIfInBounds j true) l2 0 n false Q hT' ρ' h) ρ hT
theorem NY {ops : Array Oper} {n : Nat} (hs : Hb ops n = true) {i : Nat} (hi : i < n) : ∀ listed, HeadInv .any ops n listed → i ∈ Region.ready .any ops listed → ∀ j ∈ Region.ready .any ops listed, j < n := by
 simp only [Hb, Bool.and_eq_true, Bool.or_eq_true, decide_eq_true_eq] at hs
 obtain ⟨⟨hsel, hle⟩, hor⟩ := hs
 intro listed inv hr j hj
 rcases hor with hn | ⟨hs, hc⟩
 · obtain ⟨_, o, ho, _⟩ := mem_ready.1 hj
   rw [hn]; exact (Array.getElem?_eq_some_iff.1 ho).1
 · rcases Nat.lt_or_ge j n with h | h
   · exact h
   · obtain ⟨_, o, ho, _⟩ := mem_ready.1 hj
     have hlt := (Array.getElem?_eq_some_iff.1 ho).1
     exact absurd hj (tail_waits hs hc jB inv _ i rfl hi (mem_ready.1 hr).1 j h)
theorem cW {ops : Array Oper} {n : Nat} (hs : Hb ops n = true) : Region.noSelect ops = true := by
 simp only [Hb, Bool.and_eq_true] at hs
 exact hs.1.1
section
variable {k : Kx} {Q : Exit → Env → H → Prop} {ρ ρ' : Env} {h h' hT : H} {ops : Array Oper} {listed : Array Bool} {l2 : List Oper} {n f i m d : Nat} {op : Op} {ty : TypeId} {pos : String} {after : Array Edge} {pr : Bool}
theorem Ok.right {c : Cx} {I : Nat → Prop} {w : World} (k1 : Ok c I (hT ++ h) w) : Ok c I h w where
 ent e he := k1.ent e (List.mem_append.2 (.inr he))
 nd := by have := k1.nd; rw [Ad] at this; exact (List.nodup_append.1 this).2.1
 imm b hb := ⟨(k1.imm b hb).1, fun hm => (k1.imm b hb).2 (by rw [Ad]; exact List.mem_append.2 (.inr hm))⟩
 new b hb := k1.new b (by rw [Ad]; exact List.mem_append.2 (.inr hb))
 inew := k1.inew
 sup := k1.sup
 os := k1.os
 tape := k1.tape
 output := k1.output
 size := k1.size
 keep := k1.keep
 glob := k1.glob
theorem Ok.left {c : Cx} {I : Nat → Prop} {w : World} (k1 : Ok c I (hT ++ h) w) : Ok ⟨w, I, blks hT, c.G⟩ I hT w where
 ent e he := k1.ent e (List.mem_append.2 (.inl he))
 nd := by have := k1.nd; rw [Ad] at this; exact (List.nodup_append.1 this).1
 imm b hb := ⟨(k1.imm b hb).1, fun hm => (k1.imm b hb).2 (by rw [Ad]; exact List.mem_append.2 (.inl hm))⟩
 new b hb := .inl hb
 inew b hb := .inl hb
 sup b hb := hb
 os := rfl
 tape := rfl
 output := rfl
 size := Nat.le_refl _
 keep _ _ _ := rfl
 glob := k1.glob
theorem Sam.weak {c : Cx} {I : Nat → Prop} {w w' : World} (k1 : Ok c I (hT ++ h) w) (s : Sam (blks hT) w w') : Pe I h w w' where
 imm b hb := s.block b (k1.imm b hb).1 fun hm => (k1.imm b hb).2 (by rw [Ad]; exact List.mem_append.2 (.inl hm))
 own b hb := s.block b (by
  obtain ⟨e, he, heb⟩ := List.mem_filterMap.1 hb
  exact Ent.blk_lt (k1.ent e (List.mem_append.2 (.inr he))) heb) fun hm => by
  have := k1.nd
  rw [Ad] at this
  exact (List.nodup_append.1 this).2.2 b hm b hb rfl
theorem QW {o : Oper} {r : AV} (ho : ops[i]? = some o) (hc : EM ops listed n i = true) (hd : ∀ t, o.dst = some t → t < k.n)
 (hy : ∀ I a w, Ok k.c I (hT ++ h) w → SF k.n w I ρ a → ∃ v, AV.rel w I r v ∧ YieldsIf k.P ops (Sam (blks hT) w) o v a)
 (hj : JH k ops n f (listed.setIfInBounds i true) l2 (i + 1) m true Q hT (put ρ o.dst r) h) : JH k ops n (f + 1) listed l2 i (m + 1) pr Q hT ρ h := by
 refine ⟨fun hs inv I a w h1 h2 h3 => ?_⟩
 simp only [EM, Bool.and_eq_true, decide_eq_true_eq] at hc
 obtain ⟨⟨hr, hf⟩, hin⟩ := hc
 have hr' : i ∈ Region.ready .any ops listed := by simpa using hr
 obtain ⟨v, hv, hyv⟩ := hy I a w h1 h2
 exact Ic ho (Region.noSelect_spec (cW hs)) (NY hs hin) hin (fun _ _ _ h => seqB_ready h.1) f listed a w inv (Region.free_spec ho hf) hr' hyv (Sam.refl _ _)
  (hj.get hs (inv.set hr' hin) I _ w h1 (h2.put hd hv) (by rw [Act.defers_put]; exact h3))
theorem Hh {r : AV} (ho : ops[i]? = some ⟨some d, op, ty, pos, after, none⟩) (hc : EM ops listed n i = true) (hp : Pure k.P k.c.G ⟨some d, op, ty, pos, after, none⟩ ρ h r) (hd : Nat.blt d k.n = true)
 (hj : JH k ops n f (listed.setIfInBounds i true) l2 (i + 1) m true Q hT ((d, r) :: ρ) h) : JH k ops n (f + 1) listed l2 i (m + 1) pr Q hT ρ h :=
 QW ho hc (fun t ht => by cases ht; exact blt hd) (fun I a w h1 h2 => by
  obtain ⟨v, hv, hrun⟩ := hp k.c I k.n a w rfl h1.right h2
  exact ⟨v, hv, .inl ⟨by simp [Region.wanted], fun w' hw' => hrun w' (hw'.weak h1)⟩⟩) hj
theorem aU {j dj : Nat} {want : Bool} {oj : Oper} {r : AV} (ho : ops[i]? = some ⟨some d, op, ty, pos, after, some (j, want)⟩) (hoj : ops[j]? = some oj) (hdj : oj.dst = some dj) (hr : get ρ dj = .val (.bool want)) (hn : Nat.blt dj k.n = true) (hc : EM ops listed n i = true)
 (hp : Pure k.P k.c.G ⟨some d, op, ty, pos, after, some (j, want)⟩ ρ h r) (hd : Nat.blt d k.n = true)
 (hj : JH k ops n f (listed.setIfInBounds i true) l2 (i + 1) m true Q hT ((d, r) :: ρ) h) : JH k ops n (f + 1) listed l2 i (m + 1) pr Q hT ρ h :=
 QW ho hc (fun t ht => by cases ht; exact blt hd) (fun I a w h1 h2 => by
  obtain ⟨v, hv, hrun⟩ := hp k.c I k.n a w rfl h1.right h2
  have hw := Fb (ops := ops) (o := ⟨some d, op, ty, pos, after, some (j, want)⟩) h2 rfl hoj hdj hr (blt hn)
  exact ⟨v, hv, .inl ⟨by rw [hw]; simp, fun w' hw' => hrun w' (hw'.weak h1)⟩⟩) hj
theorem aA {j dj : Nat} {want : Bool} {oj : Oper} (ho : ops[i]? = some ⟨some d, op, ty, pos, after, some (j, want)⟩) (hoj : ops[j]? = some oj) (hdj : oj.dst = some dj) (hr : get ρ dj = .val (.bool (!want))) (hn : Nat.blt dj k.n = true) (hc : EM ops listed n i = true) (hd : Nat.blt d k.n = true)
 (hj : JH k ops n f (listed.setIfInBounds i true) l2 (i + 1) m true Q hT ((d, .val undef) :: ρ) h) : JH k ops n (f + 1) listed l2 i (m + 1) pr Q hT ρ h :=
 QW ho hc (fun t ht => by cases ht; exact blt hd) (fun I a w h1 h2 => by
  have hw := Fb (ops := ops) (o := ⟨some d, op, ty, pos, after, some (j, want)⟩) h2 rfl hoj hdj hr (blt hn)
  exact ⟨undef, rfl, .inr ⟨by rw [hw]; cases want <;> simp, rfl⟩⟩) hj
theorem dw (hle : Env.le ρ ρ') (hj : JH k ops n f listed l2 i m pr Q hT ρ' h) : JH k ops n f listed l2 i m pr Q hT ρ h := ⟨fun hs inv I a w h1 h2 h3 => hj.get hs inv I a w h1 (h2.le hle) h3⟩
theorem Nz {j dj : Nat} {c want : Bool} {oj : Oper} (ho : ops[i]? = some ⟨some d, op, ty, pos, after, some (j, want)⟩) (hoj : ops[j]? = some oj) (hdj : oj.dst = some dj) (hr : get ρ dj = .val (.bool c)) (hc : EM ops listed n i = true)
 (hb : CB c (JH k ops n (f + 1) listed l2 i (m + 1) pr Q hT ((dj, .bool true) :: ρ) h) (JH k ops n (f + 1) listed l2 i (m + 1) pr Q hT ((dj, .bool false) :: ρ) h)) : JH k ops n (f + 1) listed l2 i (m + 1) pr Q hT ρ h := by
 cases c with
 | true => exact dw (Env.le_cons (AV.le_of_eq hr) (Env.le_refl _)) (hb.1 rfl)
 | false => exact dw (Env.le_cons (AV.le_of_eq hr) (Env.le_refl _)) (hb.2 rfl)
theorem Qc (hj : JH k ops n f listed l2 (i + 1) m pr Q hT ρ h) : JH k ops n f listed l2 i (m + 1) pr Q hT ρ h := ⟨hj.get⟩
theorem QI (hj : JH k ops n f listed l2 0 n false Q hT ρ h) : JH k ops n f listed l2 i 0 true Q hT ρ h := ⟨hj.get⟩
theorem QV (hc : Region.seqB .any ops (ops.size - n) n listed = true) (ha : App hT h h') (hj : JL k ops l2 Q ρ h') : JH k ops n 0 listed l2 i m pr Q hT ρ h :=
 ⟨fun _ _ I a w h1 h2 h3 => ⟨hc, hj I a w (by rw [ha.eq]; exact h1) h2 h3⟩⟩
theorem ay (hne : (Region.ready .any ops listed).isEmpty = false) (hs : (Region.ready .any ops listed).all (fun j => decide (j < n)) = true) (hj : JHS k ops n f listed l2 0 n Q hT ρ h) : JH k ops n (f + 1) listed l2 i 0 false Q hT ρ h := by
 refine ⟨fun hsh inv I a w h1 h2 h3 => ⟨fun e => by rw [e] at hne; simp at hne, fun j hjr => ?_⟩⟩
 have hjn : j < n := by simpa using List.all_eq_true.1 hs j hjr
 refine ⟨hjn, ?_⟩
 obtain ⟨o, ho, hJ⟩ := hj.get j (Nat.zero_le _) jB hjr
 have H := hJ (w, I, blks hT) I a w h1.left h2 h3
 unfold wpOp
 rw [ho]
 dsimp only at H ⊢
 have hK : ∀ a' w', lift ⟨k.P, ⟨w, I, blks hT, k.c.G⟩, k.n, k.df⟩ (fun e ρ' hT' => e = .normal ∧ JH k ops n f (listed.setIfInBounds j true) l2 0 n false Q hT' ρ' h) .normal a' w' →
  Sam (blks hT) w w' ∧ HP k.P .any ops (Sam (blks hT) w) n (fun listed' a' w' => Region.seqB .any ops (ops.size - n) n listed' = true ∧ wpList k.P ops (lift k Q) l2 a' w') f (listed.setIfInBounds j true) a' w' := by
  rintro a' w' ⟨I', ρ', hT', q1, q2, q3, _, q4⟩
  obtain ⟨k1, _⟩ := Ok.call (hc := hT) (hr := h) h1 q1
  have hsm : Sam (blks hT) w w' := ⟨q1.os, q1.tape, q1.output, q1.size, fun b hb hE => q1.keep b hb hE⟩
  refine ⟨hsm, Fv (S := Sam (blks hT') w') (fun u hu => ?_) _ _ _ _ (q4.get hsh (inv.set hjr hjn) I' a' w' k1 q2 q3)⟩
  refine ⟨hu.os.trans hsm.os, hu.tape.trans hsm.tape, hu.output.trans hsm.output, Nat.le_trans hsm.size hu.size, fun b hb hE => (hu.block b (Nat.lt_of_lt_of_le hb hsm.size) fun hm => ?_).trans (hsm.block b hb hE)⟩
  rcases q1.new b hm with hx | hx
  · exact hE hx
  · exact absurd hb (Nat.not_lt.2 hx)
 have hQ : ∀ e a' w', e ≠ .normal → ¬ lift ⟨k.P, ⟨w, I, blks hT, k.c.G⟩, k.n, k.df⟩ (fun e ρ' hT' => e = .normal ∧ JH k ops n f (listed.setIfInBounds j true) l2 0 n false Q hT' ρ' h) e a' w' := by
  rintro e a' w' he ⟨_, _, _, _, _, _, q, _⟩
  exact he q
 rw [wpList] at H
 by_cases hw : Region.wanted o (yielded ops a.tmps) = true
 · rw [if_pos hw] at H ⊢
   rcases H with H | ⟨_, a', w', H⟩
   · exact .inl (Hz hK hQ H)
   · exact absurd H (hQ _ _ _ (by simp))
 · rw [if_neg hw] at H ⊢
   exact hK _ _ H
theorem Vp (_ht : True) : JHS k ops n f listed l2 i 0 Q hT ρ h := ⟨fun j h1 h2 => by omega⟩
theorem Yk (hc : (Region.ready .any ops listed).contains i = false) (hj : JHS k ops n f listed l2 (i + 1) m Q hT ρ h) : JHS k ops n f listed l2 i (m + 1) Q hT ρ h :=
 ⟨fun j h1 h2 hr => by
  by_cases e : j = i
  · subst e
    have : (Region.ready .any ops listed).contains j = true := by simpa using hr
    rw [this] at hc; cases hc
  · exact hj.get j jB jB hr⟩
structure gP (p : World × (Nat → Prop) × List Nat → Prop) : Prop where
 get : ∀ c, p c
theorem AB {p : World × (Nat → Prop) × List Nat → Prop} (h : ∀ c, p c) : gP p := ⟨h⟩
theorem Vg {dst : Option Tmp} {g : Option (Nat × Bool)} (ho : ops[i]? = some ⟨dst, op, ty, pos, after, g⟩)
 (hj : Two (gP fun c => JL ⟨k.P, ⟨c.1, c.2.1, c.2.2, k.c.G⟩, k.n, k.df⟩ ops [⟨dst, op, ty, pos, after, g⟩] (fun e ρ' hT' => e = .normal ∧ JH k ops n f (listed.setIfInBounds i true) l2 0 n false Q hT' ρ' h) ρ hT) (JHS k ops n f listed l2 (i + 1) m Q hT ρ h)) : JHS k ops n f listed l2 i (m + 1) Q hT ρ h :=
 ⟨fun j h1 h2 hr => by
  by_cases e : j = i
  · subst e
    exact ⟨_, ho, hj.fst.get⟩
  · exact hj.snd.get j jB jB hr⟩
theorem UW {k' : Kx} (hj : JH k ops n f listed l2 i m pr Q hT ρ h) : JL k' ops [] (fun e ρ' hT' => e = .normal ∧ JH k ops n f listed l2 i m pr Q hT' ρ' h) ρ hT := QN ⟨rfl, hj⟩
def effB : Op → Bool
 | .makeSlice _ _ _ => true
 | .alloc _ => true
 | .box _ _ => true
 | .buildSlice _ _ _ => true
 | .call c => (match c.callee with
   | .value _ => true
   | .builtin .append => true
   | _ => false)
 | _ => false
theorem KH {X : Type} {x : Code} {N : Env → H → Prop} (S : X → Env) (G : X → H) (hx : J k x (fun e ρ' h' => e = .normal ∧ ∃ y, VS ρ' h' (S y) (G y)) ρ h) (hq : ∀ y, N (S y) (G y)) : J k x (Lo N Q) ρ h :=
 NN S G hx fun y => En (hq y)
inductive Hd : List Oper → Nat → List Oper → Prop where
 | nil {l : List Oper} : Hd l 0 l
 | cons {d : Option Tmp} {op : Op} {ty : TypeId} {pos : String} {after : Array Edge} {g : Option (Nat × Bool)} {l l2 : List Oper} {n : Nat} (hb : ZD op = false) (h : Hd l n l2) : Hd (⟨d, op, ty, pos, after, g⟩ :: l) (n + 1) l2
theorem Hd.drop {l l2 : List Oper} {n : Nat} (h : Hd l n l2) : l.drop n = l2 ∧ n ≤ l.length := by
 induction h with
 | nil => exact ⟨rfl, Nat.zero_le _⟩
 | cons _ h ih => exact ⟨by simpa using ih.1, by simp; omega⟩
theorem CL {id t : Nat} {l l2 : List Oper} {P : Program} (hT : H) (hm : P.follows .mixedOrders = true) (hP : k.P = P) (hx : Hd l n l2) (hn : l.length = t) (hs : Hb l.toArray n = true) (ht : Take h hT h')
 (hj : JH k l.toArray n n (Array.replicate t false) l2 0 n false Q hT ρ h') : J k (.region id l.toArray true) Q ρ h := by
 refine IH (VS.perm ht.perm) ?_
 subst hP
 subst hn
 intro I a w h1 h2 h3
 obtain ⟨hd, hle⟩ := hx.drop
 refine wp_region_any hm ?_
 have hsm : Dq I (hT ++ h') w { w with drawn := w.drawn + 1 } := ⟨rfl, rfl, rfl, Nat.le_refl _, fun _ _ => rfl⟩
 have inv0 : HeadInv .any l.toArray n (Array.replicate l.length false) :=
  ⟨by simp, fun j oj _ hl => (by rw [getD_replicate_false] at hl; cases hl), fun t _ ht => getD_in (by simpa using ht) (getD_replicate_false _ _)⟩
 have H := hj.get hs inv0 I a _ (h1.same hsm) (SF.same h1 hsm h2) h3
 have K := EC (Q := lift k Q) (g := l.length - n) (fun listed' a' w' hL => by
  have := wpAny_of_seq (md := .any) (Q' := lift k Q) l2 n listed' a' w' (fun j => by rw [← hd]; simp [List.getElem?_drop]) (by
   have e : l2.length = l.toArray.size - n := by rw [← hd]; simp
   rw [e]; exact hL.1) hL.2
  have e : l2.length = l.length - n := by rw [← hd]; simp
  rwa [e] at this) _ _ _ _ H
 rw [show n + (l.length - n) = l.toArray.size by simp; omega] at K
 simpa using K
theorem Iq {id t : Nat} {l l2 : List Oper} {P : Program} (hm : P.follows .mixedOrders = true) (hP : k.P = P) (hx : Hd l n l2) (hn : l.length = t) (hs : Hb l.toArray n = true)
 (hj : JH k l.toArray n n (Array.replicate t false) l2 0 n false Q [] ρ h) : J k (.region id l.toArray true) Q ρ h := CL [] hm hP hx hn hs .nil hj
end
abbrev EU {α : Type} (E : TypeId) (sz : Nat) (f : α → List D) (qs : List Sl) (ls : List (List α)) : H := List.zipWith (fun q l => AL q.v E sz f l) qs ls
section
variable {ρ : Env} {h h' : H} {α : Type} {f : α → List D} {E : TypeId} {sz : Nat} {qs : List Sl} {ls : List (List α)}
theorem VS.refl : VS ρ h ρ h := VS.of_le (Env.le_refl _)
theorem VS.rows0 (E : TypeId) (sz : Nat) (f : α → List D) : ∀ (n : Nat) (h : H), VS ρ h ρ (h ++ EU E sz f (List.replicate n Sl.nil) (List.replicate n []))
 | 0, h => by simpa using VS.refl
 | n + 1, h => by
   have h1 : VS ρ h ρ (AL Sl.nil.v E sz f [] :: h) := VS.nilrow E sz
   refine VS.trans h1 (VS.trans (VS.rows0 E sz f n _) (VS.perm ?_))
   simp only [List.replicate_succ, List.zipWith_cons_cons]
   exact (List.perm_middle).symm
theorem Js {β : Type} : ∀ (l : List β) (i : Nat) (h : i < l.length), (l[i] :: l.eraseIdx i).Perm l
 | [], i, h => by simp at h
 | x :: l, 0, h => by simp
 | x :: l, i + 1, h => by
   have ih := Js l i (by simpa using h)
   simp only [List.getElem_cons_succ, List.eraseIdx_cons_succ]
   exact (List.Perm.swap x (l[i]'(by simpa using h)) _).trans (List.Perm.cons x ih)
theorem Wh (i : Nat) (hi : i < (EU E sz f qs ls).length) : (EU E sz f qs ls).Perm ((EU E sz f qs ls)[i] :: (EU E sz f qs ls).eraseIdx i) := (Js _ i hi).symm
theorem VS.pickR (h0 : H) (i : Nat) (h1 : i < qs.length) (h2 : i < ls.length) : VS ρ (h0 ++ EU E sz f qs ls) ρ (AL qs[i].v E sz f ls[i] :: (h0 ++ (EU E sz f qs ls).eraseIdx i)) := by
 refine VS.perm ?_
 have hi : i < (EU E sz f qs ls).length := by rw [List.length_zipWith]; omega
 have hp := Wh i hi
 rw [show (EU E sz f qs ls)[i] = AL qs[i].v E sz f ls[i] from List.getElem_zipWith] at hp
 exact (List.Perm.append_left h0 hp).trans List.perm_middle
theorem VS.putR (h0 : H) (i : Nat) (q : Sl) (l : List α) (h1 : i < qs.length) (h2 : i < ls.length) : VS ρ (AL q.v E sz f l :: (h0 ++ (EU E sz f qs ls).eraseIdx i)) ρ (h0 ++ EU E sz f (qs.set i q) (ls.set i l)) := by
 refine VS.perm ?_
 have e : EU E sz f (qs.set i q) (ls.set i l) = (EU E sz f qs ls).set i (AL q.v E sz f l) := by
  apply List.ext_getElem
  · simp
  · intro j a b
    simp only [List.getElem_zipWith, List.getElem_set]
    split <;> rfl
 have hi : i < ((EU E sz f qs ls).set i (AL q.v E sz f l)).length := by rw [List.length_set, List.length_zipWith]; omega
 have hp := (Js _ i hi).symm
 rw [List.getElem_set_self, List.eraseIdx_set_eq, ← e] at hp
 exact (List.perm_middle.symm.trans (List.Perm.append_left h0 hp.symm))
theorem Cvs.refl (v : Value) (d : D) : ∀ xs : List AV, Cvs v d xs xs
 | [] => .nil
 | x :: xs => .cons (.same x) (Cvs.refl v d xs)
theorem Cvs.mid (v : Value) (d : D) (r : List AV) : ∀ xs : List AV, Cvs v d (xs ++ .val v :: r) (xs ++ .d d :: r)
 | [] => .cons .here (Cvs.refl v d r)
 | x :: xs => .cons (.same x) (Cvs.mid v d r xs)
theorem CvH.under (v : Value) (d : D) {h h' : H} (k : CvH v d h h') : ∀ h0 : H, CvH v d (h0 ++ h) (h0 ++ h')
 | [] => k
 | _ :: h0 => .keep (CvH.under v d k h0)
theorem VS.frzR {b : Nat} {T : TypeId} (eb : Nat) (h0s : Nat.blt 0 sz = true) (hsz : ∀ a, (f a).length = sz) (h0 h1 : H) : ∀ (qs : List Sl) (ls : List (List α)) (xs : List AV), qs.length = ls.length → (∀ l ∈ ls, l.length * eb ≤ 140737488355328) →
 VS ρ (h0 ++ .cells b T (xs ++ qs.map fun q => .val q.v) :: (h1 ++ EU E sz f qs ls)) ρ (h0 ++ .cells b T (xs ++ ls.map fun l => .d (.l sz eb (l.map f))) :: h1)
 | [], [], xs, _, _ => by simpa using VS.refl
 | q :: qs, l :: ls, xs, hl, hb => by
   have ih := VS.frzR (b := b) (T := T) eb h0s hsz h0 h1 qs ls (xs ++ [.d (.l sz eb (l.map f))]) (by simpa using hl) fun l hl => hb l (List.mem_cons_of_mem _ hl)
   simp only [List.append_assoc, List.singleton_append] at ih
   simp only [List.map_cons, List.zipWith_cons_cons]
   refine VS.trans ?_ ih
   refine EA (v := q.v) (f := f) (xs := l) (E := E) (sz := sz) (h1 := h0 ++ .cells b T (xs ++ .val q.v :: qs.map fun q => .val q.v) :: h1) (h2 := EU E sz f qs ls) eb h0s (by simp) hsz (hb l List.mem_cons_self) (CvE.refl _ _ _) ?_
   simp only [List.append_assoc, List.cons_append]
   exact CvH.under _ _ (.cells (Cvs.mid _ _ _ _) (.refl _)) h0
end
end Go.Av
