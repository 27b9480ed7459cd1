/-
  PLAIN, NO PROGRAM: parts of a graph, one after the other (P8.2): the search that does not call itself.
-/
import Derived.Test.YtffdlpjbbkhcnaaSk
namespace Go.Sp
open Go.Av

def gi (l : List Int) (i : Nat) : Int := (l[i]?).getD 0
theorem gi_get (l : List Int) (i : Nat) (h : i < l.length) : gi l i = l[i] := by simp [gi, List.getElem?_eq_getElem h]
theorem gi_out (l : List Int) (i : Nat) (h : l.length ≤ i) : gi l i = 0 := by simp [gi, List.getElem?_eq_none h]
theorem gi_set (l : List Int) (i j : Nat) (v : Int) (h : i < l.length) : gi (l.set i v) j = if j = i then v else gi l j := by
  unfold gi
  by_cases e : j = i
  · subst e; rw [if_pos rfl, List.getElem?_set_self h]; rfl
  · rw [if_neg e, List.getElem?_set_ne (Ne.symm e)]

structure TS where
  order : List Int
  low : List Int
  part : List Int
  opn : List Nat
  calls : List (Nat × Nat)
  met : Nat

abbrev TS.F (s : TS) : List Nat := s.calls.map Prod.fst
def TS.enter (s : TS) (a : Nat) : TS := ⟨s.order.set a (s.met + 1), s.low.set a (s.met + 1), s.part, s.opn ++ [a], s.calls ++ [(a, 0)], s.met + 1⟩
def TS.low1 (s : TS) (a : Nat) : List Int :=
  match s.calls.dropLast.getLast? with
  | none => s.low
  | some p => s.low.set p.1 (min (gi s.low p.1) (gi s.low a))
def TS.pop (s : TS) (a : Nat) : TS := { s with low := s.low1 a, calls := s.calls.dropLast }
def leastOf (a : Nat) (C : List Nat) : Nat := C.foldl min a
def setAll (p : List Int) (C : List Nat) (m : Nat) : List Int := C.foldl (fun p k => p.set k m) p
def TS.leave (s : TS) (a : Nat) : TS :=
  if gi (s.low1 a) a ≠ gi s.order a then s.pop a
  else { s.pop a with part := setAll s.part (s.opn.drop (s.opn.idxOf a)) (leastOf a (s.opn.drop (s.opn.idxOf a))), opn := s.opn.take (s.opn.idxOf a) }
def TS.next (s : TS) (a j : Nat) : TS := { s with calls := s.calls.dropLast ++ [(a, j + 1)] }
def TS.lower (s : TS) (a k : Nat) : TS := { s with low := s.low.set a (min (gi s.low a) (gi s.order k)) }
def TS.go (nx : Nat → List Nat) (s : TS) : TS :=
  match s.calls.getLast? with
  | none => s
  | some p =>
    if h : p.2 < (nx p.1).length then
      if gi s.order (nx p.1)[p.2] = 0 then (s.next p.1 p.2).enter (nx p.1)[p.2]
      else if gi s.part (nx p.1)[p.2] < 0 then (s.next p.1 p.2).lower p.1 (nx p.1)[p.2]
      else s.next p.1 p.2
    else s.leave p.1

/-- An edge that was looked at. -/
def TS.done (nx : Nat → List Nat) (s : TS) (v w : Nat) : Prop := w ∈ nx v ∧ ∀ j, (v, j) ∈ s.calls → w ∈ (nx v).take j
/-- P8.2: the least of those that lead to one another. -/
def isLeast (nx : Nat → List Nat) (v : Nat) (m : Int) : Prop := ∃ k : Nat, m = k ∧ Rch nx v k ∧ Rch nx k v ∧ ∀ u, Rch nx v u → Rch nx u v → k ≤ u

structure TInv (nx : Nat → List Nat) (n : Nat) (x : Option Nat) (s : TS) : Prop where
  lo : s.order.length = n
  ll : s.low.length = n
  lp : s.part.length = n
  om : ∀ v, 0 ≤ gi s.order v ∧ gi s.order v ≤ s.met
  pw : s.opn.Pairwise (fun a b => gi s.order a < gi s.order b)
  mem : ∀ v, v ∈ s.opn ↔ gi s.order v ≠ 0 ∧ gi s.part v < 0
  fpw : s.F.Pairwise (fun a b => gi s.order a < gi s.order b)
  fin : ∀ c ∈ s.F, c ∈ s.opn
  fj : ∀ p ∈ s.calls, p.2 ≤ (nx p.1).length
  bot : s.opn.head? = s.F.head?
  vis : ∀ v w, gi s.order v ≠ 0 → s.done nx v w → gi s.order w ≠ 0 ∨ x = some w
  dsc : ∀ c ∈ s.F, ∀ v ∈ s.opn, gi s.order c ≤ gi s.order v → Rch nx c v
  cls : ∀ v, gi s.order v ≠ 0 → 0 ≤ gi s.part v → ∀ w ∈ nx v, gi s.order w ≠ 0 ∧ 0 ≤ gi s.part w
  prt : ∀ v, gi s.order v ≠ 0 → 0 ≤ gi s.part v → isLeast nx v (gi s.part v)
  lwr : ∀ v ∈ s.opn, ∃ w ∈ s.opn, gi s.order w = gi s.low v ∧ Rch nx v w
  lwf : ∀ v ∈ s.opn, gi s.low v ≤ gi s.order v ∧ (v ∉ s.F → gi s.low v < gi s.order v)
  anc : ∀ c ∈ s.F, ∀ v ∈ s.opn, gi s.order c ≤ gi s.order v → (∀ q ∈ s.F, gi s.order q ≤ gi s.order v → gi s.order q ≤ gi s.order c) →
    gi s.low c ≤ gi s.low v ∧ ∀ w, s.done nx v w → w ∈ s.opn → gi s.low c ≤ gi s.order w
  pn : ∀ v, v < n → gi s.order v = 0 → gi s.part v = -1

section
variable {nx : Nat → List Nat} {n : Nat} {x : Option Nat} {s : TS}

theorem pw_inj {l : List Nat} {f : Nat → Int} (h : l.Pairwise (fun a b => f a < f b)) : ∀ a ∈ l, ∀ b ∈ l, f a = f b → a = b := by
  induction l with
  | nil => intro a ha; cases ha
  | cons y l ih =>
    rw [List.pairwise_cons] at h
    intro a ha b hb e
    rcases List.mem_cons.1 ha with e1 | ha' <;> rcases List.mem_cons.1 hb with e2 | hb'
    · rw [e1, e2]
    · have := h.1 b hb'; rw [e1] at e; omega
    · have := h.1 a ha'; rw [e2] at e; omega
    · exact ih h.2 a ha' b hb' e
theorem TInv.inj (t : TInv nx n x s) {a b : Nat} (ha : a ∈ s.opn) (hb : b ∈ s.opn) (e : gi s.order a = gi s.order b) : a = b := pw_inj t.pw a ha b hb e
theorem TInv.lt (t : TInv nx n x s) {v : Nat} (h : gi s.order v ≠ 0) : v < n := by
  rcases Nat.lt_or_ge v n with h' | h'
  · exact h'
  · exact absurd (gi_out s.order v (by rw [t.lo]; exact h')) h

/-- The last frame. -/
theorem calls_last {p : Nat × Nat} (h : s.calls.getLast? = some p) : s.calls = s.calls.dropLast ++ [p] := by
  obtain ⟨ys, e⟩ := List.getLast?_eq_some_iff.1 h
  rw [e]; simp
theorem F_last {p : Nat × Nat} (h : s.calls.getLast? = some p) : s.F = s.calls.dropLast.map Prod.fst ++ [p.1] := by
  have e := calls_last h
  unfold TS.F
  conv => lhs; rw [e]
  simp
theorem last_mem {p : Nat × Nat} (h : s.calls.getLast? = some p) : p ∈ s.calls := by rw [calls_last h]; simp
theorem TInv.last_le (t : TInv nx n x s) {p : Nat × Nat} (h : s.calls.getLast? = some p) : ∀ c ∈ s.F, gi s.order c ≤ gi s.order p.1 := by
  intro c hc
  have hp := t.fpw
  rw [F_last h, List.pairwise_append] at hp
  rw [F_last h, List.mem_append] at hc
  rcases hc with hc | hc
  · have := hp.2.2 c hc p.1 (by simp); omega
  · rw [List.mem_singleton.1 hc]; exact Int.le_refl _
theorem TInv.frame_uniq (t : TInv nx n x s) {a i j : Nat} (h1 : (a, i) ∈ s.calls) (h2 : (a, j) ∈ s.calls) : i = j := by
  have key : ∀ l : List (Nat × Nat), (l.map Prod.fst).Pairwise (fun a b => gi s.order a < gi s.order b) → (a, i) ∈ l → (a, j) ∈ l → i = j := by
    intro l
    induction l with
    | nil => intro _ h; cases h
    | cons y l ih =>
      intro hp h1 h2
      rw [List.map_cons, List.pairwise_cons] at hp
      rcases List.mem_cons.1 h1 with h1 | h1 <;> rcases List.mem_cons.1 h2 with h2 | h2
      · rw [← h1] at h2; cases h2; rfl
      · have := hp.1 a (List.mem_map.2 ⟨_, h2, rfl⟩); rw [← h1] at this; dsimp only at this; omega
      · have := hp.1 a (List.mem_map.2 ⟨_, h1, rfl⟩); rw [← h2] at this; dsimp only at this; omega
      · exact ih hp.2 h1 h2
  exact key _ t.fpw h1 h2

/-! ### An edge more is looked at -/
theorem next_F {p : Nat × Nat} (h : s.calls.getLast? = some p) : (s.next p.1 p.2).F = s.F := by
  rw [F_last h]; simp [TS.next, TS.F]
theorem next_done (t : TInv nx n x s) {p : Nat × Nat} (h : s.calls.getLast? = some p) (hj : p.2 < (nx p.1).length) {v w : Nat} (hd : (s.next p.1 p.2).done nx v w) : s.done nx v w ∨ (v = p.1 ∧ w = (nx p.1)[p.2]) := by
  obtain ⟨hw, hd⟩ := hd
  have e := calls_last h
  by_cases hv : v = p.1
  · subst hv
    have hk := hd (p.2 + 1) (by simp [TS.next])
    rw [List.take_succ_eq_append_getElem hj] at hk
    rcases List.mem_append.1 hk with hk | hk
    · refine .inl ⟨hw, fun j hj' => ?_⟩
      rw [t.frame_uniq hj' (last_mem h)]; exact hk
    · exact .inr ⟨rfl, by simpa using hk⟩
  · refine .inl ⟨hw, fun j hj' => hd j ?_⟩
    rw [e] at hj'
    rcases List.mem_append.1 hj' with hj' | hj'
    · simp [TS.next, hj']
    · rw [List.mem_singleton] at hj'; subst hj'; exact absurd rfl hv
theorem next_fj (t : TInv nx n x s) {p : Nat × Nat} (hj : p.2 < (nx p.1).length) : ∀ q ∈ (s.next p.1 p.2).calls, q.2 ≤ (nx q.1).length := by
  intro q hq
  simp only [TS.next, List.mem_append, List.mem_singleton] at hq
  rcases hq with hq | rfl
  · exact t.fj q (List.dropLast_subset _ hq)
  · exact hj
theorem TInv.next (t : TInv nx n none s) {p : Nat × Nat} (h : s.calls.getLast? = some p) (hj : p.2 < (nx p.1).length) (y : Option Nat) (hk : gi s.order (nx p.1)[p.2] ≠ 0 ∨ y = some (nx p.1)[p.2]) (ho : ¬ (nx p.1)[p.2] ∈ s.opn) :
    TInv nx n y (s.next p.1 p.2) := by
  have eF := next_F (s := s) h
  refine { lo := t.lo, ll := t.ll, lp := t.lp, om := t.om, pw := t.pw, mem := t.mem, fpw := by rw [eF]; exact t.fpw, fin := by rw [eF]; exact t.fin, fj := next_fj t hj, bot := by rw [eF]; exact t.bot, vis := ?_, dsc := by rw [eF]; exact t.dsc, cls := t.cls, prt := t.prt, lwr := t.lwr, lwf := by rw [eF]; exact t.lwf, anc := ?_, pn := t.pn }
  · intro v w hv hd
    rcases next_done t h hj hd with hd | ⟨rfl, rfl⟩
    · rcases t.vis v w hv hd with h1 | h1
      · exact .inl h1
      · cases h1
    · exact hk
  · rw [eF]
    intro c hc v hv h1 h2
    obtain ⟨q1, q2⟩ := t.anc c hc v hv h1 h2
    refine ⟨q1, fun w hd hw => ?_⟩
    rcases next_done t h hj hd with hd | ⟨rfl, rfl⟩
    · exact q2 w hd hw
    · exact absurd hw ho
theorem TInv.lower (t : TInv nx n none s) {p : Nat × Nat} (h : s.calls.getLast? = some p) (hj : p.2 < (nx p.1).length) (hk : (nx p.1)[p.2] ∈ s.opn) :
    TInv nx n none ((s.next p.1 p.2).lower p.1 (nx p.1)[p.2]) := by
  have eF : ((s.next p.1 p.2).lower p.1 (nx p.1)[p.2]).F = s.F := next_F (s := s) h
  have hpF : p.1 ∈ s.F := List.mem_map.2 ⟨p, last_mem h, rfl⟩
  have hpo := t.fin _ hpF
  have hlt : p.1 < s.low.length := by rw [t.ll]; exact t.lt ((t.mem _).1 hpo).1
  have el : ∀ v, gi ((s.next p.1 p.2).lower p.1 (nx p.1)[p.2]).low v = if v = p.1 then min (gi s.low p.1) (gi s.order (nx p.1)[p.2]) else gi s.low v := fun v => gi_set _ _ _ _ hlt
  have hle : ∀ v, gi ((s.next p.1 p.2).lower p.1 (nx p.1)[p.2]).low v ≤ gi s.low v := fun v => by
    rw [el]; split
    · rename_i e; rw [e]; omega
    · exact Int.le_refl _
  refine { lo := t.lo, ll := by simp [TS.lower, TS.next, t.ll], lp := t.lp, om := t.om, pw := t.pw, mem := t.mem, fpw := by rw [eF]; exact t.fpw, fin := by rw [eF]; exact t.fin, fj := next_fj t hj, bot := by rw [eF]; exact t.bot, vis := ?_, dsc := by rw [eF]; exact t.dsc, cls := t.cls, prt := t.prt, lwr := ?_, lwf := ?_, anc := ?_, pn := t.pn }
  · intro v w hv hd
    rcases next_done t h hj hd with hd | ⟨rfl, rfl⟩
    · exact t.vis v w hv hd
    · exact .inl ((t.mem _).1 hk).1
  · intro v hv
    show ∃ w ∈ s.opn, gi s.order w = _ ∧ _
    rw [el]
    by_cases e : v = p.1
    · rw [if_pos e]
      by_cases hm : gi s.low p.1 ≤ gi s.order (nx p.1)[p.2]
      · rw [Int.min_eq_left hm, e]; exact t.lwr _ hpo
      · rw [Int.min_eq_right (by omega), e]; exact ⟨_, hk, rfl, Rch.one (List.getElem_mem _)⟩
    · rw [if_neg e]; exact t.lwr v hv
  · intro v hv
    rw [eF]
    have q := t.lwf v hv
    have q' := hle v
    exact ⟨Int.le_trans q' q.1, fun hf => Int.lt_of_le_of_lt q' (q.2 hf)⟩
  · rw [eF]
    intro c hc v hv h1 h2
    obtain ⟨q1, q2⟩ := t.anc c hc v hv h1 h2
    have hcv : v = p.1 → c = p.1 := fun e => by
      have := h2 p.1 hpF (by rw [e]; exact Int.le_refl _)
      rw [e] at h1
      exact t.inj (t.fin c hc) hpo (Int.le_antisymm h1 this)
    have q' := hle c
    refine ⟨?_, fun w hd hw => ?_⟩
    · by_cases e : v = p.1
      · rw [hcv e, e]; exact Int.le_refl _
      · rw [el v, if_neg e]; omega
    · rcases next_done t h hj hd with hd | ⟨e, rfl⟩
      · have := q2 w hd hw
        show _ ≤ gi s.order w
        omega
      · rw [el c, if_pos (hcv e)]
        show _ ≤ gi s.order _
        omega

/-! ### A place is entered -/
theorem TInv.enter {k : Nat} (t : TInv nx n (some k) s) (hk : k < n) (h0 : gi s.order k = 0) (hr : ∀ c ∈ s.F, Rch nx c k) : TInv nx n none (s.enter k) := by
  have hko : k ∉ s.opn := fun h => ((t.mem k).1 h).1 h0
  have hkF : k ∉ s.F := fun h => hko (t.fin k h)
  have eo : ∀ v, gi (s.enter k).order v = if v = k then (s.met : Int) + 1 else gi s.order v := fun v => gi_set _ _ _ _ (by rw [t.lo]; exact hk)
  have el : ∀ v, gi (s.enter k).low v = if v = k then (s.met : Int) + 1 else gi s.low v := fun v => gi_set _ _ _ _ (by rw [t.ll]; exact hk)
  have eF : (s.enter k).F = s.F ++ [k] := by simp [TS.enter, TS.F]
  have eon : ∀ v, v ≠ k → gi (s.enter k).order v = gi s.order v := fun v h => by rw [eo, if_neg h]
  have eln : ∀ v, v ≠ k → gi (s.enter k).low v = gi s.low v := fun v h => by rw [el, if_neg h]
  have eok : gi (s.enter k).order k = (s.met : Int) + 1 := by rw [eo, if_pos rfl]
  have elk : gi (s.enter k).low k = (s.met : Int) + 1 := by rw [el, if_pos rfl]
  have hne : ∀ v ∈ s.opn, v ≠ k := fun v hv e => hko (e ▸ hv)
  have hop : ∀ v, v ∈ (s.enter k).opn ↔ v ∈ s.opn ∨ v = k := fun v => by simp [TS.enter]
  have hF : ∀ v, v ∈ (s.enter k).F ↔ v ∈ s.F ∨ v = k := fun v => by rw [eF]; simp
  have hd : ∀ v w, (s.enter k).done nx v w → v ≠ k ∧ s.done nx v w := fun v w ⟨h1, h2⟩ => by
    refine ⟨fun e => ?_, h1, fun j hj => h2 j (by simp [TS.enter, hj])⟩
    have := h2 0 (by simp [TS.enter, e])
    simp at this
  refine { lo := by simp [TS.enter, t.lo], ll := by simp [TS.enter, t.ll], lp := t.lp, om := ?_, pw := ?_, mem := ?_, fpw := ?_, fin := ?_, fj := ?_, bot := ?_, vis := ?_, dsc := ?_, cls := ?_, prt := ?_, lwr := ?_, lwf := ?_, anc := ?_, pn := ?_ }
  · intro v
    show 0 ≤ _ ∧ _ ≤ ((s.met + 1 : Nat) : Int)
    have := t.om v
    rw [eo]; split <;> omega
  · show (s.opn ++ [k]).Pairwise _
    rw [List.pairwise_append]
    refine ⟨?_, by simp, fun a ha b hb => ?_⟩
    · refine List.Pairwise.imp_of_mem (fun {a b} ha hb hab => ?_) t.pw
      rw [eon a (hne a ha), eon b (hne b hb)]; exact hab
    · rw [List.mem_singleton.1 hb, eok, eon a (hne a ha)]
      have := t.om a
      omega
  · intro v
    rw [hop]
    by_cases e : v = k
    · subst e
      have := t.pn v hk h0
      rw [eok]
      refine ⟨fun _ => ⟨by omega, by show gi s.part v < 0; omega⟩, fun _ => .inr rfl⟩
    · rw [eon v e]
      show _ ↔ _ ∧ gi s.part v < 0
      rw [← t.mem v]
      simp [e]
  · rw [eF, List.pairwise_append]
    refine ⟨?_, by simp, fun a ha b hb => ?_⟩
    · refine List.Pairwise.imp_of_mem (fun {a b} ha hb hab => ?_) t.fpw
      rw [eon a (hne a (t.fin a ha)), eon b (hne b (t.fin b hb))]; exact hab
    · rw [List.mem_singleton.1 hb, eok, eon a (hne a (t.fin a ha))]
      have := t.om a
      omega
  · intro c hc
    rw [hop]
    rcases (hF c).1 hc with hc | hc
    · exact .inl (t.fin c hc)
    · exact .inr hc
  · intro p hp
    simp only [TS.enter, List.mem_append, List.mem_singleton] at hp
    rcases hp with hp | rfl
    · exact t.fj p hp
    · exact Nat.zero_le _
  · rw [eF]
    show (s.opn ++ [k]).head? = _
    rw [List.head?_append, List.head?_append, t.bot]
  · intro v w hv hw
    obtain ⟨h1, h2⟩ := hd v w hw
    rw [eon v h1] at hv
    by_cases e : w = k
    · refine .inl ?_
      rw [e, eok]
      omega
    · rw [eon w e]
      rcases t.vis v w hv h2 with h3 | h3
      · exact .inl h3
      · exact absurd (by simpa using h3.symm) e
  · intro c hc v hv h1
    rcases (hop v).1 hv with hv' | ev
    · rcases (hF c).1 hc with hc' | ec
      · rw [eon v (hne v hv'), eon c (hne c (t.fin c hc'))] at h1
        exact t.dsc c hc' v hv' h1
      · rw [ec, eok, eon v (hne v hv')] at h1
        have := t.om v
        omega
    · rw [ev]
      rcases (hF c).1 hc with hc' | ec
      · exact hr c hc'
      · rw [ec]; exact .refl _
  · intro v hv hp w hw
    have hvk : v ≠ k := fun e => by have := t.pn k hk h0; rw [e] at hp; change 0 ≤ gi s.part k at hp; omega
    rw [eon v hvk] at hv
    obtain ⟨h1, h2⟩ := t.cls v hv hp w hw
    refine ⟨?_, h2⟩
    rw [eo]; split
    · omega
    · exact h1
  · intro v hv hp
    have hvk : v ≠ k := fun e => by have := t.pn k hk h0; rw [e] at hp; change 0 ≤ gi s.part k at hp; omega
    rw [eon v hvk] at hv
    exact t.prt v hv hp
  · intro v hv
    rcases (hop v).1 hv with hv | rfl
    · obtain ⟨w, h1, h2, h3⟩ := t.lwr v hv
      exact ⟨w, (hop w).2 (.inl h1), by rw [eon w (hne w h1), eln v (hne v hv)]; exact h2, h3⟩
    · exact ⟨v, hv, by rw [eok, elk], .refl _⟩
  · intro v hv
    rcases (hop v).1 hv with hv | rfl
    · have q := t.lwf v hv
      rw [eon v (hne v hv), eln v (hne v hv)]
      exact ⟨q.1, fun hf => q.2 fun h => hf ((hF v).2 (.inl h))⟩
    · rw [eok, elk]
      exact ⟨Int.le_refl _, fun hf => absurd ((hF v).2 (.inr rfl)) hf⟩
  · intro c hc v hv h1 h2
    rcases (hop v).1 hv with hv' | ev
    · rcases (hF c).1 hc with hc' | ec
      · have hck := hne c (t.fin c hc')
        rw [eon v (hne v hv'), eon c hck] at h1
        obtain ⟨q1, q2⟩ := t.anc c hc' v hv' h1 fun q hq hle => by
          have := h2 q ((hF q).2 (.inl hq)) (by rw [eon q (hne q (t.fin q hq)), eon v (hne v hv')]; exact hle)
          rwa [eon q (hne q (t.fin q hq)), eon c hck] at this
        rw [eln c hck, eln v (hne v hv')]
        refine ⟨q1, fun w hw hwo => ?_⟩
        rcases (hop w).1 hwo with hwo' | ew
        · rw [eon w (hne w hwo')]; exact q2 w (hd v w hw).2 hwo'
        · rw [ew, eok]
          have a1 := (t.lwf c (t.fin c hc')).1
          have a2 := t.om c
          omega
      · rw [ec, eok, eon v (hne v hv')] at h1
        have := t.om v
        omega
    · have hck : c = v := by
        have a1 := h2 v ((hF v).2 (.inr ev)) (Int.le_refl _)
        rcases (hF c).1 hc with hc' | ec
        · rw [ev, eok, eon c (hne c (t.fin c hc'))] at a1
          have := t.om c
          omega
        · rw [ec, ev]
      rw [hck]
      exact ⟨Int.le_refl _, fun w hw _ => absurd ev (hd v w hw).1⟩
  · intro v hv hv0
    by_cases e : v = k
    · rw [e, eok] at hv0; omega
    · rw [eon v e] at hv0; exact t.pn v hv hv0
end
end Go.Sp
