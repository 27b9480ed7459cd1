/-
  PLAIN, NO PROGRAM: parts of a graph: a place is left; the end (P8.2).
-/
import Derived.Test.YtffdlpjbbkhcnaaSl
namespace Go.Sp
open Go.Av
section
variable {nx : Nat → List Nat} {n : Nat} {x : Option Nat} {s : TS}

theorem leastOf_spec (a : Nat) : ∀ (C : List Nat), (leastOf a C = a ∨ leastOf a C ∈ C) ∧ leastOf a C ≤ a ∧ ∀ v ∈ C, leastOf a C ≤ v := by
  intro C
  induction C generalizing a with
  | nil => exact ⟨.inl rfl, Nat.le_refl _, fun v h => by cases h⟩
  | cons y C ih =>
    obtain ⟨h1, h2, h3⟩ := ih (min a y)
    have e : leastOf a (y :: C) = leastOf (min a y) C := rfl
    rw [e]
    refine ⟨?_, by omega, fun v hv => ?_⟩
    · rcases h1 with h1 | h1
      · rw [h1]
        by_cases hm : a ≤ y
        · left; omega
        · right; rw [Nat.min_eq_right (by omega)]; exact List.mem_cons_self
      · exact .inr (List.mem_cons_of_mem _ h1)
    · rcases List.mem_cons.1 hv with rfl | hv
      · omega
      · exact h3 v hv
theorem setAll_length (m : Nat) : ∀ (C : List Nat) (p : List Int), (setAll p C m).length = p.length
  | [], _ => rfl
  | k :: C, p => by
    have e : setAll p (k :: C) m = setAll (p.set k m) C m := rfl
    rw [e, setAll_length m C]; simp
theorem setAll_get (m : Nat) (v : Nat) : ∀ (C : List Nat) (p : List Int), (∀ k ∈ C, k < p.length) → gi (setAll p C m) v = if v ∈ C then (m : Int) else gi p v
  | [], p, _ => by simp [setAll]
  | k :: C, p, h => by
    have e : setAll p (k :: C) m = setAll (p.set k m) C m := rfl
    rw [e, setAll_get m v C _ (fun j hj => by rw [List.length_set]; exact h j (List.mem_cons_of_mem _ hj)), gi_set _ _ _ _ (h k List.mem_cons_self)]
    by_cases h1 : v ∈ C
    · rw [if_pos h1, if_pos (List.mem_cons_of_mem _ h1)]
    · rw [if_neg h1]
      by_cases h2 : v = k
      · rw [if_pos h2, if_pos (by rw [h2]; exact List.mem_cons_self)]
      · rw [if_neg h2, if_neg (by simp [h1, h2])]

theorem low1_none (a : Nat) (h : s.calls.dropLast = []) : s.low1 a = s.low := by simp [TS.low1, h]
theorem low1_some (a : Nat) {p : Nat × Nat} (h : s.calls.dropLast.getLast? = some p) : s.low1 a = s.low.set p.1 (min (gi s.low p.1) (gi s.low a)) := by simp [TS.low1, h]

/-- What is known where the last frame has seen all its edges. -/
structure AtEnd (nx : Nat → List Nat) (n : Nat) (s : TS) (a : Nat) : Prop where
  inv : TInv nx n none s
  last : ∃ p, s.calls.getLast? = some p ∧ p.1 = a ∧ p.2 = (nx a).length
namespace AtEnd
variable {a : Nat}
theorem aF (t : AtEnd nx n s a) : a ∈ s.F := by
  obtain ⟨p, h, e, _⟩ := t.last
  rw [← e]; exact List.mem_map.2 ⟨p, last_mem h, rfl⟩
theorem ao (t : AtEnd nx n s a) : a ∈ s.opn := t.inv.fin a t.aF
theorem an (t : AtEnd nx n s a) : a < n := t.inv.lt ((t.inv.mem a).1 t.ao).1
theorem eF (t : AtEnd nx n s a) : s.F = s.calls.dropLast.map Prod.fst ++ [a] := by
  obtain ⟨p, h, e, _⟩ := t.last
  rw [F_last h, e]
theorem last_le (t : AtEnd nx n s a) : ∀ c ∈ s.F, gi s.order c ≤ gi s.order a := by
  obtain ⟨p, h, e, _⟩ := t.last
  rw [← e]; exact t.inv.last_le h
theorem f0 (t : AtEnd nx n s a) {c : Nat} (hc : c ∈ s.calls.dropLast.map Prod.fst) : c ∈ s.F ∧ gi s.order c < gi s.order a := by
  have hp := t.inv.fpw
  rw [t.eF, List.pairwise_append] at hp
  exact ⟨by rw [t.eF]; exact List.mem_append.2 (.inl hc), hp.2.2 c hc a (by simp)⟩
theorem f0_iff (t : AtEnd nx n s a) {c : Nat} : c ∈ s.calls.dropLast.map Prod.fst ↔ c ∈ s.F ∧ c ≠ a := by
  refine ⟨fun h => ⟨(t.f0 h).1, fun e => ?_⟩, fun ⟨h, e⟩ => ?_⟩
  · have := (t.f0 h).2; rw [e] at this; omega
  · rw [t.eF] at h
    rcases List.mem_append.1 h with h | h
    · exact h
    · exact absurd (List.mem_singleton.1 h) e
/-- All edges of the last frame were looked at. -/
theorem done_a (t : AtEnd nx n s a) {w : Nat} (hw : w ∈ nx a) : s.done nx a w := by
  obtain ⟨p, h, e, e2⟩ := t.last
  refine ⟨hw, fun j hj => ?_⟩
  have : j = p.2 := t.inv.frame_uniq hj (by rw [← e]; exact last_mem h)
  rw [this, e2, List.take_length]; exact hw
theorem pop_done (t : AtEnd nx n s a) {v w : Nat} (hd : (s.pop a).done nx v w) : s.done nx v w := by
  by_cases e : v = a
  · rw [e]; rw [e] at hd; exact t.done_a hd.1
  · refine ⟨hd.1, fun j hj => hd.2 j ?_⟩
    obtain ⟨p, h, e1, _⟩ := t.last
    rw [calls_last h] at hj
    rcases List.mem_append.1 hj with hj | hj
    · exact hj
    · rw [List.mem_singleton] at hj; rw [← hj] at e1; exact absurd e1 e
/-- The frame ahead of the last one. -/
theorem up (t : AtEnd nx n s a) {p : Nat × Nat} (h : s.calls.dropLast.getLast? = some p) : p.1 ∈ s.calls.dropLast.map Prod.fst ∧ ∀ c ∈ s.calls.dropLast.map Prod.fst, gi s.order c ≤ gi s.order p.1 := by
  obtain ⟨ys, hy⟩ := List.getLast?_eq_some_iff.1 h
  refine ⟨by rw [hy]; simp, fun c hc => ?_⟩
  have hp := t.inv.fpw
  rw [t.eF, List.pairwise_append, hy, List.map_append, List.pairwise_append] at hp
  rw [hy, List.map_append] at hc
  rcases List.mem_append.1 hc with hc | hc
  · have := hp.1.2.2 c hc p.1 (by simp); omega
  · simp at hc; rw [hc]; exact Int.le_refl _
theorem low1_get (t : AtEnd nx n s a) {p : Nat × Nat} (h : s.calls.dropLast.getLast? = some p) (v : Nat) : gi (s.low1 a) v = if v = p.1 then min (gi s.low p.1) (gi s.low a) else gi s.low v := by
  rw [low1_some a h]
  refine gi_set _ _ _ _ ?_
  rw [t.inv.ll]
  exact t.inv.lt ((t.inv.mem _).1 (t.inv.fin _ (t.f0 (t.up h).1).1)).1
theorem low1_le (t : AtEnd nx n s a) (v : Nat) : gi (s.low1 a) v ≤ gi s.low v := by
  cases h : s.calls.dropLast.getLast? with
  | none => rw [low1_none a (List.getLast?_eq_none_iff.1 h)]; exact Int.le_refl _
  | some p =>
    rw [t.low1_get h]; split
    · rename_i e; rw [e]; omega
    · exact Int.le_refl _
theorem low1_a (t : AtEnd nx n s a) : gi (s.low1 a) a = gi s.low a := by
  cases h : s.calls.dropLast.getLast? with
  | none => rw [low1_none a (List.getLast?_eq_none_iff.1 h)]
  | some p =>
    rw [t.low1_get h, if_neg]
    intro e
    have := (t.f0 (t.up h).1).2
    rw [e] at this; omega
theorem low1_len (t : AtEnd nx n s a) : (s.low1 a).length = n := by
  cases h : s.calls.dropLast.getLast? with
  | none => rw [low1_none a (List.getLast?_eq_none_iff.1 h)]; exact t.inv.ll
  | some p => rw [low1_some a h]; simp [t.inv.ll]

/-! ### The last frame's part is not whole -/
theorem pop (t : AtEnd nx n s a) (hne : gi s.low a ≠ gi s.order a) : TInv nx n none (s.pop a) := by
  have i := t.inv
  have hF0 : s.calls.dropLast ≠ [] := by
    intro h0
    have e1 := t.eF
    rw [h0] at e1
    obtain ⟨w, hw, h1, _⟩ := i.lwr a t.ao
    have hb := i.bot
    rw [e1] at hb
    have := (i.lwf a t.ao).1
    have hle : gi s.order a ≤ gi s.order w := by
      cases ho : s.opn with
      | nil => rw [ho] at hw; cases hw
      | cons y l =>
        rw [ho] at hb
        simp at hb
        have hp := i.pw
        rw [ho, List.pairwise_cons] at hp
        rw [ho] at hw
        rcases List.mem_cons.1 hw with rfl | hw
        · rw [hb]; exact Int.le_refl _
        · have := hp.1 w hw; rw [hb] at this; omega
    omega
  obtain ⟨p, hp⟩ : ∃ p, s.calls.dropLast.getLast? = some p := by
    cases h : s.calls.dropLast.getLast? with
    | none => exact absurd (List.getLast?_eq_none_iff.1 h) hF0
    | some p => exact ⟨p, rfl⟩
  have hup := t.up hp
  have hupF := t.f0 hup.1
  have hpop : ∀ c, c ∈ (s.pop a).F ↔ c ∈ s.F ∧ c ≠ a := fun c => t.f0_iff
  have hdsc : Rch nx p.1 a := i.dsc p.1 hupF.1 a t.ao (by omega)
  refine { lo := i.lo, ll := t.low1_len, lp := i.lp, om := i.om, pw := i.pw, mem := i.mem, fpw := ?_, fin := fun c hc => i.fin c ((hpop c).1 hc).1, fj := fun q hq => i.fj q (List.dropLast_subset _ hq), bot := ?_, vis := fun v w hv hd => i.vis v w hv (t.pop_done hd), dsc := fun c hc => i.dsc c ((hpop c).1 hc).1, cls := i.cls, prt := i.prt, lwr := ?_, lwf := ?_, anc := ?_, pn := i.pn }
  · have := i.fpw
    rw [t.eF, List.pairwise_append] at this
    exact this.1
  · show s.opn.head? = (s.calls.dropLast.map Prod.fst).head?
    rw [i.bot, t.eF, List.head?_append]
    cases h : s.calls.dropLast with
    | nil => exact absurd h hF0
    | cons y l => rfl
  · intro v hv
    show ∃ w ∈ s.opn, gi s.order w = gi (s.low1 a) v ∧ _
    rw [t.low1_get hp]
    by_cases e : v = p.1
    · rw [if_pos e]
      by_cases hm : gi s.low p.1 ≤ gi s.low a
      · rw [Int.min_eq_left hm, e]; exact i.lwr _ (i.fin _ hupF.1)
      · obtain ⟨w, h1, h2, h3⟩ := i.lwr a t.ao
        rw [Int.min_eq_right (by omega), e]
        exact ⟨w, h1, h2, hdsc.trans h3⟩
    · rw [if_neg e]; exact i.lwr v hv
  · intro v hv
    have q := i.lwf v hv
    have q' := t.low1_le v
    refine ⟨Int.le_trans q' q.1, fun hf => ?_⟩
    by_cases e : v = a
    · rw [e]
      have := (i.lwf a t.ao).1
      have h1 := t.low1_a
      show gi (s.low1 a) a < gi s.order a
      omega
    · exact Int.lt_of_le_of_lt q' (q.2 fun h => hf ((hpop v).2 ⟨h, e⟩))
  · intro c hc v hv h1 h2
    obtain ⟨hcF, hca⟩ := (hpop c).1 hc
    show gi (s.low1 a) c ≤ gi (s.low1 a) v ∧ ∀ w, _ → w ∈ s.opn → gi (s.low1 a) c ≤ gi s.order w
    by_cases hav : gi s.order a ≤ gi s.order v
    · have hcp : c = p.1 := by
        have q := h2 p.1 hup.1 (by show gi s.order p.1 ≤ gi s.order v; omega)
        exact i.inj (i.fin c hcF) (i.fin _ hupF.1) (Int.le_antisymm (hup.2 c (t.f0_iff.2 ⟨hcF, hca⟩)) q)
      obtain ⟨q1, q2⟩ := i.anc a t.aF v hv hav fun q hq _ => t.last_le q hq
      have hvp : v ≠ p.1 := fun e => by rw [e] at hav; omega
      have el : gi (s.low1 a) c ≤ gi s.low a := by rw [t.low1_get hp, if_pos hcp]; omega
      refine ⟨?_, fun w hd hw => ?_⟩
      · rw [t.low1_get hp v, if_neg hvp]; omega
      · have := q2 w (t.pop_done hd) hw; omega
    · obtain ⟨q1, q2⟩ := i.anc c hcF v hv h1 fun q hq hle => by
        by_cases e : q = a
        · rw [e] at hle; omega
        · exact h2 q ((hpop q).2 ⟨hq, e⟩) hle
      have el := t.low1_le c
      refine ⟨?_, fun w hd hw => ?_⟩
      · by_cases e : v = p.1
        · have hcv : c = p.1 := by
            have q := h2 p.1 hup.1 (by rw [← e]; exact Int.le_refl _)
            exact i.inj (i.fin c hcF) (i.fin _ hupF.1) (Int.le_antisymm (hup.2 c (t.f0_iff.2 ⟨hcF, hca⟩)) q)
          rw [hcv, e]; exact Int.le_refl _
        · rw [t.low1_get hp v, if_neg e]; omega
      · have := q2 w (t.pop_done hd) hw; omega

/-! ### The last frame's part is whole -/
theorem split_at (t : AtEnd nx n s a) : ∃ A B, s.opn = A ++ a :: B ∧ a ∉ A ∧ s.opn.take (s.opn.idxOf a) = A ∧ s.opn.drop (s.opn.idxOf a) = a :: B := by
  obtain ⟨A, B, e, hA⟩ : ∃ A B, s.opn = A ++ a :: B ∧ a ∉ A := List.mem_iff_append.1 t.ao |> fun ⟨A, B, e⟩ => by
    refine ⟨A, B, e, fun hA => ?_⟩
    have hp := t.inv.pw
    rw [e, List.pairwise_append] at hp
    have := hp.2.2 a hA a (by simp)
    omega
  have hi : s.opn.idxOf a = A.length := by
    rw [e, List.idxOf_append, if_neg hA]; simp
  exact ⟨A, B, e, hA, by rw [hi, e, List.take_left], by rw [hi, e, List.drop_left]⟩

theorem leave (t : AtEnd nx n s a) (heq : gi s.low a = gi s.order a) : TInv nx n none { s.pop a with part := setAll s.part (s.opn.drop (s.opn.idxOf a)) (leastOf a (s.opn.drop (s.opn.idxOf a))), opn := s.opn.take (s.opn.idxOf a) } := by
  have i := t.inv
  obtain ⟨A, B, e, hA, e1, e2⟩ := t.split_at
  rw [e1, e2]
  have hpw := i.pw
  rw [e, List.pairwise_append, List.pairwise_cons] at hpw
  have hAlt : ∀ v ∈ A, gi s.order v < gi s.order a := fun v hv => hpw.2.2 v hv a (by simp)
  have hClt : ∀ v ∈ a :: B, gi s.order a ≤ gi s.order v := fun v hv => by
    rcases List.mem_cons.1 hv with rfl | hv
    · exact Int.le_refl _
    · have := hpw.2.1.1 v hv; omega
  have hop : ∀ v, v ∈ s.opn ↔ v ∈ A ∨ v ∈ a :: B := fun v => by rw [e, List.mem_append]
  have hAC : ∀ v ∈ A, v ∉ a :: B := fun v h1 h2 => by have q1 := hAlt v h1; have q2 := hClt v h2; omega
  have hCn : ∀ k ∈ a :: B, k < s.part.length := fun k hk => by rw [i.lp]; exact i.lt ((i.mem k).1 ((hop k).2 (.inr hk))).1
  have hpop : ∀ c, c ∈ s.calls.dropLast.map Prod.fst ↔ c ∈ s.F ∧ c ≠ a := fun c => t.f0_iff
  -- low stands
  have hlow : ∀ v, gi (s.low1 a) v = gi s.low v := fun v => by
    cases h : s.calls.dropLast.getLast? with
    | none => rw [low1_none a (List.getLast?_eq_none_iff.1 h)]
    | some p =>
      rw [t.low1_get h]; split
      · rename_i ev
        have q1 := (t.f0 (t.up h).1)
        have q2 := (i.lwf p.1 (i.fin _ q1.1)).1
        rw [ev, Int.min_eq_left (by omega)]
      · rfl
  -- those that are open from a on
  have hanc : ∀ v ∈ a :: B, gi s.order a ≤ gi s.low v ∧ ∀ w, s.done nx v w → w ∈ s.opn → gi s.order a ≤ gi s.order w := fun v hv => by
    rw [← heq]
    exact i.anc a t.aF v ((hop v).2 (.inr hv)) (hClt v hv) fun q hq _ => t.last_le q hq
  have hCF : ∀ v ∈ a :: B, v ≠ a → v ∉ s.F := fun v hv hne hf => by
    have h1 := t.last_le v hf
    have h2 := hClt v hv
    exact hne (i.inj ((hop v).2 (.inr hv)) t.ao (Int.le_antisymm h1 h2))
  have hdone : ∀ v ∈ a :: B, ∀ w ∈ nx v, s.done nx v w := fun v hv w hw => by
    by_cases hva : v = a
    · rw [hva] at hw ⊢; exact t.done_a hw
    · exact ⟨hw, fun j hj => absurd (List.mem_map.2 ⟨_, hj, rfl⟩) (hCF v hv hva)⟩
  have hin : ∀ w, w ∈ s.opn → gi s.order a ≤ gi s.order w → w ∈ a :: B := fun w hw hle => by
    rcases (hop w).1 hw with h | h
    · have := hAlt w h; omega
    · exact h
  have hout : ∀ v ∈ a :: B, ∀ w ∈ nx v, w ∈ a :: B ∨ (gi s.order w ≠ 0 ∧ 0 ≤ gi s.part w) := fun v hv w hw => by
    have hd := hdone v hv w hw
    have hvis : gi s.order w ≠ 0 := by
      rcases i.vis v w ((i.mem v).1 ((hop v).2 (.inr hv))).1 hd with h | h
      · exact h
      · cases h
    by_cases hwo : w ∈ s.opn
    · exact .inl (hin w hwo ((hanc v hv).2 w hd hwo))
    · refine .inr ⟨hvis, ?_⟩
      have := mt (i.mem w).2 hwo
      by_cases hp : gi s.part w < 0
      · exact absurd ⟨hvis, hp⟩ this
      · omega
  have hback : ∀ (m : Nat) (v : Nat), v ∈ a :: B → (gi s.order v).toNat < m → Rch nx v a := by
    intro m
    induction m with
    | zero => intro v _ h; omega
    | succ m ih =>
      intro v hv hm
      by_cases hva : v = a
      · rw [hva]; exact .refl _
      obtain ⟨w, h1, h2, h3⟩ := i.lwr v ((hop v).2 (.inr hv))
      have h4 := (i.lwf v ((hop v).2 (.inr hv))).2 (hCF v hv hva)
      have h5 := (hanc v hv).1
      have h6 := i.om w
      have hw := hin w h1 (by omega)
      exact h3.trans (ih w hw (by omega))
  have hto : ∀ v ∈ a :: B, Rch nx v a := fun v hv => hback _ v hv (Nat.lt_succ_self _)
  have hfro : ∀ v ∈ a :: B, Rch nx a v := fun v hv => i.dsc a t.aF v ((hop v).2 (.inr hv)) (hClt v hv)
  have hclosed : ∀ u, u ∈ a :: B ∨ (gi s.order u ≠ 0 ∧ 0 ≤ gi s.part u) → ∀ w ∈ nx u, w ∈ a :: B ∨ (gi s.order w ≠ 0 ∧ 0 ≤ gi s.part w) := fun u hu w hw => by
    rcases hu with hu | ⟨h1, h2⟩
    · exact hout u hu w hw
    · exact .inr (i.cls u h1 h2 w hw)
  have hcls2 : ∀ u, (gi s.order u ≠ 0 ∧ 0 ≤ gi s.part u) → ∀ w ∈ nx u, (gi s.order w ≠ 0 ∧ 0 ≤ gi s.part w) := fun u hu w hw => i.cls u hu.1 hu.2 w hw
  obtain ⟨g1, g2, g3⟩ := leastOf_spec a (a :: B)
  have hmC : leastOf a (a :: B) ∈ a :: B := by
    rcases g1 with g1 | g1
    · rw [g1]; exact List.mem_cons_self
    · exact g1
  have hlst : ∀ v ∈ a :: B, isLeast nx v ((leastOf a (a :: B) : Nat) : Int) := fun v hv => by
    refine ⟨_, rfl, (hto v hv).trans (hfro _ hmC), (hto _ hmC).trans (hfro v hv), fun u h1 h2 => ?_⟩
    rcases Rch.closed hclosed h1 (.inl hv) with h3 | h3
    · exact g3 u h3
    · have h4 := Rch.closed hcls2 h2 h3
      have h5 := ((i.mem v).1 ((hop v).2 (.inr hv))).2
      omega
  have ep : ∀ v, gi (setAll s.part (a :: B) (leastOf a (a :: B))) v = if v ∈ a :: B then ((leastOf a (a :: B) : Nat) : Int) else gi s.part v := fun v => setAll_get _ v _ _ hCn
  refine { lo := i.lo, ll := t.low1_len, lp := by rw [← i.lp]; exact setAll_length _ _ _, om := i.om, pw := hpw.1, mem := ?_, fpw := ?_, fin := ?_, fj := fun q hq => i.fj q (List.dropLast_subset _ hq), bot := ?_, vis := fun v w hv hd => i.vis v w hv (t.pop_done hd), dsc := ?_, cls := ?_, prt := ?_, lwr := ?_, lwf := ?_, anc := ?_, pn := ?_ }
  · intro v
    show v ∈ A ↔ gi s.order v ≠ 0 ∧ gi (setAll _ _ _) v < 0
    rw [ep]
    by_cases hv : v ∈ a :: B
    · rw [if_pos hv]
      refine ⟨fun h => absurd hv (hAC v h), fun h => ?_⟩
      omega
    · rw [if_neg hv, ← i.mem v, hop v]
      simp [hv]
  · have := i.fpw
    rw [t.eF, List.pairwise_append] at this
    exact this.1
  · intro c hc
    have hc' := t.f0 hc
    rcases (hop c).1 (i.fin c hc'.1) with h | h
    · exact h
    · have := hClt c h; omega
  · show A.head? = (s.calls.dropLast.map Prod.fst).head?
    have hb := i.bot
    rw [t.eF, e, List.head?_append, List.head?_append] at hb
    cases hA' : A with
    | nil =>
      cases h0 : s.calls.dropLast.map Prod.fst with
      | nil => rfl
      | cons c l =>
        rw [hA', h0] at hb
        simp at hb
        have := (t.f0 (c := c) (by rw [h0]; exact List.mem_cons_self)).2
        rw [hb] at this; omega
    | cons y l =>
      cases h0 : s.calls.dropLast.map Prod.fst with
      | nil =>
        rw [hA', h0] at hb
        simp at hb
        exact absurd (by rw [hA', hb]; exact List.mem_cons_self) hA
      | cons c l' =>
        rw [hA', h0] at hb
        simpa using hb
  · intro c hc v hv h1
    exact i.dsc c (t.f0 hc).1 v ((hop v).2 (.inl hv)) h1
  · intro v hv hp w hw
    show gi s.order w ≠ 0 ∧ 0 ≤ gi (setAll _ _ _) w
    have hp' : 0 ≤ gi (setAll s.part (a :: B) (leastOf a (a :: B))) v := hp
    have hcl : w ∈ a :: B ∨ (gi s.order w ≠ 0 ∧ 0 ≤ gi s.part w) := by
      by_cases hvC : v ∈ a :: B
      · exact hout v hvC w hw
      · rw [ep, if_neg hvC] at hp'
        exact .inr (i.cls v hv hp' w hw)
    rcases hcl with h | h
    · rw [ep, if_pos h]
      exact ⟨((i.mem w).1 ((hop w).2 (.inr h))).1, by omega⟩
    · refine ⟨h.1, ?_⟩
      rw [ep]; split
      · omega
      · exact h.2
  · intro v hv hp
    show isLeast nx v (gi (setAll _ _ _) v)
    have hp' : 0 ≤ gi (setAll s.part (a :: B) (leastOf a (a :: B))) v := hp
    rw [ep] at hp' ⊢
    by_cases hvC : v ∈ a :: B
    · rw [if_pos hvC]; exact hlst v hvC
    · rw [if_neg hvC] at hp' ⊢
      exact i.prt v hv hp'
  · intro v hv
    obtain ⟨w, h1, h2, h3⟩ := i.lwr v ((hop v).2 (.inl hv))
    refine ⟨w, ?_, by show gi s.order w = gi (s.low1 a) v; rw [hlow]; exact h2, h3⟩
    rcases (hop w).1 h1 with h | h
    · exact h
    · have q1 := hClt w h
      have q2 := (i.lwf v ((hop v).2 (.inl hv))).1
      have q3 := hAlt v hv
      omega
  · intro v hv
    show gi (s.low1 a) v ≤ gi s.order v ∧ (v ∉ s.calls.dropLast.map Prod.fst → gi (s.low1 a) v < gi s.order v)
    rw [hlow]
    have q := i.lwf v ((hop v).2 (.inl hv))
    exact ⟨q.1, fun hf => q.2 fun h => hf ((hpop v).2 ⟨h, fun e => hA (e ▸ hv)⟩)⟩
  · intro c hc v hv h1 h2
    show gi (s.low1 a) c ≤ gi (s.low1 a) v ∧ ∀ w, _ → w ∈ A → gi (s.low1 a) c ≤ gi s.order w
    rw [hlow, hlow]
    obtain ⟨q1, q2⟩ := i.anc c (t.f0 hc).1 v ((hop v).2 (.inl hv)) h1 fun q hq hle => by
      by_cases eq : q = a
      · have q3 := hAlt v hv; rw [eq] at hle; omega
      · exact h2 q ((hpop q).2 ⟨hq, eq⟩) hle
    exact ⟨q1, fun w hd hw => q2 w (t.pop_done hd) ((hop w).2 (.inl hw))⟩
  · intro v hv h0
    show gi (setAll _ _ _) v = -1
    rw [ep, if_neg]
    · exact i.pn v hv h0
    · intro hC
      exact ((i.mem v).1 ((hop v).2 (.inr hC))).1 h0
end AtEnd

/-- One step more. -/
theorem TInv.go (hn : ∀ i, ∀ k ∈ nx i, k < n) (t : TInv nx n none s) : TInv nx n none (s.go nx) := by
  unfold TS.go
  cases h : s.calls.getLast? with
  | none => exact t
  | some p =>
    dsimp only
    by_cases hj : p.2 < (nx p.1).length
    · rw [dif_pos hj]
      have hpF : p.1 ∈ s.F := List.mem_map.2 ⟨p, last_mem h, rfl⟩
      by_cases h0 : gi s.order (nx p.1)[p.2] = 0
      · rw [if_pos h0]
        refine TInv.enter (t.next h hj _ (.inr rfl) fun ho => ((t.mem _).1 ho).1 h0) (hn p.1 _ (List.getElem_mem _)) h0 fun c hc => ?_
        rw [next_F h] at hc
        exact .step (t.dsc c hc p.1 (t.fin _ hpF) (t.last_le h c hc)) (List.getElem_mem _)
      · rw [if_neg h0]
        by_cases h1 : gi s.part (nx p.1)[p.2] < 0
        · rw [if_pos h1]; exact t.lower h hj ((t.mem _).2 ⟨h0, h1⟩)
        · rw [if_neg h1]; exact t.next h hj none (.inl h0) fun ho => h1 ((t.mem _).1 ho).2
    · rw [dif_neg hj]
      have ha : AtEnd nx n s p.1 := ⟨t, p, h, rfl, by have := t.fj p (last_mem h); omega⟩
      unfold TS.leave
      rw [ha.low1_a]
      by_cases he : gi s.low p.1 = gi s.order p.1
      · rw [if_neg (by simpa using he)]; exact ha.leave he
      · rw [if_pos he]; exact ha.pop he
/-- Nothing was met yet. -/
def TS.init (n : Nat) : TS := ⟨List.replicate n 0, List.replicate n 0, List.replicate n (-1), [], [], 0⟩
theorem gi_rep (n i : Nat) : gi (List.replicate n 0) i = 0 := by
  unfold gi; rw [List.getElem?_replicate]; split <;> rfl
theorem TInv.init (nx : Nat → List Nat) (n : Nat) : TInv nx n none (TS.init n) where
  lo := by simp [TS.init]
  ll := by simp [TS.init]
  lp := by simp [TS.init]
  om v := by simp [TS.init, gi_rep]
  pw := by simp [TS.init]
  mem v := by simp [TS.init, gi_rep]
  fpw := by simp [TS.init, TS.F]
  fin := by simp [TS.init, TS.F]
  fj := by simp [TS.init]
  bot := rfl
  vis v w h := absurd (gi_rep n v) h
  dsc := by simp [TS.init, TS.F]
  cls v h := absurd (gi_rep n v) h
  prt v h := absurd (gi_rep n v) h
  lwr := by simp [TS.init]
  lwf := by simp [TS.init]
  anc := by simp [TS.init, TS.F]
  pn v hv _ := by simp [TS.init, gi, List.getElem?_replicate, hv]
theorem TInv.root {k : Nat} (t : TInv nx n none s) (hc : s.calls = []) (hk : k < n) (h0 : gi s.order k = 0) : TInv nx n none (s.enter k) := by
  refine TInv.enter { t with vis := fun v w hv hd => .inl ?_ } hk h0 fun c hc' => ?_
  · rcases t.vis v w hv hd with h | h
    · exact h
    · cases h
  · simp [TS.F, hc] at hc'
/-- Where no frame is left, all that was met is in a part. -/
theorem TInv.calm (t : TInv nx n none s) (hc : s.calls = []) {v : Nat} (hv : gi s.order v ≠ 0) : isLeast nx v (gi s.part v) := by
  have ho : s.opn = [] := by
    have := t.bot
    rw [TS.F, hc] at this
    cases h : s.opn with
    | nil => rfl
    | cons _ _ => rw [h] at this; simp at this
  have hp : ¬ gi s.part v < 0 := fun h => by
    have := (t.mem v).2 ⟨hv, h⟩
    rw [ho] at this; cases this
  exact t.prt v hv (by omega)
/-- What was met stays so. -/
theorem go_keeps (t : TInv nx n none s) {v : Nat} (hv : gi s.order v ≠ 0) : gi (s.go nx).order v ≠ 0 := by
  unfold TS.go
  cases h : s.calls.getLast? with
  | none => exact hv
  | some p =>
    dsimp only
    split
    · split
      · rename_i hj h0
        show gi (s.order.set _ _) v ≠ 0
        by_cases hk : (nx p.1)[p.2] < s.order.length
        · rw [gi_set _ _ _ _ hk]
          split
          · show ((s.met : Int) + 1) ≠ 0; omega
          · exact hv
        · rw [List.set_eq_of_length_le (by omega)]; exact hv
      · split <;> exact hv
    · unfold TS.leave
      split <;> exact hv
theorem isLeast_uniq {v : Nat} {m m' : Int} (h : isLeast nx v m) (h' : isLeast nx v m') : m = m' := by
  obtain ⟨k, rfl, a1, a2, a3⟩ := h
  obtain ⟨k', rfl, b1, b2, b3⟩ := h'
  have h1 := a3 k' b1 b2
  have h2 := b3 k a1 a2
  omega
end
end Go.Sp
