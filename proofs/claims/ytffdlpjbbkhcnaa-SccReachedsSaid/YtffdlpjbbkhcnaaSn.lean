/-
  PLAIN, NO PROGRAM: parts of a graph: the search ends; the list of parts (P8.2), fair parts (P8.4).
-/
import Derived.Test.YtffdlpjbbkhcnaaSm
namespace Go.Sp
open Go.Av
section
variable {nx : Nat → List Nat} {n : Nat} {x : Option Nat} {s : TS}
def sumN (n : Nat) (f : Nat → Nat) : Nat := ((List.range n).map f).sum
theorem sumN_succ (n : Nat) (f : Nat → Nat) : sumN (n + 1) f = sumN n f + f n := by simp [sumN, List.range_succ]
theorem sumN_same {f g : Nat → Nat} : ∀ n, (∀ v, v < n → f v = g v) → sumN n f = sumN n g
  | 0, _ => rfl
  | n + 1, h => by rw [sumN_succ, sumN_succ, sumN_same n (fun v hv => h v (by omega)), h n (by omega)]
theorem sumN_upd {f g : Nat → Nat} {k : Nat} : ∀ n, k < n → (∀ v, v ≠ k → f v = g v) → sumN n f + g k = sumN n g + f k
  | 0, h, _ => by omega
  | n + 1, h, he => by
    rw [sumN_succ, sumN_succ]
    by_cases hk : k = n
    · rw [sumN_same (g := g) n fun v hv => he v (by omega), hk]; omega
    · have := sumN_upd n (by omega) he
      rw [he n (by omega)]
      omega
def wt (nx : Nat → List Nat) (p : Nat × Nat) : Nat := (nx p.1).length - p.2 + 1
/-- How much is still to be done. -/
def TS.mu (nx : Nat → List Nat) (n : Nat) (s : TS) : Nat := sumN n (fun v => if gi s.order v = 0 then (nx v).length + 2 else 0) + (s.calls.map (wt nx)).sum
theorem go_mu (hn : ∀ i, ∀ k ∈ nx i, k < n) (t : TInv nx n none s) {p : Nat × Nat} (h : s.calls.getLast? = some p) : (s.go nx).mu nx n < s.mu nx n := by
  have e : (s.calls.map (wt nx)).sum = (s.calls.dropLast.map (wt nx)).sum + wt nx p := by
    conv => lhs; rw [calls_last h]
    simp
  unfold TS.go
  rw [h]
  dsimp only
  by_cases hj : p.2 < (nx p.1).length
  · rw [dif_pos hj]
    have hw : wt nx (p.1, p.2 + 1) + 1 = wt nx p := by unfold wt; dsimp only; omega
    have hk := hn p.1 _ (List.getElem_mem hj)
    by_cases h0 : gi s.order (nx p.1)[p.2] = 0
    · rw [if_pos h0]
      have e2 : (((s.next p.1 p.2).enter (nx p.1)[p.2]).calls.map (wt nx)).sum = (s.calls.dropLast.map (wt nx)).sum + wt nx (p.1, p.2 + 1) + wt nx ((nx p.1)[p.2], 0) := by
        simp [TS.enter, TS.next, Nat.add_assoc]
      have hs := sumN_upd (f := fun v => if gi ((s.next p.1 p.2).enter (nx p.1)[p.2]).order v = 0 then (nx v).length + 2 else 0) (g := fun v => if gi s.order v = 0 then (nx v).length + 2 else 0) (k := (nx p.1)[p.2]) n hk fun v hv => by
        have : gi ((s.next p.1 p.2).enter (nx p.1)[p.2]).order v = gi s.order v := by
          show gi (s.order.set _ _) v = _
          rw [gi_set _ _ _ _ (by rw [t.lo]; exact hk), if_neg hv]
        rw [this]
      have e3 : gi ((s.next p.1 p.2).enter (nx p.1)[p.2]).order (nx p.1)[p.2] = (s.met : Int) + 1 := by
        show gi (s.order.set _ _) _ = _
        rw [gi_set _ _ _ _ (by rw [t.lo]; exact hk), if_pos rfl]; rfl
      rw [e3, if_pos h0, if_neg (by omega)] at hs
      unfold TS.mu
      rw [e2, e]
      have : wt nx ((nx p.1)[p.2], 0) = (nx (nx p.1)[p.2]).length + 1 := rfl
      omega
    · rw [if_neg h0]
      have e2 : ((s.next p.1 p.2).calls.map (wt nx)).sum = (s.calls.dropLast.map (wt nx)).sum + wt nx (p.1, p.2 + 1) := by simp [TS.next]
      have e3 : (((s.next p.1 p.2).lower p.1 (nx p.1)[p.2]).calls.map (wt nx)).sum = (s.calls.dropLast.map (wt nx)).sum + wt nx (p.1, p.2 + 1) := e2
      split
      · unfold TS.mu
        rw [e3, e]
        show sumN n (fun v => if gi s.order v = 0 then _ else 0) + _ < _
        omega
      · unfold TS.mu
        rw [e2, e]
        show sumN n (fun v => if gi s.order v = 0 then _ else 0) + _ < _
        omega
  · rw [dif_neg hj]
    unfold TS.leave
    have : 0 < wt nx p := by unfold wt; omega
    split
    · unfold TS.mu
      rw [e]
      show sumN n (fun v => if gi s.order v = 0 then _ else 0) + (s.calls.dropLast.map (wt nx)).sum < _
      omega
    · unfold TS.mu
      rw [e]
      show sumN n (fun v => if gi s.order v = 0 then _ else 0) + (s.calls.dropLast.map (wt nx)).sum < _
      omega
end

theorem least_of {p : Nat → Prop} (m : Nat) (h : p m) : ∃ k, p k ∧ ∀ u, p u → k ≤ u := by
  induction m using Nat.strongRecOn with
  | _ m ih =>
    by_cases h' : ∃ j, j < m ∧ p j
    · obtain ⟨j, hj, hp⟩ := h'; exact ih j hj hp
    · exact ⟨m, h, fun u hu => by
        rcases Nat.lt_or_ge u m with h1 | h1
        · exact absurd ⟨u, h1, hu⟩ h'
        · exact h1⟩
theorem isLeast_ex (nx : Nat → List Nat) (v : Nat) : ∃ m, isLeast nx v m := by
  obtain ⟨k, ⟨h1, h2⟩, h3⟩ := least_of (p := fun u => Rch nx v u ∧ Rch nx u v) v ⟨.refl v, .refl v⟩
  exact ⟨k, k, rfl, h1, h2, fun u a b => h3 u ⟨a, b⟩⟩
/-- P8.2: a spot's part, by its least place. -/
noncomputable def partOf (nx : Nat → List Nat) (v : Nat) : Int := Classical.choose (isLeast_ex nx v)
theorem partOf_spec (nx : Nat → List Nat) (v : Nat) : isLeast nx v (partOf nx v) := Classical.choose_spec (isLeast_ex nx v)
theorem partOf_eq {nx : Nat → List Nat} {v : Nat} {m : Int} (h : isLeast nx v m) : m = partOf nx v := isLeast_uniq h (partOf_spec nx v)
noncomputable def partsL (g : Gn) : List Int := (List.range g.spots.length).map (partOf g.nx)
theorem partsL_length (g : Gn) : (partsL g).length = g.spots.length := by simp [partsL]
theorem partsL_get (g : Gn) (i : Nat) (h : i < (partsL g).length) : (partsL g)[i] = partOf g.nx i := by simp [partsL]
/-- Those of one part lead to one another. -/
theorem partOf_iff {nx : Nat → List Nat} {u v : Nat} : partOf nx u = partOf nx v ↔ Rch nx u v ∧ Rch nx v u := by
  obtain ⟨k, e, a1, a2, a3⟩ := partOf_spec nx u
  obtain ⟨k', e', b1, b2, b3⟩ := partOf_spec nx v
  constructor
  · intro h
    have : k = k' := by omega
    subst this
    exact ⟨a1.trans b2, b1.trans a2⟩
  · rintro ⟨h1, h2⟩
    exact (partOf_eq (v := u) ⟨k', e', h1.trans b1, b2.trans h2, fun w c1 c2 => b3 w (h2.trans c1) (c2.trans h1)⟩).symm
theorem partOf_bound {nx : Nat → List Nat} (v : Nat) : 0 ≤ partOf nx v ∧ partOf nx v ≤ v := by
  obtain ⟨k, e, a1, a2, a3⟩ := partOf_spec nx v
  have := a3 v (.refl v) (.refl v)
  omega
end Go.Sp
