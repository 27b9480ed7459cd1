/-
  PLAIN, NO PROGRAM: what holds along a word: one law for all that look ahead.
-/
import Derived.Test.YtacdheachjnejaaDoorS1
namespace Go.Sp
open Go Go.Av
set_option linter.unusedVariables false
set_option linter.unusedSimpArgs false

/-- One law of looking ahead: where it stops, what it is worth there, what it is worth where it never stops, and which moment is behind one. -/
structure La where
  stop : Nat → Bool
  val : Nat → Bool
  nxt : Nat → Nat
  base : Bool
def La.step (a : La) (i : Nat) (x : Bool) : Bool := if a.stop i then a.val i else x
def La.up (a : La) : Nat → Nat → Bool
  | 0, _ => a.base
  | k + 1, i => a.step i (a.up k (a.nxt i))
theorem La.step_mono (a : La) {i : Nat} (h : a.step i a.base ≠ a.base) (x : Bool) : a.step i x ≠ a.base := by
  unfold La.step at h ⊢
  by_cases c : a.stop i
  · rw [if_pos c] at h ⊢; exact h
  · rw [if_neg c] at h; exact absurd rfl h
/-- A row on its way from the base to rest. -/
structure La.On (a : La) (row : Nat → Bool) : Prop where
  sound : ∀ i, row i ≠ a.base → ∃ k, a.up k i ≠ a.base
  fore : ∀ i, row i ≠ a.base → a.step i (row (a.nxt i)) ≠ a.base
theorem La.On.start (a : La) : a.On fun _ => a.base := ⟨fun _ h => absurd rfl h, fun _ h => absurd rfl h⟩
theorem bool_ne {a b c : Bool} (h : a ≠ c) (h' : b ≠ c) : a = b := by revert h h'; cases a <;> cases b <;> cases c <;> decide
/-- One cell is settled anew. -/
theorem La.On.set {a : La} {row : Nat → Bool} (h : a.On row) (j : Nat) : a.On fun i => if i = j then a.step j (row (a.nxt j)) else row i := by
  have keep : ∀ i, row i ≠ a.base → (if i = j then a.step j (row (a.nxt j)) else row i) ≠ a.base := fun i hi => by
    by_cases e : i = j
    · subst e; rw [if_pos rfl]; exact h.fore _ hi
    · rw [if_neg e]; exact hi
  have fwd : ∀ i, a.step i (row (a.nxt i)) ≠ a.base → a.step i (if a.nxt i = j then a.step j (row (a.nxt j)) else row (a.nxt i)) ≠ a.base := fun i hi => by
    by_cases c : row (a.nxt i) = a.base
    · rw [c] at hi; exact a.step_mono hi _
    · have := keep _ c
      rw [bool_ne this c]; exact hi
  refine ⟨fun i hi => ?_, fun i hi => ?_⟩
  · by_cases e : i = j
    · subst e
      rw [if_pos rfl] at hi
      by_cases c : row (a.nxt i) = a.base
      · rw [c] at hi; exact ⟨1, hi⟩
      · obtain ⟨k, hk⟩ := h.sound _ c
        exact ⟨k + 1, by rw [La.up, bool_ne hk c]; exact hi⟩
    · rw [if_neg e] at hi; exact h.sound i hi
  · refine fwd i ?_
    by_cases e : i = j
    · subst e; rw [if_pos rfl] at hi; exact hi
    · rw [if_neg e] at hi; exact h.fore i hi
/-- At rest, over so many moments. -/
theorem La.rest {a : La} {row : Nat → Bool} {N : Nat} (hcl : ∀ i, i < N → a.nxt i < N) (h : ∀ i, i < N → row i = a.step i (row (a.nxt i))) : ∀ (k i : Nat), i < N → a.up k i ≠ a.base → row i ≠ a.base
  | 0, _, _, hk => absurd rfl hk
  | k + 1, i, hi, hk => by
    rw [h i hi]
    rw [La.up] at hk
    by_cases c : a.up k (a.nxt i) = a.base
    · rw [c] at hk; exact a.step_mono hk _
    · rw [bool_ne (La.rest hcl h k _ (hcl i hi) c) c]; exact hk
theorem La.On.done {a : La} {row : Nat → Bool} {N : Nat} (h : a.On row) (hcl : ∀ i, i < N → a.nxt i < N) (hr : ∀ i, i < N → row i = a.step i (row (a.nxt i))) {i : Nat} (hi : i < N) : row i ≠ a.base ↔ ∃ k, a.up k i ≠ a.base :=
  ⟨h.sound i, fun ⟨k, hk⟩ => La.rest hcl hr k i hi hk⟩
/-- Moment after moment. -/
def La.itr (a : La) : Nat → Nat → Nat
  | 0, i => i
  | k + 1, i => a.itr k (a.nxt i)
theorem La.itr_add (a : La) : ∀ (j k i : Nat), a.itr (j + k) i = a.itr k (a.itr j i)
  | 0, k, i => by rw [Nat.zero_add]; rfl
  | j + 1, k, i => by rw [Nat.succ_add]; exact La.itr_add a j k (a.nxt i)
theorem La.up_skip (a : La) : ∀ (j m i : Nat), (∀ j', j' < j → ¬ a.stop (a.itr j' i)) → a.up (j + m) i = a.up m (a.itr j i)
  | 0, m, i, _ => by rw [Nat.zero_add]; rfl
  | j + 1, m, i, h => by
    have h0 : ¬ a.stop i := h 0 (by omega)
    rw [Nat.succ_add, La.up, La.step, if_neg h0]
    exact La.up_skip a j m (a.nxt i) fun j' hj => h (j' + 1) (by omega)
theorem La.up_first (a : La) : ∀ (k i : Nat), a.up k i ≠ a.base → ∃ j, j < k ∧ a.stop (a.itr j i) ∧ ∀ j', j' < j → ¬ a.stop (a.itr j' i)
  | 0, _, h => absurd rfl h
  | k + 1, i, h => by
    by_cases c : a.stop i
    · exact ⟨0, by omega, c, fun _ h => by omega⟩
    · rw [La.up, La.step, if_neg c] at h
      obtain ⟨j, h1, h2, h3⟩ := La.up_first a k (a.nxt i) h
      refine ⟨j + 1, by omega, h2, fun j' hj => ?_⟩
      cases j' with
      | zero => exact c
      | succ j' => exact h3 j' (by omega)
theorem La.up_all (a : La) (N i : Nat) (hc : ∀ k, ∃ k', k' ≤ k ∧ k' ≤ N ∧ a.itr k' i = a.itr k i) : (∃ k, a.up k i ≠ a.base) ↔ a.up (N + 1) i ≠ a.base := by
  refine ⟨fun ⟨k, hk⟩ => ?_, fun h => ⟨_, h⟩⟩
  obtain ⟨j, h1, h2, h3⟩ := a.up_first k i hk
  obtain ⟨j', k1, k2, k3⟩ := hc j
  have hj : j ≤ N := by
    by_cases e : j' = j
    · omega
    · exact absurd (k3 ▸ h2) (h3 j' (by omega))
  obtain ⟨m, rfl⟩ : ∃ m, k = j + (m + 1) := ⟨k - j - 1, by omega⟩
  rw [La.up_skip a j (m + 1) i h3, La.up, La.step, if_pos h2] at hk
  rw [show N + 1 = j + ((N - j) + 1) by omega, La.up_skip a j _ i h3, La.up, La.step, if_pos h2]
  exact hk
/-- The moment behind one, in a word with a stem so long and so many moments in all. -/
def wnx (s N i : Nat) : Nat := if i + 1 < N then i + 1 else s
theorem La.itr_succ (a : La) (k i : Nat) : a.itr (k + 1) i = a.nxt (a.itr k i) := by rw [La.itr_add a k 1 i]; rfl
theorem La.itr_lt (a : La) {s N : Nat} (hn : a.nxt = wnx s N) (hs : s < N) {i : Nat} (hi : i < N) : ∀ k, a.itr k i < N
  | 0 => hi
  | k + 1 => by rw [La.itr_succ, hn, wnx]; split <;> omega
theorem La.itr_ge (a : La) {s N : Nat} (hn : a.nxt = wnx s N) (i : Nat) : ∀ k, i + k ≤ a.itr k i ∨ s ≤ a.itr k i
  | 0 => .inl (Nat.le_refl _)
  | k + 1 => by
    rw [La.itr_succ, hn, wnx]
    rcases La.itr_ge a hn i k with h | h <;> split <;> omega
theorem La.itr_loop (a : La) {s N : Nat} (hn : a.nxt = wnx s N) (hs : s < N) {p : Nat} (hp : s ≤ p) (hp' : p < N) : ∀ j, j ≤ N - s → a.itr j p = if p + j < N then p + j else p + j - (N - s)
  | 0, _ => by simp [La.itr, hp']
  | j + 1, hj => by
    rw [La.itr_succ, La.itr_loop a hn hs hp hp' j (by omega), hn, wnx]
    by_cases c1 : p + j < N
    · rw [if_pos c1]
      by_cases c2 : p + j + 1 < N
      · rw [if_pos c2, if_pos (by omega)]; omega
      · rw [if_neg c2, if_neg (by omega)]; omega
    · rw [if_neg c1, if_pos (by omega), if_neg (by omega)]; omega
theorem La.cover (a : La) {s N : Nat} (hn : a.nxt = wnx s N) (hs : s < N) {i : Nat} (hi : i < N) (k : Nat) : ∃ k', k' ≤ k ∧ k' ≤ N ∧ a.itr k' i = a.itr k i := by
  induction k using Nat.strongRecOn with
  | ind k ih =>
    by_cases c : k ≤ N
    · exact ⟨k, Nat.le_refl _, c, rfl⟩
    obtain ⟨k', h1, h2, h3⟩ := ih (k - (N - s)) (by omega)
    have hg : s ≤ a.itr (k - (N - s)) i := by have := La.itr_ge a hn i (k - (N - s)); omega
    have hl := La.itr_loop a hn hs hg (La.itr_lt a hn hs hi _) (N - s) (Nat.le_refl _)
    rw [← La.itr_add, if_neg (by omega), show k - (N - s) + (N - s) = k by omega] at hl
    exact ⟨k', by omega, h2, by rw [h3, hl]; omega⟩
/-- A row at rest tells what the scan over all moments tells. -/
theorem La.On.scan {a : La} {row : Nat → Bool} {s N : Nat} (h : a.On row) (hr : ∀ i, i < N → row i = a.step i (row (a.nxt i))) (hn : a.nxt = wnx s N) (hs : s < N) {i : Nat} (hi : i < N) : row i = a.up (N + 1) i := by
  have hcl : ∀ i, i < N → a.nxt i < N := fun i hi => by rw [hn, wnx]; split <;> omega
  have e := (h.done hcl hr hi).trans (a.up_all N i (a.cover hn hs hi))
  by_cases c : row i = a.base
  · by_cases c' : a.up (N + 1) i = a.base
    · rw [c, c']
    · exact absurd c (e.2 c')
  · exact bool_ne c (e.1 c)
end Go.Sp
