/-
  PLAIN, NO PROGRAM: the parts of the first op.
-/
import Derived.Test.YtffdlpjbbkhcnaaSa
namespace Go.Sp
open Go.Av

def termC (t : List Fo) : List D := [opsD t]
abbrev termsD (l : List (List Fo)) : D := .l 1 24 (l.map termC)

theorem endsOf_ok {l : List Fo} {es : List Int} (h : endsOf l = (es, 0)) : l.length ≤ 60 ∧ 0 < l.length ∧ endOf l 0 = ((l.length : Int), 0) ∧ es.length = l.length ∧ ∀ (j : Nat) (hj : j < es.length), es[j] = (endOf l j).1 := by
  unfold endsOf at h
  by_cases h1 : 60 < l.length
  · rw [if_pos h1] at h; simp at h
  rw [if_neg h1] at h
  by_cases h2 : (endOf l 0).2 ≠ 0
  · rw [if_pos h2] at h; simp at h; exact absurd h.2 h2
  rw [if_neg h2] at h
  by_cases h3 : (endOf l 0).1 < l.length
  · rw [if_pos h3] at h; simp at h
  rw [if_neg h3] at h
  have hb := endOf_bound l 0 (by simpa using h2)
  simp only [Prod.mk.injEq, and_true] at h
  subst h
  have e0 : ((0 : Nat) : Int) = 0 := rfl
  rw [e0] at hb
  refine ⟨by omega, by omega, Prod.ext ?_ ?_, by simp, fun j hj => by simp⟩
  · dsimp only; omega
  · simpa using h2
theorem endsOf_err {l : List Fo} {es : List Int} {e : Int} (h : endsOf l = (es, e)) (he : e ≠ 0) : es = [] := by
  unfold endsOf at h
  split at h
  · simp at h; exact h.1
  split at h
  · simp at h; exact h.1
  split at h
  · simp at h; exact h.1
  · simp at h; exact absurd h.2.symm he

/-- From a place on: so many parts. -/
def chunks (l : List Fo) : Nat → Nat → List (List Fo)
  | 0, _ => []
  | k + 1, i => (l.drop i).take ((endOf l i).1.toNat - i) :: chunks l k (endOf l i).1.toNat
def splitOf (l : List Fo) : List (List Fo) × Int :=
  if (endsOf l).2 ≠ 0 then ([], (endsOf l).2) else (chunks l (partsOf ((l[0]?.map Fo.kind).getD 0)).1.toNat 1, 0)

theorem chunks_snoc (l : List Fo) : ∀ (k i : Nat), chunks l (k + 1) i = (l.drop i).take ((endOf l i).1.toNat - i) :: chunks l k (endOf l i).1.toNat := fun _ _ => rfl

/-- Where k parts are read to the end n: the first is well, and k - 1 parts are read behind it. -/
theorem scan_parts {l : List Fo} {i k : Nat} {n : Int} (hk : 1 ≤ k) (h : scan (l.drop i) k i = (n, 0)) : (endOf l i).2 = 0 ∧ (i : Int) < (endOf l i).1 ∧ (endOf l i).1 ≤ l.length ∧ (k = 1 → (endOf l i).1 = n) ∧ (2 ≤ k → scan (l.drop (endOf l i).1.toNat) ((k - 1 : Nat) : Int) ((endOf l i).1.toNat : Nat) = (n, 0)) := by
  have key : (endOf l i).2 = 0 ∧ (k = 1 → (endOf l i).1 = n) ∧ (2 ≤ k → scan (l.drop (endOf l i).1.toNat) ((k - 1 : Nat) : Int) (endOf l i).1 = (n, 0)) := by
    by_cases h1 : k = 1
    · subst h1
      have e : endOf l i = scan (l.drop i) 1 i := by unfold endOf; rw [Int.toNat_natCast]
      have h' : endOf l i = (n, 0) := by rw [e]; exact h
      exact ⟨by rw [h'], fun _ => by rw [h'], fun h2 => by omega⟩
    · have e : (k : Int) = ((k - 1 : Nat) : Int) + 1 := by omega
      rw [e, scan_next l i _ (by omega)] at h
      by_cases h2 : (endOf l i).2 ≠ 0
      · rw [if_pos h2] at h; simp at h; exact absurd h.2 h2
      · rw [if_neg h2] at h
        exact ⟨by simpa using h2, fun h3 => absurd h3 h1, fun _ => h⟩
  have hb := endOf_bound l i key.1
  refine ⟨key.1, hb.1, hb.2, key.2.1, fun h2 => ?_⟩
  have := key.2.2 h2
  rwa [Int.toNat_of_nonneg (by omega)]

/-- What the first op's parts read. -/
theorem first_parts {l : List Fo} (h0 : 0 < l.length) (h : endOf l 0 = ((l.length : Int), 0)) : (partsOf l[0].kind).2 = 0 ∧ ((partsOf l[0].kind).1.toNat = 0 → l.length = 1) ∧ (1 ≤ (partsOf l[0].kind).1.toNat → scan (l.drop 1) ((partsOf l[0].kind).1.toNat : Nat) ((1 : Nat) : Int) = ((l.length : Int), 0)) := by
  have h' := endOf_at l 0 h0
  have e0 : ((0 : Nat) : Int) = 0 := rfl
  rw [e0, h] at h'
  have hp := partsOf_le l[0].kind
  by_cases h1 : (partsOf l[0].kind).2 ≠ 0
  · rw [if_pos h1] at h'; simp at h'; exact absurd h'.2.symm h1
  rw [if_neg h1] at h'
  refine ⟨by simpa using h1, fun h2 => ?_, fun h2 => ?_⟩
  · rw [if_pos (by omega)] at h'; simp at h'; omega
  · rw [if_neg (by omega)] at h'
    have e : (1 : Int) + (partsOf l[0].kind).1 - (1 : Int) = (((partsOf l[0].kind).1.toNat : Nat) : Int) := by omega
    rw [e] at h'
    exact h'.symm
theorem cut_snoc {α : Type} (l : List α) (m i : Nat) (h1 : m ≤ i) (h2 : i < l.length) : (l.drop m).take (i + 1 - m) = (l.drop m).take (i - m) ++ [l[i]] := by
  have e : i + 1 - m = (i - m) + 1 := by omega
  have hl : i - m < (l.drop m).length := by rw [List.length_drop]; omega
  rw [e, List.take_succ_eq_append_getElem hl, List.getElem_drop]
  congr 3
  omega
/-- How the parts are found one by one: j of them are found, the next begins at i. -/
structure Parted (l : List Fo) (n j i : Nat) (out : List (List Fo)) : Prop where
  le : j ≤ n
  one : 1 ≤ i
  len : i ≤ l.length
  all : chunks l n 1 = out ++ chunks l (n - j) i
  more : j < n → scan (l.drop i) ((n - j : Nat) : Int) i = ((l.length : Int), 0)
  fin : j = n → i = l.length
  few : out.length ≤ i
theorem Parted.start {l : List Fo} (h0 : 0 < l.length) (h : endOf l 0 = ((l.length : Int), 0)) : Parted l (partsOf l[0].kind).1.toNat 0 1 [] := by
  obtain ⟨h1, h2, h3⟩ := first_parts h0 h
  exact ⟨Nat.zero_le _, Nat.le_refl _, h0, rfl, fun h => h3 h, fun h => (h2 h.symm).symm, Nat.zero_le _⟩
theorem Parted.next {l : List Fo} {n j i : Nat} {out : List (List Fo)} (p : Parted l n j i out) (hj : j < n) : (endOf l i).2 = 0 ∧ (i : Int) < (endOf l i).1 ∧ (endOf l i).1 ≤ l.length ∧ Parted l n (j + 1) (endOf l i).1.toNat (out ++ [(l.drop i).take ((endOf l i).1.toNat - i)]) := by
  obtain ⟨k1, k2, k3, k4, k5⟩ := scan_parts (by omega) (p.more hj)
  refine ⟨k1, k2, k3, by omega, by omega, by omega, ?_, fun h => ?_, fun h => ?_, ?_⟩
  · have e : n - j = (n - (j + 1)) + 1 := by omega
    rw [p.all, e, chunks_snoc, List.append_assoc]; rfl
  · have := k5 (by omega)
    rwa [show n - j - 1 = n - (j + 1) by omega] at this
  · have := k4 (by omega)
    omega
  · have := p.few
    simp only [List.length_append, List.length_cons, List.length_nil]
    omega
theorem Parted.lt {l : List Fo} {n j i : Nat} {out : List (List Fo)} (p : Parted l n j i out) : j < n ↔ i < l.length := by
  constructor
  · intro h
    have := p.next h
    omega
  · intro h
    have := p.le
    have := p.fin
    omega
theorem Parted.done {l : List Fo} {n j i : Nat} {out : List (List Fo)} (p : Parted l n j i out) (h : j = n) : chunks l n 1 = out := by
  have := p.all
  rw [h, Nat.sub_self] at this
  simpa [chunks] using this
end Go.Sp
