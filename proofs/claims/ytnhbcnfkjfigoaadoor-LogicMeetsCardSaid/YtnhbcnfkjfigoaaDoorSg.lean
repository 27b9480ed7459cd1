/-
  PLAIN, NO PROGRAM: what claims must keep from moment to moment, and what they wait for.
-/
import Derived.Test.YtnhbcnfkjfigoaaDoorSf
namespace Go.Sp
open Go.Av

/-- What an op that looks ahead must be. -/
def lawB (k : Int) (a1 s b b1 : Bool) : Bool := if k = 14 then b1 else if k = 17 then a1 || b else if k = 18 then a1 && b else if k = 15 then s || (a1 && b) else s && (a1 || b)
theorem lawB_second {k : Int} (a1 u v b b1 : Bool) (hk : aheadP k) (hu : k = 15 ∨ k = 16 → u = v) : lawB k a1 u b b1 = lawB k a1 v b b1 := by
  by_cases h : k = 15 ∨ k = 16
  · rw [hu h]
  · unfold aheadP at hk
    unfold lawB
    by_cases h14 : k = 14
    · rw [if_pos h14, if_pos h14]
    by_cases h17 : k = 17
    · rw [if_neg h14, if_neg h14, if_pos h17, if_pos h17]
    rw [if_neg h14, if_neg h14, if_neg h17, if_neg h17, if_pos (by omega), if_pos (by omega)]
/-- Has it what it waits for? -/
def metB (k : Int) (a a1 s : Bool) : Bool := if k = 17 then !a || a1 else if k = 18 then a || !a1 else if k = 15 then !a || s else if k = 16 then a || !s else true
def keptAt (l : List Fo) (A B : Nat → Bool) (i : Nat) : Prop := aheadP (kindAt l i) → A i = lawB (kindAt l i) (A (i + 1)) (A (second l i)) (B i) (B (i + 1))
instance (l : List Fo) (A B : Nat → Bool) (i : Nat) : Decidable (keptAt l A B i) := by unfold keptAt; infer_instance
def kept (l : List Fo) (A B : Nat → Bool) : Prop := ∀ i, i < l.length → keptAt l A B i
instance (l : List Fo) (A B : Nat → Bool) : Decidable (kept l A B) := by unfold kept; infer_instance
/-- P5.5. -/
def followsOf (l : List Fo) (x : List Bool) (c : Int) (y : List Bool) (d : Int) : Bool × Int :=
  if x.length ≠ y.length then (false, 1)
  else if (truthsOf l x c).2 ≠ 0 then (false, (truthsOf l x c).2)
  else if (truthsOf l y d).2 ≠ 0 then (false, (truthsOf l y d).2)
  else (decide (kept l (tAt l x c) (tAt l y d)), 0)
def metAt (l : List Fo) (A : Nat → Bool) (i : Nat) : Bool := metB (kindAt l i) (A i) (A (i + 1)) (A (second l i))
def mets (l : List Fo) (A : Nat → Bool) : Nat → Int
  | 0 => 0
  | i + 1 => mets l A i + if aheadP (kindAt l i) ∧ metAt l A i = true then 2 ^ rank l i else 0
/-- P5.6. -/
def meetsOf (l : List Fo) (x : List Bool) (c : Int) : Int × Int :=
  if (truthsOf l x c).2 ≠ 0 then (0, (truthsOf l x c).2) else (mets l (tAt l x c) l.length, 0)
theorem mets_bound (l : List Fo) (A : Nat → Bool) : ∀ i, 0 ≤ mets l A i ∧ mets l A i < 2 ^ rank l i
  | 0 => by simp [mets, rank]
  | i + 1 => by
    have ih := mets_bound l A i
    simp only [mets, rank]
    by_cases h1 : aheadP (kindAt l i)
    · rw [if_pos h1, Int.pow_succ]
      by_cases h2 : metAt l A i = true
      · rw [if_pos ⟨h1, h2⟩]; omega
      · rw [if_neg (fun h => h2 h.2)]; omega
    · rw [if_neg h1, if_neg (fun h => h1 h.1), Nat.add_zero]; omega
/-- A list of truths, told by places. -/
structure TV (l : List Fo) (a : List Bool) (A : Nat → Bool) : Prop where
  len : a.length = l.length
  get : ∀ (i : Nat) (h : i < a.length), a[i] = A i
theorem truthsOf_ok {l : List Fo} {x : List Bool} {c : Int} {a : List Bool} (h : truthsOf l x c = (a, 0)) : GoodF l x.length ∧ TV l a (tAt l x c) := by
  unfold truthsOf at h
  by_cases h1 : (aheadsOf l x.length).2 ≠ 0
  · rw [if_pos h1] at h; simp at h; exact absurd h.2 h1
  rw [if_neg h1] at h
  by_cases h2 : c < 0 ∨ 2 ^ (aheadsOf l x.length).1.length ≤ c
  · rw [if_pos h2] at h; simp at h
  rw [if_neg h2] at h
  simp only [Prod.mk.injEq, and_true] at h
  subst h
  have := aheadsOf_ok (l := l) (p := x.length) (ps := (aheadsOf l x.length).1) (Prod.ext rfl (by simpa using h1))
  exact ⟨good_of this.1, by simp, fun i hi => by simp⟩
end Go.Sp
