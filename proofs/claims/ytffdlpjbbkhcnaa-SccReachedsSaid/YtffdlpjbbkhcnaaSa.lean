/-
  PLAIN, NO PROGRAM: how the counting scan falls into parts.
-/
import Derived.Test.YtffdlpjbbkhcnaaSp
namespace Go.Sp
open Go.Av

theorem scan_cons (o : Fo) (r : List Fo) (w i : Int) : scan (o :: r) w i = if (partsOf o.kind).2 ≠ 0 then (0, (partsOf o.kind).2) else if w + (partsOf o.kind).1 - 1 = 0 then (i + 1, 0) else scan r (w + (partsOf o.kind).1 - 1) (i + 1) := rfl

theorem scan_bound : ∀ (r : List Fo) (w i : Int), (scan r w i).2 = 0 → i < (scan r w i).1 ∧ (scan r w i).1 ≤ i + r.length
  | [], w, i, h => by simp [scan] at h
  | o :: r, w, i, h => by
    rw [scan_cons] at h ⊢
    split
    · rename_i h1; rw [if_pos h1] at h; exact absurd h h1
    · rename_i h1
      rw [if_neg h1] at h
      split
      · simp; omega
      · rename_i h2
        rw [if_neg h2] at h
        have := scan_bound r _ _ h
        simp only [List.length_cons]
        omega

theorem scan_err (r : List Fo) (w i : Int) (h : (scan r w i).2 ≠ 0) : (scan r w i).1 = 0 := by
  induction r generalizing w i with
  | nil => rfl
  | cons o r ih =>
    rw [scan_cons] at h ⊢
    split
    · rfl
    · rename_i h1
      rw [if_neg h1] at h
      split
      · rename_i h2; rw [if_pos h2] at h; exact absurd rfl h
      · rename_i h2; rw [if_neg h2] at h; exact ih _ _ h

/-- A scan for more: first for one, then for what remains. -/
theorem scan_split : ∀ (m : Nat) (r : List Fo), r.length ≤ m → ∀ (w i : Int), 1 ≤ w →
    scan r (w + 1) i = if (scan r 1 i).2 ≠ 0 then (0, (scan r 1 i).2) else scan (r.drop ((scan r 1 i).1 - i).toNat) w (scan r 1 i).1
  | _, [], _, w, i, _ => by simp [scan]
  | 0, _ :: _, hm, _, _, _ => by simp at hm
  | m + 1, o :: r, hm, w, i, hw => by
    have hm' : r.length ≤ m := by simp at hm; omega
    rw [scan_cons o r (w + 1) i]
    have hp := partsOf_le o.kind
    by_cases h1 : (partsOf o.kind).2 ≠ 0
    · have hs : scan (o :: r) 1 i = (0, (partsOf o.kind).2) := by rw [scan_cons, if_pos h1]
      rw [if_pos h1, hs, if_pos h1]
    · rw [if_neg h1]
      have h2 : ¬ (w + 1 + (partsOf o.kind).1 - 1 = 0) := by omega
      rw [if_neg h2]
      have hdrop : ∀ (e : Int), i < e → (o :: r).drop (e - i).toNat = r.drop (e - (i + 1)).toNat := fun e he => by
        have : (e - i).toNat = (e - (i + 1)).toNat + 1 := by omega
        rw [this, List.drop_succ_cons]
      have hc : (partsOf o.kind).1 = 0 ∨ (partsOf o.kind).1 = 1 ∨ (partsOf o.kind).1 = 2 := by omega
      rcases hc with hc | hc | hc
      · have hs : scan (o :: r) 1 i = (i + 1, 0) := by rw [scan_cons, if_neg h1, hc]; rfl
        have e1 : (w : Int) + 1 + (partsOf o.kind).1 - 1 = w := by omega
        have : (i + 1 - (i + 1)).toNat = 0 := by omega
        rw [hs, if_neg (by simp), hdrop _ (by dsimp only; omega), this, List.drop_zero, e1]
      · have hs : scan (o :: r) 1 i = scan r 1 (i + 1) := by rw [scan_cons, if_neg h1, hc]; rfl
        have e1 : (w : Int) + 1 + (partsOf o.kind).1 - 1 = w + 1 := by omega
        rw [hs, e1, scan_split m r hm' w (i + 1) hw]
        by_cases h3 : (scan r 1 (i + 1)).2 ≠ 0
        · rw [if_pos h3, if_pos h3]
        · rw [if_neg h3, if_neg h3]
          have hb := scan_bound r 1 (i + 1) (by simpa using h3)
          rw [hdrop _ (by omega)]
      · have hs : scan (o :: r) 1 i = scan r (1 + 1) (i + 1) := by rw [scan_cons, if_neg h1, hc]; rfl
        have e1 : (w : Int) + 1 + (partsOf o.kind).1 - 1 = (w + 1) + 1 := by omega
        rw [hs, e1, scan_split m r hm' (w + 1) (i + 1) (by omega), scan_split m r hm' 1 (i + 1) (by omega)]
        by_cases h3 : (scan r 1 (i + 1)).2 ≠ 0
        · rw [if_pos h3, if_pos h3, if_pos h3]
        · rw [if_neg h3, if_neg h3]
          have hb := scan_bound r 1 (i + 1) (by simpa using h3)
          have hl : (r.drop ((scan r 1 (i + 1)).1 - (i + 1)).toNat).length ≤ m := by rw [List.length_drop]; omega
          rw [scan_split m _ hl w _ hw]
          generalize hs : scan (r.drop ((scan r 1 (i + 1)).1 - (i + 1)).toNat) 1 (scan r 1 (i + 1)).1 = s
          by_cases h4 : s.2 ≠ 0
          · rw [if_pos h4, if_pos h4]
          · rw [if_neg h4, if_neg h4]
            have hb2 := scan_bound (r.drop ((scan r 1 (i + 1)).1 - (i + 1)).toNat) 1 (scan r 1 (i + 1)).1 (by rw [hs]; simpa using h4)
            rw [hs] at hb2
            rw [hdrop _ (by omega), List.drop_drop]
            congr 2; omega

theorem endOf_at (l : List Fo) (i : Nat) (hi : i < l.length) : endOf l i = if (partsOf l[i].kind).2 ≠ 0 then (0, (partsOf l[i].kind).2) else if 1 + (partsOf l[i].kind).1 - 1 = 0 then ((i : Int) + 1, 0) else scan (l.drop (i + 1)) (1 + (partsOf l[i].kind).1 - 1) ((i : Int) + 1) := by
  unfold endOf
  rw [Int.toNat_natCast, List.drop_eq_getElem_cons hi, scan_cons]
theorem endOf_none (l : List Fo) (i : Nat) (hi : l.length ≤ i) : endOf l i = (0, 4) := by
  unfold endOf
  rw [Int.toNat_natCast, List.drop_eq_nil_of_le hi]; rfl
theorem endOf_bound (l : List Fo) (i : Nat) (h : (endOf l i).2 = 0) : (i : Int) < (endOf l i).1 ∧ (endOf l i).1 ≤ l.length := by
  have := scan_bound (l.drop i) 1 i (by simpa [endOf] using h)
  simp only [endOf, Int.toNat_natCast]
  rw [List.length_drop] at this
  by_cases hi : i ≤ l.length
  · omega
  · rw [endOf_none l i (by omega)] at h; simp at h
/-- A scan for m parts from a place on. -/
theorem scan_next (l : List Fo) (i : Nat) (w : Int) (hw : 1 ≤ w) : scan (l.drop i) (w + 1) i = if (endOf l i).2 ≠ 0 then (0, (endOf l i).2) else scan (l.drop (endOf l i).1.toNat) w (endOf l i).1 := by
  have := scan_split _ (l.drop i) (Nat.le_refl _) w i hw
  rw [this]
  have he : endOf l i = scan (l.drop i) 1 i := by unfold endOf; rw [Int.toNat_natCast]
  rw [he]
  by_cases h : (scan (l.drop i) 1 i).2 ≠ 0
  · rw [if_pos h, if_pos h]
  · rw [if_neg h, if_neg h]
    have hb := scan_bound (l.drop i) 1 i (by simpa using h)
    have e : i + ((scan (l.drop i) 1 i).1 - i).toNat = (scan (l.drop i) 1 i).1.toNat := by omega
    rw [List.drop_drop, e]

theorem ints_flat (l : List Int) : l.map AV.int = ((l.map intC).flatten).map D.av := by
  induction l with
  | nil => rfl
  | cons x l ih => simp only [List.map_cons, List.flatten_cons, List.map_append, ← ih]; rfl
theorem bools_flat (l : List Bool) : l.map AV.bool = ((l.map boolC).flatten).map D.av := by
  induction l with
  | nil => rfl
  | cons x l ih => simp only [List.map_cons, List.flatten_cons, List.map_append, ← ih]; rfl
theorem ops_flat (l : List Fo) : (l.map fun o => [AV.int o.kind, AV.int o.val]).flatten = ((l.map Fo.cells).flatten).map D.av := by
  induction l with
  | nil => rfl
  | cons x l ih => simp only [List.map_cons, List.flatten_cons, List.map_append, ← ih]; rfl
theorem take_step {α : Type} {a b : List α} {i : Nat} (hi : i < a.length) (hi' : i < b.length) (h : a.take i = b.take i) (e : a[i] = b[i]) : a.take (i + 1) = b.take (i + 1) := by
  rw [List.take_succ_eq_append_getElem hi, List.take_succ_eq_append_getElem hi', h, e]
instance : DecidableEq Fo := fun a b => decidable_of_iff (a.kind = b.kind ∧ a.val = b.val) ⟨fun ⟨h1, h2⟩ => by cases a; cases b; simp_all, fun h => by rw [h]; exact ⟨rfl, rfl⟩⟩
theorem Fo.ext' {a b : Fo} (h1 : a.kind = b.kind) (h2 : a.val = b.val) : a = b := by cases a; cases b; simp_all
/-- P1.2 as the document's answer has it. -/
def endsOf (l : List Fo) : List Int × Int :=
  if 60 < l.length then ([], 1)
  else if (endOf l 0).2 ≠ 0 then ([], (endOf l 0).2)
  else if (endOf l 0).1 < l.length then ([], 3)
  else ((List.range l.length).map fun i : Nat => (endOf l i).1, 0)
end Go.Sp
