/-
  PLAIN, NO PROGRAM: how deep ops stand in one another: by counting at each place, and by the parts.
-/
import Derived.Test.YtmamiihpghnmmaaDoorS1
namespace Go.Sp
open Go.Av
set_option linter.unusedVariables false
set_option linter.unusedSimpArgs false

def cntr (p : Nat → Bool) : Nat → Nat
  | 0 => 0
  | n + 1 => cntr p n + if p n then 1 else 0
def mxr (f : Nat → Nat) : Nat → Nat
  | 0 => 0
  | n + 1 => max (mxr f n) (f n)
theorem cntr_congr {p q : Nat → Bool} : ∀ n, (∀ k, k < n → p k = q k) → cntr p n = cntr q n
  | 0, _ => rfl
  | n + 1, h => by simp only [cntr, cntr_congr n fun k hk => h k (by omega), h n (by omega)]
theorem mxr_congr {p q : Nat → Nat} : ∀ n, (∀ k, k < n → p k = q k) → mxr p n = mxr q n
  | 0, _ => rfl
  | n + 1, h => by simp only [mxr, mxr_congr n fun k hk => h k (by omega), h n (by omega)]
theorem cntr_add (p : Nat → Bool) (i : Nat) : ∀ m, cntr p (i + m) = cntr p i + cntr (fun k => p (i + k)) m
  | 0 => by simp [cntr]
  | m + 1 => by rw [← Nat.add_assoc]; simp only [cntr, cntr_add p i m]; omega
theorem mxr_add (p : Nat → Nat) (i : Nat) : ∀ m, mxr p (i + m) = max (mxr p i) (mxr (fun k => p (i + k)) m)
  | 0 => by simp [mxr]
  | m + 1 => by rw [← Nat.add_assoc]; simp only [mxr, mxr_add p i m]; omega
theorem mxr_succ (p : Nat → Nat) : ∀ m, mxr (fun k => 1 + p k) (m + 1) = 1 + mxr p (m + 1)
  | 0 => by simp [mxr]
  | m + 1 => by have := mxr_succ p m; simp only [mxr] at this ⊢; omega
theorem cntr_one {p : Nat → Bool} (h0 : p 0 = true) : ∀ i, 1 ≤ i → (∀ k, 1 ≤ k → k < i → p k = false) → cntr p i = 1
  | 0, h, _ => absurd h (by decide)
  | 1, _, _ => by simp [cntr, h0]
  | i + 2, _, h => by
    have := cntr_one h0 (i + 1) (by omega) fun k h1 h2 => h k h1 (by omega)
    rw [cntr, this, h (i + 1) (by omega) (by omega)]; rfl

/-- How many of the places up to this one end behind it. -/
def count (l : List Fo) (i : Nat) : Nat := cntr (fun k => decide ((i : Int) < (endOf l k).1)) (i + 1)
def deep (l : List Fo) : Nat := mxr (count l) l.length
def depthOf (l : List Fo) : Int × Int := if (endsOf l).2 ≠ 0 then (0, (endsOf l).2) else ((deep l : Nat), 0)

/-- A scan that ends within a part sees only the part. -/
theorem scan_take : ∀ (r : List Fo) (m : Nat) (w i e d : Int), scan r w (i + d) = (e + d, 0) → e ≤ i + m → scan (r.take m) w i = (e, 0)
  | [], m, w, i, e, d, h, _ => by simp [scan] at h
  | o :: r, m, w, i, e, d, h, hm => by
    have hb := scan_bound (o :: r) w (i + d) (by rw [h])
    rw [h] at hb
    obtain ⟨m, rfl⟩ : ∃ m', m = m' + 1 := ⟨m - 1, by dsimp only at hb; omega⟩
    rw [List.take_succ_cons, scan_cons]
    rw [scan_cons] at h
    by_cases h1 : (partsOf o.kind).2 ≠ 0
    · rw [if_pos h1] at h; simp at h; exact absurd h.2 h1
    rw [if_neg h1] at h ⊢
    by_cases h2 : w + (partsOf o.kind).1 - 1 = 0
    · rw [if_pos h2] at h ⊢
      simp only [Prod.mk.injEq, and_true] at h ⊢
      omega
    · rw [if_neg h2] at h ⊢
      refine scan_take r m _ (i + 1) e d ?_ (by omega)
      rw [← h]; congr 1; omega

theorem scan_first {l : List Fo} {i : Nat} {w : Int} {e : Int} (hw : 1 ≤ w) (h : scan (l.drop i) w i = (e, 0)) : (endOf l i).2 = 0 ∧ (endOf l i).1 ≤ e := by
  by_cases h1 : w = 1
  · subst h1
    have he : endOf l i = scan (l.drop i) 1 i := by unfold endOf; rw [Int.toNat_natCast]
    rw [he, h]; exact ⟨rfl, Int.le_refl _⟩
  · have hw' : w = (w - 1) + 1 := by omega
    rw [hw', scan_next l i (w - 1) (by omega)] at h
    by_cases h2 : (endOf l i).2 ≠ 0
    · rw [if_pos h2] at h; simp at h; exact absurd h.2 h2
    rw [if_neg h2] at h
    have hb := endOf_bound l i (by simpa using h2)
    have := scan_bound (l.drop (endOf l i).1.toNat) (w - 1) (endOf l i).1 (by rw [h])
    rw [h] at this
    exact ⟨by simpa using h2, by dsimp only at this; omega⟩

/-- What begins within a part ends within it. -/
theorem scan_nest (l : List Fo) : ∀ (m i : Nat) (w : Int) (e : Int), l.length ≤ i + m → 1 ≤ w → scan (l.drop i) w i = (e, 0) → ∀ k : Nat, i ≤ k → (k : Int) < e → (endOf l k).2 = 0 ∧ (endOf l k).1 ≤ e
  | 0, i, w, e, hm, hw, h, k, h1, h2 => by
    rw [List.drop_eq_nil_of_le (by omega)] at h; simp [scan] at h
  | m + 1, i, w, e, hm, hw, h, k, h1, h2 => by
    by_cases hk : k = i
    · subst hk; exact scan_first hw h
    by_cases hi : i < l.length
    · rw [List.drop_eq_getElem_cons hi, scan_cons] at h
      have hp := partsOf_le l[i].kind
      by_cases h3 : (partsOf l[i].kind).2 ≠ 0
      · rw [if_pos h3] at h; simp at h; exact absurd h.2 h3
      rw [if_neg h3] at h
      by_cases h4 : w + (partsOf l[i].kind).1 - 1 = 0
      · rw [if_pos h4] at h; simp at h; omega
      · rw [if_neg h4] at h
        exact scan_nest l m (i + 1) _ e (by omega) (by omega) h k (by omega) h2
    · rw [List.drop_eq_nil_of_le (by omega)] at h; simp [scan] at h

/-- A part by itself. -/
theorem part_at {l : List Fo} {i : Nat} (h : (endOf l i).2 = 0) (k : Nat) (hk : (i : Int) + k < (endOf l i).1) :
    endOf ((l.drop i).take ((endOf l i).1.toNat - i)) k = ((endOf l (i + k : Nat)).1 - i, 0) := by
  have hb := endOf_bound l i h
  have hs : scan (l.drop i) 1 i = ((endOf l i).1, 0) := by
    have he : endOf l i = scan (l.drop i) 1 i := by unfold endOf; rw [Int.toNat_natCast]
    rw [← he]; exact Prod.ext rfl h
  obtain ⟨n1, n2⟩ := scan_nest l l.length i 1 _ (by omega) (by omega) hs (i + k) (by omega) (by omega)
  have he : endOf l (i + k : Nat) = scan (l.drop (i + k)) 1 ((i + k : Nat) : Int) := by unfold endOf; rw [Int.toNat_natCast]
  have e1 : endOf ((l.drop i).take ((endOf l i).1.toNat - i)) k = scan (((l.drop i).take ((endOf l i).1.toNat - i)).drop k) 1 k := by unfold endOf; rw [Int.toNat_natCast]
  rw [e1, List.drop_take, List.drop_drop]
  refine scan_take _ _ _ _ _ (i : Int) ?_ ?_
  · have : (k : Int) + i = ((i + k : Nat) : Int) := by omega
    rw [this, ← he]
    exact Prod.ext (by dsimp only; omega) n1
  · omega

theorem part_length {l : List Fo} {i : Nat} (h : (endOf l i).2 = 0) : (((l.drop i).take ((endOf l i).1.toNat - i)).length : Int) = (endOf l i).1 - i := by
  have hb := endOf_bound l i h
  rw [List.length_take, List.length_drop]; omega

theorem endsOf_of {l : List Fo} (h60 : l.length ≤ 60) (h : endOf l 0 = ((l.length : Int), 0)) : (endsOf l).2 = 0 := by
  unfold endsOf
  rw [if_neg (by omega), h, if_neg (by simp), if_neg (by simp)]

/-- The depths of the parts found so far. -/
def most (out : List (List Fo)) : Nat := out.foldl (fun m t => max m (deep t)) 0
theorem most_snoc (out : List (List Fo)) (t : List Fo) : most (out ++ [t]) = max (most out) (deep t) := by simp [most]

structure Deeper (l : List Fo) (i : Nat) (out : List (List Fo)) : Prop where
  mx : mxr (count l) i = 1 + most out
  closed : ∀ k : Nat, 1 ≤ k → k < i → (endOf l k).1 ≤ i
  well : ∀ t ∈ out, (endsOf t).2 = 0 ∧ t.length < l.length
theorem count_zero {l : List Fo} (h0 : 0 < l.length) (h : endOf l 0 = ((l.length : Int), 0)) : count l 0 = 1 := by
  have e0 : ((0 : Nat) : Int) = 0 := rfl
  unfold count
  simp only [cntr, e0, h]
  rw [if_pos (by simpa using h0)]
theorem Deeper.start {l : List Fo} (h0 : 0 < l.length) (h : endOf l 0 = ((l.length : Int), 0)) : Deeper l 1 [] :=
  ⟨by simp [mxr, count_zero h0 h, most], fun k h1 h2 => by omega, by simp⟩
theorem Deeper.next {l : List Fo} {i : Nat} {out : List (List Fo)} (d : Deeper l i out) (h60 : l.length ≤ 60) (h0 : endOf l 0 = ((l.length : Int), 0)) (hi : 1 ≤ i) (he : (endOf l i).2 = 0) : Deeper l (endOf l i).1.toNat (out ++ [(l.drop i).take ((endOf l i).1.toNat - i)]) := by
  have hb := endOf_bound l i he
  have hlen := part_length he
  have hs : scan (l.drop i) 1 i = ((endOf l i).1, 0) := by
    have he' : endOf l i = scan (l.drop i) 1 i := by unfold endOf; rw [Int.toNat_natCast]
    rw [← he']; exact Prod.ext rfl he
  have nest := scan_nest l l.length i 1 _ (by omega) (by omega) hs
  have hpart := fun k hk => part_at he k hk
  generalize hc : (l.drop i).take ((endOf l i).1.toNat - i) = c at hlen hpart ⊢
  have hcl : c.length = (endOf l i).1.toNat - i := by omega
  have key : ∀ k, k < c.length → count l (i + k) = 1 + count c k := by
    intro k hk
    unfold count
    rw [Nat.add_assoc, cntr_add]
    congr 1
    · refine cntr_one ?_ i hi ?_
      · have e0 : ((0 : Nat) : Int) = 0 := rfl
        rw [e0, h0]; simp; omega
      · intro q q1 q2
        have := d.closed q q1 q2
        simp; omega
    · refine cntr_congr _ fun q hq => ?_
      rw [hpart q (by omega)]
      by_cases hx : ((i + k : Nat) : Int) < (endOf l (i + q : Nat)).1
      · rw [decide_eq_true hx, decide_eq_true]; dsimp only; omega
      · rw [decide_eq_false hx, decide_eq_false]; dsimp only; omega
  refine ⟨?_, ?_, ?_⟩
  · have e : (endOf l i).1.toNat = i + c.length := by omega
    rw [e, mxr_add, d.mx, most_snoc, mxr_congr c.length key]
    obtain ⟨m, hm⟩ : ∃ m, c.length = m + 1 := ⟨c.length - 1, by omega⟩
    have : mxr (fun k => 1 + count c k) c.length = 1 + deep c := by unfold deep; rw [hm, mxr_succ]
    rw [this]; omega
  · intro k k1 k2
    by_cases hk : k < i
    · have := d.closed k k1 hk; omega
    · have := (nest k (by omega) (by omega)).2; omega
  · intro t ht
    rcases List.mem_append.1 ht with ht | ht
    · exact d.well t ht
    · obtain rfl : t = c := by simpa using ht
      have := hpart 0 (by omega)
      have e0 : ((0 : Nat) : Int) = 0 := rfl
      rw [e0] at this
      refine ⟨endsOf_of (by omega) ?_, by omega⟩
      rw [this, hlen]; rfl
theorem chunks_deeper {l : List Fo} (h60 : l.length ≤ 60) (h0 : endOf l 0 = ((l.length : Int), 0)) {n : Nat} : ∀ (m j i : Nat) (out : List (List Fo)), n ≤ j + m → Parted l n j i out → Deeper l i out → Deeper l l.length (chunks l n 1)
  | 0, j, i, out, hm, p, d => by
    have := p.le
    have hj : j = n := by omega
    rw [p.done hj, ← p.fin hj]; exact d
  | m + 1, j, i, out, hm, p, d => by
    by_cases hj : j < n
    · obtain ⟨q1, q2, q3, q4⟩ := p.next hj
      exact chunks_deeper h60 h0 m (j + 1) _ _ (by omega) q4 (d.next h60 h0 p.one q1)
    · have := p.le
      have hj : j = n := by omega
      rw [p.done hj, ← p.fin hj]; exact d
/-- One more than the deepest part. -/
theorem deep_parts {l : List Fo} (h : (endsOf l).2 = 0) : deep l = 1 + most (splitOf l).1 ∧ ∀ t ∈ (splitOf l).1, (endsOf t).2 = 0 ∧ t.length < l.length := by
  obtain ⟨h60, h0, h1, _, _⟩ := endsOf_ok (l := l) (es := (endsOf l).1) (Prod.ext rfl h)
  have hs : (splitOf l).1 = chunks l (partsOf l[0].kind).1.toNat 1 := by rw [splitOf, if_neg (by simpa using h), List.getElem?_eq_getElem h0]; rfl
  have := chunks_deeper (n := (partsOf l[0].kind).1.toNat) h60 h1 _ 0 1 [] (Nat.le_of_eq (Nat.zero_add _).symm) (Parted.start h0 h1) (Deeper.start h0 h1)
  rw [hs]
  exact ⟨this.mx, this.well⟩
theorem cntr_le (p : Nat → Bool) : ∀ n, cntr p n ≤ n
  | 0 => Nat.le_refl _
  | n + 1 => by have := cntr_le p n; simp only [cntr]; split <;> omega
theorem mxr_le (f : Nat → Nat) (b : Nat) : ∀ n, (∀ k, k < n → f k ≤ b) → mxr f n ≤ b
  | 0, _ => Nat.zero_le _
  | n + 1, h => by have := mxr_le f b n fun k hk => h k (by omega); have := h n (by omega); simp only [mxr]; omega
theorem mxr_count_le (l : List Fo) (n : Nat) : mxr (count l) n ≤ n := mxr_le _ _ _ fun k hk => by have := cntr_le (fun q => decide ((k : Int) < (endOf l q).1)) (k + 1); unfold count; omega
theorem most_take (ps : List (List Fo)) (i : Nat) (h : i < ps.length) : most (ps.take (i + 1)) = max (most (ps.take i)) (deep ps[i]) := by
  rw [List.take_succ_eq_append_getElem h, most_snoc]
end Go.Sp
