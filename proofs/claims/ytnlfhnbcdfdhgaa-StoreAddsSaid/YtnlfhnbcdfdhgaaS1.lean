/-
 PLAIN, NO PROGRAM: formulas, bits, lists.
-/
import Derived.Test.YtnlfhnbcdfdhgaaE2
namespace Go.Sp
open Go.Av
set_option linter.unusedVariables false
set_option linter.unusedSimpArgs false

structure Fo where
 kind : Int
 val : Int
def Fo.cells (o : Fo) : List D := [.i .i64 o.kind, .i .i64 o.val]
abbrev opsD (l : List Fo) : D := .l 2 16 (l.map Fo.cells)
def intC (n : Int) : List D := [.i .i64 n]
abbrev intsD (l : List Int) : D := .l 1 8 (l.map intC)
def boolC (b : Bool) : List D := [.b b]
abbrev boolsD (l : List Bool) : D := .l 1 1 (l.map boolC)

/-- P1.1 as the document's answer has it. -/
def partsOf (k : Int) : Int × Int :=
 if k = 1 ∨ k = 2 ∨ k = 11 ∨ k = 12 ∨ k = 13 then (0, 0)
 else if k = 10 ∨ k = 14 ∨ k = 17 ∨ k = 18 then (1, 0)
 else if k = 3 ∨ k = 4 ∨ k = 5 ∨ k = 6 ∨ k = 7 ∨ k = 8 ∨ k = 9 ∨ k = 15 ∨ k = 16 then (2, 0)
 else (0, 13)

def scan : List Fo → Int → Int → Int × Int
 | [], _, _ => (0, 4)
 | o :: r, w, i => if (partsOf o.kind).2 ≠ 0 then (0, (partsOf o.kind).2) else if w + (partsOf o.kind).1 - 1 = 0 then (i + 1, 0) else scan r (w + (partsOf o.kind).1 - 1) (i + 1)
def endOf (l : List Fo) (at_ : Int) : Int × Int := scan (l.drop at_.toNat) 1 at_
theorem partsOf_no (k : Int) (h : k < 1 ∨ 18 < k) : partsOf k = (0, 13) := by
 unfold partsOf
 rw [if_neg (by omega), if_neg (by omega), if_neg (by omega)]
theorem partsOf_le (k : Int) : 0 ≤ (partsOf k).1 ∧ (partsOf k).1 ≤ 2 := by unfold partsOf; split <;> (try split) <;> (try split) <;> simp
end Go.Sp
namespace Go.Sp
open Go.Av
set_option linter.unusedVariables false
set_option linter.unusedSimpArgs false

theorem scan_cons (o : Fo) (r : List Fo) (w i : Int) : scan (o :: r) w i = if (partsOf o.kind).2 ≠ 0 then (0, (partsOf o.kind).2) else if w + (partsOf o.kind).1 - 1 = 0 then (i + 1, 0) else scan r (w + (partsOf o.kind).1 - 1) (i + 1) := rfl

theorem scan_bound : ∀ (r : List Fo) (w i : Int), (scan r w i).2 = 0 → i < (scan r w i).1 ∧ (scan r w i).1 ≤ i + r.length
 | [], w, i, h => by simp [scan] at h
 | o :: r, w, i, h => by
   rw [scan_cons] at h ⊢
   split
   · rename_i h1; rw [if_pos h1] at h; exact absurd h h1
   · rename_i h1
     rw [if_neg h1] at h
     split
     · simp; omega
     · rename_i h2
       rw [if_neg h2] at h
       have := scan_bound r _ _ h
       simp only [List.length_cons]
       omega

theorem scan_err (r : List Fo) (w i : Int) (h : (scan r w i).2 ≠ 0) : (scan r w i).1 = 0 := by
 induction r generalizing w i with
 | nil => rfl
 | cons o r ih =>
   rw [scan_cons] at h ⊢
   split
   · rfl
   · rename_i h1
     rw [if_neg h1] at h
     split
     · rename_i h2; rw [if_pos h2] at h; exact absurd rfl h
     · rename_i h2; rw [if_neg h2] at h; exact ih _ _ h

/-- A scan for more: first for one, then for what remains. -/
theorem scan_split : ∀ (m : Nat) (r : List Fo), r.length ≤ m → ∀ (w i : Int), 1 ≤ w →
 scan r (w + 1) i = if (scan r 1 i).2 ≠ 0 then (0, (scan r 1 i).2) else scan (r.drop ((scan r 1 i).1 - i).toNat) w (scan r 1 i).1
 | _, [], _, w, i, _ => by simp [scan]
 | 0, _ :: _, hm, _, _, _ => by simp at hm
 | m + 1, o :: r, hm, w, i, hw => by
   have hm' : r.length ≤ m := by simp at hm; omega
   rw [scan_cons o r (w + 1) i]
   have hp := partsOf_le o.kind
   by_cases h1 : (partsOf o.kind).2 ≠ 0
   · have hs : scan (o :: r) 1 i = (0, (partsOf o.kind).2) := by rw [scan_cons, if_pos h1]
     rw [if_pos h1, hs, if_pos h1]
   · rw [if_neg h1]
     have h2 : ¬ (w + 1 + (partsOf o.kind).1 - 1 = 0) := by omega
     rw [if_neg h2]
     have hdrop : ∀ (e : Int), i < e → (o :: r).drop (e - i).toNat = r.drop (e - (i + 1)).toNat := fun e he => by
      have : (e - i).toNat = (e - (i + 1)).toNat + 1 := by omega
      rw [this, List.drop_succ_cons]
     have hc : (partsOf o.kind).1 = 0 ∨ (partsOf o.kind).1 = 1 ∨ (partsOf o.kind).1 = 2 := by omega
     rcases hc with hc | hc | hc
     · have hs : scan (o :: r) 1 i = (i + 1, 0) := by rw [scan_cons, if_neg h1, hc]; rfl
       have e1 : (w : Int) + 1 + (partsOf o.kind).1 - 1 = w := by omega
       have : (i + 1 - (i + 1)).toNat = 0 := by omega
       rw [hs, if_neg (by simp), hdrop _ (by dsimp only; omega), this, List.drop_zero, e1]
     · have hs : scan (o :: r) 1 i = scan r 1 (i + 1) := by rw [scan_cons, if_neg h1, hc]; rfl
       have e1 : (w : Int) + 1 + (partsOf o.kind).1 - 1 = w + 1 := by omega
       rw [hs, e1, scan_split m r hm' w (i + 1) hw]
       by_cases h3 : (scan r 1 (i + 1)).2 ≠ 0
       · rw [if_pos h3, if_pos h3]
       · rw [if_neg h3, if_neg h3]
         have hb := scan_bound r 1 (i + 1) (by simpa using h3)
         rw [hdrop _ (by omega)]
     · have hs : scan (o :: r) 1 i = scan r (1 + 1) (i + 1) := by rw [scan_cons, if_neg h1, hc]; rfl
       have e1 : (w : Int) + 1 + (partsOf o.kind).1 - 1 = (w + 1) + 1 := by omega
       rw [hs, e1, scan_split m r hm' (w + 1) (i + 1) (by omega), scan_split m r hm' 1 (i + 1) (by omega)]
       by_cases h3 : (scan r 1 (i + 1)).2 ≠ 0
       · rw [if_pos h3, if_pos h3, if_pos h3]
       · rw [if_neg h3, if_neg h3]
         have hb := scan_bound r 1 (i + 1) (by simpa using h3)
         have hl : (r.drop ((scan r 1 (i + 1)).1 - (i + 1)).toNat).length ≤ m := by rw [List.length_drop]; omega
         rw [scan_split m _ hl w _ hw]
         generalize hs : scan (r.drop ((scan r 1 (i + 1)).1 - (i + 1)).toNat) 1 (scan r 1 (i + 1)).1 = s
         by_cases h4 : s.2 ≠ 0
         · rw [if_pos h4, if_pos h4]
         · rw [if_neg h4, if_neg h4]
           have hb2 := scan_bound (r.drop ((scan r 1 (i + 1)).1 - (i + 1)).toNat) 1 (scan r 1 (i + 1)).1 (by rw [hs]; simpa using h4)
           rw [hs] at hb2
           rw [hdrop _ (by omega), List.drop_drop]
           congr 2; omega

theorem endOf_at (l : List Fo) (i : Nat) (hi : i < l.length) : endOf l i = if (partsOf l[i].kind).2 ≠ 0 then (0, (partsOf l[i].kind).2) else if 1 + (partsOf l[i].kind).1 - 1 = 0 then ((i : Int) + 1, 0) else scan (l.drop (i + 1)) (1 + (partsOf l[i].kind).1 - 1) ((i : Int) + 1) := by
 unfold endOf
 rw [Int.toNat_natCast, List.drop_eq_getElem_cons hi, scan_cons]
theorem endOf_none (l : List Fo) (i : Nat) (hi : l.length ≤ i) : endOf l i = (0, 4) := by
 unfold endOf
 rw [Int.toNat_natCast, List.drop_eq_nil_of_le hi]; rfl
theorem endOf_bound (l : List Fo) (i : Nat) (h : (endOf l i).2 = 0) : (i : Int) < (endOf l i).1 ∧ (endOf l i).1 ≤ l.length := by
 have := scan_bound (l.drop i) 1 i (by simpa [endOf] using h)
 simp only [endOf, Int.toNat_natCast]
 rw [List.length_drop] at this
 by_cases hi : i ≤ l.length
 · omega
 · rw [endOf_none l i (by omega)] at h; simp at h
/-- A scan for m parts from a place on. -/
theorem scan_next (l : List Fo) (i : Nat) (w : Int) (hw : 1 ≤ w) : scan (l.drop i) (w + 1) i = if (endOf l i).2 ≠ 0 then (0, (endOf l i).2) else scan (l.drop (endOf l i).1.toNat) w (endOf l i).1 := by
 have := scan_split _ (l.drop i) (Nat.le_refl _) w i hw
 rw [this]
 have he : endOf l i = scan (l.drop i) 1 i := by unfold endOf; rw [Int.toNat_natCast]
 rw [he]
 by_cases h : (scan (l.drop i) 1 i).2 ≠ 0
 · rw [if_pos h, if_pos h]
 · rw [if_neg h, if_neg h]
   have hb := scan_bound (l.drop i) 1 i (by simpa using h)
   have e : i + ((scan (l.drop i) 1 i).1 - i).toNat = (scan (l.drop i) 1 i).1.toNat := by omega
   rw [List.drop_drop, e]

theorem ints_flat (l : List Int) : l.map AV.int = ((l.map intC).flatten).map D.av := by
 induction l with
 | nil => rfl
 | cons x l ih => simp only [List.map_cons, List.flatten_cons, List.map_append, ← ih]; rfl
theorem bools_flat (l : List Bool) : l.map AV.bool = ((l.map boolC).flatten).map D.av := by
 induction l with
 | nil => rfl
 | cons x l ih => simp only [List.map_cons, List.flatten_cons, List.map_append, ← ih]; rfl
theorem ops_flat (l : List Fo) : (l.map fun o => [AV.int o.kind, AV.int o.val]).flatten = ((l.map Fo.cells).flatten).map D.av := by
 induction l with
 | nil => rfl
 | cons x l ih => simp only [List.map_cons, List.flatten_cons, List.map_append, ← ih]; rfl
theorem take_step {α : Type} {a b : List α} {i : Nat} (hi : i < a.length) (hi' : i < b.length) (h : a.take i = b.take i) (e : a[i] = b[i]) : a.take (i + 1) = b.take (i + 1) := by
 rw [List.take_succ_eq_append_getElem hi, List.take_succ_eq_append_getElem hi', h, e]
instance : DecidableEq Fo := fun a b => decidable_of_iff (a.kind = b.kind ∧ a.val = b.val) ⟨fun ⟨h1, h2⟩ => by cases a; cases b; simp_all, fun h => by rw [h]; exact ⟨rfl, rfl⟩⟩
theorem Fo.ext' {a b : Fo} (h1 : a.kind = b.kind) (h2 : a.val = b.val) : a = b := by cases a; cases b; simp_all
/-- P1.2 as the document's answer has it. -/
def endsOf (l : List Fo) : List Int × Int :=
 if 60 < l.length then ([], 1)
 else if (endOf l 0).2 ≠ 0 then ([], (endOf l 0).2)
 else if (endOf l 0).1 < l.length then ([], 3)
 else ((List.range l.length).map fun i : Nat => (endOf l i).1, 0)
end Go.Sp
namespace Go.Sp
open Go.Av
set_option linter.unusedVariables false
set_option linter.unusedSimpArgs false

def termC (t : List Fo) : List D := [opsD t]
abbrev termsD (l : List (List Fo)) : D := .l 1 24 (l.map termC)

theorem endsOf_ok {l : List Fo} {es : List Int} (h : endsOf l = (es, 0)) : l.length ≤ 60 ∧ 0 < l.length ∧ endOf l 0 = ((l.length : Int), 0) ∧ es.length = l.length ∧ ∀ (j : Nat) (hj : j < es.length), es[j] = (endOf l j).1 := by
 unfold endsOf at h
 by_cases h1 : 60 < l.length
 · rw [if_pos h1] at h; simp at h
 rw [if_neg h1] at h
 by_cases h2 : (endOf l 0).2 ≠ 0
 · rw [if_pos h2] at h; simp at h; exact absurd h.2 h2
 rw [if_neg h2] at h
 by_cases h3 : (endOf l 0).1 < l.length
 · rw [if_pos h3] at h; simp at h
 rw [if_neg h3] at h
 have hb := endOf_bound l 0 (by simpa using h2)
 simp only [Prod.mk.injEq, and_true] at h
 subst h
 have e0 : ((0 : Nat) : Int) = 0 := rfl
 rw [e0] at hb
 refine ⟨by omega, by omega, Prod.ext ?_ ?_, by simp, fun j hj => by simp⟩
 · dsimp only; omega
 · simpa using h2
theorem endsOf_err {l : List Fo} {es : List Int} {e : Int} (h : endsOf l = (es, e)) (he : e ≠ 0) : es = [] := by
 unfold endsOf at h
 split at h
 · simp at h; exact h.1
 split at h
 · simp at h; exact h.1
 split at h
 · simp at h; exact h.1
 · simp at h; exact absurd h.2.symm he

/-- From a place on: so many parts. -/
def chunks (l : List Fo) : Nat → Nat → List (List Fo)
 | 0, _ => []
 | k + 1, i => (l.drop i).take ((endOf l i).1.toNat - i) :: chunks l k (endOf l i).1.toNat
def splitOf (l : List Fo) : List (List Fo) × Int :=
 if (endsOf l).2 ≠ 0 then ([], (endsOf l).2) else (chunks l (partsOf ((l[0]?.map Fo.kind).getD 0)).1.toNat 1, 0)

theorem chunks_snoc (l : List Fo) : ∀ (k i : Nat), chunks l (k + 1) i = (l.drop i).take ((endOf l i).1.toNat - i) :: chunks l k (endOf l i).1.toNat := fun _ _ => rfl

/-- Where k parts are read to the end n: the first is well, and k - 1 parts are read behind it. -/
theorem scan_parts {l : List Fo} {i k : Nat} {n : Int} (hk : 1 ≤ k) (h : scan (l.drop i) k i = (n, 0)) : (endOf l i).2 = 0 ∧ (i : Int) < (endOf l i).1 ∧ (endOf l i).1 ≤ l.length ∧ (k = 1 → (endOf l i).1 = n) ∧ (2 ≤ k → scan (l.drop (endOf l i).1.toNat) ((k - 1 : Nat) : Int) ((endOf l i).1.toNat : Nat) = (n, 0)) := by
 have key : (endOf l i).2 = 0 ∧ (k = 1 → (endOf l i).1 = n) ∧ (2 ≤ k → scan (l.drop (endOf l i).1.toNat) ((k - 1 : Nat) : Int) (endOf l i).1 = (n, 0)) := by
  by_cases h1 : k = 1
  · subst h1
    have e : endOf l i = scan (l.drop i) 1 i := by unfold endOf; rw [Int.toNat_natCast]
    have h' : endOf l i = (n, 0) := by rw [e]; exact h
    exact ⟨by rw [h'], fun _ => by rw [h'], fun h2 => by omega⟩
  · have e : (k : Int) = ((k - 1 : Nat) : Int) + 1 := by omega
    rw [e, scan_next l i _ (by omega)] at h
    by_cases h2 : (endOf l i).2 ≠ 0
    · rw [if_pos h2] at h; simp at h; exact absurd h.2 h2
    · rw [if_neg h2] at h
      exact ⟨by simpa using h2, fun h3 => absurd h3 h1, fun _ => h⟩
 have hb := endOf_bound l i key.1
 refine ⟨key.1, hb.1, hb.2, key.2.1, fun h2 => ?_⟩
 have := key.2.2 h2
 rwa [Int.toNat_of_nonneg (by omega)]

/-- What the first op's parts read. -/
theorem first_parts {l : List Fo} (h0 : 0 < l.length) (h : endOf l 0 = ((l.length : Int), 0)) : (partsOf l[0].kind).2 = 0 ∧ ((partsOf l[0].kind).1.toNat = 0 → l.length = 1) ∧ (1 ≤ (partsOf l[0].kind).1.toNat → scan (l.drop 1) ((partsOf l[0].kind).1.toNat : Nat) ((1 : Nat) : Int) = ((l.length : Int), 0)) := by
 have h' := endOf_at l 0 h0
 have e0 : ((0 : Nat) : Int) = 0 := rfl
 rw [e0, h] at h'
 have hp := partsOf_le l[0].kind
 by_cases h1 : (partsOf l[0].kind).2 ≠ 0
 · rw [if_pos h1] at h'; simp at h'; exact absurd h'.2.symm h1
 rw [if_neg h1] at h'
 refine ⟨by simpa using h1, fun h2 => ?_, fun h2 => ?_⟩
 · rw [if_pos (by omega)] at h'; simp at h'; omega
 · rw [if_neg (by omega)] at h'
   have e : (1 : Int) + (partsOf l[0].kind).1 - (1 : Int) = (((partsOf l[0].kind).1.toNat : Nat) : Int) := by omega
   rw [e] at h'
   exact h'.symm
theorem cut_snoc {α : Type} (l : List α) (m i : Nat) (h1 : m ≤ i) (h2 : i < l.length) : (l.drop m).take (i + 1 - m) = (l.drop m).take (i - m) ++ [l[i]] := by
 have e : i + 1 - m = (i - m) + 1 := by omega
 have hl : i - m < (l.drop m).length := by rw [List.length_drop]; omega
 rw [e, List.take_succ_eq_append_getElem hl, List.getElem_drop]
 congr 3
 omega
/-- How the parts are found one by one: j of them are found, the next begins at i. -/
structure Parted (l : List Fo) (n j i : Nat) (out : List (List Fo)) : Prop where
 le : j ≤ n
 one : 1 ≤ i
 len : i ≤ l.length
 all : chunks l n 1 = out ++ chunks l (n - j) i
 more : j < n → scan (l.drop i) ((n - j : Nat) : Int) i = ((l.length : Int), 0)
 fin : j = n → i = l.length
 few : out.length ≤ i
theorem Parted.start {l : List Fo} (h0 : 0 < l.length) (h : endOf l 0 = ((l.length : Int), 0)) : Parted l (partsOf l[0].kind).1.toNat 0 1 [] := by
 obtain ⟨h1, h2, h3⟩ := first_parts h0 h
 exact ⟨Nat.zero_le _, Nat.le_refl _, h0, rfl, fun h => h3 h, fun h => (h2 h.symm).symm, Nat.zero_le _⟩
theorem Parted.next {l : List Fo} {n j i : Nat} {out : List (List Fo)} (p : Parted l n j i out) (hj : j < n) : (endOf l i).2 = 0 ∧ (i : Int) < (endOf l i).1 ∧ (endOf l i).1 ≤ l.length ∧ Parted l n (j + 1) (endOf l i).1.toNat (out ++ [(l.drop i).take ((endOf l i).1.toNat - i)]) := by
 obtain ⟨k1, k2, k3, k4, k5⟩ := scan_parts (by omega) (p.more hj)
 refine ⟨k1, k2, k3, by omega, by omega, by omega, ?_, fun h => ?_, fun h => ?_, ?_⟩
 · have e : n - j = (n - (j + 1)) + 1 := by omega
   rw [p.all, e, chunks_snoc, List.append_assoc]; rfl
 · have := k5 (by omega)
   rwa [show n - j - 1 = n - (j + 1) by omega] at this
 · have := k4 (by omega)
   omega
 · have := p.few
   simp only [List.length_append, List.length_cons, List.length_nil]
   omega
theorem Parted.lt {l : List Fo} {n j i : Nat} {out : List (List Fo)} (p : Parted l n j i out) : j < n ↔ i < l.length := by
 constructor
 · intro h
   have := p.next h
   omega
 · intro h
   have := p.le
   have := p.fin
   omega
theorem Parted.done {l : List Fo} {n j i : Nat} {out : List (List Fo)} (p : Parted l n j i out) (h : j = n) : chunks l n 1 = out := by
 have := p.all
 rw [h, Nat.sub_self] at this
 simpa [chunks] using this
end Go.Sp
