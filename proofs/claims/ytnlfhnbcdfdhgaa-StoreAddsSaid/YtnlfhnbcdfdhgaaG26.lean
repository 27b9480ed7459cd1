/-
 PLAIN, NO PROGRAM: stores of keys, in runs that rise (over Q1, G1).
-/
import Derived.Test.YtnlfhnbcdfdhgaaQ1
import Derived.Test.YtnlfhnbcdfdhgaaG1
namespace Go.Sp
open Go Go.Av
set_option linter.unusedVariables false
set_option linter.unusedSimpArgs false

structure Sto where
 loose : List Int
 runs : List (List Int)
abbrev stA (s : Sto) : AV := .agg [.d (intsD s.loose), .d (listsD s.runs)]
/-- May it be a key? -/
def keyP (n : Int) : Prop := 0 ≤ n ∧ n ≤ 2147483647
instance (n : Int) : Decidable (keyP n) := by unfold keyP; infer_instance
def keysL (s : Sto) : List Int := s.runs.flatten ++ s.loose
/-- P12.1. -/
structure StoP (s : Sto) : Prop where
 loose : s.loose.length ≤ 7
 runs : ∀ r ∈ s.runs, r ≠ [] ∧ r.Pairwise (· < ·)
 few : s.loose.length + s.runs.flatten.length ≤ 20000
 range : ∀ k ∈ keysL s, keyP k
 nodup : (keysL s).Nodup
noncomputable def stoF (s : Sto) : Int := open Classical in if StoP s then 0 else 9
theorem stoF_ok {s : Sto} (h : StoP s) : stoF s = 0 := if_pos h
theorem stoF_no {s : Sto} (h : ¬ StoP s) : stoF s = 9 := if_neg h
theorem stoF_iff {s : Sto} : stoF s = 0 ↔ StoP s := by
 constructor
 · intro h
   by_cases c : StoP s
   · exact c
   · rw [stoF_no c] at h; cases h
 · exact stoF_ok
/-- P12.2. -/
noncomputable def hasF (s : Sto) (n : Int) : Bool × Int := if stoF s ≠ 0 then (false, stoF s) else if ¬ keyP n then (false, 2) else (decide (n ∈ keysL s), 0)
/-- P12.4. -/
noncomputable def allF (s : Sto) : List Int × Int := if stoF s ≠ 0 then ([], stoF s) else (sortI (keysL s), 0)
/-- A run becomes one with those behind which it is not shorter. -/
def packR (runs : List (List Int)) : Nat → List Int → List (List Int)
 | 0, last => [last]
 | k + 1, last => if ((runs[k]?).getD []).length ≤ last.length then packR runs k (sortI ((runs[k]?).getD [] ++ last)) else runs.take (k + 1) ++ [last]
/-- P12.3. -/
noncomputable def addF (s : Sto) (n : Int) : (Sto × Bool) × Int :=
 if (hasF s n).2 ≠ 0 then ((⟨[], []⟩, false), (hasF s n).2)
 else if (hasF s n).1 = true then ((s, false), 0)
 else if (keysL s).length = 20000 then ((⟨[], []⟩, false), 12)
 else if s.loose.length + 1 < 8 then ((⟨s.loose ++ [n], s.runs⟩, true), 0)
 else ((⟨[], packR s.runs s.runs.length (sortI (s.loose ++ [n]))⟩, true), 0)
/-! ### Sorted lists -/
theorem sortI_up (l : List Int) : (sortI l).Pairwise (· ≤ ·) := by
 have := List.pairwise_mergeSort (le := fun x y : Int => decide (x ≤ y)) (fun a b c h1 h2 => by simp only [decide_eq_true_eq] at *; omega) (fun a b => by simp only [Bool.or_eq_true, decide_eq_true_eq]; omega) l
 exact this.imp fun h => by simpa using h
theorem sortI_perm (l : List Int) : (sortI l).Perm l := List.mergeSort_perm l _
theorem sortI_len (l : List Int) : (sortI l).length = l.length := (sortI_perm l).length_eq
theorem sorted_eq {a b : List Int} (ha : a.Pairwise (· ≤ ·)) (hb : b.Pairwise (· ≤ ·)) (h : a.Perm b) : a = b :=
 List.Perm.eq_of_pairwise (le := (· ≤ ·)) (fun x y _ _ h1 h2 => by omega) ha hb h
theorem sortI_of {a l : List Int} (ha : a.Pairwise (· ≤ ·)) (h : a.Perm l) : a = sortI l := sorted_eq ha (sortI_up l) (h.trans (sortI_perm l).symm)
theorem sortI_congr {a b : List Int} (h : a.Perm b) : sortI a = sortI b := sortI_of (sortI_up a) ((sortI_perm a).trans h)
/-- One is put where it belongs. -/
structure InsI (l : List Int) (i : Nat) (x : Int) (A B : List Int) : Prop where
 sort : A ++ B = sortI (l.take i)
 high : ∀ b ∈ B, x ≤ b
theorem InsI.start (l : List Int) (i : Nat) (x : Int) : InsI l i x (sortI (l.take i)) [] := ⟨by simp, fun b hb => (by cases hb)⟩
theorem InsI.swap {l : List Int} {i : Nat} {x y : Int} {A B : List Int} (w : InsI l i x (A ++ [y]) B) (h : x < y) : InsI l i x A (y :: B) :=
 ⟨by rw [← w.sort]; simp, fun b hb => by
  rcases List.mem_cons.1 hb with rfl | hb
  · omega
  · exact w.high b hb⟩
theorem InsI.done {l : List Int} {i : Nat} (hi : i < l.length) {A B : List Int} (w : InsI l i l[i] A B) (h : ∀ y, A.getLast? = some y → y ≤ l[i]) : A ++ l[i] :: B = sortI (l.take (i + 1)) := by
 have hs : (A ++ B).Pairwise (· ≤ ·) := w.sort ▸ sortI_up _
 rw [List.pairwise_append] at hs
 refine sortI_of ?_ ?_
 · rw [List.pairwise_append, List.pairwise_cons]
   refine ⟨hs.1, ⟨w.high, hs.2.1⟩, fun a ha b hb => ?_⟩
   rcases List.mem_cons.1 hb with rfl | hb
   · obtain ⟨A', y, e⟩ := (List.eq_nil_or_concat A).resolve_left (fun e => by rw [e] at ha; cases ha)
     rw [List.concat_eq_append] at e
     subst e
     have hy := h y (by simp)
     rcases List.mem_append.1 ha with ha | ha
     · have := (List.pairwise_append.1 hs.1).2.2 a ha y (by simp)
       omega
     · rw [List.mem_singleton.1 ha]; exact hy
   · exact hs.2.2 a ha b hb
 · have hp : (A ++ B).Perm (l.take i) := w.sort ▸ sortI_perm _
   rw [List.take_succ_eq_append_getElem hi]
   have h1 : (A ++ l[i] :: B).Perm (l[i] :: (A ++ B)) := List.perm_middle
   refine h1.trans ((List.Perm.cons _ hp).trans ?_)
   exact (List.perm_append_singleton _ _).symm
theorem mid_get (A : List Int) (x : Int) (B : List Int) (h : A.length < (A ++ x :: B).length) : (A ++ x :: B)[A.length] = x := by simp
theorem mid_swap (A : List Int) (x y : Int) (B : List Int) : ((A ++ [y] ++ x :: B).set (A.length + 1) y).set A.length x = A ++ x :: y :: B := by
 rw [List.append_assoc, List.set_append_right _ _ (by omega), List.set_append_right _ _ (by omega)]
 simp
/-! ### No two the same -/
theorem up_nodup {up : List Int} (hs : up.Pairwise (· ≤ ·)) (h : ∀ (j : Nat) (hj : j + 1 < up.length), up[j] ≠ up[j + 1]) : up.Pairwise (· < ·) := by
 rw [List.pairwise_iff_getElem] at hs ⊢
 intro i j hi hj hij
 obtain ⟨k, rfl⟩ : ∃ k, j = k + 1 := ⟨j - 1, by omega⟩
 have h1 := hs k (k + 1) (by omega) hj (by omega)
 have h2 := h k hj
 by_cases e : i = k
 · subst e; omega
 · have := hs i k hi (by omega) (by omega); omega
theorem lt_nodup {up : List Int} (h : up.Pairwise (· < ·)) : up.Nodup := h.imp fun h => by omega
theorem not_nodup {up : List Int} {j : Nat} (hj : j + 1 < up.length) (h : up[j] = up[j + 1]) : ¬ up.Nodup := fun hn => by
 have := (List.getElem_inj hn).1 h; omega
theorem rise_of {r : List Int} (h : ∀ (j : Nat) (hj : j + 1 < r.length), r[j] < r[j + 1]) : r.Pairwise (· < ·) := by
 rw [List.pairwise_iff_getElem]
 intro i j hi hj hij
 induction j with
 | zero => omega
 | succ j ih =>
   have h1 := h j hj
   by_cases e : i = j
   · subst e; exact h1
   · have := ih (by omega) (by omega); omega
theorem rise_no {r : List Int} {j : Nat} (hj : j + 1 < r.length) (h : r[j + 1] ≤ r[j]) : ¬ r.Pairwise (· < ·) := fun hp => by
 have := (List.pairwise_iff_getElem.1 hp) j (j + 1) (by omega) hj (by omega); omega
/-- Runs that were looked at. -/
structure RunsI (s : Sto) (i : Nat) : Prop where
 le : i ≤ s.runs.length
 runs : ∀ r ∈ s.runs.take i, r ≠ [] ∧ r.Pairwise (· < ·)
 few : s.loose.length + (s.runs.take i).flatten.length ≤ 20000
theorem RunsI.start {s : Sto} (h : s.loose.length ≤ 7) : RunsI s 0 := ⟨Nat.zero_le _, fun r hr => (by cases hr), by simp; omega⟩
theorem flat_succ (ls : List (List Int)) (i : Nat) (h : i < ls.length) : (ls.take (i + 1)).flatten = (ls.take i).flatten ++ ls[i] := by
 rw [List.take_succ_eq_append_getElem h, List.flatten_append]; simp
theorem RunsI.next {s : Sto} {i : Nat} (w : RunsI s i) (hi : i < s.runs.length) (h1 : s.runs[i] ≠ []) (h2 : s.runs[i].Pairwise (· < ·)) (h3 : s.loose.length + (s.runs.take i).flatten.length + s.runs[i].length ≤ 20000) : RunsI s (i + 1) :=
 ⟨hi, fun r hr => by
  rw [List.take_succ_eq_append_getElem hi] at hr
  rcases List.mem_append.1 hr with hr | hr
  · exact w.runs r hr
  · rw [List.mem_singleton.1 hr]; exact ⟨h1, h2⟩, by rw [flat_succ _ _ hi, List.length_append]; omega⟩
theorem StoP.no_run {s : Sto} (p : StoP s) {i : Nat} (hi : i < s.runs.length) : s.runs[i] ≠ [] ∧ s.runs[i].Pairwise (· < ·) := p.runs _ (List.getElem_mem hi)
theorem flat_le (ls : List (List Int)) (i : Nat) : (ls.take i).flatten.length ≤ ls.flatten.length := by
 conv => rhs; rw [← List.take_append_drop i ls, List.flatten_append, List.length_append]
 omega
theorem StoP.no_few {s : Sto} (p : StoP s) {i : Nat} (hi : i < s.runs.length) : s.loose.length + (s.runs.take i).flatten.length + s.runs[i].length ≤ 20000 := by
 have h1 := flat_le s.runs (i + 1)
 rw [flat_succ _ _ hi, List.length_append] at h1
 have := p.few; omega
theorem StoP.of {s : Sto} (w : RunsI s s.runs.length) (h7 : s.loose.length ≤ 7) (hk : ∀ k ∈ keysL s, keyP k) (hn : (keysL s).Nodup) : StoP s := by
 have h1 := w.runs
 have h2 := w.few
 rw [List.take_length] at h1 h2
 exact ⟨h7, h1, h2, hk, hn⟩
theorem keys_perm (s : Sto) : (s.loose ++ s.runs.flatten).Perm (keysL s) := List.perm_append_comm
theorem keysL_len (s : Sto) : (keysL s).length = s.loose.length + s.runs.flatten.length := by unfold keysL; rw [List.length_append]; omega
/-! ### Merging -/
/-- On the way: out, and what is left of both. -/
structure MrgI (a b : List Int) (o x y : List Int) : Prop where
 perm : (o ++ (x ++ y)).Perm (a ++ b)
 sort : o.Pairwise (· ≤ ·)
 left : x.Pairwise (· ≤ ·)
 right : y.Pairwise (· ≤ ·)
 low : ∀ u ∈ o, ∀ v ∈ x ++ y, u ≤ v
theorem MrgI.start {a b : List Int} (ha : a.Pairwise (· ≤ ·)) (hb : b.Pairwise (· ≤ ·)) : MrgI a b [] a b := ⟨.refl _, .nil, ha, hb, fun u hu => (by cases hu)⟩
theorem MrgI.swap {a b o x y : List Int} (w : MrgI a b o x y) : MrgI a b o y x :=
 ⟨(List.Perm.append_left o List.perm_append_comm).trans w.perm, w.sort, w.right, w.left, fun u hu v hv => w.low u hu v (by simp at hv ⊢; exact hv.symm)⟩
theorem MrgI.step {a b o x y : List Int} {u v : Int} (w : MrgI a b o (u :: x) (v :: y)) (h : u ≤ v) : MrgI a b (o ++ [u]) x (v :: y) := by
 have hl := List.pairwise_cons.1 w.left
 have hr := List.pairwise_cons.1 w.right
 refine ⟨by have := w.perm; simpa using this, ?_, hl.2, w.right, fun p hp q hq => ?_⟩
 · rw [List.pairwise_append]
   exact ⟨w.sort, by simp, fun p hp q hq => by rw [List.mem_singleton.1 hq]; exact w.low p hp u (by simp)⟩
 · rcases List.mem_append.1 hp with hp | hp
   · exact w.low p hp q (by simp at hq ⊢; rcases hq with h | h | h <;> simp [h])
   · rw [List.mem_singleton.1 hp]
     rcases List.mem_append.1 hq with hq | hq
     · exact hl.1 q hq
     · rcases List.mem_cons.1 hq with rfl | hq
       · exact h
       · have := hr.1 q hq; omega
theorem MrgI.done {a b o x y : List Int} (w : MrgI a b o x y) (h : x = [] ∨ y = []) : o ++ x ++ y = sortI (a ++ b) := by
 refine sortI_of ?_ (by have := w.perm; rwa [← List.append_assoc] at this)
 have hxy : (x ++ y).Pairwise (· ≤ ·) := by rcases h with rfl | rfl <;> simp [w.left, w.right]
 rw [List.append_assoc, List.pairwise_append]
 exact ⟨w.sort, hxy, w.low⟩
theorem MrgI.len {a b o x y : List Int} (w : MrgI a b o x y) : o.length + (x.length + y.length) = a.length + b.length := by
 have := w.perm.length_eq; simp only [List.length_append] at this; omega
theorem lt_le {r : List Int} (h : r.Pairwise (· < ·)) : r.Pairwise (· ≤ ·) := h.imp fun h => by omega
end Go.Sp
