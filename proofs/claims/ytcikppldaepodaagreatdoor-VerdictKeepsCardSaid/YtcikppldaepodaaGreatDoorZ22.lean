/- A bundle of this claim's own texts: G14 N6 G1 G15 G16 G17 E8. -/
import Derived.Lib.SlicesCompact
import Derived.Laws.Cover3
import Derived.Test.YtcikppldaepodaaGreatDoorZ1
import Derived.Test.YtcikppldaepodaaGreatDoorZ5
import Derived.Test.YtcikppldaepodaaGreatDoorZ10
import Derived.Test.YtcikppldaepodaaGreatDoorZ19
import Derived.Test.YtcikppldaepodaaGreatDoorZ21
namespace Go.Sp
open Go Go.Av
set_option linter.unusedVariables false
set_option linter.unusedSimpArgs false

def upTo (n : Nat) (l : List Int) : List Int := ((List.range n).filter fun c : Nat => decide ((c : Int) ∈ l)).map Int.ofNat
theorem mem_upTo {n : Nat} {l : List Int} (h : ∀ x ∈ l, 0 ≤ x ∧ x < n) (x : Int) : x ∈ upTo n l ↔ x ∈ l := by
  unfold upTo
  simp only [List.mem_map, List.mem_filter, List.mem_range, decide_eq_true_eq]
  constructor
  · rintro ⟨c, ⟨_, hc⟩, rfl⟩; exact hc
  · intro hx
    obtain ⟨h0, h1⟩ := h x hx
    exact ⟨x.toNat, ⟨by omega, by rwa [Int.toNat_of_nonneg h0]⟩, Int.toNat_of_nonneg h0⟩
theorem upTo_up (n : Nat) (l : List Int) : (upTo n l).Pairwise (· < ·) := by
  unfold upTo
  rw [List.pairwise_map]
  exact (List.pairwise_lt_range.filter _).imp fun h => Int.ofNat_lt.2 h
theorem up_eq : ∀ {a b : List Int}, a.Pairwise (· < ·) → b.Pairwise (· < ·) → (∀ x, x ∈ a ↔ x ∈ b) → a = b
  | [], [], _, _, _ => rfl
  | [], y :: b, _, _, h => by cases (h y).2 List.mem_cons_self
  | x :: a, [], _, _, h => by cases (h x).1 List.mem_cons_self
  | x :: a, y :: b, ha, hb, h => by
    rw [List.pairwise_cons] at ha hb
    have e : x = y := by
      rcases List.mem_cons.1 ((h x).1 List.mem_cons_self) with e | e
      · exact e
      rcases List.mem_cons.1 ((h y).2 List.mem_cons_self) with e' | e'
      · exact e'.symm
      have h1 := ha.1 y e'
      have h2 := hb.1 x e
      omega
    subst e
    refine congrArg (x :: ·) (up_eq ha.2 hb.2 fun z => ?_)
    constructor
    · intro hz
      rcases List.mem_cons.1 ((h z).1 (List.mem_cons_of_mem _ hz)) with e | e
      · have := ha.1 z hz; omega
      · exact e
    · intro hz
      rcases List.mem_cons.1 ((h z).2 (List.mem_cons_of_mem _ hz)) with e | e
      · have := hb.1 z hz; omega
      · exact e
theorem compact_up (zs : List Int) (hs : zs.Pairwise (· ≤ ·)) : ∀ m, m ≤ zs.length → (Lib.compactUpTo zs.toArray m).Pairwise (· < ·) ∧ (∀ x, x ∈ Lib.compactUpTo zs.toArray m ↔ ∃ j, j < m ∧ zs.toArray[j]! = x)
  | 0, _ => ⟨by simp [Lib.compactUpTo], fun x => by simp [Lib.compactUpTo]⟩
  | m + 1, hm => by
    obtain ⟨i1, i2⟩ := compact_up zs hs m (by omega)
    have hat : ∀ j (h : j < zs.length), zs.toArray[j]! = zs[j] := fun j h => by simp [h]
    have hle : ∀ i j (h : j < zs.length), i ≤ j → zs.toArray[i]! ≤ zs.toArray[j]! := fun i j h hij => by
      rw [hat j h, hat i (by omega)]
      rcases Nat.lt_or_eq_of_le hij with hl | rfl
      · exact List.pairwise_iff_getElem.1 hs i j (by omega) h hl
      · exact Int.le_refl _
    rw [Lib.compactUpTo_succ]
    by_cases hk : Lib.keeps zs.toArray m = true
    · rw [if_pos hk]
      have hlt : ∀ x ∈ Lib.compactUpTo zs.toArray m, x < zs.toArray[m]! := fun x hx => by
        obtain ⟨j, hj, rfl⟩ := (i2 x).1 hx
        have h1 := hle j (m - 1) (by omega) (by omega)
        have h2 := hle (m - 1) m (by omega) (by omega)
        unfold Lib.keeps at hk
        have h3 : zs.toArray[m]! ≠ zs.toArray[m - 1]! := by
          rcases of_decide_eq_true hk with h | h
          · omega
          · exact h
        omega
      refine ⟨List.pairwise_append.2 ⟨i1, List.pairwise_singleton _ _, fun a ha b hb => ?_⟩, fun x => ?_⟩
      · rw [List.mem_singleton.1 hb]; exact hlt a ha
      · rw [List.mem_append, List.mem_singleton, i2]
        constructor
        · rintro (⟨j, hj, rfl⟩ | rfl)
          · exact ⟨j, by omega, rfl⟩
          · exact ⟨m, by omega, rfl⟩
        · rintro ⟨j, hj, rfl⟩
          rcases Nat.lt_or_eq_of_le (Nat.lt_succ_iff.1 hj) with h | rfl
          · exact .inl ⟨j, h, rfl⟩
          · exact .inr rfl
    · rw [if_neg hk, List.append_nil]
      refine ⟨i1, fun x => ?_⟩
      have hk' : m ≠ 0 ∧ zs.toArray[m]! = zs.toArray[m - 1]! := by
        unfold Lib.keeps at hk
        rw [decide_eq_true_eq] at hk
        exact ⟨fun h => hk (.inl h), Decidable.not_not.1 fun h => hk (.inr h)⟩
      rw [i2]
      constructor
      · rintro ⟨j, hj, rfl⟩; exact ⟨j, by omega, rfl⟩
      · rintro ⟨j, hj, rfl⟩
        rcases Nat.lt_or_eq_of_le (Nat.lt_succ_iff.1 hj) with h | rfl
        · exact ⟨j, h, rfl⟩
        · exact ⟨j - 1, by omega, hk'.2.symm⟩
theorem sortI_sorted (l : List Int) : (sortI l).Pairwise (· ≤ ·) := by
  have h := List.pairwise_mergeSort (le := fun x y : Int => decide (x ≤ y)) (fun a b c h1 h2 => decide_eq_true (Int.le_trans (of_decide_eq_true h1) (of_decide_eq_true h2))) (fun a b => by
    rcases Int.le_total a b with h | h
    · simp [h]
    · simp [h]) l
  exact h.imp fun h => of_decide_eq_true h
theorem mem_sortI (l : List Int) (x : Int) : x ∈ sortI l ↔ x ∈ l := List.mem_mergeSort
theorem sortI_length (l : List Int) : (sortI l).length = l.length := List.length_mergeSort _
theorem mem_compact_sort (l : List Int) (x : Int) : x ∈ Lib.compact (sortI l) ↔ x ∈ l := by
  unfold Lib.compact
  rw [(compact_up _ (sortI_sorted l) _ (Nat.le_refl _)).2, ← mem_sortI l x]
  constructor
  · rintro ⟨j, hj, rfl⟩
    rw [show (sortI l).toArray[j]! = (sortI l)[j] by simp [List.getElem?_eq_getElem hj]]
    exact List.getElem_mem hj
  · intro h
    obtain ⟨j, hj, rfl⟩ := List.getElem_of_mem h
    exact ⟨j, hj, by simp [List.getElem?_eq_getElem hj]⟩
theorem compact_sort (n : Nat) (l : List Int) (h : ∀ x ∈ l, 0 ≤ x ∧ x < n) : Lib.compact (sortI l) = upTo n l :=
  up_eq (compact_up _ (sortI_sorted l) _ (Nat.le_refl _)).1 (upTo_up n l) fun x => by rw [mem_upTo h]; exact mem_compact_sort l x
theorem codeE_bound : ∀ (l : List Vr) (xs : List Int) (n p : Int), (∀ v ∈ l, 1 ≤ spanV v) → xs.length = l.length → 0 ≤ n → n + 1 ≤ p → (codeE n l xs).2 = 0 → 0 ≤ (codeE n l xs).1 ∧ (codeE n l xs).1 + 1 ≤ p * prodV l
  | [], [], n, p, _, _, h0, h1, _ => by simp only [codeE, prodV, Int.mul_one]; exact ⟨h0, h1⟩
  | [], _ :: _, _, _, _, h, _, _, _ => by simp at h
  | _ :: _, [], _, _, _, h, _, _, _ => by simp at h
  | v :: l, x :: xs, n, p, hs, hl, h0, h1, h2 => by
    rw [codeE] at h2 ⊢
    by_cases c : v.low ≤ x ∧ x ≤ v.high
    · rw [if_pos c] at h2 ⊢
      have hv := hs v List.mem_cons_self
      obtain ⟨_, s1, s2⟩ := horner_step (s := spanV v) (d := x - v.low) h0 h1 (by omega) (by unfold spanV; omega)
      have ih := codeE_bound l xs _ _ (fun w hw => hs w (List.mem_cons_of_mem _ hw)) (by simpa using hl) s1 s2 h2
      rw [prodV, ← Int.mul_assoc]
      exact ih
    · rw [if_neg c] at h2; exact absurd h2 (by decide)
theorem codeF_bound {m : Md} (hm : modelF m = 0) {xs : List Int} (hl : xs.length = m.vars.length) (h : (codeF m xs).2 = 0) : 0 ≤ (codeF m xs).1 ∧ (codeF m xs).1 < prodV m.vars := by
  rw [code_of hm hl] at h ⊢
  have := codeE_bound m.vars xs 0 1 (fun v hv => ((goodV (modelF_vars hm)).span v hv).1) hl (Int.le_refl _) (by omega) h
  omega
noncomputable def codesL (m : Md) (vs : List Int) (l : List Ru) : List Int := l.filterMap fun r => (afterF m r vs).map fun out => (codeF m out).1
theorem after_code {m : Md} (hm : modelF m = 0) {r : Ru} (hr : r ∈ m.rules) {vs : List Int} (g : InV m vs) {out : List Int} (h : afterF m r vs = some out) : out.length = m.vars.length ∧ (codeF m out).2 = 0 ∧ 0 ≤ (codeF m out).1 ∧ (codeF m out).1 < prodV m.vars := by
  unfold afterF at h
  by_cases c : evalF r.guard vs = (1, 0) ∧ ∀ s ∈ r.sets, setOk m vs s
  · rw [if_pos c] at h
    cases h
    have hl : (setAll vs r.sets vs).length = m.vars.length := by rw [setAll_length]; exact g.len
    have h2 := after_ok hm hr g c.2
    exact ⟨hl, h2, codeF_bound hm hl h2⟩
  · rw [if_neg c] at h; cases h
theorem codesL_range {m : Md} (hm : modelF m = 0) {vs : List Int} (g : InV m vs) : ∀ x ∈ codesL m vs m.rules, 0 ≤ x ∧ x < prodV m.vars := by
  intro x hx
  obtain ⟨r, hr, h⟩ := List.mem_filterMap.1 hx
  cases ha : afterF m r vs with
  | none => rw [ha] at h; cases h
  | some out =>
    rw [ha] at h
    cases h
    exact (after_code hm hr g ha).2.2
noncomputable def nextF (m : Md) (c : Int) : List Int × Int :=
  if (valsF m c).2 ≠ 0 then ([], (valsF m c).2)
  else (if codesL m (valsF m c).1 m.rules = [] then [c] else upTo (prodV m.vars).toNat (codesL m (valsF m c).1 m.rules), 0)
end Go.Sp
namespace Go.Sp
open Go Go.Av
set_option linter.unusedVariables false
set_option linter.unusedSimpArgs false
noncomputable abbrev firstF (m : Md) : Int := (codeF m (inits m)).1
theorem first_ok {m : Md} (h : modelF m = 0) : (codeF m (inits m)).2 = 0 ∧ 0 ≤ firstF m ∧ firstF m < prodV m.vars := by
  have hl : (inits m).length = m.vars.length := by simp [inits]
  have h2 : (codeF m (inits m)).2 = 0 := by
    rw [code_of h hl]
    refine codeE_all _ _ _ fun i h1 h2 => ?_
    have := (goodV (modelF_vars h)).range m.vars[i] (List.getElem_mem h1)
    unfold rangeV at this
    simp only [inits, List.getElem_map]
    omega
  exact ⟨h2, codeF_bound h hl h2⟩
end Go.Sp
namespace Go.Sp
open Go.Av
set_option linter.unusedVariables false
set_option linter.unusedSimpArgs false

structure Gn where
  spots : List Fo
  init : Nat
  next : List (List Nat)
  sets : List Nat
  many : Nat
def Gn.nx (g : Gn) (i : Nat) : List Nat := (g.next[i]?).getD []
inductive Rch (nx : Nat → List Nat) : Nat → Nat → Prop where
  | refl (i : Nat) : Rch nx i i
  | step {i j k : Nat} (h : Rch nx i j) (e : k ∈ nx j) : Rch nx i k
theorem Rch.one {nx : Nat → List Nat} {i j : Nat} (e : j ∈ nx i) : Rch nx i j := .step (.refl i) e
end Go.Sp
namespace Go.Sp
open Go.Av
set_option linter.unusedVariables false
set_option linter.unusedSimpArgs false

def gi (l : List Int) (i : Nat) : Int := (l[i]?).getD 0
theorem gi_out (l : List Int) (i : Nat) (h : l.length ≤ i) : gi l i = 0 := by simp [gi, List.getElem?_eq_none h]
structure TS where
  order : List Int
  low : List Int
  part : List Int
  opn : List Nat
  calls : List (Nat × Nat)
  met : Nat

abbrev TS.F (s : TS) : List Nat := s.calls.map Prod.fst
def TS.done (nx : Nat → List Nat) (s : TS) (v w : Nat) : Prop := w ∈ nx v ∧ ∀ j, (v, j) ∈ s.calls → w ∈ (nx v).take j
def isLeast (nx : Nat → List Nat) (v : Nat) (m : Int) : Prop := ∃ k : Nat, m = k ∧ Rch nx v k ∧ Rch nx k v ∧ ∀ u, Rch nx v u → Rch nx u v → k ≤ u

structure TInv (nx : Nat → List Nat) (n : Nat) (x : Option Nat) (s : TS) : Prop where
  lo : s.order.length = n
  ll : s.low.length = n
  lp : s.part.length = n
  om : ∀ v, 0 ≤ gi s.order v ∧ gi s.order v ≤ s.met
  pw : s.opn.Pairwise (fun a b => gi s.order a < gi s.order b)
  mem : ∀ v, v ∈ s.opn ↔ gi s.order v ≠ 0 ∧ gi s.part v < 0
  fpw : s.F.Pairwise (fun a b => gi s.order a < gi s.order b)
  fin : ∀ c ∈ s.F, c ∈ s.opn
  fj : ∀ p ∈ s.calls, p.2 ≤ (nx p.1).length
  bot : s.opn.head? = s.F.head?
  vis : ∀ v w, gi s.order v ≠ 0 → s.done nx v w → gi s.order w ≠ 0 ∨ x = some w
  dsc : ∀ c ∈ s.F, ∀ v ∈ s.opn, gi s.order c ≤ gi s.order v → Rch nx c v
  cls : ∀ v, gi s.order v ≠ 0 → 0 ≤ gi s.part v → ∀ w ∈ nx v, gi s.order w ≠ 0 ∧ 0 ≤ gi s.part w
  prt : ∀ v, gi s.order v ≠ 0 → 0 ≤ gi s.part v → isLeast nx v (gi s.part v)
  lwr : ∀ v ∈ s.opn, ∃ w ∈ s.opn, gi s.order w = gi s.low v ∧ Rch nx v w
  lwf : ∀ v ∈ s.opn, gi s.low v ≤ gi s.order v ∧ (v ∉ s.F → gi s.low v < gi s.order v)
  anc : ∀ c ∈ s.F, ∀ v ∈ s.opn, gi s.order c ≤ gi s.order v → (∀ q ∈ s.F, gi s.order q ≤ gi s.order v → gi s.order q ≤ gi s.order c) →
    gi s.low c ≤ gi s.low v ∧ ∀ w, s.done nx v w → w ∈ s.opn → gi s.low c ≤ gi s.order w
  pn : ∀ v, v < n → gi s.order v = 0 → gi s.part v = -1

section
variable {nx : Nat → List Nat} {n : Nat} {x : Option Nat} {s : TS}

theorem TInv.lt (t : TInv nx n x s) {v : Nat} (h : gi s.order v ≠ 0) : v < n := by
  rcases Nat.lt_or_ge v n with h' | h'
  · exact h'
  · exact absurd (gi_out s.order v (by rw [t.lo]; exact h')) h

theorem calls_last {p : Nat × Nat} (h : s.calls.getLast? = some p) : s.calls = s.calls.dropLast ++ [p] := by
  obtain ⟨ys, e⟩ := List.getLast?_eq_some_iff.1 h
  rw [e]; simp
theorem last_mem {p : Nat × Nat} (h : s.calls.getLast? = some p) : p ∈ s.calls := by rw [calls_last h]; simp
end
end Go.Sp
namespace Go.Sp
open Go.Av
set_option linter.unusedVariables false
set_option linter.unusedSimpArgs false
section
variable {nx : Nat → List Nat} {n : Nat} {x : Option Nat} {s : TS}

structure AtEnd (nx : Nat → List Nat) (n : Nat) (s : TS) (a : Nat) : Prop where
  inv : TInv nx n none s
  last : ∃ p, s.calls.getLast? = some p ∧ p.1 = a ∧ p.2 = (nx a).length
namespace AtEnd
set_option linter.unusedVariables false
set_option linter.unusedSimpArgs false
variable {a : Nat}
theorem aF (t : AtEnd nx n s a) : a ∈ s.F := by
  obtain ⟨p, h, e, _⟩ := t.last
  rw [← e]; exact List.mem_map.2 ⟨p, last_mem h, rfl⟩
theorem ao (t : AtEnd nx n s a) : a ∈ s.opn := t.inv.fin a t.aF
theorem an (t : AtEnd nx n s a) : a < n := t.inv.lt ((t.inv.mem a).1 t.ao).1
end AtEnd

end
end Go.Sp
namespace Go.Sp
open Go.Av
set_option linter.unusedVariables false
set_option linter.unusedSimpArgs false

end Go.Sp
namespace Go.Sp
open Go.Av
set_option linter.unusedVariables false
set_option linter.unusedSimpArgs false

def fromP (nx : Nat → List Nat) (fr : List Nat) (i : Nat) : Prop := ∃ j ∈ fr, Rch nx j i
end Go.Sp
namespace Go.Sp
open Go Go.Av
set_option linter.unusedVariables false
set_option linter.unusedSimpArgs false

end Go.Sp
namespace Go.Sp
open Go Go.Av
set_option linter.unusedVariables false
set_option linter.unusedSimpArgs false

theorem codesL_succ (m : Md) (vs : List Int) (l : List Ru) (i : Nat) (h : i < l.length) : codesL m vs (l.take (i + 1)) = codesL m vs (l.take i) ++ (match afterF m l[i] vs with | none => [] | some out => [(codeF m out).1]) := by
  unfold codesL
  rw [List.take_succ_eq_append_getElem h, List.filterMap_append, List.filterMap_cons, List.filterMap_nil]
  cases afterF m l[i] vs <;> rfl
theorem codesL_none {m : Md} {vs : List Int} {l : List Ru} {i : Nat} (h : i < l.length) (ho : afterF m l[i] vs = none) : codesL m vs (l.take (i + 1)) = codesL m vs (l.take i) := by
  rw [codesL_succ m vs l i h, ho, List.append_nil]
theorem codesL_some {m : Md} {vs : List Int} {l : List Ru} {i : Nat} {out : List Int} (h : i < l.length) (ho : afterF m l[i] vs = some out) : codesL m vs (l.take (i + 1)) = codesL m vs (l.take i) ++ [(codeF m out).1] := by
  rw [codesL_succ m vs l i h, ho]
theorem codesL_len (m : Md) (vs : List Int) (l : List Ru) : (codesL m vs l).length ≤ l.length := List.length_filterMap_le _ _
theorem compact_len (l : List Int) (n : Nat) (hn : l.length ≤ n) : (Lib.compact l).length ≤ n := by
  unfold Lib.compact Lib.compactUpTo
  rw [List.length_map]
  exact Nat.le_trans (List.length_filter_le _ _) (by simpa using hn)
theorem upTo_succ (k : Nat) (l : List Int) : upTo (k + 1) l = upTo k l ++ (if (k : Int) ∈ l then [(k : Int)] else []) := by
  unfold upTo
  rw [List.range_succ, List.filter_append, List.map_append]
  by_cases h : (k : Int) ∈ l <;> simp [h]
theorem upTo_len (k : Nat) (l : List Int) : (upTo k l).length ≤ k := by
  unfold upTo
  rw [List.length_map]
  exact Nat.le_trans (List.length_filter_le _ _) (by simp)
theorem upTo_nil (n : Nat) : upTo n [] = [] := by
  unfold upTo; simp
def isR (n : Nat) (l : List Int) : List Bool := (List.range n).map fun c : Nat => decide ((c : Int) ∈ l)
theorem isR_nil (n : Nat) : isR n [] = List.replicate n false := by
  unfold isR
  refine List.ext_getElem (by simp) fun i h1 h2 => ?_
  simp
theorem isR_len (n : Nat) (l : List Int) : (isR n l).length = n := by simp [isR]
theorem isR_get (n : Nat) (l : List Int) (i : Nat) (h : i < (isR n l).length) : (isR n l)[i] = decide ((i : Int) ∈ l) := by simp [isR]
theorem isR_put (n : Nat) (l : List Int) (c : Int) (h0 : 0 ≤ c) : (isR n l).set c.toNat true = isR n (l ++ [c]) := by
  refine List.ext_getElem (by simp [isR]) fun i h1 h2 => ?_
  rw [List.getElem_set, isR_get]
  by_cases h : c.toNat = i
  · rw [if_pos h]
    have : (i : Int) = c := by omega
    rw [isR_get]
    simp [this]
  · rw [if_neg h, isR_get]
    have : ¬ (i : Int) = c := by omega
    simp [this]
theorem nextF_err {m : Md} {c : Int} (h : (valsF m c).2 ≠ 0) : nextF m c = ([], (valsF m c).2) := by unfold nextF; rw [if_pos h]
theorem nextF_ok {m : Md} {c : Int} (h : (valsF m c).2 = 0) : nextF m c = (if codesL m (valsT m.vars c) m.rules = [] then [c] else upTo (prodV m.vars).toNat (codesL m (valsT m.vars c) m.rules), 0) := by
  obtain ⟨_, _, _, e⟩ := valsF_ok h
  unfold nextF
  rw [if_neg (fun k => k h), e]
theorem modelF_few {m : Md} (h : modelF m = 0) : m.rules.length ≤ 12 := by
  have hv := modelF_vars h
  unfold modelF at h
  rw [if_neg (fun k => k hv)] at h
  by_cases c : 12 < m.rules.length
  · rw [if_pos c] at h; exact absurd h (by decide)
  · omega
theorem afterC_at {m : Md} {code : Int} {vs : List Int} (hv : valsF m code = (vs, 0)) (i : Nat) (h : i < m.rules.length) : (afterF m m.rules[i] vs = none → afterC m code i = (0, 11)) ∧ ∀ out, afterF m m.rules[i] vs = some out → afterC m code i = codeF m out := by
  have e := afterC_yes hv (rule := i) (by omega) (by simpa using h)
  simp only [Int.toNat_natCast] at e
  rw [e]
  exact ⟨fun ho => by rw [ho], fun out ho => by rw [ho]⟩
theorem states_nat {m : Md} (h : modelF m = 0) : ∃ n : Nat, prodV m.vars = n ∧ 1 ≤ n ∧ n ≤ 4096 := by
  have g := goodV (modelF_vars h)
  have h1 := prodV_pos fun v hv => (g.span v hv).1
  have h2 := g.all
  exact ⟨(prodV m.vars).toNat, by omega, by omega, by omega⟩
end Go.Sp
namespace Go.Sp
open Go Go.Av
set_option linter.unusedVariables false
set_option linter.unusedSimpArgs false

noncomputable def nxM (m : Md) (c : Nat) : List Nat := (nextF m c).1.map Int.toNat
structure RM (m : Md) (n : Nat) (i : Nat) (xs : List Int) : Prop where
  nodup : xs.Nodup
  range : ∀ x ∈ xs, 0 ≤ x ∧ x < n
  sound : ∀ x ∈ xs, fromP (nxM m) [(firstF m).toNat] x.toNat
  first : firstF m ∈ xs
  done : ∀ (j : Nat) (h : j < xs.length), j < i → ∀ y ∈ (nextF m xs[j]).1, y ∈ xs
end Go.Sp
namespace Go.Sp
open Go Go.Av
set_option linter.unusedVariables false
set_option linter.unusedSimpArgs false

def at0 (l : List Int) (i : Nat) : Int := (l[i]?).getD 0
theorem at0_get (l : List Int) (i : Nat) (h : i < l.length) : at0 l i = l[i] := by simp [at0, List.getElem?_eq_getElem h]
def leadsP (m : Md) (n : Nat) (A : List Int) (i : Nat) : Prop := (0 ≤ at0 A i ∧ at0 A i < n) ∧ at0 A (i + 1) ∈ (nextF m (at0 A i)).1
def runsP (m : Md) (n : Nat) (A : List Int) : Prop := ∀ i, i + 1 < A.length → leadsP m n A i
noncomputable instance (m : Md) (n : Nat) (A : List Int) : Decidable (runsP m n A) := Classical.propDecidable _
def roundL (stem loop : List Int) : List Int := stem ++ loop ++ loop.take 1
noncomputable def runF (m : Md) (stem loop : List Int) : Bool × Int :=
  if modelF m ≠ 0 then (false, modelF m)
  else if loop = [] ∨ (stem ++ loop).head? ≠ some (firstF m) then (false, 0)
  else (decide (runsP m (prodV m.vars).toNat (roundL stem loop)), 0)
theorem runF_no {m : Md} {stem loop : List Int} (h0 : modelF m = 0) (h : loop = [] ∨ (stem ++ loop).head? ≠ some (firstF m)) : runF m stem loop = (false, 0) := by
  unfold runF; rw [if_neg (fun k => k h0), if_pos h]
theorem runF_at {m : Md} {n : Nat} {stem loop : List Int} {b : Bool} (h0 : modelF m = 0) (hn : prodV m.vars = n) (h1 : loop ≠ []) (h2 : (stem ++ loop).head? = some (firstF m)) (hb : b = true ↔ runsP m n (roundL stem loop)) : runF m stem loop = (b, 0) := by
  unfold runF
  rw [if_neg (fun k => k h0), if_neg (fun k => k.elim h1 fun k => k h2), hn, Int.toNat_natCast]
  congr 1
  cases b with
  | true => exact decide_eq_true (hb.1 rfl)
  | false => exact decide_eq_false fun k => by have := hb.2 k; cases this
end Go.Sp
namespace Go.Av
open Go
set_option linter.unusedVariables false
set_option linter.unusedSimpArgs false

section
variable {k : Kx} {Q : Exit → Env → H → Prop} {ρ : Env} {h : H} {ops : Array Oper} {l : List Oper} {d : Nat} {ty : TypeId} {pos : String} {after : Array Edge}
theorem jeq_nil {α : Type} {f : α → List D} {xs : List α} {T T' E : TypeId} {x y : Operand} {sz eb : Nat} (hx : evO ρ x = some (.d (.l sz eb (xs.map f)))) (hy : evO ρ y = some (.val (.slice none 0 0))) (hT : k.P.underlying T = some (.slice E)) (hd : Nat.blt d k.n = true)
    (hj : Two (Imp (xs = []) (JL k ops l Q ((d, .bool true) :: ρ) h)) (JL k ops l Q ((d, .bool false) :: ρ) h)) : JL k ops (⟨some d, .binOp .eql T x y T', ty, pos, after, none⟩ :: l) Q ρ h := by
  refine JL_eff rfl (fun t ht => by cases ht; exact blt hd) fun I a w h1 h2 => ?_
  have ex : Rel w I (.l sz eb (xs.map f)) (a.eval x) := by have := h2.ev x; rw [ev_of_evO hx] at this; exact this
  have ey : a.eval y = .slice none 0 0 := rel_val (h2.ev y) (ev_of_evO hy)
  have key : ∀ (ad : Option Addr) (n c : Nat), a.eval x = .slice ad n c → (execOp a.eval ⟨some d, .binOp .eql T x y T', ty, pos, after, none⟩).run k.P w = .ok (.value (.bool ad.isNone)) w := by
    intro ad n c e
    have r : (binOp .eql T (.slice ad n c) (.slice none 0 0)).run k.P w = .ok (.bool ad.isNone) w := by
      simp only [binOp]
      simp [run_equal_slice_nil w T E ad n c hT]
    simp [execOp, e, ey, eqGuard_at_slice, r]
  have go : ∀ b, (b = true → xs = []) → JL k ops l Q (put ρ (some d) (.bool b)) h := by
    intro b hb
    cases b with
    | true => exact hj.1.get (hb rfl)
    | false => exact hj.2
  generalize hR : xs.map f = R at ex
  generalize hv : a.eval x = v at ex key
  cases ex with
  | nil => exact ⟨_, w, I, .bool true, h, key _ _ _ rfl, h1, h2, rfl, go true fun _ => List.map_eq_nil_iff.1 hR⟩
  | emp => exact ⟨_, w, I, .bool false, h, key _ _ _ rfl, h1, h2, rfl, go false fun h => (by cases h)⟩
  | l => exact ⟨_, w, I, .bool false, h, key _ _ _ rfl, h1, h2, rfl, go false fun h => (by cases h)⟩
end
end Go.Av
