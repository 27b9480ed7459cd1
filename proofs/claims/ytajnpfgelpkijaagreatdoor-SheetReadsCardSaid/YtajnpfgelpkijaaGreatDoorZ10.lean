/- A bundle of this claim's own texts: G4 Sf G9 G5 G6 G12 G50. -/
import Derived.Test.YtajnpfgelpkijaaGreatDoorZ3
import Derived.Test.YtajnpfgelpkijaaGreatDoorZ4
import Derived.Test.YtajnpfgelpkijaaGreatDoorZ5
set_option linter.unusedVariables false
set_option linter.unusedSimpArgs false
set_option maxRecDepth 100000
set_option maxHeartbeats 4000000
namespace Go.Sp
open Go Go.Av

noncomputable def propsE (vars : Int) : List (List Fo) → Int
 | [] => 0
 | p :: l => if kindF p vars true ≠ 0 then kindF p vars true else propsE vars l
theorem propsE_at (vars : Int) (l : List (List Fo)) (i : Nat) (h : i < l.length) : propsE vars (l.drop i) = if kindF l[i] vars true ≠ 0 then kindF l[i] vars true else propsE vars (l.drop (i + 1)) := by
 rw [List.drop_eq_getElem_cons h, propsE]
theorem propsE_end (vars : Int) (l : List (List Fo)) (i : Nat) (h : l.length ≤ i) : propsE vars (l.drop i) = 0 := by rw [List.drop_of_length_le h, propsE]
noncomputable def propsF (m : Md) (l : List (List Fo)) : Int := if modelF m ≠ 0 then modelF m else if 6 < l.length then 1 else propsE m.vars.length l

theorem modelF_vars {m : Md} (h : modelF m = 0) : varsF m.vars = 0 := by
 unfold modelF at h
 by_cases c : varsF m.vars ≠ 0
 · rw [if_pos c] at h; exact absurd h c
 · omega
open Go.Av

def rank (l : List Fo) : Nat → Nat
 | 0 => 0
 | i + 1 => rank l i + if aheadP (kindAt l i) then 1 else 0
def bitAt (claim : Int) (j : Nat) : Bool := decide (claim / 2 ^ j % 2 = 1)
def valAt (l : List Fo) (i : Nat) : Int := (l[i]?.map Fo.val).getD 0
def second (l : List Fo) (i : Nat) : Nat := (endOf l (i + 1 : Nat)).1.toNat
def stepT (l : List Fo) (x : List Bool) (c : Int) (i : Nat) (a b : Bool) : Bool :=
 if kindAt l i = 13 then (x[(valAt l i).toNat]?).getD false
 else if kindAt l i = 11 then true
 else if kindAt l i = 12 then false
 else if kindAt l i = 10 then !a
 else if kindAt l i = 8 then a && b
 else if kindAt l i = 9 then a || b
 else bitAt c (rank l i)
def tv (l : List Fo) (x : List Bool) (c : Int) : Nat → Nat → Bool
 | 0, _ => false
 | m + 1, i => if i < l.length then stepT l x c i (tv l x c m (i + 1)) (if i < second l i then tv l x c m (second l i) else false) else false
def tAt (l : List Fo) (x : List Bool) (c : Int) (i : Nat) : Bool := tv l x c (l.length - i) i
theorem rank_succ (l : List Fo) (i : Nat) (hi : i < l.length) : rank l (i + 1) = rank l i + if aheadP l[i].kind then 1 else 0 := by
 simp only [rank, kindAt_eq l i hi]
theorem rank_mono (l : List Fo) : ∀ (m i : Nat), rank l i ≤ rank l (i + m)
 | 0, i => Nat.le_refl _
 | m + 1, i => by have := rank_mono l m i; rw [← Nat.add_assoc]; simp only [rank]; omega
theorem formE_ok (l : List Fo) (p : Int) : ∀ (m i n : Nat), l.length = i + m → formE (l.drop i) p n = 0 → (∀ (q : Nat) (hq : q < l.length), i ≤ q → fitsZ l[q].kind l[q].val p = 0) ∧ n + (rank l l.length - rank l i) ≤ 6
 | 0, i, n, h, he => by
   rw [formE_end l i (by omega)] at he
   refine ⟨fun q hq hi => by omega, ?_⟩
   rw [h, Nat.add_zero, Nat.sub_self]
   by_cases h6 : 6 < n
   · rw [if_pos h6] at he; exact absurd he (by decide)
   · omega
 | m + 1, i, n, h, he => by
   rw [formE_at l i (by omega)] at he
   by_cases h1 : fitsZ l[i].kind l[i].val p ≠ 0
   · rw [if_pos h1] at he; exact absurd he h1
   rw [if_neg h1] at he
   obtain ⟨g1, g2⟩ := formE_ok l p m (i + 1) _ (by omega) he
   have hr := rank_succ l i (by omega)
   have hm := rank_mono l m (i + 1)
   rw [show i + 1 + m = l.length by omega] at hm
   refine ⟨fun q hq hi => ?_, ?_⟩
   · by_cases hqi : q = i
     · subst hqi; simpa using h1
     · exact g1 q hq (by omega)
   · by_cases hc : aheadP l[i].kind
     · rw [if_pos hc] at g2 hr; omega
     · rw [if_neg hc] at g2 hr; omega
theorem formF_ok {l : List Fo} {p : Int} (h : formF l p = 0) : 0 ≤ p ∧ p ≤ 6 ∧ (endsOf l).2 = 0 ∧ (∀ (q : Nat) (hq : q < l.length), fitsZ l[q].kind l[q].val p = 0) ∧ rank l l.length ≤ 6 := by
 unfold formF at h
 by_cases h1 : p < 0 ∨ 6 < p
 · rw [if_pos h1] at h; exact absurd h (by decide)
 rw [if_neg h1] at h
 by_cases h2 : (endsOf l).2 ≠ 0
 · rw [if_pos h2] at h; exact absurd h h2
 rw [if_neg h2] at h
 obtain ⟨g1, g2⟩ := formE_ok l p l.length 0 0 (by omega) (by simpa using h)
 refine ⟨by omega, by omega, by simpa using h2, fun q hq => g1 q hq (Nat.zero_le _), ?_⟩
 simp only [rank] at g2
 omega
theorem all_well {l : List Fo} (h : (endsOf l).2 = 0) : ∀ (i : Nat) (_ : i < l.length), (endOf l i).2 = 0 := by
 obtain ⟨_, _, hend, _, _⟩ := endsOf_ok (l := l) (es := (endsOf l).1) (Prod.ext rfl h)
 intro i hi
 exact (scan_nest l l.length 0 1 l.length (by omega) (by omega) (by unfold endOf at hend; exact hend) i (by omega) (by omega)).1
theorem well_kind {l : List Fo} {i : Nat} (hi : i < l.length) (h : (endOf l i).2 = 0) : (partsOf l[i].kind).2 = 0 := by
 have he := endOf_at l i hi
 by_cases h1 : (partsOf l[i].kind).2 ≠ 0
 · rw [if_pos h1] at he; rw [he] at h; exact absurd h h1
 · simpa using h1
structure GoodF (l : List Fo) (p : Int) : Prop where
 h60 : l.length ≤ 60
 pos : 0 < l.length
 well : ∀ (i : Nat) (_ : i < l.length), (endOf l i).2 = 0
 kind : ∀ (i : Nat) (hi : i < l.length), 8 ≤ l[i].kind ∧ l[i].kind ≤ 18
 prop : ∀ (i : Nat) (hi : i < l.length), l[i].kind = 13 → 0 ≤ l[i].val ∧ l[i].val < p
 ah : rank l l.length ≤ 6
 ends : (endsOf l).2 = 0
structure TDone (l : List Fo) (x : List Bool) (c : Int) (i : Nat) (out : List Bool) : Prop where
 len : out.length = l.length
 done : ∀ j, i ≤ j → j < l.length → out[j]? = some (tAt l x c j)
 rest : ∀ j, j < i → j < l.length → out[j]? = some false
theorem TDone.get {l : List Fo} {x : List Bool} {c : Int} {i : Nat} {out : List Bool} (d : TDone l x c i out) {j : Nat} (h1 : i ≤ j) (h2 : j < l.length) (h3 : j < out.length) : out[j] = tAt l x c j := by
 have := d.done j h1 h2
 rw [List.getElem?_eq_getElem h3] at this
 exact Option.some.inj this

structure GoodE (l : List Fo) (vars : Int) : Prop where
 h60 : l.length ≤ 60
 pos : 0 < l.length
 well : ∀ (i : Nat) (_ : i < l.length), (endOf l i).2 = 0
 op : ∀ (i : Nat) (hi : i < l.length), opZ l[i].kind l[i].val vars = 0
 typed : typedP l
 ends : (endsOf l).2 = 0
theorem opsE_ok (l : List Fo) (vars : Int) : ∀ (m i : Nat), l.length = i + m → opsE (l.drop i) vars = 0 → ∀ (q : Nat) (hq : q < l.length), i ≤ q → opZ l[q].kind l[q].val vars = 0
 | 0, i, h, _, q, hq, hi => by omega
 | m + 1, i, h, he, q, hq, hi => by
   rw [opsE_at l i (by omega)] at he
   by_cases c : opZ l[i].kind l[i].val vars ≠ 0
   · rw [if_pos c] at he; exact absurd he c
   · rw [if_neg c] at he
     by_cases e : q = i
     · subst e; exact Decidable.not_not.1 c
     · exact opsE_ok l vars m (i + 1) (by omega) he q hq (by omega)
theorem goodE_of {l : List Fo} {vars : Int} (h : (exprC l vars).2 = 0) : GoodE l vars ∧ 0 ≤ vars ∧ vars ≤ 6 := by
 unfold exprC at h
 by_cases h1 : vars < 0 ∨ 6 < vars
 · rw [if_pos h1] at h; exact absurd h (by decide)
 rw [if_neg h1] at h
 by_cases h2 : (endsOf l).2 ≠ 0
 · rw [if_pos h2] at h; exact absurd h h2
 rw [if_neg h2] at h
 by_cases h3 : opsE l vars ≠ 0
 · rw [if_pos h3] at h; exact absurd h h3
 rw [if_neg h3] at h
 by_cases h4 : typedP l
 · obtain ⟨k1, k2, k3, k4, k5⟩ := endsOf_ok (l := l) (es := (endsOf l).1) (Prod.ext rfl (Decidable.not_not.1 h2))
   exact ⟨⟨k1, k2, all_well (Decidable.not_not.1 h2), fun i hi => opsE_ok l vars l.length 0 (by omega) (Decidable.not_not.1 h3) i hi (Nat.zero_le _), h4, Decidable.not_not.1 h2⟩, by omega, by omega⟩
 · rw [if_neg h4] at h; exact absurd h (by decide)



theorem rulesE_good (n : Int) : ∀ (l : List Ru), rulesE n l = 0 → ∀ r ∈ l, ruleF r n = 0
 | [], _, r, hr => by cases hr
 | r :: l, h, q, hq => by
   rw [rulesE] at h
   by_cases c : ruleF r n ≠ 0
   · rw [if_pos c] at h; exact absurd h c
   · rw [if_neg c] at h
     rcases List.mem_cons.1 hq with rfl | hq
     · exact Decidable.not_not.1 c
     · exact rulesE_good n l h q hq
theorem setsE_good (n : Int) : ∀ (l : List St) (seen : List Int), setsE n l seen = 0 → (∀ s ∈ l, 0 ≤ s.var ∧ s.var < n ∧ kindF s.val n false = 0 ∧ s.var ∉ seen) ∧ (l.map St.var).Nodup
 | [], _, _ => ⟨fun s hs => (by cases hs), List.nodup_nil⟩
 | s :: l, seen, h => by
   rw [setsE] at h
   by_cases c1 : ¬ (0 ≤ s.var ∧ s.var < n)
   · rw [if_pos c1] at h; exact absurd h (by decide)
   rw [if_neg c1] at h
   by_cases c2 : s.var ∈ seen
   · rw [if_pos c2] at h; exact absurd h (by decide)
   rw [if_neg c2] at h
   by_cases c3 : kindF s.val n false ≠ 0
   · rw [if_pos c3] at h; exact absurd h c3
   rw [if_neg c3] at h
   obtain ⟨i1, i2⟩ := setsE_good n l _ h
   refine ⟨fun q hq => ?_, ?_⟩
   · rcases List.mem_cons.1 hq with rfl | hq
     · exact ⟨by omega, by omega, Decidable.not_not.1 c3, c2⟩
     · obtain ⟨a, b, c, d⟩ := i1 q hq
       exact ⟨a, b, c, fun hm => d (List.mem_append_left _ hm)⟩
   · rw [List.map_cons, List.nodup_cons]
     refine ⟨fun hm => ?_, i2⟩
     obtain ⟨q, hq, he⟩ := List.mem_map.1 hm
     exact (i1 q hq).2.2.2 (he ▸ List.mem_append_right _ (List.mem_singleton.2 rfl))
theorem kindF_ok {l : List Fo} {n : Int} {t : Bool} (h : kindF l n t = 0) : exprC l n = (t, 0) := by
 unfold kindF at h
 by_cases c : (exprC l n).2 ≠ 0
 · rw [if_pos c] at h; exact absurd h c
 rw [if_neg c] at h
 by_cases c2 : (exprC l n).1 ≠ t
 · rw [if_pos c2] at h; exact absurd h (by decide)
 · exact Prod.ext (Decidable.not_not.1 c2) (Decidable.not_not.1 c)
theorem modelF_few {m : Md} (h : modelF m = 0) : m.rules.length ≤ 12 := by
 have hv := modelF_vars h
 unfold modelF at h
 rw [if_neg (fun k => k hv)] at h
 by_cases c : 12 < m.rules.length
 · rw [if_pos c] at h; exact absurd h (by decide)
 · omega
theorem propsF_few {m : Md} {l : List (List Fo)} (h : propsF m l = 0) : modelF m = 0 ∧ l.length ≤ 6 := by
 unfold propsF at h
 by_cases c1 : modelF m ≠ 0
 · rw [if_pos c1] at h; exact absurd h c1
 rw [if_neg c1] at h
 by_cases c2 : 6 < l.length
 · rw [if_pos c2] at h; exact absurd h (by decide)
 · exact ⟨Decidable.not_not.1 c1, by omega⟩
structure Tk where
 model : Md
 props : List (List Fo)
 formula : List Fo
abbrev tkA (t : Tk) : AV := .agg [.d (varsD t.model.vars), .d (rulesD t.model.rules), .d (termsD t.props), .d (opsD t.formula)]
noncomputable def taskF (t : Tk) : Int := if propsF t.model t.props ≠ 0 then propsF t.model t.props else formF t.formula t.props.length
theorem taskF_ok {t : Tk} (h : taskF t = 0) : propsF t.model t.props = 0 ∧ formF t.formula t.props.length = 0 ∧ modelF t.model = 0 := by
 unfold taskF at h
 by_cases c : propsF t.model t.props ≠ 0
 · rw [if_pos c] at h; exact absurd h c
 · rw [if_neg c] at h
   exact ⟨Decidable.not_not.1 c, h, (propsF_few (Decidable.not_not.1 c)).1⟩
end Go.Sp
