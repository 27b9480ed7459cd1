/- A bundle of this claim's own texts: Se Sf G7 G8 Sg G22 G23 El St T1 T2 T0 T3 T4. -/
import Derived.Test.YtnlfhnbcdfdhgaaGreatDoorProg
import Derived.RegionTactic
import Derived.Test.YtnlfhnbcdfdhgaaGreatDoorF1
import Derived.Test.YtnlfhnbcdfdhgaaGreatDoorF2
set_option linter.unusedVariables false
set_option linter.unusedSimpArgs false
set_option maxRecDepth 100000
set_option maxHeartbeats 4000000
namespace Go.Sp
open Go.Av

abbrev okP (k : Int) : Prop := 1 ≤ k ∧ k ≤ 12
abbrev C6 (k : Int) : Prop := 6 ≤ k ∧ k ≤ 12
abbrev GV (k : Int) : Prop := 8 ≤ k ∧ k ≤ 12
def opZ (k v vars : Int) : Int :=
 if ¬ okP k then 13
 else if (k = 1 ∧ (v < -1000 ∨ 1000 < v)) ∨ (k = 2 ∧ (v < 0 ∨ vars ≤ v)) ∨ (2 < k ∧ v ≠ 0) then 2 else 0
def IX : List Fo → Int → Int
 | [], _ => 0
 | o :: r, vars => if opZ o.kind o.val vars ≠ 0 then opZ o.kind o.val vars else IX r vars
theorem UQ (l : List Fo) (i : Nat) (hi : i < l.length) (vars : Int) : IX (l.drop i) vars = if opZ l[i].kind l[i].val vars ≠ 0 then opZ l[i].kind l[i].val vars else IX (l.drop (i + 1)) vars := by
 rw [List.drop_eq_getElem_cons hi]; rfl
theorem YI (l : List Fo) (i : Nat) (hi : l.length ≤ i) (vars : Int) : IX (l.drop i) vars = 0 := by
 rw [List.drop_eq_nil_of_le hi]; rfl

def BJ (l : List Fo) (i : Nat) : Int := (l[i]?.map Fo.kind).getD 0
theorem Bq (l : List Fo) (i : Nat) (hi : i < l.length) : BJ l i = l[i].kind := by unfold BJ; rw [List.getElem?_eq_getElem hi]; rfl
def EK (l : List Fo) : Nat → Nat → List Nat
 | 0, _ => []
 | k + 1, i => i :: EK l k (AR l i).1.toNat
abbrev JJ (l : List Fo) (at_ p : Nat) : Prop := (C6 (BJ l p) ↔ GV (BJ l at_))
abbrev Od (l : List Fo) (at_ : Nat) : Prop := ∀ p ∈ EK l (partsOf (BJ l at_)).1.toNat (at_ + 1), JJ l at_ p
abbrev II (l : List Fo) : Prop := ∀ i, i < l.length → Od l i

structure Ew (l : List Fo) (n j i e : Nat) : Prop where
 le : j ≤ n
 upto : i ≤ e
 more : j < n → scan (l.drop i) ((n - j : Nat) : Int) i = ((e : Int), 0)
 fin : j = n → i = e
theorem Ew.start {l : List Fo} {i : Nat} (hi : i < l.length) (h : (AR l i).2 = 0) : Ew l (partsOf l[i].kind).1.toNat 0 (i + 1) (AR l i).1.toNat := by
 have hb := A7 l i h
 have h' := Gw l i hi
 have hp := D4 l[i].kind
 by_cases h1 : (partsOf l[i].kind).2 ≠ 0
 · rw [if_pos h1] at h'; rw [h'] at h; exact absurd h h1
 rw [if_neg h1] at h'
 refine ⟨Nat.zero_le _, by omega, fun h2 => ?_, fun h2 => ?_⟩
 · rw [if_neg (by omega)] at h'
   have e : (1 : Int) + (partsOf l[i].kind).1 - (1 : Int) = (((partsOf l[i].kind).1.toNat - 0 : Nat) : Int) := by omega
   have e2 : ((i + 1 : Nat) : Int) = (i : Int) + 1 := by omega
   rw [e2, ← e, ← h']
   refine Prod.ext ?_ ?_
   · dsimp only; omega
   · exact h
 · rw [if_pos (by omega)] at h'
   rw [h']; dsimp only; omega
theorem Ew.next {l : List Fo} {n j i e : Nat} (p : Ew l n j i e) (hj : j < n) : (AR l i).2 = 0 ∧ (i : Int) < (AR l i).1 ∧ (AR l i).1 ≤ e ∧ Ew l n (j + 1) (AR l i).1.toNat e := by
 obtain ⟨k1, k2, k3, k4, k5⟩ := Ss (by omega) (p.more hj)
 have hle := (Li (by omega) (p.more hj)).2
 refine ⟨k1, k2, hle, by omega, by omega, fun h => ?_, fun h => ?_⟩
 · have := k5 (by omega)
   rwa [show n - j - 1 = n - (j + 1) by omega] at this
 · have := k4 (by omega)
   omega
theorem Ew.lt {l : List Fo} {n j i e : Nat} (p : Ew l n j i e) : j < n ↔ i < e := by
 constructor
 · intro h
   have := p.next h
   omega
 · intro h
   have := p.le
   have := p.fin
   omega

def Cp (l : List Fo) (vars : Int) : Bool × Int :=
 if vars < 0 ∨ 6 < vars then (false, 2)
 else if (Aw l).2 ≠ 0 then (false, (Aw l).2)
 else if IX l vars ≠ 0 then (false, IX l vars)
 else if II l then (decide (C6 (BJ l 0)), 0) else (false, 5)

def CG (l : List Fo) : Nat → Nat
 | 0 => 0
 | i + 1 => CG l i + if Ar (BJ l i) then 1 else 0
def e9 (claim : Int) (j : Nat) : Bool := decide (claim / 2 ^ j % 2 = 1)
def UL (l : List Fo) (i : Nat) : Int := (l[i]?.map Fo.val).getD 0
theorem Qp (l : List Fo) (i : Nat) (hi : i < l.length) : UL l i = l[i].val := by unfold UL; rw [List.getElem?_eq_getElem hi]; rfl
def second (l : List Fo) (i : Nat) : Nat := (AR l (i + 1 : Nat)).1.toNat
def stepT (l : List Fo) (x : List Bool) (c : Int) (i : Nat) (a b : Bool) : Bool :=
 if BJ l i = 13 then (x[(UL l i).toNat]?).getD false
 else if BJ l i = 11 then true
 else if BJ l i = 12 then false
 else if BJ l i = 10 then !a
 else if BJ l i = 8 then a && b
 else if BJ l i = 9 then a || b
 else e9 c (CG l i)
def tv (l : List Fo) (x : List Bool) (c : Int) : Nat → Nat → Bool
 | 0, _ => false
 | m + 1, i => if i < l.length then stepT l x c i (tv l x c m (i + 1)) (if i < second l i then tv l x c m (second l i) else false) else false
def tAt (l : List Fo) (x : List Bool) (c : Int) (i : Nat) : Bool := tv l x c (l.length - i) i
theorem Jy (l : List Fo) (x : List Bool) (c : Int) : ∀ (m i : Nat), l.length ≤ i + m → tv l x c m i = tAt l x c i := by
 intro m
 induction m with
 | zero => intro i h; unfold tAt; rw [show l.length - i = 0 by omega]
 | succ m ih =>
   intro i h
   unfold tAt
   by_cases hi : i < l.length
   · obtain ⟨q, hq⟩ : ∃ q, l.length - i = q + 1 := ⟨l.length - i - 1, by omega⟩
     have e : ∀ j, i < j → tv l x c m j = tv l x c q j := fun j hj => by
      rw [ih j (by omega)]
      by_cases hjl : j < l.length
      · have hqm : q ≤ m := by omega
        by_cases hqm' : q = m
        · subst hqm'; exact (ih j (by omega)).symm
        · clear ih
          -- fewer steps are still enough
          have : ∀ (m q j : Nat), l.length ≤ j + q → q ≤ m → tv l x c q j = tv l x c m j := by
           intro m
           induction m with
           | zero => intro q j h1 h2; rw [show q = 0 by omega]
           | succ m ih' =>
             intro q j h1 h2
             cases q with
             | zero =>
               simp only [tv]
               rw [if_neg (by omega)]
             | succ q =>
               simp only [tv]
               by_cases hjl : j < l.length
               · rw [if_pos hjl, if_pos hjl, ih' q (j + 1) (by omega) (by omega)]
                 by_cases hs : j < second l j
                 · rw [if_pos hs, if_pos hs, ih' q (second l j) (by omega) (by omega)]
                 · rw [if_neg hs, if_neg hs]
               · rw [if_neg hjl, if_neg hjl]
          unfold tAt
          exact this q (l.length - j) j (by omega) (by omega)
      · unfold tAt
        rw [show l.length - j = 0 by omega]
        cases q with
        | zero => rfl
        | succ q => simp only [tv]; rw [if_neg hjl]
     rw [hq]
     simp only [tv]
     rw [if_pos hi, if_pos hi, e (i + 1) (by omega)]
     by_cases hs : i < second l i
     · rw [if_pos hs, if_pos hs, e _ hs]
     · rw [if_neg hs, if_neg hs]
   · rw [show l.length - i = 0 by omega]
     simp only [tv]
     rw [if_neg hi]
theorem dQ (l : List Fo) (x : List Bool) (c : Int) (i : Nat) (hi : i < l.length) : tAt l x c i = stepT l x c i (tAt l x c (i + 1)) (if i < second l i then tAt l x c (second l i) else false) := by
 rw [← Jy l x c (l.length + 1) i (by omega)]
 simp only [tv]
 rw [if_pos hi, Jy l x c l.length (i + 1) (by omega)]
 by_cases hs : i < second l i
 · rw [if_pos hs, if_pos hs, Jy l x c l.length (second l i) (by omega)]
 · rw [if_neg hs, if_neg hs]
theorem Hj (l : List Fo) (i : Nat) (hi : i < l.length) : CG l (i + 1) = CG l i + if Ar l[i].kind then 1 else 0 := by
 simp only [CG, Bq l i hi]
theorem Jo (l : List Fo) : ∀ (m i : Nat), CG l i ≤ CG l (i + m)
 | 0, i => Nat.le_refl _
 | m + 1, i => by have := Jo l m i; rw [← Nat.add_assoc]; simp only [CG]; omega
theorem H7 (l : List Fo) : ∀ (m i : Nat), l.length = i + m → (DU (l.drop i) i).length + CG l i = CG l l.length
 | 0, i, h => by rw [LK l i (by omega), h]; simp
 | m + 1, i, h => by
   have ih := H7 l m (i + 1) (by omega)
   rw [Nr l i (by omega)]
   rw [Hj l i (by omega)] at ih
   by_cases hc : Ar l[i].kind
   · rw [if_pos hc] at ih ⊢; simp only [List.length_cons]; omega
   · rw [if_neg hc] at ih ⊢; omega
theorem Qc {k v p : Int} (h : FJ k v p = 0) : 8 ≤ k ∧ (k = 13 → 0 ≤ v ∧ v < p) := by
 unfold FJ at h
 by_cases h1 : k < 8
 · rw [if_pos h1] at h; exact absurd h (by decide)
 rw [if_neg h1] at h
 by_cases h2 : (k = 13 ∧ (v < 0 ∨ p ≤ v)) ∨ (k ≠ 13 ∧ v ≠ 0)
 · rw [if_pos h2] at h; exact absurd h (by decide)
 omega
theorem Pf (l : List Fo) (p : Int) : ∀ (m i n : Nat), l.length = i + m → Hb (l.drop i) p n = 0 → (∀ (q : Nat) (hq : q < l.length), i ≤ q → FJ l[q].kind l[q].val p = 0) ∧ n + (CG l l.length - CG l i) ≤ 6
 | 0, i, n, h, he => by
   rw [NM l i (by omega)] at he
   refine ⟨fun q hq hi => by omega, ?_⟩
   rw [h, Nat.add_zero, Nat.sub_self]
   by_cases h6 : 6 < n
   · rw [if_pos h6] at he; exact absurd he (by decide)
   · omega
 | m + 1, i, n, h, he => by
   rw [RP l i (by omega)] at he
   by_cases h1 : FJ l[i].kind l[i].val p ≠ 0
   · rw [if_pos h1] at he; exact absurd he h1
   rw [if_neg h1] at he
   obtain ⟨g1, g2⟩ := Pf l p m (i + 1) _ (by omega) he
   have hr := Hj l i (by omega)
   have hm := Jo l m (i + 1)
   rw [show i + 1 + m = l.length by omega] at hm
   refine ⟨fun q hq hi => ?_, ?_⟩
   · by_cases hqi : q = i
     · subst hqi; simpa using h1
     · exact g1 q hq (by omega)
   · by_cases hc : Ar l[i].kind
     · rw [if_pos hc] at g2 hr; omega
     · rw [if_neg hc] at g2 hr; omega
theorem XN {l : List Fo} {p : Int} (h : DT l p = 0) : 0 ≤ p ∧ p ≤ 6 ∧ (Aw l).2 = 0 ∧ (∀ (q : Nat) (hq : q < l.length), FJ l[q].kind l[q].val p = 0) ∧ CG l l.length ≤ 6 := by
 unfold DT at h
 by_cases h1 : p < 0 ∨ 6 < p
 · rw [if_pos h1] at h; exact absurd h (by decide)
 rw [if_neg h1] at h
 by_cases h2 : (Aw l).2 ≠ 0
 · rw [if_pos h2] at h; exact absurd h h2
 rw [if_neg h2] at h
 obtain ⟨g1, g2⟩ := Pf l p l.length 0 0 (by omega) (by simpa using h)
 refine ⟨by omega, by omega, by simpa using h2, fun q hq => g1 q hq (Nat.zero_le _), ?_⟩
 simp only [CG] at g2
 omega
theorem QQ {l : List Fo} (h : (Aw l).2 = 0) : ∀ (i : Nat) (_ : i < l.length), (AR l i).2 = 0 := by
 obtain ⟨_, _, hend, _, _⟩ := Ct (l := l) (es := (Aw l).1) (Prod.ext rfl h)
 intro i hi
 exact (Ja l l.length 0 1 l.length (by omega) (by omega) (by unfold AR at hend; exact hend) i (by omega) (by omega)).1
theorem NX {l : List Fo} {i : Nat} (hi : i < l.length) (h : (AR l i).2 = 0) : (partsOf l[i].kind).2 = 0 := by
 have he := Gw l i hi
 by_cases h1 : (partsOf l[i].kind).2 ≠ 0
 · rw [if_pos h1] at he; rw [he] at h; exact absurd h h1
 · simpa using h1
theorem FF {l : List Fo} {i : Nat} (hi : i < l.length) (h : (AR l i).2 = 0) (hp : 1 ≤ (partsOf l[i].kind).1) : i + 1 < l.length ∧ (AR l (i + 1 : Nat)).2 = 0 ∧ i + 1 < second l i ∧ (AR l (i + 1 : Nat)).1 = (second l i : Nat) ∧ second l i ≤ l.length := by
 obtain ⟨q1, q2, q3, q4⟩ := (Ew.start hi h).next (by omega)
 have hb := A7 l i h
 have hb1 := A7 l (i + 1) q1
 unfold second
 refine ⟨by omega, q1, by omega, by omega, by omega⟩
theorem Fz {l : List Fo} {i : Nat} (hi : i < l.length) (h : (AR l i).2 = 0) (hp : (partsOf l[i].kind).1 = 2) : second l i < l.length ∧ (AR l (second l i : Nat)).2 = 0 := by
 obtain ⟨q1, q2, q3, q4⟩ := (Ew.start hi h).next (by omega)
 obtain ⟨r1, r2, r3, r4⟩ := q4.next (by omega)
 have hb := A7 l i h
 unfold second
 exact ⟨by omega, r1⟩
structure NY (l : List Fo) (p : Int) : Prop where
 h60 : l.length ≤ 60
 pos : 0 < l.length
 well : ∀ (i : Nat) (_ : i < l.length), (AR l i).2 = 0
 kind : ∀ (i : Nat) (hi : i < l.length), 8 ≤ l[i].kind ∧ l[i].kind ≤ 18
 prop : ∀ (i : Nat) (hi : i < l.length), l[i].kind = 13 → 0 ≤ l[i].val ∧ l[i].val < p
 ah : CG l l.length ≤ 6
 ends : (Aw l).2 = 0
theorem Kb {l : List Fo} {p : Int} (h : DT l p = 0) : NY l p := by
 obtain ⟨h1, h2, h3, h4, h5⟩ := XN h
 obtain ⟨k1, k2, _, _, _⟩ := Ct (l := l) (es := (Aw l).1) (Prod.ext rfl h3)
 have hw := QQ h3
 refine ⟨k1, k2, hw, fun i hi => ⟨(Qc (h4 i hi)).1, ?_⟩, fun i hi => (Qc (h4 i hi)).2, h5, h3⟩
 have hk := NX hi (hw i hi)
 by_cases h18 : 18 < l[i].kind
 · rw [Ds _ (.inr h18)] at hk; exact absurd hk (by decide)
 · omega
theorem FM {l : List Fo} : (DU l 0).length = CG l l.length := by
 have := H7 l l.length 0 (by omega)
 simpa [CG] using this
theorem Tz {l : List Fo} {i : Nat} (hi : i ≤ l.length) : CG l i ≤ CG l l.length := by
 have := Jo l (l.length - i) i
 rwa [show i + (l.length - i) = l.length by omega] at this
def BN (l : List Fo) (x : List Bool) (c : Int) : List Bool × Int :=
 if (Ai l x.length).2 ≠ 0 then ([], (Ai l x.length).2)
 else if c < 0 ∨ 2 ^ (Ai l x.length).1.length ≤ c then ([], 2)
 else ((List.range l.length).map (tAt l x c), 0)
theorem KK {l : List Fo} {p : Int} {ps : List Int} (h : Ai l p = (ps, 0)) : DT l p = 0 ∧ ps = DU l 0 := by
 unfold Ai at h
 by_cases h1 : DT l p ≠ 0
 · rw [if_pos h1] at h; simp at h; exact absurd h.2 h1
 · rw [if_neg h1] at h; simp at h; exact ⟨by simpa using h1, h.symm⟩
structure FQ (l : List Fo) (x : List Bool) (c : Int) (i : Nat) (out : List Bool) : Prop where
 len : out.length = l.length
 done : ∀ j, i ≤ j → j < l.length → out[j]? = some (tAt l x c j)
 rest : ∀ j, j < i → j < l.length → out[j]? = some false
theorem FQ.start (l : List Fo) (x : List Bool) (c : Int) : FQ l x c l.length (List.replicate l.length false) :=
 ⟨by simp, fun j h1 h2 => by omega, fun j _ h2 => by simp [h2]⟩
theorem FQ.next {l : List Fo} {x : List Bool} {c : Int} {i : Nat} {out : List Bool} {v : Bool} (d : FQ l x c (i + 1) out) (hi : i < l.length) (hv : v = tAt l x c i) : FQ l x c i (out.set i v) := by
 refine ⟨by rw [List.length_set]; exact d.len, fun j h1 h2 => ?_, fun j h1 h2 => ?_⟩
 · by_cases hj : i = j
   · subst hj; rw [List.getElem?_set_self (by rw [d.len]; exact hi), hv]
   · rw [List.getElem?_set_ne hj]; exact d.done j (by omega) h2
 · rw [List.getElem?_set_ne (by omega)]; exact d.rest j (by omega) h2
theorem FQ.no {l : List Fo} {x : List Bool} {c : Int} {i : Nat} {out : List Bool} (d : FQ l x c (i + 1) out) (hi : i < l.length) (hv : tAt l x c i = false) : FQ l x c i out := by
 refine ⟨d.len, fun j h1 h2 => ?_, fun j h1 h2 => d.rest j (by omega) h2⟩
 by_cases hj : i = j
 · subst hj; rw [d.rest i (by omega) hi, hv]
 · exact d.done j (by omega) h2
theorem FQ.fin {l : List Fo} {x : List Bool} {c : Int} {out : List Bool} (d : FQ l x c 0 out) : out = (List.range l.length).map (tAt l x c) := by
 apply List.ext_getElem?
 intro j
 by_cases hj : j < l.length
 · rw [d.done j (Nat.zero_le _) hj]; simp [hj]
 · rw [List.getElem?_eq_none (by rw [d.len]; omega), List.getElem?_eq_none (by simp; omega)]
theorem FQ.get {l : List Fo} {x : List Bool} {c : Int} {i : Nat} {out : List Bool} (d : FQ l x c i out) {j : Nat} (h1 : i ≤ j) (h2 : j < l.length) (h3 : j < out.length) : out[j] = tAt l x c j := by
 have := d.done j h1 h2
 rw [List.getElem?_eq_getElem h3] at this
 exact Option.some.inj this
open Go Go.Av

structure La where
 stop : Nat → Bool
 val : Nat → Bool
 nxt : Nat → Nat
 base : Bool
def La.step (a : La) (i : Nat) (x : Bool) : Bool := if a.stop i then a.val i else x
def La.up (a : La) : Nat → Nat → Bool
 | 0, _ => a.base
 | k + 1, i => a.step i (a.up k (a.nxt i))
theorem La.step_mono (a : La) {i : Nat} (h : a.step i a.base ≠ a.base) (x : Bool) : a.step i x ≠ a.base := by
 unfold La.step at h ⊢
 by_cases c : a.stop i
 · rw [if_pos c] at h ⊢; exact h
 · rw [if_neg c] at h; exact absurd rfl h
structure La.On (a : La) (row : Nat → Bool) : Prop where
 sound : ∀ i, row i ≠ a.base → ∃ k, a.up k i ≠ a.base
 fore : ∀ i, row i ≠ a.base → a.step i (row (a.nxt i)) ≠ a.base
theorem UI {a b c : Bool} (h : a ≠ c) (h' : b ≠ c) : a = b := by revert h h'; cases a <;> cases b <;> cases c <;> decide
theorem La.rest {a : La} {row : Nat → Bool} {N : Nat} (hcl : ∀ i, i < N → a.nxt i < N) (h : ∀ i, i < N → row i = a.step i (row (a.nxt i))) : ∀ (k i : Nat), i < N → a.up k i ≠ a.base → row i ≠ a.base
 | 0, _, _, hk => absurd rfl hk
 | k + 1, i, hi, hk => by
   rw [h i hi]
   rw [La.up] at hk
   by_cases c : a.up k (a.nxt i) = a.base
   · rw [c] at hk; exact a.step_mono hk _
   · rw [UI (La.rest hcl h k _ (hcl i hi) c) c]; exact hk
theorem La.On.done {a : La} {row : Nat → Bool} {N : Nat} (h : a.On row) (hcl : ∀ i, i < N → a.nxt i < N) (hr : ∀ i, i < N → row i = a.step i (row (a.nxt i))) {i : Nat} (hi : i < N) : row i ≠ a.base ↔ ∃ k, a.up k i ≠ a.base :=
 ⟨h.sound i, fun ⟨k, hk⟩ => La.rest hcl hr k i hi hk⟩
def La.itr (a : La) : Nat → Nat → Nat
 | 0, i => i
 | k + 1, i => a.itr k (a.nxt i)
theorem La.itr_add (a : La) : ∀ (j k i : Nat), a.itr (j + k) i = a.itr k (a.itr j i)
 | 0, k, i => by rw [Nat.zero_add]; rfl
 | j + 1, k, i => by rw [Nat.succ_add]; exact La.itr_add a j k (a.nxt i)
theorem La.up_skip (a : La) : ∀ (j m i : Nat), (∀ j', j' < j → ¬ a.stop (a.itr j' i)) → a.up (j + m) i = a.up m (a.itr j i)
 | 0, m, i, _ => by rw [Nat.zero_add]; rfl
 | j + 1, m, i, h => by
   have h0 : ¬ a.stop i := h 0 (by omega)
   rw [Nat.succ_add, La.up, La.step, if_neg h0]
   exact La.up_skip a j m (a.nxt i) fun j' hj => h (j' + 1) (by omega)
theorem La.up_first (a : La) : ∀ (k i : Nat), a.up k i ≠ a.base → ∃ j, j < k ∧ a.stop (a.itr j i) ∧ ∀ j', j' < j → ¬ a.stop (a.itr j' i)
 | 0, _, h => absurd rfl h
 | k + 1, i, h => by
   by_cases c : a.stop i
   · exact ⟨0, by omega, c, fun _ h => by omega⟩
   · rw [La.up, La.step, if_neg c] at h
     obtain ⟨j, h1, h2, h3⟩ := La.up_first a k (a.nxt i) h
     refine ⟨j + 1, by omega, h2, fun j' hj => ?_⟩
     cases j' with
     | zero => exact c
     | succ j' => exact h3 j' (by omega)
theorem La.up_all (a : La) (N i : Nat) (hc : ∀ k, ∃ k', k' ≤ k ∧ k' ≤ N ∧ a.itr k' i = a.itr k i) : (∃ k, a.up k i ≠ a.base) ↔ a.up (N + 1) i ≠ a.base := by
 refine ⟨fun ⟨k, hk⟩ => ?_, fun h => ⟨_, h⟩⟩
 obtain ⟨j, h1, h2, h3⟩ := a.up_first k i hk
 obtain ⟨j', k1, k2, k3⟩ := hc j
 have hj : j ≤ N := by
  by_cases e : j' = j
  · omega
  · exact absurd (k3 ▸ h2) (h3 j' (by omega))
 obtain ⟨m, rfl⟩ : ∃ m, k = j + (m + 1) := ⟨k - j - 1, by omega⟩
 rw [La.up_skip a j (m + 1) i h3, La.up, La.step, if_pos h2] at hk
 rw [show N + 1 = j + ((N - j) + 1) by omega, La.up_skip a j _ i h3, La.up, La.step, if_pos h2]
 exact hk
def wnx (s N i : Nat) : Nat := if i + 1 < N then i + 1 else s
theorem La.itr_succ (a : La) (k i : Nat) : a.itr (k + 1) i = a.nxt (a.itr k i) := by rw [La.itr_add a k 1 i]; rfl
theorem La.itr_lt (a : La) {s N : Nat} (hn : a.nxt = wnx s N) (hs : s < N) {i : Nat} (hi : i < N) : ∀ k, a.itr k i < N
 | 0 => hi
 | k + 1 => by rw [La.itr_succ, hn, wnx]; split <;> omega
theorem La.itr_ge (a : La) {s N : Nat} (hn : a.nxt = wnx s N) (i : Nat) : ∀ k, i + k ≤ a.itr k i ∨ s ≤ a.itr k i
 | 0 => .inl (Nat.le_refl _)
 | k + 1 => by
   rw [La.itr_succ, hn, wnx]
   rcases La.itr_ge a hn i k with h | h <;> split <;> omega
theorem La.itr_loop (a : La) {s N : Nat} (hn : a.nxt = wnx s N) (hs : s < N) {p : Nat} (hp : s ≤ p) (hp' : p < N) : ∀ j, j ≤ N - s → a.itr j p = if p + j < N then p + j else p + j - (N - s)
 | 0, _ => by simp [La.itr, hp']
 | j + 1, hj => by
   rw [La.itr_succ, La.itr_loop a hn hs hp hp' j (by omega), hn, wnx]
   by_cases c1 : p + j < N
   · rw [if_pos c1]
     by_cases c2 : p + j + 1 < N
     · rw [if_pos c2, if_pos (by omega)]; omega
     · rw [if_neg c2, if_neg (by omega)]; omega
   · rw [if_neg c1, if_pos (by omega), if_neg (by omega)]; omega
theorem La.cover (a : La) {s N : Nat} (hn : a.nxt = wnx s N) (hs : s < N) {i : Nat} (hi : i < N) (k : Nat) : ∃ k', k' ≤ k ∧ k' ≤ N ∧ a.itr k' i = a.itr k i := by
 induction k using Nat.strongRecOn with
 | ind k ih =>
   by_cases c : k ≤ N
   · exact ⟨k, Nat.le_refl _, c, rfl⟩
   obtain ⟨k', h1, h2, h3⟩ := ih (k - (N - s)) (by omega)
   have hg : s ≤ a.itr (k - (N - s)) i := by have := La.itr_ge a hn i (k - (N - s)); omega
   have hl := La.itr_loop a hn hs hg (La.itr_lt a hn hs hi _) (N - s) (Nat.le_refl _)
   rw [← La.itr_add, if_neg (by omega), show k - (N - s) + (N - s) = k by omega] at hl
   exact ⟨k', by omega, h2, by rw [h3, hl]; omega⟩
theorem La.On.scan {a : La} {row : Nat → Bool} {s N : Nat} (h : a.On row) (hr : ∀ i, i < N → row i = a.step i (row (a.nxt i))) (hn : a.nxt = wnx s N) (hs : s < N) {i : Nat} (hi : i < N) : row i = a.up (N + 1) i := by
 have hcl : ∀ i, i < N → a.nxt i < N := fun i hi => by rw [hn, wnx]; split <;> omega
 have e := (h.done hcl hr hi).trans (a.up_all N i (a.cover hn hs hi))
 by_cases c : row i = a.base
 · by_cases c' : a.up (N + 1) i = a.base
   · rw [c, c']
   · exact absurd c (e.2 c')
 · exact UI c (e.1 c)

theorem Zp {row : List Bool} {f : Nat → Bool} {N : Nat} (h1 : row.length = N) (h2 : ∀ (i : Nat) (h : i < row.length), row[i] = f i) : row = (List.range N).map f := by
 refine List.ext_getElem (by simp [h1]) fun i h _ => ?_
 rw [h2 i h]; simp
def rd (row : List Bool) (b : Bool) (i : Nat) : Bool := (row[i]?).getD b
theorem Wh {row : List Bool} {b : Bool} {i : Nat} (h : i < row.length) : rd row b i = row[i] := by unfold rd; rw [List.getElem?_eq_getElem h]; rfl
abbrev cK (a : La) (row : List Bool) : Prop := a.On (rd row a.base)
theorem cK.scan {a : La} {row : List Bool} {s : Nat} (h : cK a row) (hn : a.nxt = wnx s row.length) (hs : s < row.length) (hr : ∀ (i : Nat) (hi : i < row.length) (hi' : a.nxt i < row.length), row[i] = a.step i row[a.nxt i]) : ∀ (i : Nat) (h : i < row.length), row[i] = a.up (row.length + 1) i := by
 intro i hi
 have := La.On.scan (N := row.length) h (fun i hi => by
  have hx : a.nxt i < row.length := by rw [hn, wnx]; split <;> omega
  rw [Wh hi, Wh hx]; exact hr i hi hx) hn hs hi
 rw [Wh hi] at this
 exact this
structure PE (f : Nat → Bool) (N i : Nat) (row : List Bool) : Prop where
 len : row.length = N
 done : ∀ (j : Nat) (h : j < row.length), j < i → row[j] = f j
 rest : ∀ (j : Nat) (h : j < row.length), i ≤ j → row[j] = false
theorem PE.start (f : Nat → Bool) (N : Nat) : PE f N 0 (List.replicate N false) := ⟨by simp, fun _ _ h => absurd h (Nat.not_lt_zero _), fun j h _ => by simp⟩
theorem PE.next {f : Nat → Bool} {N i : Nat} {row : List Bool} (w : PE f N i row) {x : Bool} (hx : f i = x) : PE f N (i + 1) (row.set i x) := by
 refine ⟨by simp [w.len], fun j h hj => ?_, fun j h hj => ?_⟩
 · rw [List.getElem_set]
   split
   · rename_i e; subst e; exact hx.symm
   · exact w.done j (by simpa using h) (by omega)
 · rw [List.getElem_set, if_neg (by omega)]
   exact w.rest j (by simpa using h) (by omega)
theorem PE.fin {f : Nat → Bool} {N : Nat} {row : List Bool} (w : PE f N N row) : row = (List.range N).map f := Zp w.len fun i h => w.done i h (by have := w.len; omega)
theorem Cvs.at (v : Value) (d : D) : ∀ (R : List AV) (i : Nat), Cvs v d (R.set i (.val v)) (R.set i (.d d))
 | [], _ => .nil
 | x :: R, 0 => .cons .here (Cvs.refl v d R)
 | x :: R, i + 1 => .cons (.same x) (Cvs.at v d R i)

def Qr (k : Int) (a1 s b b1 : Bool) : Bool := if k = 14 then b1 else if k = 17 then a1 || b else if k = 18 then a1 && b else if k = 15 then s || (a1 && b) else s && (a1 || b)
theorem Rq {k : Int} (a1 u v b b1 : Bool) (hk : Ar k) (hu : k = 15 ∨ k = 16 → u = v) : Qr k a1 u b b1 = Qr k a1 v b b1 := by
 by_cases h : k = 15 ∨ k = 16
 · rw [hu h]
 · unfold Ar at hk
   unfold Qr
   by_cases h14 : k = 14
   · rw [if_pos h14, if_pos h14]
   by_cases h17 : k = 17
   · rw [if_neg h14, if_neg h14, if_pos h17, if_pos h17]
   rw [if_neg h14, if_neg h14, if_neg h17, if_neg h17, if_pos (by omega), if_pos (by omega)]
def cW (k : Int) (a a1 s : Bool) : Bool := if k = 17 then !a || a1 else if k = 18 then a || !a1 else if k = 15 then !a || s else if k = 16 then a || !s else true
def JZ (l : List Fo) (A B : Nat → Bool) (i : Nat) : Prop := Ar (BJ l i) → A i = Qr (BJ l i) (A (i + 1)) (A (second l i)) (B i) (B (i + 1))
instance (l : List Fo) (A B : Nat → Bool) (i : Nat) : Decidable (JZ l A B i) := by unfold JZ; infer_instance
def kept (l : List Fo) (A B : Nat → Bool) : Prop := ∀ i, i < l.length → JZ l A B i
instance (l : List Fo) (A B : Nat → Bool) : Decidable (kept l A B) := by unfold kept; infer_instance
def Dt (l : List Fo) (x : List Bool) (c : Int) (y : List Bool) (d : Int) : Bool × Int :=
 if x.length ≠ y.length then (false, 1)
 else if (BN l x c).2 ≠ 0 then (false, (BN l x c).2)
 else if (BN l y d).2 ≠ 0 then (false, (BN l y d).2)
 else (decide (kept l (tAt l x c) (tAt l y d)), 0)
def metAt (l : List Fo) (A : Nat → Bool) (i : Nat) : Bool := cW (BJ l i) (A i) (A (i + 1)) (A (second l i))
def Gq (l : List Fo) (A : Nat → Bool) : Nat → Int
 | 0 => 0
 | i + 1 => Gq l A i + if Ar (BJ l i) ∧ metAt l A i = true then 2 ^ CG l i else 0
def D6 (l : List Fo) (x : List Bool) (c : Int) : Int × Int :=
 if (BN l x c).2 ≠ 0 then (0, (BN l x c).2) else (Gq l (tAt l x c) l.length, 0)
theorem Lx (l : List Fo) (A : Nat → Bool) : ∀ i, 0 ≤ Gq l A i ∧ Gq l A i < 2 ^ CG l i
 | 0 => by simp [Gq, CG]
 | i + 1 => by
   have ih := Lx l A i
   simp only [Gq, CG]
   by_cases h1 : Ar (BJ l i)
   · rw [if_pos h1, Int.pow_succ]
     by_cases h2 : metAt l A i = true
     · rw [if_pos ⟨h1, h2⟩]; omega
     · rw [if_neg (fun h => h2 h.2)]; omega
   · rw [if_neg h1, if_neg (fun h => h1 h.1), Nat.add_zero]; omega
structure TV (l : List Fo) (a : List Bool) (A : Nat → Bool) : Prop where
 len : a.length = l.length
 get : ∀ (i : Nat) (h : i < a.length), a[i] = A i
theorem HL {l : List Fo} {x : List Bool} {c : Int} {a : List Bool} (h : BN l x c = (a, 0)) : NY l x.length ∧ TV l a (tAt l x c) := by
 unfold BN at h
 by_cases h1 : (Ai l x.length).2 ≠ 0
 · rw [if_pos h1] at h; simp at h; exact absurd h.2 h1
 rw [if_neg h1] at h
 by_cases h2 : c < 0 ∨ 2 ^ (Ai l x.length).1.length ≤ c
 · rw [if_pos h2] at h; simp at h
 rw [if_neg h2] at h
 simp only [Prod.mk.injEq, and_true] at h
 subst h
 have := KK (l := l) (p := x.length) (ps := (Ai l x.length).1) (Prod.ext rfl (by simpa using h1))
 exact ⟨Kb this.1, by simp, fun i hi => by simp⟩

theorem NY.first {l : List Fo} {p : Int} (g : NY l p) {q : Nat} (hq : q < l.length) (h : 1 ≤ (partsOf (BJ l q)).1) : q + 1 < l.length := by
 rw [Bq l q hq] at h
 exact (FF hq (g.well q hq) h).1
theorem NY.second {l : List Fo} {p : Int} (g : NY l p) {q : Nat} (hq : q < l.length) (h : (partsOf (BJ l q)).1 = 2) : q < second l q ∧ second l q < l.length := by
 rw [Bq l q hq] at h
 have h1 := (FF hq (g.well q hq) (by omega)).2.2.1
 exact ⟨by omega, (Fz hq (g.well q hq) h).1⟩

theorem IV.at {nx : Nat → List Nat} {ins : Nat → Bool} : ∀ {l : List Nat}, IV nx ins l → ∀ (i : Nat) (h : i + 1 < l.length), l[i + 1] ∈ nx l[i]
 | [], _, i, h => by simp at h
 | [_], _, i, h => by simp at h
 | a :: b :: l, c, 0, h => c.1.1
 | a :: b :: l, c, i + 1, h => IV.at (l := b :: l) c.2 i (by simpa using h)
end Go.Sp
namespace Go.Proofs.YtnlfhnbcdfdhgaaGreatDoor
open Go Go.Av
class ElC (P : Program) (t : TypeId) (z : outParam Value) (s b : outParam Nat) : Prop where h : El P t z s b
class FdC (P : Program) (t f : Nat) (o : outParam Nat) : Prop where h : Fld P t f o
class BlC (P : Program) (t : TypeId) : Prop where h : Bl2 P t
class Gs (P : Program) (t : TypeId) (zs : outParam (List Value)) (pl : outParam (List (Nat × Nat))) : Prop where h : Bls P t zs pl
class EqC (P : Program) (t : TypeId) : Prop where h : Eq2 P t
class fJ (P : Program) (t : TypeId) : Prop where h : XP P t
theorem OJ : El Tryz.prog 3 (.int .i64 0) 1 8 := by unfold El; kernel_rfl
instance : ElC Tryz.prog 3 (.int .i64 0) 1 8 := ⟨OJ⟩
theorem Zv : El Tryz.prog 4 (.bool false) 1 1 := by unfold El; kernel_rfl
instance : ElC Tryz.prog 4 (.bool false) 1 1 := ⟨Zv⟩
theorem Zj : El Tryz.prog 5 (.int .u8 0) 1 1 := by unfold El; kernel_rfl
instance : ElC Tryz.prog 5 (.int .u8 0) 1 1 := ⟨Zj⟩
theorem WG : El Tryz.prog 9 (.string ByteArray.empty) 1 16 := by unfold El; kernel_rfl
instance : ElC Tryz.prog 9 (.string ByteArray.empty) 1 16 := ⟨WG⟩
theorem JC : El Tryz.prog 34 (.int .i64 0) 1 8 := by unfold El; kernel_rfl
instance : ElC Tryz.prog 34 (.int .i64 0) 1 8 := ⟨JC⟩
theorem Zl : El Tryz.prog 169 (.agg #[]) 0 0 := by unfold El; kernel_rfl
instance : ElC Tryz.prog 169 (.agg #[]) 0 0 := ⟨Zl⟩
theorem Xb : Bls Tryz.prog 169 [] [] := by unfold Bls; kernel_rfl
instance : Gs Tryz.prog 169 [] [] := ⟨Xb⟩
theorem KZ : El Tryz.prog 49 (.slice none 0 0) 1 24 := by unfold El; kernel_rfl
instance : ElC Tryz.prog 49 (.slice none 0 0) 1 24 := ⟨KZ⟩
theorem Xr : El Tryz.prog 109 (.slice none 0 0) 1 24 := by unfold El; kernel_rfl
instance : ElC Tryz.prog 109 (.slice none 0 0) 1 24 := ⟨Xr⟩
theorem dG : El Tryz.prog 27 (.slice none 0 0) 1 24 := by unfold El; kernel_rfl
instance : ElC Tryz.prog 27 (.slice none 0 0) 1 24 := ⟨dG⟩
theorem Xg : El Tryz.prog 78 (.slice none 0 0) 1 24 := by unfold El; kernel_rfl
instance : ElC Tryz.prog 78 (.slice none 0 0) 1 24 := ⟨Xg⟩
theorem Wd : El Tryz.prog 48 (.slice none 0 0) 1 24 := by unfold El; kernel_rfl
instance : ElC Tryz.prog 48 (.slice none 0 0) 1 24 := ⟨Wd⟩
theorem XR : El Tryz.prog 47 (.slice none 0 0) 1 24 := by unfold El; kernel_rfl
instance : ElC Tryz.prog 47 (.slice none 0 0) 1 24 := ⟨XR⟩
theorem WB : El Tryz.prog 178 (.slice none 0 0) 1 24 := by unfold El; kernel_rfl
instance : ElC Tryz.prog 178 (.slice none 0 0) 1 24 := ⟨WB⟩
theorem Zi : El Tryz.prog 22 (.slice none 0 0) 1 24 := by unfold El; kernel_rfl
instance : ElC Tryz.prog 22 (.slice none 0 0) 1 24 := ⟨Zi⟩
theorem X3 : El Tryz.prog 23 (.slice none 0 0) 1 24 := by unfold El; kernel_rfl
instance : ElC Tryz.prog 23 (.slice none 0 0) 1 24 := ⟨X3⟩
theorem bU : El Tryz.prog 117 (.slice none 0 0) 1 24 := by unfold El; kernel_rfl
instance : ElC Tryz.prog 117 (.slice none 0 0) 1 24 := ⟨bU⟩
theorem fN : El Tryz.prog 137 (.agg #[.int .i64 0, .int .i64 0]) 2 16 := by unfold El; kernel_rfl
instance : ElC Tryz.prog 137 (.agg #[.int .i64 0, .int .i64 0]) 2 16 := ⟨fN⟩
theorem dY : Fld Tryz.prog 137 0 0 := by unfold Fld; kernel_rfl
instance : FdC Tryz.prog 137 0 0 := ⟨dY⟩
theorem dE : Fld Tryz.prog 137 1 1 := by unfold Fld; kernel_rfl
instance : FdC Tryz.prog 137 1 1 := ⟨dE⟩
theorem cM : Bls Tryz.prog 137 [.int .i64 0, .int .i64 0] [(0, 1), (1, 1)] := by unfold Bls; kernel_rfl
instance : Gs Tryz.prog 137 [.int .i64 0, .int .i64 0] [(0, 1), (1, 1)] := ⟨cM⟩
theorem dm : Bl2 Tryz.prog 137 := by unfold Bl2; kernel_rfl
instance : BlC Tryz.prog 137 := ⟨dm⟩
theorem S8 : Fld Tryz.prog 197 0 0 := by unfold Fld; kernel_rfl
instance : FdC Tryz.prog 197 0 0 := ⟨S8⟩
theorem Sz : Fld Tryz.prog 197 1 1 := by unfold Fld; kernel_rfl
instance : FdC Tryz.prog 197 1 1 := ⟨Sz⟩
theorem Uh : Bl2 Tryz.prog 197 := by unfold Bl2; kernel_rfl
instance : BlC Tryz.prog 197 := ⟨Uh⟩
theorem Yv : Fld Tryz.prog 201 0 0 := by unfold Fld; kernel_rfl
instance : FdC Tryz.prog 201 0 0 := ⟨Yv⟩
theorem XG : Fld Tryz.prog 201 1 1 := by unfold Fld; kernel_rfl
instance : FdC Tryz.prog 201 1 1 := ⟨XG⟩
theorem bK : Bl2 Tryz.prog 201 := by unfold Bl2; kernel_rfl
instance : BlC Tryz.prog 201 := ⟨bK⟩
theorem RK : Fld Tryz.prog 193 0 0 := by unfold Fld; kernel_rfl
instance : FdC Tryz.prog 193 0 0 := ⟨RK⟩
theorem QZ : Fld Tryz.prog 193 1 1 := by unfold Fld; kernel_rfl
instance : FdC Tryz.prog 193 1 1 := ⟨QZ⟩
theorem Rf : Bls Tryz.prog 193 [.slice none 0 0, .slice none 0 0] [(0, 1), (1, 1)] := by unfold Bls; kernel_rfl
instance : Gs Tryz.prog 193 [.slice none 0 0, .slice none 0 0] [(0, 1), (1, 1)] := ⟨Rf⟩
theorem CT : El Tryz.prog 80 (.agg #[.slice none 0 0, .int .i64 0]) 2 32 := by unfold El; kernel_rfl
instance : ElC Tryz.prog 80 (.agg #[.slice none 0 0, .int .i64 0]) 2 32 := ⟨CT⟩
theorem Yh : Fld Tryz.prog 80 0 0 := by unfold Fld; kernel_rfl
instance : FdC Tryz.prog 80 0 0 := ⟨Yh⟩
theorem ZD : Fld Tryz.prog 80 1 1 := by unfold Fld; kernel_rfl
instance : FdC Tryz.prog 80 1 1 := ⟨ZD⟩
theorem XC : Bls Tryz.prog 80 [.slice none 0 0, .int .i64 0] [(0, 1), (1, 1)] := by unfold Bls; kernel_rfl
instance : Gs Tryz.prog 80 [.slice none 0 0, .int .i64 0] [(0, 1), (1, 1)] := ⟨XC⟩
theorem Z5 : Bl2 Tryz.prog 80 := by unfold Bl2; kernel_rfl
instance : BlC Tryz.prog 80 := ⟨Z5⟩
theorem aw : El Tryz.prog 59 (.agg #[.int .i64 0, .int .i64 0]) 2 16 := by unfold El; kernel_rfl
instance : ElC Tryz.prog 59 (.agg #[.int .i64 0, .int .i64 0]) 2 16 := ⟨aw⟩
theorem ZG : Fld Tryz.prog 59 0 0 := by unfold Fld; kernel_rfl
instance : FdC Tryz.prog 59 0 0 := ⟨ZG⟩
theorem W6 : Fld Tryz.prog 59 1 1 := by unfold Fld; kernel_rfl
instance : FdC Tryz.prog 59 1 1 := ⟨W6⟩
theorem We : Bls Tryz.prog 59 [.int .i64 0, .int .i64 0] [(0, 1), (1, 1)] := by unfold Bls; kernel_rfl
instance : Gs Tryz.prog 59 [.int .i64 0, .int .i64 0] [(0, 1), (1, 1)] := ⟨We⟩
theorem ab : Bl2 Tryz.prog 59 := by unfold Bl2; kernel_rfl
instance : BlC Tryz.prog 59 := ⟨ab⟩
theorem bW : El Tryz.prog 106 (.agg #[.int .i64 0, .int .i64 0]) 2 16 := by unfold El; kernel_rfl
instance : ElC Tryz.prog 106 (.agg #[.int .i64 0, .int .i64 0]) 2 16 := ⟨bW⟩
theorem ZN : Fld Tryz.prog 106 0 0 := by unfold Fld; kernel_rfl
instance : FdC Tryz.prog 106 0 0 := ⟨ZN⟩
theorem ZZ : Fld Tryz.prog 106 1 1 := by unfold Fld; kernel_rfl
instance : FdC Tryz.prog 106 1 1 := ⟨ZZ⟩
theorem bM : Bl2 Tryz.prog 106 := by unfold Bl2; kernel_rfl
instance : BlC Tryz.prog 106 := ⟨bM⟩
theorem YZ : El Tryz.prog 51 (.agg #[.slice none 0 0, .int .i64 0, .slice none 0 0, .slice none 0 0, .int .i64 0]) 5 88 := by unfold El; kernel_rfl
instance : ElC Tryz.prog 51 (.agg #[.slice none 0 0, .int .i64 0, .slice none 0 0, .slice none 0 0, .int .i64 0]) 5 88 := ⟨YZ⟩
theorem WA : Fld Tryz.prog 51 0 0 := by unfold Fld; kernel_rfl
instance : FdC Tryz.prog 51 0 0 := ⟨WA⟩
theorem Vi : Fld Tryz.prog 51 1 1 := by unfold Fld; kernel_rfl
instance : FdC Tryz.prog 51 1 1 := ⟨Vi⟩
theorem WJ : Fld Tryz.prog 51 2 2 := by unfold Fld; kernel_rfl
instance : FdC Tryz.prog 51 2 2 := ⟨WJ⟩
theorem U0 : Fld Tryz.prog 51 3 3 := by unfold Fld; kernel_rfl
instance : FdC Tryz.prog 51 3 3 := ⟨U0⟩
theorem Uj : Fld Tryz.prog 51 4 4 := by unfold Fld; kernel_rfl
instance : FdC Tryz.prog 51 4 4 := ⟨Uj⟩
theorem VN : Bls Tryz.prog 51 [.slice none 0 0, .int .i64 0, .slice none 0 0, .slice none 0 0, .int .i64 0] [(0, 1), (1, 1), (2, 1), (3, 1), (4, 1)] := by unfold Bls; kernel_rfl
instance : Gs Tryz.prog 51 [.slice none 0 0, .int .i64 0, .slice none 0 0, .slice none 0 0, .int .i64 0] [(0, 1), (1, 1), (2, 1), (3, 1), (4, 1)] := ⟨VN⟩
theorem Rw : Fld Tryz.prog 180 0 0 := by unfold Fld; kernel_rfl
instance : FdC Tryz.prog 180 0 0 := ⟨Rw⟩
theorem SH : Fld Tryz.prog 180 1 5 := by unfold Fld; kernel_rfl
instance : FdC Tryz.prog 180 1 5 := ⟨SH⟩
theorem S3 : Fld Tryz.prog 180 2 6 := by unfold Fld; kernel_rfl
instance : FdC Tryz.prog 180 2 6 := ⟨S3⟩
theorem Rx : Fld Tryz.prog 180 3 7 := by unfold Fld; kernel_rfl
instance : FdC Tryz.prog 180 3 7 := ⟨Rx⟩
theorem TF : Fld Tryz.prog 180 4 8 := by unfold Fld; kernel_rfl
instance : FdC Tryz.prog 180 4 8 := ⟨TF⟩
theorem SS : Fld Tryz.prog 180 5 9 := by unfold Fld; kernel_rfl
instance : FdC Tryz.prog 180 5 9 := ⟨SS⟩
theorem Sq : Fld Tryz.prog 180 6 10 := by unfold Fld; kernel_rfl
instance : FdC Tryz.prog 180 6 10 := ⟨Sq⟩
theorem SE : Bls Tryz.prog 180 [.slice none 0 0, .int .i64 0, .slice none 0 0, .slice none 0 0, .int .i64 0, .slice none 0 0, .slice none 0 0, .slice none 0 0, .slice none 0 0, .slice none 0 0, .int .i64 0] [(0, 5), (5, 1), (6, 1), (7, 1), (8, 1), (9, 1), (10, 1)] := by unfold Bls; kernel_rfl
instance : Gs Tryz.prog 180 [.slice none 0 0, .int .i64 0, .slice none 0 0, .slice none 0 0, .int .i64 0, .slice none 0 0, .slice none 0 0, .slice none 0 0, .slice none 0 0, .slice none 0 0, .int .i64 0] [(0, 5), (5, 1), (6, 1), (7, 1), (8, 1), (9, 1), (10, 1)] := ⟨SE⟩
theorem Xw : El Tryz.prog 215 (.agg #[.int .i64 0, .int .i64 0]) 2 16 := by unfold El; kernel_rfl
instance : ElC Tryz.prog 215 (.agg #[.int .i64 0, .int .i64 0]) 2 16 := ⟨Xw⟩
theorem Ub : Fld Tryz.prog 215 0 0 := by unfold Fld; kernel_rfl
instance : FdC Tryz.prog 215 0 0 := ⟨Ub⟩
theorem VE : Fld Tryz.prog 215 1 1 := by unfold Fld; kernel_rfl
instance : FdC Tryz.prog 215 1 1 := ⟨VE⟩
theorem Vt : Bls Tryz.prog 215 [.int .i64 0, .int .i64 0] [(0, 1), (1, 1)] := by unfold Bls; kernel_rfl
instance : Gs Tryz.prog 215 [.int .i64 0, .int .i64 0] [(0, 1), (1, 1)] := ⟨Vt⟩
theorem RL : El Tryz.prog 135 (.agg #[.string ByteArray.empty, .int .i64 0, .int .i64 0, .int .i64 0]) 4 40 := by unfold El; kernel_rfl
instance : ElC Tryz.prog 135 (.agg #[.string ByteArray.empty, .int .i64 0, .int .i64 0, .int .i64 0]) 4 40 := ⟨RL⟩
theorem Ow : Fld Tryz.prog 135 0 0 := by unfold Fld; kernel_rfl
instance : FdC Tryz.prog 135 0 0 := ⟨Ow⟩
theorem Oy : Fld Tryz.prog 135 1 1 := by unfold Fld; kernel_rfl
instance : FdC Tryz.prog 135 1 1 := ⟨Oy⟩
theorem PO : Fld Tryz.prog 135 2 2 := by unfold Fld; kernel_rfl
instance : FdC Tryz.prog 135 2 2 := ⟨PO⟩
theorem Nw : Fld Tryz.prog 135 3 3 := by unfold Fld; kernel_rfl
instance : FdC Tryz.prog 135 3 3 := ⟨Nw⟩
theorem PX : Bls Tryz.prog 135 [.string ByteArray.empty, .int .i64 0, .int .i64 0, .int .i64 0] [(0, 1), (1, 1), (2, 1), (3, 1)] := by unfold Bls; kernel_rfl
instance : Gs Tryz.prog 135 [.string ByteArray.empty, .int .i64 0, .int .i64 0, .int .i64 0] [(0, 1), (1, 1), (2, 1), (3, 1)] := ⟨PX⟩
theorem ct : El Tryz.prog 121 (.agg #[.int .i64 0, .slice none 0 0]) 2 32 := by unfold El; kernel_rfl
instance : ElC Tryz.prog 121 (.agg #[.int .i64 0, .slice none 0 0]) 2 32 := ⟨ct⟩
theorem aK : Fld Tryz.prog 121 0 0 := by unfold Fld; kernel_rfl
instance : FdC Tryz.prog 121 0 0 := ⟨aK⟩
theorem ar : Fld Tryz.prog 121 1 1 := by unfold Fld; kernel_rfl
instance : FdC Tryz.prog 121 1 1 := ⟨ar⟩
theorem dS : Bl2 Tryz.prog 121 := by unfold Bl2; kernel_rfl
instance : BlC Tryz.prog 121 := ⟨dS⟩
theorem Zz : El Tryz.prog 119 (.agg #[.slice none 0 0, .slice none 0 0]) 2 48 := by unfold El; kernel_rfl
instance : ElC Tryz.prog 119 (.agg #[.slice none 0 0, .slice none 0 0]) 2 48 := ⟨Zz⟩
theorem Wl : Fld Tryz.prog 119 0 0 := by unfold Fld; kernel_rfl
instance : FdC Tryz.prog 119 0 0 := ⟨Wl⟩
theorem YY : Fld Tryz.prog 119 1 1 := by unfold Fld; kernel_rfl
instance : FdC Tryz.prog 119 1 1 := ⟨YY⟩
theorem YV : Bls Tryz.prog 119 [.slice none 0 0, .slice none 0 0] [(0, 1), (1, 1)] := by unfold Bls; kernel_rfl
instance : Gs Tryz.prog 119 [.slice none 0 0, .slice none 0 0] [(0, 1), (1, 1)] := ⟨YV⟩
theorem Xv : El Tryz.prog 25 (.agg #[.slice none 0 0, .slice none 0 0]) 2 48 := by unfold El; kernel_rfl
instance : ElC Tryz.prog 25 (.agg #[.slice none 0 0, .slice none 0 0]) 2 48 := ⟨Xv⟩
theorem VH : Fld Tryz.prog 25 0 0 := by unfold Fld; kernel_rfl
instance : FdC Tryz.prog 25 0 0 := ⟨VH⟩
theorem Vd : Fld Tryz.prog 25 1 1 := by unfold Fld; kernel_rfl
instance : FdC Tryz.prog 25 1 1 := ⟨Vd⟩
theorem bL : El Tryz.prog 29 (.agg #[.slice none 0 0, .slice none 0 0, .slice none 0 0, .slice none 0 0]) 4 96 := by unfold El; kernel_rfl
instance : ElC Tryz.prog 29 (.agg #[.slice none 0 0, .slice none 0 0, .slice none 0 0, .slice none 0 0]) 4 96 := ⟨bL⟩
theorem XD : Fld Tryz.prog 29 0 0 := by unfold Fld; kernel_rfl
instance : FdC Tryz.prog 29 0 0 := ⟨XD⟩
theorem Ya : Fld Tryz.prog 29 1 2 := by unfold Fld; kernel_rfl
instance : FdC Tryz.prog 29 1 2 := ⟨Ya⟩
theorem Xo : Fld Tryz.prog 29 2 3 := by unfold Fld; kernel_rfl
instance : FdC Tryz.prog 29 2 3 := ⟨Xo⟩
theorem Yr : Bls Tryz.prog 29 [.slice none 0 0, .slice none 0 0, .slice none 0 0, .slice none 0 0] [(0, 2), (2, 1), (3, 1)] := by unfold Bls; kernel_rfl
instance : Gs Tryz.prog 29 [.slice none 0 0, .slice none 0 0, .slice none 0 0, .slice none 0 0] [(0, 2), (2, 1), (3, 1)] := ⟨Yr⟩
theorem ZW : El Tryz.prog 77 (.agg #[.slice none 0 0, .slice none 0 0]) 2 48 := by unfold El; kernel_rfl
instance : ElC Tryz.prog 77 (.agg #[.slice none 0 0, .slice none 0 0]) 2 48 := ⟨ZW⟩
theorem VL : Fld Tryz.prog 77 0 0 := by unfold Fld; kernel_rfl
instance : FdC Tryz.prog 77 0 0 := ⟨VL⟩
theorem Uz : Fld Tryz.prog 77 1 1 := by unfold Fld; kernel_rfl
instance : FdC Tryz.prog 77 1 1 := ⟨Uz⟩
theorem VT : Bls Tryz.prog 77 [.slice none 0 0, .slice none 0 0] [(0, 1), (1, 1)] := by unfold Bls; kernel_rfl
instance : Gs Tryz.prog 77 [.slice none 0 0, .slice none 0 0] [(0, 1), (1, 1)] := ⟨VT⟩
theorem TE : El Tryz.prog 33 (.agg #[.bool false, .int .i64 0, .int .i64 0, .int .i64 0, .int .i64 0, .bool false, .bool false]) 7 48 := by unfold El; kernel_rfl
instance : ElC Tryz.prog 33 (.agg #[.bool false, .int .i64 0, .int .i64 0, .int .i64 0, .int .i64 0, .bool false, .bool false]) 7 48 := ⟨TE⟩
theorem RN : Fld Tryz.prog 33 0 0 := by unfold Fld; kernel_rfl
instance : FdC Tryz.prog 33 0 0 := ⟨RN⟩
theorem QP : Fld Tryz.prog 33 1 1 := by unfold Fld; kernel_rfl
instance : FdC Tryz.prog 33 1 1 := ⟨QP⟩
theorem Pq : Fld Tryz.prog 33 2 2 := by unfold Fld; kernel_rfl
instance : FdC Tryz.prog 33 2 2 := ⟨Pq⟩
theorem Q8 : Fld Tryz.prog 33 3 3 := by unfold Fld; kernel_rfl
instance : FdC Tryz.prog 33 3 3 := ⟨Q8⟩
theorem Qf : Fld Tryz.prog 33 4 4 := by unfold Fld; kernel_rfl
instance : FdC Tryz.prog 33 4 4 := ⟨Qf⟩
theorem QX : Fld Tryz.prog 33 5 5 := by unfold Fld; kernel_rfl
instance : FdC Tryz.prog 33 5 5 := ⟨QX⟩
theorem Rl : Fld Tryz.prog 33 6 6 := by unfold Fld; kernel_rfl
instance : FdC Tryz.prog 33 6 6 := ⟨Rl⟩
theorem Qk : Bls Tryz.prog 33 [.bool false, .int .i64 0, .int .i64 0, .int .i64 0, .int .i64 0, .bool false, .bool false] [(0, 1), (1, 1), (2, 1), (3, 1), (4, 1), (5, 1), (6, 1)] := by unfold Bls; kernel_rfl
instance : Gs Tryz.prog 33 [.bool false, .int .i64 0, .int .i64 0, .int .i64 0, .int .i64 0, .bool false, .bool false] [(0, 1), (1, 1), (2, 1), (3, 1), (4, 1), (5, 1), (6, 1)] := ⟨Qk⟩
theorem Xe : Eq2 Tryz.prog 106 := ⟨by kernel_rfl, fun a b c d w => by
  have u3 := Tryz.underlying3
  rw [show (10000 : Nat) = 9999 + 1 from rfl, run_equalIn_agg w 9999 106 _ _ (by kernel_rfl) (by kernel_rfl)]
  simp only [Program.fieldsOf, Tryz.underlying106]
  go_simp
  by_cases h1 : a = c <;> by_cases h2 : b = d <;> simp [h1, h2]⟩
theorem Va : XP Tryz.prog 34 := ⟨_, Tryz.underlying34, fun _ h => by cases h⟩
instance : fJ Tryz.prog 34 := ⟨Va⟩
theorem mixed : Tryz.prog.follows .mixedOrders = true := by kernel_rfl
def IM : List D := [-1, 0, 0, 2, 2, 2, 2, 2, 2, 2, 1, 0, 0, 0, 1, 2, 2, 1, 1].map fun n => D.i .i64 n
def GP : List (Nat × List D) := [(0, IM)]
theorem cz : (0, IM) ∈ GP := by simp [GP]
end Go.Proofs.YtnlfhnbcdfdhgaaGreatDoor
namespace Go.Av
open Go
class Iy : Prop
class J7 : Prop
class IT (n : outParam Nat) : Prop
theorem useA [Iy] {p : Prop} (h : p) : p := h
theorem useH [J7] {p : Prop} (h : p) : p := h
section
variable {k : Kx} {Q : Exit → Env → H → Prop} {ρ : Env} {h : H}
theorem dU {n : Nat} [IT n] {id : Nat} {l : List Oper} (_hA : Nat.ble n (l.countP fun o => effB o.op) = true) (hj : Stop (J k (.region id l.toArray true) Q ρ h)) : J k (.region id l.toArray true) Q ρ h := hj.get
end
theorem fL {p : Prop} {i : Decidable p} (h : @decide p i = true) : p := of_decide_eq_true h
theorem eP {p : Prop} {i : Decidable p} (h : @decide p i = false) : ¬ p := of_decide_eq_false h
theorem Af {p : Prop} (h : p := by (first | omega | (simp only [List.length_map, List.length_range, List.length_append, List.length_cons, List.length_nil, List.length_take, List.length_drop, List.length_set, List.length_replicate]; omega))) : p := h
theorem CI {p : Prop} (h : p := by ((repeat (first | with_reducible exact Upd.here | with_reducible apply Upd.there)); first | done | fail)) : p := h
theorem BS {p : Prop} (h : p := by (intro q_; (repeat (first | with_reducible exact Upd.here | with_reducible apply Upd.there)); first | done | fail)) : p := h
theorem eK {p : Prop} (h : p := by ((repeat (first | exact Gp.nil | apply Gp.put | apply Gp.skip)); first | done | fail)) : p := h
theorem Ab {p : Prop} (h : p := by ((repeat (first | exact List.mem_cons_self | apply List.mem_cons_of_mem)); first | done | fail)) : p := h
theorem HX {p : Prop} (h : p := by ((repeat (first | exact List.nil_sublist _ | (with_reducible apply List.Sublist.cons_cons) | apply List.Sublist.cons)); first | done | fail)) : p := h
theorem AD {p : Prop} (h : p := by ((repeat (first | exact Take.nil | ((with_reducible apply Take.cons); (focus ((repeat (first | exact Sel.here | with_reducible apply Sel.there)); done))))); first | done | fail)) : p := h
theorem leD {p : Prop} (h : p := by
 repeat (first
  | exact Env.le_nil _
  | refine Env.le_cons (AV.le_refl _) ?_
  | refine Env.le_cons (AV.le_int rfl (by first | rfl | omega | (dsimp only; omega))) ?_)
 first | done | fail) : p := h
theorem cx {c q : Prop} (hc : c) (h : c → q := by intro hc; first | contradiction | (exfalso; omega)) : q := h hc
theorem cx1 {c q : Prop} (hc : c) (h : c → q := by intro hc; first | contradiction | (exfalso; omega) | (exfalso; exact absurd (fL hc) (by assumption)) | (exfalso; exact eP hc (by assumption))) : q := h hc
theorem ER {p : Prop} (h : p := by
 (first
  | (first
    | ((with_reducible apply Zy); rfl)
    | ((with_reducible apply VJ); rfl)
    | ((with_reducible apply Oz); rfl; rfl)
    | ((with_reducible apply YU); rfl; rfl)
    | ((with_reducible apply Xl); rfl; rfl)
    | ((with_reducible apply WW); rfl; rfl)
    | ((with_reducible apply Mx); rfl; rfl; rfl)
    | ((with_reducible apply Mu); rfl; rfl; rfl)
    | ((with_reducible apply ZU); rfl; rfl)
    )
  | (first
    | ((with_reducible apply Y8); rfl; rfl)
    | ((with_reducible apply W0); rfl; rfl)
    | ((with_reducible apply YG); rfl; rfl; (focus (first | (unfold AX; omega) | (unfold AX; simp only [Int.reduceToNat, Int.reducePow]; omega) | assumption)))
    | ((with_reducible apply Yb); rfl; rfl; (focus (first | (unfold AX; omega) | (unfold AX; simp only [Int.reduceToNat, Int.reducePow]; omega) | assumption)))
    | ((with_reducible apply ZC); rfl; rfl; (focus (first | (unfold AX; omega) | (unfold AX; simp only [Int.reduceToNat, Int.reducePow]; omega) | assumption)))
    | ((with_reducible apply Wv); rfl; rfl; omega; omega; omega)
    | ((with_reducible apply Xf); rfl; rfl; omega; omega)
    | ((with_reducible apply Xh); rfl; rfl; omega; omega; (focus (first | (unfold AX; omega) | (unfold AX; simp only [Int.reduceToNat, Int.reducePow]; omega) | assumption)))
    | ((with_reducible apply YO); rfl; rfl; omega; omega)
    )
  | (first
    | ((with_reducible apply R4); rfl; rfl; omega; omega; (focus (first | (unfold AX; omega) | (unfold AX; simp only [Int.reduceToNat, Int.reducePow]; omega) | assumption)))
    | ((with_reducible apply SX); rfl; rfl; omega; omega)
    | ((with_reducible apply pure_and1); rfl; rfl; omega; omega)
    | ((with_reducible apply pure_and); rfl; rfl)
    | ((with_reducible apply pure_or); rfl; rfl)
    | ((with_reducible apply YM); rfl; (focus (first | (unfold AX; omega) | (unfold AX; simp only [Int.reduceToNat, Int.reducePow]; omega) | assumption)))
    | ((with_reducible apply KV); rfl; rfl)
    | ((with_reducible apply pure_neq_string); rfl; rfl)
    | ((with_reducible apply OW); rfl; rfl)
    )
  | (first
    | ((with_reducible apply Mw); rfl; rfl)
    | ((with_reducible apply ZX); rfl)
    | ((with_reducible apply cY); rfl; rfl)
    | ((with_reducible apply Ri); rfl; rfl)
    | ((with_reducible apply dF); rfl; rfl)
    | ((with_reducible apply dW); rfl; rfl)
    | ((with_reducible apply PS); rfl; rfl; rfl; rfl; (focus (with_reducible exact ElC.h)); omega; (focus exact Af))
    | ((with_reducible apply Qi); rfl; (focus rfl); rfl; (focus (with_reducible exact ElC.h)); (focus exact Af))
    | ((with_reducible apply L9); rfl; rfl; rfl; (focus (with_reducible exact ElC.h)); (focus exact Af))
    | ((with_reducible apply Pa); rfl; rfl; rfl; (focus (with_reducible exact ElC.h)); omega; (focus exact Af))
    | ((with_reducible apply Yp); rfl; rfl)
    )
  | (first
    | ((with_reducible apply Xt); rfl; rfl; rfl)
    | ((with_reducible apply pu_slice); rfl; rfl; rfl; rfl; (focus (with_reducible exact ElC.h)); omega; omega; (focus exact Af))
    | ((with_reducible apply Mt); rfl; rfl; rfl; (focus (with_reducible exact ElC.h)); omega; (focus exact Af))
    | ((with_reducible apply Qd); rfl; rfl; rfl; (focus (with_reducible exact ElC.h)); omega; (focus exact Af))
    | ((with_reducible apply RG); rfl; rfl; rfl; (focus (with_reducible exact ElC.h)); omega)
    | ((with_reducible apply pu_index_ci1); rfl; rfl; rfl; (focus (with_reducible exact ElC.h)); omega; omega)
    | ((with_reducible apply HD); rfl; rfl; (focus (with_reducible exact ElC.h)); rfl; omega; omega)
    | ((with_reducible apply JT); rfl; rfl; rfl; (focus (with_reducible exact ElC.h)); (focus exact Ab); (focus exact Af))
    | ((with_reducible apply Mn); rfl; rfl; rfl; (focus (with_reducible exact ElC.h)); (focus exact Ab); omega; (focus exact Af))
    | ((with_reducible apply Kt); (focus (with_reducible exact FdC.h)); rfl)
    | ((with_reducible apply Na); rfl; rfl)
    | ((with_reducible apply QD); rfl; rfl; (focus (with_reducible exact ElC.h)); rfl)
    | ((with_reducible apply pu_neq2); (focus (with_reducible exact EqC.h)); rfl; rfl)
    )
  | (first
    | ((with_reducible apply RJ); rfl)
    | ((with_reducible apply MC); rfl)
    | ((with_reducible apply Ld); (focus (with_reducible exact FdC.h)); rfl)
    | ((with_reducible apply RO); rfl; rfl; (focus exact Ab); (focus exact Af))
    | ((with_reducible apply Mi); rfl; rfl; (focus exact Ab); (first | rfl | assumption | ((apply set_ne_get); (focus assumption); (focus (first | omega | exact Nat.ne_of_lt (Nat.lt_succ_self _))))))
    | ((with_reducible apply OV); rfl; rfl; (focus exact Ab); (focus exact fun _ => rfl); rfl; (focus exact Af))
    | ((with_reducible apply I5); rfl; rfl; (focus exact Ab); (focus exact fun _ => rfl); rfl; (focus exact Af))
    | ((with_reducible apply pu_field_row); (focus (with_reducible exact FdC.h)); rfl)
    | ((with_reducible apply JO); rfl; rfl; (focus (with_reducible exact ElC.h)); (focus exact Ab); rfl)
    | ((with_reducible apply YC); (focus (with_reducible exact fJ.h)); rfl)
    | ((with_reducible apply Pr); (focus (with_reducible exact BlC.h)); rfl; rfl; rfl; rfl)
    | ((with_reducible apply Xi); (focus (with_reducible exact Gs.h)); rfl; rfl; rfl)
    | ((with_reducible apply RS); rfl; rfl; rfl)
    )
  | (first
    | ((with_reducible apply Qw); rfl; rfl; rfl)
    | ((with_reducible apply pu_int_int); rfl; rfl; rfl; (focus (first | (unfold AX; omega) | (unfold AX; simp only [Int.reduceToNat, Int.reducePow]; omega) | assumption)))
    | ((with_reducible apply pu_bytes_string); rfl; rfl; rfl; rfl)
    | ((with_reducible apply SY); rfl; rfl; (focus exact Ab))
    | ((with_reducible apply PI); rfl; rfl; rfl; (focus (with_reducible exact ElC.h)); (focus exact Ab); omega; (focus exact Af))
    | ((with_reducible apply pu_index_cut); rfl; rfl; rfl; (focus (with_reducible exact ElC.h)); (focus exact Ab); omega; omega; (focus exact Af))
    | ((with_reducible apply TO); rfl; rfl; (focus exact Ab))
    | ((with_reducible apply pu_len_cut); rfl; rfl; (focus exact Ab))
    | ((with_reducible apply OR); rfl; rfl)
    | ((with_reducible apply PG); rfl; rfl; rfl; (focus (with_reducible exact ElC.h)); (focus exact Ab); omega; (focus exact Af))
    | ((with_reducible apply PZ); rfl; rfl; rfl; (focus (with_reducible exact ElC.h)); (focus exact Ab); (focus exact Af))
    | ((with_reducible apply Pu); rfl; exact OJ; exact cz; rfl; omega; omega)
    | ((with_reducible apply OD); rfl; rfl; rfl; (focus (with_reducible exact ElC.h)); omega; omega)
    )
  )) : p := h
theorem ca {P C p q : Prop} (k : P) (c : C) (hp : p) (h : P → C → p → q := by
 intro k_ c_
 apply cmp; (focus (first
  | ((with_reducible apply Dg); (focus rfl); (focus exact k_); (focus exact c_); (focus rfl))
  | ((with_reducible apply Bc); (focus rfl); (focus (decide +kernel)); (focus rfl); (focus exact k_); (focus exact c_); (focus rfl))))
 exact fun h => h) : q := h k c hp
theorem cae {P C p q : Prop} (k : P) (c : C) (hp : p) (h : P → C → p → q := by
 intro k_ c_
 apply cmp; (focus (first
  | ((with_reducible apply XV); (focus rfl); (focus exact k_); (focus exact c_); (focus rfl))
  | ((with_reducible apply RZ); (focus rfl); (focus (decide +kernel)); (focus rfl); (focus exact k_); (focus exact c_); (focus rfl))))
 exact fun h => h) : q := h k c hp
theorem caq {P C p q : Prop} (k : P) (c : C) (hp : p) (h : P → C → p → q := by
 intro k_ c_
 apply cmp; (focus ((with_reducible apply b7); (focus rfl); (focus exact k_); (focus exact c_); (focus rfl)))
 exact fun h => h) : q := h k c hp
theorem cag {P C p q : Prop} (k : P) (c : C) (hp : p) (h : P → C → p → q := by
 intro k_ c_
 apply cmp; (focus ((with_reducible apply As); (focus rfl); (focus exact k_); (focus exact c_); (focus ((repeat (first | with_reducible exact Take.nil | ((with_reducible apply Take.cons); (focus ((repeat (first | with_reducible exact Sel.here | with_reducible apply Sel.there)); done))))); done)); (focus rfl); (focus (intro v_; (repeat (first | exact App.nil | apply App.cons)); done))))
 exact fun h => h) : q := h k c hp
theorem cgv {P C p q : Prop} (k : P) (c : C) (hp : p) (h : P → C → p → q := by
 intro k_ c_
 apply cmp; (focus ((with_reducible apply Ev); (focus rfl); (focus rfl); (focus exact k_); (focus exact c_); (focus ((repeat (first | with_reducible exact Take.nil | ((with_reducible apply Take.cons); (focus ((repeat (first | with_reducible exact Sel.here | with_reducible apply Sel.there)); done))))); done)); (focus rfl); (focus (intro v_; (repeat (first | exact App.nil | apply App.cons)); done))))
 exact fun h => h) : q := h k c hp
end Go.Av
namespace Go.Proofs.YtnlfhnbcdfdhgaaGreatDoor
open Go Go.Av

theorem Xq {p q : Prop} (h : p → q := by
 apply cmp; (focus (first
  | ((with_reducible apply dz); (focus rfl); (focus rfl); (focus rfl))
  | ((with_reducible apply W8); (focus (with_reducible exact ElC.h)); (focus rfl); (focus rfl))
  | ((with_reducible apply aB); (focus (with_reducible exact ElC.h)); (focus rfl))
  | ((with_reducible apply YF); (focus rfl); (focus rfl); (focus (with_reducible exact ElC.h)); (focus omega); (focus omega); (focus rfl))
  | ((with_reducible apply bf); (focus rfl); (focus rfl); (focus (with_reducible exact ElC.h)); (focus omega); (focus omega); (focus rfl))
  | ((with_reducible apply dr); (focus rfl); (focus exact CI); (focus rfl); (focus rfl); (focus (with_reducible exact ElC.h)); (focus exact Af))
  | ((with_reducible apply fO); (focus rfl); (focus rfl); (focus rfl); (focus (with_reducible exact ElC.h)); (focus rfl); (focus exact CI); (focus rfl))
  | ((with_reducible apply dw); (focus rfl); (focus rfl); (focus rfl); (focus (with_reducible exact ElC.h)); (focus exact CI); (focus exact eK))
  | ((with_reducible apply eE); (focus rfl); (focus rfl); (focus rfl); (focus (with_reducible exact ElC.h)); (focus rfl); (focus exact CI); (focus exact eK))
  ))
 exact fun h => h) : p → q := h
theorem CH {p q : Prop} (hp : p) (h : p → q := by exact Xq) : q := h hp
theorem WE {p q : Prop} (h : p → q := by
 repeat1' (apply cmp; (focus (first
  | ((with_reducible apply dU); (focus (decide +kernel)))
  | ((refine useA ?_); (first
   | ((with_reducible apply BX); (focus rfl); (focus rfl); (focus (with_reducible exact ElC.h)); (focus exact BS); (focus rfl); (focus rfl); (focus rfl); (focus rfl); (focus exact Af); (focus exact Af))
   | ((with_reducible apply fI); (focus rfl); (focus rfl); (focus (with_reducible exact ElC.h)); (focus exact BS); (focus rfl); (focus rfl); (focus rfl); (focus rfl); (focus exact Af); (focus exact Af))
   | exact Xq
   | ((with_reducible apply XY); (focus rfl); (focus rfl); (focus (with_reducible exact ElC.h)); (focus exact CI); (focus exact fun _ => rfl); (focus rfl); (focus exact Af))
   | ((with_reducible apply aX); (focus rfl); (focus rfl); (focus (with_reducible exact ElC.h)); (focus rfl); (focus exact CI); (focus rfl); (focus exact fun _ => rfl); (focus exact Af))
   | ((with_reducible apply cd); (focus rfl); (focus rfl); (focus rfl); (focus (with_reducible exact ElC.h)); (focus exact BS); (focus exact fun _ => rfl); (focus omega); (focus exact Af); (focus rfl))
   ))
  | ((refine useH ?_); (first
   | (first
    | ((with_reducible apply HB); (focus exact mixed); (focus rfl); (focus ((repeat ((with_reducible apply Hd.cons); (focus rfl))); exact Hd.nil)); (focus ((repeat (with_reducible apply AU)); exact len_nil)); (focus (decide +kernel)))
    | ((with_reducible apply PU); (focus (decide +kernel)); (focus ((repeat (with_reducible apply App.cons)); exact App.nil)))
    | ((with_reducible apply Kk); (focus rfl); (focus (decide +kernel)); (focus exact ER); (focus rfl))
    | ((with_reducible apply Yf); (focus rfl); (focus rfl); (focus rfl); (focus rfl); (focus rfl); (focus (decide +kernel)); (focus exact ER); (focus rfl))
    | ((with_reducible apply Xj); (focus rfl); (focus rfl); (focus rfl); (focus rfl); (focus rfl); (focus (decide +kernel)); (focus rfl))
    | ((with_reducible apply jh_gu); (focus rfl); (focus rfl); (focus rfl); (focus rfl); (focus (decide +kernel)); (focus rfl))
    | ((with_reducible apply MY); (focus rfl); (focus rfl); (focus rfl); (focus rfl); (focus (decide +kernel)))
    | with_reducible apply Nu
    | with_reducible apply OF
    | ((with_reducible apply X0); (focus (decide +kernel)); (focus (decide +kernel)))
    | with_reducible exact Tj
    | ((with_reducible apply XS); (focus (decide +kernel)))
    | ((with_reducible apply Ts); (focus rfl))
    | with_reducible apply SO
    )
   ))
  | (first
    | (first
     | with_reducible exact LU
     | ((with_reducible apply jp); (focus exact ER); (focus rfl))
     | ((with_reducible apply jgt); (focus rfl); (focus rfl); (focus rfl); (focus rfl); (focus rfl))
     | ((with_reducible apply jgf); (focus rfl); (focus rfl); (focus rfl); (focus rfl); (focus rfl))
     | ((with_reducible apply jgu); (focus rfl); (focus rfl); (focus rfl); (focus rfl))
     | ((with_reducible apply jqu); (focus rfl); (focus rfl); (focus rfl); (focus rfl))
     | with_reducible exact DH
     | with_reducible exact dO
     | with_reducible exact au
     )
    | (first
     | with_reducible exact ZY
     | with_reducible exact U9
     | with_reducible exact dc
     | with_reducible exact aQ
     | ((with_reducible apply bq_exit'); (focus decide))
     | with_reducible exact Xc
     | ((with_reducible apply jpan); (focus rfl))
     | with_reducible exact L3
     | with_reducible exact Lr
     )
    | (first
     | ((with_reducible apply J_region_anyA); (focus exact mixed); (focus rfl); (focus ((repeat (with_reducible apply AU)); exact len_nil)); (focus (decide +kernel)))
     )
    | (first
     | ((with_reducible apply (Bk 0)); (focus exact mixed); (focus rfl); (focus ((repeat (with_reducible apply AU)); exact len_nil)); (focus (decide +kernel)); (focus ((repeat (with_reducible apply Mix.cons)); exact Mix.nil)))
     | ((with_reducible apply (Bk 1)); (focus exact mixed); (focus rfl); (focus ((repeat (with_reducible apply AU)); exact len_nil)); (focus (decide +kernel)); (focus ((repeat (with_reducible apply Mix.cons)); exact Mix.nil)))
     | ((with_reducible apply (Bk 2)); (focus exact mixed); (focus rfl); (focus ((repeat (with_reducible apply AU)); exact len_nil)); (focus (decide +kernel)); (focus ((repeat (with_reducible apply Mix.cons)); exact Mix.nil)))
     | ((with_reducible apply (Bk 3)); (focus exact mixed); (focus rfl); (focus ((repeat (with_reducible apply AU)); exact len_nil)); (focus (decide +kernel)); (focus ((repeat (with_reducible apply Mix.cons)); exact Mix.nil)))
     | ((with_reducible apply (Bk 4)); (focus exact mixed); (focus rfl); (focus ((repeat (with_reducible apply AU)); exact len_nil)); (focus (decide +kernel)); (focus ((repeat (with_reducible apply Mix.cons)); exact Mix.nil)))
     | ((with_reducible apply (Bk 5)); (focus exact mixed); (focus rfl); (focus ((repeat (with_reducible apply AU)); exact len_nil)); (focus (decide +kernel)); (focus ((repeat (with_reducible apply Mix.cons)); exact Mix.nil)))
     | ((with_reducible apply (Bk 6)); (focus exact mixed); (focus rfl); (focus ((repeat (with_reducible apply AU)); exact len_nil)); (focus (decide +kernel)); (focus ((repeat (with_reducible apply Mix.cons)); exact Mix.nil)))
     | ((with_reducible apply (Bk 7)); (focus exact mixed); (focus rfl); (focus ((repeat (with_reducible apply AU)); exact len_nil)); (focus (decide +kernel)); (focus ((repeat (with_reducible apply Mix.cons)); exact Mix.nil)))
     | ((with_reducible apply (Bk 8)); (focus exact mixed); (focus rfl); (focus ((repeat (with_reducible apply AU)); exact len_nil)); (focus (decide +kernel)); (focus ((repeat (with_reducible apply Mix.cons)); exact Mix.nil)))
     )
    | (first
     | with_reducible exact O8
     | ((with_reducible apply Mk); (focus exact mixed); (focus ((repeat (with_reducible apply AU)); exact len_nil)); (focus (decide +kernel)))
     | ((with_reducible apply (J_region_tailT 2)); (focus exact mixed); (focus ((repeat (with_reducible apply AU)); exact len_nil)); (focus (decide +kernel)))
     | ((with_reducible apply (J_region_tailT 3)); (focus exact mixed); (focus ((repeat (with_reducible apply AU)); exact len_nil)); (focus (decide +kernel)))
     | ((with_reducible apply (J_region_tailT 4)); (focus exact mixed); (focus ((repeat (with_reducible apply AU)); exact len_nil)); (focus (decide +kernel)))
     | ((with_reducible apply (J_region_tailT 5)); (focus exact mixed); (focus ((repeat (with_reducible apply AU)); exact len_nil)); (focus (decide +kernel)))
     | ((with_reducible apply (J_region_tailT 6)); (focus exact mixed); (focus ((repeat (with_reducible apply AU)); exact len_nil)); (focus (decide +kernel)))
     | ((with_reducible apply (J_region_tailT 7)); (focus exact mixed); (focus ((repeat (with_reducible apply AU)); exact len_nil)); (focus (decide +kernel)))
     | ((with_reducible apply J_region_draw); (focus exact mixed); (focus (decide +kernel)); (focus ((repeat (with_reducible apply AU)); exact len_nil)))
     | with_reducible exact cS
     | ((with_reducible apply jqp); (focus exact ER); (focus rfl))
     | ((with_reducible apply jqt); (focus rfl); (focus rfl); (focus rfl); (focus rfl); (focus rfl))
     | ((with_reducible apply jqf); (focus rfl); (focus rfl); (focus rfl); (focus rfl); (focus rfl))
     | (first
      | ((with_reducible apply jbuild_byte); (focus rfl); (focus rfl); (focus (with_reducible exact ElC.h)); (focus rfl); (focus rfl))
      | ((with_reducible apply SR); (focus rfl); (focus rfl); (focus (with_reducible exact ElC.h)); (focus rfl); (focus rfl))
      | ((with_reducible apply jbuild_bool); (focus rfl); (focus rfl); (focus (with_reducible exact ElC.h)); (focus rfl); (focus rfl))
      | ((with_reducible apply Rc); (focus rfl); (focus rfl); (focus (with_reducible exact ElC.h)); (focus rfl); (focus rfl))
      | ((with_reducible apply BI); (focus rfl); (focus rfl); (focus (with_reducible exact ElC.h)); (focus rfl); (focus rfl); (focus rfl); (focus rfl); (focus rfl))
      | ((with_reducible apply Sx); (focus rfl); (focus rfl); (focus (with_reducible exact ElC.h)); (focus rfl); (focus rfl)))
     | ((with_reducible apply japp); (focus rfl); (focus rfl); (focus rfl); (focus (with_reducible exact ElC.h)); (focus rfl); (focus rfl); (focus rfl); (focus exact Af); (focus exact Af))
     )
    | (first
     | ((with_reducible apply VK); (focus rfl); (focus rfl); (focus rfl); (focus (with_reducible exact ElC.h)); (focus rfl); (focus rfl); (focus rfl); (focus exact fun _ => rfl); (focus exact Af); (focus exact Af))
     | with_reducible exact cN
     | with_reducible exact eM
     | with_reducible exact cq
     | ((with_reducible apply ea); (focus rfl))
     | with_reducible exact Zh
     | with_reducible exact Ze
     | with_reducible exact Z8
     | with_reducible exact dd
     )
    | (first
     | with_reducible exact Vw
     )
    | (first
     | ((with_reducible apply je_q); (focus rfl); (focus (decide +kernel)); (focus exact ER); (focus rfl))
     | ((with_reducible apply je_qy); (focus rfl); (focus rfl); (focus rfl); (focus rfl); (focus rfl); (focus (decide +kernel)); (focus exact ER); (focus rfl))
     | ((with_reducible apply je_gt); (focus rfl); (focus rfl); (focus rfl); (focus rfl); (focus rfl); (focus (decide +kernel)); (focus rfl))
     | ((with_reducible apply je_gf); (focus rfl); (focus rfl); (focus rfl); (focus rfl); (focus rfl); (focus (decide +kernel)); (focus rfl))
     | ((with_reducible apply je_gu); (focus rfl); (focus rfl); (focus rfl); (focus rfl); (focus (decide +kernel)); (focus rfl))
     | ((with_reducible apply bE); (focus (decide +kernel)))
     | ((with_reducible apply bX); (focus ((repeat (with_reducible apply Rv.cons)); exact Rv.nil)))
     | ((with_reducible apply Z1); (focus (decide +kernel)))
     )
    | (first
     | ((with_reducible apply I6); (focus exact mixed); (focus rfl); (focus ((repeat (with_reducible apply AU)); exact len_nil)); (focus (decide +kernel)))
     | ((with_reducible apply YP); (focus (decide +kernel)))
     | ((with_reducible apply Pb); (focus rfl); (focus (decide +kernel)); (focus rfl); (focus rfl))
     | ((with_reducible apply jxp_assign); (focus rfl); (focus (decide +kernel)); (focus rfl); (focus rfl))
     | ((with_reducible apply jxp_extract); (focus rfl); (focus (decide +kernel)); (focus rfl); (focus rfl); (focus rfl))
     | with_reducible apply RA
     | ((with_reducible apply aj); (focus (decide +kernel)); (focus rfl))
     | with_reducible exact Z4
     | ((with_reducible apply cU); (focus (decide +kernel)))
     | ((with_reducible apply Wn); (focus rfl))
     | with_reducible apply jxp_nil
     | with_reducible apply fA
     )
    ))))
 exact fun h => h) : p → q := h
theorem stp {p q : Prop} (hp : p) (h : p → q := by exact WE) : q := h hp
theorem AP {p q : Prop} (hp : p) (h : p → q := by haveI fA_ : Iy := ⟨⟩; exact WE) : q := h hp
theorem AG {p q : Prop} (hp : p) (h : p → q := by haveI fA_ : Iy := ⟨⟩; haveI fH_ : J7 := ⟨⟩; exact WE) : q := h hp
theorem Ps {p q : Prop} (hp : p) (h : p → q := by haveI fA_ : Iy := ⟨⟩; haveI fH_ : J7 := ⟨⟩; haveI fS_ : IT 1 := ⟨⟩; exact WE) : q := h hp
theorem Hz {p q : Prop} (hp : p) (h : p → q := by haveI fA_ : Iy := ⟨⟩; haveI fH_ : J7 := ⟨⟩; haveI fS_ : IT 2 := ⟨⟩; exact WE) : q := h hp
theorem cb {p q : Prop} (hp : p) (h : p → q := by haveI fA_ : Iy := ⟨⟩; haveI fS_ : IT 2 := ⟨⟩; exact WE) : q := h hp
theorem AW {p : Prop} (h : p := by (repeat (first | with_reducible exact Take.nil | ((with_reducible apply Take.cons); (focus ((repeat (first | with_reducible exact Sel.here | with_reducible apply Sel.there)); done))))); first | done | fail) : p := h
theorem BO {p : Prop} (h : p := by intro v_; (repeat (first | exact App.nil | apply App.cons)); first | done | fail) : p := h
open Go Go.Av Go.Sp

theorem HJ : Cal Tryz.prog 192 := Cal.of Tryz.func192 (by kernel_rfl) (by kernel_rfl)
theorem Ee : Cal Tryz.prog 176 := Cal.of Tryz.func176 (by kernel_rfl) (by kernel_rfl)
theorem OB (G : List (Nat × List D)) (x : Int) : ACr Tryz.prog G 192 [.int x] (.tup [.int (partsOf x).1, .int (partsOf x).2]) := by
 refine Dl (ts := [2, 3]) 26 Tryz.func192 rfl rfl rfl (by simp) fun W I => ?_
 repeat' (first
  | exact True.intro
  | refine stp ?_
  | refine two ?_ ?_
  | (refine imp fun hc => ?_) <;> try exact cx hc
  | refine all fun v_ => ?_)
 all_goals ((with_reducible apply rq2); rfl; rfl; rfl)
 all_goals (refine AB ?_; simp [partsOf, *])

theorem VA (x : Int) (h1 : ¬ x < 1) (h2 : ¬ 18 < x) : IM[x.toNat]? = some (.i .i64 (partsOf x).1) ∧ (partsOf x).2 = 0 := by
 have : x = 1 ∨ x = 2 ∨ x = 3 ∨ x = 4 ∨ x = 5 ∨ x = 6 ∨ x = 7 ∨ x = 8 ∨ x = 9 ∨ x = 10 ∨ x = 11 ∨ x = 12 ∨ x = 13 ∨ x = 14 ∨ x = 15 ∨ x = 16 ∨ x = 17 ∨ x = 18 := by omega
 rcases this with h | h | h | h | h | h | h | h | h | h | h | h | h | h | h | h | h | h <;> subst h <;> exact ⟨rfl, rfl⟩

theorem NL (x : Int) : ACr Tryz.prog GP 176 [.int x] (.tup [.int (partsOf x).1, .int (partsOf x).2]) := by
 refine Dl (ts := [2, 3]) 13 Tryz.func176 rfl rfl rfl (by simp) fun W I => ?_
 repeat' (first
  | exact True.intro
  | refine stp ?_
  | refine two ?_ ?_
  | (refine imp fun hc => ?_) <;> try exact cx hc
  | refine all fun v_ => ?_)
 · ((with_reducible apply rq2); rfl; rfl; rfl)
   refine AB ?_
   rw [Ds x (by omega)]
 · ((with_reducible apply rq2); rfl; rfl; rfl)
   refine AB ?_
   rw [Ds x (by omega)]
 · obtain ⟨h1, h2⟩ := VA x (by omega) (by omega)
   refine jp (Nx (c := .i .i64 (partsOf x).1) rfl rfl (by rw [List.getElem?_drop, Nat.mul_one]; exact h1)) rfl ?_
   repeat' (first
    | exact True.intro
    | refine stp ?_
    | refine two ?_ ?_
    | (refine imp fun hc => ?_) <;> try exact cx hc
    | refine all fun v_ => ?_)
   ((with_reducible apply rq2); rfl; rfl; rfl)
   refine AB ?_
   rw [h2]; rfl

theorem AR (l : List Fo) (a : Int) (G : List (Nat × List D)) (h0 : 0 ≤ a) (ha : a ≤ 140737488355328) : ACr Tryz.prog G 163 [.d (AO l), .int a] (.tup [.int (Sp.AR l a).1, .int (Sp.AR l a).2]) := by
 refine Dl (ts := [4, 5]) 37 Tryz.func163 rfl rfl rfl (by simp) fun W I => ?_
 refine DB (t := 0) rfl fun hl => ?_
 repeat' (first
  | refine ca HJ (OB _ _) ?_
  | exact True.intro
  | refine stp ?_
  | refine two ?_ ?_
  | (refine imp fun hc => ?_) <;> try exact cx hc
  | refine all fun v_ => ?_)
 refine Ku (X := Nat × Int) (fun p => [(0, .d (AO l)), (6, .int p.2), (7, .int p.1)]) (fun _ => []) (fun p => a ≤ p.1 ∧ (p.1 ≤ l.length ∨ p.1 = a) ∧ 0 < p.2 ∧ p.2 ≤ 1 + (p.1 : Int) + (p.1 : Int) ∧ Sp.AR l a = scan (l.drop p.1) p.2 p.1) (fun p => l.length - p.1) (a.toNat, 1) ?_ ?_ rfl ?_
 · refine ⟨by omega, by omega, by omega, by omega, ?_⟩
   simp only [Sp.AR]; rw [Int.toNat_of_nonneg h0]
 · exact leD
 rintro ⟨i, w⟩ ⟨h1, h2, h3, h4, h5⟩
 dsimp only at h1 h2 h3 h4 h5 ⊢
 by_cases hi : i < l.length
 · have hd : l.drop i = l[i] :: l.drop (i + 1) := List.drop_eq_getElem_cons hi
   have hp := D4 l[i].kind
   rw [hd, B2] at h5
   repeat' (first
    | refine ca HJ (OB _ _) ?_
    | exact True.intro
    | refine stp ?_
    | refine two ?_ ?_
    | (refine imp fun hc => ?_) <;> try exact cx hc
    | refine all fun v_ => ?_)
   · ((with_reducible apply rq2); rfl; rfl; rfl)
     refine AB ?_
     rw [h5, if_pos hc]
   · ((with_reducible apply rq2); rfl; rfl; rfl)
     refine AB ?_
     rw [h5, if_neg (by assumption), if_pos hc]
   · refine ⟨(i + 1, w + (partsOf l[i].kind).1 - 1), ⟨by omega, by omega, by dsimp only; omega, by dsimp only; omega, ?_⟩, by dsimp only; omega, ?_, rfl⟩
     · rw [h5, if_neg (by assumption), if_neg hc]; rfl
     · exact leD
 · repeat' (first
    | refine ca HJ (OB _ _) ?_
    | exact True.intro
    | refine stp ?_
    | refine two ?_ ?_
    | (refine imp fun hc => ?_) <;> try exact cx hc
    | refine all fun v_ => ?_)
   ((with_reducible apply rq2); rfl; rfl; rfl)
   refine AB ?_
   rw [h5, List.drop_eq_nil_of_le (by omega)]; rfl

theorem QA : Cal Tryz.prog 138 := Cal.of Tryz.func138 (by kernel_rfl) (by kernel_rfl)
theorem Ni : Cal Tryz.prog 137 := Cal.of Tryz.func137 (by kernel_rfl) (by kernel_rfl)
theorem Am : Cal Tryz.prog 84 := Cal.of Tryz.func84 (by kernel_rfl) (by kernel_rfl)

theorem Sy (p q : Addr) (w : World) :
 CallsD Tryz.prog 137 #[.pointer (some p), .pointer (some q)] .returning w fun e u' w' => e = .returned (.tuple #[]) ∧ u' = .returning ∧ w' = w := by
 refine callsD_of_wpS Tryz.func137 rfl fun c₀ cs hu => ?_
 apply wpS_seq
 apply wpS_region
 simp [wpOpsS, go_sem, recoverD, hu, Tryz.ntmps137, Exit.thenS]
 apply wpS_seq
 apply wpS_region
 simp [wpOpsS, go_sem, Exit.thenS]
 refine wpS_cond (t := false) (by simp [Act.eval, Array.replicate]) ?_
 simp only [Bool.false_eq_true, if_false]
 refine wpS_of_wp (wp_skip ?_)
 cases c₀
 simp_all [bodyPostS, results, Tryz.results137]

theorem VC (b c : Nat) (hbc : b ≠ c) (x y : Value) (n : Int) (w : World) (hb : w.heap[b]? = some (.cells #[x] 49 (0, 0))) (hc : w.heap[c]? = some (.cells #[y] 34 (0, 0))) :
 CallsD Tryz.prog 137 #[.pointer (some ⟨b, 0, none⟩), .pointer (some ⟨c, 0, none⟩)] (.panicking [{ v := .iface 34 (.int .i64 n), recovered := false }]) w fun e u' w' =>
  e = .returned (.tuple #[]) ∧ u' = .panicking [{ v := .iface 34 (.int .i64 n), recovered := true }] ∧ w' = ((w.setCell ⟨b, 0, none⟩ (.slice none 0 0)).setCell ⟨c, 0, none⟩ (.int .i64 n)).drew := by
 refine callsD_of_wpS Tryz.func137 rfl fun c₀ cs hu => ?_
 apply wpS_seq
 apply wpS_region
 simp [wpOpsS, go_sem, recoverD, hu, Tryz.ntmps137, Exit.thenS]
 apply wpS_seq
 apply wpS_region
 simp [wpOpsS, go_sem, Exit.thenS]
 refine wpS_cond (t := true) (by simp [Act.eval, Array.replicate]) ?_
 simp only [if_true]
 refine wpS_of_wp ?_
 have hcb : w.cell? ⟨b, 0, none⟩ = some x := by rw [cell_of_row w b 0 _ _ _ hb]; rfl
 have hcc : w.cell? ⟨c, 0, none⟩ = some y := by rw [cell_of_row w c 0 _ _ _ hc]; rfl
 have fb : w.frozen? ⟨b, 0, none⟩ = false := by simp [World.frozen?, hb]
 have fc : w.frozen? ⟨c, 0, none⟩ = false := by simp [World.frozen?, hc]
 have hta : ∀ w : World, (Instr.typeAssert (.iface 34 (.int .i64 n)) 20 34 false).run Tryz.prog w = .ok (.int .i64 n) w := fun w => by
  simp [Instr.typeAssert, run_underlying Tryz.underlying34]
 go_region
 all_goals
  cases c₀
  simp_all [bodyPostS, results, Tryz.results137]

theorem Ml (p q : Addr) (h : H) : CD Tryz.prog 137 #[.pointer (some p), .pointer (some q)] .returning h h .returning :=
 fun _ _ w hok => (Sy p q w).mono fun _ _ _ ⟨h1, h2, h3⟩ => ⟨h1, h2, h3 ▸ hok, fun _ _ => by rw [h3]⟩
theorem OO (b c : Nat) (x y : AV) (n : Int) : CD Tryz.prog 137 #[.pointer (some ⟨b, 0, none⟩), .pointer (some ⟨c, 0, none⟩)] (.panicking [{ v := .iface 34 (.int .i64 n), recovered := false }])
 [.cells c 34 [y], .cells b 49 [x]] [.cells c 34 [.int n], .cells b 49 [.val (.slice none 0 0)]] (.panicking [{ v := .iface 34 (.int .i64 n), recovered := true }]) := by
 intro cx I w hok
 obtain ⟨u1, d1⟩ := Ent.cells_one (hok.ent (.cells b 49 [x]) (by simp))
 obtain ⟨u2, d2⟩ := Ent.cells_one (hok.ent (.cells c 34 [y]) (by simp))
 have hbc : b ≠ c := by
  have := hok.nd
  simp [blks, Ent.blk] at this
  exact fun e => this e.symm
 refine (VC b c hbc u1 u2 n w d1 d2).mono ?_
 rintro e u' w' ⟨h1, h2, rfl⟩
 obtain ⟨k1, k2⟩ := Ok.set1 (h1 := [.cells c 34 [y]]) (h2 := []) (v := .slice none 0 0) hok
 obtain ⟨k3, k4⟩ := Ok.set1 (h1 := []) (v := .int .i64 n) k1
 exact ⟨h1, h2, k3.same (C1.drewN 1), fun z hz => (k4 z hz).trans (k2 z hz)⟩

def Yx (l : List Fo) (b b' i : Nat) (es : List Int) (e : AE) (h : H) : Prop :=
 ∃ es' : List Int, es'.length = l.length ∧ h = [.cells b 197 [.d (AO l), .val (.slice (some ⟨b', 0, none⟩) l.length l.length)], .cells b' 3 (es'.map AV.int)] ∧
  ((∃ n : Nat, e = .ret (.int n) ∧ Sp.AR l i = ((n : Int), 0) ∧ (∀ j, i ≤ j → j < n → (Sp.AR l j).2 = 0 ∧ es'[j]? = some (Sp.AR l j).1) ∧ ∀ j, (j < i ∨ n ≤ j) → es'[j]? = es[j]?) ∨
   ((Sp.AR l i).2 ≠ 0 ∧ e = .pan [{ v := .iface 34 (.int .i64 (Sp.AR l i).2), recovered := false }]))

theorem skip (l : List Fo) (b b' : Nat) (hl : l.length ≤ 60) : ∀ (m i : Nat) (es : List Int), l.length ≤ i + m → es.length = l.length →
 AC Tryz.prog GP 138 [.val (.pointer (some ⟨b, 0, none⟩)), .int i] [.cells b 197 [.d (AO l), .val (.slice (some ⟨b', 0, none⟩) l.length l.length)], .cells b' 3 (es.map AV.int)] (Yx l b b' i es) := by
 have done : ∀ (i : Nat) (es : List Int), es.length = l.length → (l.length : Int) ≤ i → Yx l b b' i es (.pan [{ v := .iface 34 (.int .i64 4), recovered := false }]) [.cells b 197 [.d (AO l), .val (.slice (some ⟨b', 0, none⟩) l.length l.length)], .cells b' 3 (es.map AV.int)] := fun i es hes hi =>
  ⟨es, hes, rfl, .inr ⟨by rw [IW l i (by omega)]; decide, by rw [IW l i (by omega)]⟩⟩
 intro m
 induction m with
 | zero =>
   intro i es hm hes
   refine Dl (ts := [4]) 49 Tryz.func138 rfl rfl rfl (by simp) fun W I => ?_
   repeat' (first
    | refine ca Ee (NL _) ?_
    | exact True.intro
    | refine stp ?_
    | refine two ?_ ?_
    | (refine imp fun hc => ?_) <;> try exact cx hc
    | refine all fun v_ => ?_)
   exact done i es hes (by assumption)
 | succ m ih =>
   intro i es hm hes
   refine Dl (ts := [4]) 49 Tryz.func138 rfl rfl rfl (by simp) fun W I => ?_
   repeat' (first
    | refine ca Ee (NL _) ?_
    | exact True.intro
    | refine stp ?_
    | refine two ?_ ?_
    | (refine imp fun hc => ?_) <;> try exact cx hc
    | refine all fun v_ => ?_)
   · exact done i es hes (by assumption)
   · have he := Gw l i (by omega)
     rw [if_pos hc] at he
     exact ⟨es, hes, rfl, .inr ⟨by rw [he]; exact hc, by rw [he]⟩⟩
   have hi : i < l.length := by omega
   have he := Gw l i hi
   have hp := D4 l[i].kind
   rw [if_neg hc] at he
   generalize hn : (partsOf l[i].kind).1 = n at he hp ⊢
   refine Ku (X := Nat × Nat × List Int) (fun y => [(0, .val (.pointer (some ⟨b, 0, none⟩))), (1, .int i), (34, .int n), (35, .int y.1), (7, .int y.2.1)])
    (fun y => [.cells b 197 [.d (AO l), .val (.slice (some ⟨b', 0, none⟩) l.length l.length)], .cells b' 3 (y.2.2.map AV.int)])
    (fun y => (y.1 : Int) ≤ n ∧ i < y.2.1 ∧ y.2.1 ≤ l.length ∧ y.2.2.length = l.length ∧ Sp.AR l i = (if n - y.1 = 0 then ((y.2.1 : Int), 0) else scan (l.drop y.2.1) (n - y.1) y.2.1) ∧
     (∀ j, i < j → j < y.2.1 → (Sp.AR l j).2 = 0 ∧ y.2.2[j]? = some (Sp.AR l j).1) ∧ ∀ j, (j ≤ i ∨ y.2.1 ≤ j) → y.2.2[j]? = es[j]?)
    (fun y => n.toNat - y.1) (0, i + 1, es) ?_ ?_ rfl ?_
   · refine ⟨by omega, by dsimp only; omega, by dsimp only; omega, hes, ?_, fun j h1 h2 => by dsimp only at h2; omega, fun _ _ => rfl⟩
     rw [he]
     have : (1 : Int) + n - 1 = n - ((0 : Nat) : Int) := by omega
     dsimp only
     rw [this]
     rfl
   · exact leD
   rintro ⟨j, e, fs⟩ ⟨h1, h2, h3, h4, h5, h6, h7⟩
   dsimp only at h1 h2 h3 h4 h5 h6 h7 ⊢
   repeat' (first
    | refine ca Ee (NL _) ?_
    | exact True.intro
    | refine stp ?_
    | refine two ?_ ?_
    | (refine imp fun hc => ?_) <;> try exact cx hc
    | refine all fun v_ => ?_)
   · refine dy rfl QA (ih e fs (by omega) h4) rfl (fun r h' hq => ?_) (fun ch h' hq => ?_)
     · obtain ⟨es', k1, rfl, ⟨n', k2, k3, k4, k5⟩ | ⟨_, k2⟩⟩ := hq
       · cases k2
         repeat' (first
          | refine ca Ee (NL _) ?_
          | exact True.intro
          | refine stp ?_
          | refine two ?_ ?_
          | (refine imp fun hc => ?_) <;> try exact cx hc
          | refine all fun v_ => ?_)
         have hb := A7 l e (by rw [k3])
         rw [k3] at hb
         refine ⟨(j + 1, n', es'), ⟨by dsimp only; omega, by dsimp only at hb ⊢; omega, by dsimp only at hb ⊢; omega, k1, ?_, ?_, ?_⟩, by dsimp only; omega, ?_, rfl⟩
         · rw [h5, if_neg (by omega)]
           dsimp only
           by_cases hlast : n - ((j + 1 : Nat) : Int) = 0
           · rw [if_pos hlast]
             have : n - (j : Int) = 1 := by omega
             rw [this]
             have := k3
             unfold Sp.AR at this
             rwa [Int.toNat_natCast] at this
           · rw [if_neg hlast]
             have : n - (j : Int) = (n - ((j + 1 : Nat) : Int)) + 1 := by omega
             rw [this, GF l e _ (by omega), k3]
             rfl
         · intro p hp1 hp2
           dsimp only at hp2 ⊢
           by_cases hpe : e ≤ p
           · exact k4 p hpe hp2
           · rw [k5 p (.inl (by omega))]
             exact h6 p hp1 (by omega)
         · intro p hp1
           dsimp only at hp1 ⊢
           dsimp only at hb
           rw [k5 p (by omega)]
           exact h7 p (by omega)
         · exact leD
       · cases k2
     · obtain ⟨es', k1, rfl, ⟨n', k2, k3, k4⟩ | ⟨k3, k2⟩⟩ := hq
       · cases k2
       · cases k2
         repeat' (refine stp ?_)
         refine ⟨es', k1, rfl, .inr ?_⟩
         have : (Sp.AR l i).2 = (Sp.AR l e).2 := by
          rw [h5, if_neg (by omega)]
          by_cases hlast : n - (j : Int) = 1
          · rw [hlast]; unfold Sp.AR; rw [Int.toNat_natCast]
          · have h : n - (j : Int) = (n - ((j + 1 : Nat) : Int)) + 1 := by omega
            rw [h, GF l e _ (by omega), if_pos k3]
         rw [this]
         exact ⟨k3, rfl⟩
   · repeat' (first
      | refine ca Ee (NL _) ?_
      | exact True.intro
      | refine stp ?_
      | refine two ?_ ?_
      | (refine imp fun hc => ?_) <;> try exact cx hc
      | refine all fun v_ => ?_)
     refine dI (h1 := [_]) rfl rfl OJ rfl (by omega) ?_
     simp only [List.cons_append, List.nil_append, Int.toNat_natCast, Nat.mul_one]
     repeat' (first
      | refine ca Ee (NL _) ?_
      | exact True.intro
      | refine stp ?_
      | refine two ?_ ?_
      | (refine imp fun hc => ?_) <;> try exact cx hc
      | refine all fun v_ => ?_)
     ((with_reducible apply rq1); rfl; rfl)
     have hz : n - (j : Int) = 0 := by omega
     rw [if_pos hz] at h5
     refine ⟨fs.set i e, by simpa using h4, rfl, .inl ⟨e, rfl, h5, fun p hp1 hp2 => ?_, fun p hp1 => ?_⟩⟩
     · by_cases hpi : p = i
       · subst hpi
         rw [h5]
         exact ⟨rfl, by rw [List.getElem?_set_self (by omega)]⟩
       · rw [List.getElem?_set_ne (by omega)]
         exact h6 p (by omega) hp2
     · rw [List.getElem?_set_ne (by omega)]
       exact h7 p (by omega)

theorem Ends (l : List Fo) : ACr Tryz.prog GP 84 [.d (AO l)] (.tup [.d (AK (Aw l).1), .int (Aw l).2]) := by
 refine Wz 25 Tryz.func84 rfl rfl (by simp) fun W I => ?_
 apply ES
 repeat' (first
  | exact True.intro
  | refine stp ?_
  | refine two ?_ ?_
  | (refine imp fun hc => ?_) <;> try exact cx hc
  | refine all fun v_ => ?_)
 refine Om KZ rfl rfl fun b2 => ?_
 refine Om JC rfl rfl fun b3 => ?_
 repeat' (first
  | exact True.intro
  | refine stp ?_
  | refine two ?_ ?_
  | (refine imp fun hc => ?_) <;> try exact cx hc
  | refine all fun v_ => ?_)
 apply Bu
 apply ES
 repeat' (first
  | exact True.intro
  | refine stp ?_
  | refine two ?_ ?_
  | (refine imp fun hc => ?_) <;> try exact cx hc
  | refine all fun v_ => ?_)
 · refine PK (h1 := [_]) rfl rfl rfl KZ rfl ?_
   simp only [List.cons_append, List.nil_append]
   refine PK (h1 := []) rfl rfl rfl JC rfl ?_
   simp only [List.nil_append]
   repeat' (first
    | exact True.intro
    | refine stp ?_
    | refine two ?_ ?_
    | (refine imp fun hc => ?_) <;> try exact cx hc
    | refine all fun v_ => ?_)
   apply Oc
   refine Dz rfl (by unfold A0; kernel_rfl) (by unfold A0; kernel_rfl) rfl rfl (List.mem_cons_of_mem _ List.mem_cons_self) List.mem_cons_self rfl (List.nil_sublist _) (AV.le_nil 1 8) (AV.le_refl _) ?_
   refine AB ?_
   rw [Aw, if_pos (by omega)]; rfl
 apply Bu
 dsimp only
 refine R9 (Pw (vs := [.pointer (some ⟨b2, 0, none⟩), .pointer (some ⟨b3, 0, none⟩)]) rfl rfl ?_)
 apply Bu
 dsimp only
 apply ES
 repeat' (first
  | exact True.intro
  | refine stp ?_
  | refine two ?_ ?_
  | (refine imp fun hc => ?_) <;> try exact cx hc
  | refine all fun v_ => ?_)
 refine Vh rfl rfl OJ (by omega) (by omega) rfl fun b' => ?_
 repeat' (first
  | exact True.intro
  | refine stp ?_
  | refine two ?_ ?_
  | (refine imp fun hc => ?_) <;> try exact cx hc
  | refine all fun v_ => ?_)
 refine fE rfl rfl rfl fun b => ?_
 repeat' (first
  | exact True.intro
  | refine stp ?_
  | refine two ?_ ?_
  | (refine imp fun hc => ?_) <;> try exact cx hc
  | refine all fun v_ => ?_)
 apply Bu
 dsimp only
 apply ES
 repeat' (first
  | exact True.intro
  | refine stp ?_
  | refine two ?_ ?_
  | (refine imp fun hc => ?_) <;> try exact cx hc
  | refine all fun v_ => ?_)
 have hk : AC Tryz.prog GP 138 [.val (.pointer (some ⟨b, 0, none⟩)), .int 0] [.cells b 197 [.d (AO l), .val (.slice (some ⟨b', 0, none⟩) l.length l.length)], .cells b' 3 ((List.replicate l.length 0).map AV.int)] (Yx l b b' 0 (List.replicate l.length 0)) :=
  skip l b b' (by omega) l.length 0 (List.replicate l.length 0) (by omega) (by simp)
 have pan : ∀ (n : Int) (ρ : Env) (es : List Int), n = (Aw l).2 → (Aw l).1 = [] →
  LQ ⟨Tryz.prog, ⟨W, I, [], GP⟩, 25, [{ target := .fn (.func 137) #[.pointer (some ⟨b2, 0, none⟩), .pointer (some ⟨b3, 0, none⟩)], args := #[] }]⟩ Tryz.f84
   (Ll GP W I [] fun e h => e = .ret (.tup [.d (AK (Aw l).1), .int (Aw l).2]) ∧ h = []) (some (.panicking [{ v := .iface 34 (.int .i64 n), recovered := false }]))
   ((2, .val (.pointer (some ⟨b2, 0, none⟩))) :: (3, .val (.pointer (some ⟨b3, 0, none⟩))) :: ρ)
   [.cells b 197 [.d (AO l), .val (.slice (some ⟨b', 0, none⟩) l.length l.length)], .cells b' 3 (es.map AV.int), .cells b3 34 [.val (.int .i64 0)], .cells b2 49 [.val (.slice none 0 0)]]
   [{ target := .fn (.func 137) #[.pointer (some ⟨b2, 0, none⟩), .pointer (some ⟨b3, 0, none⟩)], args := #[] }] := by
  intro n ρ es h1 h2
  refine US (VS.drop (h' := [.cells b3 34 [.val (.int .i64 0)], .cells b2 49 [.val (.slice none 0 0)]]) (.cons _ (.cons _ (.refl _)))) ?_
  refine Iu (by simp) Ni (OO b2 b3 _ _ n) (m := .returning) rfl ?_
  refine Dz (h0 := []) (y1 := .d (AK [])) rfl (by unfold A0; kernel_rfl) (by unfold A0; kernel_rfl) rfl rfl (List.mem_cons_of_mem _ List.mem_cons_self) List.mem_cons_self rfl (List.nil_sublist _) (AV.le_nil 1 8) (AV.le_refl _) ?_
  refine AB ?_
  rw [h1, h2]
 have h60 : ¬ 60 < l.length := by omega
 refine MH (hc := [_, _]) rfl QA rfl hk rfl (fun r h' hq => ?_) (fun ch h' hq => ?_)
 · obtain ⟨es', k1, rfl, ⟨n', k2, k3, k4, k5⟩ | ⟨_, k2⟩⟩ := hq
   · cases k2
     have hb := A7 l 0 (by rw [show ((0 : Nat) : Int) = 0 from rfl]; rw [show ((0 : Nat) : Int) = 0 from rfl] at k3; rw [k3])
     rw [show ((0 : Nat) : Int) = 0 from rfl] at k3 hb
     rw [k3] at hb
     simp only [List.cons_append, List.nil_append]
     repeat' (first
      | exact True.intro
      | refine stp ?_
      | refine two ?_ ?_
      | (refine imp fun hc => ?_) <;> try exact cx hc
      | refine all fun v_ => ?_)
     · apply Jr
       dsimp only at hb
       have h3 : (Aw l) = ([], 3) := by rw [Aw, if_neg h60, k3, if_neg (by simp), if_pos (by dsimp only; omega)]
       refine US (VS.of_le ?_) (pan _ [] es' ?_ ?_)
       · exact leD
       · rw [h3]
       · rw [h3]
     · have hn : n' = l.length := by omega
       have he : es' = (List.range l.length).map fun i : Nat => (Sp.AR l i).1 := by
        apply List.ext_getElem?
        intro j
        by_cases hj : j < l.length
        · rw [(k4 j (Nat.zero_le _) (by omega)).2, List.getElem?_map, List.getElem?_range hj]; rfl
        · rw [List.getElem?_eq_none (by omega), List.getElem?_eq_none (by simp; omega)]
       have h3 : (Aw l) = (es', 0) := by rw [Aw, if_neg h60, k3, if_neg (by simp), if_neg (by dsimp only; omega), he]
       apply Bu
       dsimp only
       apply YL
       repeat' (first
        | exact True.intro
        | refine stp ?_
        | refine two ?_ ?_
        | (refine imp fun hc => ?_) <;> try exact cx hc
        | refine all fun v_ => ?_)
       refine C3 (VS.freezeCells (t := 24) (h1 := [_]) (rows := es'.map Aa) (sz := 1) (eb := 8) (by decide) rfl rfl (Jg es') (by simp [k1]) (by simp [Aa]) (by omega) (by simp only [maxLen]; omega)) ?_
       simp only [List.cons_append, List.nil_append]
       refine PK (h1 := [_, _]) rfl rfl rfl KZ rfl ?_
       simp only [List.cons_append, List.nil_append]
       refine PK (h1 := [_]) rfl rfl rfl JC rfl ?_
       simp only [List.cons_append, List.nil_append]
       repeat' (first
        | exact True.intro
        | refine stp ?_
        | refine two ?_ ?_
        | (refine imp fun hc => ?_) <;> try exact cx hc
        | refine all fun v_ => ?_)
       refine Iu (by simp) Ni (Ml _ _ _) (m := .returning) rfl ?_
       refine Dz (h0 := []) rfl (by unfold A0; kernel_rfl) (by unfold A0; kernel_rfl) rfl rfl (List.mem_cons_of_mem _ (List.mem_cons_of_mem _ List.mem_cons_self)) (List.mem_cons_of_mem _ List.mem_cons_self) rfl (List.nil_sublist _) (AV.le_refl _) (AV.le_refl _) ?_
       refine AB ?_
       rw [h3]
   · cases k2
 · obtain ⟨es', k1, rfl, ⟨n', k2, k3, k4⟩ | ⟨k3, k2⟩⟩ := hq
   · cases k2
   · cases k2
     have k3 : (Sp.AR l 0).2 ≠ 0 := k3
     repeat' (refine stp ?_)
     apply Jr
     refine US (VS.of_le ?_) (pan _ [] es' ?_ ?_)
     · exact leD
     · rw [Aw, if_neg h60, if_pos k3]; rfl
     · rw [Aw, if_neg h60, if_pos k3]

theorem ops (G : List (Nat × List D)) (a : List Fo) (ha : a.length * 16 ≤ 140737488355328) : ACr Tryz.prog G 27 [.d (AO a)] (.d (AO a)) := by
 refine AJ (ts := [2]) 5 Tryz.func27 rfl rfl rfl (by simp) fun W I => ?_
 repeat' (first
  | exact True.intro
  | refine stp ?_
  | refine two ?_ ?_
  | (refine imp fun hc => ?_) <;> try exact cx hc
  | refine all fun v_ => ?_)
 refine A6 ?_
 ((with_reducible apply rq1); rfl; rfl)
 exact AB rfl


end Go.Proofs.YtnlfhnbcdfdhgaaGreatDoor
