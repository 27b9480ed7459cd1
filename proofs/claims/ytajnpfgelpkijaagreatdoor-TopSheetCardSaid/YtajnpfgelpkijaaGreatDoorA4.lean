/- A bundle of this claim's own texts: Se Sd Sf G9 G2 G10. -/
import Derived.Test.YtajnpfgelpkijaaGreatDoorA2
import Derived.Test.YtajnpfgelpkijaaGreatDoorA3
set_option linter.unusedVariables false
set_option linter.unusedSimpArgs false
set_option maxRecDepth 100000
set_option maxHeartbeats 4000000
namespace Go.Sp
open Go.Av

abbrev okP (k : Int) : Prop := 1 ≤ k ∧ k ≤ 12
abbrev DE (k : Int) : Prop := 6 ≤ k ∧ k ≤ 12
abbrev GJ (k : Int) : Prop := 8 ≤ k ∧ k ≤ 12
def opZ (k v vars : Int) : Int :=
 if ¬ okP k then 13
 else if (k = 1 ∧ (v < -1000 ∨ 1000 < v)) ∨ (k = 2 ∧ (v < 0 ∨ vars ≤ v)) ∨ (2 < k ∧ v ≠ 0) then 2 else 0
def II : List Fo → Int → Int
 | [], _ => 0
 | o :: r, vars => if opZ o.kind o.val vars ≠ 0 then opZ o.kind o.val vars else II r vars
theorem Ul (l : List Fo) (i : Nat) (hi : i < l.length) (vars : Int) : II (l.drop i) vars = if opZ l[i].kind l[i].val vars ≠ 0 then opZ l[i].kind l[i].val vars else II (l.drop (i + 1)) vars := by
 rw [List.drop_eq_getElem_cons hi]; rfl
theorem Z8 (l : List Fo) (i : Nat) (hi : l.length ≤ i) (vars : Int) : II (l.drop i) vars = 0 := by
 rw [List.drop_eq_nil_of_le hi]; rfl

def AW (l : List Fo) (i : Nat) : Int := (l[i]?.map Fo.kind).getD 0
theorem BN (l : List Fo) (i : Nat) (hi : i < l.length) : AW l i = l[i].kind := by unfold AW; rw [List.getElem?_eq_getElem hi]; rfl
def EB (l : List Fo) : Nat → Nat → List Nat
 | 0, _ => []
 | k + 1, i => i :: EB l k (AT l i).1.toNat
abbrev JS (l : List Fo) (at_ p : Nat) : Prop := (DE (AW l p) ↔ GJ (AW l at_))
abbrev Oz (l : List Fo) (at_ : Nat) : Prop := ∀ p ∈ EB l (partsOf (AW l at_)).1.toNat (at_ + 1), JS l at_ p
abbrev Ig (l : List Fo) : Prop := ∀ i, i < l.length → Oz l i

structure Ey (l : List Fo) (n j i e : Nat) : Prop where
 le : j ≤ n
 upto : i ≤ e
 more : j < n → scan (l.drop i) ((n - j : Nat) : Int) i = ((e : Int), 0)
 fin : j = n → i = e
theorem Ey.start {l : List Fo} {i : Nat} (hi : i < l.length) (h : (AT l i).2 = 0) : Ey l (partsOf l[i].kind).1.toNat 0 (i + 1) (AT l i).1.toNat := by
 have hb := BA l i h
 have h' := HQ l i hi
 have hp := Dj l[i].kind
 by_cases h1 : (partsOf l[i].kind).2 ≠ 0
 · rw [if_pos h1] at h'; rw [h'] at h; exact absurd h h1
 rw [if_neg h1] at h'
 refine ⟨Nat.zero_le _, by omega, fun h2 => ?_, fun h2 => ?_⟩
 · rw [if_neg (by omega)] at h'
   have e : (1 : Int) + (partsOf l[i].kind).1 - (1 : Int) = (((partsOf l[i].kind).1.toNat - 0 : Nat) : Int) := by omega
   have e2 : ((i + 1 : Nat) : Int) = (i : Int) + 1 := by omega
   rw [e2, ← e, ← h']
   refine Prod.ext ?_ ?_
   · dsimp only; omega
   · exact h
 · rw [if_pos (by omega)] at h'
   rw [h']; dsimp only; omega
theorem Ey.next {l : List Fo} {n j i e : Nat} (p : Ey l n j i e) (hj : j < n) : (AT l i).2 = 0 ∧ (i : Int) < (AT l i).1 ∧ (AT l i).1 ≤ e ∧ Ey l n (j + 1) (AT l i).1.toNat e := by
 obtain ⟨k1, k2, k3, k4, k5⟩ := S4 (by omega) (p.more hj)
 have hle := (LS (by omega) (p.more hj)).2
 refine ⟨k1, k2, hle, by omega, by omega, fun h => ?_, fun h => ?_⟩
 · have := k5 (by omega)
   rwa [show n - j - 1 = n - (j + 1) by omega] at this
 · have := k4 (by omega)
   omega
theorem Ey.lt {l : List Fo} {n j i e : Nat} (p : Ey l n j i e) : j < n ↔ i < e := by
 constructor
 · intro h
   have := p.next h
   omega
 · intro h
   have := p.le
   have := p.fin
   omega

def Cn (l : List Fo) (vars : Int) : Bool × Int :=
 if vars < 0 ∨ 6 < vars then (false, 2)
 else if (Az l).2 ≠ 0 then (false, (Az l).2)
 else if II l vars ≠ 0 then (false, II l vars)
 else if Ig l then (decide (DE (AW l 0)), 0) else (false, 5)

def D1 (k v props : Int) : Int := if k < 8 then 13 else if (k = 13 ∧ (v < 0 ∨ props ≤ v)) ∨ (k ≠ 13 ∧ v ≠ 0) then 2 else 0
abbrev AU (k : Int) : Prop := 14 ≤ k ∧ k ≤ 18
def HZ : List Fo → Int → Nat → Int
 | [], _, n => if 6 < n then 1 else 0
 | o :: r, props, n => if D1 o.kind o.val props ≠ 0 then D1 o.kind o.val props else HZ r props (if AU o.kind then n + 1 else n)
def DS (l : List Fo) (props : Int) : Int := if props < 0 ∨ 6 < props then 2 else if (Az l).2 ≠ 0 then (Az l).2 else HZ l props 0
theorem RG (l : List Fo) (i : Nat) (hi : i < l.length) (props : Int) (n : Nat) : HZ (l.drop i) props n = if D1 l[i].kind l[i].val props ≠ 0 then D1 l[i].kind l[i].val props else HZ (l.drop (i + 1)) props (if AU l[i].kind then n + 1 else n) := by
 rw [List.drop_eq_getElem_cons hi]; rfl
theorem Nu (l : List Fo) (i : Nat) (hi : l.length ≤ i) (props : Int) (n : Nat) : HZ (l.drop i) props n = if 6 < n then 1 else 0 := by
 rw [List.drop_eq_nil_of_le hi]; rfl
def DI : List Fo → Nat → List Int
 | [], _ => []
 | o :: r, i => if AU o.kind then (i : Int) :: DI r (i + 1) else DI r (i + 1)
def Ak (l : List Fo) (props : Int) : List Int × Int := if DS l props ≠ 0 then ([], DS l props) else (DI l 0, 0)
theorem J8 (l : List Fo) (i : Nat) (hi : i < l.length) : DI (l.drop i) i = if AU l[i].kind then (i : Int) :: DI (l.drop (i + 1)) (i + 1) else DI (l.drop (i + 1)) (i + 1) := by
 rw [List.drop_eq_getElem_cons hi]; rfl
theorem IL (l : List Fo) (i : Nat) (hi : l.length ≤ i) : DI (l.drop i) i = [] := by
 rw [List.drop_eq_nil_of_le hi]; rfl

def Aw (l : List Fo) : Nat → Nat
 | 0 => 0
 | i + 1 => Aw l i + if AU (AW l i) then 1 else 0
def Rr (claim : Int) (j : Nat) : Bool := decide (claim / 2 ^ j % 2 = 1)
def Np (l : List Fo) (i : Nat) : Int := (l[i]?.map Fo.val).getD 0
theorem QE (l : List Fo) (i : Nat) (hi : i < l.length) : Np l i = l[i].val := by unfold Np; rw [List.getElem?_eq_getElem hi]; rfl
def second (l : List Fo) (i : Nat) : Nat := (AT l (i + 1 : Nat)).1.toNat
def stepT (l : List Fo) (x : List Bool) (c : Int) (i : Nat) (a b : Bool) : Bool :=
 if AW l i = 13 then (x[(Np l i).toNat]?).getD false
 else if AW l i = 11 then true
 else if AW l i = 12 then false
 else if AW l i = 10 then !a
 else if AW l i = 8 then a && b
 else if AW l i = 9 then a || b
 else Rr c (Aw l i)
def tv (l : List Fo) (x : List Bool) (c : Int) : Nat → Nat → Bool
 | 0, _ => false
 | m + 1, i => if i < l.length then stepT l x c i (tv l x c m (i + 1)) (if i < second l i then tv l x c m (second l i) else false) else false
def tAt (l : List Fo) (x : List Bool) (c : Int) (i : Nat) : Bool := tv l x c (l.length - i) i
theorem KI (l : List Fo) (x : List Bool) (c : Int) : ∀ (m i : Nat), l.length ≤ i + m → tv l x c m i = tAt l x c i := by
 intro m
 induction m with
 | zero => intro i h; unfold tAt; rw [show l.length - i = 0 by omega]
 | succ m ih =>
   intro i h
   unfold tAt
   by_cases hi : i < l.length
   · obtain ⟨q, hq⟩ : ∃ q, l.length - i = q + 1 := ⟨l.length - i - 1, by omega⟩
     have e : ∀ j, i < j → tv l x c m j = tv l x c q j := fun j hj => by
      rw [ih j (by omega)]
      by_cases hjl : j < l.length
      · have hqm : q ≤ m := by omega
        by_cases hqm' : q = m
        · subst hqm'; exact (ih j (by omega)).symm
        · clear ih
          -- fewer steps are still enough
          have : ∀ (m q j : Nat), l.length ≤ j + q → q ≤ m → tv l x c q j = tv l x c m j := by
           intro m
           induction m with
           | zero => intro q j h1 h2; rw [show q = 0 by omega]
           | succ m ih' =>
             intro q j h1 h2
             cases q with
             | zero =>
               simp only [tv]
               rw [if_neg (by omega)]
             | succ q =>
               simp only [tv]
               by_cases hjl : j < l.length
               · rw [if_pos hjl, if_pos hjl, ih' q (j + 1) (by omega) (by omega)]
                 by_cases hs : j < second l j
                 · rw [if_pos hs, if_pos hs, ih' q (second l j) (by omega) (by omega)]
                 · rw [if_neg hs, if_neg hs]
               · rw [if_neg hjl, if_neg hjl]
          unfold tAt
          exact this q (l.length - j) j (by omega) (by omega)
      · unfold tAt
        rw [show l.length - j = 0 by omega]
        cases q with
        | zero => rfl
        | succ q => simp only [tv]; rw [if_neg hjl]
     rw [hq]
     simp only [tv]
     rw [if_pos hi, if_pos hi, e (i + 1) (by omega)]
     by_cases hs : i < second l i
     · rw [if_pos hs, if_pos hs, e _ hs]
     · rw [if_neg hs, if_neg hs]
   · rw [show l.length - i = 0 by omega]
     simp only [tv]
     rw [if_neg hi]
theorem Td (l : List Fo) (x : List Bool) (c : Int) (i : Nat) (hi : i < l.length) : tAt l x c i = stepT l x c i (tAt l x c (i + 1)) (if i < second l i then tAt l x c (second l i) else false) := by
 rw [← KI l x c (l.length + 1) i (by omega)]
 simp only [tv]
 rw [if_pos hi, KI l x c l.length (i + 1) (by omega)]
 by_cases hs : i < second l i
 · rw [if_pos hs, if_pos hs, KI l x c l.length (second l i) (by omega)]
 · rw [if_neg hs, if_neg hs]
theorem FY (l : List Fo) (i : Nat) (hi : i < l.length) : Aw l (i + 1) = Aw l i + if AU l[i].kind then 1 else 0 := by
 simp only [Aw, BN l i hi]
theorem F0 (l : List Fo) : ∀ (m i : Nat), Aw l i ≤ Aw l (i + m)
 | 0, i => Nat.le_refl _
 | m + 1, i => by have := F0 l m i; rw [← Nat.add_assoc]; simp only [Aw]; omega
theorem FO (l : List Fo) : ∀ (m i : Nat), l.length = i + m → (DI (l.drop i) i).length + Aw l i = Aw l l.length
 | 0, i, h => by rw [IL l i (by omega), h]; simp
 | m + 1, i, h => by
   have ih := FO l m (i + 1) (by omega)
   rw [J8 l i (by omega)]
   rw [FY l i (by omega)] at ih
   by_cases hc : AU l[i].kind
   · rw [if_pos hc] at ih ⊢; simp only [List.length_cons]; omega
   · rw [if_neg hc] at ih ⊢; omega
theorem Mu (l : List Fo) : ∀ (m i : Nat), l.length = i + m → ∀ (j : Nat) (p : Int), (DI (l.drop i) i)[j]? = some p → ∃ q : Nat, p = q ∧ i ≤ q ∧ q < l.length ∧ AU (AW l q) ∧ Aw l q = Aw l i + j
 | 0, i, h, j, p, hp => by rw [IL l i (by omega)] at hp; simp at hp
 | m + 1, i, h, j, p, hp => by
   have ih := Mu l m (i + 1) (by omega)
   rw [J8 l i (by omega)] at hp
   have hr := FY l i (by omega)
   by_cases hc : AU l[i].kind
   · rw [if_pos hc] at hp hr
     cases j with
     | zero =>
       simp at hp
       exact ⟨i, hp.symm, Nat.le_refl _, by omega, by rw [BN l i (by omega)]; exact hc, rfl⟩
     | succ j =>
       obtain ⟨q, h1, h2, h3, h4, h5⟩ := ih j p (by simpa using hp)
       exact ⟨q, h1, by omega, h3, h4, by omega⟩
   · rw [if_neg hc] at hp hr
     obtain ⟨q, h1, h2, h3, h4, h5⟩ := ih j p hp
     exact ⟨q, h1, by omega, h3, h4, by omega⟩
theorem Qv {k v p : Int} (h : D1 k v p = 0) : 8 ≤ k ∧ (k = 13 → 0 ≤ v ∧ v < p) := by
 unfold D1 at h
 by_cases h1 : k < 8
 · rw [if_pos h1] at h; exact absurd h (by decide)
 rw [if_neg h1] at h
 by_cases h2 : (k = 13 ∧ (v < 0 ∨ p ≤ v)) ∨ (k ≠ 13 ∧ v ≠ 0)
 · rw [if_pos h2] at h; exact absurd h (by decide)
 omega
theorem SQ (l : List Fo) (p : Int) : ∀ (m i n : Nat), l.length = i + m → HZ (l.drop i) p n = 0 → (∀ (q : Nat) (hq : q < l.length), i ≤ q → D1 l[q].kind l[q].val p = 0) ∧ n + (Aw l l.length - Aw l i) ≤ 6
 | 0, i, n, h, he => by
   rw [Nu l i (by omega)] at he
   refine ⟨fun q hq hi => by omega, ?_⟩
   rw [h, Nat.add_zero, Nat.sub_self]
   by_cases h6 : 6 < n
   · rw [if_pos h6] at he; exact absurd he (by decide)
   · omega
 | m + 1, i, n, h, he => by
   rw [RG l i (by omega)] at he
   by_cases h1 : D1 l[i].kind l[i].val p ≠ 0
   · rw [if_pos h1] at he; exact absurd he h1
   rw [if_neg h1] at he
   obtain ⟨g1, g2⟩ := SQ l p m (i + 1) _ (by omega) he
   have hr := FY l i (by omega)
   have hm := F0 l m (i + 1)
   rw [show i + 1 + m = l.length by omega] at hm
   refine ⟨fun q hq hi => ?_, ?_⟩
   · by_cases hqi : q = i
     · subst hqi; simpa using h1
     · exact g1 q hq (by omega)
   · by_cases hc : AU l[i].kind
     · rw [if_pos hc] at g2 hr; omega
     · rw [if_neg hc] at g2 hr; omega
theorem RH {l : List Fo} {p : Int} (h : DS l p = 0) : 0 ≤ p ∧ p ≤ 6 ∧ (Az l).2 = 0 ∧ (∀ (q : Nat) (hq : q < l.length), D1 l[q].kind l[q].val p = 0) ∧ Aw l l.length ≤ 6 := by
 unfold DS at h
 by_cases h1 : p < 0 ∨ 6 < p
 · rw [if_pos h1] at h; exact absurd h (by decide)
 rw [if_neg h1] at h
 by_cases h2 : (Az l).2 ≠ 0
 · rw [if_pos h2] at h; exact absurd h h2
 rw [if_neg h2] at h
 obtain ⟨g1, g2⟩ := SQ l p l.length 0 0 (by omega) (by simpa using h)
 refine ⟨by omega, by omega, by simpa using h2, fun q hq => g1 q hq (Nat.zero_le _), ?_⟩
 simp only [Aw] at g2
 omega
theorem MG {l : List Fo} (h : (Az l).2 = 0) : ∀ (i : Nat) (_ : i < l.length), (AT l i).2 = 0 := by
 obtain ⟨_, _, hend, _, _⟩ := Cb (l := l) (es := (Az l).1) (Prod.ext rfl h)
 intro i hi
 exact (Jv l l.length 0 1 l.length (by omega) (by omega) (by unfold AT at hend; exact hend) i (by omega) (by omega)).1
theorem KA {l : List Fo} {i : Nat} (hi : i < l.length) (h : (AT l i).2 = 0) : (partsOf l[i].kind).2 = 0 := by
 have he := HQ l i hi
 by_cases h1 : (partsOf l[i].kind).2 ≠ 0
 · rw [if_pos h1] at he; rw [he] at h; exact absurd h h1
 · simpa using h1
theorem E0 {l : List Fo} {i : Nat} (hi : i < l.length) (h : (AT l i).2 = 0) (hp : 1 ≤ (partsOf l[i].kind).1) : i + 1 < l.length ∧ (AT l (i + 1 : Nat)).2 = 0 ∧ i + 1 < second l i ∧ (AT l (i + 1 : Nat)).1 = (second l i : Nat) ∧ second l i ≤ l.length := by
 obtain ⟨q1, q2, q3, q4⟩ := (Ey.start hi h).next (by omega)
 have hb := BA l i h
 have hb1 := BA l (i + 1) q1
 unfold second
 refine ⟨by omega, q1, by omega, by omega, by omega⟩
theorem Fx {l : List Fo} {i : Nat} (hi : i < l.length) (h : (AT l i).2 = 0) (hp : (partsOf l[i].kind).1 = 2) : second l i < l.length ∧ (AT l (second l i : Nat)).2 = 0 := by
 obtain ⟨q1, q2, q3, q4⟩ := (Ey.start hi h).next (by omega)
 obtain ⟨r1, r2, r3, r4⟩ := q4.next (by omega)
 have hb := BA l i h
 unfold second
 exact ⟨by omega, r1⟩
structure Gb (l : List Fo) (p : Int) : Prop where
 h60 : l.length ≤ 60
 pos : 0 < l.length
 well : ∀ (i : Nat) (_ : i < l.length), (AT l i).2 = 0
 kind : ∀ (i : Nat) (hi : i < l.length), 8 ≤ l[i].kind ∧ l[i].kind ≤ 18
 prop : ∀ (i : Nat) (hi : i < l.length), l[i].kind = 13 → 0 ≤ l[i].val ∧ l[i].val < p
 ah : Aw l l.length ≤ 6
 ends : (Az l).2 = 0
theorem Hg {l : List Fo} {p : Int} (h : DS l p = 0) : Gb l p := by
 obtain ⟨h1, h2, h3, h4, h5⟩ := RH h
 obtain ⟨k1, k2, _, _, _⟩ := Cb (l := l) (es := (Az l).1) (Prod.ext rfl h3)
 have hw := MG h3
 refine ⟨k1, k2, hw, fun i hi => ⟨(Qv (h4 i hi)).1, ?_⟩, fun i hi => (Qv (h4 i hi)).2, h5, h3⟩
 have hk := KA hi (hw i hi)
 by_cases h18 : 18 < l[i].kind
 · rw [DH _ (.inr h18)] at hk; exact absurd hk (by decide)
 · omega
theorem Di {l : List Fo} : (DI l 0).length = Aw l l.length := by
 have := FO l l.length 0 (by omega)
 simpa [Aw] using this
theorem Uf {l : List Fo} {i : Nat} (hi : i ≤ l.length) : Aw l i ≤ Aw l l.length := by
 have := F0 l (l.length - i) i
 rwa [show i + (l.length - i) = l.length by omega] at this
theorem KK {k : Int} (h : 8 ≤ k ∧ k ≤ 18) : k = 8 ∨ k = 9 ∨ k = 10 ∨ k = 11 ∨ k = 12 ∨ k = 13 ∨ k = 14 ∨ k = 15 ∨ k = 16 ∨ k = 17 ∨ k = 18 := by omega
def BL (l : List Fo) (x : List Bool) (c : Int) : List Bool × Int :=
 if (Ak l x.length).2 ≠ 0 then ([], (Ak l x.length).2)
 else if c < 0 ∨ 2 ^ (Ak l x.length).1.length ≤ c then ([], 2)
 else ((List.range l.length).map (tAt l x c), 0)
theorem KN {l : List Fo} {p : Int} {ps : List Int} (h : Ak l p = (ps, 0)) : DS l p = 0 ∧ ps = DI l 0 := by
 unfold Ak at h
 by_cases h1 : DS l p ≠ 0
 · rw [if_pos h1] at h; simp at h; exact absurd h.2 h1
 · rw [if_neg h1] at h; simp at h; exact ⟨by simpa using h1, h.symm⟩
structure FC (l : List Fo) (x : List Bool) (c : Int) (i : Nat) (out : List Bool) : Prop where
 len : out.length = l.length
 done : ∀ j, i ≤ j → j < l.length → out[j]? = some (tAt l x c j)
 rest : ∀ j, j < i → j < l.length → out[j]? = some false
theorem FC.start (l : List Fo) (x : List Bool) (c : Int) : FC l x c l.length (List.replicate l.length false) :=
 ⟨by simp, fun j h1 h2 => by omega, fun j _ h2 => by simp [h2]⟩
theorem FC.next {l : List Fo} {x : List Bool} {c : Int} {i : Nat} {out : List Bool} {v : Bool} (d : FC l x c (i + 1) out) (hi : i < l.length) (hv : v = tAt l x c i) : FC l x c i (out.set i v) := by
 refine ⟨by rw [List.length_set]; exact d.len, fun j h1 h2 => ?_, fun j h1 h2 => ?_⟩
 · by_cases hj : i = j
   · subst hj; rw [List.getElem?_set_self (by rw [d.len]; exact hi), hv]
   · rw [List.getElem?_set_ne hj]; exact d.done j (by omega) h2
 · rw [List.getElem?_set_ne (by omega)]; exact d.rest j (by omega) h2
theorem FC.no {l : List Fo} {x : List Bool} {c : Int} {i : Nat} {out : List Bool} (d : FC l x c (i + 1) out) (hi : i < l.length) (hv : tAt l x c i = false) : FC l x c i out := by
 refine ⟨d.len, fun j h1 h2 => ?_, fun j h1 h2 => d.rest j (by omega) h2⟩
 by_cases hj : i = j
 · subst hj; rw [d.rest i (by omega) hi, hv]
 · exact d.done j (by omega) h2
theorem FC.fin {l : List Fo} {x : List Bool} {c : Int} {out : List Bool} (d : FC l x c 0 out) : out = (List.range l.length).map (tAt l x c) := by
 apply List.ext_getElem?
 intro j
 by_cases hj : j < l.length
 · rw [d.done j (Nat.zero_le _) hj]; simp [hj]
 · rw [List.getElem?_eq_none (by rw [d.len]; omega), List.getElem?_eq_none (by simp; omega)]
theorem FC.get {l : List Fo} {x : List Bool} {c : Int} {i : Nat} {out : List Bool} (d : FC l x c i out) {j : Nat} (h1 : i ≤ j) (h2 : j < l.length) (h3 : j < out.length) : out[j] = tAt l x c j := by
 have := d.done j h1 h2
 rw [List.getElem?_eq_getElem h3] at this
 exact Option.some.inj this
open Go Go.Av

def Al (n : Int) : Prop := -1000000 ≤ n ∧ n ≤ 1000000
instance (n : Int) : Decidable (Al n) := by unfold Al; infer_instance
def ovr (n : Int) : Option Int := if Al n then some n else none
def opV (k v : Int) (env : List Int) (a b : Int) : Int :=
 if k = 1 then v else if k = 2 then (env[v.toNat]?).getD 0 else if k = 3 then a + b else if k = 4 then a - b else if k = 5 then a * b
 else if k = 6 then (if a = b then 1 else 0) else if k = 7 then (if a < b then 1 else 0) else if k = 8 then (if a = 1 ∧ b = 1 then 1 else 0)
 else if k = 9 then (if a = 1 ∨ b = 1 then 1 else 0) else if k = 10 then (if a = 0 then 1 else 0) else if k = 11 then 1 else 0
abbrev np (l : List Fo) (i : Nat) : Int := (partsOf (AW l i)).1
def OG (l : List Fo) (env : List Int) (i : Nat) (a b : Option Int) : Option Int :=
 (if 1 ≤ np l i then a else some 0).bind fun x => (if 2 ≤ np l i then b else some 0).bind fun y => ovr (opV (AW l i) (Np l i) env x y)
def evm (l : List Fo) (env : List Int) : Nat → Nat → Option Int
 | 0, _ => none
 | m + 1, i => if i < l.length then OG l env i (evm l env m (i + 1)) (if i < second l i then evm l env m (second l i) else none) else none
def Cy (l : List Fo) (env : List Int) (i : Nat) : Option Int := evm l env (l.length - i) i
theorem Ml (l : List Fo) (env : List Int) : ∀ (m i : Nat), l.length ≤ i + m → evm l env m i = Cy l env i := by
 intro m
 induction m using Nat.strongRecOn with
 | _ m ih =>
 intro i h
 unfold Cy
 by_cases hi : i < l.length
 · obtain ⟨m', rfl⟩ : ∃ m', m = m' + 1 := ⟨m - 1, by omega⟩
   obtain ⟨k, hk⟩ : ∃ k, l.length - i = k + 1 := ⟨l.length - i - 1, by omega⟩
   rw [hk]
   have e : ∀ j, i < j → evm l env m' j = evm l env k j := fun j hj => by
    rw [ih m' (by omega) j (by omega)]
    by_cases hkm : k < m' + 1
    · rw [ih k hkm j (by omega)]
    · omega
   simp only [evm, if_pos hi]
   rw [e (i + 1) (by omega)]
   by_cases h2 : i < second l i
   · rw [if_pos h2, if_pos h2, e _ h2]
   · rw [if_neg h2, if_neg h2]
 · rw [show l.length - i = 0 by omega]
   cases m with
   | zero => rfl
   | succ m => simp only [evm, if_neg hi]
theorem LI (l : List Fo) (env : List Int) (i : Nat) (hi : i < l.length) : Cy l env i = OG l env i (Cy l env (i + 1)) (if i < second l i then Cy l env (second l i) else none) := by
 rw [← Ml l env (l.length - (i + 1)) (i + 1) (by omega)]
 conv => lhs; rw [Cy, show l.length - i = (l.length - (i + 1)) + 1 by omega, evm, if_pos hi]
 by_cases h2 : i < second l i
 · rw [if_pos h2, if_pos h2, Ml l env _ (second l i) (by omega)]
 · rw [if_neg h2, if_neg h2]
structure Lc (l : List Fo) (vars : Int) : Prop where
 h60 : l.length ≤ 60
 pos : 0 < l.length
 well : ∀ (i : Nat) (_ : i < l.length), (AT l i).2 = 0
 op : ∀ (i : Nat) (hi : i < l.length), opZ l[i].kind l[i].val vars = 0
 typed : Ig l
 ends : (Az l).2 = 0
theorem VB (l : List Fo) (vars : Int) : ∀ (m i : Nat), l.length = i + m → II (l.drop i) vars = 0 → ∀ (q : Nat) (hq : q < l.length), i ≤ q → opZ l[q].kind l[q].val vars = 0
 | 0, i, h, _, q, hq, hi => by omega
 | m + 1, i, h, he, q, hq, hi => by
   rw [Ul l i (by omega)] at he
   by_cases c : opZ l[i].kind l[i].val vars ≠ 0
   · rw [if_pos c] at he; exact absurd he c
   · rw [if_neg c] at he
     by_cases e : q = i
     · subst e; exact Decidable.not_not.1 c
     · exact VB l vars m (i + 1) (by omega) he q hq (by omega)
theorem MM {l : List Fo} {vars : Int} (h : (Cn l vars).2 = 0) : Lc l vars ∧ 0 ≤ vars ∧ vars ≤ 6 := by
 unfold Cn at h
 by_cases h1 : vars < 0 ∨ 6 < vars
 · rw [if_pos h1] at h; exact absurd h (by decide)
 rw [if_neg h1] at h
 by_cases h2 : (Az l).2 ≠ 0
 · rw [if_pos h2] at h; exact absurd h h2
 rw [if_neg h2] at h
 by_cases h3 : II l vars ≠ 0
 · rw [if_pos h3] at h; exact absurd h h3
 rw [if_neg h3] at h
 by_cases h4 : Ig l
 · obtain ⟨k1, k2, k3, k4, k5⟩ := Cb (l := l) (es := (Az l).1) (Prod.ext rfl (Decidable.not_not.1 h2))
   exact ⟨⟨k1, k2, MG (Decidable.not_not.1 h2), fun i hi => VB l vars l.length 0 (by omega) (Decidable.not_not.1 h3) i hi (Nat.zero_le _), h4, Decidable.not_not.1 h2⟩, by omega, by omega⟩
 · rw [if_neg h4] at h; exact absurd h (by decide)
theorem Lc.kind {l : List Fo} {vars : Int} (g : Lc l vars) {i : Nat} (hi : i < l.length) : 1 ≤ l[i].kind ∧ l[i].kind ≤ 12 ∧ (l[i].kind = 1 → -1000 ≤ l[i].val ∧ l[i].val ≤ 1000) ∧ (l[i].kind = 2 → 0 ≤ l[i].val ∧ l[i].val < vars) := by
 have h := g.op i hi
 unfold opZ at h
 by_cases c : ¬ okP l[i].kind
 · rw [if_pos c] at h; exact absurd h (by decide)
 rw [if_neg c] at h
 by_cases c2 : (l[i].kind = 1 ∧ (l[i].val < -1000 ∨ 1000 < l[i].val)) ∨ (l[i].kind = 2 ∧ (l[i].val < 0 ∨ vars ≤ l[i].val)) ∨ (2 < l[i].kind ∧ l[i].val ≠ 0)
 · rw [if_pos c2] at h; exact absurd h (by decide)
 omega
theorem Lc.parts {l : List Fo} {vars : Int} (g : Lc l vars) {i : Nat} (hi : i < l.length) :
 (np l i = 0 ∧ (AT l i).1 = (i : Int) + 1) ∨
 (np l i = 1 ∧ i + 1 < l.length ∧ (AT l i).1 = (AT l (i + 1 : Nat)).1) ∨
 (np l i = 2 ∧ i + 1 < l.length ∧ i + 1 < second l i ∧ second l i < l.length ∧ (AT l (i + 1 : Nat)).1 = (second l i : Nat) ∧ (AT l i).1 = (AT l (second l i : Nat)).1) := by
 have hk := BN l i hi
 have he := HQ l i hi
 have hw := g.well i hi
 have wk := KA hi hw
 rw [if_neg (fun h => h wk)] at he
 have hb := Dj l[i].kind
 unfold np
 rw [hk]
 generalize hn : (partsOf l[i].kind).1 = n at he hb ⊢
 by_cases h0 : n = 0
 · subst h0
   rw [if_pos (by decide)] at he
   exact .inl ⟨rfl, by rw [he]⟩
 rw [if_neg (by omega)] at he
 obtain ⟨q1, q2, q3, q4, q5⟩ := E0 hi hw (by omega)
 by_cases h1 : n = 1
 · subst h1
   refine .inr (.inl ⟨rfl, q1, ?_⟩)
   rw [he]; unfold AT; rw [Int.toNat_natCast]; rfl
 · have h2 : n = 2 := by omega
   subst h2
   obtain ⟨r1, r2⟩ := Fx hi hw hn
   refine .inr (.inr ⟨rfl, q1, q3, r1, q4, ?_⟩)
   have e := Fb l (i + 1) 1 (by decide)
   rw [if_neg (fun h => h q2), q4] at e
   rw [he, show (1 : Int) + 2 - 1 = 1 + 1 by decide, show ((i : Int) + 1) = ((i + 1 : Nat) : Int) by omega, e]
   unfold AT; rw [Int.toNat_natCast]
inductive Stk (l : List Fo) (f : Nat → Int) : Nat → List Int → Prop where
 | nil {i : Nat} (h : l.length ≤ i) : Stk l f i []
 | cons {i : Nat} {S : List Int} (hi : i < l.length) (h : Stk l f (AT l i).1.toNat S) : Stk l f i (S ++ [f i])
theorem Stk.inv {l : List Fo} {f : Nat → Int} {i : Nat} {S : List Int} (h : Stk l f i S) (hi : i < l.length) : ∃ S', S = S' ++ [f i] ∧ Stk l f (AT l i).1.toNat S' := by
 cases h with
 | nil h => omega
 | cons _ h => exact ⟨_, rfl, h⟩
theorem Stk.fin {l : List Fo} {f : Nat → Int} {i : Nat} {S : List Int} (h : Stk l f i S) (hi : l.length ≤ i) : S = [] := by
 cases h with
 | nil h => rfl
 | cons h' _ => omega
theorem Pc {l : List Fo} {env : List Int} {i : Nat} (hi : i < l.length) (hk : DE (AW l i)) {v : Int} (h : Cy l env i = some v) : v = 0 ∨ v = 1 := by
 rw [LI l env i hi, OG] at h
 obtain ⟨a, _, h⟩ := Option.bind_eq_some_iff.1 h
 obtain ⟨b, _, h⟩ := Option.bind_eq_some_iff.1 h
 unfold ovr at h
 split at h
 · cases h
   unfold opV
   rw [if_neg (by omega), if_neg (by omega), if_neg (by omega), if_neg (by omega), if_neg (by omega)]
   split
   · split <;> simp
   split
   · split <;> simp
   split
   · split <;> simp
   split
   · split <;> simp
   split
   · split <;> simp
   split <;> simp
 · cases h
theorem YJ {l : List Fo} {env : List Int} {i : Nat} (hi : i < l.length) {v : Int} (h : Cy l env i = some v) : Al v := by
 rw [LI l env i hi, OG] at h
 obtain ⟨a, _, h⟩ := Option.bind_eq_some_iff.1 h
 obtain ⟨b, _, h⟩ := Option.bind_eq_some_iff.1 h
 unfold ovr at h
 split at h
 · cases h; assumption
 · cases h
def wk (l : List Fo) (env : List Int) : Int × Int := match Cy l env 0 with | some n => (n, 0) | none => (0, 8)
def CL (l : List Fo) (env : List Int) : Int × Int :=
 if (Cn l env.length).2 ≠ 0 then (0, (Cn l env.length).2) else if ∀ v ∈ env, Al v then wk l env else (0, 2)

def ni (l : List Nat) (i : Nat) : Nat := (l[i]?).getD 0
theorem Ce (l : List Nat) (i : Nat) (h : i < l.length) : ni l i = l[i] := by simp [ni, List.getElem?_eq_getElem h]
noncomputable def A1 (g : Gn) : List Nat := (List.range g.spots.length).map fun v => (partOf g.nx v).toNat
theorem DX (g : Gn) : (A1 g).length = g.spots.length := by simp [A1]
theorem MD (g : Gn) : (A1 g).map (fun k : Nat => (k : Int)) = FP g := by
 unfold A1 FP
 rw [List.map_map]
 apply List.map_congr_left
 intro v _
 have := GA (nx := g.nx) v
 simp only [Function.comp_apply]
 omega
theorem R4 (g : Gn) (i : Nat) (h : i < (A1 g).length) : (A1 g)[i] < g.spots.length := by
 have h1 := GA (nx := g.nx) i
 rw [DX] at h
 simp only [A1, List.getElem_map, List.getElem_range]
 omega
def Fk (g : Gn) (pn : List Nat) (i : Nat) : Prop :=
 ni pn i = i ∧ (∃ u, u < g.spots.length ∧ ni pn u = i ∧ ∃ w ∈ g.nx u, ni pn w = i) ∧ ∀ s, s < g.many → ∃ u, u < g.spots.length ∧ ni pn u = i ∧ (ni g.sets u).testBit s = true
noncomputable instance (g : Gn) (pn : List Nat) (i : Nat) : Decidable (Fk g pn i) := Classical.propDecidable _
noncomputable def HK (g : Gn) (pn : List Nat) : List Bool := (List.range g.spots.length).map fun i => decide (Fk g pn i)
structure LoI (g : Gn) (pn : List Nat) (i k : Nat) (lo : List Bool) : Prop where
 len : lo.length = g.spots.length
 iff : ∀ v, v < g.spots.length → (bi lo v = true ↔ (∃ u, u < i ∧ ni pn u = v ∧ ∃ w ∈ g.nx u, ni pn w = v) ∨ (ni pn i = v ∧ ∃ w ∈ (g.nx i).take k, ni pn w = v))
section
variable {g : Gn} {pn : List Nat} {i k : Nat} {lo : List Bool}
theorem eM (n v : Nat) : bi (List.replicate n false) v = false := by
 unfold bi; rw [List.getElem?_replicate]; split <;> rfl
theorem LoI.start (g : Gn) (pn : List Nat) : LoI g pn 0 0 (List.replicate g.spots.length false) where
 len := by simp
 iff v hv := by simp [eM]
theorem LoI.yes (t : LoI g pn i k lo) (hk : k < (g.nx i).length) (he : ni pn (g.nx i)[k] = ni pn i) (hp : ni pn i < g.spots.length) : LoI g pn i (k + 1) (lo.set (ni pn i) true) where
 len := by simpa using t.len
 iff v hv := by
  rw [Jq _ _ _ _ (by rw [t.len]; exact hp), List.take_succ_eq_append_getElem hk]
  split
  · rename_i e
    subst e
    refine ⟨fun _ => .inr ⟨rfl, _, List.mem_append.2 (.inr (List.mem_singleton.2 rfl)), he⟩, fun _ => rfl⟩
  · rename_i e
    rw [t.iff v hv]
    constructor
    · rintro (h | ⟨h1, w, h2, h3⟩)
      · exact .inl h
      · exact .inr ⟨h1, w, List.mem_append.2 (.inl h2), h3⟩
    · rintro (h | ⟨h1, w, h2, h3⟩)
      · exact .inl h
      · exact absurd h1.symm e
theorem LoI.no (t : LoI g pn i k lo) (hk : k < (g.nx i).length) (he : ¬ ni pn (g.nx i)[k] = ni pn i) : LoI g pn i (k + 1) lo where
 len := t.len
 iff v hv := by
  rw [t.iff v hv, List.take_succ_eq_append_getElem hk]
  constructor
  · rintro (h | ⟨h1, w, h2, h3⟩)
    · exact .inl h
    · exact .inr ⟨h1, w, List.mem_append.2 (.inl h2), h3⟩
  · rintro (h | ⟨h1, w, h2, h3⟩)
    · exact .inl h
    · rcases List.mem_append.1 h2 with h2 | h2
      · exact .inr ⟨h1, w, h2, h3⟩
      · rw [List.mem_singleton.1 h2] at h3
        exact absurd (h3.trans h1.symm) he
theorem LoI.done (t : LoI g pn i (g.nx i).length lo) : LoI g pn (i + 1) 0 lo where
 len := t.len
 iff v hv := by
  rw [t.iff v hv, List.take_length]
  simp only [List.take_zero, List.not_mem_nil, false_and, exists_false, and_false, or_false]
  constructor
  · rintro (⟨u, h1, h2⟩ | ⟨h1, h2⟩)
    · exact ⟨u, by omega, h2⟩
    · exact ⟨i, by omega, h1, h2⟩
  · rintro ⟨u, h1, h2, h3⟩
    by_cases e : u = i
    · subst e; exact .inr ⟨h2, h3⟩
    · exact .inl ⟨u, by omega, h2, h3⟩
def SeI (g : Gn) (pn : List Nat) (i : Nat) (st : List Int) : Prop :=
 st.length = g.spots.length ∧ ∀ v, v < g.spots.length → ∃ x : Nat, gi st v = x ∧ x < 2 ^ g.many ∧ ∀ s, x.testBit s = true ↔ ∃ u, u < i ∧ ni pn u = v ∧ (ni g.sets u).testBit s = true
theorem SeI.start (g : Gn) (pn : List Nat) : SeI g pn 0 (List.replicate g.spots.length 0) := ⟨by simp, fun v hv => ⟨0, by rw [Is]; rfl, Nat.two_pow_pos _, fun s => by simp⟩⟩
theorem U8 {g : Gn} (hok : g.ok) (i : Nat) : ni g.sets i < 2 ^ g.many := by
 by_cases h : i < g.sets.length
 · rw [Ce _ _ h]; exact hok.bits i h
 · simp only [ni, List.getElem?_eq_none (Nat.le_of_not_lt h), Option.getD_none]
   exact Nat.two_pow_pos _
theorem S5 {g : Gn} (hok : g.ok) : 1 ≤ 2 ^ g.many ∧ 2 ^ g.many ≤ 64 := by
 have := hok.many
 have : g.many = 0 ∨ g.many = 1 ∨ g.many = 2 ∨ g.many = 3 ∨ g.many = 4 ∨ g.many = 5 ∨ g.many = 6 := by omega
 rcases this with h | h | h | h | h | h | h <;> rw [h] <;> decide
theorem SeI.step {st : List Int} (hok : g.ok) (t : SeI g pn i st) (hp : ni pn i < g.spots.length) : SeI g pn (i + 1) (st.set (ni pn i) (bits .or .i64 (gi st (ni pn i)) (ni g.sets i : Nat))) := ⟨by simpa using t.1, fun v hv => by
 obtain ⟨x, h1, h2, h3⟩ := t.2 v hv
 rw [Dp _ _ _ _ (by rw [t.1]; exact hp)]
 have hlt := U8 hok i
 have h64 := S5 hok
 split
 · rename_i e
   subst e
   refine ⟨x ||| ni g.sets i, ?_, Nat.or_lt_two_pow h2 hlt, fun s => ?_⟩
   · rw [h1]
     exact (bits_nat .i64 63 (by decide) ER x (ni g.sets i) (by omega) (by omega)).2
   · rw [Nat.testBit_or, Bool.or_eq_true, h3 s]
     constructor
     · rintro (⟨u, a, b⟩ | h)
       · exact ⟨u, by omega, b⟩
       · exact ⟨i, by omega, rfl, h⟩
     · rintro ⟨u, a, b, c⟩
       by_cases eu : u = i
       · subst eu; exact .inr c
       · exact .inl ⟨u, by omega, b, c⟩
 · rename_i e
   refine ⟨x, h1, h2, fun s => ?_⟩
   rw [h3 s]
   constructor
   · rintro ⟨u, a, b⟩
     exact ⟨u, by omega, b⟩
   · rintro ⟨u, a, b, c⟩
     by_cases eu : u = i
     · subst eu; exact absurd b.symm e
     · exact ⟨u, by omega, b, c⟩⟩
theorem Yf {st : List Int} (t : LoI g pn g.spots.length 0 lo) (q : SeI g pn g.spots.length st) {i : Nat} (hi : i < g.spots.length) : Fk g pn i ↔ ni pn i = i ∧ bi lo i = true ∧ gi st i = 2 ^ g.many - 1 := by
 obtain ⟨x, h1, h2, h3⟩ := q.2 i hi
 rw [t.iff i hi]
 simp only [List.take_zero, List.not_mem_nil, false_and, exists_false, and_false, or_false]
 unfold Fk
 refine and_congr_right fun _ => and_congr_right fun _ => ?_
 have hpos : 1 ≤ 2 ^ g.many := Nat.two_pow_pos _
 constructor
 · intro h
   have e : x = 2 ^ g.many - 1 := by
    apply Nat.eq_of_testBit_eq
    intro s
    rw [Nat.testBit_two_pow_sub_one]
    by_cases hs : s < g.many
    · rw [decide_eq_true hs, h3 s]; exact h s hs
    · rw [decide_eq_false hs]
      exact Nat.testBit_lt_two_pow (Nat.lt_of_lt_of_le h2 (Nat.pow_le_pow_right (by decide) (by omega)))
   rw [h1, e]
   have : ((2 ^ g.many - 1 : Nat) : Int) = ((2 ^ g.many : Nat) : Int) - 1 := by omega
   rw [this]
   simp
 · intro h s hs
   have e : x = 2 ^ g.many - 1 := by
    have e1 : ((2 : Int) ^ g.many) = ((2 ^ g.many : Nat) : Int) := by simp
    rw [e1] at h
    omega
   rw [← h3 s, e, Nat.testBit_two_pow_sub_one, decide_eq_true hs]
end
theorem Of (x s : Nat) : (((x : Int) / 2 ^ s) % 2 = 1) ↔ x.testBit s = true := by
 rw [Nat.testBit_eq_decide_div_mod_eq, decide_eq_true_iff]
 have e : ((x : Int) / 2 ^ s) % 2 = ((x / 2 ^ s % 2 : Nat) : Int) := by simp
 rw [e]
 omega
def Ej (g : Gn) (i : Nat) : Prop := Cu g i ∧ Fk g (A1 g) i
noncomputable instance (g : Gn) (i : Nat) : Decidable (Ej g i) := Classical.propDecidable _
noncomputable def KV (g : Gn) : Int × Int :=
 match (List.range g.spots.length).find? fun i => decide (Ej g i) with
 | some i => ((i : Int), 0)
 | none => (0, 11)
noncomputable def Cp (g : Gr) : Int × Int := open Classical in if okG g then KV (YB g) else (0, 9)
theorem Hu {g : Gn} (h : g.ok) : Cp g.gr = KV g := by rw [Cp, if_pos (Gn.ok_gr h), OX h]
theorem VD {g : Gr} (h : ¬ okG g) : Cp g = (0, 9) := by rw [Cp, if_neg h]
theorem find_range {n i : Nat} {p : Nat → Bool} (hb : ∀ j, j < i → p j = false) (hi : i < n) (hp : p i = true) : (List.range n).find? p = some i := by
 rw [List.find?_range_eq_some]
 exact ⟨hp, List.mem_range.2 hi, fun j hj => by simp [hb j hj]⟩
theorem Wt {n : Nat} {p : Nat → Bool} (hb : ∀ j, j < n → p j = false) : (List.range n).find? p = none := by
 rw [List.find?_eq_none]
 intro x hx
 rw [hb x (List.mem_range.1 hx)]
 decide
theorem Rz {g : Gn} {i : Nat} (hb : ∀ j, j < i → ¬ Ej g j) (hi : i < g.spots.length) (hp : Ej g i) : KV g = ((i : Int), 0) := by
 rw [KV, find_range (fun j hj => decide_eq_false (hb j hj)) hi (decide_eq_true hp)]
theorem MQ {g : Gn} (hb : ∀ j, j < g.spots.length → ¬ Ej g j) : KV g = (0, 11) := by
 rw [KV, Wt fun j hj => decide_eq_false (hb j hj)]

abbrev Qh (a : Int) : Prop := a = 0 ∨ a = 1
def c7 (k v : Int) (env S base : List Int) (n : Int) : Prop :=
 (S = base ∧ ((k = 1 ∧ n = v ∧ Al v) ∨ (k = 11 ∧ n = 1) ∨ (k = 12 ∧ n = 0))) ∨ (S = base ∧ k = 2 ∧ 0 ≤ v ∧ ∃ h : v.toNat < env.length, n = env[v.toNat]) ∨ (k = 10 ∧ ∃ a, S = base ++ [a] ∧ Qh a ∧ n = 1 - a) ∨
 (∃ a b, S = base ++ [b] ++ [a] ∧ Al a ∧ Al b ∧ ((k = 3 ∧ n = a + b) ∨ (k = 4 ∧ n = a - b) ∨ (k = 5 ∧ n = a * b) ∨ (k = 6 ∧ n = if decide (a = b) = true then 1 else 0) ∨ (k = 7 ∧ n = if decide (a < b) = true then 1 else 0) ∨ (k = 8 ∧ Qh a ∧ Qh b ∧ n = bits .and .i64 a b) ∨ (k = 9 ∧ Qh a ∧ Qh b ∧ n = bits .or .i64 a b)))
theorem cW {k : Int} (h : 1 ≤ k ∧ k ≤ 12) (hp : (partsOf k).1 = 0) : k = 1 ∨ k = 2 ∨ k = 11 ∨ k = 12 := by
 unfold partsOf at hp
 split at hp
 · omega
 split at hp
 · exact absurd hp (by decide)
 split at hp
 · exact absurd hp (by decide)
 · omega
theorem bu {k : Int} (h : 1 ≤ k ∧ k ≤ 12) (hp : (partsOf k).1 = 1) : k = 10 := by
 unfold partsOf at hp
 split at hp
 · exact absurd hp (by decide)
 split at hp
 · omega
 split at hp
 · exact absurd hp (by decide)
 · exact absurd hp (by decide)
theorem bG {k : Int} (h : 1 ≤ k ∧ k ≤ 12) (hp : (partsOf k).1 = 2) : 3 ≤ k ∧ k ≤ 9 := by
 unfold partsOf at hp
 split at hp
 · exact absurd hp (by decide)
 split at hp
 · exact absurd hp (by decide)
 split at hp
 · omega
 · exact absurd hp (by decide)
theorem Stk.len {l : List Fo} {f : Nat → Int} (hw : ∀ (i : Nat) (_ : i < l.length), (AT l i).2 = 0) {i : Nat} {S : List Int} (h : Stk l f i S) : i ≤ l.length → S.length + i ≤ l.length := by
 induction h with
 | nil h => intro hi; simpa using hi
 | @cons i S hi h ih =>
   intro _
   have hb := BA l i (hw i hi)
   have := ih (by omega)
   simp
   omega
abbrev evF (l : List Fo) (env : List Int) (i : Nat) : Int := (Cy l env i).getD 0
theorem PQ {l : List Fo} {env : List Int} {i : Nat} (h : (Cy l env i).isSome) : Cy l env i = some (evF l env i) := by
 obtain ⟨v, hv⟩ := Option.isSome_iff_exists.1 h
 rw [evF, hv]; rfl
theorem Stk.put {l : List Fo} {env : List Int} {m : Nat} {base : List Int} {n : Int} (hm : m < l.length) (hn : Cy l env m = some n) (hS : Stk l (evF l env) (AT l m).1.toNat base) : Stk l (evF l env) m (base ++ [n]) := by
 have : evF l env m = n := by rw [evF, hn]; rfl
 rw [← this]
 exact .cons hm hS
theorem SG {n : Int} (h : Al n) : ovr n = some n := if_pos h
theorem Xg {n : Int} (h : ¬ Al n) : ovr n = none := if_neg h
theorem Stk.step {l : List Fo} {env : List Int} (g : Lc l env.length) (henv : ∀ v ∈ env, Al v) {m : Nat} (hm : m < l.length) {S : List Int} (hS : Stk l (evF l env) (m + 1) S) (hv : ∀ j, m < j → j < l.length → (Cy l env j).isSome) :
 ∃ base n, c7 l[m].kind l[m].val env S base n ∧ (Al n → Cy l env m = some n ∧ Stk l (evF l env) m (base ++ [n])) ∧ (¬ Al n → Cy l env m = none) := by
 obtain ⟨k1, k2, k3, k4⟩ := g.kind hm
 have hkm := BN l m hm
 have hvm := QE l m hm
 have ev := LI l env m hm
 unfold OG at ev
 rw [hkm, hvm] at ev
 -- what a value and where the stack stands behind it come to
 have fin : ∀ base n, Cy l env m = ovr n → Stk l (evF l env) (AT l m).1.toNat base → (Al n → Cy l env m = some n ∧ Stk l (evF l env) m (base ++ [n])) ∧ (¬ Al n → Cy l env m = none) := fun base n h hb =>
  ⟨fun hl => ⟨by rw [h, SG hl], Stk.put hm (by rw [h, SG hl]) hb⟩, fun hl => by rw [h, Xg hl]⟩
 rcases g.parts hm with ⟨n0, e0⟩ | ⟨n1, p1, e1⟩ | ⟨n2, p1, p2, p3, p4, e2⟩
 · rw [n0] at ev
   have ev' : Cy l env m = ovr (opV l[m].kind l[m].val env 0 0) := ev
   have hS' : Stk l (evF l env) (AT l m).1.toNat S := by rw [e0, show ((m : Int) + 1).toNat = m + 1 by omega]; exact hS
   have hk := cW ⟨k1, k2⟩ (by rw [← hkm]; exact n0)
   rcases hk with h | h | h | h
   · refine ⟨S, l[m].val, .inl ⟨rfl, .inl ⟨h, rfl, by have := k3 h; unfold Al; omega⟩⟩, fin S _ (by rw [ev', h]; rfl) hS'⟩
   · have := k4 h
     have hlt : l[m].val.toNat < env.length := by omega
     refine ⟨S, env[l[m].val.toNat], .inr (.inl ⟨rfl, h, this.1, hlt, rfl⟩), fin S _ (by rw [ev', h]; simp [opV, hlt]) hS'⟩
   · refine ⟨S, 1, .inl ⟨rfl, .inr (.inl ⟨h, rfl⟩)⟩, fin S _ (by rw [ev', h]; rfl) hS'⟩
   · refine ⟨S, 0, .inl ⟨rfl, .inr (.inr ⟨h, rfl⟩)⟩, fin S _ (by rw [ev', h]; rfl) hS'⟩
 · rw [n1] at ev
   obtain ⟨S', rfl, hS'⟩ := hS.inv p1
   have ha := PQ (hv (m + 1) (by omega) p1)
   rw [ha] at ev
   have ev' : Cy l env m = ovr (opV l[m].kind l[m].val env (evF l env (m + 1)) 0) := ev
   have hk := bu ⟨k1, k2⟩ (by rw [← hkm]; exact n1)
   have hty := g.typed m hm (m + 1) (by
    rw [show (partsOf (AW l m)).1 = 1 from n1]; simp [EB])
   have hb : Qh (evF l env (m + 1)) := Pc p1 (hty.2 (by rw [hkm, hk]; decide)) ha
   generalize evF l env (m + 1) = a at *
   refine ⟨S', 1 - a, .inr (.inr (.inl ⟨hk, a, rfl, hb, rfl⟩)), fin S' _ ?_ (by rw [e1]; exact hS')⟩
   rw [ev', hk]
   rcases hb with rfl | rfl <;> rfl
 · rw [n2] at ev
   obtain ⟨S', rfl, hS'⟩ := hS.inv p1
   rw [p4, Int.toNat_natCast] at hS'
   obtain ⟨S'', rfl, hS''⟩ := hS'.inv p3
   have ha := PQ (hv (m + 1) (by omega) p1)
   have hb := PQ (hv (second l m) (by omega) p3)
   rw [ha, if_pos (show m < second l m by omega), hb] at ev
   have ev' : Cy l env m = ovr (opV l[m].kind l[m].val env (evF l env (m + 1)) (evF l env (second l m))) := ev
   have hk := bG ⟨k1, k2⟩ (by rw [← hkm]; exact n2)
   have la := YJ p1 ha
   have lb := YJ p3 hb
   have ty1 := g.typed m hm (m + 1) (by rw [show (partsOf (AW l m)).1 = 2 from n2]; simp [EB])
   have ty2 := g.typed m hm (second l m) (by rw [show (partsOf (AW l m)).1 = 2 from n2]; simp [EB, second])
   have bt : GJ l[m].kind → Qh (evF l env (m + 1)) ∧ Qh (evF l env (second l m)) := fun ht =>
    ⟨Pc p1 (ty1.2 (by rw [hkm]; exact ht)) ha, Pc p3 (ty2.2 (by rw [hkm]; exact ht)) hb⟩
   rw [← e2] at hS''
   generalize evF l env (m + 1) = a at *
   generalize evF l env (second l m) = b at *
   have : l[m].kind = 3 ∨ l[m].kind = 4 ∨ l[m].kind = 5 ∨ l[m].kind = 6 ∨ l[m].kind = 7 ∨ l[m].kind = 8 ∨ l[m].kind = 9 := by omega
   rcases this with h | h | h | h | h | h | h
   · exact ⟨S'', a + b, .inr (.inr (.inr ⟨a, b, rfl, la, lb, .inl ⟨h, rfl⟩⟩)), fin S'' _ (by rw [ev', h]; rfl) hS''⟩
   · exact ⟨S'', a - b, .inr (.inr (.inr ⟨a, b, rfl, la, lb, .inr (.inl ⟨h, rfl⟩)⟩)), fin S'' _ (by rw [ev', h]; rfl) hS''⟩
   · exact ⟨S'', a * b, .inr (.inr (.inr ⟨a, b, rfl, la, lb, .inr (.inr (.inl ⟨h, rfl⟩))⟩)), fin S'' _ (by rw [ev', h]; rfl) hS''⟩
   · exact ⟨S'', _, .inr (.inr (.inr ⟨a, b, rfl, la, lb, .inr (.inr (.inr (.inl ⟨h, rfl⟩)))⟩)), fin S'' _ (by rw [ev', h]; simp [opV]) hS''⟩
   · exact ⟨S'', _, .inr (.inr (.inr ⟨a, b, rfl, la, lb, .inr (.inr (.inr (.inr (.inl ⟨h, rfl⟩))))⟩)), fin S'' _ (by rw [ev', h]; simp [opV]) hS''⟩
   · obtain ⟨b1, b2⟩ := bt (by omega)
     refine ⟨S'', bits .and .i64 a b, .inr (.inr (.inr ⟨a, b, rfl, la, lb, .inr (.inr (.inr (.inr (.inr (.inl ⟨h, b1, b2, rfl⟩)))))⟩)), fin S'' _ ?_ hS''⟩
     rw [ev', h]
     rcases b1 with rfl | rfl <;> rcases b2 with rfl | rfl <;> rfl
   · obtain ⟨b1, b2⟩ := bt (by omega)
     refine ⟨S'', bits .or .i64 a b, .inr (.inr (.inr ⟨a, b, rfl, la, lb, .inr (.inr (.inr (.inr (.inr (.inr ⟨h, b1, b2, rfl⟩)))))⟩)), fin S'' _ ?_ hS''⟩
     rw [ev', h]
     rcases b1 with rfl | rfl <;> rcases b2 with rfl | rfl <;> rfl
theorem dy {l : List Fo} {env : List Int} {vars : Int} (g : Lc l vars) : ∀ (m i : Nat), i < l.length → (AT l i).1 ≤ ((i + m : Nat) : Int) → (Cy l env i).isSome → ∀ j, i ≤ j → (j : Int) < (AT l i).1 → (Cy l env j).isSome := by
 intro m
 induction m using Nat.strongRecOn with
 | _ m ih =>
 intro i hi hm hs j h1 h2
 by_cases e : j = i
 · subst e; exact hs
 have ev := LI l env i hi
 unfold OG at ev
 have hb := BA l i (g.well i hi)
 rcases g.parts hi with ⟨n0, e0⟩ | ⟨n1, p1, e1⟩ | ⟨n2, p1, p2, p3, p4, e2⟩
 · omega
 · rw [n1] at ev
   have h3 : (Cy l env (i + 1)).isSome := by
    cases hx : Cy l env (i + 1) with
    | some v => rfl
    | none => rw [hx] at ev; rw [ev] at hs; exact absurd hs (by simp)
   exact ih (m - 1) (by omega) (i + 1) p1 (by omega) h3 j (by omega) (by omega)
 · rw [n2, if_pos (show i < second l i by omega)] at ev
   have hb1 := BA l (i + 1) (g.well _ p1)
   have hb2 := BA l (second l i) (g.well _ p3)
   have h3 : (Cy l env (i + 1)).isSome ∧ (Cy l env (second l i)).isSome := by
    cases hx : Cy l env (i + 1) with
    | none => rw [hx] at ev; rw [ev] at hs; exact absurd hs (by simp)
    | some v =>
      cases hy : Cy l env (second l i) with
      | some w => exact ⟨rfl, rfl⟩
      | none => rw [hx, hy] at ev; rw [ev] at hs; exact absurd hs (by simp)
   by_cases c : j < second l i
   · exact ih (m - 1) (by omega) (i + 1) p1 (by omega) h3.1 j (by omega) (by omega)
   · exact ih (m - (second l i - i)) (by omega) (second l i) p3 (by omega) h3.2 j (by omega) (by omega)
end Go.Sp
