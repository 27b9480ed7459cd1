/-
  PLAIN, NO PROGRAM: what a formula's terms are worth at a letter and a claim.
-/
import Derived.Test.YtacdheachjnejaaDoorSd
import Derived.Test.YtacdheachjnejaaDoorSe
namespace Go.Sp
open Go.Av
set_option linter.unusedVariables false
set_option linter.unusedSimpArgs false

/-- How many ops ahead of a place look ahead. -/
def rank (l : List Fo) : Nat → Nat
  | 0 => 0
  | i + 1 => rank l i + if aheadP (kindAt l i) then 1 else 0
def bitAt (claim : Int) (j : Nat) : Bool := decide (claim / 2 ^ j % 2 = 1)
def valAt (l : List Fo) (i : Nat) : Int := (l[i]?.map Fo.val).getD 0
theorem valAt_eq (l : List Fo) (i : Nat) (hi : i < l.length) : valAt l i = l[i].val := by unfold valAt; rw [List.getElem?_eq_getElem hi]; rfl
def second (l : List Fo) (i : Nat) : Nat := (endOf l (i + 1 : Nat)).1.toNat
def stepT (l : List Fo) (x : List Bool) (c : Int) (i : Nat) (a b : Bool) : Bool :=
  if kindAt l i = 13 then (x[(valAt l i).toNat]?).getD false
  else if kindAt l i = 11 then true
  else if kindAt l i = 12 then false
  else if kindAt l i = 10 then !a
  else if kindAt l i = 8 then a && b
  else if kindAt l i = 9 then a || b
  else bitAt c (rank l i)
def tv (l : List Fo) (x : List Bool) (c : Int) : Nat → Nat → Bool
  | 0, _ => false
  | m + 1, i => if i < l.length then stepT l x c i (tv l x c m (i + 1)) (if i < second l i then tv l x c m (second l i) else false) else false
def tAt (l : List Fo) (x : List Bool) (c : Int) (i : Nat) : Bool := tv l x c (l.length - i) i
theorem tv_enough (l : List Fo) (x : List Bool) (c : Int) : ∀ (m i : Nat), l.length ≤ i + m → tv l x c m i = tAt l x c i := by
  intro m
  induction m with
  | zero => intro i h; unfold tAt; rw [show l.length - i = 0 by omega]
  | succ m ih =>
    intro i h
    unfold tAt
    by_cases hi : i < l.length
    · obtain ⟨q, hq⟩ : ∃ q, l.length - i = q + 1 := ⟨l.length - i - 1, by omega⟩
      have e : ∀ j, i < j → tv l x c m j = tv l x c q j := fun j hj => by
        rw [ih j (by omega)]
        by_cases hjl : j < l.length
        · have hqm : q ≤ m := by omega
          by_cases hqm' : q = m
          · subst hqm'; exact (ih j (by omega)).symm
          · clear ih
            -- fewer steps are still enough
            have : ∀ (m q j : Nat), l.length ≤ j + q → q ≤ m → tv l x c q j = tv l x c m j := by
              intro m
              induction m with
              | zero => intro q j h1 h2; rw [show q = 0 by omega]
              | succ m ih' =>
                intro q j h1 h2
                cases q with
                | zero =>
                  simp only [tv]
                  rw [if_neg (by omega)]
                | succ q =>
                  simp only [tv]
                  by_cases hjl : j < l.length
                  · rw [if_pos hjl, if_pos hjl, ih' q (j + 1) (by omega) (by omega)]
                    by_cases hs : j < second l j
                    · rw [if_pos hs, if_pos hs, ih' q (second l j) (by omega) (by omega)]
                    · rw [if_neg hs, if_neg hs]
                  · rw [if_neg hjl, if_neg hjl]
            unfold tAt
            exact this q (l.length - j) j (by omega) (by omega)
        · unfold tAt
          rw [show l.length - j = 0 by omega]
          cases q with
          | zero => rfl
          | succ q => simp only [tv]; rw [if_neg hjl]
      rw [hq]
      simp only [tv]
      rw [if_pos hi, if_pos hi, e (i + 1) (by omega)]
      by_cases hs : i < second l i
      · rw [if_pos hs, if_pos hs, e _ hs]
      · rw [if_neg hs, if_neg hs]
    · rw [show l.length - i = 0 by omega]
      simp only [tv]
      rw [if_neg hi]
theorem tAt_eq (l : List Fo) (x : List Bool) (c : Int) (i : Nat) (hi : i < l.length) : tAt l x c i = stepT l x c i (tAt l x c (i + 1)) (if i < second l i then tAt l x c (second l i) else false) := by
  rw [← tv_enough l x c (l.length + 1) i (by omega)]
  simp only [tv]
  rw [if_pos hi, tv_enough l x c l.length (i + 1) (by omega)]
  by_cases hs : i < second l i
  · rw [if_pos hs, if_pos hs, tv_enough l x c l.length (second l i) (by omega)]
  · rw [if_neg hs, if_neg hs]
theorem rank_succ (l : List Fo) (i : Nat) (hi : i < l.length) : rank l (i + 1) = rank l i + if aheadP l[i].kind then 1 else 0 := by
  simp only [rank, kindAt_eq l i hi]
theorem rank_mono (l : List Fo) : ∀ (m i : Nat), rank l i ≤ rank l (i + m)
  | 0, i => Nat.le_refl _
  | m + 1, i => by have := rank_mono l m i; rw [← Nat.add_assoc]; simp only [rank]; omega
theorem aheadL_length (l : List Fo) : ∀ (m i : Nat), l.length = i + m → (aheadL (l.drop i) i).length + rank l i = rank l l.length
  | 0, i, h => by rw [aheadL_end l i (by omega), h]; simp
  | m + 1, i, h => by
    have ih := aheadL_length l m (i + 1) (by omega)
    rw [aheadL_at l i (by omega)]
    rw [rank_succ l i (by omega)] at ih
    by_cases hc : aheadP l[i].kind
    · rw [if_pos hc] at ih ⊢; simp only [List.length_cons]; omega
    · rw [if_neg hc] at ih ⊢; omega
theorem aheadL_get (l : List Fo) : ∀ (m i : Nat), l.length = i + m → ∀ (j : Nat) (p : Int), (aheadL (l.drop i) i)[j]? = some p → ∃ q : Nat, p = q ∧ i ≤ q ∧ q < l.length ∧ aheadP (kindAt l q) ∧ rank l q = rank l i + j
  | 0, i, h, j, p, hp => by rw [aheadL_end l i (by omega)] at hp; simp at hp
  | m + 1, i, h, j, p, hp => by
    have ih := aheadL_get l m (i + 1) (by omega)
    rw [aheadL_at l i (by omega)] at hp
    have hr := rank_succ l i (by omega)
    by_cases hc : aheadP l[i].kind
    · rw [if_pos hc] at hp hr
      cases j with
      | zero =>
        simp at hp
        exact ⟨i, hp.symm, Nat.le_refl _, by omega, by rw [kindAt_eq l i (by omega)]; exact hc, rfl⟩
      | succ j =>
        obtain ⟨q, h1, h2, h3, h4, h5⟩ := ih j p (by simpa using hp)
        exact ⟨q, h1, by omega, h3, h4, by omega⟩
    · rw [if_neg hc] at hp hr
      obtain ⟨q, h1, h2, h3, h4, h5⟩ := ih j p hp
      exact ⟨q, h1, by omega, h3, h4, by omega⟩
theorem aheadL_at_rank (l : List Fo) (q : Nat) (hq : q < l.length) (ha : aheadP (kindAt l q)) : ∀ (m i : Nat), l.length = i + m → i ≤ q → (aheadL (l.drop i) i)[rank l q - rank l i]? = some (q : Int)
  | 0, i, h, hi => by omega
  | m + 1, i, h, hi => by
    rw [aheadL_at l i (by omega)]
    have hr := rank_succ l i (by omega)
    by_cases hiq : i = q
    · subst hiq
      rw [kindAt_eq l i hq] at ha
      rw [if_pos ha, Nat.sub_self]; rfl
    · have ih := aheadL_at_rank l q hq ha m (i + 1) (by omega) (by omega)
      have hm := rank_mono l (q - (i + 1)) (i + 1)
      rw [show i + 1 + (q - (i + 1)) = q by omega] at hm
      by_cases hc : aheadP l[i].kind
      · rw [if_pos hc] at hr ⊢
        have e : rank l q - rank l i = (rank l q - rank l (i + 1)) + 1 := by omega
        rw [e]; simpa using ih
      · rw [if_neg hc] at hr ⊢
        rw [show rank l q - rank l i = rank l q - rank l (i + 1) by omega]; exact ih
theorem fitsZ_ok {k v p : Int} (h : fitsZ k v p = 0) : 8 ≤ k ∧ (k = 13 → 0 ≤ v ∧ v < p) := by
  unfold fitsZ at h
  by_cases h1 : k < 8
  · rw [if_pos h1] at h; exact absurd h (by decide)
  rw [if_neg h1] at h
  by_cases h2 : (k = 13 ∧ (v < 0 ∨ p ≤ v)) ∨ (k ≠ 13 ∧ v ≠ 0)
  · rw [if_pos h2] at h; exact absurd h (by decide)
  omega
theorem formE_ok (l : List Fo) (p : Int) : ∀ (m i n : Nat), l.length = i + m → formE (l.drop i) p n = 0 → (∀ (q : Nat) (hq : q < l.length), i ≤ q → fitsZ l[q].kind l[q].val p = 0) ∧ n + (rank l l.length - rank l i) ≤ 6
  | 0, i, n, h, he => by
    rw [formE_end l i (by omega)] at he
    refine ⟨fun q hq hi => by omega, ?_⟩
    rw [h, Nat.add_zero, Nat.sub_self]
    by_cases h6 : 6 < n
    · rw [if_pos h6] at he; exact absurd he (by decide)
    · omega
  | m + 1, i, n, h, he => by
    rw [formE_at l i (by omega)] at he
    by_cases h1 : fitsZ l[i].kind l[i].val p ≠ 0
    · rw [if_pos h1] at he; exact absurd he h1
    rw [if_neg h1] at he
    obtain ⟨g1, g2⟩ := formE_ok l p m (i + 1) _ (by omega) he
    have hr := rank_succ l i (by omega)
    have hm := rank_mono l m (i + 1)
    rw [show i + 1 + m = l.length by omega] at hm
    refine ⟨fun q hq hi => ?_, ?_⟩
    · by_cases hqi : q = i
      · subst hqi; simpa using h1
      · exact g1 q hq (by omega)
    · by_cases hc : aheadP l[i].kind
      · rw [if_pos hc] at g2 hr; omega
      · rw [if_neg hc] at g2 hr; omega
/-- What a formula that stands gives. -/
theorem formF_ok {l : List Fo} {p : Int} (h : formF l p = 0) : 0 ≤ p ∧ p ≤ 6 ∧ (endsOf l).2 = 0 ∧ (∀ (q : Nat) (hq : q < l.length), fitsZ l[q].kind l[q].val p = 0) ∧ rank l l.length ≤ 6 := by
  unfold formF at h
  by_cases h1 : p < 0 ∨ 6 < p
  · rw [if_pos h1] at h; exact absurd h (by decide)
  rw [if_neg h1] at h
  by_cases h2 : (endsOf l).2 ≠ 0
  · rw [if_pos h2] at h; exact absurd h h2
  rw [if_neg h2] at h
  obtain ⟨g1, g2⟩ := formE_ok l p l.length 0 0 (by omega) (by simpa using h)
  refine ⟨by omega, by omega, by simpa using h2, fun q hq => g1 q hq (Nat.zero_le _), ?_⟩
  simp only [rank] at g2
  omega
theorem all_well {l : List Fo} (h : (endsOf l).2 = 0) : ∀ (i : Nat) (_ : i < l.length), (endOf l i).2 = 0 := by
  obtain ⟨_, _, hend, _, _⟩ := endsOf_ok (l := l) (es := (endsOf l).1) (Prod.ext rfl h)
  intro i hi
  exact (scan_nest l l.length 0 1 l.length (by omega) (by omega) (by unfold endOf at hend; exact hend) i (by omega) (by omega)).1
theorem well_kind {l : List Fo} {i : Nat} (hi : i < l.length) (h : (endOf l i).2 = 0) : (partsOf l[i].kind).2 = 0 := by
  have he := endOf_at l i hi
  by_cases h1 : (partsOf l[i].kind).2 ≠ 0
  · rw [if_pos h1] at he; rw [he] at h; exact absurd h h1
  · simpa using h1
/-- The first part of an op. -/
theorem first_in {l : List Fo} {i : Nat} (hi : i < l.length) (h : (endOf l i).2 = 0) (hp : 1 ≤ (partsOf l[i].kind).1) : i + 1 < l.length ∧ (endOf l (i + 1 : Nat)).2 = 0 ∧ i + 1 < second l i ∧ (endOf l (i + 1 : Nat)).1 = (second l i : Nat) ∧ second l i ≤ l.length := by
  obtain ⟨q1, q2, q3, q4⟩ := (Within.start hi h).next (by omega)
  have hb := endOf_bound l i h
  have hb1 := endOf_bound l (i + 1) q1
  unfold second
  refine ⟨by omega, q1, by omega, by omega, by omega⟩
/-- The second part of an op. -/
theorem second_in {l : List Fo} {i : Nat} (hi : i < l.length) (h : (endOf l i).2 = 0) (hp : (partsOf l[i].kind).1 = 2) : second l i < l.length ∧ (endOf l (second l i : Nat)).2 = 0 := by
  obtain ⟨q1, q2, q3, q4⟩ := (Within.start hi h).next (by omega)
  obtain ⟨r1, r2, r3, r4⟩ := q4.next (by omega)
  have hb := endOf_bound l i h
  unfold second
  exact ⟨by omega, r1⟩
/-- What a formula that stands is. -/
structure GoodF (l : List Fo) (p : Int) : Prop where
  h60 : l.length ≤ 60
  pos : 0 < l.length
  well : ∀ (i : Nat) (_ : i < l.length), (endOf l i).2 = 0
  kind : ∀ (i : Nat) (hi : i < l.length), 8 ≤ l[i].kind ∧ l[i].kind ≤ 18
  prop : ∀ (i : Nat) (hi : i < l.length), l[i].kind = 13 → 0 ≤ l[i].val ∧ l[i].val < p
  ah : rank l l.length ≤ 6
  ends : (endsOf l).2 = 0
theorem good_of {l : List Fo} {p : Int} (h : formF l p = 0) : GoodF l p := by
  obtain ⟨h1, h2, h3, h4, h5⟩ := formF_ok h
  obtain ⟨k1, k2, _, _, _⟩ := endsOf_ok (l := l) (es := (endsOf l).1) (Prod.ext rfl h3)
  have hw := all_well h3
  refine ⟨k1, k2, hw, fun i hi => ⟨(fitsZ_ok (h4 i hi)).1, ?_⟩, fun i hi => (fitsZ_ok (h4 i hi)).2, h5, h3⟩
  have hk := well_kind hi (hw i hi)
  by_cases h18 : 18 < l[i].kind
  · rw [partsOf_no _ (.inr h18)] at hk; exact absurd hk (by decide)
  · omega
theorem aheads_len {l : List Fo} : (aheadL l 0).length = rank l l.length := by
  have := aheadL_length l l.length 0 (by omega)
  simpa [rank] using this
theorem rank_le {l : List Fo} {i : Nat} (hi : i ≤ l.length) : rank l i ≤ rank l l.length := by
  have := rank_mono l (l.length - i) i
  rwa [show i + (l.length - i) = l.length by omega] at this
theorem kinds_cases {k : Int} (h : 8 ≤ k ∧ k ≤ 18) : k = 8 ∨ k = 9 ∨ k = 10 ∨ k = 11 ∨ k = 12 ∨ k = 13 ∨ k = 14 ∨ k = 15 ∨ k = 16 ∨ k = 17 ∨ k = 18 := by omega
/-- P5.4. -/
def truthsOf (l : List Fo) (x : List Bool) (c : Int) : List Bool × Int :=
  if (aheadsOf l x.length).2 ≠ 0 then ([], (aheadsOf l x.length).2)
  else if c < 0 ∨ 2 ^ (aheadsOf l x.length).1.length ≤ c then ([], 2)
  else ((List.range l.length).map (tAt l x c), 0)
theorem aheadsOf_ok {l : List Fo} {p : Int} {ps : List Int} (h : aheadsOf l p = (ps, 0)) : formF l p = 0 ∧ ps = aheadL l 0 := by
  unfold aheadsOf at h
  by_cases h1 : formF l p ≠ 0
  · rw [if_pos h1] at h; simp at h; exact absurd h.2 h1
  · rw [if_neg h1] at h; simp at h; exact ⟨by simpa using h1, h.symm⟩
/-- Truths, filled in from the end. -/
structure TDone (l : List Fo) (x : List Bool) (c : Int) (i : Nat) (out : List Bool) : Prop where
  len : out.length = l.length
  done : ∀ j, i ≤ j → j < l.length → out[j]? = some (tAt l x c j)
  rest : ∀ j, j < i → j < l.length → out[j]? = some false
theorem TDone.start (l : List Fo) (x : List Bool) (c : Int) : TDone l x c l.length (List.replicate l.length false) :=
  ⟨by simp, fun j h1 h2 => by omega, fun j _ h2 => by simp [h2]⟩
theorem TDone.next {l : List Fo} {x : List Bool} {c : Int} {i : Nat} {out : List Bool} {v : Bool} (d : TDone l x c (i + 1) out) (hi : i < l.length) (hv : v = tAt l x c i) : TDone l x c i (out.set i v) := by
  refine ⟨by rw [List.length_set]; exact d.len, fun j h1 h2 => ?_, fun j h1 h2 => ?_⟩
  · by_cases hj : i = j
    · subst hj; rw [List.getElem?_set_self (by rw [d.len]; exact hi), hv]
    · rw [List.getElem?_set_ne hj]; exact d.done j (by omega) h2
  · rw [List.getElem?_set_ne (by omega)]; exact d.rest j (by omega) h2
theorem TDone.no {l : List Fo} {x : List Bool} {c : Int} {i : Nat} {out : List Bool} (d : TDone l x c (i + 1) out) (hi : i < l.length) (hv : tAt l x c i = false) : TDone l x c i out := by
  refine ⟨d.len, fun j h1 h2 => ?_, fun j h1 h2 => d.rest j (by omega) h2⟩
  by_cases hj : i = j
  · subst hj; rw [d.rest i (by omega) hi, hv]
  · exact d.done j (by omega) h2
theorem TDone.fin {l : List Fo} {x : List Bool} {c : Int} {out : List Bool} (d : TDone l x c 0 out) : out = (List.range l.length).map (tAt l x c) := by
  apply List.ext_getElem?
  intro j
  by_cases hj : j < l.length
  · rw [d.done j (Nat.zero_le _) hj]; simp [hj]
  · rw [List.getElem?_eq_none (by rw [d.len]; omega), List.getElem?_eq_none (by simp; omega)]
theorem TDone.get {l : List Fo} {x : List Bool} {c : Int} {i : Nat} {out : List Bool} (d : TDone l x c i out) {j : Nat} (h1 : i ≤ j) (h2 : j < l.length) (h3 : j < out.length) : out[j] = tAt l x c j := by
  have := d.done j h1 h2
  rw [List.getElem?_eq_getElem h3] at this
  exact Option.some.inj this
end Go.Sp
