/- A bundle of this claim's own texts: T6 Se. -/
import Derived.Test.YtajnpfgelpkijaaGreatDoorZ3
set_option linter.unusedVariables false
set_option linter.unusedSimpArgs false
set_option maxRecDepth 100000
set_option maxHeartbeats 4000000
namespace Go.Proofs.YtajnpfgelpkijaaGreatDoor
open Go Go.Av Go.Sp

theorem cal_ahead : Cal Tryz.prog 93 := Cal.of Tryz.func93 (by kernel_rfl) (by kernel_rfl)
theorem cal_fits : Cal Tryz.prog 92 := Cal.of Tryz.func92 (by kernel_rfl) (by kernel_rfl)
theorem cal_Check : Cal Tryz.prog 53 := Cal.of Tryz.func53 (by kernel_rfl) (by kernel_rfl)
theorem cal_looksAhead : Cal Tryz.prog 84 := Cal.of Tryz.func84 (by kernel_rfl) (by kernel_rfl)
theorem cal_FormulaFault : Cal Tryz.prog 46 := Cal.of Tryz.func46 (by kernel_rfl) (by kernel_rfl)
theorem ahead (G : List (Nat × List D)) (x : Int) : ACr Tryz.prog G 93 [.int x] (.bool (decide (aheadP x))) := by
 refine AC_of (ts := [2]) 9 Tryz.func93 rfl rfl rfl (by simp) fun W I => ?_
 repeat' (first
  | exact True.intro
  | refine stp ?_
  | refine two ?_ ?_
  | (refine imp fun hc => ?_) <;> try exact cx hc
  | refine all fun v_ => ?_)
 all_goals
  ((with_reducible apply rq1); rfl; rfl)
  refine ret_eq (congrArg AV.bool ?_)
  (first | rfl | (refine decide_eq_decide.2 ?_; omega) | (refine (decide_eq_true ?_).symm; omega) | (refine (decide_eq_false ?_).symm; omega) | (refine decide_eq_true ?_; omega) | (refine decide_eq_false ?_; omega))
theorem looksAhead (G : List (Nat × List D)) (x : Int) : ACr Tryz.prog G 84 [.int x] (.bool (decide (aheadP x))) := by
 refine AC_of (ts := [2]) 5 Tryz.func84 rfl rfl rfl (by simp) fun W I => ?_
 repeat' (first
  | refine ca cal_In (In _ _ _ _) ?_
  | exact True.intro
  | refine stp ?_
  | refine two ?_ ?_
  | (refine imp fun hc => ?_) <;> try exact cx hc
  | refine all fun v_ => ?_)
 ((with_reducible apply rq1); rfl; rfl)
 exact ret_eq rfl

theorem fits (G : List (Nat × List D)) (a b props : Int) : ACr Tryz.prog G 92 [.agg [.int a, .int b], .int props] (.int (fitsZ a b props)) := by
 refine AC_ofV (ts := [4]) 34 Tryz.func92 rfl rfl rfl (by simp) fun W I => ?_
 repeat' (first
  | refine allocD ?_
  | exact True.intro
  | refine stp ?_
  | refine two ?_ ?_
  | (refine imp fun hc => ?_) <;> try exact cx hc
  | refine all fun v_ => ?_)
 all_goals
  refine retv (VS.drop (List.nil_sublist _)) ?_
  ((with_reducible apply rq1); rfl; rfl)
  refine ret_eq (congrArg AV.int ?_)
  unfold fitsZ
  first
   | (rw [if_pos (by omega)])
   | (rw [if_neg (by omega), if_pos (by omega)])
   | (rw [if_neg (by omega), if_neg (by omega)])

theorem Check (l : List Fo) (props : Int) : ACr Tryz.prog GP 53 [.d (opsD l), .int props] (.int (formF l props)) := by
 refine AC_ofV (ts := [4]) 45 Tryz.func53 rfl rfl rfl (by simp) fun W I => ?_
 refine jfact (t := 0) rfl fun hl => ?_
 repeat' (first
  | refine ca cal_Ends (Ends _) ?_
  | refine ca cal_fits (fits _ _ _ _) ?_
  | refine ca cal_ahead (ahead _ _) ?_
  | refine allocD ?_
  | exact True.intro
  | refine stp ?_
  | refine two ?_ ?_
  | (refine imp fun hc => ?_) <;> try exact cx hc
  | refine all fun v_ => ?_)
 all_goals try (
  refine retv0 ?_
  ((with_reducible apply rq1); rfl; rfl)
  refine ret_eq (congrArg AV.int ?_)
  unfold formF
  first
   | (rw [if_pos (by omega)])
   | (rw [if_neg (by omega), if_pos (by assumption)]))
 have hs : formF l props = formE l props 0 := by
  unfold formF
  rw [if_neg (by omega), if_neg (by assumption)]
 refine J_loopV (X := Nat × Nat) (fun y => [(1, .int props), (25, .d (opsD l)), (26, .int l.length), (27, .int y.1), (7, .int y.2)]) (fun _ => []) (fun y => y.1 ≤ l.length ∧ y.2 ≤ y.1 ∧ formF l props = formE (l.drop y.1) props y.2) (fun y => l.length - y.1) (0, 0) ⟨Nat.zero_le _, Nat.le_refl _, hs⟩ (VS.of_le ?_) ?_
 · exact leD
 rintro ⟨i, n⟩ ⟨k1, k2, k3⟩
 dsimp only at k1 k2 k3 ⊢
 by_cases hi : i < l.length
 · rw [formE_at l i hi] at k3
   repeat' (first
    | refine ca cal_Ends (Ends _) ?_
    | refine ca cal_fits (fits _ _ _ _) ?_
    | refine ca cal_ahead (ahead _ _) ?_
    | refine allocD ?_
    | exact True.intro
    | refine stp ?_
    | refine two ?_ ?_
    | (refine imp fun hc => ?_) <;> try exact cx hc
    | refine all fun v_ => ?_)
   · refine retv (VS.drop (List.nil_sublist _)) ?_
     ((with_reducible apply rq1); rfl; rfl)
     refine ret_eq (congrArg AV.int ?_)
     rw [k3, if_pos hc]
   all_goals rw [if_neg (by assumption)] at k3
   · rw [if_pos hc] at k3
     refine ⟨(i + 1, n + 1), ⟨by dsimp only; omega, by dsimp only; omega, k3⟩, by dsimp only; omega, vle (List.nil_sublist _) ?_⟩
     exact leD
   · rw [if_neg hc] at k3
     refine ⟨(i + 1, n), ⟨by dsimp only; omega, by dsimp only; omega, k3⟩, by dsimp only; omega, vle (List.nil_sublist _) ?_⟩
     exact leD
 · rw [formE_end l i (by omega)] at k3
   repeat' (first
    | refine ca cal_Ends (Ends _) ?_
    | refine ca cal_fits (fits _ _ _ _) ?_
    | refine ca cal_ahead (ahead _ _) ?_
    | refine allocD ?_
    | exact True.intro
    | refine stp ?_
    | refine two ?_ ?_
    | (refine imp fun hc => ?_) <;> try exact cx hc
    | refine all fun v_ => ?_)
   all_goals
    refine retv0 ?_
    ((with_reducible apply rq1); rfl; rfl)
    refine ret_eq (congrArg AV.int ?_)
    rw [k3]
    first
     | rw [if_pos (by omega)]
     | rw [if_neg (by omega)]

theorem FormulaFault (G : List (Nat × List D)) (l : List Fo) (props : Int) : ACr Tryz.prog G 46 [.d (opsD l), .int props] (.int (formF l props)) := by
 refine AC_ofV (ts := [4]) 59 Tryz.func46 rfl rfl rfl (by simp) fun W I => ?_
 refine jfact (t := 0) rfl fun hl => ?_
 repeat' (first
  | refine ca cal_EndsOf (EndsOf _ _) ?_
  | refine ca cal_In (In _ _ _ _) ?_
  | refine ca cal_looksAhead (looksAhead _ _) ?_
  | exact True.intro
  | refine stp ?_
  | refine two ?_ ?_
  | (refine imp fun hc => ?_) <;> try exact cx hc
  | refine all fun v_ => ?_)
 all_goals try (
  refine retv0 ?_
  ((with_reducible apply rq1); rfl; rfl)
  refine ret_eq (congrArg AV.int ?_)
  unfold formF
  first
   | (rw [if_pos (by omega)])
   | (rw [if_neg (by omega), if_pos (by assumption)]))
 have hs : formF l props = formE l props 0 := by
  unfold formF
  rw [if_neg (by omega), if_neg (by assumption)]
 refine J_loopV (X := Nat × Nat) (fun y => [(0, .d (opsD l)), (1, .int props), (8, .int y.1), (7, .int y.2)]) (fun _ => []) (fun y => y.1 ≤ l.length ∧ y.2 ≤ y.1 ∧ formF l props = formE (l.drop y.1) props y.2) (fun y => l.length - y.1) (0, 0) ⟨Nat.zero_le _, Nat.le_refl _, hs⟩ (VS.of_le ?_) ?_
 · exact leD
 rintro ⟨i, n⟩ ⟨k1, k2, k3⟩
 dsimp only at k1 k2 k3 ⊢
 by_cases hi : i < l.length
 · rw [formE_at l i hi] at k3
   unfold fitsZ at k3
   repeat' (first
    | refine ca cal_EndsOf (EndsOf _ _) ?_
    | refine ca cal_In (In _ _ _ _) ?_
    | refine ca cal_looksAhead (looksAhead _ _) ?_
    | exact True.intro
    | refine stp ?_
    | refine two ?_ ?_
    | (refine imp fun hc => ?_) <;> try exact cx hc
    | refine all fun v_ => ?_)
   all_goals first
    | (refine retv0 ?_
       ((with_reducible apply rq1); rfl; rfl)
       refine ret_eq (congrArg AV.int ?_)
       rw [k3]
       first
        | (rw [if_pos (by rw [if_pos (by omega)]; decide), if_pos (by omega)])
        | (rw [if_pos (by rw [if_neg (by omega), if_pos (by omega)]; decide), if_neg (by omega), if_pos (by omega)]))
    | (rw [if_neg (by rw [if_neg (by omega), if_neg (by omega)]; decide)] at k3
       first
        | (rw [if_pos (by assumption)] at k3
           refine ⟨(i + 1, n + 1), ⟨by dsimp only; omega, by dsimp only; omega, k3⟩, by dsimp only; omega, VS.of_le ?_⟩
           exact leD)
        | (rw [if_neg (by assumption)] at k3
           refine ⟨(i + 1, n), ⟨by dsimp only; omega, by dsimp only; omega, k3⟩, by dsimp only; omega, VS.of_le ?_⟩
           exact leD))
 · rw [formE_end l i (by omega)] at k3
   repeat' (first
    | refine ca cal_EndsOf (EndsOf _ _) ?_
    | refine ca cal_In (In _ _ _ _) ?_
    | refine ca cal_looksAhead (looksAhead _ _) ?_
    | exact True.intro
    | refine stp ?_
    | refine two ?_ ?_
    | (refine imp fun hc => ?_) <;> try exact cx hc
    | refine all fun v_ => ?_)
   all_goals
    refine retv0 ?_
    ((with_reducible apply rq1); rfl; rfl)
    refine ret_eq (congrArg AV.int ?_)
    rw [k3]
    first
     | rw [if_pos (by omega)]
     | rw [if_neg (by omega)]
end Go.Proofs.YtajnpfgelpkijaaGreatDoor
namespace Go.Sp
open Go.Av

abbrev okP (k : Int) : Prop := 1 ≤ k ∧ k ≤ 12
abbrev makesP (k : Int) : Prop := 6 ≤ k ∧ k ≤ 12
abbrev takesP (k : Int) : Prop := 8 ≤ k ∧ k ≤ 12
def opZ (k v vars : Int) : Int :=
 if ¬ okP k then 13
 else if (k = 1 ∧ (v < -1000 ∨ 1000 < v)) ∨ (k = 2 ∧ (v < 0 ∨ vars ≤ v)) ∨ (2 < k ∧ v ≠ 0) then 2 else 0
def opsE : List Fo → Int → Int
 | [], _ => 0
 | o :: r, vars => if opZ o.kind o.val vars ≠ 0 then opZ o.kind o.val vars else opsE r vars
theorem opsE_at (l : List Fo) (i : Nat) (hi : i < l.length) (vars : Int) : opsE (l.drop i) vars = if opZ l[i].kind l[i].val vars ≠ 0 then opZ l[i].kind l[i].val vars else opsE (l.drop (i + 1)) vars := by
 rw [List.drop_eq_getElem_cons hi]; rfl
theorem opsE_end (l : List Fo) (i : Nat) (hi : l.length ≤ i) (vars : Int) : opsE (l.drop i) vars = 0 := by
 rw [List.drop_eq_nil_of_le hi]; rfl

def kindAt (l : List Fo) (i : Nat) : Int := (l[i]?.map Fo.kind).getD 0
theorem kindAt_eq (l : List Fo) (i : Nat) (hi : i < l.length) : kindAt l i = l[i].kind := by unfold kindAt; rw [List.getElem?_eq_getElem hi]; rfl
def starts (l : List Fo) : Nat → Nat → List Nat
 | 0, _ => []
 | k + 1, i => i :: starts l k (endOf l i).1.toNat
abbrev fitAt (l : List Fo) (at_ p : Nat) : Prop := (makesP (kindAt l p) ↔ takesP (kindAt l at_))
abbrev tyAt (l : List Fo) (at_ : Nat) : Prop := ∀ p ∈ starts l (partsOf (kindAt l at_)).1.toNat (at_ + 1), fitAt l at_ p
abbrev typedP (l : List Fo) : Prop := ∀ i, i < l.length → tyAt l i

structure Within (l : List Fo) (n j i e : Nat) : Prop where
 le : j ≤ n
 upto : i ≤ e
 more : j < n → scan (l.drop i) ((n - j : Nat) : Int) i = ((e : Int), 0)
 fin : j = n → i = e
theorem Within.start {l : List Fo} {i : Nat} (hi : i < l.length) (h : (endOf l i).2 = 0) : Within l (partsOf l[i].kind).1.toNat 0 (i + 1) (endOf l i).1.toNat := by
 have hb := endOf_bound l i h
 have h' := endOf_at l i hi
 have hp := partsOf_le l[i].kind
 by_cases h1 : (partsOf l[i].kind).2 ≠ 0
 · rw [if_pos h1] at h'; rw [h'] at h; exact absurd h h1
 rw [if_neg h1] at h'
 refine ⟨Nat.zero_le _, by omega, fun h2 => ?_, fun h2 => ?_⟩
 · rw [if_neg (by omega)] at h'
   have e : (1 : Int) + (partsOf l[i].kind).1 - (1 : Int) = (((partsOf l[i].kind).1.toNat - 0 : Nat) : Int) := by omega
   have e2 : ((i + 1 : Nat) : Int) = (i : Int) + 1 := by omega
   rw [e2, ← e, ← h']
   refine Prod.ext ?_ ?_
   · dsimp only; omega
   · exact h
 · rw [if_pos (by omega)] at h'
   rw [h']; dsimp only; omega
theorem Within.next {l : List Fo} {n j i e : Nat} (p : Within l n j i e) (hj : j < n) : (endOf l i).2 = 0 ∧ (i : Int) < (endOf l i).1 ∧ (endOf l i).1 ≤ e ∧ Within l n (j + 1) (endOf l i).1.toNat e := by
 obtain ⟨k1, k2, k3, k4, k5⟩ := scan_parts (by omega) (p.more hj)
 have hle := (scan_first (by omega) (p.more hj)).2
 refine ⟨k1, k2, hle, by omega, by omega, fun h => ?_, fun h => ?_⟩
 · have := k5 (by omega)
   rwa [show n - j - 1 = n - (j + 1) by omega] at this
 · have := k4 (by omega)
   omega
theorem Within.lt {l : List Fo} {n j i e : Nat} (p : Within l n j i e) : j < n ↔ i < e := by
 constructor
 · intro h
   have := p.next h
   omega
 · intro h
   have := p.le
   have := p.fin
   omega

theorem starts_part {l : List Fo} {i : Nat} (h : (endOf l i).2 = 0) : ∀ (n j p e : Nat), Within l n j (i + p) e → (e : Int) ≤ (endOf l i).1 →
 starts l (n - j) (i + p) = (starts ((l.drop i).take ((endOf l i).1.toNat - i)) (n - j) p).map (i + ·) := by
 intro n j
 induction hk : n - j generalizing j with
 | zero => intro p e w he; rfl
 | succ k ih =>
   intro p e w he
   obtain ⟨q1, q2, q3, q4⟩ := w.next (by omega)
   have hp := part_at h p (by omega)
   simp only [starts, List.map_cons]
   congr 1
   rw [hp]
   have e1 : (endOf l (i + p : Nat)).1.toNat = i + ((endOf l (i + p : Nat)).1 - i).toNat := by omega
   have q4' := q4
   rw [e1] at q4'
   have := ih (j + 1) (by omega) _ e q4' he
   rw [← this, ← e1]
theorem kindAt_part {l : List Fo} {i : Nat} (p m : Nat) (hp : p < m) : kindAt ((l.drop i).take m) p = kindAt l (i + p) := by
 unfold kindAt
 rw [List.getElem?_take, if_pos hp, List.getElem?_drop]
theorem starts_lt {l : List Fo} : ∀ (n j i e : Nat), Within l n j i e → ∀ p ∈ starts l (n - j) i, i ≤ p ∧ p < e := by
 intro n j
 induction hk : n - j generalizing j with
 | zero => intro i e w p hp; simp [starts] at hp
 | succ k ih =>
   intro i e w p hp
   obtain ⟨q1, q2, q3, q4⟩ := w.next (by omega)
   simp only [starts, List.mem_cons] at hp
   rcases hp with rfl | hp
   · omega
   · have := ih (j + 1) (by omega) _ e q4 p hp
     omega
theorem tyAt_part {l : List Fo} {i : Nat} (h : (endOf l i).2 = 0) (p : Nat) (hp : (i : Int) + p < (endOf l i).1) : tyAt ((l.drop i).take ((endOf l i).1.toNat - i)) p ↔ tyAt l (i + p) := by
 have hb := endOf_bound l i h
 have hlt : i + p < l.length := by omega
 have hs : scan (l.drop i) 1 i = ((endOf l i).1, 0) := by
  have he' : endOf l i = scan (l.drop i) 1 i := by unfold endOf; rw [Int.toNat_natCast]
  rw [← he']; exact Prod.ext rfl h
 obtain ⟨n1, n2⟩ := scan_nest l l.length i 1 _ (by omega) (by omega) hs (i + p) (by omega) (by omega)
 have hk : kindAt ((l.drop i).take ((endOf l i).1.toNat - i)) p = kindAt l (i + p) := kindAt_part p _ (by omega)
 have w := Within.start hlt n1
 rw [← kindAt_eq l (i + p) hlt] at w
 have e1 : i + p + 1 = i + (p + 1) := by omega
 rw [e1] at w
 have hst := starts_part h _ 0 (p + 1) _ w (by omega)
 have hlts := starts_lt _ 0 _ _ w
 simp only [Nat.sub_zero] at hst hlts
 unfold tyAt
 rw [hk, e1]
 rw [hst] at hlts ⊢
 have key : ∀ q, q ∈ starts ((l.drop i).take ((endOf l i).1.toNat - i)) (partsOf (kindAt l (i + p))).1.toNat (p + 1) → (fitAt ((l.drop i).take ((endOf l i).1.toNat - i)) p q ↔ fitAt l (i + p) (i + q)) := by
  intro q hq
  have := hlts (i + q) (List.mem_map.2 ⟨q, hq, rfl⟩)
  unfold fitAt
  rw [hk, kindAt_part q _ (by omega)]
 constructor
 · intro H q hq
   obtain ⟨q', hq', rfl⟩ := List.mem_map.1 hq
   exact (key q' hq').1 (H q' hq')
 · intro H q hq
   exact (key q hq).2 (H _ (List.mem_map.2 ⟨q, hq, rfl⟩))
structure TypedSo (l : List Fo) (n j i : Nat) (out : List (List Fo)) : Prop where
 here : tyAt l 0 ↔ ((∀ t ∈ out, (makesP (kindAt t 0) ↔ takesP (kindAt l 0))) ∧ ∀ p ∈ starts l (n - j) i, fitAt l 0 p)
 below : (∀ q, 1 ≤ q → q < i → tyAt l q) ↔ ∀ t ∈ out, typedP t
theorem TypedSo.next {l : List Fo} {n j i : Nat} {out : List (List Fo)} (p : Parted l n j i out) (d : TypedSo l n j i out) (hj : j < n) : TypedSo l n (j + 1) (endOf l i).1.toNat (out ++ [(l.drop i).take ((endOf l i).1.toNat - i)]) := by
 obtain ⟨q1, q2, q3, q4⟩ := p.next hj
 have hlen := part_length q1
 have hk : kindAt ((l.drop i).take ((endOf l i).1.toNat - i)) 0 = kindAt l (i + 0) := kindAt_part 0 _ (by omega)
 have hty := fun q hq => tyAt_part q1 q hq
 generalize hc : (l.drop i).take ((endOf l i).1.toNat - i) = c at hlen hk hty ⊢
 constructor
 · rw [d.here]
   have e : n - j = (n - (j + 1)) + 1 := by omega
   rw [e]
   simp only [starts, List.mem_cons, List.mem_append, List.not_mem_nil, or_false]
   constructor
   · rintro ⟨h1, h2⟩
     refine ⟨fun t ht => ?_, fun q hq => h2 q (.inr hq)⟩
     rcases ht with ht | rfl
     · exact h1 t ht
     · have := h2 i (.inl rfl)
       rw [hk]; exact this
   · rintro ⟨h1, h2⟩
     refine ⟨fun t ht => h1 t (.inl ht), fun q hq => ?_⟩
     rcases hq with rfl | hq
     · have := h1 c (.inr rfl)
       rw [hk] at this; exact this
     · exact h2 q hq
 · constructor
   · intro H t ht
     rcases List.mem_append.1 ht with ht | ht
     · exact d.below.1 (fun q h1 h2 => H q h1 (by omega)) t ht
     · obtain rfl : t = c := by simpa using ht
       intro q hq
       have := p.one
       exact (hty q (by omega)).2 (H (i + q) (by omega) (by omega))
   · intro H q h1 h2
     by_cases hq : q < i
     · exact d.below.2 (fun t ht => H t (List.mem_append.2 (.inl ht))) q h1 hq
     · have := (hty (q - i) (by omega)).1 (H c (List.mem_append.2 (.inr (by simp))) (q - i) (by omega))
       rwa [show i + (q - i) = q by omega] at this
theorem typed_parts {l : List Fo} (h : (endsOf l).2 = 0) : typedP l ↔ ∀ t ∈ (splitOf l).1, (makesP (kindAt t 0) ↔ takesP (kindAt l 0)) ∧ typedP t := by
 obtain ⟨h60, h0, h1, _, _⟩ := endsOf_ok (l := l) (es := (endsOf l).1) (Prod.ext rfl h)
 have hs : (splitOf l).1 = chunks l (partsOf l[0].kind).1.toNat 1 := by rw [splitOf, if_neg (by simpa using h), List.getElem?_eq_getElem h0]; rfl
 have key : ∀ (m j i : Nat) (out : List (List Fo)), (partsOf l[0].kind).1.toNat ≤ j + m → Parted l (partsOf l[0].kind).1.toNat j i out → TypedSo l (partsOf l[0].kind).1.toNat j i out →
  TypedSo l (partsOf l[0].kind).1.toNat (partsOf l[0].kind).1.toNat l.length (chunks l (partsOf l[0].kind).1.toNat 1) := by
  intro m
  induction m with
  | zero =>
    intro j i out hm p d
    have := p.le
    have hj : j = (partsOf l[0].kind).1.toNat := by omega
    have hfin := p.fin hj
    rw [p.done hj, ← hfin]; subst hj; exact d
  | succ m ih =>
    intro j i out hm p d
    by_cases hj : j < (partsOf l[0].kind).1.toNat
    · obtain ⟨q1, q2, q3, q4⟩ := p.next hj
      exact ih (j + 1) _ _ (by omega) q4 (d.next p hj)
    · have := p.le
      have hj : j = (partsOf l[0].kind).1.toNat := by omega
      have hfin := p.fin hj
      rw [p.done hj, ← hfin]; subst hj; exact d
 have d0 : TypedSo l (partsOf l[0].kind).1.toNat 0 1 [] := ⟨by unfold tyAt; rw [kindAt_eq l 0 h0]; simp, by
  constructor
  · intro _ t ht; simp at ht
  · intro _ q h1 h2; omega⟩
 have d := key _ 0 1 [] (Nat.le_of_eq (Nat.zero_add _).symm) (Parted.start h0 h1) d0
 rw [hs]
 have hh := d.here
 rw [Nat.sub_self] at hh
 simp only [starts, List.not_mem_nil, false_implies, implies_true, and_true] at hh
 constructor
 · intro H t ht
   exact ⟨hh.1 (H 0 h0) t ht, d.below.1 (fun q _ h2 => H q h2) t ht⟩
 · intro H i hi
   by_cases h : i = 0
   · subst h; exact hh.2 fun t ht => (H t ht).1
   · exact d.below.2 (fun t ht => (H t ht).2) i (by omega) hi
def typedZ (l : List Fo) : Int := if typedP l then 0 else 5
def exprC (l : List Fo) (vars : Int) : Bool × Int :=
 if vars < 0 ∨ 6 < vars then (false, 2)
 else if (endsOf l).2 ≠ 0 then (false, (endsOf l).2)
 else if opsE l vars ≠ 0 then (false, opsE l vars)
 else if typedP l then (decide (makesP (kindAt l 0)), 0) else (false, 5)
end Go.Sp
