/- A bundle of this claim's own texts: T6 Se T8. -/
import Derived.Test.YtmamiihpghnmmaaDoorZ2
namespace Go.Proofs.YtmamiihpghnmmaaDoor
open Go Go.Av Go.Sp
set_option linter.unusedVariables false
set_option linter.unusedSimpArgs false
set_option maxRecDepth 100000
set_option maxHeartbeats 4000000

end Go.Proofs.YtmamiihpghnmmaaDoor
namespace Go.Sp
open Go.Av
set_option linter.unusedVariables false
set_option linter.unusedSimpArgs false

abbrev okP (k : Int) : Prop := 1 ≤ k ∧ k ≤ 12
abbrev makesP (k : Int) : Prop := 6 ≤ k ∧ k ≤ 12
abbrev takesP (k : Int) : Prop := 8 ≤ k ∧ k ≤ 12
def opZ (k v vars : Int) : Int :=
  if ¬ okP k then 13
  else if (k = 1 ∧ (v < -1000 ∨ 1000 < v)) ∨ (k = 2 ∧ (v < 0 ∨ vars ≤ v)) ∨ (2 < k ∧ v ≠ 0) then 2 else 0
def opsE : List Fo → Int → Int
  | [], _ => 0
  | o :: r, vars => if opZ o.kind o.val vars ≠ 0 then opZ o.kind o.val vars else opsE r vars
theorem opsE_at (l : List Fo) (i : Nat) (hi : i < l.length) (vars : Int) : opsE (l.drop i) vars = if opZ l[i].kind l[i].val vars ≠ 0 then opZ l[i].kind l[i].val vars else opsE (l.drop (i + 1)) vars := by
  rw [List.drop_eq_getElem_cons hi]; rfl
theorem opsE_end (l : List Fo) (i : Nat) (hi : l.length ≤ i) (vars : Int) : opsE (l.drop i) vars = 0 := by
  rw [List.drop_eq_nil_of_le hi]; rfl

def kindAt (l : List Fo) (i : Nat) : Int := (l[i]?.map Fo.kind).getD 0
theorem kindAt_eq (l : List Fo) (i : Nat) (hi : i < l.length) : kindAt l i = l[i].kind := by unfold kindAt; rw [List.getElem?_eq_getElem hi]; rfl
def starts (l : List Fo) : Nat → Nat → List Nat
  | 0, _ => []
  | k + 1, i => i :: starts l k (endOf l i).1.toNat
abbrev fitAt (l : List Fo) (at_ p : Nat) : Prop := (makesP (kindAt l p) ↔ takesP (kindAt l at_))
abbrev tyAt (l : List Fo) (at_ : Nat) : Prop := ∀ p ∈ starts l (partsOf (kindAt l at_)).1.toNat (at_ + 1), fitAt l at_ p
abbrev typedP (l : List Fo) : Prop := ∀ i, i < l.length → tyAt l i

structure Within (l : List Fo) (n j i e : Nat) : Prop where
  le : j ≤ n
  upto : i ≤ e
  more : j < n → scan (l.drop i) ((n - j : Nat) : Int) i = ((e : Int), 0)
  fin : j = n → i = e
theorem Within.start {l : List Fo} {i : Nat} (hi : i < l.length) (h : (endOf l i).2 = 0) : Within l (partsOf l[i].kind).1.toNat 0 (i + 1) (endOf l i).1.toNat := by
  have hb := endOf_bound l i h
  have h' := endOf_at l i hi
  have hp := partsOf_le l[i].kind
  by_cases h1 : (partsOf l[i].kind).2 ≠ 0
  · rw [if_pos h1] at h'; rw [h'] at h; exact absurd h h1
  rw [if_neg h1] at h'
  refine ⟨Nat.zero_le _, by omega, fun h2 => ?_, fun h2 => ?_⟩
  · rw [if_neg (by omega)] at h'
    have e : (1 : Int) + (partsOf l[i].kind).1 - (1 : Int) = (((partsOf l[i].kind).1.toNat - 0 : Nat) : Int) := by omega
    have e2 : ((i + 1 : Nat) : Int) = (i : Int) + 1 := by omega
    rw [e2, ← e, ← h']
    refine Prod.ext ?_ ?_
    · dsimp only; omega
    · exact h
  · rw [if_pos (by omega)] at h'
    rw [h']; dsimp only; omega
theorem Within.next {l : List Fo} {n j i e : Nat} (p : Within l n j i e) (hj : j < n) : (endOf l i).2 = 0 ∧ (i : Int) < (endOf l i).1 ∧ (endOf l i).1 ≤ e ∧ Within l n (j + 1) (endOf l i).1.toNat e := by
  obtain ⟨k1, k2, k3, k4, k5⟩ := scan_parts (by omega) (p.more hj)
  have hle := (scan_first (by omega) (p.more hj)).2
  refine ⟨k1, k2, hle, by omega, by omega, fun h => ?_, fun h => ?_⟩
  · have := k5 (by omega)
    rwa [show n - j - 1 = n - (j + 1) by omega] at this
  · have := k4 (by omega)
    omega
theorem Within.lt {l : List Fo} {n j i e : Nat} (p : Within l n j i e) : j < n ↔ i < e := by
  constructor
  · intro h
    have := p.next h
    omega
  · intro h
    have := p.le
    have := p.fin
    omega

theorem starts_part {l : List Fo} {i : Nat} (h : (endOf l i).2 = 0) : ∀ (n j p e : Nat), Within l n j (i + p) e → (e : Int) ≤ (endOf l i).1 →
    starts l (n - j) (i + p) = (starts ((l.drop i).take ((endOf l i).1.toNat - i)) (n - j) p).map (i + ·) := by
  intro n j
  induction hk : n - j generalizing j with
  | zero => intro p e w he; rfl
  | succ k ih =>
    intro p e w he
    obtain ⟨q1, q2, q3, q4⟩ := w.next (by omega)
    have hp := part_at h p (by omega)
    simp only [starts, List.map_cons]
    congr 1
    rw [hp]
    have e1 : (endOf l (i + p : Nat)).1.toNat = i + ((endOf l (i + p : Nat)).1 - i).toNat := by omega
    have q4' := q4
    rw [e1] at q4'
    have := ih (j + 1) (by omega) _ e q4' he
    rw [← this, ← e1]
theorem kindAt_part {l : List Fo} {i : Nat} (p m : Nat) (hp : p < m) : kindAt ((l.drop i).take m) p = kindAt l (i + p) := by
  unfold kindAt
  rw [List.getElem?_take, if_pos hp, List.getElem?_drop]
theorem starts_lt {l : List Fo} : ∀ (n j i e : Nat), Within l n j i e → ∀ p ∈ starts l (n - j) i, i ≤ p ∧ p < e := by
  intro n j
  induction hk : n - j generalizing j with
  | zero => intro i e w p hp; simp [starts] at hp
  | succ k ih =>
    intro i e w p hp
    obtain ⟨q1, q2, q3, q4⟩ := w.next (by omega)
    simp only [starts, List.mem_cons] at hp
    rcases hp with rfl | hp
    · omega
    · have := ih (j + 1) (by omega) _ e q4 p hp
      omega
theorem tyAt_part {l : List Fo} {i : Nat} (h : (endOf l i).2 = 0) (p : Nat) (hp : (i : Int) + p < (endOf l i).1) : tyAt ((l.drop i).take ((endOf l i).1.toNat - i)) p ↔ tyAt l (i + p) := by
  have hb := endOf_bound l i h
  have hlt : i + p < l.length := by omega
  have hs : scan (l.drop i) 1 i = ((endOf l i).1, 0) := by
    have he' : endOf l i = scan (l.drop i) 1 i := by unfold endOf; rw [Int.toNat_natCast]
    rw [← he']; exact Prod.ext rfl h
  obtain ⟨n1, n2⟩ := scan_nest l l.length i 1 _ (by omega) (by omega) hs (i + p) (by omega) (by omega)
  have hk : kindAt ((l.drop i).take ((endOf l i).1.toNat - i)) p = kindAt l (i + p) := kindAt_part p _ (by omega)
  have w := Within.start hlt n1
  rw [← kindAt_eq l (i + p) hlt] at w
  have e1 : i + p + 1 = i + (p + 1) := by omega
  rw [e1] at w
  have hst := starts_part h _ 0 (p + 1) _ w (by omega)
  have hlts := starts_lt _ 0 _ _ w
  simp only [Nat.sub_zero] at hst hlts
  unfold tyAt
  rw [hk, e1]
  rw [hst] at hlts ⊢
  have key : ∀ q, q ∈ starts ((l.drop i).take ((endOf l i).1.toNat - i)) (partsOf (kindAt l (i + p))).1.toNat (p + 1) → (fitAt ((l.drop i).take ((endOf l i).1.toNat - i)) p q ↔ fitAt l (i + p) (i + q)) := by
    intro q hq
    have := hlts (i + q) (List.mem_map.2 ⟨q, hq, rfl⟩)
    unfold fitAt
    rw [hk, kindAt_part q _ (by omega)]
  constructor
  · intro H q hq
    obtain ⟨q', hq', rfl⟩ := List.mem_map.1 hq
    exact (key q' hq').1 (H q' hq')
  · intro H q hq
    exact (key q hq).2 (H _ (List.mem_map.2 ⟨q, hq, rfl⟩))
structure TypedSo (l : List Fo) (n j i : Nat) (out : List (List Fo)) : Prop where
  here : tyAt l 0 ↔ ((∀ t ∈ out, (makesP (kindAt t 0) ↔ takesP (kindAt l 0))) ∧ ∀ p ∈ starts l (n - j) i, fitAt l 0 p)
  below : (∀ q, 1 ≤ q → q < i → tyAt l q) ↔ ∀ t ∈ out, typedP t
theorem TypedSo.next {l : List Fo} {n j i : Nat} {out : List (List Fo)} (p : Parted l n j i out) (d : TypedSo l n j i out) (hj : j < n) : TypedSo l n (j + 1) (endOf l i).1.toNat (out ++ [(l.drop i).take ((endOf l i).1.toNat - i)]) := by
  obtain ⟨q1, q2, q3, q4⟩ := p.next hj
  have hlen := part_length q1
  have hk : kindAt ((l.drop i).take ((endOf l i).1.toNat - i)) 0 = kindAt l (i + 0) := kindAt_part 0 _ (by omega)
  have hty := fun q hq => tyAt_part q1 q hq
  generalize hc : (l.drop i).take ((endOf l i).1.toNat - i) = c at hlen hk hty ⊢
  constructor
  · rw [d.here]
    have e : n - j = (n - (j + 1)) + 1 := by omega
    rw [e]
    simp only [starts, List.mem_cons, List.mem_append, List.not_mem_nil, or_false]
    constructor
    · rintro ⟨h1, h2⟩
      refine ⟨fun t ht => ?_, fun q hq => h2 q (.inr hq)⟩
      rcases ht with ht | rfl
      · exact h1 t ht
      · have := h2 i (.inl rfl)
        rw [hk]; exact this
    · rintro ⟨h1, h2⟩
      refine ⟨fun t ht => h1 t (.inl ht), fun q hq => ?_⟩
      rcases hq with rfl | hq
      · have := h1 c (.inr rfl)
        rw [hk] at this; exact this
      · exact h2 q hq
  · constructor
    · intro H t ht
      rcases List.mem_append.1 ht with ht | ht
      · exact d.below.1 (fun q h1 h2 => H q h1 (by omega)) t ht
      · obtain rfl : t = c := by simpa using ht
        intro q hq
        have := p.one
        exact (hty q (by omega)).2 (H (i + q) (by omega) (by omega))
    · intro H q h1 h2
      by_cases hq : q < i
      · exact d.below.2 (fun t ht => H t (List.mem_append.2 (.inl ht))) q h1 hq
      · have := (hty (q - i) (by omega)).1 (H c (List.mem_append.2 (.inr (by simp))) (q - i) (by omega))
        rwa [show i + (q - i) = q by omega] at this
theorem typed_parts {l : List Fo} (h : (endsOf l).2 = 0) : typedP l ↔ ∀ t ∈ (splitOf l).1, (makesP (kindAt t 0) ↔ takesP (kindAt l 0)) ∧ typedP t := by
  obtain ⟨h60, h0, h1, _, _⟩ := endsOf_ok (l := l) (es := (endsOf l).1) (Prod.ext rfl h)
  have hs : (splitOf l).1 = chunks l (partsOf l[0].kind).1.toNat 1 := by rw [splitOf, if_neg (by simpa using h), List.getElem?_eq_getElem h0]; rfl
  have key : ∀ (m j i : Nat) (out : List (List Fo)), (partsOf l[0].kind).1.toNat ≤ j + m → Parted l (partsOf l[0].kind).1.toNat j i out → TypedSo l (partsOf l[0].kind).1.toNat j i out →
      TypedSo l (partsOf l[0].kind).1.toNat (partsOf l[0].kind).1.toNat l.length (chunks l (partsOf l[0].kind).1.toNat 1) := by
    intro m
    induction m with
    | zero =>
      intro j i out hm p d
      have := p.le
      have hj : j = (partsOf l[0].kind).1.toNat := by omega
      have hfin := p.fin hj
      rw [p.done hj, ← hfin]; subst hj; exact d
    | succ m ih =>
      intro j i out hm p d
      by_cases hj : j < (partsOf l[0].kind).1.toNat
      · obtain ⟨q1, q2, q3, q4⟩ := p.next hj
        exact ih (j + 1) _ _ (by omega) q4 (d.next p hj)
      · have := p.le
        have hj : j = (partsOf l[0].kind).1.toNat := by omega
        have hfin := p.fin hj
        rw [p.done hj, ← hfin]; subst hj; exact d
  have d0 : TypedSo l (partsOf l[0].kind).1.toNat 0 1 [] := ⟨by unfold tyAt; rw [kindAt_eq l 0 h0]; simp, by
    constructor
    · intro _ t ht; simp at ht
    · intro _ q h1 h2; omega⟩
  have d := key _ 0 1 [] (Nat.le_of_eq (Nat.zero_add _).symm) (Parted.start h0 h1) d0
  rw [hs]
  have hh := d.here
  rw [Nat.sub_self] at hh
  simp only [starts, List.not_mem_nil, false_implies, implies_true, and_true] at hh
  constructor
  · intro H t ht
    exact ⟨hh.1 (H 0 h0) t ht, d.below.1 (fun q _ h2 => H q h2) t ht⟩
  · intro H i hi
    by_cases h : i = 0
    · subst h; exact hh.2 fun t ht => (H t ht).1
    · exact d.below.2 (fun t ht => (H t ht).2) i (by omega) hi
def typedZ (l : List Fo) : Int := if typedP l then 0 else 5
def exprC (l : List Fo) (vars : Int) : Bool × Int :=
  if vars < 0 ∨ 6 < vars then (false, 2)
  else if (endsOf l).2 ≠ 0 then (false, (endsOf l).2)
  else if opsE l vars ≠ 0 then (false, opsE l vars)
  else if typedP l then (decide (makesP (kindAt l 0)), 0) else (false, 5)
end Go.Sp
namespace Go.Proofs.YtmamiihpghnmmaaDoor
open Go Go.Av Go.Sp
set_option linter.unusedVariables false
set_option linter.unusedSimpArgs false
set_option maxRecDepth 100000
set_option maxHeartbeats 4000000

theorem cal_truth : Cal Tryd.prog 95 := Cal.of Tryd.func95 (by kernel_rfl) (by kernel_rfl)
theorem cal_op : Cal Tryd.prog 94 := Cal.of Tryd.func94 (by kernel_rfl) (by kernel_rfl)
theorem cal_ECheck : Cal Tryd.prog 69 := Cal.of Tryd.func69 (by kernel_rfl) (by kernel_rfl)
theorem cal_makesTruth : Cal Tryd.prog 105 := Cal.of Tryd.func105 (by kernel_rfl) (by kernel_rfl)
theorem cal_takesTruth : Cal Tryd.prog 123 := Cal.of Tryd.func123 (by kernel_rfl) (by kernel_rfl)
theorem cal_typed : Cal Tryd.prog 104 := Cal.of Tryd.func104 (by kernel_rfl) (by kernel_rfl)
theorem cal_ExprChecked : Cal Tryd.prog 74 := Cal.of Tryd.func74 (by kernel_rfl) (by kernel_rfl)
theorem truth (G : List (Nat × List D)) (x : Int) : ACr Tryd.prog G 95 [.int x] (.tup [.bool (decide (makesP x)), .bool (decide (takesP x)), .bool (decide (okP x))]) := by
  refine AC_of (ts := [2, 3, 4]) 21 Tryd.func95 rfl rfl rfl (by simp) fun W I => ?_
  repeat' (first
    | exact True.intro
    | refine stp ?_
    | refine two ?_ ?_
    | (refine imp fun hc => ?_) <;> try (first | contradiction | (exfalso; omega))
    | refine all fun v_ => ?_)
  all_goals
    ((with_reducible apply rq3); rfl; rfl; rfl; rfl)
    refine ret_eq (tup3 ?_ ?_ ?_) <;> (first | rfl | (refine decide_eq_decide.2 ?_; omega) | (refine (decide_eq_true ?_).symm; omega) | (refine (decide_eq_false ?_).symm; omega) | (refine decide_eq_true ?_; omega) | (refine decide_eq_false ?_; omega))
theorem makesTruth (G : List (Nat × List D)) (x : Int) : ACr Tryd.prog G 105 [.int x] (.bool (decide (makesP x))) := by
  refine AC_of (ts := [2]) 5 Tryd.func105 rfl rfl rfl (by simp) fun W I => ?_
  repeat' (first
    | ((with_reducible apply call0); (focus rfl); (focus exact cal_In); (focus exact In _ _ _ _); (focus rfl))
    | ((with_reducible apply je_call0); (focus rfl); (focus (decide +kernel)); (focus rfl); (focus exact cal_In); (focus exact In _ _ _ _); (focus rfl))
    | exact True.intro
    | refine stp ?_
    | refine two ?_ ?_
    | (refine imp fun hc => ?_) <;> try (first | contradiction | (exfalso; omega))
    | refine all fun v_ => ?_)
  ((with_reducible apply rq1); rfl; rfl)
  exact ret_eq rfl
theorem takesTruth (G : List (Nat × List D)) (x : Int) : ACr Tryd.prog G 123 [.int x] (.bool (decide (8 ≤ x ∧ x ≤ 10))) := by
  refine AC_of (ts := [2]) 5 Tryd.func123 rfl rfl rfl (by simp) fun W I => ?_
  repeat' (first
    | ((with_reducible apply call0); (focus rfl); (focus exact cal_In); (focus exact In _ _ _ _); (focus rfl))
    | ((with_reducible apply je_call0); (focus rfl); (focus (decide +kernel)); (focus rfl); (focus exact cal_In); (focus exact In _ _ _ _); (focus rfl))
    | exact True.intro
    | refine stp ?_
    | refine two ?_ ?_
    | (refine imp fun hc => ?_) <;> try (first | contradiction | (exfalso; omega))
    | refine all fun v_ => ?_)
  ((with_reducible apply rq1); rfl; rfl)
  exact ret_eq rfl
theorem op (G : List (Nat × List D)) (a b vars : Int) (h0 : 0 ≤ vars) (h1 : vars ≤ 6) : ACr Tryd.prog G 94 [.agg [.int a, .int b], .int vars] (.int (opZ a b vars)) := by
  refine AC_ofV (ts := [4]) 37 Tryd.func94 rfl rfl rfl (by simp) fun W I => ?_
  repeat' (first
    | ((with_reducible apply call0); (focus rfl); (focus exact cal_truth); (focus exact truth _ _); (focus rfl))
    | ((with_reducible apply je_call0); (focus rfl); (focus (decide +kernel)); (focus rfl); (focus exact cal_truth); (focus exact truth _ _); (focus rfl))
    | ((with_reducible apply jboxT); (focus rfl); (focus rfl); (focus rfl))
    | ((with_reducible apply jalloc1T); (focus (with_reducible exact ElC.h)); (focus rfl); (focus rfl))
    | ((with_reducible apply jallocN); (focus (with_reducible exact ElC.h)); (focus rfl))
    | ((with_reducible apply jmk_bool); (focus rfl); (focus rfl); (focus (with_reducible exact ElC.h)); (focus omega); (focus omega); (focus rfl))
    | ((with_reducible apply jmk_int); (focus rfl); (focus rfl); (focus (with_reducible exact ElC.h)); (focus omega); (focus omega); (focus rfl))
    | ((with_reducible apply js_um); (focus rfl); (focus ((repeat (first | with_reducible exact Upd.here | with_reducible apply Upd.there)); done)); (focus rfl); (focus rfl); (focus (with_reducible exact ElC.h)); (focus (first | omega | (simp only [List.length_map, List.length_range, List.length_append, List.length_cons, List.length_nil, List.length_take, List.length_drop, List.length_set, List.length_replicate]; omega))))
    | ((with_reducible apply js_uw); (focus rfl); (focus rfl); (focus rfl); (focus (with_reducible exact ElC.h)); (focus rfl); (focus ((repeat (first | with_reducible exact Upd.here | with_reducible apply Upd.there)); done)); (focus rfl))
    | ((with_reducible apply js_ur); (focus rfl); (focus rfl); (focus rfl); (focus (with_reducible exact ElC.h)); (focus ((repeat (first | with_reducible exact Upd.here | with_reducible apply Upd.there)); done)); (focus ((repeat (first | exact SetAR.nil | apply SetAR.put | apply SetAR.skip)); done)))
    | ((with_reducible apply js_us); (focus rfl); (focus rfl); (focus rfl); (focus (with_reducible exact ElC.h)); (focus rfl); (focus ((repeat (first | with_reducible exact Upd.here | with_reducible apply Upd.there)); done)); (focus ((repeat (first | exact SetAR.nil | apply SetAR.put | apply SetAR.skip)); done)))
    | exact True.intro
    | refine stp ?_
    | refine two ?_ ?_
    | (refine imp fun hc => ?_) <;> try (first | contradiction | (exfalso; omega))
    | refine all fun v_ => ?_)
  all_goals
    refine retv (VS.drop (List.nil_sublist _)) ?_
    ((with_reducible apply rq1); rfl; rfl)
    refine ret_eq (congrArg AV.int ?_)
    unfold opZ
    first
      | (rw [if_pos (by omega)])
      | (rw [if_neg (by omega), if_pos (by omega)])
      | (rw [if_neg (by omega), if_neg (by omega)])

theorem typed (G : List (Nat × List D)) : ∀ (m : Nat) (l : List Fo), l.length ≤ m → (endsOf l).2 = 0 → ACr Tryd.prog G 104 [.d (opsD l)] (.int (typedZ l)) := by
  intro m
  induction m using Nat.strongRecOn with
  | _ m ih =>
  intro l hm hok
  have hE := SplitOf G l
  have hT := typed_parts hok
  obtain ⟨_, hwell⟩ := deep_parts hok
  have hs : splitOf l = ((splitOf l).1, 0) := by rw [splitOf, if_neg (by simpa using hok)]
  generalize (splitOf l).1 = ps at hT hwell hs
  rw [hs] at hE
  obtain ⟨h60, h0, hend, _, _⟩ := endsOf_ok (l := l) (es := (endsOf l).1) (Prod.ext rfl hok)
  have hk0 := kindAt_eq l 0 h0
  have hleaf : 0 < ps.length → l[0].kind ≠ 11 ∧ l[0].kind ≠ 12 := by
    intro hps
    have : (splitOf l).1 = chunks l (partsOf l[0].kind).1.toNat 1 := by rw [splitOf, if_neg (by simpa using hok), List.getElem?_eq_getElem h0]; rfl
    rw [hs] at this
    dsimp only at this
    have e1 : (partsOf 11).1.toNat = 0 := by decide
    have e2 : (partsOf 12).1.toNat = 0 := by decide
    constructor <;> (intro hk; rw [hk] at this; first | rw [e1] at this | rw [e2] at this
                     rw [this] at hps; exact absurd hps (Nat.lt_irrefl 0))
  refine AC_of (ts := [2]) 39 Tryd.func104 rfl rfl rfl (by simp) fun W I => ?_
  refine jfact (t := 0) rfl fun hl => ?_
  repeat' (first
    | ((with_reducible apply call0); (focus rfl); (focus exact cal_SplitOf); (focus exact hE); (focus rfl))
    | ((with_reducible apply je_call0); (focus rfl); (focus (decide +kernel)); (focus rfl); (focus exact cal_SplitOf); (focus exact hE); (focus rfl))
    | ((with_reducible apply qcall); (focus rfl); (focus exact cal_makesTruth); (focus exact makesTruth _ _); (focus rfl))
    | ((with_reducible apply qcall); (focus rfl); (focus exact cal_takesTruth); (focus exact takesTruth _ _); (focus rfl))
    | ((with_reducible apply qcall); (focus rfl); (focus exact cal_typed); (focus exact hT'); (focus rfl))
    | exact True.intro
    | refine stp ?_
    | refine two ?_ ?_
    | (refine imp fun hc => ?_) <;> try (first | contradiction | (exfalso; omega))
    | refine all fun v_ => ?_)
  dsimp only
  refine jfact (t := 3) rfl fun hl3 => ?_
  refine J_loop (X := Nat) (fun i => [(0, .d (opsD l)), (3, .d (termsD ps)), (5, .int i)]) (fun _ => []) (fun i => i ≤ ps.length ∧ ∀ t ∈ ps.take i, (makesP (kindAt t 0) ↔ takesP (kindAt l 0)) ∧ typedP t) (fun i => ps.length - i) 0 ⟨Nat.zero_le _, by simp⟩ ?_ rfl ?_
  · repeat (first
      | exact Env.le_nil _
      | refine Env.le_cons (AV.le_refl _) ?_
      | refine Env.le_cons (AV.le_int rfl (by first | rfl | omega | (dsimp only; omega))) ?_)
  rintro i ⟨hi, hg⟩
  by_cases hil : i < ps.length
  · have hw := hwell ps[i] (List.getElem_mem hil)
    have hT' := ih ps[i].length (by omega) ps[i] (Nat.le_refl _) hw.1
    obtain ⟨_, h0', _, _, _⟩ := endsOf_ok (l := ps[i]) (es := (endsOf ps[i]).1) (Prod.ext rfl hw.1)
    have hk1 := kindAt_eq ps[i] 0 h0'
    have hleaf' := hleaf (by omega)
    have bad : ¬ ((makesP (kindAt ps[i] 0) ↔ takesP (kindAt l 0)) ∧ typedP ps[i]) → typedZ l = 5 := fun hb => by
      rw [typedZ, if_neg]
      intro ht
      exact hb (hT.1 ht _ (List.getElem_mem hil))
    repeat' (first
      | ((with_reducible apply call0); (focus rfl); (focus exact cal_SplitOf); (focus exact hE); (focus rfl))
      | ((with_reducible apply je_call0); (focus rfl); (focus (decide +kernel)); (focus rfl); (focus exact cal_SplitOf); (focus exact hE); (focus rfl))
      | ((with_reducible apply qcall); (focus rfl); (focus exact cal_makesTruth); (focus exact makesTruth _ _); (focus rfl))
      | ((with_reducible apply qcall); (focus rfl); (focus exact cal_takesTruth); (focus exact takesTruth _ _); (focus rfl))
      | ((with_reducible apply qcall); (focus rfl); (focus exact cal_typed); (focus exact hT'); (focus rfl))
      | exact True.intro
      | refine stp ?_
      | refine two ?_ ?_
      | (refine imp fun hc => ?_) <;> try (first | contradiction | (exfalso; omega))
      | refine all fun v_ => ?_)
    · ((with_reducible apply rq1); rfl; rfl)
      refine ret_eq (congrArg AV.int ?_)
      exact (bad fun ⟨_, h⟩ => hc (by rw [typedZ, if_pos h])).symm
    · have hbeq : (decide (makesP ps[i][0].kind) == decide (8 ≤ l[0].kind ∧ l[0].kind ≤ 10)) = true := by assumption
      have hz : typedP ps[i] := by
        unfold typedZ at hc
        by_cases h : typedP ps[i]
        · exact h
        · rw [if_neg h] at hc; exact absurd (by decide) hc
      refine ⟨i + 1, ⟨by omega, ?_⟩, by omega, ?_, rfl⟩
      · intro t ht
        rw [List.take_succ_eq_append_getElem hil] at ht
        rcases List.mem_append.1 ht with ht | ht
        · exact hg t ht
        · obtain rfl : t = ps[i] := by simpa using ht
          refine ⟨?_, hz⟩
          rw [hk1, hk0]
          simp only [beq_iff_eq, decide_eq_decide] at hbeq
          rw [hbeq]
          constructor <;> intro _ <;> constructor <;> omega
      · repeat (first
          | exact Env.le_nil _
          | refine Env.le_cons (AV.le_refl _) ?_
          | refine Env.le_cons (AV.le_int rfl (by first | rfl | omega | (dsimp only; omega))) ?_)
    · have hbeq : (decide (makesP ps[i][0].kind) == decide (8 ≤ l[0].kind ∧ l[0].kind ≤ 10)) = false := by assumption
      ((with_reducible apply rq1); rfl; rfl)
      refine ret_eq (congrArg AV.int ?_)
      refine (bad fun ⟨h, _⟩ => ?_).symm
      rw [hk1, hk0] at h
      have : decide (makesP ps[i][0].kind) = decide (8 ≤ l[0].kind ∧ l[0].kind ≤ 10) := by
        rw [decide_eq_decide, h]
        constructor <;> intro _ <;> constructor <;> omega
      rw [this] at hbeq
      simp at hbeq
  · repeat' (first
      | ((with_reducible apply call0); (focus rfl); (focus exact cal_SplitOf); (focus exact hE); (focus rfl))
      | ((with_reducible apply je_call0); (focus rfl); (focus (decide +kernel)); (focus rfl); (focus exact cal_SplitOf); (focus exact hE); (focus rfl))
      | ((with_reducible apply qcall); (focus rfl); (focus exact cal_makesTruth); (focus exact makesTruth _ _); (focus rfl))
      | ((with_reducible apply qcall); (focus rfl); (focus exact cal_takesTruth); (focus exact takesTruth _ _); (focus rfl))
      | ((with_reducible apply qcall); (focus rfl); (focus exact cal_typed); (focus exact hT'); (focus rfl))
      | exact True.intro
      | refine stp ?_
      | refine two ?_ ?_
      | (refine imp fun hc => ?_) <;> try (first | contradiction | (exfalso; omega))
      | refine all fun v_ => ?_)
    ((with_reducible apply rq1); rfl; rfl)
    refine ret_eq (congrArg AV.int ?_)
    rw [List.take_of_length_le (by omega)] at hg
    rw [typedZ, if_pos (hT.2 hg)]

theorem ExprChecked (G : List (Nat × List D)) (l : List Fo) (vars : Int) : ACr Tryd.prog G 74 [.d (opsD l), .int vars] (.tup [.bool (exprC l vars).1, .int (exprC l vars).2]) := by
  refine AC_ofV (ts := [4, 5]) 74 Tryd.func74 rfl rfl rfl (by simp) fun W I => ?_
  refine jfact (t := 0) rfl fun hl => ?_
  repeat' (first
    | ((with_reducible apply call0); (focus rfl); (focus exact cal_EndsOf); (focus exact EndsOf _ _); (focus rfl))
    | ((with_reducible apply je_call0); (focus rfl); (focus (decide +kernel)); (focus rfl); (focus exact cal_EndsOf); (focus exact EndsOf _ _); (focus rfl))
    | ((with_reducible apply call0); (focus rfl); (focus exact cal_In); (focus exact In _ _ _ _); (focus rfl))
    | ((with_reducible apply je_call0); (focus rfl); (focus (decide +kernel)); (focus rfl); (focus exact cal_In); (focus exact In _ _ _ _); (focus rfl))
    | ((with_reducible apply call0); (focus rfl); (focus exact cal_typed); (focus exact typed _ _ _ (Nat.le_refl _) hok); (focus rfl))
    | ((with_reducible apply je_call0); (focus rfl); (focus (decide +kernel)); (focus rfl); (focus exact cal_typed); (focus exact typed _ _ _ (Nat.le_refl _) hok); (focus rfl))
    | ((with_reducible apply call0); (focus rfl); (focus exact cal_makesTruth); (focus exact makesTruth _ _); (focus rfl))
    | ((with_reducible apply je_call0); (focus rfl); (focus (decide +kernel)); (focus rfl); (focus exact cal_makesTruth); (focus exact makesTruth _ _); (focus rfl))
    | ((with_reducible apply jboxT); (focus rfl); (focus rfl); (focus rfl))
    | ((with_reducible apply jalloc1T); (focus (with_reducible exact ElC.h)); (focus rfl); (focus rfl))
    | ((with_reducible apply jallocN); (focus (with_reducible exact ElC.h)); (focus rfl))
    | ((with_reducible apply jmk_bool); (focus rfl); (focus rfl); (focus (with_reducible exact ElC.h)); (focus omega); (focus omega); (focus rfl))
    | ((with_reducible apply jmk_int); (focus rfl); (focus rfl); (focus (with_reducible exact ElC.h)); (focus omega); (focus omega); (focus rfl))
    | ((with_reducible apply js_um); (focus rfl); (focus ((repeat (first | with_reducible exact Upd.here | with_reducible apply Upd.there)); done)); (focus rfl); (focus rfl); (focus (with_reducible exact ElC.h)); (focus (first | omega | (simp only [List.length_map, List.length_range, List.length_append, List.length_cons, List.length_nil, List.length_take, List.length_drop, List.length_set, List.length_replicate]; omega))))
    | ((with_reducible apply js_uw); (focus rfl); (focus rfl); (focus rfl); (focus (with_reducible exact ElC.h)); (focus rfl); (focus ((repeat (first | with_reducible exact Upd.here | with_reducible apply Upd.there)); done)); (focus rfl))
    | ((with_reducible apply js_ur); (focus rfl); (focus rfl); (focus rfl); (focus (with_reducible exact ElC.h)); (focus ((repeat (first | with_reducible exact Upd.here | with_reducible apply Upd.there)); done)); (focus ((repeat (first | exact SetAR.nil | apply SetAR.put | apply SetAR.skip)); done)))
    | ((with_reducible apply js_us); (focus rfl); (focus rfl); (focus rfl); (focus (with_reducible exact ElC.h)); (focus rfl); (focus ((repeat (first | with_reducible exact Upd.here | with_reducible apply Upd.there)); done)); (focus ((repeat (first | exact SetAR.nil | apply SetAR.put | apply SetAR.skip)); done)))
    | exact True.intro
    | refine stp ?_
    | refine two ?_ ?_
    | (refine imp fun hc => ?_) <;> try (first | contradiction | (exfalso; omega))
    | refine all fun v_ => ?_)
  all_goals try (
    refine retv0 ?_
    ((with_reducible apply rq2); rfl; rfl; rfl)
    refine ret_eq ?_
    unfold exprC
    first
      | (rw [if_pos (by omega)])
      | (rw [if_neg (by omega), if_pos (by assumption)]))
  have hok0 : ¬ (endsOf l).2 ≠ 0 := by assumption
  have hok : (endsOf l).2 = 0 := by simpa using hok0
  obtain ⟨h60, h0, hend, _, _⟩ := endsOf_ok (l := l) (es := (endsOf l).1) (Prod.ext rfl hok)
  have hkind : ∀ (i : Nat) (hi : i < l.length), 1 ≤ l[i].kind := fun i hi => by
    have hn := scan_nest l l.length 0 1 l.length (by omega) (by omega) (by unfold Sp.endOf at hend; exact hend) i (by omega) (by omega)
    have he := endOf_at l i hi
    by_cases hk : 1 ≤ l[i].kind
    · exact hk
    · rw [partsOf_no _ (by omega), if_pos (by decide)] at he
      rw [he] at hn
      exact absurd hn.1 (by decide)
  have hs : exprC l vars = if opsE l vars ≠ 0 then (false, opsE l vars) else if typedP l then (decide (makesP (kindAt l 0)), 0) else (false, 5) := by
    rw [exprC, if_neg (by omega), if_neg hok0]
  have hv : 0 ≤ vars ∧ vars ≤ 6 := by omega
  refine J_loopV (X := Nat) (fun i => [(0, .d (opsD l)), (1, .int vars), (8, .int i)]) (fun _ => []) (fun i => i ≤ l.length ∧ opsE l vars = opsE (l.drop i) vars) (fun i => l.length - i) 0 ⟨Nat.zero_le _, rfl⟩ (VS.of_le ?_) ?_
  · repeat (first
      | exact Env.le_nil _
      | refine Env.le_cons (AV.le_refl _) ?_
      | refine Env.le_cons (AV.le_int rfl (by first | rfl | omega | (dsimp only; omega))) ?_)
  rintro i ⟨k1, k2⟩
  by_cases hi : i < l.length
  · rw [opsE_at l i hi] at k2
    have hki := hkind i hi
    repeat' (first
      | ((with_reducible apply call0); (focus rfl); (focus exact cal_EndsOf); (focus exact EndsOf _ _); (focus rfl))
      | ((with_reducible apply je_call0); (focus rfl); (focus (decide +kernel)); (focus rfl); (focus exact cal_EndsOf); (focus exact EndsOf _ _); (focus rfl))
      | ((with_reducible apply call0); (focus rfl); (focus exact cal_In); (focus exact In _ _ _ _); (focus rfl))
      | ((with_reducible apply je_call0); (focus rfl); (focus (decide +kernel)); (focus rfl); (focus exact cal_In); (focus exact In _ _ _ _); (focus rfl))
      | ((with_reducible apply call0); (focus rfl); (focus exact cal_typed); (focus exact typed _ _ _ (Nat.le_refl _) hok); (focus rfl))
      | ((with_reducible apply je_call0); (focus rfl); (focus (decide +kernel)); (focus rfl); (focus exact cal_typed); (focus exact typed _ _ _ (Nat.le_refl _) hok); (focus rfl))
      | ((with_reducible apply call0); (focus rfl); (focus exact cal_makesTruth); (focus exact makesTruth _ _); (focus rfl))
      | ((with_reducible apply je_call0); (focus rfl); (focus (decide +kernel)); (focus rfl); (focus exact cal_makesTruth); (focus exact makesTruth _ _); (focus rfl))
      | ((with_reducible apply jboxT); (focus rfl); (focus rfl); (focus rfl))
      | ((with_reducible apply jalloc1T); (focus (with_reducible exact ElC.h)); (focus rfl); (focus rfl))
      | ((with_reducible apply jallocN); (focus (with_reducible exact ElC.h)); (focus rfl))
      | ((with_reducible apply jmk_bool); (focus rfl); (focus rfl); (focus (with_reducible exact ElC.h)); (focus omega); (focus omega); (focus rfl))
      | ((with_reducible apply jmk_int); (focus rfl); (focus rfl); (focus (with_reducible exact ElC.h)); (focus omega); (focus omega); (focus rfl))
      | ((with_reducible apply js_um); (focus rfl); (focus ((repeat (first | with_reducible exact Upd.here | with_reducible apply Upd.there)); done)); (focus rfl); (focus rfl); (focus (with_reducible exact ElC.h)); (focus (first | omega | (simp only [List.length_map, List.length_range, List.length_append, List.length_cons, List.length_nil, List.length_take, List.length_drop, List.length_set, List.length_replicate]; omega))))
      | ((with_reducible apply js_uw); (focus rfl); (focus rfl); (focus rfl); (focus (with_reducible exact ElC.h)); (focus rfl); (focus ((repeat (first | with_reducible exact Upd.here | with_reducible apply Upd.there)); done)); (focus rfl))
      | ((with_reducible apply js_ur); (focus rfl); (focus rfl); (focus rfl); (focus (with_reducible exact ElC.h)); (focus ((repeat (first | with_reducible exact Upd.here | with_reducible apply Upd.there)); done)); (focus ((repeat (first | exact SetAR.nil | apply SetAR.put | apply SetAR.skip)); done)))
      | ((with_reducible apply js_us); (focus rfl); (focus rfl); (focus rfl); (focus (with_reducible exact ElC.h)); (focus rfl); (focus ((repeat (first | with_reducible exact Upd.here | with_reducible apply Upd.there)); done)); (focus ((repeat (first | exact SetAR.nil | apply SetAR.put | apply SetAR.skip)); done)))
      | exact True.intro
      | refine stp ?_
      | refine two ?_ ?_
      | (refine imp fun hc => ?_) <;> try (first | contradiction | (exfalso; omega))
      | refine all fun v_ => ?_)
    all_goals first
      | (refine retv (VS.drop (List.nil_sublist _)) ?_
         ((with_reducible apply rq2); rfl; rfl; rfl)
         refine ret_eq ?_
         first
           | (have hz : opZ l[i].kind l[i].val vars = 13 := by unfold opZ; rw [if_pos (by omega)]
              rw [hz, if_pos (by decide)] at k2
              rw [hs, k2, if_pos (by decide)])
           | (have hz : opZ l[i].kind l[i].val vars = 2 := by unfold opZ; rw [if_neg (by omega), if_pos (by omega)]
              rw [hz, if_pos (by decide)] at k2
              rw [hs, k2, if_pos (by decide)]))
      | (have hz : opZ l[i].kind l[i].val vars = 0 := by unfold opZ; rw [if_neg (by omega), if_neg (by omega)]
         rw [hz, if_neg (by decide)] at k2
         refine ⟨i + 1, ⟨by omega, k2⟩, by omega, vle (List.nil_sublist _) ?_⟩
         repeat (first
           | exact Env.le_nil _
           | refine Env.le_cons (AV.le_refl _) ?_
           | refine Env.le_cons (AV.le_int rfl (by first | rfl | omega | (dsimp only; omega))) ?_))
  · rw [opsE_end l i (by omega)] at k2
    rw [k2, if_neg (by decide)] at hs
    repeat' (first
      | ((with_reducible apply call0); (focus rfl); (focus exact cal_EndsOf); (focus exact EndsOf _ _); (focus rfl))
      | ((with_reducible apply je_call0); (focus rfl); (focus (decide +kernel)); (focus rfl); (focus exact cal_EndsOf); (focus exact EndsOf _ _); (focus rfl))
      | ((with_reducible apply call0); (focus rfl); (focus exact cal_In); (focus exact In _ _ _ _); (focus rfl))
      | ((with_reducible apply je_call0); (focus rfl); (focus (decide +kernel)); (focus rfl); (focus exact cal_In); (focus exact In _ _ _ _); (focus rfl))
      | ((with_reducible apply call0); (focus rfl); (focus exact cal_typed); (focus exact typed _ _ _ (Nat.le_refl _) hok); (focus rfl))
      | ((with_reducible apply je_call0); (focus rfl); (focus (decide +kernel)); (focus rfl); (focus exact cal_typed); (focus exact typed _ _ _ (Nat.le_refl _) hok); (focus rfl))
      | ((with_reducible apply call0); (focus rfl); (focus exact cal_makesTruth); (focus exact makesTruth _ _); (focus rfl))
      | ((with_reducible apply je_call0); (focus rfl); (focus (decide +kernel)); (focus rfl); (focus exact cal_makesTruth); (focus exact makesTruth _ _); (focus rfl))
      | ((with_reducible apply jboxT); (focus rfl); (focus rfl); (focus rfl))
      | ((with_reducible apply jalloc1T); (focus (with_reducible exact ElC.h)); (focus rfl); (focus rfl))
      | ((with_reducible apply jallocN); (focus (with_reducible exact ElC.h)); (focus rfl))
      | ((with_reducible apply jmk_bool); (focus rfl); (focus rfl); (focus (with_reducible exact ElC.h)); (focus omega); (focus omega); (focus rfl))
      | ((with_reducible apply jmk_int); (focus rfl); (focus rfl); (focus (with_reducible exact ElC.h)); (focus omega); (focus omega); (focus rfl))
      | ((with_reducible apply js_um); (focus rfl); (focus ((repeat (first | with_reducible exact Upd.here | with_reducible apply Upd.there)); done)); (focus rfl); (focus rfl); (focus (with_reducible exact ElC.h)); (focus (first | omega | (simp only [List.length_map, List.length_range, List.length_append, List.length_cons, List.length_nil, List.length_take, List.length_drop, List.length_set, List.length_replicate]; omega))))
      | ((with_reducible apply js_uw); (focus rfl); (focus rfl); (focus rfl); (focus (with_reducible exact ElC.h)); (focus rfl); (focus ((repeat (first | with_reducible exact Upd.here | with_reducible apply Upd.there)); done)); (focus rfl))
      | ((with_reducible apply js_ur); (focus rfl); (focus rfl); (focus rfl); (focus (with_reducible exact ElC.h)); (focus ((repeat (first | with_reducible exact Upd.here | with_reducible apply Upd.there)); done)); (focus ((repeat (first | exact SetAR.nil | apply SetAR.put | apply SetAR.skip)); done)))
      | ((with_reducible apply js_us); (focus rfl); (focus rfl); (focus rfl); (focus (with_reducible exact ElC.h)); (focus rfl); (focus ((repeat (first | with_reducible exact Upd.here | with_reducible apply Upd.there)); done)); (focus ((repeat (first | exact SetAR.nil | apply SetAR.put | apply SetAR.skip)); done)))
      | exact True.intro
      | refine stp ?_
      | refine two ?_ ?_
      | (refine imp fun hc => ?_) <;> try (first | contradiction | (exfalso; omega))
      | refine all fun v_ => ?_)
    · refine retv0 ?_
      ((with_reducible apply rq2); rfl; rfl; rfl)
      refine ret_eq ?_
      have : ¬ typedP l := fun h => hc (by rw [typedZ, if_pos h])
      rw [hs, if_neg this]
    · refine retv0 ?_
      ((with_reducible apply rq2); rfl; rfl; rfl)
      refine ret_eq ?_
      have : typedP l := by
        unfold typedZ at hc
        by_cases h : typedP l
        · exact h
        · rw [if_neg h] at hc; exact absurd (by decide) hc
      rw [hs, if_pos this, kindAt_eq l 0 h0]
end Go.Proofs.YtmamiihpghnmmaaDoor
