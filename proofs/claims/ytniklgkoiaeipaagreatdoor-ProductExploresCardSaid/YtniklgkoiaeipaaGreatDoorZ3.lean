/- A bundle of this claim's own texts: T4 Sc Sd T6 Se. -/
import Derived.Test.YtniklgkoiaeipaaGreatDoorZ1
import Derived.Test.YtniklgkoiaeipaaGreatDoorZ2
namespace Go.Proofs.YtniklgkoiaeipaaGreatDoor
open Go Go.Av Go.Sp
set_option linter.unusedVariables false
set_option linter.unusedSimpArgs false
set_option maxRecDepth 100000
set_option maxHeartbeats 4000000

theorem cal_Ops : Cal Tryz.prog 211 := Cal.of Tryz.func211 (by kernel_rfl) (by kernel_rfl)
theorem cal_SplitOf : Cal Tryz.prog 191 := Cal.of Tryz.func191 (by kernel_rfl) (by kernel_rfl)
theorem sameTerms (G : List (Nat × List D)) (a b : List (List Fo)) : ACr Tryz.prog G 58 [.d (termsD a), .d (termsD b)] (.bool (decide (a = b))) := by
 refine AC_of (ts := [4]) 27 Tryz.func58 rfl rfl rfl (by simp) fun W I => ?_
 refine jfact (t := 0) rfl fun hl0 => ?_
 refine jfact (t := 1) rfl fun hl1 => ?_
 repeat' (first
  | ((with_reducible apply qcall); (focus rfl); (focus exact cal_sameOps); (focus exact sameOps _ _ _); (focus rfl))
  | exact True.intro
  | refine stp ?_
  | refine two ?_ ?_
  | (refine imp fun hc => ?_) <;> try exact cx hc
  | refine all fun v_ => ?_)
 · ((with_reducible apply rq1); rfl; rfl)
   refine ret_eq ?_
   rw [decide_eq_false]
   intro e; subst e; omega
 refine J_loop (X := Nat) (fun i => [(0, .d (termsD a)), (1, .d (termsD b)), (5, .int i)]) (fun _ => []) (fun i => i ≤ a.length ∧ a.take i = b.take i) (fun i => a.length - i) 0 ⟨Nat.zero_le _, rfl⟩ ?_ rfl ?_
 · exact leD
 rintro i ⟨h1, h2⟩
 repeat' (first
  | ((with_reducible apply qcall); (focus rfl); (focus exact cal_sameOps); (focus exact sameOps _ _ _); (focus rfl))
  | exact True.intro
  | refine stp ?_
  | refine two ?_ ?_
  | (refine imp fun hc => ?_) <;> try exact cx hc
  | refine all fun v_ => ?_)
 all_goals first
  | (((with_reducible apply rq1); rfl; rfl)
     refine ret_eq ?_
     rw [decide_eq_false]
     intro e; subst e
     exact hc rfl)
  | (refine ⟨i + 1, ⟨by omega, take_step (by omega) (by omega) h2 ?_⟩, by first | omega | (dsimp only; omega), ?_, rfl⟩
     · exact hc
     · exact leD)
  | (((with_reducible apply rq1); rfl; rfl)
     refine ret_eq ?_
     rw [decide_eq_true]
     rwa [List.take_of_length_le (by omega), List.take_of_length_le (by omega)] at h2)

theorem Ops (G : List (Nat × List D)) (l : List Fo) (m n : Int) (h0 : 0 ≤ m) (h1 : m ≤ n) (h2 : n ≤ l.length) : ACr Tryz.prog G 211 [.d (opsD l), .int m, .int n] (.d (opsD ((l.drop m.toNat).take (n.toNat - m.toNat)))) := by
 obtain ⟨m, rfl⟩ := Int.eq_ofNat_of_zero_le h0
 obtain ⟨n, rfl⟩ := Int.eq_ofNat_of_zero_le (show 0 ≤ n by omega)
 refine AC_ofV (ts := [6]) 23 Tryz.func211 rfl rfl rfl (by simp) fun W I => ?_
 refine jfact (t := 0) rfl fun hl => ?_
 repeat' (first
  | exact True.intro
  | refine stp ?_
  | refine two ?_ ?_
  | (refine imp fun hc => ?_) <;> try exact cx hc
  | refine all fun v_ => ?_)
 refine jrow (E := 62) (sz := 2) Fo.cells ?_
 refine J_loop (X := Nat × Value) (fun y => [(0, .d (opsD l)), (2, .int n), (7, .val y.2), (8, .int y.1)]) (fun y => [rowE y.2 62 2 Fo.cells ((l.drop m).take (y.1 - m))]) (fun y => m ≤ y.1 ∧ y.1 ≤ n) (fun y => n - y.1) (m, .slice none 0 0) ⟨Nat.le_refl _, by dsimp only; omega⟩ ?_ ?_ ?_
 · exact leD
 · simp
 rintro ⟨i, v⟩ ⟨k1, k2⟩
 dsimp only at k1 k2 ⊢
 repeat' (first
  | exact True.intro
  | refine stp ?_
  | refine two ?_ ?_
  | (refine imp fun hc => ?_) <;> try exact cx hc
  | refine all fun v_ => ?_)
 · refine ⟨(i + 1, v_), ⟨by dsimp only; omega, by dsimp only; omega⟩, by dsimp only; omega, ?_, ?_⟩
   · exact leD
   · dsimp only
     rw [cut_snoc l m i k1 (by omega)]
 · refine retv (vfreeze (t := 6) (eb := 16) rfl rfl (fun x => rfl) (by simp only [List.length_take, List.length_drop]; omega)) ?_
   ((with_reducible apply rq1); rfl; rfl)
   refine ret_eq ?_
   have : i = n := by omega
   rw [this]; rfl

theorem armXT4_2 {p q : Prop} (hp : p) (h : p → q := by
 apply cmp; (focus (first
  | ((with_reducible apply call0); (focus rfl); (focus exact cal_EndsOf); (focus exact hE); (focus rfl))
  | ((with_reducible apply je_call0); (focus rfl); (focus (decide +kernel)); (focus rfl); (focus exact cal_EndsOf); (focus exact hE); (focus rfl))
  | ((with_reducible apply call0); (focus rfl); (focus exact cal_PartsOf); (focus exact PartsOf _ _); (focus rfl))
  | ((with_reducible apply je_call0); (focus rfl); (focus (decide +kernel)); (focus rfl); (focus exact cal_PartsOf); (focus exact PartsOf _ _); (focus rfl))
  | ((with_reducible apply call0); (focus rfl); (focus exact cal_endOf); (focus exact endOf _ _ _ (by omega) (by omega)); (focus rfl))
  | ((with_reducible apply je_call0); (focus rfl); (focus (decide +kernel)); (focus rfl); (focus exact cal_endOf); (focus exact endOf _ _ _ (by omega) (by omega)); (focus rfl))
  | ((with_reducible apply call0); (focus rfl); (focus exact cal_Ops); (focus exact Ops _ _ _ _ (by omega) (by omega) (by omega)); (focus rfl))
  | ((with_reducible apply je_call0); (focus rfl); (focus (decide +kernel)); (focus rfl); (focus exact cal_Ops); (focus exact Ops _ _ _ _ (by omega) (by omega) (by omega)); (focus rfl))
  ))
 exact fun h => h) : q := h hp
theorem SplitOf (G : List (Nat × List D)) (l : List Fo) : ACr Tryz.prog G 191 [.d (opsD l)] (.tup [.d (termsD (splitOf l).1), .int (splitOf l).2]) := by
 have hE := EndsOf G l
 generalize he : endsOf l = p at hE
 obtain ⟨es, e⟩ := p
 refine AC_ofV (ts := [2, 3]) 51 Tryz.func191 rfl rfl rfl (by simp) fun W I => ?_
 by_cases hc : e ≠ 0
 · repeat' (first
    | refine armXT4_2 ?_
    | exact True.intro
    | refine stp ?_
    | refine two ?_ ?_
    | (refine imp fun hc => ?_) <;> try exact cx hc
    | refine all fun v_ => ?_)
   refine retv (vnil (t := 2) 1 24 rfl) ?_
   ((with_reducible apply rq2); rfl; rfl; rfl)
   refine ret_eq ?_
   rw [splitOf, he, if_pos hc]; rfl
 have e0 : e = 0 := by simpa using hc
 subst e0
 obtain ⟨hl, h0, h1, hlen, hes⟩ := endsOf_ok he
 have hs : splitOf l = (chunks l (partsOf l[0].kind).1.toNat 1, 0) := by rw [splitOf, he, List.getElem?_eq_getElem h0]; rfl
 have hp := partsOf_le l[0].kind
 repeat' (first
  | refine armXT4_2 ?_
  | exact True.intro
  | refine stp ?_
  | refine two ?_ ?_
  | (refine imp fun hc => ?_) <;> try exact cx hc
  | refine all fun v_ => ?_)
 generalize hn : (partsOf l[0].kind).1.toNat = n at hs
 refine jrow (E := 27) (sz := 1) termC ?_
 refine J_loop (X := Nat × Nat × Value × List (List Fo)) (fun y => [(0, .d (opsD l)), (6, .val y.2.2.1), (7, .int (partsOf l[0].kind).1), (9, .int y.2.1), (10, .int y.1)]) (fun y => [rowE y.2.2.1 27 1 termC y.2.2.2]) (fun y => Parted l n y.1 y.2.1 y.2.2.2) (fun y => n - y.1) (0, 1, .slice none 0 0, []) (hn ▸ Parted.start h0 h1) ?_ rfl ?_
 · exact leD
 rintro ⟨j, i, v, out⟩ k
 dsimp only at k ⊢
 have klt := k.lt
 have kle := k.len
 have kfew := k.few
 by_cases hj : j < n
 · obtain ⟨q1, q2, q3, q4⟩ := k.next hj
   repeat' (first
    | refine armXT4_2 ?_
    | exact True.intro
    | refine stp ?_
    | refine two ?_ ?_
    | (refine imp fun hc => ?_) <;> try exact cx hc
    | refine all fun v_ => ?_)
   refine ⟨(j + 1, (Sp.endOf l i).1.toNat, v_, _), q4, by dsimp only; omega, ?_, ?_⟩
   · exact leD
   · simp only [Int.toNat_natCast]
 · repeat' (first
    | refine armXT4_2 ?_
    | exact True.intro
    | refine stp ?_
    | refine two ?_ ?_
    | (refine imp fun hc => ?_) <;> try exact cx hc
    | refine all fun v_ => ?_)
   refine retv (vfreeze (t := 2) (eb := 24) rfl rfl (fun x => rfl) (by omega)) ?_
   ((with_reducible apply rq2); rfl; rfl; rfl)
   refine ret_eq ?_
   rw [hs, k.done (by have := k.le; omega)]
end Go.Proofs.YtniklgkoiaeipaaGreatDoor
namespace Go.Sp
open Go.Av
set_option linter.unusedVariables false
set_option linter.unusedSimpArgs false

def cntr (p : Nat → Bool) : Nat → Nat
 | 0 => 0
 | n + 1 => cntr p n + if p n then 1 else 0
def mxr (f : Nat → Nat) : Nat → Nat
 | 0 => 0
 | n + 1 => max (mxr f n) (f n)
theorem cntr_congr {p q : Nat → Bool} : ∀ n, (∀ k, k < n → p k = q k) → cntr p n = cntr q n
 | 0, _ => rfl
 | n + 1, h => by simp only [cntr, cntr_congr n fun k hk => h k (by omega), h n (by omega)]
theorem mxr_congr {p q : Nat → Nat} : ∀ n, (∀ k, k < n → p k = q k) → mxr p n = mxr q n
 | 0, _ => rfl
 | n + 1, h => by simp only [mxr, mxr_congr n fun k hk => h k (by omega), h n (by omega)]
theorem cntr_add (p : Nat → Bool) (i : Nat) : ∀ m, cntr p (i + m) = cntr p i + cntr (fun k => p (i + k)) m
 | 0 => by simp [cntr]
 | m + 1 => by rw [← Nat.add_assoc]; simp only [cntr, cntr_add p i m]; omega
theorem mxr_add (p : Nat → Nat) (i : Nat) : ∀ m, mxr p (i + m) = max (mxr p i) (mxr (fun k => p (i + k)) m)
 | 0 => by simp [mxr]
 | m + 1 => by rw [← Nat.add_assoc]; simp only [mxr, mxr_add p i m]; omega
theorem mxr_succ (p : Nat → Nat) : ∀ m, mxr (fun k => 1 + p k) (m + 1) = 1 + mxr p (m + 1)
 | 0 => by simp [mxr]
 | m + 1 => by have := mxr_succ p m; simp only [mxr] at this ⊢; omega
theorem cntr_one {p : Nat → Bool} (h0 : p 0 = true) : ∀ i, 1 ≤ i → (∀ k, 1 ≤ k → k < i → p k = false) → cntr p i = 1
 | 0, h, _ => absurd h (by decide)
 | 1, _, _ => by simp [cntr, h0]
 | i + 2, _, h => by
   have := cntr_one h0 (i + 1) (by omega) fun k h1 h2 => h k h1 (by omega)
   rw [cntr, this, h (i + 1) (by omega) (by omega)]; rfl

def count (l : List Fo) (i : Nat) : Nat := cntr (fun k => decide ((i : Int) < (endOf l k).1)) (i + 1)
def deep (l : List Fo) : Nat := mxr (count l) l.length
theorem scan_take : ∀ (r : List Fo) (m : Nat) (w i e d : Int), scan r w (i + d) = (e + d, 0) → e ≤ i + m → scan (r.take m) w i = (e, 0)
 | [], m, w, i, e, d, h, _ => by simp [scan] at h
 | o :: r, m, w, i, e, d, h, hm => by
   have hb := scan_bound (o :: r) w (i + d) (by rw [h])
   rw [h] at hb
   obtain ⟨m, rfl⟩ : ∃ m', m = m' + 1 := ⟨m - 1, by dsimp only at hb; omega⟩
   rw [List.take_succ_cons, scan_cons]
   rw [scan_cons] at h
   by_cases h1 : (partsOf o.kind).2 ≠ 0
   · rw [if_pos h1] at h; simp at h; exact absurd h.2 h1
   rw [if_neg h1] at h ⊢
   by_cases h2 : w + (partsOf o.kind).1 - 1 = 0
   · rw [if_pos h2] at h ⊢
     simp only [Prod.mk.injEq, and_true] at h ⊢
     omega
   · rw [if_neg h2] at h ⊢
     refine scan_take r m _ (i + 1) e d ?_ (by omega)
     rw [← h]; congr 1; omega

theorem scan_first {l : List Fo} {i : Nat} {w : Int} {e : Int} (hw : 1 ≤ w) (h : scan (l.drop i) w i = (e, 0)) : (endOf l i).2 = 0 ∧ (endOf l i).1 ≤ e := by
 by_cases h1 : w = 1
 · subst h1
   have he : endOf l i = scan (l.drop i) 1 i := by unfold endOf; rw [Int.toNat_natCast]
   rw [he, h]; exact ⟨rfl, Int.le_refl _⟩
 · have hw' : w = (w - 1) + 1 := by omega
   rw [hw', scan_next l i (w - 1) (by omega)] at h
   by_cases h2 : (endOf l i).2 ≠ 0
   · rw [if_pos h2] at h; simp at h; exact absurd h.2 h2
   rw [if_neg h2] at h
   have hb := endOf_bound l i (by simpa using h2)
   have := scan_bound (l.drop (endOf l i).1.toNat) (w - 1) (endOf l i).1 (by rw [h])
   rw [h] at this
   exact ⟨by simpa using h2, by dsimp only at this; omega⟩

theorem scan_nest (l : List Fo) : ∀ (m i : Nat) (w : Int) (e : Int), l.length ≤ i + m → 1 ≤ w → scan (l.drop i) w i = (e, 0) → ∀ k : Nat, i ≤ k → (k : Int) < e → (endOf l k).2 = 0 ∧ (endOf l k).1 ≤ e
 | 0, i, w, e, hm, hw, h, k, h1, h2 => by
   rw [List.drop_eq_nil_of_le (by omega)] at h; simp [scan] at h
 | m + 1, i, w, e, hm, hw, h, k, h1, h2 => by
   by_cases hk : k = i
   · subst hk; exact scan_first hw h
   by_cases hi : i < l.length
   · rw [List.drop_eq_getElem_cons hi, scan_cons] at h
     have hp := partsOf_le l[i].kind
     by_cases h3 : (partsOf l[i].kind).2 ≠ 0
     · rw [if_pos h3] at h; simp at h; exact absurd h.2 h3
     rw [if_neg h3] at h
     by_cases h4 : w + (partsOf l[i].kind).1 - 1 = 0
     · rw [if_pos h4] at h; simp at h; omega
     · rw [if_neg h4] at h
       exact scan_nest l m (i + 1) _ e (by omega) (by omega) h k (by omega) h2
   · rw [List.drop_eq_nil_of_le (by omega)] at h; simp [scan] at h

theorem part_at {l : List Fo} {i : Nat} (h : (endOf l i).2 = 0) (k : Nat) (hk : (i : Int) + k < (endOf l i).1) :
 endOf ((l.drop i).take ((endOf l i).1.toNat - i)) k = ((endOf l (i + k : Nat)).1 - i, 0) := by
 have hb := endOf_bound l i h
 have hs : scan (l.drop i) 1 i = ((endOf l i).1, 0) := by
  have he : endOf l i = scan (l.drop i) 1 i := by unfold endOf; rw [Int.toNat_natCast]
  rw [← he]; exact Prod.ext rfl h
 obtain ⟨n1, n2⟩ := scan_nest l l.length i 1 _ (by omega) (by omega) hs (i + k) (by omega) (by omega)
 have he : endOf l (i + k : Nat) = scan (l.drop (i + k)) 1 ((i + k : Nat) : Int) := by unfold endOf; rw [Int.toNat_natCast]
 have e1 : endOf ((l.drop i).take ((endOf l i).1.toNat - i)) k = scan (((l.drop i).take ((endOf l i).1.toNat - i)).drop k) 1 k := by unfold endOf; rw [Int.toNat_natCast]
 rw [e1, List.drop_take, List.drop_drop]
 refine scan_take _ _ _ _ _ (i : Int) ?_ ?_
 · have : (k : Int) + i = ((i + k : Nat) : Int) := by omega
   rw [this, ← he]
   exact Prod.ext (by dsimp only; omega) n1
 · omega

theorem part_length {l : List Fo} {i : Nat} (h : (endOf l i).2 = 0) : (((l.drop i).take ((endOf l i).1.toNat - i)).length : Int) = (endOf l i).1 - i := by
 have hb := endOf_bound l i h
 rw [List.length_take, List.length_drop]; omega

theorem endsOf_of {l : List Fo} (h60 : l.length ≤ 60) (h : endOf l 0 = ((l.length : Int), 0)) : (endsOf l).2 = 0 := by
 unfold endsOf
 rw [if_neg (by omega), h, if_neg (by simp), if_neg (by simp)]

def most (out : List (List Fo)) : Nat := out.foldl (fun m t => max m (deep t)) 0
theorem most_snoc (out : List (List Fo)) (t : List Fo) : most (out ++ [t]) = max (most out) (deep t) := by simp [most]

structure Deeper (l : List Fo) (i : Nat) (out : List (List Fo)) : Prop where
 mx : mxr (count l) i = 1 + most out
 closed : ∀ k : Nat, 1 ≤ k → k < i → (endOf l k).1 ≤ i
 well : ∀ t ∈ out, (endsOf t).2 = 0 ∧ t.length < l.length
theorem count_zero {l : List Fo} (h0 : 0 < l.length) (h : endOf l 0 = ((l.length : Int), 0)) : count l 0 = 1 := by
 have e0 : ((0 : Nat) : Int) = 0 := rfl
 unfold count
 simp only [cntr, e0, h]
 rw [if_pos (by simpa using h0)]
theorem Deeper.start {l : List Fo} (h0 : 0 < l.length) (h : endOf l 0 = ((l.length : Int), 0)) : Deeper l 1 [] :=
 ⟨by simp [mxr, count_zero h0 h, most], fun k h1 h2 => by omega, by simp⟩
theorem Deeper.next {l : List Fo} {i : Nat} {out : List (List Fo)} (d : Deeper l i out) (h60 : l.length ≤ 60) (h0 : endOf l 0 = ((l.length : Int), 0)) (hi : 1 ≤ i) (he : (endOf l i).2 = 0) : Deeper l (endOf l i).1.toNat (out ++ [(l.drop i).take ((endOf l i).1.toNat - i)]) := by
 have hb := endOf_bound l i he
 have hlen := part_length he
 have hs : scan (l.drop i) 1 i = ((endOf l i).1, 0) := by
  have he' : endOf l i = scan (l.drop i) 1 i := by unfold endOf; rw [Int.toNat_natCast]
  rw [← he']; exact Prod.ext rfl he
 have nest := scan_nest l l.length i 1 _ (by omega) (by omega) hs
 have hpart := fun k hk => part_at he k hk
 generalize hc : (l.drop i).take ((endOf l i).1.toNat - i) = c at hlen hpart ⊢
 have hcl : c.length = (endOf l i).1.toNat - i := by omega
 have key : ∀ k, k < c.length → count l (i + k) = 1 + count c k := by
  intro k hk
  unfold count
  rw [Nat.add_assoc, cntr_add]
  congr 1
  · refine cntr_one ?_ i hi ?_
    · have e0 : ((0 : Nat) : Int) = 0 := rfl
      rw [e0, h0]; simp; omega
    · intro q q1 q2
      have := d.closed q q1 q2
      simp; omega
  · refine cntr_congr _ fun q hq => ?_
    rw [hpart q (by omega)]
    by_cases hx : ((i + k : Nat) : Int) < (endOf l (i + q : Nat)).1
    · rw [decide_eq_true hx, decide_eq_true]; dsimp only; omega
    · rw [decide_eq_false hx, decide_eq_false]; dsimp only; omega
 refine ⟨?_, ?_, ?_⟩
 · have e : (endOf l i).1.toNat = i + c.length := by omega
   rw [e, mxr_add, d.mx, most_snoc, mxr_congr c.length key]
   obtain ⟨m, hm⟩ : ∃ m, c.length = m + 1 := ⟨c.length - 1, by omega⟩
   have : mxr (fun k => 1 + count c k) c.length = 1 + deep c := by unfold deep; rw [hm, mxr_succ]
   rw [this]; omega
 · intro k k1 k2
   by_cases hk : k < i
   · have := d.closed k k1 hk; omega
   · have := (nest k (by omega) (by omega)).2; omega
 · intro t ht
   rcases List.mem_append.1 ht with ht | ht
   · exact d.well t ht
   · obtain rfl : t = c := by simpa using ht
     have := hpart 0 (by omega)
     have e0 : ((0 : Nat) : Int) = 0 := rfl
     rw [e0] at this
     refine ⟨endsOf_of (by omega) ?_, by omega⟩
     rw [this, hlen]; rfl
theorem chunks_deeper {l : List Fo} (h60 : l.length ≤ 60) (h0 : endOf l 0 = ((l.length : Int), 0)) {n : Nat} : ∀ (m j i : Nat) (out : List (List Fo)), n ≤ j + m → Parted l n j i out → Deeper l i out → Deeper l l.length (chunks l n 1)
 | 0, j, i, out, hm, p, d => by
   have := p.le
   have hj : j = n := by omega
   rw [p.done hj, ← p.fin hj]; exact d
 | m + 1, j, i, out, hm, p, d => by
   by_cases hj : j < n
   · obtain ⟨q1, q2, q3, q4⟩ := p.next hj
     exact chunks_deeper h60 h0 m (j + 1) _ _ (by omega) q4 (d.next h60 h0 p.one q1)
   · have := p.le
     have hj : j = n := by omega
     rw [p.done hj, ← p.fin hj]; exact d
theorem deep_parts {l : List Fo} (h : (endsOf l).2 = 0) : deep l = 1 + most (splitOf l).1 ∧ ∀ t ∈ (splitOf l).1, (endsOf t).2 = 0 ∧ t.length < l.length := by
 obtain ⟨h60, h0, h1, _, _⟩ := endsOf_ok (l := l) (es := (endsOf l).1) (Prod.ext rfl h)
 have hs : (splitOf l).1 = chunks l (partsOf l[0].kind).1.toNat 1 := by rw [splitOf, if_neg (by simpa using h), List.getElem?_eq_getElem h0]; rfl
 have := chunks_deeper (n := (partsOf l[0].kind).1.toNat) h60 h1 _ 0 1 [] (Nat.le_of_eq (Nat.zero_add _).symm) (Parted.start h0 h1) (Deeper.start h0 h1)
 rw [hs]
 exact ⟨this.mx, this.well⟩
end Go.Sp
namespace Go.Sp
open Go.Av
set_option linter.unusedVariables false
set_option linter.unusedSimpArgs false

def fitsZ (k v props : Int) : Int := if k < 8 then 13 else if (k = 13 ∧ (v < 0 ∨ props ≤ v)) ∨ (k ≠ 13 ∧ v ≠ 0) then 2 else 0
abbrev aheadP (k : Int) : Prop := 14 ≤ k ∧ k ≤ 18
def formE : List Fo → Int → Nat → Int
 | [], _, n => if 6 < n then 1 else 0
 | o :: r, props, n => if fitsZ o.kind o.val props ≠ 0 then fitsZ o.kind o.val props else formE r props (if aheadP o.kind then n + 1 else n)
def formF (l : List Fo) (props : Int) : Int := if props < 0 ∨ 6 < props then 2 else if (endsOf l).2 ≠ 0 then (endsOf l).2 else formE l props 0
theorem formE_at (l : List Fo) (i : Nat) (hi : i < l.length) (props : Int) (n : Nat) : formE (l.drop i) props n = if fitsZ l[i].kind l[i].val props ≠ 0 then fitsZ l[i].kind l[i].val props else formE (l.drop (i + 1)) props (if aheadP l[i].kind then n + 1 else n) := by
 rw [List.drop_eq_getElem_cons hi]; rfl
theorem formE_end (l : List Fo) (i : Nat) (hi : l.length ≤ i) (props : Int) (n : Nat) : formE (l.drop i) props n = if 6 < n then 1 else 0 := by
 rw [List.drop_eq_nil_of_le hi]; rfl
def aheadL : List Fo → Nat → List Int
 | [], _ => []
 | o :: r, i => if aheadP o.kind then (i : Int) :: aheadL r (i + 1) else aheadL r (i + 1)
def aheadsOf (l : List Fo) (props : Int) : List Int × Int := if formF l props ≠ 0 then ([], formF l props) else (aheadL l 0, 0)
theorem aheadL_at (l : List Fo) (i : Nat) (hi : i < l.length) : aheadL (l.drop i) i = if aheadP l[i].kind then (i : Int) :: aheadL (l.drop (i + 1)) (i + 1) else aheadL (l.drop (i + 1)) (i + 1) := by
 rw [List.drop_eq_getElem_cons hi]; rfl
theorem aheadL_end (l : List Fo) (i : Nat) (hi : l.length ≤ i) : aheadL (l.drop i) i = [] := by
 rw [List.drop_eq_nil_of_le hi]; rfl
end Go.Sp
namespace Go.Proofs.YtniklgkoiaeipaaGreatDoor
open Go Go.Av Go.Sp
set_option linter.unusedVariables false
set_option linter.unusedSimpArgs false
set_option maxRecDepth 100000
set_option maxHeartbeats 4000000

theorem cal_ahead : Cal Tryz.prog 89 := Cal.of Tryz.func89 (by kernel_rfl) (by kernel_rfl)
theorem cal_fits : Cal Tryz.prog 134 := Cal.of Tryz.func134 (by kernel_rfl) (by kernel_rfl)
theorem cal_Check : Cal Tryz.prog 88 := Cal.of Tryz.func88 (by kernel_rfl) (by kernel_rfl)
theorem cal_looksAhead : Cal Tryz.prog 99 := Cal.of Tryz.func99 (by kernel_rfl) (by kernel_rfl)
theorem cal_FormulaFault : Cal Tryz.prog 98 := Cal.of Tryz.func98 (by kernel_rfl) (by kernel_rfl)
theorem ahead (G : List (Nat × List D)) (x : Int) : ACr Tryz.prog G 89 [.int x] (.bool (decide (aheadP x))) := by
 refine AC_of (ts := [2]) 9 Tryz.func89 rfl rfl rfl (by simp) fun W I => ?_
 repeat' (first
  | exact True.intro
  | refine stp ?_
  | refine two ?_ ?_
  | (refine imp fun hc => ?_) <;> try exact cx hc
  | refine all fun v_ => ?_)
 all_goals
  ((with_reducible apply rq1); rfl; rfl)
  refine ret_eq (congrArg AV.bool ?_)
  (first | rfl | (refine decide_eq_decide.2 ?_; omega) | (refine (decide_eq_true ?_).symm; omega) | (refine (decide_eq_false ?_).symm; omega) | (refine decide_eq_true ?_; omega) | (refine decide_eq_false ?_; omega))
theorem armXT6_1 {p q : Prop} (hp : p) (h : p → q := by
 apply cmp; (focus (first
  | ((with_reducible apply call0); (focus rfl); (focus exact cal_In); (focus exact In _ _ _ _); (focus rfl))
  | ((with_reducible apply je_call0); (focus rfl); (focus (decide +kernel)); (focus rfl); (focus exact cal_In); (focus exact In _ _ _ _); (focus rfl))
  ))
 exact fun h => h) : q := h hp
theorem looksAhead (G : List (Nat × List D)) (x : Int) : ACr Tryz.prog G 99 [.int x] (.bool (decide (aheadP x))) := by
 refine AC_of (ts := [2]) 5 Tryz.func99 rfl rfl rfl (by simp) fun W I => ?_
 repeat' (first
  | refine armXT6_1 ?_
  | exact True.intro
  | refine stp ?_
  | refine two ?_ ?_
  | (refine imp fun hc => ?_) <;> try exact cx hc
  | refine all fun v_ => ?_)
 ((with_reducible apply rq1); rfl; rfl)
 exact ret_eq rfl

theorem fits (G : List (Nat × List D)) (a b props : Int) : ACr Tryz.prog G 134 [.agg [.int a, .int b], .int props] (.int (fitsZ a b props)) := by
 refine AC_ofV (ts := [4]) 34 Tryz.func134 rfl rfl rfl (by simp) fun W I => ?_
 repeat' (first
  | refine allocD ?_
  | exact True.intro
  | refine stp ?_
  | refine two ?_ ?_
  | (refine imp fun hc => ?_) <;> try exact cx hc
  | refine all fun v_ => ?_)
 all_goals
  refine retv (VS.drop (List.nil_sublist _)) ?_
  ((with_reducible apply rq1); rfl; rfl)
  refine ret_eq (congrArg AV.int ?_)
  unfold fitsZ
  first
   | (rw [if_pos (by omega)])
   | (rw [if_neg (by omega), if_pos (by omega)])
   | (rw [if_neg (by omega), if_neg (by omega)])

theorem armXT6_2 {p q : Prop} (hp : p) (h : p → q := by
 apply cmp; (focus (first
  | ((with_reducible apply call0); (focus rfl); (focus exact cal_Ends); (focus exact Ends _); (focus rfl))
  | ((with_reducible apply je_call0); (focus rfl); (focus (decide +kernel)); (focus rfl); (focus exact cal_Ends); (focus exact Ends _); (focus rfl))
  | ((with_reducible apply call0); (focus rfl); (focus exact cal_fits); (focus exact fits _ _ _ _); (focus rfl))
  | ((with_reducible apply je_call0); (focus rfl); (focus (decide +kernel)); (focus rfl); (focus exact cal_fits); (focus exact fits _ _ _ _); (focus rfl))
  | ((with_reducible apply call0); (focus rfl); (focus exact cal_ahead); (focus exact ahead _ _); (focus rfl))
  | ((with_reducible apply je_call0); (focus rfl); (focus (decide +kernel)); (focus rfl); (focus exact cal_ahead); (focus exact ahead _ _); (focus rfl))
  ))
 exact fun h => h) : q := h hp
theorem Check (l : List Fo) (props : Int) : ACr Tryz.prog GP 88 [.d (opsD l), .int props] (.int (formF l props)) := by
 refine AC_ofV (ts := [4]) 45 Tryz.func88 rfl rfl rfl (by simp) fun W I => ?_
 refine jfact (t := 0) rfl fun hl => ?_
 repeat' (first
  | refine armXT6_2 ?_
  | refine allocD ?_
  | exact True.intro
  | refine stp ?_
  | refine two ?_ ?_
  | (refine imp fun hc => ?_) <;> try exact cx hc
  | refine all fun v_ => ?_)
 all_goals try (
  refine retv0 ?_
  ((with_reducible apply rq1); rfl; rfl)
  refine ret_eq (congrArg AV.int ?_)
  unfold formF
  first
   | (rw [if_pos (by omega)])
   | (rw [if_neg (by omega), if_pos (by assumption)]))
 have hs : formF l props = formE l props 0 := by
  unfold formF
  rw [if_neg (by omega), if_neg (by assumption)]
 refine J_loopV (X := Nat × Nat) (fun y => [(1, .int props), (25, .d (opsD l)), (26, .int l.length), (27, .int y.1), (7, .int y.2)]) (fun _ => []) (fun y => y.1 ≤ l.length ∧ y.2 ≤ y.1 ∧ formF l props = formE (l.drop y.1) props y.2) (fun y => l.length - y.1) (0, 0) ⟨Nat.zero_le _, Nat.le_refl _, hs⟩ (VS.of_le ?_) ?_
 · exact leD
 rintro ⟨i, n⟩ ⟨k1, k2, k3⟩
 dsimp only at k1 k2 k3 ⊢
 by_cases hi : i < l.length
 · rw [formE_at l i hi] at k3
   repeat' (first
    | refine armXT6_2 ?_
    | refine allocD ?_
    | exact True.intro
    | refine stp ?_
    | refine two ?_ ?_
    | (refine imp fun hc => ?_) <;> try exact cx hc
    | refine all fun v_ => ?_)
   · refine retv (VS.drop (List.nil_sublist _)) ?_
     ((with_reducible apply rq1); rfl; rfl)
     refine ret_eq (congrArg AV.int ?_)
     rw [k3, if_pos hc]
   all_goals rw [if_neg (by assumption)] at k3
   · rw [if_pos hc] at k3
     refine ⟨(i + 1, n + 1), ⟨by dsimp only; omega, by dsimp only; omega, k3⟩, by dsimp only; omega, vle (List.nil_sublist _) ?_⟩
     exact leD
   · rw [if_neg hc] at k3
     refine ⟨(i + 1, n), ⟨by dsimp only; omega, by dsimp only; omega, k3⟩, by dsimp only; omega, vle (List.nil_sublist _) ?_⟩
     exact leD
 · rw [formE_end l i (by omega)] at k3
   repeat' (first
    | refine armXT6_2 ?_
    | refine allocD ?_
    | exact True.intro
    | refine stp ?_
    | refine two ?_ ?_
    | (refine imp fun hc => ?_) <;> try exact cx hc
    | refine all fun v_ => ?_)
   all_goals
    refine retv0 ?_
    ((with_reducible apply rq1); rfl; rfl)
    refine ret_eq (congrArg AV.int ?_)
    rw [k3]
    first
     | rw [if_pos (by omega)]
     | rw [if_neg (by omega)]

theorem armXT6_3 {p q : Prop} (hp : p) (h : p → q := by
 apply cmp; (focus (first
  | ((with_reducible apply call0); (focus rfl); (focus exact cal_EndsOf); (focus exact EndsOf _ _); (focus rfl))
  | ((with_reducible apply je_call0); (focus rfl); (focus (decide +kernel)); (focus rfl); (focus exact cal_EndsOf); (focus exact EndsOf _ _); (focus rfl))
  | ((with_reducible apply call0); (focus rfl); (focus exact cal_In); (focus exact In _ _ _ _); (focus rfl))
  | ((with_reducible apply je_call0); (focus rfl); (focus (decide +kernel)); (focus rfl); (focus exact cal_In); (focus exact In _ _ _ _); (focus rfl))
  | ((with_reducible apply call0); (focus rfl); (focus exact cal_looksAhead); (focus exact looksAhead _ _); (focus rfl))
  | ((with_reducible apply je_call0); (focus rfl); (focus (decide +kernel)); (focus rfl); (focus exact cal_looksAhead); (focus exact looksAhead _ _); (focus rfl))
  ))
 exact fun h => h) : q := h hp
theorem FormulaFault (G : List (Nat × List D)) (l : List Fo) (props : Int) : ACr Tryz.prog G 98 [.d (opsD l), .int props] (.int (formF l props)) := by
 refine AC_ofV (ts := [4]) 59 Tryz.func98 rfl rfl rfl (by simp) fun W I => ?_
 refine jfact (t := 0) rfl fun hl => ?_
 repeat' (first
  | refine armXT6_3 ?_
  | exact True.intro
  | refine stp ?_
  | refine two ?_ ?_
  | (refine imp fun hc => ?_) <;> try exact cx hc
  | refine all fun v_ => ?_)
 all_goals try (
  refine retv0 ?_
  ((with_reducible apply rq1); rfl; rfl)
  refine ret_eq (congrArg AV.int ?_)
  unfold formF
  first
   | (rw [if_pos (by omega)])
   | (rw [if_neg (by omega), if_pos (by assumption)]))
 have hs : formF l props = formE l props 0 := by
  unfold formF
  rw [if_neg (by omega), if_neg (by assumption)]
 refine J_loopV (X := Nat × Nat) (fun y => [(0, .d (opsD l)), (1, .int props), (8, .int y.1), (7, .int y.2)]) (fun _ => []) (fun y => y.1 ≤ l.length ∧ y.2 ≤ y.1 ∧ formF l props = formE (l.drop y.1) props y.2) (fun y => l.length - y.1) (0, 0) ⟨Nat.zero_le _, Nat.le_refl _, hs⟩ (VS.of_le ?_) ?_
 · exact leD
 rintro ⟨i, n⟩ ⟨k1, k2, k3⟩
 dsimp only at k1 k2 k3 ⊢
 by_cases hi : i < l.length
 · rw [formE_at l i hi] at k3
   unfold fitsZ at k3
   repeat' (first
    | refine armXT6_3 ?_
    | exact True.intro
    | refine stp ?_
    | refine two ?_ ?_
    | (refine imp fun hc => ?_) <;> try exact cx hc
    | refine all fun v_ => ?_)
   all_goals first
    | (refine retv0 ?_
       ((with_reducible apply rq1); rfl; rfl)
       refine ret_eq (congrArg AV.int ?_)
       rw [k3]
       first
        | (rw [if_pos (by rw [if_pos (by omega)]; decide), if_pos (by omega)])
        | (rw [if_pos (by rw [if_neg (by omega), if_pos (by omega)]; decide), if_neg (by omega), if_pos (by omega)]))
    | (rw [if_neg (by rw [if_neg (by omega), if_neg (by omega)]; decide)] at k3
       first
        | (rw [if_pos (by assumption)] at k3
           refine ⟨(i + 1, n + 1), ⟨by dsimp only; omega, by dsimp only; omega, k3⟩, by dsimp only; omega, VS.of_le ?_⟩
           exact leD)
        | (rw [if_neg (by assumption)] at k3
           refine ⟨(i + 1, n), ⟨by dsimp only; omega, by dsimp only; omega, k3⟩, by dsimp only; omega, VS.of_le ?_⟩
           exact leD))
 · rw [formE_end l i (by omega)] at k3
   repeat' (first
    | refine armXT6_3 ?_
    | exact True.intro
    | refine stp ?_
    | refine two ?_ ?_
    | (refine imp fun hc => ?_) <;> try exact cx hc
    | refine all fun v_ => ?_)
   all_goals
    refine retv0 ?_
    ((with_reducible apply rq1); rfl; rfl)
    refine ret_eq (congrArg AV.int ?_)
    rw [k3]
    first
     | rw [if_pos (by omega)]
     | rw [if_neg (by omega)]
end Go.Proofs.YtniklgkoiaeipaaGreatDoor
namespace Go.Sp
open Go.Av
set_option linter.unusedVariables false
set_option linter.unusedSimpArgs false

abbrev okP (k : Int) : Prop := 1 ≤ k ∧ k ≤ 12
abbrev makesP (k : Int) : Prop := 6 ≤ k ∧ k ≤ 12
abbrev takesP (k : Int) : Prop := 8 ≤ k ∧ k ≤ 12
def opZ (k v vars : Int) : Int :=
 if ¬ okP k then 13
 else if (k = 1 ∧ (v < -1000 ∨ 1000 < v)) ∨ (k = 2 ∧ (v < 0 ∨ vars ≤ v)) ∨ (2 < k ∧ v ≠ 0) then 2 else 0
def opsE : List Fo → Int → Int
 | [], _ => 0
 | o :: r, vars => if opZ o.kind o.val vars ≠ 0 then opZ o.kind o.val vars else opsE r vars
theorem opsE_at (l : List Fo) (i : Nat) (hi : i < l.length) (vars : Int) : opsE (l.drop i) vars = if opZ l[i].kind l[i].val vars ≠ 0 then opZ l[i].kind l[i].val vars else opsE (l.drop (i + 1)) vars := by
 rw [List.drop_eq_getElem_cons hi]; rfl
theorem opsE_end (l : List Fo) (i : Nat) (hi : l.length ≤ i) (vars : Int) : opsE (l.drop i) vars = 0 := by
 rw [List.drop_eq_nil_of_le hi]; rfl

def kindAt (l : List Fo) (i : Nat) : Int := (l[i]?.map Fo.kind).getD 0
theorem kindAt_eq (l : List Fo) (i : Nat) (hi : i < l.length) : kindAt l i = l[i].kind := by unfold kindAt; rw [List.getElem?_eq_getElem hi]; rfl
def starts (l : List Fo) : Nat → Nat → List Nat
 | 0, _ => []
 | k + 1, i => i :: starts l k (endOf l i).1.toNat
abbrev fitAt (l : List Fo) (at_ p : Nat) : Prop := (makesP (kindAt l p) ↔ takesP (kindAt l at_))
abbrev tyAt (l : List Fo) (at_ : Nat) : Prop := ∀ p ∈ starts l (partsOf (kindAt l at_)).1.toNat (at_ + 1), fitAt l at_ p
abbrev typedP (l : List Fo) : Prop := ∀ i, i < l.length → tyAt l i

structure Within (l : List Fo) (n j i e : Nat) : Prop where
 le : j ≤ n
 upto : i ≤ e
 more : j < n → scan (l.drop i) ((n - j : Nat) : Int) i = ((e : Int), 0)
 fin : j = n → i = e
theorem Within.start {l : List Fo} {i : Nat} (hi : i < l.length) (h : (endOf l i).2 = 0) : Within l (partsOf l[i].kind).1.toNat 0 (i + 1) (endOf l i).1.toNat := by
 have hb := endOf_bound l i h
 have h' := endOf_at l i hi
 have hp := partsOf_le l[i].kind
 by_cases h1 : (partsOf l[i].kind).2 ≠ 0
 · rw [if_pos h1] at h'; rw [h'] at h; exact absurd h h1
 rw [if_neg h1] at h'
 refine ⟨Nat.zero_le _, by omega, fun h2 => ?_, fun h2 => ?_⟩
 · rw [if_neg (by omega)] at h'
   have e : (1 : Int) + (partsOf l[i].kind).1 - (1 : Int) = (((partsOf l[i].kind).1.toNat - 0 : Nat) : Int) := by omega
   have e2 : ((i + 1 : Nat) : Int) = (i : Int) + 1 := by omega
   rw [e2, ← e, ← h']
   refine Prod.ext ?_ ?_
   · dsimp only; omega
   · exact h
 · rw [if_pos (by omega)] at h'
   rw [h']; dsimp only; omega
theorem Within.next {l : List Fo} {n j i e : Nat} (p : Within l n j i e) (hj : j < n) : (endOf l i).2 = 0 ∧ (i : Int) < (endOf l i).1 ∧ (endOf l i).1 ≤ e ∧ Within l n (j + 1) (endOf l i).1.toNat e := by
 obtain ⟨k1, k2, k3, k4, k5⟩ := scan_parts (by omega) (p.more hj)
 have hle := (scan_first (by omega) (p.more hj)).2
 refine ⟨k1, k2, hle, by omega, by omega, fun h => ?_, fun h => ?_⟩
 · have := k5 (by omega)
   rwa [show n - j - 1 = n - (j + 1) by omega] at this
 · have := k4 (by omega)
   omega
theorem Within.lt {l : List Fo} {n j i e : Nat} (p : Within l n j i e) : j < n ↔ i < e := by
 constructor
 · intro h
   have := p.next h
   omega
 · intro h
   have := p.le
   have := p.fin
   omega

theorem starts_part {l : List Fo} {i : Nat} (h : (endOf l i).2 = 0) : ∀ (n j p e : Nat), Within l n j (i + p) e → (e : Int) ≤ (endOf l i).1 →
 starts l (n - j) (i + p) = (starts ((l.drop i).take ((endOf l i).1.toNat - i)) (n - j) p).map (i + ·) := by
 intro n j
 induction hk : n - j generalizing j with
 | zero => intro p e w he; rfl
 | succ k ih =>
   intro p e w he
   obtain ⟨q1, q2, q3, q4⟩ := w.next (by omega)
   have hp := part_at h p (by omega)
   simp only [starts, List.map_cons]
   congr 1
   rw [hp]
   have e1 : (endOf l (i + p : Nat)).1.toNat = i + ((endOf l (i + p : Nat)).1 - i).toNat := by omega
   have q4' := q4
   rw [e1] at q4'
   have := ih (j + 1) (by omega) _ e q4' he
   rw [← this, ← e1]
theorem kindAt_part {l : List Fo} {i : Nat} (p m : Nat) (hp : p < m) : kindAt ((l.drop i).take m) p = kindAt l (i + p) := by
 unfold kindAt
 rw [List.getElem?_take, if_pos hp, List.getElem?_drop]
theorem starts_lt {l : List Fo} : ∀ (n j i e : Nat), Within l n j i e → ∀ p ∈ starts l (n - j) i, i ≤ p ∧ p < e := by
 intro n j
 induction hk : n - j generalizing j with
 | zero => intro i e w p hp; simp [starts] at hp
 | succ k ih =>
   intro i e w p hp
   obtain ⟨q1, q2, q3, q4⟩ := w.next (by omega)
   simp only [starts, List.mem_cons] at hp
   rcases hp with rfl | hp
   · omega
   · have := ih (j + 1) (by omega) _ e q4 p hp
     omega
theorem tyAt_part {l : List Fo} {i : Nat} (h : (endOf l i).2 = 0) (p : Nat) (hp : (i : Int) + p < (endOf l i).1) : tyAt ((l.drop i).take ((endOf l i).1.toNat - i)) p ↔ tyAt l (i + p) := by
 have hb := endOf_bound l i h
 have hlt : i + p < l.length := by omega
 have hs : scan (l.drop i) 1 i = ((endOf l i).1, 0) := by
  have he' : endOf l i = scan (l.drop i) 1 i := by unfold endOf; rw [Int.toNat_natCast]
  rw [← he']; exact Prod.ext rfl h
 obtain ⟨n1, n2⟩ := scan_nest l l.length i 1 _ (by omega) (by omega) hs (i + p) (by omega) (by omega)
 have hk : kindAt ((l.drop i).take ((endOf l i).1.toNat - i)) p = kindAt l (i + p) := kindAt_part p _ (by omega)
 have w := Within.start hlt n1
 rw [← kindAt_eq l (i + p) hlt] at w
 have e1 : i + p + 1 = i + (p + 1) := by omega
 rw [e1] at w
 have hst := starts_part h _ 0 (p + 1) _ w (by omega)
 have hlts := starts_lt _ 0 _ _ w
 simp only [Nat.sub_zero] at hst hlts
 unfold tyAt
 rw [hk, e1]
 rw [hst] at hlts ⊢
 have key : ∀ q, q ∈ starts ((l.drop i).take ((endOf l i).1.toNat - i)) (partsOf (kindAt l (i + p))).1.toNat (p + 1) → (fitAt ((l.drop i).take ((endOf l i).1.toNat - i)) p q ↔ fitAt l (i + p) (i + q)) := by
  intro q hq
  have := hlts (i + q) (List.mem_map.2 ⟨q, hq, rfl⟩)
  unfold fitAt
  rw [hk, kindAt_part q _ (by omega)]
 constructor
 · intro H q hq
   obtain ⟨q', hq', rfl⟩ := List.mem_map.1 hq
   exact (key q' hq').1 (H q' hq')
 · intro H q hq
   exact (key q hq).2 (H _ (List.mem_map.2 ⟨q, hq, rfl⟩))
structure TypedSo (l : List Fo) (n j i : Nat) (out : List (List Fo)) : Prop where
 here : tyAt l 0 ↔ ((∀ t ∈ out, (makesP (kindAt t 0) ↔ takesP (kindAt l 0))) ∧ ∀ p ∈ starts l (n - j) i, fitAt l 0 p)
 below : (∀ q, 1 ≤ q → q < i → tyAt l q) ↔ ∀ t ∈ out, typedP t
theorem TypedSo.next {l : List Fo} {n j i : Nat} {out : List (List Fo)} (p : Parted l n j i out) (d : TypedSo l n j i out) (hj : j < n) : TypedSo l n (j + 1) (endOf l i).1.toNat (out ++ [(l.drop i).take ((endOf l i).1.toNat - i)]) := by
 obtain ⟨q1, q2, q3, q4⟩ := p.next hj
 have hlen := part_length q1
 have hk : kindAt ((l.drop i).take ((endOf l i).1.toNat - i)) 0 = kindAt l (i + 0) := kindAt_part 0 _ (by omega)
 have hty := fun q hq => tyAt_part q1 q hq
 generalize hc : (l.drop i).take ((endOf l i).1.toNat - i) = c at hlen hk hty ⊢
 constructor
 · rw [d.here]
   have e : n - j = (n - (j + 1)) + 1 := by omega
   rw [e]
   simp only [starts, List.mem_cons, List.mem_append, List.not_mem_nil, or_false]
   constructor
   · rintro ⟨h1, h2⟩
     refine ⟨fun t ht => ?_, fun q hq => h2 q (.inr hq)⟩
     rcases ht with ht | rfl
     · exact h1 t ht
     · have := h2 i (.inl rfl)
       rw [hk]; exact this
   · rintro ⟨h1, h2⟩
     refine ⟨fun t ht => h1 t (.inl ht), fun q hq => ?_⟩
     rcases hq with rfl | hq
     · have := h1 c (.inr rfl)
       rw [hk] at this; exact this
     · exact h2 q hq
 · constructor
   · intro H t ht
     rcases List.mem_append.1 ht with ht | ht
     · exact d.below.1 (fun q h1 h2 => H q h1 (by omega)) t ht
     · obtain rfl : t = c := by simpa using ht
       intro q hq
       have := p.one
       exact (hty q (by omega)).2 (H (i + q) (by omega) (by omega))
   · intro H q h1 h2
     by_cases hq : q < i
     · exact d.below.2 (fun t ht => H t (List.mem_append.2 (.inl ht))) q h1 hq
     · have := (hty (q - i) (by omega)).1 (H c (List.mem_append.2 (.inr (by simp))) (q - i) (by omega))
       rwa [show i + (q - i) = q by omega] at this
theorem typed_parts {l : List Fo} (h : (endsOf l).2 = 0) : typedP l ↔ ∀ t ∈ (splitOf l).1, (makesP (kindAt t 0) ↔ takesP (kindAt l 0)) ∧ typedP t := by
 obtain ⟨h60, h0, h1, _, _⟩ := endsOf_ok (l := l) (es := (endsOf l).1) (Prod.ext rfl h)
 have hs : (splitOf l).1 = chunks l (partsOf l[0].kind).1.toNat 1 := by rw [splitOf, if_neg (by simpa using h), List.getElem?_eq_getElem h0]; rfl
 have key : ∀ (m j i : Nat) (out : List (List Fo)), (partsOf l[0].kind).1.toNat ≤ j + m → Parted l (partsOf l[0].kind).1.toNat j i out → TypedSo l (partsOf l[0].kind).1.toNat j i out →
  TypedSo l (partsOf l[0].kind).1.toNat (partsOf l[0].kind).1.toNat l.length (chunks l (partsOf l[0].kind).1.toNat 1) := by
  intro m
  induction m with
  | zero =>
    intro j i out hm p d
    have := p.le
    have hj : j = (partsOf l[0].kind).1.toNat := by omega
    have hfin := p.fin hj
    rw [p.done hj, ← hfin]; subst hj; exact d
  | succ m ih =>
    intro j i out hm p d
    by_cases hj : j < (partsOf l[0].kind).1.toNat
    · obtain ⟨q1, q2, q3, q4⟩ := p.next hj
      exact ih (j + 1) _ _ (by omega) q4 (d.next p hj)
    · have := p.le
      have hj : j = (partsOf l[0].kind).1.toNat := by omega
      have hfin := p.fin hj
      rw [p.done hj, ← hfin]; subst hj; exact d
 have d0 : TypedSo l (partsOf l[0].kind).1.toNat 0 1 [] := ⟨by unfold tyAt; rw [kindAt_eq l 0 h0]; simp, by
  constructor
  · intro _ t ht; simp at ht
  · intro _ q h1 h2; omega⟩
 have d := key _ 0 1 [] (Nat.le_of_eq (Nat.zero_add _).symm) (Parted.start h0 h1) d0
 rw [hs]
 have hh := d.here
 rw [Nat.sub_self] at hh
 simp only [starts, List.not_mem_nil, false_implies, implies_true, and_true] at hh
 constructor
 · intro H t ht
   exact ⟨hh.1 (H 0 h0) t ht, d.below.1 (fun q _ h2 => H q h2) t ht⟩
 · intro H i hi
   by_cases h : i = 0
   · subst h; exact hh.2 fun t ht => (H t ht).1
   · exact d.below.2 (fun t ht => (H t ht).2) i (by omega) hi
def typedZ (l : List Fo) : Int := if typedP l then 0 else 5
def exprC (l : List Fo) (vars : Int) : Bool × Int :=
 if vars < 0 ∨ 6 < vars then (false, 2)
 else if (endsOf l).2 ≠ 0 then (false, (endsOf l).2)
 else if opsE l vars ≠ 0 then (false, opsE l vars)
 else if typedP l then (decide (makesP (kindAt l 0)), 0) else (false, 5)
end Go.Sp
