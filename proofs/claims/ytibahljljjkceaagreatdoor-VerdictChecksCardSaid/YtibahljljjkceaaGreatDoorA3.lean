/- A bundle of this claim's own texts: T3 T4 Sc Sd T6 Se. -/
import Derived.Test.YtibahljljjkceaaGreatDoorA1
import Derived.Test.YtibahljljjkceaaGreatDoorA2
set_option linter.unusedVariables false
set_option linter.unusedSimpArgs false
set_option maxRecDepth 100000
set_option maxHeartbeats 4000000
namespace Go.Proofs.YtibahljljjkceaaGreatDoor
open Go Go.Av Go.Sp

theorem CX : Cal Tryz.prog 160 := Cal.of Tryz.func160 (by kernel_rfl) (by kernel_rfl)

theorem PT {p q : Prop} (hp : p) (h : p → q := by
 apply cmp; (focus (first
  | ((with_reducible apply JW); (focus rfl); (focus exact Ev); (focus exact AJ _ _ _ (by omega) (by omega)); (focus rfl))
  | ((with_reducible apply je_call0); (focus rfl); (focus (decide +kernel)); (focus rfl); (focus exact Ev); (focus exact AJ _ _ _ (by omega) (by omega)); (focus rfl))
  ))
 exact fun h => h) : q := h hp
theorem IS (G : List (Nat × List D)) (l : List Fo) : ACr Tryz.prog G 160 [.d (AO l)] (.tup [.d (AK (Ah l).1), .int (Ah l).2]) := by
 refine AN (ts := [2, 3]) 42 Tryz.func160 rfl rfl rfl (by simp) fun W I => ?_
 repeat' (first
  | refine PT ?_
  | exact True.intro
  | refine stp ?_
  | refine two ?_ ?_
  | (refine imp fun hc => ?_) <;> try exact cx hc
  | refine all fun v_ => ?_)
 · refine AH (Cn (t := 2) 1 8 rfl) ?_
   ((with_reducible apply rq2); rfl; rfl; rfl)
   refine AA ?_
   rw [Ah, if_pos (by omega)]; rfl
 · refine AH (Cn (t := 2) 1 8 rfl) ?_
   ((with_reducible apply rq2); rfl; rfl; rfl)
   refine AA ?_
   rw [Ah, if_neg (by omega), if_pos (by assumption)]; rfl
 · refine AH (Cn (t := 2) 1 8 rfl) ?_
   ((with_reducible apply rq2); rfl; rfl; rfl)
   refine AA ?_
   rw [Ah, if_neg (by omega), if_neg (by assumption), if_pos (by assumption)]; rfl
 have h60 : ¬ 60 < l.length := by omega
 refine C4 (E := 3) (sz := 1) AW ?_
 refine D8 (X := Nat × Value) (fun y => [(0, .d (AO l)), (6, .val y.2), (7, .int y.1)]) (fun y => [AM y.2 3 1 AW ((List.range y.1).map fun i : Nat => (Sp.AJ l i).1)]) (fun y => y.1 ≤ l.length) (fun y => l.length - y.1) (0, .slice none 0 0) (Nat.zero_le _) ?_ rfl ?_
 · exact leD
 rintro ⟨i, v⟩ h1
 dsimp only at h1 ⊢
 have hlen : ((List.range i).map fun i : Nat => (Sp.AJ l i).1).length = i := by simp
 repeat' (first
  | refine PT ?_
  | exact True.intro
  | refine stp ?_
  | refine two ?_ ?_
  | (refine imp fun hc => ?_) <;> try exact cx hc
  | refine all fun v_ => ?_)
 · refine ⟨(i + 1, v_), by dsimp only; omega, by dsimp only; omega, ?_, ?_⟩
   · exact leD
   · dsimp only
     rw [List.range_succ, List.map_append]; rfl
 · refine AH (Bf (t := 2) (eb := 8) rfl rfl (fun x => rfl) (by rw [hlen]; omega)) ?_
   ((with_reducible apply rq2); rfl; rfl; rfl)
   refine AA ?_
   have : i = l.length := by omega
   rw [Ah, if_neg h60, if_neg (by assumption), if_neg (by assumption), this]

theorem SL : Cal Tryz.prog 195 := Cal.of Tryz.func195 (by kernel_rfl) (by kernel_rfl)
theorem Cj : Cal Tryz.prog 165 := Cal.of Tryz.func165 (by kernel_rfl) (by kernel_rfl)
theorem Tb (G : List (Nat × List D)) (a b : List (List Fo)) : ACr Tryz.prog G 36 [.d (Aw a), .d (Aw b)] (.bool (decide (a = b))) := by
 refine DU (ts := [4]) 27 Tryz.func36 rfl rfl rfl (by simp) fun W I => ?_
 refine Bs (t := 0) rfl fun hl0 => ?_
 refine Bs (t := 1) rfl fun hl1 => ?_
 repeat' (first
  | refine caq B8 (I4 _ _ _) ?_
  | exact True.intro
  | refine stp ?_
  | refine two ?_ ?_
  | (refine imp fun hc => ?_) <;> try exact cx hc
  | refine all fun v_ => ?_)
 · ((with_reducible apply rq1); rfl; rfl)
   refine AA ?_
   rw [decide_eq_false]
   intro e; subst e; omega
 refine D8 (X := Nat) (fun i => [(0, .d (Aw a)), (1, .d (Aw b)), (5, .int i)]) (fun _ => []) (fun i => i ≤ a.length ∧ a.take i = b.take i) (fun i => a.length - i) 0 ⟨Nat.zero_le _, rfl⟩ ?_ rfl ?_
 · exact leD
 rintro i ⟨h1, h2⟩
 repeat' (first
  | refine caq B8 (I4 _ _ _) ?_
  | exact True.intro
  | refine stp ?_
  | refine two ?_ ?_
  | (refine imp fun hc => ?_) <;> try exact cx hc
  | refine all fun v_ => ?_)
 all_goals first
  | (((with_reducible apply rq1); rfl; rfl)
     refine AA ?_
     rw [decide_eq_false]
     intro e; subst e
     exact hc rfl)
  | (refine ⟨i + 1, ⟨by omega, NK (by omega) (by omega) h2 ?_⟩, by first | omega | (dsimp only; omega), ?_, rfl⟩
     · exact hc
     · exact leD)
  | (((with_reducible apply rq1); rfl; rfl)
     refine AA ?_
     rw [decide_eq_true]
     rwa [List.take_of_length_le (by omega), List.take_of_length_le (by omega)] at h2)

theorem Ops (G : List (Nat × List D)) (l : List Fo) (m n : Int) (h0 : 0 ≤ m) (h1 : m ≤ n) (h2 : n ≤ l.length) : ACr Tryz.prog G 195 [.d (AO l), .int m, .int n] (.d (AO ((l.drop m.toNat).take (n.toNat - m.toNat)))) := by
 obtain ⟨m, rfl⟩ := Int.eq_ofNat_of_zero_le h0
 obtain ⟨n, rfl⟩ := Int.eq_ofNat_of_zero_le (show 0 ≤ n by omega)
 refine AN (ts := [6]) 23 Tryz.func195 rfl rfl rfl (by simp) fun W I => ?_
 refine Bs (t := 0) rfl fun hl => ?_
 repeat' (first
  | exact True.intro
  | refine stp ?_
  | refine two ?_ ?_
  | (refine imp fun hc => ?_) <;> try exact cx hc
  | refine all fun v_ => ?_)
 refine C4 (E := 144) (sz := 2) Fo.cells ?_
 refine D8 (X := Nat × Value) (fun y => [(0, .d (AO l)), (2, .int n), (7, .val y.2), (8, .int y.1)]) (fun y => [AM y.2 144 2 Fo.cells ((l.drop m).take (y.1 - m))]) (fun y => m ≤ y.1 ∧ y.1 ≤ n) (fun y => n - y.1) (m, .slice none 0 0) ⟨Nat.le_refl _, by dsimp only; omega⟩ ?_ ?_ ?_
 · exact leD
 · simp
 rintro ⟨i, v⟩ ⟨k1, k2⟩
 dsimp only at k1 k2 ⊢
 repeat' (first
  | exact True.intro
  | refine stp ?_
  | refine two ?_ ?_
  | (refine imp fun hc => ?_) <;> try exact cx hc
  | refine all fun v_ => ?_)
 · refine ⟨(i + 1, v_), ⟨by dsimp only; omega, by dsimp only; omega⟩, by dsimp only; omega, ?_, ?_⟩
   · exact leD
   · dsimp only
     rw [Vp l m i k1 (by omega)]
 · refine AH (Bf (t := 6) (eb := 16) rfl rfl (fun x => rfl) (by simp only [List.length_take, List.length_drop]; omega)) ?_
   ((with_reducible apply rq1); rfl; rfl)
   refine AA ?_
   have : i = n := by omega
   rw [this]; rfl

theorem JJ {p q : Prop} (hp : p) (h : p → q := by
 apply cmp; (focus (first
  | ((with_reducible apply JW); (focus rfl); (focus exact Ev); (focus exact AJ _ _ _ (by omega) (by omega)); (focus rfl))
  | ((with_reducible apply je_call0); (focus rfl); (focus (decide +kernel)); (focus rfl); (focus exact Ev); (focus exact AJ _ _ _ (by omega) (by omega)); (focus rfl))
  | ((with_reducible apply JW); (focus rfl); (focus exact SL); (focus exact Ops _ _ _ _ (by omega) (by omega) (by omega)); (focus rfl))
  | ((with_reducible apply je_call0); (focus rfl); (focus (decide +kernel)); (focus rfl); (focus exact SL); (focus exact Ops _ _ _ _ (by omega) (by omega) (by omega)); (focus rfl))
  ))
 exact fun h => h) : q := h hp
theorem H0 (G : List (Nat × List D)) (l : List Fo) : ACr Tryz.prog G 165 [.d (AO l)] (.tup [.d (Aw (BS l).1), .int (BS l).2]) := by
 have hE := IS G l
 generalize he : Ah l = p at hE
 obtain ⟨es, e⟩ := p
 refine AN (ts := [2, 3]) 51 Tryz.func165 rfl rfl rfl (by simp) fun W I => ?_
 by_cases hc : e ≠ 0
 · repeat' (first
    | refine ca CX (hE) ?_
    | refine ca DC (Gz _ _) ?_
    | refine JJ ?_
    | exact True.intro
    | refine stp ?_
    | refine two ?_ ?_
    | (refine imp fun hc => ?_) <;> try exact cx hc
    | refine all fun v_ => ?_)
   refine AH (Cn (t := 2) 1 24 rfl) ?_
   ((with_reducible apply rq2); rfl; rfl; rfl)
   refine AA ?_
   rw [BS, he, if_pos hc]; rfl
 have e0 : e = 0 := by simpa using hc
 subst e0
 obtain ⟨hl, h0, h1, hlen, hes⟩ := Bp he
 have hs : BS l = (chunks l (partsOf l[0].kind).1.toNat 1, 0) := by rw [BS, he, List.getElem?_eq_getElem h0]; rfl
 have hp := Bn l[0].kind
 repeat' (first
  | refine ca CX (hE) ?_
  | refine ca DC (Gz _ _) ?_
  | refine JJ ?_
  | exact True.intro
  | refine stp ?_
  | refine two ?_ ?_
  | (refine imp fun hc => ?_) <;> try exact cx hc
  | refine all fun v_ => ?_)
 generalize hn : (partsOf l[0].kind).1.toNat = n at hs
 refine C4 (E := 27) (sz := 1) Mf ?_
 refine D8 (X := Nat × Nat × Value × List (List Fo)) (fun y => [(0, .d (AO l)), (6, .val y.2.2.1), (7, .int (partsOf l[0].kind).1), (9, .int y.2.1), (10, .int y.1)]) (fun y => [AM y.2.2.1 27 1 Mf y.2.2.2]) (fun y => DY l n y.1 y.2.1 y.2.2.2) (fun y => n - y.1) (0, 1, .slice none 0 0, []) (hn ▸ DY.start h0 h1) ?_ rfl ?_
 · exact leD
 rintro ⟨j, i, v, out⟩ k
 dsimp only at k ⊢
 have klt := k.lt
 have kle := k.len
 have kfew := k.few
 by_cases hj : j < n
 · obtain ⟨q1, q2, q3, q4⟩ := k.next hj
   repeat' (first
    | refine ca CX (hE) ?_
    | refine ca DC (Gz _ _) ?_
    | refine JJ ?_
    | exact True.intro
    | refine stp ?_
    | refine two ?_ ?_
    | (refine imp fun hc => ?_) <;> try exact cx hc
    | refine all fun v_ => ?_)
   refine ⟨(j + 1, (Sp.AJ l i).1.toNat, v_, _), q4, by dsimp only; omega, ?_, ?_⟩
   · exact leD
   · simp only [Int.toNat_natCast]
 · repeat' (first
    | refine ca CX (hE) ?_
    | refine ca DC (Gz _ _) ?_
    | refine JJ ?_
    | exact True.intro
    | refine stp ?_
    | refine two ?_ ?_
    | (refine imp fun hc => ?_) <;> try exact cx hc
    | refine all fun v_ => ?_)
   refine AH (Bf (t := 2) (eb := 24) rfl rfl (fun x => rfl) (by omega)) ?_
   ((with_reducible apply rq2); rfl; rfl; rfl)
   refine AA ?_
   rw [hs, k.done (by have := k.le; omega)]
end Go.Proofs.YtibahljljjkceaaGreatDoor
namespace Go.Sp
open Go.Av

def Ja (p : Nat → Bool) : Nat → Nat
 | 0 => 0
 | n + 1 => Ja p n + if p n then 1 else 0
def mxr (f : Nat → Nat) : Nat → Nat
 | 0 => 0
 | n + 1 => max (mxr f n) (f n)
theorem LL {p q : Nat → Bool} : ∀ n, (∀ k, k < n → p k = q k) → Ja p n = Ja q n
 | 0, _ => rfl
 | n + 1, h => by simp only [Ja, LL n fun k hk => h k (by omega), h n (by omega)]
theorem My {p q : Nat → Nat} : ∀ n, (∀ k, k < n → p k = q k) → mxr p n = mxr q n
 | 0, _ => rfl
 | n + 1, h => by simp only [mxr, My n fun k hk => h k (by omega), h n (by omega)]
theorem O5 (p : Nat → Bool) (i : Nat) : ∀ m, Ja p (i + m) = Ja p i + Ja (fun k => p (i + k)) m
 | 0 => by simp [Ja]
 | m + 1 => by rw [← Nat.add_assoc]; simp only [Ja, O5 p i m]; omega
theorem R6 (p : Nat → Nat) (i : Nat) : ∀ m, mxr p (i + m) = max (mxr p i) (mxr (fun k => p (i + k)) m)
 | 0 => by simp [mxr]
 | m + 1 => by rw [← Nat.add_assoc]; simp only [mxr, R6 p i m]; omega
theorem O9 (p : Nat → Nat) : ∀ m, mxr (fun k => 1 + p k) (m + 1) = 1 + mxr p (m + 1)
 | 0 => by simp [mxr]
 | m + 1 => by have := O9 p m; simp only [mxr] at this ⊢; omega
theorem QI {p : Nat → Bool} (h0 : p 0 = true) : ∀ i, 1 ≤ i → (∀ k, 1 ≤ k → k < i → p k = false) → Ja p i = 1
 | 0, h, _ => absurd h (by decide)
 | 1, _, _ => by simp [Ja, h0]
 | i + 2, _, h => by
   have := QI h0 (i + 1) (by omega) fun k h1 h2 => h k h1 (by omega)
   rw [Ja, this, h (i + 1) (by omega) (by omega)]; rfl

def count (l : List Fo) (i : Nat) : Nat := Ja (fun k => decide ((i : Int) < (AJ l k).1)) (i + 1)
def deep (l : List Fo) : Nat := mxr (count l) l.length
theorem Mk : ∀ (r : List Fo) (m : Nat) (w i e d : Int), scan r w (i + d) = (e + d, 0) → e ≤ i + m → scan (r.take m) w i = (e, 0)
 | [], m, w, i, e, d, h, _ => by simp [scan] at h
 | o :: r, m, w, i, e, d, h, hm => by
   have hb := DF (o :: r) w (i + d) (by rw [h])
   rw [h] at hb
   obtain ⟨m, rfl⟩ : ∃ m', m = m' + 1 := ⟨m - 1, by dsimp only at hb; omega⟩
   rw [List.take_succ_cons, Ch]
   rw [Ch] at h
   by_cases h1 : (partsOf o.kind).2 ≠ 0
   · rw [if_pos h1] at h; simp at h; exact absurd h.2 h1
   rw [if_neg h1] at h ⊢
   by_cases h2 : w + (partsOf o.kind).1 - 1 = 0
   · rw [if_pos h2] at h ⊢
     simp only [Prod.mk.injEq, and_true] at h ⊢
     omega
   · rw [if_neg h2] at h ⊢
     refine Mk r m _ (i + 1) e d ?_ (by omega)
     rw [← h]; congr 1; omega

theorem Ly {l : List Fo} {i : Nat} {w : Int} {e : Int} (hw : 1 ≤ w) (h : scan (l.drop i) w i = (e, 0)) : (AJ l i).2 = 0 ∧ (AJ l i).1 ≤ e := by
 by_cases h1 : w = 1
 · subst h1
   have he : AJ l i = scan (l.drop i) 1 i := by unfold AJ; rw [Int.toNat_natCast]
   rw [he, h]; exact ⟨rfl, Int.le_refl _⟩
 · have hw' : w = (w - 1) + 1 := by omega
   rw [hw', GV l i (w - 1) (by omega)] at h
   by_cases h2 : (AJ l i).2 ≠ 0
   · rw [if_pos h2] at h; simp at h; exact absurd h.2 h2
   rw [if_neg h2] at h
   have hb := Al l i (by simpa using h2)
   have := DF (l.drop (AJ l i).1.toNat) (w - 1) (AJ l i).1 (by rw [h])
   rw [h] at this
   exact ⟨by simpa using h2, by dsimp only at this; omega⟩

theorem Dl (l : List Fo) : ∀ (m i : Nat) (w : Int) (e : Int), l.length ≤ i + m → 1 ≤ w → scan (l.drop i) w i = (e, 0) → ∀ k : Nat, i ≤ k → (k : Int) < e → (AJ l k).2 = 0 ∧ (AJ l k).1 ≤ e
 | 0, i, w, e, hm, hw, h, k, h1, h2 => by
   rw [List.drop_eq_nil_of_le (by omega)] at h; simp [scan] at h
 | m + 1, i, w, e, hm, hw, h, k, h1, h2 => by
   by_cases hk : k = i
   · subst hk; exact Ly hw h
   by_cases hi : i < l.length
   · rw [List.drop_eq_getElem_cons hi, Ch] at h
     have hp := Bn l[i].kind
     by_cases h3 : (partsOf l[i].kind).2 ≠ 0
     · rw [if_pos h3] at h; simp at h; exact absurd h.2 h3
     rw [if_neg h3] at h
     by_cases h4 : w + (partsOf l[i].kind).1 - 1 = 0
     · rw [if_pos h4] at h; simp at h; omega
     · rw [if_neg h4] at h
       exact Dl l m (i + 1) _ e (by omega) (by omega) h k (by omega) h2
   · rw [List.drop_eq_nil_of_le (by omega)] at h; simp [scan] at h

theorem Kd {l : List Fo} {i : Nat} (h : (AJ l i).2 = 0) (k : Nat) (hk : (i : Int) + k < (AJ l i).1) :
 AJ ((l.drop i).take ((AJ l i).1.toNat - i)) k = ((AJ l (i + k : Nat)).1 - i, 0) := by
 have hb := Al l i h
 have hs : scan (l.drop i) 1 i = ((AJ l i).1, 0) := by
  have he : AJ l i = scan (l.drop i) 1 i := by unfold AJ; rw [Int.toNat_natCast]
  rw [← he]; exact Prod.ext rfl h
 obtain ⟨n1, n2⟩ := Dl l l.length i 1 _ (by omega) (by omega) hs (i + k) (by omega) (by omega)
 have he : AJ l (i + k : Nat) = scan (l.drop (i + k)) 1 ((i + k : Nat) : Int) := by unfold AJ; rw [Int.toNat_natCast]
 have e1 : AJ ((l.drop i).take ((AJ l i).1.toNat - i)) k = scan (((l.drop i).take ((AJ l i).1.toNat - i)).drop k) 1 k := by unfold AJ; rw [Int.toNat_natCast]
 rw [e1, List.drop_take, List.drop_drop]
 refine Mk _ _ _ _ _ (i : Int) ?_ ?_
 · have : (k : Int) + i = ((i + k : Nat) : Int) := by omega
   rw [this, ← he]
   exact Prod.ext (by dsimp only; omega) n1
 · omega

theorem Fp {l : List Fo} {i : Nat} (h : (AJ l i).2 = 0) : (((l.drop i).take ((AJ l i).1.toNat - i)).length : Int) = (AJ l i).1 - i := by
 have hb := Al l i h
 rw [List.length_take, List.length_drop]; omega

theorem Mz {l : List Fo} (h60 : l.length ≤ 60) (h : AJ l 0 = ((l.length : Int), 0)) : (Ah l).2 = 0 := by
 unfold Ah
 rw [if_neg (by omega), h, if_neg (by simp), if_neg (by simp)]

def UD (out : List (List Fo)) : Nat := out.foldl (fun m t => max m (deep t)) 0
theorem S3 (out : List (List Fo)) (t : List Fo) : UD (out ++ [t]) = max (UD out) (deep t) := by simp [UD]

structure HP (l : List Fo) (i : Nat) (out : List (List Fo)) : Prop where
 mx : mxr (count l) i = 1 + UD out
 closed : ∀ k : Nat, 1 ≤ k → k < i → (AJ l k).1 ≤ i
 well : ∀ t ∈ out, (Ah t).2 = 0 ∧ t.length < l.length
theorem RT {l : List Fo} (h0 : 0 < l.length) (h : AJ l 0 = ((l.length : Int), 0)) : count l 0 = 1 := by
 have e0 : ((0 : Nat) : Int) = 0 := rfl
 unfold count
 simp only [Ja, e0, h]
 rw [if_pos (by simpa using h0)]
theorem HP.start {l : List Fo} (h0 : 0 < l.length) (h : AJ l 0 = ((l.length : Int), 0)) : HP l 1 [] :=
 ⟨by simp [mxr, RT h0 h, UD], fun k h1 h2 => by omega, by simp⟩
theorem HP.next {l : List Fo} {i : Nat} {out : List (List Fo)} (d : HP l i out) (h60 : l.length ≤ 60) (h0 : AJ l 0 = ((l.length : Int), 0)) (hi : 1 ≤ i) (he : (AJ l i).2 = 0) : HP l (AJ l i).1.toNat (out ++ [(l.drop i).take ((AJ l i).1.toNat - i)]) := by
 have hb := Al l i he
 have hlen := Fp he
 have hs : scan (l.drop i) 1 i = ((AJ l i).1, 0) := by
  have he' : AJ l i = scan (l.drop i) 1 i := by unfold AJ; rw [Int.toNat_natCast]
  rw [← he']; exact Prod.ext rfl he
 have nest := Dl l l.length i 1 _ (by omega) (by omega) hs
 have hpart := fun k hk => Kd he k hk
 generalize hc : (l.drop i).take ((AJ l i).1.toNat - i) = c at hlen hpart ⊢
 have hcl : c.length = (AJ l i).1.toNat - i := by omega
 have key : ∀ k, k < c.length → count l (i + k) = 1 + count c k := by
  intro k hk
  unfold count
  rw [Nat.add_assoc, O5]
  congr 1
  · refine QI ?_ i hi ?_
    · have e0 : ((0 : Nat) : Int) = 0 := rfl
      rw [e0, h0]; simp; omega
    · intro q q1 q2
      have := d.closed q q1 q2
      simp; omega
  · refine LL _ fun q hq => ?_
    rw [hpart q (by omega)]
    by_cases hx : ((i + k : Nat) : Int) < (AJ l (i + q : Nat)).1
    · rw [decide_eq_true hx, decide_eq_true]; dsimp only; omega
    · rw [decide_eq_false hx, decide_eq_false]; dsimp only; omega
 refine ⟨?_, ?_, ?_⟩
 · have e : (AJ l i).1.toNat = i + c.length := by omega
   rw [e, R6, d.mx, S3, My c.length key]
   obtain ⟨m, hm⟩ : ∃ m, c.length = m + 1 := ⟨c.length - 1, by omega⟩
   have : mxr (fun k => 1 + count c k) c.length = 1 + deep c := by unfold deep; rw [hm, O9]
   rw [this]; omega
 · intro k k1 k2
   by_cases hk : k < i
   · have := d.closed k k1 hk; omega
   · have := (nest k (by omega) (by omega)).2; omega
 · intro t ht
   rcases List.mem_append.1 ht with ht | ht
   · exact d.well t ht
   · obtain rfl : t = c := by simpa using ht
     have := hpart 0 (by omega)
     have e0 : ((0 : Nat) : Int) = 0 := rfl
     rw [e0] at this
     refine ⟨Mz (by omega) ?_, by omega⟩
     rw [this, hlen]; rfl
theorem IA {l : List Fo} (h60 : l.length ≤ 60) (h0 : AJ l 0 = ((l.length : Int), 0)) {n : Nat} : ∀ (m j i : Nat) (out : List (List Fo)), n ≤ j + m → DY l n j i out → HP l i out → HP l l.length (chunks l n 1)
 | 0, j, i, out, hm, p, d => by
   have := p.le
   have hj : j = n := by omega
   rw [p.done hj, ← p.fin hj]; exact d
 | m + 1, j, i, out, hm, p, d => by
   by_cases hj : j < n
   · obtain ⟨q1, q2, q3, q4⟩ := p.next hj
     exact IA h60 h0 m (j + 1) _ _ (by omega) q4 (d.next h60 h0 p.one q1)
   · have := p.le
     have hj : j = n := by omega
     rw [p.done hj, ← p.fin hj]; exact d
theorem RO {l : List Fo} (h : (Ah l).2 = 0) : deep l = 1 + UD (BS l).1 ∧ ∀ t ∈ (BS l).1, (Ah t).2 = 0 ∧ t.length < l.length := by
 obtain ⟨h60, h0, h1, _, _⟩ := Bp (l := l) (es := (Ah l).1) (Prod.ext rfl h)
 have hs : (BS l).1 = chunks l (partsOf l[0].kind).1.toNat 1 := by rw [BS, if_neg (by simpa using h), List.getElem?_eq_getElem h0]; rfl
 have := IA (n := (partsOf l[0].kind).1.toNat) h60 h1 _ 0 1 [] (Nat.le_of_eq (Nat.zero_add _).symm) (DY.start h0 h1) (HP.start h0 h1)
 rw [hs]
 exact ⟨this.mx, this.well⟩

def G0 (k v props : Int) : Int := if k < 8 then 13 else if (k = 13 ∧ (v < 0 ∨ props ≤ v)) ∨ (k ≠ 13 ∧ v ≠ 0) then 2 else 0
abbrev Ao (k : Int) : Prop := 14 ≤ k ∧ k ≤ 18
def II : List Fo → Int → Nat → Int
 | [], _, n => if 6 < n then 1 else 0
 | o :: r, props, n => if G0 o.kind o.val props ≠ 0 then G0 o.kind o.val props else II r props (if Ao o.kind then n + 1 else n)
def DH (l : List Fo) (props : Int) : Int := if props < 0 ∨ 6 < props then 2 else if (Ah l).2 ≠ 0 then (Ah l).2 else II l props 0
theorem LZ (l : List Fo) (i : Nat) (hi : i < l.length) (props : Int) (n : Nat) : II (l.drop i) props n = if G0 l[i].kind l[i].val props ≠ 0 then G0 l[i].kind l[i].val props else II (l.drop (i + 1)) props (if Ao l[i].kind then n + 1 else n) := by
 rw [List.drop_eq_getElem_cons hi]; rfl
theorem Jz (l : List Fo) (i : Nat) (hi : l.length ≤ i) (props : Int) (n : Nat) : II (l.drop i) props n = if 6 < n then 1 else 0 := by
 rw [List.drop_eq_nil_of_le hi]; rfl
def Bq : List Fo → Nat → List Int
 | [], _ => []
 | o :: r, i => if Ao o.kind then (i : Int) :: Bq r (i + 1) else Bq r (i + 1)
def AZ (l : List Fo) (props : Int) : List Int × Int := if DH l props ≠ 0 then ([], DH l props) else (Bq l 0, 0)
theorem GZ (l : List Fo) (i : Nat) (hi : i < l.length) : Bq (l.drop i) i = if Ao l[i].kind then (i : Int) :: Bq (l.drop (i + 1)) (i + 1) else Bq (l.drop (i + 1)) (i + 1) := by
 rw [List.drop_eq_getElem_cons hi]; rfl
theorem Gs (l : List Fo) (i : Nat) (hi : l.length ≤ i) : Bq (l.drop i) i = [] := by
 rw [List.drop_eq_nil_of_le hi]; rfl
end Go.Sp
namespace Go.Proofs.YtibahljljjkceaaGreatDoor
open Go Go.Av Go.Sp

theorem Bg : Cal Tryz.prog 102 := Cal.of Tryz.func102 (by kernel_rfl) (by kernel_rfl)
theorem K2 : Cal Tryz.prog 146 := Cal.of Tryz.func146 (by kernel_rfl) (by kernel_rfl)
theorem GG : Cal Tryz.prog 101 := Cal.of Tryz.func101 (by kernel_rfl) (by kernel_rfl)
theorem Ar : Cal Tryz.prog 117 := Cal.of Tryz.func117 (by kernel_rfl) (by kernel_rfl)
theorem Ce : Cal Tryz.prog 116 := Cal.of Tryz.func116 (by kernel_rfl) (by kernel_rfl)
theorem ahead (G : List (Nat × List D)) (x : Int) : ACr Tryz.prog G 102 [.int x] (.bool (decide (Ao x))) := by
 refine DU (ts := [2]) 9 Tryz.func102 rfl rfl rfl (by simp) fun W I => ?_
 repeat' (first
  | exact True.intro
  | refine stp ?_
  | refine two ?_ ?_
  | (refine imp fun hc => ?_) <;> try exact cx hc
  | refine all fun v_ => ?_)
 all_goals
  ((with_reducible apply rq1); rfl; rfl)
  refine AA (congrArg AV.bool ?_)
  (first | rfl | (refine decide_eq_decide.2 ?_; omega) | (refine (decide_eq_true ?_).symm; omega) | (refine (decide_eq_false ?_).symm; omega) | (refine decide_eq_true ?_; omega) | (refine decide_eq_false ?_; omega))
theorem BQ (G : List (Nat × List D)) (x : Int) : ACr Tryz.prog G 117 [.int x] (.bool (decide (Ao x))) := by
 refine DU (ts := [2]) 5 Tryz.func117 rfl rfl rfl (by simp) fun W I => ?_
 repeat' (first
  | refine ca AL (In _ _ _ _) ?_
  | exact True.intro
  | refine stp ?_
  | refine two ?_ ?_
  | (refine imp fun hc => ?_) <;> try exact cx hc
  | refine all fun v_ => ?_)
 ((with_reducible apply rq1); rfl; rfl)
 exact AA rfl

theorem fits (G : List (Nat × List D)) (a b props : Int) : ACr Tryz.prog G 146 [.agg [.int a, .int b], .int props] (.int (G0 a b props)) := by
 refine AN (ts := [4]) 34 Tryz.func146 rfl rfl rfl (by simp) fun W I => ?_
 repeat' (first
  | refine B6 ?_
  | exact True.intro
  | refine stp ?_
  | refine two ?_ ?_
  | (refine imp fun hc => ?_) <;> try exact cx hc
  | refine all fun v_ => ?_)
 all_goals
  refine AH (VS.drop (List.nil_sublist _)) ?_
  ((with_reducible apply rq1); rfl; rfl)
  refine AA (congrArg AV.int ?_)
  unfold G0
  first
   | (rw [if_pos (by omega)])
   | (rw [if_neg (by omega), if_pos (by omega)])
   | (rw [if_neg (by omega), if_neg (by omega)])

theorem Check (l : List Fo) (props : Int) : ACr Tryz.prog GP 101 [.d (AO l), .int props] (.int (DH l props)) := by
 refine AN (ts := [4]) 45 Tryz.func101 rfl rfl rfl (by simp) fun W I => ?_
 refine Bs (t := 0) rfl fun hl => ?_
 repeat' (first
  | refine ca A3 (Ends _) ?_
  | refine ca K2 (fits _ _ _ _) ?_
  | refine ca Bg (ahead _ _) ?_
  | refine B6 ?_
  | exact True.intro
  | refine stp ?_
  | refine two ?_ ?_
  | (refine imp fun hc => ?_) <;> try exact cx hc
  | refine all fun v_ => ?_)
 all_goals try (
  refine Bi ?_
  ((with_reducible apply rq1); rfl; rfl)
  refine AA (congrArg AV.int ?_)
  unfold DH
  first
   | (rw [if_pos (by omega)])
   | (rw [if_neg (by omega), if_pos (by assumption)]))
 have hs : DH l props = II l props 0 := by
  unfold DH
  rw [if_neg (by omega), if_neg (by assumption)]
 refine AG (X := Nat × Nat) (fun y => [(1, .int props), (25, .d (AO l)), (26, .int l.length), (27, .int y.1), (7, .int y.2)]) (fun _ => []) (fun y => y.1 ≤ l.length ∧ y.2 ≤ y.1 ∧ DH l props = II (l.drop y.1) props y.2) (fun y => l.length - y.1) (0, 0) ⟨Nat.zero_le _, Nat.le_refl _, hs⟩ (VS.of_le ?_) ?_
 · exact leD
 rintro ⟨i, n⟩ ⟨k1, k2, k3⟩
 dsimp only at k1 k2 k3 ⊢
 by_cases hi : i < l.length
 · rw [LZ l i hi] at k3
   repeat' (first
    | refine ca A3 (Ends _) ?_
    | refine ca K2 (fits _ _ _ _) ?_
    | refine ca Bg (ahead _ _) ?_
    | refine B6 ?_
    | exact True.intro
    | refine stp ?_
    | refine two ?_ ?_
    | (refine imp fun hc => ?_) <;> try exact cx hc
    | refine all fun v_ => ?_)
   · refine AH (VS.drop (List.nil_sublist _)) ?_
     ((with_reducible apply rq1); rfl; rfl)
     refine AA (congrArg AV.int ?_)
     rw [k3, if_pos hc]
   all_goals rw [if_neg (by assumption)] at k3
   · rw [if_pos hc] at k3
     refine ⟨(i + 1, n + 1), ⟨by dsimp only; omega, by dsimp only; omega, k3⟩, by dsimp only; omega, vle (List.nil_sublist _) ?_⟩
     exact leD
   · rw [if_neg hc] at k3
     refine ⟨(i + 1, n), ⟨by dsimp only; omega, by dsimp only; omega, k3⟩, by dsimp only; omega, vle (List.nil_sublist _) ?_⟩
     exact leD
 · rw [Jz l i (by omega)] at k3
   repeat' (first
    | refine ca A3 (Ends _) ?_
    | refine ca K2 (fits _ _ _ _) ?_
    | refine ca Bg (ahead _ _) ?_
    | refine B6 ?_
    | exact True.intro
    | refine stp ?_
    | refine two ?_ ?_
    | (refine imp fun hc => ?_) <;> try exact cx hc
    | refine all fun v_ => ?_)
   all_goals
    refine Bi ?_
    ((with_reducible apply rq1); rfl; rfl)
    refine AA (congrArg AV.int ?_)
    rw [k3]
    first
     | rw [if_pos (by omega)]
     | rw [if_neg (by omega)]

theorem Eo (G : List (Nat × List D)) (l : List Fo) (props : Int) : ACr Tryz.prog G 116 [.d (AO l), .int props] (.int (DH l props)) := by
 refine AN (ts := [4]) 59 Tryz.func116 rfl rfl rfl (by simp) fun W I => ?_
 refine Bs (t := 0) rfl fun hl => ?_
 repeat' (first
  | refine ca CX (IS _ _) ?_
  | refine ca AL (In _ _ _ _) ?_
  | refine ca Ar (BQ _ _) ?_
  | exact True.intro
  | refine stp ?_
  | refine two ?_ ?_
  | (refine imp fun hc => ?_) <;> try exact cx hc
  | refine all fun v_ => ?_)
 all_goals try (
  refine Bi ?_
  ((with_reducible apply rq1); rfl; rfl)
  refine AA (congrArg AV.int ?_)
  unfold DH
  first
   | (rw [if_pos (by omega)])
   | (rw [if_neg (by omega), if_pos (by assumption)]))
 have hs : DH l props = II l props 0 := by
  unfold DH
  rw [if_neg (by omega), if_neg (by assumption)]
 refine AG (X := Nat × Nat) (fun y => [(0, .d (AO l)), (1, .int props), (8, .int y.1), (7, .int y.2)]) (fun _ => []) (fun y => y.1 ≤ l.length ∧ y.2 ≤ y.1 ∧ DH l props = II (l.drop y.1) props y.2) (fun y => l.length - y.1) (0, 0) ⟨Nat.zero_le _, Nat.le_refl _, hs⟩ (VS.of_le ?_) ?_
 · exact leD
 rintro ⟨i, n⟩ ⟨k1, k2, k3⟩
 dsimp only at k1 k2 k3 ⊢
 by_cases hi : i < l.length
 · rw [LZ l i hi] at k3
   unfold G0 at k3
   repeat' (first
    | refine ca CX (IS _ _) ?_
    | refine ca AL (In _ _ _ _) ?_
    | refine ca Ar (BQ _ _) ?_
    | exact True.intro
    | refine stp ?_
    | refine two ?_ ?_
    | (refine imp fun hc => ?_) <;> try exact cx hc
    | refine all fun v_ => ?_)
   all_goals first
    | (refine Bi ?_
       ((with_reducible apply rq1); rfl; rfl)
       refine AA (congrArg AV.int ?_)
       rw [k3]
       first
        | (rw [if_pos (by rw [if_pos (by omega)]; decide), if_pos (by omega)])
        | (rw [if_pos (by rw [if_neg (by omega), if_pos (by omega)]; decide), if_neg (by omega), if_pos (by omega)]))
    | (rw [if_neg (by rw [if_neg (by omega), if_neg (by omega)]; decide)] at k3
       first
        | (rw [if_pos (by assumption)] at k3
           refine ⟨(i + 1, n + 1), ⟨by dsimp only; omega, by dsimp only; omega, k3⟩, by dsimp only; omega, VS.of_le ?_⟩
           exact leD)
        | (rw [if_neg (by assumption)] at k3
           refine ⟨(i + 1, n), ⟨by dsimp only; omega, by dsimp only; omega, k3⟩, by dsimp only; omega, VS.of_le ?_⟩
           exact leD))
 · rw [Jz l i (by omega)] at k3
   repeat' (first
    | refine ca CX (IS _ _) ?_
    | refine ca AL (In _ _ _ _) ?_
    | refine ca Ar (BQ _ _) ?_
    | exact True.intro
    | refine stp ?_
    | refine two ?_ ?_
    | (refine imp fun hc => ?_) <;> try exact cx hc
    | refine all fun v_ => ?_)
   all_goals
    refine Bi ?_
    ((with_reducible apply rq1); rfl; rfl)
    refine AA (congrArg AV.int ?_)
    rw [k3]
    first
     | rw [if_pos (by omega)]
     | rw [if_neg (by omega)]
end Go.Proofs.YtibahljljjkceaaGreatDoor
namespace Go.Sp
open Go.Av

abbrev okP (k : Int) : Prop := 1 ≤ k ∧ k ≤ 12
abbrev De (k : Int) : Prop := 6 ≤ k ∧ k ≤ 12
abbrev Hh (k : Int) : Prop := 8 ≤ k ∧ k ≤ 12
def opZ (k v vars : Int) : Int :=
 if ¬ okP k then 13
 else if (k = 1 ∧ (v < -1000 ∨ 1000 < v)) ∨ (k = 2 ∧ (v < 0 ∨ vars ≤ v)) ∨ (2 < k ∧ v ≠ 0) then 2 else 0
def Hi : List Fo → Int → Int
 | [], _ => 0
 | o :: r, vars => if opZ o.kind o.val vars ≠ 0 then opZ o.kind o.val vars else Hi r vars
theorem Oc (l : List Fo) (i : Nat) (hi : i < l.length) (vars : Int) : Hi (l.drop i) vars = if opZ l[i].kind l[i].val vars ≠ 0 then opZ l[i].kind l[i].val vars else Hi (l.drop (i + 1)) vars := by
 rw [List.drop_eq_getElem_cons hi]; rfl
theorem PN (l : List Fo) (i : Nat) (hi : l.length ≤ i) (vars : Int) : Hi (l.drop i) vars = 0 := by
 rw [List.drop_eq_nil_of_le hi]; rfl

def AQ (l : List Fo) (i : Nat) : Int := (l[i]?.map Fo.kind).getD 0
theorem An (l : List Fo) (i : Nat) (hi : i < l.length) : AQ l i = l[i].kind := by unfold AQ; rw [List.getElem?_eq_getElem hi]; rfl
def Co (l : List Fo) : Nat → Nat → List Nat
 | 0, _ => []
 | k + 1, i => i :: Co l k (AJ l i).1.toNat
abbrev HU (l : List Fo) (at_ p : Nat) : Prop := (De (AQ l p) ↔ Hh (AQ l at_))
abbrev LA (l : List Fo) (at_ : Nat) : Prop := ∀ p ∈ Co l (partsOf (AQ l at_)).1.toNat (at_ + 1), HU l at_ p
abbrev C2 (l : List Fo) : Prop := ∀ i, i < l.length → LA l i

structure Dw (l : List Fo) (n j i e : Nat) : Prop where
 le : j ≤ n
 upto : i ≤ e
 more : j < n → scan (l.drop i) ((n - j : Nat) : Int) i = ((e : Int), 0)
 fin : j = n → i = e
theorem Dw.start {l : List Fo} {i : Nat} (hi : i < l.length) (h : (AJ l i).2 = 0) : Dw l (partsOf l[i].kind).1.toNat 0 (i + 1) (AJ l i).1.toNat := by
 have hb := Al l i h
 have h' := FT l i hi
 have hp := Bn l[i].kind
 by_cases h1 : (partsOf l[i].kind).2 ≠ 0
 · rw [if_pos h1] at h'; rw [h'] at h; exact absurd h h1
 rw [if_neg h1] at h'
 refine ⟨Nat.zero_le _, by omega, fun h2 => ?_, fun h2 => ?_⟩
 · rw [if_neg (by omega)] at h'
   have e : (1 : Int) + (partsOf l[i].kind).1 - (1 : Int) = (((partsOf l[i].kind).1.toNat - 0 : Nat) : Int) := by omega
   have e2 : ((i + 1 : Nat) : Int) = (i : Int) + 1 := by omega
   rw [e2, ← e, ← h']
   refine Prod.ext ?_ ?_
   · dsimp only; omega
   · exact h
 · rw [if_pos (by omega)] at h'
   rw [h']; dsimp only; omega
theorem Dw.next {l : List Fo} {n j i e : Nat} (p : Dw l n j i e) (hj : j < n) : (AJ l i).2 = 0 ∧ (i : Int) < (AJ l i).1 ∧ (AJ l i).1 ≤ e ∧ Dw l n (j + 1) (AJ l i).1.toNat e := by
 obtain ⟨k1, k2, k3, k4, k5⟩ := Kn (by omega) (p.more hj)
 have hle := (Ly (by omega) (p.more hj)).2
 refine ⟨k1, k2, hle, by omega, by omega, fun h => ?_, fun h => ?_⟩
 · have := k5 (by omega)
   rwa [show n - j - 1 = n - (j + 1) by omega] at this
 · have := k4 (by omega)
   omega
theorem Dw.lt {l : List Fo} {n j i e : Nat} (p : Dw l n j i e) : j < n ↔ i < e := by
 constructor
 · intro h
   have := p.next h
   omega
 · intro h
   have := p.le
   have := p.fin
   omega

theorem Po {l : List Fo} {i : Nat} (h : (AJ l i).2 = 0) : ∀ (n j p e : Nat), Dw l n j (i + p) e → (e : Int) ≤ (AJ l i).1 →
 Co l (n - j) (i + p) = (Co ((l.drop i).take ((AJ l i).1.toNat - i)) (n - j) p).map (i + ·) := by
 intro n j
 induction hk : n - j generalizing j with
 | zero => intro p e w he; rfl
 | succ k ih =>
   intro p e w he
   obtain ⟨q1, q2, q3, q4⟩ := w.next (by omega)
   have hp := Kd h p (by omega)
   simp only [Co, List.map_cons]
   congr 1
   rw [hp]
   have e1 : (AJ l (i + p : Nat)).1.toNat = i + ((AJ l (i + p : Nat)).1 - i).toNat := by omega
   have q4' := q4
   rw [e1] at q4'
   have := ih (j + 1) (by omega) _ e q4' he
   rw [← this, ← e1]
theorem Fz {l : List Fo} {i : Nat} (p m : Nat) (hp : p < m) : AQ ((l.drop i).take m) p = AQ l (i + p) := by
 unfold AQ
 rw [List.getElem?_take, if_pos hp, List.getElem?_drop]
theorem Tc {l : List Fo} : ∀ (n j i e : Nat), Dw l n j i e → ∀ p ∈ Co l (n - j) i, i ≤ p ∧ p < e := by
 intro n j
 induction hk : n - j generalizing j with
 | zero => intro i e w p hp; simp [Co] at hp
 | succ k ih =>
   intro i e w p hp
   obtain ⟨q1, q2, q3, q4⟩ := w.next (by omega)
   simp only [Co, List.mem_cons] at hp
   rcases hp with rfl | hp
   · omega
   · have := ih (j + 1) (by omega) _ e q4 p hp
     omega
theorem Mo {l : List Fo} {i : Nat} (h : (AJ l i).2 = 0) (p : Nat) (hp : (i : Int) + p < (AJ l i).1) : LA ((l.drop i).take ((AJ l i).1.toNat - i)) p ↔ LA l (i + p) := by
 have hb := Al l i h
 have hlt : i + p < l.length := by omega
 have hs : scan (l.drop i) 1 i = ((AJ l i).1, 0) := by
  have he' : AJ l i = scan (l.drop i) 1 i := by unfold AJ; rw [Int.toNat_natCast]
  rw [← he']; exact Prod.ext rfl h
 obtain ⟨n1, n2⟩ := Dl l l.length i 1 _ (by omega) (by omega) hs (i + p) (by omega) (by omega)
 have hk : AQ ((l.drop i).take ((AJ l i).1.toNat - i)) p = AQ l (i + p) := Fz p _ (by omega)
 have w := Dw.start hlt n1
 rw [← An l (i + p) hlt] at w
 have e1 : i + p + 1 = i + (p + 1) := by omega
 rw [e1] at w
 have hst := Po h _ 0 (p + 1) _ w (by omega)
 have hlts := Tc _ 0 _ _ w
 simp only [Nat.sub_zero] at hst hlts
 unfold LA
 rw [hk, e1]
 rw [hst] at hlts ⊢
 have key : ∀ q, q ∈ Co ((l.drop i).take ((AJ l i).1.toNat - i)) (partsOf (AQ l (i + p))).1.toNat (p + 1) → (HU ((l.drop i).take ((AJ l i).1.toNat - i)) p q ↔ HU l (i + p) (i + q)) := by
  intro q hq
  have := hlts (i + q) (List.mem_map.2 ⟨q, hq, rfl⟩)
  unfold HU
  rw [hk, Fz q _ (by omega)]
 constructor
 · intro H q hq
   obtain ⟨q', hq', rfl⟩ := List.mem_map.1 hq
   exact (key q' hq').1 (H q' hq')
 · intro H q hq
   exact (key q hq).2 (H _ (List.mem_map.2 ⟨q, hq, rfl⟩))
structure Hy (l : List Fo) (n j i : Nat) (out : List (List Fo)) : Prop where
 here : LA l 0 ↔ ((∀ t ∈ out, (De (AQ t 0) ↔ Hh (AQ l 0))) ∧ ∀ p ∈ Co l (n - j) i, HU l 0 p)
 below : (∀ q, 1 ≤ q → q < i → LA l q) ↔ ∀ t ∈ out, C2 t
theorem Hy.next {l : List Fo} {n j i : Nat} {out : List (List Fo)} (p : DY l n j i out) (d : Hy l n j i out) (hj : j < n) : Hy l n (j + 1) (AJ l i).1.toNat (out ++ [(l.drop i).take ((AJ l i).1.toNat - i)]) := by
 obtain ⟨q1, q2, q3, q4⟩ := p.next hj
 have hlen := Fp q1
 have hk : AQ ((l.drop i).take ((AJ l i).1.toNat - i)) 0 = AQ l (i + 0) := Fz 0 _ (by omega)
 have hty := fun q hq => Mo q1 q hq
 generalize hc : (l.drop i).take ((AJ l i).1.toNat - i) = c at hlen hk hty ⊢
 constructor
 · rw [d.here]
   have e : n - j = (n - (j + 1)) + 1 := by omega
   rw [e]
   simp only [Co, List.mem_cons, List.mem_append, List.not_mem_nil, or_false]
   constructor
   · rintro ⟨h1, h2⟩
     refine ⟨fun t ht => ?_, fun q hq => h2 q (.inr hq)⟩
     rcases ht with ht | rfl
     · exact h1 t ht
     · have := h2 i (.inl rfl)
       rw [hk]; exact this
   · rintro ⟨h1, h2⟩
     refine ⟨fun t ht => h1 t (.inl ht), fun q hq => ?_⟩
     rcases hq with rfl | hq
     · have := h1 c (.inr rfl)
       rw [hk] at this; exact this
     · exact h2 q hq
 · constructor
   · intro H t ht
     rcases List.mem_append.1 ht with ht | ht
     · exact d.below.1 (fun q h1 h2 => H q h1 (by omega)) t ht
     · obtain rfl : t = c := by simpa using ht
       intro q hq
       have := p.one
       exact (hty q (by omega)).2 (H (i + q) (by omega) (by omega))
   · intro H q h1 h2
     by_cases hq : q < i
     · exact d.below.2 (fun t ht => H t (List.mem_append.2 (.inl ht))) q h1 hq
     · have := (hty (q - i) (by omega)).1 (H c (List.mem_append.2 (.inr (by simp))) (q - i) (by omega))
       rwa [show i + (q - i) = q by omega] at this
theorem PC {l : List Fo} (h : (Ah l).2 = 0) : C2 l ↔ ∀ t ∈ (BS l).1, (De (AQ t 0) ↔ Hh (AQ l 0)) ∧ C2 t := by
 obtain ⟨h60, h0, h1, _, _⟩ := Bp (l := l) (es := (Ah l).1) (Prod.ext rfl h)
 have hs : (BS l).1 = chunks l (partsOf l[0].kind).1.toNat 1 := by rw [BS, if_neg (by simpa using h), List.getElem?_eq_getElem h0]; rfl
 have key : ∀ (m j i : Nat) (out : List (List Fo)), (partsOf l[0].kind).1.toNat ≤ j + m → DY l (partsOf l[0].kind).1.toNat j i out → Hy l (partsOf l[0].kind).1.toNat j i out →
  Hy l (partsOf l[0].kind).1.toNat (partsOf l[0].kind).1.toNat l.length (chunks l (partsOf l[0].kind).1.toNat 1) := by
  intro m
  induction m with
  | zero =>
    intro j i out hm p d
    have := p.le
    have hj : j = (partsOf l[0].kind).1.toNat := by omega
    have hfin := p.fin hj
    rw [p.done hj, ← hfin]; subst hj; exact d
  | succ m ih =>
    intro j i out hm p d
    by_cases hj : j < (partsOf l[0].kind).1.toNat
    · obtain ⟨q1, q2, q3, q4⟩ := p.next hj
      exact ih (j + 1) _ _ (by omega) q4 (d.next p hj)
    · have := p.le
      have hj : j = (partsOf l[0].kind).1.toNat := by omega
      have hfin := p.fin hj
      rw [p.done hj, ← hfin]; subst hj; exact d
 have d0 : Hy l (partsOf l[0].kind).1.toNat 0 1 [] := ⟨by unfold LA; rw [An l 0 h0]; simp, by
  constructor
  · intro _ t ht; simp at ht
  · intro _ q h1 h2; omega⟩
 have d := key _ 0 1 [] (Nat.le_of_eq (Nat.zero_add _).symm) (DY.start h0 h1) d0
 rw [hs]
 have hh := d.here
 rw [Nat.sub_self] at hh
 simp only [Co, List.not_mem_nil, false_implies, implies_true, and_true] at hh
 constructor
 · intro H t ht
   exact ⟨hh.1 (H 0 h0) t ht, d.below.1 (fun q _ h2 => H q h2) t ht⟩
 · intro H i hi
   by_cases h : i = 0
   · subst h; exact hh.2 fun t ht => (H t ht).1
   · exact d.below.2 (fun t ht => (H t ht).2) i (by omega) hi
def Hq (l : List Fo) : Int := if C2 l then 0 else 5
def CY (l : List Fo) (vars : Int) : Bool × Int :=
 if vars < 0 ∨ 6 < vars then (false, 2)
 else if (Ah l).2 ≠ 0 then (false, (Ah l).2)
 else if Hi l vars ≠ 0 then (false, Hi l vars)
 else if C2 l then (decide (De (AQ l 0)), 0) else (false, 5)
end Go.Sp
