/- Own texts. -/
import Derived.Test.YtnlfhnbcdfdhgaaGreatDoorA17
set_option linter.unusedVariables false
set_option linter.unusedSimpArgs false
set_option maxRecDepth 100000
set_option maxHeartbeats 4000000
namespace Go.Proofs.YtnlfhnbcdfdhgaaGreatDoor
open Go Go.Av Go.Sp
theorem Ce : Cal Tryz.prog 127 := Cal.of Tryz.func127 (by kernel_rfl) (by kernel_rfl)
theorem CY : Cal Tryz.prog 128 := Cal.of Tryz.func128 (by kernel_rfl) (by kernel_rfl)
theorem BN : Cal Tryz.prog 78 := Cal.of Tryz.func78 (by kernel_rfl) (by kernel_rfl)
theorem Bj : Cal Tryz.prog 118 := Cal.of Tryz.func118 (by kernel_rfl) (by kernel_rfl)
theorem BG : Cal Tryz.prog 155 := Cal.of Tryz.func155 (by kernel_rfl) (by kernel_rfl)
theorem Aw : Cal Tryz.prog 109 := Cal.of Tryz.func109 (by kernel_rfl) (by kernel_rfl)
theorem VU (G : List (Nat × List D)) (out : List Bool) (n : Nat) (hb : out.length ≤ 60) (h : n + 1 < out.length) : ACr Tryz.prog G 127 [.pd [Ap out], .pd [.i .i64 n]] (.bool out[n + 1]) := by
 refine Cz (ts := [2]) 8 Tryz.func127 rfl rfl rfl (by simp) fun W I => ?_
 repeat' (first | exact jA | refine stp ?_ | refine two ?_ ?_ | refine imp fun hc => ?_; try exact cx hc | refine all fun v_ => ?_)
 ((with_reducible apply rq1); rfl; rfl)
 exact AA rfl
theorem dA (G : List (Nat × List D)) (out : List Bool) (es : List Int) (n : Nat) (hb : es.length ≤ 60) (h : n + 1 < es.length) (h0 : 0 ≤ es[n + 1]) (h1 : es[n + 1].toNat < out.length) : ACr Tryz.prog G 128 [.pd [Ap out], .pd [AJ es], .pd [.i .i64 n]] (.bool out[es[n + 1].toNat]) := by
 refine Cz (ts := [3]) 12 Tryz.func128 rfl rfl rfl (by simp) fun W I => ?_
 repeat' (first | exact jA | refine stp ?_ | refine two ?_ ?_ | refine imp fun hc => ?_; try exact cx hc | refine all fun v_ => ?_)
 ((with_reducible apply rq1); rfl; rfl)
 exact AA rfl
theorem Wv {p q : Prop} (hp : p) (h : p → q := by
 apply cmp; (focus (first
  | ((with_reducible apply GR); rfl; exact Fa; (focus exact AM _ _ _ jB jB); rfl)
  | ((with_reducible apply Cs); rfl; decide +kernel; rfl; exact Fa; (focus exact AM _ _ _ jB jB); rfl)
  ))
 exact fun h => h) : q := h hp
theorem Kg (G : List (Nat × List D)) (l : List Fo) (i : Nat) (hi : i ≤ 1000) : ACr Tryz.prog G 118 [.d (AO l), .int i] (.int (Sp.AM l (i + 1 : Nat)).1) := by
 refine Cz (ts := [4]) 15 Tryz.func118 rfl rfl rfl (by simp) fun W I => ?_
 repeat' (first | refine Wv ?_ | exact jA | refine stp ?_ | refine two ?_ ?_ | refine imp fun hc => ?_; try exact cx hc | refine all fun v_ => ?_)
 ((with_reducible apply rq1); rfl; rfl)
 exact AA rfl
theorem dq {j : Nat} (h : j ≤ 6) : 1 ≤ (2 : Int) ^ j ∧ (2 : Int) ^ j ≤ 64 := by
 have : j = 0 ∨ j = 1 ∨ j = 2 ∨ j = 3 ∨ j = 4 ∨ j = 5 ∨ j = 6 := by omega
 rcases this with h | h | h | h | h | h | h <;> subst h <;> decide
theorem Zr (c : Int) (j : Nat) : c / 2 ^ j / 2 = c / 2 ^ (j + 1) := by
 rw [Int.ediv_ediv_of_nonneg (by exact_mod_cast Nat.zero_le _), Int.pow_succ]
theorem Ea {p q : Prop} (hp : p) (h : p → q := by
 apply cmp; (focus (first
  | ((with_reducible apply GR); rfl; exact Bj; (focus exact Kg _ _ _ jB); rfl)
  | ((with_reducible apply Cs); rfl; decide +kernel; rfl; exact Bj; (focus exact Kg _ _ _ jB); rfl)
  ))
 exact fun h => h) : q := h hp
set_option maxHeartbeats 1000000 in
theorem Vx (G : List (Nat × List D)) (l : List Fo) (x : List Bool) (c : Int) (g : OD l x.length) (h0 : 0 ≤ c) (hc1 : c ≤ 1000000) : ∀ (m i : Nat), l.length ≤ i + m → i < l.length →
 ACr Tryz.prog G 155 [.d (AO l), .int i, .d (Ap x), .d (AJ (By l 0)), .int c] (.bool (tAt l x c i)) := by
 intro m
 induction m with
 | zero => intro i h1 h2; omega
 | succ m ih =>
   intro i hm hi
   have h60 := g.h60
   have hk := g.kind i hi
   have ht := Yp l x c i hi
   unfold Sp.stepT at ht
   rw [Aq l i hi, Ex l i hi] at ht
   refine AK (ts := [10]) 96 Tryz.func155 rfl rfl rfl (by simp) fun W I => ?_
   refine Bn (t := 0) rfl fun hl0 => ?_
   refine Bn (t := 2) rfl fun hl2 => ?_
   by_cases hA : l[i].kind = 13 ∨ l[i].kind = 11 ∨ l[i].kind = 12
   · have hv := g.prop i hi
     by_cases hk13 : l[i].kind = 13
     · obtain ⟨v0, v1⟩ := hv hk13
       repeat' (first | refine ca BG (ih1) ?_ | refine ca BG (ih2) ?_ | refine Ea ?_ | exact jA | refine stp ?_ | refine two ?_ ?_ | refine imp fun hc => ?_; try exact cx hc | refine all fun v_ => ?_)
       refine A0 ?_
       ((with_reducible apply rq1); rfl; rfl)
       refine AA (congrArg AV.bool ?_)
       rw [ht, if_pos hk13, List.getElem?_eq_getElem jB]; rfl
     repeat' (first | refine ca BG (ih1) ?_ | refine ca BG (ih2) ?_ | refine Ea ?_ | exact jA | refine stp ?_ | refine two ?_ ?_ | refine imp fun hc => ?_; try exact cx hc | refine all fun v_ => ?_)
     all_goals
      refine A0 ?_
      ((with_reducible apply rq1); rfl; rfl)
      refine AA (congrArg AV.bool ?_)
      rw [ht, if_neg hk13]
      first
       | (rw [if_pos jB])
       | (rw [if_neg jB, if_pos jB])
   by_cases hB : l[i].kind = 10
   · obtain ⟨q1, q2, q3, q4, q5⟩ := DY hi (g.well i hi) (by rw [hB]; decide)
     have ih1 : ACr Tryz.prog G 155 [.d (AO l), .int ((i : Int) + 1), .d (Ap x), .d (AJ (By l 0)), .int c] (.bool (tAt l x c (i + 1))) := ih (i + 1) jB q1
     have ih2 := ih1
     repeat' (first | refine ca BG (ih1) ?_ | refine ca BG (ih2) ?_ | refine Ea ?_ | exact jA | refine stp ?_ | refine two ?_ ?_ | refine imp fun hc => ?_; try exact cx hc | refine all fun v_ => ?_)
     refine A0 ?_
     ((with_reducible apply rq1); rfl; rfl)
     refine AA (congrArg AV.bool ?_)
     rw [ht, if_neg jB, if_neg jB, if_neg jB, if_pos hB]
   by_cases hC : l[i].kind = 8 ∨ l[i].kind = 9
   · obtain ⟨q1, q2, q3, q4, q5⟩ := DY hi (g.well i hi) (by rcases hC with h | h <;> rw [h] <;> decide)
     obtain ⟨r1, r2⟩ := D9 hi (g.well i hi) (by rcases hC with h | h <;> rw [h] <;> decide)
     have ih1 : ACr Tryz.prog G 155 [.d (AO l), .int ((i : Int) + 1), .d (Ap x), .d (AJ (By l 0)), .int c] (.bool (tAt l x c (i + 1))) := ih (i + 1) jB q1
     have ih2 : ACr Tryz.prog G 155 [.d (AO l), .int (Sp.AM l (i + 1 : Nat)).1, .d (Ap x), .d (AJ (By l 0)), .int c] (.bool (tAt l x c (second l i))) := by
      rw [q4]; exact ih (second l i) jB r1
     rw [if_pos (show i < second l i by omega), if_neg jB, if_neg jB, if_neg jB, if_neg jB] at ht
     generalize tAt l x c (i + 1) = A at ih1 ht
     generalize tAt l x c (second l i) = B at ih2 ht
     repeat' (first | refine ca BG (ih1) ?_ | refine ca BG (ih2) ?_ | refine Ea ?_ | exact jA | refine stp ?_ | refine two ?_ ?_ | refine imp fun hc => ?_; try exact cx hc | refine all fun v_ => ?_)
     all_goals
      refine A0 ?_
      ((with_reducible apply rq1); rfl; rfl)
      refine AA (congrArg AV.bool ?_)
      rw [ht]
      first
       | (rw [if_pos jB]; simp_all)
       | (rw [if_neg jB, if_pos jB]; simp_all)
   have hah : Ay l[i].kind := by unfold Ay; omega
   rw [if_neg jB, if_neg jB, if_neg jB, if_neg jB, if_neg jB, if_neg jB] at ht
   have hlen := Dw (l := l)
   have hr6 := g.ah
   have hat := Iu l i hi (by rw [Aq l i hi]; exact hah) l.length 0 jB (Nat.zero_le _)
   simp only [BU, Nat.sub_zero, List.drop_zero] at hat
   have hrl := (List.getElem?_eq_some_iff.1 hat).1
   have ih1 := True.intro
   have ih2 := True.intro
   repeat' (first | refine ca BG (ih1) ?_ | refine ca BG (ih2) ?_ | refine Ea ?_ | exact jA | refine stp ?_ | refine two ?_ ?_ | refine imp fun hc => ?_; try exact cx hc | refine all fun v_ => ?_)
   refine AG (X := Nat × Int) (fun y => [(1, .int i), (3, .d (AJ (By l 0))), (4, .int y.2), (13, .int y.1)]) (fun _ => []) (fun y => y.1 ≤ BU l i ∧ y.2 = c / 2 ^ y.1 ∧ 0 ≤ y.2 ∧ y.2 ≤ 1000000) (fun y => BU l i - y.1) (0, c) ⟨Nat.zero_le _, by simp, h0, hc1⟩ (VS.of_le ?_) ?_
   · exact leD
   rintro ⟨j, d⟩ ⟨k1, k2, k3, k4⟩
   dsimp only at k1 k2 k3 k4 ⊢
   by_cases hj : j = BU l i
   · have hgj : (By l 0)[j] = (i : Int) := by
      subst hj
      rw [List.getElem?_eq_getElem jB] at hat
      exact Option.some.inj hat
     repeat' (first | refine ca BG (ih1) ?_ | refine ca BG (ih2) ?_ | refine Ea ?_ | exact jA | refine stp ?_ | refine two ?_ ?_ | refine imp fun hc => ?_; try exact cx hc | refine all fun v_ => ?_)
     refine A0 ?_
     ((with_reducible apply rq1); rfl; rfl)
     refine AA (congrArg AV.bool ?_)
     rw [ht, eO, ← hj, ← k2]
   · have hgj : (By l 0)[j] ≠ (i : Int) := by
      intro e
      obtain ⟨q, z1, z2, z3, z4, z5⟩ := NK l l.length 0 jB j (i : Int) (by rw [List.drop_zero, List.getElem?_eq_getElem jB, e])
      have : q = i := by omega
      subst this
      simp only [BU] at z5
      omega
     have hh := Zr c j
     rw [← k2] at hh
     repeat' (first | refine ca BG (ih1) ?_ | refine ca BG (ih2) ?_ | refine Ea ?_ | exact jA | refine stp ?_ | refine two ?_ ?_ | refine imp fun hc => ?_; try exact cx hc | refine all fun v_ => ?_)
     refine ⟨(j + 1, d / 2), ⟨by dsimp only; omega, hh, jC, jC⟩, jC, VS.of_le ?_⟩
     exact leD
theorem Gw {p q : Prop} (hp : p) (h : p → q := by
 apply cmp; (focus (first
  | ((with_reducible apply GR); rfl; exact BG; (focus exact Vx _ _ _ _ g hc0 jB l.length _ jB jB); rfl)
  | ((with_reducible apply Cs); rfl; decide +kernel; rfl; exact BG; (focus exact Vx _ _ _ _ g hc0 jB l.length _ jB jB); rfl)
  ))
 exact fun h => h) : q := h hp
theorem Ir (G : List (Nat × List D)) (l : List Fo) (x : List Bool) (c : Int) : ACr Tryz.prog G 109 [.d (AO l), .d (Ap x), .int c] (.tup [.d (Ap (A2 l x c).1), .int (A2 l x c).2]) := by
 have hA := Qe G l x.length
 generalize he : Ac l x.length = p at hA
 obtain ⟨ps, e⟩ := p
 refine AK (ts := [6, 7]) 55 Tryz.func109 rfl rfl rfl (by simp) fun W I => ?_
 refine Bn (t := 0) rfl fun hl0 => ?_
 refine Bn (t := 1) rfl fun hl1 => ?_
 have g := True.intro
 have hc0 := True.intro
 repeat' (first | refine ca Ch (hA) ?_ | refine ca AN (In _ _ _ _) ?_ | refine Gw ?_ | exact jA | refine stp ?_ | refine two ?_ ?_ | refine imp fun hc => ?_; try exact cx hc | refine all fun v_ => ?_)
 · refine AI (Cj (t := 6) 1 1 rfl) ?_
   ((with_reducible apply rq2); rfl; rfl; rfl)
   refine AA ?_
   rw [A2, he, if_pos hc]; rfl
 have e0 : e = 0 := by simpa using hc
 subst e0
 obtain ⟨hF, hps⟩ := Ip he
 clear g hc0
 have g := Hf hF
 have h60 := g.h60
 have hpl : ps.length ≤ 6 := by rw [hps, Dw]; exact g.ah
 have hs : A2 l x c = if c < 0 ∨ 2 ^ ps.length ≤ c then ([], 2) else ((List.range l.length).map (tAt l x c), 0) := by
  rw [A2, he]; rfl
 refine Dn (X := Nat) (fun j => [(0, .d (AO l)), (1, .d (Ap x)), (2, .int c), (8, .d (AJ ps)), (10, .int (2 ^ j)), (11, .int j)]) (fun _ => []) (fun j => j ≤ ps.length) (fun j => ps.length - j) 0 (Nat.zero_le _) ?_ rfl ?_
 · exact leD
 rintro j hj
 have hp6 := dq (j := j) jB
 by_cases hjl : j < ps.length
 · repeat' (first | refine ca Ch (hA) ?_ | refine ca AN (In _ _ _ _) ?_ | refine Gw ?_ | exact jA | refine stp ?_ | refine two ?_ ?_ | refine imp fun hc => ?_; try exact cx hc | refine all fun v_ => ?_)
   refine ⟨j + 1, by omega, by omega, ?_, rfl⟩
   have := Int.pow_succ 2 j
   exact leD
 have hj2 : j = ps.length := by omega
 by_cases hcr : c < 0 ∨ 2 ^ j ≤ c
 · have hc0 := True.intro
   repeat' (first | refine ca Ch (hA) ?_ | refine ca AN (In _ _ _ _) ?_ | refine Gw ?_ | exact jA | refine stp ?_ | refine two ?_ ?_ | refine imp fun hc => ?_; try exact cx hc | refine all fun v_ => ?_)
   refine AI (Cj (t := 6) 1 1 rfl) ?_
   ((with_reducible apply rq2); rfl; rfl; rfl)
   refine AA ?_
   rw [hs, if_pos (by rw [← hj2]; exact hcr)]; rfl
 have hc0 : 0 ≤ c := by omega
 repeat' (first | refine ca Ch (hA) ?_ | refine ca AN (In _ _ _ _) ?_ | refine Gw ?_ | exact jA | refine stp ?_ | refine two ?_ ?_ | refine imp fun hc => ?_; try exact cx hc | refine all fun v_ => ?_)
 subst hps
 refine Db (E := 4) (sz := 1) IA ?_
 refine Dn (X := Nat × Value) (fun y => [(0, .d (AO l)), (1, .d (Ap x)), (2, .int c), (8, .d (AJ (By l 0))), (12, .val y.2), (13, .int y.1)]) (fun y => [AL y.2 4 1 IA ((List.range y.1).map (tAt l x c))]) (fun y => y.1 ≤ l.length) (fun y => l.length - y.1) (0, .slice none 0 0) (Nat.zero_le _) ?_ rfl ?_
 · exact leD
 rintro ⟨i, v⟩ h1
 dsimp only at h1 ⊢
 have hlen : ((List.range i).map (tAt l x c)).length = i := by simp
 repeat' (first | refine ca Ch (hA) ?_ | refine ca AN (In _ _ _ _) ?_ | refine Gw ?_ | exact jA | refine stp ?_ | refine two ?_ ?_ | refine imp fun hc => ?_; try exact cx hc | refine all fun v_ => ?_)
 · refine ⟨(i + 1, v_), jC, jC, ?_, ?_⟩
   · exact leD
   · dsimp only
     rw [List.range_succ, List.map_append]; rfl
 · refine AI (Bq (t := 6) (eb := 1) rfl rfl (fun x => rfl) (by rw [hlen]; omega)) ?_
   ((with_reducible apply rq2); rfl; rfl; rfl)
   refine AA ?_
   have : i = l.length := by omega
   rw [hs, if_neg (by rw [← hj2]; exact hcr), this]
end Go.Proofs.YtnlfhnbcdfdhgaaGreatDoor
