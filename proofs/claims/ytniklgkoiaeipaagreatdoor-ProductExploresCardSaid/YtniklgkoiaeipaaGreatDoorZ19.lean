/- A bundle of this claim's own texts: T10. -/
import Derived.Test.YtniklgkoiaeipaaGreatDoorZ9
import Derived.Test.YtniklgkoiaeipaaGreatDoorZ17
namespace Go.Proofs.YtniklgkoiaeipaaGreatDoor
open Go Go.Av Go.Sp
set_option linter.unusedVariables false
set_option linter.unusedSimpArgs false
set_option maxRecDepth 100000
set_option maxHeartbeats 4000000

theorem cal_Truths1 : Cal Tryz.prog 132 := Cal.of Tryz.func132 (by kernel_rfl) (by kernel_rfl)
theorem cal_Truths2 : Cal Tryz.prog 133 := Cal.of Tryz.func133 (by kernel_rfl) (by kernel_rfl)
theorem cal_Truths : Cal Tryz.prog 87 := Cal.of Tryz.func87 (by kernel_rfl) (by kernel_rfl)
theorem cal_secondAt : Cal Tryz.prog 104 := Cal.of Tryz.func104 (by kernel_rfl) (by kernel_rfl)
theorem cal_truthAt : Cal Tryz.prog 143 := Cal.of Tryz.func143 (by kernel_rfl) (by kernel_rfl)
theorem cal_TruthsOf : Cal Tryz.prog 97 := Cal.of Tryz.func97 (by kernel_rfl) (by kernel_rfl)
theorem Truths1 (G : List (Nat × List D)) (out : List Bool) (n : Nat) (hb : out.length ≤ 60) (h : n + 1 < out.length) : ACr Tryz.prog G 132 [.pd [boolsD out], .pd [.i .i64 n]] (.bool out[n + 1]) := by
 refine AC_of (ts := [2]) 8 Tryz.func132 rfl rfl rfl (by simp) fun W I => ?_
 repeat' (first
  | exact True.intro
  | refine stp ?_
  | refine two ?_ ?_
  | (refine imp fun hc => ?_) <;> try exact cx hc
  | refine all fun v_ => ?_)
 ((with_reducible apply rq1); rfl; rfl)
 exact ret_eq rfl
theorem Truths2 (G : List (Nat × List D)) (out : List Bool) (es : List Int) (n : Nat) (hb : es.length ≤ 60) (h : n + 1 < es.length) (h0 : 0 ≤ es[n + 1]) (h1 : es[n + 1].toNat < out.length) : ACr Tryz.prog G 133 [.pd [boolsD out], .pd [intsD es], .pd [.i .i64 n]] (.bool out[es[n + 1].toNat]) := by
 refine AC_of (ts := [3]) 12 Tryz.func133 rfl rfl rfl (by simp) fun W I => ?_
 repeat' (first
  | exact True.intro
  | refine stp ?_
  | refine two ?_ ?_
  | (refine imp fun hc => ?_) <;> try exact cx hc
  | refine all fun v_ => ?_)
 ((with_reducible apply rq1); rfl; rfl)
 exact ret_eq rfl
theorem armXT10_1 {p q : Prop} (hp : p) (h : p → q := by
 apply cmp; (focus (first
  | ((with_reducible apply call0); (focus rfl); (focus exact cal_endOf); (focus exact endOf _ _ _ (by omega) (by omega)); (focus rfl))
  | ((with_reducible apply je_call0); (focus rfl); (focus (decide +kernel)); (focus rfl); (focus exact cal_endOf); (focus exact endOf _ _ _ (by omega) (by omega)); (focus rfl))
  ))
 exact fun h => h) : q := h hp
theorem secondAt (G : List (Nat × List D)) (l : List Fo) (i : Nat) (hi : i ≤ 1000) : ACr Tryz.prog G 104 [.d (opsD l), .int i] (.int (Sp.endOf l (i + 1 : Nat)).1) := by
 refine AC_of (ts := [4]) 15 Tryz.func104 rfl rfl rfl (by simp) fun W I => ?_
 repeat' (first
  | refine armXT10_1 ?_
  | exact True.intro
  | refine stp ?_
  | refine two ?_ ?_
  | (refine imp fun hc => ?_) <;> try exact cx hc
  | refine all fun v_ => ?_)
 ((with_reducible apply rq1); rfl; rfl)
 exact ret_eq rfl
theorem pow6 {j : Nat} (h : j ≤ 6) : 1 ≤ (2 : Int) ^ j ∧ (2 : Int) ^ j ≤ 64 := by
 have : j = 0 ∨ j = 1 ∨ j = 2 ∨ j = 3 ∨ j = 4 ∨ j = 5 ∨ j = 6 := by omega
 rcases this with h | h | h | h | h | h | h <;> subst h <;> decide
theorem half_pow (c : Int) (j : Nat) : c / 2 ^ j / 2 = c / 2 ^ (j + 1) := by
 rw [Int.ediv_ediv_of_nonneg (by exact_mod_cast Nat.zero_le _), Int.pow_succ]
theorem armXT10_2 {p q : Prop} (hp : p) (h : p → q := by
 apply cmp; (focus (first
  | ((with_reducible apply call0); (focus rfl); (focus exact cal_truthAt); (focus exact ih1); (focus rfl))
  | ((with_reducible apply je_call0); (focus rfl); (focus (decide +kernel)); (focus rfl); (focus exact cal_truthAt); (focus exact ih1); (focus rfl))
  | ((with_reducible apply call0); (focus rfl); (focus exact cal_truthAt); (focus exact ih2); (focus rfl))
  | ((with_reducible apply je_call0); (focus rfl); (focus (decide +kernel)); (focus rfl); (focus exact cal_truthAt); (focus exact ih2); (focus rfl))
  | ((with_reducible apply call0); (focus rfl); (focus exact cal_secondAt); (focus exact secondAt _ _ _ (by omega)); (focus rfl))
  | ((with_reducible apply je_call0); (focus rfl); (focus (decide +kernel)); (focus rfl); (focus exact cal_secondAt); (focus exact secondAt _ _ _ (by omega)); (focus rfl))
  ))
 exact fun h => h) : q := h hp
set_option maxHeartbeats 1000000 in
theorem truthAt (G : List (Nat × List D)) (l : List Fo) (x : List Bool) (c : Int) (g : GoodF l x.length) (h0 : 0 ≤ c) (hc1 : c ≤ 1000000) : ∀ (m i : Nat), l.length ≤ i + m → i < l.length →
 ACr Tryz.prog G 143 [.d (opsD l), .int i, .d (boolsD x), .d (intsD (aheadL l 0)), .int c] (.bool (tAt l x c i)) := by
 intro m
 induction m with
 | zero => intro i h1 h2; omega
 | succ m ih =>
   intro i hm hi
   have h60 := g.h60
   have hk := g.kind i hi
   have ht := tAt_eq l x c i hi
   unfold Sp.stepT at ht
   rw [kindAt_eq l i hi, valAt_eq l i hi] at ht
   refine AC_ofV (ts := [10]) 96 Tryz.func143 rfl rfl rfl (by simp) fun W I => ?_
   refine jfact (t := 0) rfl fun hl0 => ?_
   refine jfact (t := 2) rfl fun hl2 => ?_
   by_cases hA : l[i].kind = 13 ∨ l[i].kind = 11 ∨ l[i].kind = 12
   · have hv := g.prop i hi
     by_cases hk13 : l[i].kind = 13
     · obtain ⟨v0, v1⟩ := hv hk13
       repeat' (first
        | refine armXT10_2 ?_
        | exact True.intro
        | refine stp ?_
        | refine two ?_ ?_
        | (refine imp fun hc => ?_) <;> try exact cx hc
        | refine all fun v_ => ?_)
       refine retv0 ?_
       ((with_reducible apply rq1); rfl; rfl)
       refine ret_eq (congrArg AV.bool ?_)
       rw [ht, if_pos hk13, List.getElem?_eq_getElem (by omega)]; rfl
     repeat' (first
      | refine armXT10_2 ?_
      | exact True.intro
      | refine stp ?_
      | refine two ?_ ?_
      | (refine imp fun hc => ?_) <;> try exact cx hc
      | refine all fun v_ => ?_)
     all_goals
      refine retv0 ?_
      ((with_reducible apply rq1); rfl; rfl)
      refine ret_eq (congrArg AV.bool ?_)
      rw [ht, if_neg hk13]
      first
       | (rw [if_pos (by omega)])
       | (rw [if_neg (by omega), if_pos (by omega)])
   by_cases hB : l[i].kind = 10
   · obtain ⟨q1, q2, q3, q4, q5⟩ := first_in hi (g.well i hi) (by rw [hB]; decide)
     have ih1 : ACr Tryz.prog G 143 [.d (opsD l), .int ((i : Int) + 1), .d (boolsD x), .d (intsD (aheadL l 0)), .int c] (.bool (tAt l x c (i + 1))) := ih (i + 1) (by omega) q1
     have ih2 := ih1
     repeat' (first
      | refine armXT10_2 ?_
      | exact True.intro
      | refine stp ?_
      | refine two ?_ ?_
      | (refine imp fun hc => ?_) <;> try exact cx hc
      | refine all fun v_ => ?_)
     refine retv0 ?_
     ((with_reducible apply rq1); rfl; rfl)
     refine ret_eq (congrArg AV.bool ?_)
     rw [ht, if_neg (by omega), if_neg (by omega), if_neg (by omega), if_pos hB]
   by_cases hC : l[i].kind = 8 ∨ l[i].kind = 9
   · obtain ⟨q1, q2, q3, q4, q5⟩ := first_in hi (g.well i hi) (by rcases hC with h | h <;> rw [h] <;> decide)
     obtain ⟨r1, r2⟩ := second_in hi (g.well i hi) (by rcases hC with h | h <;> rw [h] <;> decide)
     have ih1 : ACr Tryz.prog G 143 [.d (opsD l), .int ((i : Int) + 1), .d (boolsD x), .d (intsD (aheadL l 0)), .int c] (.bool (tAt l x c (i + 1))) := ih (i + 1) (by omega) q1
     have ih2 : ACr Tryz.prog G 143 [.d (opsD l), .int (Sp.endOf l (i + 1 : Nat)).1, .d (boolsD x), .d (intsD (aheadL l 0)), .int c] (.bool (tAt l x c (second l i))) := by
      rw [q4]; exact ih (second l i) (by omega) r1
     rw [if_pos (show i < second l i by omega), if_neg (by omega), if_neg (by omega), if_neg (by omega), if_neg (by omega)] at ht
     generalize tAt l x c (i + 1) = A at ih1 ht
     generalize tAt l x c (second l i) = B at ih2 ht
     repeat' (first
      | refine armXT10_2 ?_
      | exact True.intro
      | refine stp ?_
      | refine two ?_ ?_
      | (refine imp fun hc => ?_) <;> try exact cx hc
      | refine all fun v_ => ?_)
     all_goals
      refine retv0 ?_
      ((with_reducible apply rq1); rfl; rfl)
      refine ret_eq (congrArg AV.bool ?_)
      rw [ht]
      first
       | (rw [if_pos (by omega)]; simp_all)
       | (rw [if_neg (by omega), if_pos (by omega)]; simp_all)
   have hah : aheadP l[i].kind := by unfold aheadP; omega
   rw [if_neg (by omega), if_neg (by omega), if_neg (by omega), if_neg (by omega), if_neg (by omega), if_neg (by omega)] at ht
   have hlen := aheads_len (l := l)
   have hr6 := g.ah
   have hat := aheadL_at_rank l i hi (by rw [kindAt_eq l i hi]; exact hah) l.length 0 (by omega) (Nat.zero_le _)
   simp only [rank, Nat.sub_zero, List.drop_zero] at hat
   have hrl := (List.getElem?_eq_some_iff.1 hat).1
   have ih1 := True.intro
   have ih2 := True.intro
   repeat' (first
    | refine armXT10_2 ?_
    | exact True.intro
    | refine stp ?_
    | refine two ?_ ?_
    | (refine imp fun hc => ?_) <;> try exact cx hc
    | refine all fun v_ => ?_)
   refine J_loopV (X := Nat × Int) (fun y => [(1, .int i), (3, .d (intsD (aheadL l 0))), (4, .int y.2), (13, .int y.1)]) (fun _ => []) (fun y => y.1 ≤ rank l i ∧ y.2 = c / 2 ^ y.1 ∧ 0 ≤ y.2 ∧ y.2 ≤ 1000000) (fun y => rank l i - y.1) (0, c) ⟨Nat.zero_le _, by simp, h0, hc1⟩ (VS.of_le ?_) ?_
   · exact leD
   rintro ⟨j, d⟩ ⟨k1, k2, k3, k4⟩
   dsimp only at k1 k2 k3 k4 ⊢
   by_cases hj : j = rank l i
   · have hgj : (aheadL l 0)[j] = (i : Int) := by
      subst hj
      rw [List.getElem?_eq_getElem (by omega)] at hat
      exact Option.some.inj hat
     repeat' (first
      | refine armXT10_2 ?_
      | exact True.intro
      | refine stp ?_
      | refine two ?_ ?_
      | (refine imp fun hc => ?_) <;> try exact cx hc
      | refine all fun v_ => ?_)
     refine retv0 ?_
     ((with_reducible apply rq1); rfl; rfl)
     refine ret_eq (congrArg AV.bool ?_)
     rw [ht, bitAt, ← hj, ← k2]
   · have hgj : (aheadL l 0)[j] ≠ (i : Int) := by
      intro e
      obtain ⟨q, z1, z2, z3, z4, z5⟩ := aheadL_get l l.length 0 (by omega) j (i : Int) (by rw [List.drop_zero, List.getElem?_eq_getElem (by omega), e])
      have : q = i := by omega
      subst this
      simp only [rank] at z5
      omega
     have hh := half_pow c j
     rw [← k2] at hh
     repeat' (first
      | refine armXT10_2 ?_
      | exact True.intro
      | refine stp ?_
      | refine two ?_ ?_
      | (refine imp fun hc => ?_) <;> try exact cx hc
      | refine all fun v_ => ?_)
     refine ⟨(j + 1, d / 2), ⟨by dsimp only; omega, hh, by dsimp only; omega, by dsimp only; omega⟩, by dsimp only; omega, VS.of_le ?_⟩
     exact leD
theorem armXT10_3 {p q : Prop} (hp : p) (h : p → q := by
 apply cmp; (focus (first
  | ((with_reducible apply call0); (focus rfl); (focus exact cal_AheadOf); (focus exact hA); (focus rfl))
  | ((with_reducible apply je_call0); (focus rfl); (focus (decide +kernel)); (focus rfl); (focus exact cal_AheadOf); (focus exact hA); (focus rfl))
  | ((with_reducible apply call0); (focus rfl); (focus exact cal_In); (focus exact In _ _ _ _); (focus rfl))
  | ((with_reducible apply je_call0); (focus rfl); (focus (decide +kernel)); (focus rfl); (focus exact cal_In); (focus exact In _ _ _ _); (focus rfl))
  | ((with_reducible apply call0); (focus rfl); (focus exact cal_truthAt); (focus exact truthAt _ _ _ _ g hc0 (by omega) l.length _ (by omega) (by omega)); (focus rfl))
  | ((with_reducible apply je_call0); (focus rfl); (focus (decide +kernel)); (focus rfl); (focus exact cal_truthAt); (focus exact truthAt _ _ _ _ g hc0 (by omega) l.length _ (by omega) (by omega)); (focus rfl))
  ))
 exact fun h => h) : q := h hp
theorem TruthsOf (G : List (Nat × List D)) (l : List Fo) (x : List Bool) (c : Int) : ACr Tryz.prog G 97 [.d (opsD l), .d (boolsD x), .int c] (.tup [.d (boolsD (truthsOf l x c).1), .int (truthsOf l x c).2]) := by
 have hA := AheadOf G l x.length
 generalize he : aheadsOf l x.length = p at hA
 obtain ⟨ps, e⟩ := p
 refine AC_ofV (ts := [6, 7]) 55 Tryz.func97 rfl rfl rfl (by simp) fun W I => ?_
 refine jfact (t := 0) rfl fun hl0 => ?_
 refine jfact (t := 1) rfl fun hl1 => ?_
 have g := True.intro
 have hc0 := True.intro
 repeat' (first
  | refine armXT10_3 ?_
  | exact True.intro
  | refine stp ?_
  | refine two ?_ ?_
  | (refine imp fun hc => ?_) <;> try exact cx hc
  | refine all fun v_ => ?_)
 · refine retv (vnil (t := 6) 1 1 rfl) ?_
   ((with_reducible apply rq2); rfl; rfl; rfl)
   refine ret_eq ?_
   rw [truthsOf, he, if_pos hc]; rfl
 have e0 : e = 0 := by simpa using hc
 subst e0
 obtain ⟨hF, hps⟩ := aheadsOf_ok he
 clear g hc0
 have g := good_of hF
 have h60 := g.h60
 have hpl : ps.length ≤ 6 := by rw [hps, aheads_len]; exact g.ah
 have hs : truthsOf l x c = if c < 0 ∨ 2 ^ ps.length ≤ c then ([], 2) else ((List.range l.length).map (tAt l x c), 0) := by
  rw [truthsOf, he]; rfl
 refine J_loop (X := Nat) (fun j => [(0, .d (opsD l)), (1, .d (boolsD x)), (2, .int c), (8, .d (intsD ps)), (10, .int (2 ^ j)), (11, .int j)]) (fun _ => []) (fun j => j ≤ ps.length) (fun j => ps.length - j) 0 (Nat.zero_le _) ?_ rfl ?_
 · exact leD
 rintro j hj
 have hp6 := pow6 (j := j) (by omega)
 by_cases hjl : j < ps.length
 · repeat' (first
    | refine armXT10_3 ?_
    | exact True.intro
    | refine stp ?_
    | refine two ?_ ?_
    | (refine imp fun hc => ?_) <;> try exact cx hc
    | refine all fun v_ => ?_)
   refine ⟨j + 1, by omega, by omega, ?_, rfl⟩
   have := Int.pow_succ 2 j
   exact leD
 have hj2 : j = ps.length := by omega
 by_cases hcr : c < 0 ∨ 2 ^ j ≤ c
 · have hc0 := True.intro
   repeat' (first
    | refine armXT10_3 ?_
    | exact True.intro
    | refine stp ?_
    | refine two ?_ ?_
    | (refine imp fun hc => ?_) <;> try exact cx hc
    | refine all fun v_ => ?_)
   refine retv (vnil (t := 6) 1 1 rfl) ?_
   ((with_reducible apply rq2); rfl; rfl; rfl)
   refine ret_eq ?_
   rw [hs, if_pos (by rw [← hj2]; exact hcr)]; rfl
 have hc0 : 0 ≤ c := by omega
 repeat' (first
  | refine armXT10_3 ?_
  | exact True.intro
  | refine stp ?_
  | refine two ?_ ?_
  | (refine imp fun hc => ?_) <;> try exact cx hc
  | refine all fun v_ => ?_)
 subst hps
 refine jrow (E := 4) (sz := 1) boolC ?_
 refine J_loop (X := Nat × Value) (fun y => [(0, .d (opsD l)), (1, .d (boolsD x)), (2, .int c), (8, .d (intsD (aheadL l 0))), (12, .val y.2), (13, .int y.1)]) (fun y => [rowE y.2 4 1 boolC ((List.range y.1).map (tAt l x c))]) (fun y => y.1 ≤ l.length) (fun y => l.length - y.1) (0, .slice none 0 0) (Nat.zero_le _) ?_ rfl ?_
 · exact leD
 rintro ⟨i, v⟩ h1
 dsimp only at h1 ⊢
 have hlen : ((List.range i).map (tAt l x c)).length = i := by simp
 repeat' (first
  | refine armXT10_3 ?_
  | exact True.intro
  | refine stp ?_
  | refine two ?_ ?_
  | (refine imp fun hc => ?_) <;> try exact cx hc
  | refine all fun v_ => ?_)
 · refine ⟨(i + 1, v_), by dsimp only; omega, by dsimp only; omega, ?_, ?_⟩
   · exact leD
   · dsimp only
     rw [List.range_succ, List.map_append]; rfl
 · refine retv (vfreeze (t := 6) (eb := 1) rfl rfl (fun x => rfl) (by rw [hlen]; omega)) ?_
   ((with_reducible apply rq2); rfl; rfl; rfl)
   refine ret_eq ?_
   have : i = l.length := by omega
   rw [hs, if_neg (by rw [← hj2]; exact hcr), this]
end Go.Proofs.YtniklgkoiaeipaaGreatDoor
