/- A bundle of this claim's own texts: T12. -/
import Derived.Test.YtniklgkoiaeipaaGreatDoorD2
import Derived.Test.YtniklgkoiaeipaaGreatDoorD20
set_option linter.unusedVariables false
set_option linter.unusedSimpArgs false
set_option maxRecDepth 100000
set_option maxHeartbeats 4000000
namespace Go.Proofs.YtniklgkoiaeipaaGreatDoor
open Go Go.Av Go.Sp

theorem cal_keeps : Cal Tryz.prog 142 := Cal.of Tryz.func142 (by kernel_rfl) (by kernel_rfl)
theorem cal_Follows : Cal Tryz.prog 94 := Cal.of Tryz.func94 (by kernel_rfl) (by kernel_rfl)
theorem ahead_parts {k : Int} (h : aheadP k) : 1 ≤ (partsOf k).1 ∧ (k = 15 ∨ k = 16 → (partsOf k).1 = 2) := by
 have : k = 14 ∨ k = 15 ∨ k = 16 ∨ k = 17 ∨ k = 18 := by unfold aheadP at h; omega
 rcases this with h | h | h | h | h <;> subst h <;> exact ⟨by decide, by decide⟩
theorem keeps (G : List (Nat × List D)) (a b : List Bool) (k : Int) (i s : Nat) (hk : aheadP k) (ha : i + 1 < a.length) (hb : i + 1 < b.length) (hl : a.length ≤ 60) (hs : k = 15 ∨ k = 16 → s < a.length) :
 ACr Tryz.prog G 142 [.agg [.d (boolsD a), .d (boolsD b)], .int k, .int i, .int s] (.bool (a[i] == lawB k a[i + 1] (a[s]?.getD false) b[i] b[i + 1])) := by
 refine AC_ofV (ts := [8]) Tryz.f142.ntmps Tryz.func142 rfl rfl rfl (by simp [Tryz.ntmps142]) fun W I => ?_
 by_cases h1 : k = 15 ∨ k = 16
 · have hs' := hs h1
   repeat' (first
    | exact True.intro | refine stpA ?_ | refine two ?_ ?_
    | (refine imp fun hc => ?_) <;> try exact cx hc
    | refine all fun v_ => ?_)
   all_goals
    refine retv (VS.drop (List.nil_sublist _)) ?_
    ((with_reducible apply rq1); rfl; rfl)
    refine ret_eq (congrArg AV.bool ?_)
    rw [List.getElem?_eq_getElem hs']
    unfold lawB
    rw [if_neg (by omega), if_neg (by omega), if_neg (by omega)]
    first
     | ((rw [if_pos (by omega)] <;> simp_all); done)
     | ((rw [if_neg (by omega)] <;> simp_all); done)
 · unfold aheadP at hk
   repeat' (first
    | exact True.intro | refine stpA ?_ | refine two ?_ ?_
    | (refine imp fun hc => ?_) <;> try exact cx hc
    | refine all fun v_ => ?_)
   all_goals
    refine retv (VS.drop (List.nil_sublist _)) ?_
    ((with_reducible apply rq1); rfl; rfl)
    refine ret_eq (congrArg AV.bool ?_)
    unfold lawB
    first
     | ((rw [if_pos (by omega)] <;> simp_all); done)
     | ((rw [if_neg (by omega), if_pos (by omega)] <;> simp_all); done)
     | ((rw [if_neg (by omega), if_neg (by omega), if_pos (by omega)] <;> simp_all); done)
theorem armXT12_1 {p q : Prop} (hp : p) (h : p → q := by
 apply cmp; (focus (first
  | ((with_reducible apply call0); (focus rfl); (focus exact cal_Truths); (focus exact hX); (focus rfl))
  | ((with_reducible apply je_call0); (focus rfl); (focus (decide +kernel)); (focus rfl); (focus exact cal_Truths); (focus exact hX); (focus rfl))
  | ((with_reducible apply call0); (focus rfl); (focus exact cal_Truths); (focus exact hY); (focus rfl))
  | ((with_reducible apply je_call0); (focus rfl); (focus (decide +kernel)); (focus rfl); (focus exact cal_Truths); (focus exact hY); (focus rfl))
  | ((with_reducible apply call0); (focus rfl); (focus exact cal_Ends); (focus exact hE); (focus rfl))
  | ((with_reducible apply je_call0); (focus rfl); (focus (decide +kernel)); (focus rfl); (focus exact cal_Ends); (focus exact hE); (focus rfl))
  | ((with_reducible apply qcall); (focus rfl); (focus exact cal_ahead); (focus exact ahead _ _); (focus rfl))
  | ((with_reducible apply qcall); (focus rfl); (focus exact cal_keeps); (focus exact hke); (focus rfl))
  ))
 exact fun h => h) : q := h hp
set_option maxHeartbeats 1000000 in
theorem Follows (l : List Fo) (x : List Bool) (c : Int) (y : List Bool) (d : Int) : ACr Tryz.prog GP 94 [.d (opsD l), .d (boolsD x), .int c, .d (boolsD y), .int d] (.tup [.bool (followsOf l x c y d).1, .int (followsOf l x c y d).2]) := by
 have hX := Truths l x c
 have hY := Truths l y d
 have hE := Ends l
 generalize hx : truthsOf l x c = p at hX
 obtain ⟨a, e⟩ := p
 generalize hy : truthsOf l y d = q at hY
 obtain ⟨b, e'⟩ := q
 generalize he : endsOf l = q at hE
 obtain ⟨es, e2⟩ := q
 dsimp only at hX hY hE
 have hke := True.intro
 refine AC_ofV (ts := [10, 11]) Tryz.f94.ntmps Tryz.func94 rfl rfl rfl (by simp [Tryz.ntmps94]) fun W I => ?_
 refine jfact (t := 0) rfl fun hl0 => ?_
 refine jfact (t := 1) rfl fun hl1 => ?_
 refine jfact (t := 3) rfl fun hl3 => ?_
 repeat' (first
  | refine armXT12_1 ?_
  | exact True.intro | refine stpA ?_ | refine two ?_ ?_
  | (refine imp fun hc => ?_) <;> try exact cx hc
  | refine all fun v_ => ?_)
 all_goals try (
  refine retv0 ?_
  ((with_reducible apply rq2); rfl; rfl; rfl)
  refine ret_eq ?_
  unfold followsOf
  rw [hx, hy]
  first
   | (rw [if_pos (by omega)])
   | (rw [if_neg (by omega), if_pos (by assumption)])
   | (rw [if_neg (by omega), if_neg (by assumption), if_pos (by assumption)]))
 have h1 : e = 0 := by omega
 have h2 : e' = 0 := by omega
 subst h1 h2
 have hs : followsOf l x c y d = (decide (kept l (tAt l x c) (tAt l y d)), 0) := by
  unfold followsOf
  rw [hx, hy, if_neg (by omega)]; rfl
 obtain ⟨g, ta⟩ := truthsOf_ok hx
 obtain ⟨_, tb⟩ := truthsOf_ok hy
 have h60 := g.h60
 have hal := ta.len
 have hbl := tb.len
 have he2 : e2 = 0 := by have := g.ends; rw [he] at this; exact this
 subst he2
 obtain ⟨_, _, _, hlen, hes⟩ := endsOf_ok he
 refine J_loopV (X := Nat) (fun i => [(12, .d (boolsD a)), (14, .d (boolsD b)), (15, .d (intsD es)), (49, .d (opsD l)), (50, .int l.length), (51, .int i)]) (fun _ => []) (fun i => i ≤ l.length ∧ ∀ q, q < i → keptAt l (tAt l x c) (tAt l y d) q) (fun i => l.length - i) 0 ⟨Nat.zero_le _, fun q hq => by omega⟩ (VS.of_le ?_) ?_
 · exact leD
 rintro i ⟨k1, k2⟩
 by_cases hi : i < l.length
 · have hki := kindAt_eq l i hi
   by_cases hah : aheadP l[i].kind
   · obtain ⟨pa, pb⟩ := ahead_parts hah
     obtain ⟨q1, q2, q3, q4, q5⟩ := first_in hi (g.well i hi) pa
     have he1 : es[i + 1] = (second l i : Int) := by rw [hes (i + 1) (by omega), ← q4]
     have hsec : l[i].kind = 15 ∨ l[i].kind = 16 → second l i < a.length := fun h => by have := (second_in hi (g.well i hi) (pb h)).1; omega
     have hke := keeps GP a b l[i].kind i (second l i) hah (by omega) (by omega) (by omega) hsec
     rw [← he1] at hke
     have hd : decide (aheadP l[i].kind) = true := decide_eq_true hah
     generalize hbb : (a[i] == lawB l[i].kind a[i + 1] (a[second l i]?.getD false) b[i] b[i + 1]) = bb at hke
     have hka : keptAt l (tAt l x c) (tAt l y d) i ↔ bb = true := by
      rw [← hbb, beq_iff_eq]
      unfold keptAt
      rw [hki, ta.get, ta.get, tb.get, tb.get]
      rw [lawB_second (tAt l x c (i + 1)) (a[second l i]?.getD false) (tAt l x c (second l i)) (tAt l y d i) (tAt l y d (i + 1)) hah fun h => by rw [List.getElem?_eq_getElem (hsec h)]; exact ta.get _ _]
      exact ⟨fun h => h hah, fun h _ => h⟩
     cases bb with
     | true =>
       repeat' (first
        | refine armXT12_1 ?_
        | exact True.intro | refine stpA ?_ | refine two ?_ ?_
        | (refine imp fun hc => ?_) <;> try exact cx hc
        | refine all fun v_ => ?_)
       refine ⟨i + 1, ⟨by omega, fun q hq => ?_⟩, by omega, vle (List.nil_sublist _) ?_⟩
       · by_cases hqi : q < i
         · exact k2 q hqi
         · obtain rfl : q = i := by omega
           exact hka.2 rfl
       · exact leD
     | false =>
       repeat' (first
        | refine armXT12_1 ?_
        | exact True.intro | refine stpA ?_ | refine two ?_ ?_
        | (refine imp fun hc => ?_) <;> try exact cx hc
        | refine all fun v_ => ?_)
       refine retv (VS.drop (List.nil_sublist _)) ?_
       ((with_reducible apply rq2); rfl; rfl; rfl)
       refine ret_eq ?_
       rw [hs, decide_eq_false (fun h => by have := hka.1 (h i hi); cases this)]
   · repeat' (first
      | refine armXT12_1 ?_
      | exact True.intro | refine stpA ?_ | refine two ?_ ?_
      | (refine imp fun hc => ?_) <;> try exact cx hc
      | refine all fun v_ => ?_)
     refine ⟨i + 1, ⟨by omega, fun q hq => ?_⟩, by omega, vle (List.nil_sublist _) ?_⟩
     · by_cases hqi : q < i
       · exact k2 q hqi
       · obtain rfl : q = i := by omega
         intro h
         rw [hki] at h
         exact absurd h hah
     · exact leD
 · repeat' (first
    | refine armXT12_1 ?_
    | exact True.intro | refine stpA ?_ | refine two ?_ ?_
    | (refine imp fun hc => ?_) <;> try exact cx hc
    | refine all fun v_ => ?_)
   refine retv (VS.drop (List.nil_sublist _)) ?_
   ((with_reducible apply rq2); rfl; rfl; rfl)
   refine ret_eq ?_
   have hkk : kept l (tAt l x c) (tAt l y d) := fun q hq => k2 q (by omega)
   rw [hs, decide_eq_true hkk]
end Go.Proofs.YtniklgkoiaeipaaGreatDoor
