/- A bundle of this claim's own texts: N12. -/
import Derived.Test.YtniklgkoiaeipaaGreatDoorD40
set_option linter.unusedVariables false
set_option linter.unusedSimpArgs false
set_option maxRecDepth 100000
set_option maxHeartbeats 4000000
namespace Go.Proofs.YtniklgkoiaeipaaGreatDoor
open Go Go.Av Go.Sp
theorem cal_VRuns : Cal Tryz.prog 33 := Cal.of Tryz.func33 (by kernel_rfl) (by kernel_rfl)
theorem armXN12_1 {p q : Prop} (hp : p) (h : p → q := by
 apply cmp; (focus (first
  | ((with_reducible apply call0); (focus rfl); (focus exact cal_Count); (focus exact hC); (focus rfl))
  | ((with_reducible apply je_call0); (focus rfl); (focus (decide +kernel)); (focus rfl); (focus exact cal_Count); (focus exact hC); (focus rfl))
  ))
 exact fun h => h) : q := h hp
theorem armXN12_2 {p q : Prop} (hp : p) (h : p → q := by
 apply cmp; (focus (first
  | ((with_reducible apply call0); (focus rfl); (focus exact cal_Count); (focus exact hC); (focus rfl))
  | ((with_reducible apply je_call0); (focus rfl); (focus (decide +kernel)); (focus rfl); (focus exact cal_Count); (focus exact hC); (focus rfl))
  | ((with_reducible apply call0); (focus rfl); (focus exact cal_First); (focus exact hF); (focus rfl))
  | ((with_reducible apply je_call0); (focus rfl); (focus (decide +kernel)); (focus rfl); (focus exact cal_First); (focus exact hF); (focus rfl))
  | ((with_reducible apply call0); (focus rfl); (focus exact cal_ConcatI); (focus exact hCc); (focus rfl))
  | ((with_reducible apply je_call0); (focus rfl); (focus (decide +kernel)); (focus rfl); (focus exact cal_ConcatI); (focus exact hCc); (focus rfl))
  ))
 exact fun h => h) : q := h hp
theorem armXN12_3 {p q : Prop} (hp : p) (h : p → q := by
 apply cmp; (focus (first
  | ((with_reducible apply call0); (focus rfl); (focus exact cal_Next); (focus exact hN); (focus rfl))
  | ((with_reducible apply je_call0); (focus rfl); (focus (decide +kernel)); (focus rfl); (focus exact cal_Next); (focus exact hN); (focus rfl))
  | ((with_reducible apply call0); (focus rfl); (focus exact cal_ContainsI); (focus exact hCt); (focus rfl))
  | ((with_reducible apply je_call0); (focus rfl); (focus (decide +kernel)); (focus rfl); (focus exact cal_ContainsI); (focus exact hCt); (focus rfl))
  ))
 exact fun h => h) : q := h hp
theorem Runs (m : Md) (stem loop : List Int) (hb : stem.length + loop.length ≤ 1048576) : ACr Tryz.prog GP 33 [mdA m, .agg [.d (intsD stem), .d (intsD loop)]] (.tup [.bool (runF m stem loop).1, .int (runF m stem loop).2]) := by
 have hC := Count m
 have hF := First m
 refine AC_ofV (ts := [4, 5]) Tryz.f33.ntmps Tryz.func33 rfl rfl rfl (by simp [Tryz.ntmps33]) fun W I => ?_
 unfold countF at hC
 by_cases h0 : modelF m ≠ 0
 · have hr : runF m stem loop = (false, modelF m) := by unfold runF; rw [if_pos h0]
   rw [hr]
   rw [if_pos h0] at hC
   dsimp only at hC ⊢
   generalize modelF m = e at hC h0 ⊢
   repeat' (first
    | refine armXN12_1 ?_
    | exact True.intro | refine stpH ?_ | refine two ?_ ?_ | refine allc fun c_ => ?_
    | (refine imp fun hc => ?_) <;> try exact cx1 hc
    | refine all fun v_ => ?_)
   refine retv (VS.drop (List.nil_sublist _)) ?_
   ((with_reducible apply rq2); rfl; rfl; rfl)
   exact ret_eq rfl
 rw [if_neg h0] at hC
 replace h0 := Decidable.not_not.1 h0
 obtain ⟨n, hn, n1, n2⟩ := states_nat h0
 obtain ⟨f1, f2, f3⟩ := first_ok h0
 have hF : ACr Tryz.prog GP 36 [mdA m] (.tup [.int (firstF m), .int 0]) := by
  rw [f1] at hF; exact hF
 rw [hn] at hC
 dsimp only at hC
 have hCc := ConcatI GP [stem, loop] (by simp; omega)
 have hfl : [stem, loop].flatten = stem ++ loop := by simp
 rw [hfl] at hCc
 have hno := runF_no (m := m) (stem := stem) (loop := loop) h0
 have hat := fun b => runF_at (m := m) (stem := stem) (loop := loop) (b := b) h0 hn
 generalize hfst : firstF m = fst at hF hno hat
 cases loop with
 | nil =>
   rw [hno (.inl rfl)]
   repeat' (first
    | refine armXN12_2 ?_
    | ((with_reducible apply jbuild_list2); (focus rfl); (focus rfl); (focus rfl); (focus (with_reducible exact ElC.h)); (focus rfl); (focus rfl))
    | exact True.intro | refine stpH ?_ | refine two ?_ ?_ | refine allc fun c_ => ?_
    | (refine imp fun hc => ?_) <;> try exact cx1 hc
    | refine all fun v_ => ?_)
   all_goals
    refine retv (VS.drop (List.nil_sublist _)) ?_
    ((with_reducible apply rq2); rfl; rfl; rfl)
    exact ret_eq rfl
 | cons b lr =>
   have hlb : (b :: lr).length = lr.length + 1 := rfl
   have hrl : roundL stem (b :: lr) = stem ++ (b :: lr) ++ [b] := rfl
   have hne : stem ++ (b :: lr) ≠ [] := by simp
   have hal : (stem ++ (b :: lr)).length = stem.length + (b :: lr).length := List.length_append
   rw [hrl] at hat
   generalize hall : stem ++ (b :: lr) = alls at hCc hno hat hne hal
   cases alls with
   | nil => exact absurd rfl hne
   | cons a ar =>
     by_cases ha : a ≠ fst
     · rw [hno (.inr (by simpa using ha))]
       repeat' (first
        | refine armXN12_2 ?_
        | ((with_reducible apply jbuild_list2); (focus rfl); (focus rfl); (focus rfl); (focus (with_reducible exact ElC.h)); (focus rfl); (focus rfl))
        | exact True.intro | refine stpH ?_ | refine two ?_ ?_ | refine allc fun c_ => ?_
        | (refine imp fun hc => ?_) <;> try exact cx1 hc
        | refine all fun v_ => ?_)
       all_goals
        refine retv (VS.drop (List.nil_sublist _)) ?_
        ((with_reducible apply rq2); rfl; rfl; rfl)
        exact ret_eq rfl
     replace ha := Decidable.not_not.1 ha
     have hat := fun x => hat x (by simp) (by simp [ha])
     repeat' (first
      | refine armXN12_2 ?_
      | ((with_reducible apply jbuild_list2); (focus rfl); (focus rfl); (focus rfl); (focus (with_reducible exact ElC.h)); (focus rfl); (focus rfl))
      | exact True.intro | refine stpH ?_ | refine two ?_ ?_ | refine allc fun c_ => ?_
      | (refine imp fun hc => ?_) <;> try exact cx1 hc
      | refine all fun v_ => ?_)
     obtain ⟨bl, rfl⟩ : ∃ x, x = v_ := ⟨v_, rfl⟩
     obtain ⟨bm, rfl⟩ : ∃ x, x = v_ := ⟨v_, rfl⟩
     have hAl : ((a :: ar) ++ [b]).length = (a :: ar).length + 1 := by simp
     have hA0 : ∀ i (h : i < (a :: ar).length), at0 ((a :: ar) ++ [b]) i = (a :: ar)[i] := fun i h => by
      rw [at0_get _ _ (by omega), List.getElem_append_left h]
     have hA1 : at0 ((a :: ar) ++ [b]) (a :: ar).length = b := by
      rw [at0_get _ _ (by omega), List.getElem_append_right (Nat.le_refl _)]; simp
     generalize (a :: ar) ++ [b] = A at hat hAl hA0 hA1
     refine J_loopV (X := Nat) (fun i => [(2, .val (.pointer (some ⟨bm, 0, none⟩))), (3, .val (.pointer (some ⟨bl, 0, none⟩))), (6, .int n), (10, .d (intsD (a :: ar))), (46, .d (intsD (a :: ar))), (47, .int (a :: ar).length), (48, .int i)]) (fun _ => [.cells bl 43 [.d (intsD stem), .d (intsD (b :: lr))], .cells bm 25 [.d (varsD m.vars), .d (rulesD m.rules)]]) (fun i => i ≤ (a :: ar).length ∧ ∀ j, j < i → leadsP m n A j) (fun i => (a :: ar).length - i) 0 ⟨Nat.zero_le _, fun j h => absurd h (Nat.not_lt_zero j)⟩ (VS.take (by exact takedD) ?_) ?_
     · exact leD
     rintro i ⟨hi, hok⟩
     generalize a :: ar = alls at hAl hA0 hA1 hal hi ⊢
     by_cases hil : i < alls.length
     · have hc0 := hA0 i hil
       have hbad : ¬ leadsP m n A i → runF m stem (b :: lr) = (false, 0) := fun h => hat false ⟨fun k => (by cases k), fun k => absurd (k i (by omega)) h⟩
       have hled : leadsP m n A i ↔ ((0 ≤ alls[i] ∧ alls[i] < n) ∧ at0 A (i + 1) ∈ (nextF m alls[i]).1) := by unfold leadsP; rw [hc0]
       by_cases c0 : alls[i] < 0
       · rw [hbad fun k => by have := (hled.1 k).1; omega]
         repeat' (first
          | refine armXN12_2 ?_
          | ((with_reducible apply jbuild_list2); (focus rfl); (focus rfl); (focus rfl); (focus (with_reducible exact ElC.h)); (focus rfl); (focus rfl))
          | exact True.intro | refine stpH ?_ | refine two ?_ ?_ | refine allc fun c_ => ?_
          | (refine imp fun hc => ?_) <;> try exact cx1 hc
          | refine all fun v_ => ?_)
         refine retv (VS.drop (List.nil_sublist _)) ?_
         ((with_reducible apply rq2); rfl; rfl; rfl)
         exact ret_eq rfl
       by_cases c1 : (n : Int) ≤ alls[i]
       · rw [hbad fun k => by have := (hled.1 k).1; omega]
         repeat' (first
          | refine armXN12_2 ?_
          | ((with_reducible apply jbuild_list2); (focus rfl); (focus rfl); (focus rfl); (focus (with_reducible exact ElC.h)); (focus rfl); (focus rfl))
          | exact True.intro | refine stpH ?_ | refine two ?_ ?_ | refine allc fun c_ => ?_
          | (refine imp fun hc => ?_) <;> try exact cx1 hc
          | refine all fun v_ => ?_)
         refine retv (VS.drop (List.nil_sublist _)) ?_
         ((with_reducible apply rq2); rfl; rfl; rfl)
         exact ret_eq rfl
       have hN := Next m alls[i]
       generalize nextF m alls[i] = p at hN hled
       obtain ⟨ns, e⟩ := p
       dsimp only at hN hled
       have hCt : ∀ to, at0 A (i + 1) = to → ACr Tryz.prog GP 79 [.d (intsD ns), .int to] (.bool (decide (at0 A (i + 1) ∈ ns))) := fun to h => by rw [h]; exact ContainsI GP ns to
       have hfin : (if i + 1 < alls.length then True else at0 A (i + 1) = b) := by
        split
        · trivial
        · have : i + 1 = alls.length := by omega
          rw [this]; exact hA1
       by_cases hl1 : i + 1 < alls.length
       · have hCt := hCt _ (hA0 (i + 1) hl1)
         by_cases hin : at0 A (i + 1) ∈ ns
         · rw [decide_eq_true hin] at hCt
           repeat' (first
            | refine armXN12_3 ?_
            | exact True.intro | refine stpH ?_ | refine two ?_ ?_ | refine allc fun c_ => ?_
            | (refine imp fun hc => ?_) <;> try exact cx1 hc
            | refine all fun v_ => ?_)
           refine ⟨i + 1, ⟨by omega, fun j hj => ?_⟩, by omega, VS.take (by exact takedD) ?_⟩
           · by_cases e : j = i
             · rw [e]; exact hled.2 ⟨⟨by omega, by omega⟩, hin⟩
             · exact hok j (by omega)
           · exact leD
         · rw [decide_eq_false hin] at hCt
           rw [hbad fun k => hin (hled.1 k).2]
           repeat' (first
            | refine armXN12_3 ?_
            | exact True.intro | refine stpH ?_ | refine two ?_ ?_ | refine allc fun c_ => ?_
            | (refine imp fun hc => ?_) <;> try exact cx1 hc
            | refine all fun v_ => ?_)
           refine retv (VS.drop (List.nil_sublist _)) ?_
           ((with_reducible apply rq2); rfl; rfl; rfl)
           exact ret_eq rfl
       · rw [if_neg hl1] at hfin
         have hCt := hCt _ hfin
         by_cases hin : at0 A (i + 1) ∈ ns
         · rw [decide_eq_true hin] at hCt
           repeat' (first
            | refine armXN12_3 ?_
            | exact True.intro | refine stpH ?_ | refine two ?_ ?_ | refine allc fun c_ => ?_
            | (refine imp fun hc => ?_) <;> try exact cx1 hc
            | refine all fun v_ => ?_)
           refine ⟨i + 1, ⟨by omega, fun j hj => ?_⟩, by omega, VS.take (by exact takedD) ?_⟩
           · by_cases e : j = i
             · rw [e]; exact hled.2 ⟨⟨by omega, by omega⟩, hin⟩
             · exact hok j (by omega)
           · exact leD
         · rw [decide_eq_false hin] at hCt
           rw [hbad fun k => hin (hled.1 k).2]
           repeat' (first
            | refine armXN12_3 ?_
            | exact True.intro | refine stpH ?_ | refine two ?_ ?_ | refine allc fun c_ => ?_
            | (refine imp fun hc => ?_) <;> try exact cx1 hc
            | refine all fun v_ => ?_)
           refine retv (VS.drop (List.nil_sublist _)) ?_
           ((with_reducible apply rq2); rfl; rfl; rfl)
           exact ret_eq rfl
     obtain rfl : i = alls.length := by omega
     rw [hat true ⟨fun _ j hj => hok j (by omega), fun _ => rfl⟩]
     repeat' (first
      | exact True.intro | refine stpH ?_ | refine two ?_ ?_ | refine allc fun c_ => ?_
      | (refine imp fun hc => ?_) <;> try exact cx1 hc
      | refine all fun v_ => ?_)
     refine retv (VS.drop (List.nil_sublist _)) ?_
     ((with_reducible apply rq2); rfl; rfl; rfl)
     exact ret_eq rfl
end Go.Proofs.YtniklgkoiaeipaaGreatDoor
