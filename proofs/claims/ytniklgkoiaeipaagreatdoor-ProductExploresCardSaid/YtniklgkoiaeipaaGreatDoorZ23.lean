/- A bundle of this claim's own texts: N5 N8. -/
import Derived.Test.YtniklgkoiaeipaaGreatDoorZ21
import Derived.Test.YtniklgkoiaeipaaGreatDoorZ22
namespace Go.Proofs.YtniklgkoiaeipaaGreatDoor
open Go Go.Av Go.Sp
set_option linter.unusedVariables false
set_option linter.unusedSimpArgs false
set_option maxRecDepth 100000
set_option maxHeartbeats 4000000
theorem armXN5_1 {p q : Prop} (hp : p) (h : p → q := by
 apply cmp; (focus (first
  | ((with_reducible apply call0); (focus rfl); (focus exact cal_ValuesOf); (focus exact hV); (focus rfl))
  | ((with_reducible apply je_call0); (focus rfl); (focus (decide +kernel)); (focus rfl); (focus exact cal_ValuesOf); (focus exact hV); (focus rfl))
  | ((with_reducible apply call0); (focus rfl); (focus exact cal_In); (focus exact In _ _ _ _); (focus rfl))
  | ((with_reducible apply je_call0); (focus rfl); (focus (decide +kernel)); (focus rfl); (focus exact cal_In); (focus exact In _ _ _ _); (focus rfl))
  ))
 exact fun h => h) : q := h hp
theorem armXN5_2 {p q : Prop} (hp : p) (h : p → q := by
 apply cmp; (focus (first
  | ((with_reducible apply call0); (focus rfl); (focus exact cal_ValuesOf); (focus exact hV); (focus rfl))
  | ((with_reducible apply je_call0); (focus rfl); (focus (decide +kernel)); (focus rfl); (focus exact cal_ValuesOf); (focus exact hV); (focus rfl))
  | ((with_reducible apply call0); (focus rfl); (focus exact cal_In); (focus exact In _ _ _ _); (focus rfl))
  | ((with_reducible apply je_call0); (focus rfl); (focus (decide +kernel)); (focus rfl); (focus exact cal_In); (focus exact In _ _ _ _); (focus rfl))
  | ((with_reducible apply call0); (focus rfl); (focus exact cal_Evaluated); (focus exact hE); (focus rfl))
  | ((with_reducible apply je_call0); (focus rfl); (focus (decide +kernel)); (focus rfl); (focus exact cal_Evaluated); (focus exact hE); (focus rfl))
  ))
 exact fun h => h) : q := h hp
theorem armXN5_3 {p q : Prop} (hp : p) (h : p → q := by
 apply cmp; (focus (first
  | ((with_reducible apply call0); (focus rfl); (focus exact cal_Evaluated); (focus exact hE2); (focus rfl))
  | ((with_reducible apply je_call0); (focus rfl); (focus (decide +kernel)); (focus rfl); (focus exact cal_Evaluated); (focus exact hE2); (focus rfl))
  ))
 exact fun h => h) : q := h hp
theorem armXN5_4 {p q : Prop} (hp : p) (h : p → q := by
 apply cmp; (focus (first
  | ((with_reducible apply call0); (focus rfl); (focus exact cal_CodeOf); (focus exact hC); (focus rfl))
  | ((with_reducible apply je_call0); (focus rfl); (focus (decide +kernel)); (focus rfl); (focus exact cal_CodeOf); (focus exact hC); (focus rfl))
  ))
 exact fun h => h) : q := h hp
theorem AfterRule (G : List (Nat × List D)) (m : Md) (code rule : Int) : ACr Tryz.prog G 118 [mdA m, .int code, .int rule] (.tup [.int (afterC m code rule).1, .int (afterC m code rule).2]) := by
 refine AC.factI (f := Ru.cells) (xs := m.rules) (.agg (.there .here)) fun hlr => ?_
 have hV := ValuesOf G m code
 refine AC_ofV (ts := [6, 7]) Tryz.f118.ntmps Tryz.func118 rfl rfl rfl (by simp [Tryz.ntmps118]) fun W I => ?_
 by_cases h1 : (valsF m code).2 ≠ 0
 · rw [afterC_err h1]
   all_goals haveI fA_ : FlagA := ⟨⟩
   all_goals haveI fH_ : FlagH := ⟨⟩
   repeat' (first
    | refine armXN5_1 ?_
    | exact True.intro
    | refine stp ?_
    | refine two ?_ ?_
    | refine allc fun c_ => ?_
    | (refine imp fun hc => ?_) <;> try exact cx1 hc
    | refine all fun v_ => ?_)
   all_goals clear fA_ fH_
   refine retv (VS.drop (List.nil_sublist _)) ?_
   ((with_reducible apply rq2); rfl; rfl; rfl)
   exact ret_eq rfl
 obtain ⟨hm, c0, c1, hF⟩ := valsF_ok (Decidable.not_not.1 h1)
 have g := InV.vals hm c0 c1
 rw [hF] at hV
 dsimp only at hV
 clear h1
 by_cases h2 : ¬ (0 ≤ rule ∧ rule ≤ (m.rules.length : Int) - 1)
 · rw [afterC_no hF (by omega)]
   all_goals haveI fA_ : FlagA := ⟨⟩
   all_goals haveI fH_ : FlagH := ⟨⟩
   repeat' (first
    | refine armXN5_1 ?_
    | exact True.intro
    | refine stp ?_
    | refine two ?_ ?_
    | refine allc fun c_ => ?_
    | (refine imp fun hc => ?_) <;> try exact cx1 hc
    | refine all fun v_ => ?_)
   all_goals clear fA_ fH_
   refine retv (VS.drop (List.nil_sublist _)) ?_
   ((with_reducible apply rq2); rfl; rfl; rfl)
   exact ret_eq rfl
 replace h2 := Decidable.not_not.1 h2
 have h4 : rule.toNat < m.rules.length := by omega
 rw [afterC_yes hF (by omega) h4]
 have hr := List.getElem_mem h4
 generalize valsT m.vars code = vs at hV g ⊢
 have gr := goodR hm hr
 have hl6 := varsF_len (modelF_vars hm)
 have hln := g.len
 have hfew := gr.few
 have hE := Evaluated G m.rules[rule.toNat].guard vs
 by_cases h5 : evalF m.rules[rule.toNat].guard vs ≠ (1, 0)
 · rw [afterF_guard h5]
   generalize evalF m.rules[rule.toNat].guard vs = p at hE h5
   obtain ⟨n, e⟩ := p
   dsimp only at hE
   by_cases h6 : e ≠ 0
   · all_goals haveI fA_ : FlagA := ⟨⟩
     all_goals haveI fH_ : FlagH := ⟨⟩
     repeat' (first
      | refine armXN5_2 ?_
      | exact True.intro
      | refine stp ?_
      | refine two ?_ ?_
      | refine allc fun c_ => ?_
      | (refine imp fun hc => ?_) <;> try exact cx1 hc
      | refine all fun v_ => ?_)
     all_goals clear fA_ fH_
     refine retv (VS.drop (List.nil_sublist _)) ?_
     ((with_reducible apply rq2); rfl; rfl; rfl)
     exact ret_eq rfl
   by_cases h7 : n ≠ 1
   · all_goals haveI fA_ : FlagA := ⟨⟩
     all_goals haveI fH_ : FlagH := ⟨⟩
     repeat' (first
      | refine armXN5_2 ?_
      | exact True.intro
      | refine stp ?_
      | refine two ?_ ?_
      | refine allc fun c_ => ?_
      | (refine imp fun hc => ?_) <;> try exact cx1 hc
      | refine all fun v_ => ?_)
     all_goals clear fA_ fH_
     refine retv (VS.drop (List.nil_sublist _)) ?_
     ((with_reducible apply rq2); rfl; rfl; rfl)
     exact ret_eq rfl
   exact absurd (Prod.ext (by dsimp only; omega) (by dsimp only; omega)) h5
 replace h5 := Decidable.not_not.1 h5
 rw [h5] at hE
 dsimp only at hE
 all_goals haveI fA_ : FlagA := ⟨⟩
 all_goals haveI fH_ : FlagH := ⟨⟩
 repeat' (first
  | refine armXN5_2 ?_
  | exact True.intro
  | refine stp ?_
  | refine two ?_ ?_
  | refine allc fun c_ => ?_
  | (refine imp fun hc => ?_) <;> try exact cx1 hc
  | refine all fun v_ => ?_)
 all_goals clear fA_ fH_
 obtain ⟨br, rfl⟩ : ∃ x, x = v_ := ⟨v_, rfl⟩
 obtain ⟨bm, rfl⟩ : ∃ x, x = v_ := ⟨v_, rfl⟩
 generalize hR : m.rules[rule.toNat] = r at hr gr hfew h5 hE ⊢
 clear hR
 refine jrow (E := 3) (sz := 1) intC ?_
 refine J_loopV (X := Nat × Sl) (fun y => [(3, .val (.pointer (some ⟨bm, 0, none⟩))), (8, .d (intsD vs)), (10, .val (.pointer (some ⟨br, 0, none⟩))), (13, .val y.2.v), (14, .int y.1)]) (fun y => [rowE y.2.v 3 1 intC ((List.range y.1).map (updAt vs r.sets)), .cells bm 25 [.d (varsD m.vars), .d (rulesD m.rules)], .cells br 137 [.d (opsD r.guard), .d (setsD r.sets)]]) (fun y => y.1 ≤ vs.length ∧ ∀ s ∈ r.sets, s.var < y.1 → (evalF s.val vs).2 = 0) (fun y => vs.length - y.1) (0, Sl.nil) ⟨Nat.zero_le _, fun s hs h => ?_⟩ (VS.take (by exact takedD) ?_) ?_
 · have := (gr.sets s hs).1
   dsimp only at h
   omega
 · exact leD
 rintro ⟨i, q⟩ ⟨hi, hok⟩
 dsimp only at hi hok ⊢
 have hlj : ((List.range i).map (updAt vs r.sets)).length = i := by simp
 by_cases hil : i < vs.length
 · have hat : updAt vs r.sets i = upd vs (r.sets.drop 0) i vs[i] := by rw [updAt, List.getElem?_eq_getElem hil]; rfl
   have hsn : (List.range (i + 1)).map (updAt vs r.sets) = (List.range i).map (updAt vs r.sets) ++ [updAt vs r.sets i] := by simp [List.range_succ]
   all_goals haveI fA_ : FlagA := ⟨⟩
   all_goals haveI fH_ : FlagH := ⟨⟩
   repeat' (first
    | exact True.intro
    | refine stp ?_
    | refine two ?_ ?_
    | refine allc fun c_ => ?_
    | (refine imp fun hc => ?_) <;> try exact cx1 hc
    | refine all fun v_ => ?_)
   all_goals clear fA_ fH_
   refine J_loopV (X := Nat × Int) (fun y => [(3, .val (.pointer (some ⟨bm, 0, none⟩))), (8, .d (intsD vs)), (10, .val (.pointer (some ⟨br, 0, none⟩))), (13, .val q.v), (14, .int i), (15, .int y.2), (16, .int y.1)]) (fun _ => [rowE q.v 3 1 intC ((List.range i).map (updAt vs r.sets)), .cells bm 25 [.d (varsD m.vars), .d (rulesD m.rules)], .cells br 137 [.d (opsD r.guard), .d (setsD r.sets)]]) (fun y => y.1 ≤ r.sets.length ∧ updAt vs r.sets i = upd vs (r.sets.drop y.1) i y.2 ∧ ∀ s ∈ r.sets.take y.1, s.var = i → (evalF s.val vs).2 = 0) (fun y => r.sets.length - y.1) (0, vs[i]) ⟨Nat.zero_le _, hat, fun s hs => (by cases hs)⟩ (VS.take (by exact takedD) ?_) ?_
   · exact leD
   rintro ⟨k, x⟩ ⟨hk, hx, hok2⟩
   dsimp only at hk hx hok2 ⊢
   by_cases hkl : k < r.sets.length
   · have hs := List.getElem_mem hkl
     obtain ⟨a1, a2, a3⟩ := gr.sets _ hs
     rw [upd_at vs r.sets k hkl] at hx
     have htk : ∀ s, s ∈ r.sets.take (k + 1) → s ∈ r.sets.take k ∨ s = r.sets[k] := fun s h => by
      rw [List.take_succ_eq_append_getElem hkl] at h
      rcases List.mem_append.1 h with h | h
      · exact .inl h
      · exact .inr (List.mem_singleton.1 h)
     by_cases hv : r.sets[k].var ≠ i
     · rw [if_neg (by omega)] at hx
       all_goals haveI fA_ : FlagA := ⟨⟩
       all_goals haveI fH_ : FlagH := ⟨⟩
       repeat' (first
        | exact True.intro
        | refine stp ?_
        | refine two ?_ ?_
        | refine allc fun c_ => ?_
        | (refine imp fun hc => ?_) <;> try exact cx1 hc
        | refine all fun v_ => ?_)
       all_goals clear fA_ fH_
       refine ⟨(k + 1, x), ⟨by dsimp only; omega, hx, fun s h he => ?_⟩, by dsimp only; omega, VS.take (by exact takedD) ?_⟩
       · rcases htk s h with h | rfl
         · exact hok2 s h he
         · exact absurd he hv
       · exact leD
     rw [if_pos (by omega)] at hx
     have hE2 := Evaluated G r.sets[k].val vs
     have hno : (evalF r.sets[k].val vs).2 ≠ 0 → afterF m r vs = none := fun h => afterF_set hs fun k => h k.1
     have hyes : (evalF r.sets[k].val vs).2 = 0 → ∀ s ∈ r.sets.take (k + 1), s.var = i → (evalF s.val vs).2 = 0 := fun h0 s h he => by
      rcases htk s h with h | rfl
      · exact hok2 s h he
      · exact h0
     generalize evalF r.sets[k].val vs = p at hE2 hx hno hyes
     obtain ⟨n, e⟩ := p
     dsimp only at hE2 hx hno hyes
     by_cases he : e ≠ 0
     · rw [hno he]
       all_goals haveI fA_ : FlagA := ⟨⟩
       all_goals haveI fH_ : FlagH := ⟨⟩
       repeat' (first
        | refine armXN5_3 ?_
        | exact True.intro
        | refine stp ?_
        | refine two ?_ ?_
        | refine allc fun c_ => ?_
        | (refine imp fun hc => ?_) <;> try exact cx1 hc
        | refine all fun v_ => ?_)
       all_goals clear fA_ fH_
       refine retv (VS.drop (List.nil_sublist _)) ?_
       ((with_reducible apply rq2); rfl; rfl; rfl)
       exact ret_eq rfl
     all_goals haveI fA_ : FlagA := ⟨⟩
     all_goals haveI fH_ : FlagH := ⟨⟩
     repeat' (first
      | refine armXN5_3 ?_
      | exact True.intro
      | refine stp ?_
      | refine two ?_ ?_
      | refine allc fun c_ => ?_
      | (refine imp fun hc => ?_) <;> try exact cx1 hc
      | refine all fun v_ => ?_)
     all_goals clear fA_ fH_
     refine ⟨(k + 1, n), ⟨by dsimp only; omega, hx, hyes (Decidable.not_not.1 he)⟩, by dsimp only; omega, VS.take (by exact takedD) ?_⟩
     exact leD
   obtain rfl : k = r.sets.length := by omega
   rw [upd_end vs r.sets _ (Nat.le_refl _)] at hx
   rw [List.take_length] at hok2
   rw [hx] at hsn
   all_goals haveI fA_ : FlagA := ⟨⟩
   all_goals haveI fH_ : FlagH := ⟨⟩
   repeat' (first
    | exact True.intro
    | refine stp ?_
    | refine two ?_ ?_
    | refine allc fun c_ => ?_
    | (refine imp fun hc => ?_) <;> try exact cx1 hc
    | refine all fun v_ => ?_)
   all_goals clear fA_ fH_
   refine ⟨(i + 1, v_), ⟨by dsimp only; omega, fun s hs h => ?_⟩, by dsimp only; omega, ?_⟩
   · by_cases h0 : s.var = i
     · exact hok2 s hs h0
     · dsimp only at h
       exact hok s hs (by omega)
   · dsimp only
     rw [hsn]
     refine VS.take (by exact takedD) ?_
     exact leD
 obtain rfl : i = vs.length := by omega
 have hev : ∀ s ∈ r.sets, (evalF s.val vs).2 = 0 := fun s hs => hok s hs (by have := (gr.sets s hs).2.1; omega)
 have hfin := after_ref hm hr g h5 hev
 rw [← setAll_upd vs r.sets]
 have hsl := setAll_length vs r.sets vs
 have hC := CodeOf G m (setAll vs r.sets vs)
 refine J_vs (vdat (h1 := []) (h' := [.cells bm 25 [.d (varsD m.vars), .d (rulesD m.rules)], .cells br 137 [.d (opsD r.guard), .d (setsD r.sets)]]) 8 rfl rfl (fun _ => rfl) (by omega) (CvE.cons (t := 13) rfl .here (CvE.refl _ _ _)) (CvH.refl _)) ?_
 generalize setAll vs r.sets vs = out at hfin hC hsl ⊢
 generalize hp : codeF m out = p at hfin hC
 obtain ⟨c, e⟩ := p
 dsimp only at hC hfin
 rcases hfin with ⟨f1, f2⟩ | ⟨f1, f2⟩
 · subst f1
   rw [f2]
   all_goals haveI fA_ : FlagA := ⟨⟩
   all_goals haveI fH_ : FlagH := ⟨⟩
   repeat' (first
    | refine armXN5_4 ?_
    | exact True.intro
    | refine stp ?_
    | refine two ?_ ?_
    | refine allc fun c_ => ?_
    | (refine imp fun hc => ?_) <;> try exact cx1 hc
    | refine all fun v_ => ?_)
   all_goals clear fA_ fH_
   refine retv (VS.drop (List.nil_sublist _)) ?_
   ((with_reducible apply rq2); rfl; rfl; rfl)
   refine ret_eq ?_
   dsimp only
   rw [hp]
 · rw [f2]
   all_goals haveI fA_ : FlagA := ⟨⟩
   all_goals haveI fH_ : FlagH := ⟨⟩
   repeat' (first
    | refine armXN5_4 ?_
    | exact True.intro
    | refine stp ?_
    | refine two ?_ ?_
    | refine allc fun c_ => ?_
    | (refine imp fun hc => ?_) <;> try exact cx1 hc
    | refine all fun v_ => ?_)
   all_goals clear fA_ fH_
   refine retv (VS.drop (List.nil_sublist _)) ?_
   ((with_reducible apply rq2); rfl; rfl; rfl)
   exact ret_eq rfl
end Go.Proofs.YtniklgkoiaeipaaGreatDoor
namespace Go.Proofs.YtniklgkoiaeipaaGreatDoor
open Go Go.Av Go.Sp
set_option linter.unusedVariables false
set_option linter.unusedSimpArgs false
set_option maxRecDepth 100000
set_option maxHeartbeats 4000000
theorem cal_NextOf : Cal Tryz.prog 65 := Cal.of Tryz.func65 (by kernel_rfl) (by kernel_rfl)
theorem armXN8_1 {p q : Prop} (hp : p) (h : p → q := by
 apply cmp; (focus (first
  | ((with_reducible apply call0); (focus rfl); (focus exact cal_StateCount); (focus exact hC); (focus rfl))
  | ((with_reducible apply je_call0); (focus rfl); (focus (decide +kernel)); (focus rfl); (focus exact cal_StateCount); (focus exact hC); (focus rfl))
  | ((with_reducible apply call0); (focus rfl); (focus exact cal_In); (focus exact In _ _ _ _); (focus rfl))
  | ((with_reducible apply je_call0); (focus rfl); (focus (decide +kernel)); (focus rfl); (focus exact cal_In); (focus exact In _ _ _ _); (focus rfl))
  ))
 exact fun h => h) : q := h hp
theorem armXN8_2 {p q : Prop} (hp : p) (h : p → q := by
 apply cmp; (focus (first
  | ((with_reducible apply call0); (focus rfl); (focus exact cal_AfterRule); (focus exact hA); (focus rfl))
  | ((with_reducible apply je_call0); (focus rfl); (focus (decide +kernel)); (focus rfl); (focus exact cal_AfterRule); (focus exact hA); (focus rfl))
  ))
 exact fun h => h) : q := h hp
theorem NextOf (G : List (Nat × List D)) (m : Md) (code : Int) : ACr Tryz.prog G 65 [mdA m, .int code] (.tup [.d (intsD (nextF m code).1), .int (nextF m code).2]) := by
 have hC := StateCount G m
 refine AC_ofV (ts := [4, 5]) Tryz.f65.ntmps Tryz.func65 rfl rfl rfl (by simp [Tryz.ntmps65]) fun W I => ?_
 unfold countF at hC
 by_cases h0 : modelF m ≠ 0
 · have hv : valsF m code = ([], modelF m) := by unfold valsF; rw [if_pos h0]
   rw [nextF_err (by rw [hv]; exact h0), hv]
   rw [if_pos h0] at hC
   dsimp only at hC ⊢
   generalize modelF m = e at hC h0 ⊢
   all_goals haveI fA_ : FlagA := ⟨⟩
   all_goals haveI fH_ : FlagH := ⟨⟩
   repeat' (first
    | refine armXN8_1 ?_
    | exact True.intro
    | refine stp ?_
    | refine two ?_ ?_
    | refine allc fun c_ => ?_
    | (refine imp fun hc => ?_) <;> try exact cx1 hc
    | refine all fun v_ => ?_)
   all_goals clear fA_ fH_
   refine retv (VS.trans (VS.drop (List.nil_sublist _)) (vnil (t := 4) 1 8 rfl)) ?_
   ((with_reducible apply rq2); rfl; rfl; rfl)
   exact ret_eq rfl
 rw [if_neg h0] at hC
 replace h0 := Decidable.not_not.1 h0
 obtain ⟨n, hn, n1, n2⟩ := states_nat h0
 rw [hn] at hC
 dsimp only at hC
 by_cases h1 : ¬ (0 ≤ code ∧ code ≤ (n : Int) - 1)
 · have hv : valsF m code = ([], 9) := by unfold valsF; rw [if_neg (fun k => k h0), if_neg (by rw [hn]; omega)]
   rw [nextF_err (by rw [hv]; decide), hv]
   all_goals haveI fA_ : FlagA := ⟨⟩
   all_goals haveI fH_ : FlagH := ⟨⟩
   repeat' (first
    | refine armXN8_1 ?_
    | exact True.intro
    | refine stp ?_
    | refine two ?_ ?_
    | refine allc fun c_ => ?_
    | (refine imp fun hc => ?_) <;> try exact cx1 hc
    | refine all fun v_ => ?_)
   all_goals clear fA_ fH_
   all_goals
    refine retv (VS.trans (VS.drop (List.nil_sublist _)) (vnil (t := 4) 1 8 rfl)) ?_
    ((with_reducible apply rq2); rfl; rfl; rfl)
    exact ret_eq rfl
 replace h1 := Decidable.not_not.1 h1
 have hv : valsF m code = (valsT m.vars code, 0) := by unfold valsF; rw [if_neg (fun k => k h0), if_pos (by rw [hn]; omega)]
 rw [nextF_ok (by rw [hv])]
 have g := InV.vals h0 h1.1 (by rw [hn]; omega)
 have hr := codesL_range h0 g
 have h12 := modelF_few h0
 rw [hn] at hr ⊢
 rw [Int.toNat_natCast]
 have hat := afterC_at hv
 clear hv
 generalize valsT m.vars code = vs at g hr hat ⊢
 have e0 := isR_nil n
 all_goals haveI fA_ : FlagA := ⟨⟩
 all_goals haveI fH_ : FlagH := ⟨⟩
 repeat' (first
  | refine armXN8_1 ?_
  | exact True.intro
  | refine stp ?_
  | refine two ?_ ?_
  | refine allc fun c_ => ?_
  | (refine imp fun hc => ?_) <;> try exact cx1 hc
  | refine all fun v_ => ?_)
 all_goals clear fA_ fH_
 obtain ⟨bi, rfl⟩ : ∃ x, x = v_ := ⟨v_, rfl⟩
 obtain ⟨bm, rfl⟩ : ∃ x, x = v_ := ⟨v_, rfl⟩
 refine J_loopV (X := Nat) (fun i => [(1, .int code), (2, .val (.pointer (some ⟨bm, 0, none⟩))), (6, .int n), (8, .val (.slice (some ⟨bi, 0, none⟩) n n)), (9, .bool (decide (codesL m vs (m.rules.take i) ≠ []))), (10, .int i)]) (fun i => [.cells bi 4 ((isR n (codesL m vs (m.rules.take i))).map AV.bool), .cells bm 25 [.d (varsD m.vars), .d (rulesD m.rules)]]) (fun i => i ≤ m.rules.length) (fun i => m.rules.length - i) 0 (Nat.zero_le _) (VS.take (by rw [show codesL m vs (m.rules.take 0) = [] from rfl, e0]; exact takedD) ?_) ?_
 · exact leD
 rintro i hi
 have hln := codesL_len m vs (m.rules.take i)
 rw [List.length_take] at hln
 have hrl := isR_len n (codesL m vs (m.rules.take i))
 by_cases hil : i < m.rules.length
 · have hA := AfterRule G m code i
   have hat := hat i hil
   cases ho : afterF m m.rules[i] vs with
   | none =>
     have hs := codesL_none hil ho
     rw [hat.1 ho] at hA
     dsimp only at hA
     all_goals haveI fA_ : FlagA := ⟨⟩
     all_goals haveI fH_ : FlagH := ⟨⟩
     repeat' (first
      | refine armXN8_2 ?_
      | exact True.intro
      | refine stp ?_
      | refine two ?_ ?_
      | refine allc fun c_ => ?_
      | (refine imp fun hc => ?_) <;> try exact cx1 hc
      | refine all fun v_ => ?_)
     all_goals clear fA_ fH_
     refine ⟨i + 1, by omega, by omega, VS.take (by rw [hs]; exact takedD) ?_⟩
     rw [hs]
     exact leD
   | some out =>
     have hs := codesL_some hil ho
     obtain ⟨_, o2, o3, o4⟩ := after_code h0 (List.getElem_mem hil) g ho
     rw [hat.2 out ho] at hA
     rw [hn] at o4
     have hp := isR_put n (codesL m vs (m.rules.take i)) (codeF m out).1 o3
     rw [o2] at hA
     generalize (codeF m out).1 = c at hA hs o3 o4 hp
     all_goals haveI fA_ : FlagA := ⟨⟩
     all_goals haveI fH_ : FlagH := ⟨⟩
     repeat' (first
      | refine armXN8_2 ?_
      | exact True.intro
      | refine stp ?_
      | refine two ?_ ?_
      | refine allc fun c_ => ?_
      | (refine imp fun hc => ?_) <;> try exact cx1 hc
      | refine all fun v_ => ?_)
     all_goals clear fA_ fH_
     refine ⟨i + 1, by omega, by omega, VS.take (by rw [hs, ← hp]; exact takedD) ?_⟩
     rw [hs, show decide (codesL m vs (m.rules.take i) ++ [c] ≠ []) = true by simp]
     exact leD
 obtain rfl : i = m.rules.length := by omega
 rw [List.take_length] at hln hrl ⊢
 generalize codesL m vs m.rules = cs at hr hln hrl ⊢
 by_cases hcs : cs = []
 · subst hcs
   rw [if_pos rfl, show decide (([] : List Int) ≠ []) = false by simp]
   all_goals haveI fA_ : FlagA := ⟨⟩
   all_goals haveI fH_ : FlagH := ⟨⟩
   repeat' (first
    | exact True.intro
    | refine stp ?_
    | refine two ?_ ?_
    | refine allc fun c_ => ?_
    | (refine imp fun hc => ?_) <;> try exact cx1 hc
    | refine all fun v_ => ?_)
   all_goals clear fA_ fH_
   refine retv (VS.drop (List.nil_sublist _)) ?_
   ((with_reducible apply rq2); rfl; rfl; rfl)
   exact ret_eq rfl
 rw [if_neg hcs, show decide (cs ≠ []) = true by simp [hcs]]
 all_goals haveI fA_ : FlagA := ⟨⟩
 all_goals haveI fH_ : FlagH := ⟨⟩
 repeat' (first
  | exact True.intro
  | refine stp ?_
  | refine two ?_ ?_
  | refine allc fun c_ => ?_
  | (refine imp fun hc => ?_) <;> try exact cx1 hc
  | refine all fun v_ => ?_)
 all_goals clear fA_ fH_
 refine jrow (E := 3) (sz := 1) intC ?_
 refine J_loopV (X := Nat × Sl) (fun y => [(6, .int n), (8, .val (.slice (some ⟨bi, 0, none⟩) n n)), (13, .val y.2.v), (14, .int y.1)]) (fun y => [rowE y.2.v 3 1 intC (upTo y.1 cs), .cells bi 4 ((isR n cs).map AV.bool)]) (fun y => y.1 ≤ n) (fun y => n - y.1) (0, Sl.nil) (Nat.zero_le _) (VS.take (by exact takedD) ?_) ?_
 · exact leD
 rintro ⟨k, q⟩ hk
 dsimp only at hk ⊢
 have hul := upTo_len k cs
 by_cases hkn : k < n
 · have hu := upTo_succ k cs
   have hg : ∀ h, (isR n cs)[k]'h = decide ((k : Int) ∈ cs) := fun h => isR_get n cs k h
   generalize isR n cs = R at hrl hg ⊢
   all_goals haveI fA_ : FlagA := ⟨⟩
   all_goals haveI fH_ : FlagH := ⟨⟩
   repeat' (first
    | exact True.intro
    | refine stp ?_
    | refine two ?_ ?_
    | refine allc fun c_ => ?_
    | (refine imp fun hc => ?_) <;> try exact cx1 hc
    | refine all fun v_ => ?_)
   all_goals clear fA_ fH_
   · rw [hg] at hc
     rw [if_pos (of_decide_eq_true hc)] at hu
     refine ⟨(k + 1, v_), by dsimp only; omega, by dsimp only; omega, VS.take (by dsimp only; rw [hu]; exact takedD) ?_⟩
     exact leD
   · rw [hg] at hc
     rw [if_neg (of_decide_eq_false hc), List.append_nil] at hu
     refine ⟨(k + 1, q), by dsimp only; omega, by dsimp only; omega, VS.take (by dsimp only; rw [hu]; exact takedD) ?_⟩
     exact leD
 obtain rfl : k = n := by omega
 all_goals haveI fA_ : FlagA := ⟨⟩
 all_goals haveI fH_ : FlagH := ⟨⟩
 repeat' (first
  | exact True.intro
  | refine stp ?_
  | refine two ?_ ?_
  | refine allc fun c_ => ?_
  | (refine imp fun hc => ?_) <;> try exact cx1 hc
  | refine all fun v_ => ?_)
 all_goals clear fA_ fH_
 refine retv (VS.trans (vfreeze (t := 4) (eb := 8) rfl rfl (fun x => rfl) (by omega)) (VS.drop (List.nil_sublist _))) ?_
 ((with_reducible apply rq2); rfl; rfl; rfl)
 exact ret_eq rfl
end Go.Proofs.YtniklgkoiaeipaaGreatDoor
