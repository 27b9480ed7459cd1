/- A bundle of this claim's own texts: N8 T12. -/
import Derived.Test.YtmamiihpghnmmaaGreatDoorZ19
import Derived.Test.YtmamiihpghnmmaaGreatDoorZ20
namespace Go.Proofs.YtmamiihpghnmmaaGreatDoor
open Go Go.Av Go.Sp
set_option linter.unusedVariables false
set_option linter.unusedSimpArgs false
set_option maxRecDepth 100000
set_option maxHeartbeats 4000000
theorem cal_NextOf : Cal Tryz.prog 36 := Cal.of Tryz.func36 (by kernel_rfl) (by kernel_rfl)
theorem NextOf (G : List (Nat × List D)) (m : Md) (code : Int) : ACr Tryz.prog G 36 [mdA m, .int code] (.tup [.d (intsD (nextF m code).1), .int (nextF m code).2]) := by
  have hC := StateCount G m
  refine AC_ofV (ts := [4, 5]) Tryz.f36.ntmps Tryz.func36 rfl rfl rfl (by simp [Tryz.ntmps36]) fun W I => ?_
  unfold countF at hC
  by_cases h0 : modelF m ≠ 0
  · have hv : valsF m code = ([], modelF m) := by unfold valsF; rw [if_pos h0]
    rw [nextF_err (by rw [hv]; exact h0), hv]
    rw [if_pos h0] at hC
    dsimp only at hC ⊢
    generalize modelF m = e at hC h0 ⊢
    all_goals haveI fA_ : FlagA := ⟨⟩
    all_goals haveI fH_ : FlagH := ⟨⟩
    repeat' (first
      | ((with_reducible apply call0); (focus rfl); (focus exact cal_StateCount); (focus exact hC); (focus rfl))
      | ((with_reducible apply je_call0); (focus rfl); (focus (decide +kernel)); (focus rfl); (focus exact cal_StateCount); (focus exact hC); (focus rfl))
      | ((with_reducible apply call0); (focus rfl); (focus exact cal_In); (focus exact In _ _ _ _); (focus rfl))
      | ((with_reducible apply je_call0); (focus rfl); (focus (decide +kernel)); (focus rfl); (focus exact cal_In); (focus exact In _ _ _ _); (focus rfl))
      | exact True.intro
      | refine stp ?_
      | refine two ?_ ?_
      | refine allc fun c_ => ?_
      | (refine imp fun hc => ?_) <;> try (first | contradiction | (exfalso; omega) | (exfalso; exact absurd (of_dT hc) (by assumption)) | (exfalso; exact of_dF hc (by assumption)))
      | refine all fun v_ => ?_)
    all_goals clear fA_ fH_
    refine retv (VS.trans (VS.drop (List.nil_sublist _)) (vnil (t := 4) 1 8 rfl)) ?_
    ((with_reducible apply rq2); rfl; rfl; rfl)
    exact ret_eq rfl
  rw [if_neg h0] at hC
  replace h0 := Decidable.not_not.1 h0
  obtain ⟨n, hn, n1, n2⟩ := states_nat h0
  rw [hn] at hC
  dsimp only at hC
  by_cases h1 : ¬ (0 ≤ code ∧ code ≤ (n : Int) - 1)
  · have hv : valsF m code = ([], 9) := by unfold valsF; rw [if_neg (fun k => k h0), if_neg (by rw [hn]; omega)]
    rw [nextF_err (by rw [hv]; decide), hv]
    all_goals haveI fA_ : FlagA := ⟨⟩
    all_goals haveI fH_ : FlagH := ⟨⟩
    repeat' (first
      | ((with_reducible apply call0); (focus rfl); (focus exact cal_StateCount); (focus exact hC); (focus rfl))
      | ((with_reducible apply je_call0); (focus rfl); (focus (decide +kernel)); (focus rfl); (focus exact cal_StateCount); (focus exact hC); (focus rfl))
      | ((with_reducible apply call0); (focus rfl); (focus exact cal_In); (focus exact In _ _ _ _); (focus rfl))
      | ((with_reducible apply je_call0); (focus rfl); (focus (decide +kernel)); (focus rfl); (focus exact cal_In); (focus exact In _ _ _ _); (focus rfl))
      | exact True.intro
      | refine stp ?_
      | refine two ?_ ?_
      | refine allc fun c_ => ?_
      | (refine imp fun hc => ?_) <;> try (first | contradiction | (exfalso; omega) | (exfalso; exact absurd (of_dT hc) (by assumption)) | (exfalso; exact of_dF hc (by assumption)))
      | refine all fun v_ => ?_)
    all_goals clear fA_ fH_
    all_goals
      refine retv (VS.trans (VS.drop (List.nil_sublist _)) (vnil (t := 4) 1 8 rfl)) ?_
      ((with_reducible apply rq2); rfl; rfl; rfl)
      exact ret_eq rfl
  replace h1 := Decidable.not_not.1 h1
  have hv : valsF m code = (valsT m.vars code, 0) := by unfold valsF; rw [if_neg (fun k => k h0), if_pos (by rw [hn]; omega)]
  rw [nextF_ok (by rw [hv])]
  have g := InV.vals h0 h1.1 (by rw [hn]; omega)
  have hr := codesL_range h0 g
  have h12 := modelF_few h0
  rw [hn] at hr ⊢
  rw [Int.toNat_natCast]
  have hat := afterC_at hv
  clear hv
  generalize valsT m.vars code = vs at g hr hat ⊢
  have e0 := isR_nil n
  all_goals haveI fA_ : FlagA := ⟨⟩
  all_goals haveI fH_ : FlagH := ⟨⟩
  repeat' (first
    | ((with_reducible apply call0); (focus rfl); (focus exact cal_StateCount); (focus exact hC); (focus rfl))
    | ((with_reducible apply je_call0); (focus rfl); (focus (decide +kernel)); (focus rfl); (focus exact cal_StateCount); (focus exact hC); (focus rfl))
    | ((with_reducible apply call0); (focus rfl); (focus exact cal_In); (focus exact In _ _ _ _); (focus rfl))
    | ((with_reducible apply je_call0); (focus rfl); (focus (decide +kernel)); (focus rfl); (focus exact cal_In); (focus exact In _ _ _ _); (focus rfl))
    | exact True.intro
    | refine stp ?_
    | refine two ?_ ?_
    | refine allc fun c_ => ?_
    | (refine imp fun hc => ?_) <;> try (first | contradiction | (exfalso; omega) | (exfalso; exact absurd (of_dT hc) (by assumption)) | (exfalso; exact of_dF hc (by assumption)))
    | refine all fun v_ => ?_)
  all_goals clear fA_ fH_
  obtain ⟨bi, rfl⟩ : ∃ x, x = v_ := ⟨v_, rfl⟩
  obtain ⟨bm, rfl⟩ : ∃ x, x = v_ := ⟨v_, rfl⟩
  refine J_loopV (X := Nat) (fun i => [(1, .int code), (2, .val (.pointer (some ⟨bm, 0, none⟩))), (6, .int n), (8, .val (.slice (some ⟨bi, 0, none⟩) n n)), (9, .bool (decide (codesL m vs (m.rules.take i) ≠ []))), (10, .int i)]) (fun i => [.cells bi 4 ((isR n (codesL m vs (m.rules.take i))).map AV.bool), .cells bm 25 [.d (varsD m.vars), .d (rulesD m.rules)]]) (fun i => i ≤ m.rules.length) (fun i => m.rules.length - i) 0 (Nat.zero_le _) (VS.take (by rw [show codesL m vs (m.rules.take 0) = [] from rfl, e0]; ((repeat (first | exact Take.nil | ((with_reducible apply Take.cons); (focus ((repeat (first | exact Sel.here | with_reducible apply Sel.there)); done))))); done)) ?_) ?_
  · repeat (first
      | exact Env.le_nil _
      | refine Env.le_cons (AV.le_refl _) ?_
      | refine Env.le_cons (AV.le_int rfl (by first | rfl | omega | (dsimp only; omega))) ?_)
  rintro i hi
  have hln := codesL_len m vs (m.rules.take i)
  rw [List.length_take] at hln
  have hrl := isR_len n (codesL m vs (m.rules.take i))
  by_cases hil : i < m.rules.length
  · have hA := AfterRule G m code i
    have hat := hat i hil
    cases ho : afterF m m.rules[i] vs with
    | none =>
      have hs := codesL_none hil ho
      rw [hat.1 ho] at hA
      dsimp only at hA
      all_goals haveI fA_ : FlagA := ⟨⟩
      all_goals haveI fH_ : FlagH := ⟨⟩
      repeat' (first
        | ((with_reducible apply call0); (focus rfl); (focus exact cal_AfterRule); (focus exact hA); (focus rfl))
        | ((with_reducible apply je_call0); (focus rfl); (focus (decide +kernel)); (focus rfl); (focus exact cal_AfterRule); (focus exact hA); (focus rfl))
        | exact True.intro
        | refine stp ?_
        | refine two ?_ ?_
        | refine allc fun c_ => ?_
        | (refine imp fun hc => ?_) <;> try (first | contradiction | (exfalso; omega) | (exfalso; exact absurd (of_dT hc) (by assumption)) | (exfalso; exact of_dF hc (by assumption)))
        | refine all fun v_ => ?_)
      all_goals clear fA_ fH_
      refine ⟨i + 1, by omega, by omega, VS.take (by rw [hs]; ((repeat (first | exact Take.nil | ((with_reducible apply Take.cons); (focus ((repeat (first | exact Sel.here | with_reducible apply Sel.there)); done))))); done)) ?_⟩
      rw [hs]
      repeat (first
        | exact Env.le_nil _
        | refine Env.le_cons (AV.le_refl _) ?_
        | refine Env.le_cons (AV.le_int rfl (by first | rfl | omega | (dsimp only; omega))) ?_)
    | some out =>
      have hs := codesL_some hil ho
      obtain ⟨_, o2, o3, o4⟩ := after_code h0 (List.getElem_mem hil) g ho
      rw [hat.2 out ho] at hA
      rw [hn] at o4
      have hp := isR_put n (codesL m vs (m.rules.take i)) (codeF m out).1 o3
      rw [o2] at hA
      generalize (codeF m out).1 = c at hA hs o3 o4 hp
      all_goals haveI fA_ : FlagA := ⟨⟩
      all_goals haveI fH_ : FlagH := ⟨⟩
      repeat' (first
        | ((with_reducible apply call0); (focus rfl); (focus exact cal_AfterRule); (focus exact hA); (focus rfl))
        | ((with_reducible apply je_call0); (focus rfl); (focus (decide +kernel)); (focus rfl); (focus exact cal_AfterRule); (focus exact hA); (focus rfl))
        | exact True.intro
        | refine stp ?_
        | refine two ?_ ?_
        | refine allc fun c_ => ?_
        | (refine imp fun hc => ?_) <;> try (first | contradiction | (exfalso; omega) | (exfalso; exact absurd (of_dT hc) (by assumption)) | (exfalso; exact of_dF hc (by assumption)))
        | refine all fun v_ => ?_)
      all_goals clear fA_ fH_
      refine ⟨i + 1, by omega, by omega, VS.take (by rw [hs, ← hp]; ((repeat (first | exact Take.nil | ((with_reducible apply Take.cons); (focus ((repeat (first | exact Sel.here | with_reducible apply Sel.there)); done))))); done)) ?_⟩
      rw [hs, show decide (codesL m vs (m.rules.take i) ++ [c] ≠ []) = true by simp]
      repeat (first
        | exact Env.le_nil _
        | refine Env.le_cons (AV.le_refl _) ?_
        | refine Env.le_cons (AV.le_int rfl (by first | rfl | omega | (dsimp only; omega))) ?_)
  obtain rfl : i = m.rules.length := by omega
  rw [List.take_length] at hln hrl ⊢
  generalize codesL m vs m.rules = cs at hr hln hrl ⊢
  by_cases hcs : cs = []
  · subst hcs
    rw [if_pos rfl, show decide (([] : List Int) ≠ []) = false by simp]
    all_goals haveI fA_ : FlagA := ⟨⟩
    all_goals haveI fH_ : FlagH := ⟨⟩
    repeat' (first
      | exact True.intro
      | refine stp ?_
      | refine two ?_ ?_
      | refine allc fun c_ => ?_
      | (refine imp fun hc => ?_) <;> try (first | contradiction | (exfalso; omega) | (exfalso; exact absurd (of_dT hc) (by assumption)) | (exfalso; exact of_dF hc (by assumption)))
      | refine all fun v_ => ?_)
    all_goals clear fA_ fH_
    refine retv (VS.drop (List.nil_sublist _)) ?_
    ((with_reducible apply rq2); rfl; rfl; rfl)
    exact ret_eq rfl
  rw [if_neg hcs, show decide (cs ≠ []) = true by simp [hcs]]
  all_goals haveI fA_ : FlagA := ⟨⟩
  all_goals haveI fH_ : FlagH := ⟨⟩
  repeat' (first
    | exact True.intro
    | refine stp ?_
    | refine two ?_ ?_
    | refine allc fun c_ => ?_
    | (refine imp fun hc => ?_) <;> try (first | contradiction | (exfalso; omega) | (exfalso; exact absurd (of_dT hc) (by assumption)) | (exfalso; exact of_dF hc (by assumption)))
    | refine all fun v_ => ?_)
  all_goals clear fA_ fH_
  refine jrow (E := 3) (sz := 1) intC ?_
  refine J_loopV (X := Nat × Sl) (fun y => [(6, .int n), (8, .val (.slice (some ⟨bi, 0, none⟩) n n)), (13, .val y.2.v), (14, .int y.1)]) (fun y => [rowE y.2.v 3 1 intC (upTo y.1 cs), .cells bi 4 ((isR n cs).map AV.bool)]) (fun y => y.1 ≤ n) (fun y => n - y.1) (0, Sl.nil) (Nat.zero_le _) (VS.take (by ((repeat (first | exact Take.nil | ((with_reducible apply Take.cons); (focus ((repeat (first | exact Sel.here | with_reducible apply Sel.there)); done))))); done)) ?_) ?_
  · repeat (first
      | exact Env.le_nil _
      | refine Env.le_cons (AV.le_refl _) ?_
      | refine Env.le_cons (AV.le_int rfl (by first | rfl | omega | (dsimp only; omega))) ?_)
  rintro ⟨k, q⟩ hk
  dsimp only at hk ⊢
  have hul := upTo_len k cs
  by_cases hkn : k < n
  · have hu := upTo_succ k cs
    have hg : ∀ h, (isR n cs)[k]'h = decide ((k : Int) ∈ cs) := fun h => isR_get n cs k h
    generalize isR n cs = R at hrl hg ⊢
    all_goals haveI fA_ : FlagA := ⟨⟩
    all_goals haveI fH_ : FlagH := ⟨⟩
    repeat' (first
      | exact True.intro
      | refine stp ?_
      | refine two ?_ ?_
      | refine allc fun c_ => ?_
      | (refine imp fun hc => ?_) <;> try (first | contradiction | (exfalso; omega) | (exfalso; exact absurd (of_dT hc) (by assumption)) | (exfalso; exact of_dF hc (by assumption)))
      | refine all fun v_ => ?_)
    all_goals clear fA_ fH_
    · rw [hg] at hc
      rw [if_pos (of_decide_eq_true hc)] at hu
      refine ⟨(k + 1, v_), by dsimp only; omega, by dsimp only; omega, VS.take (by dsimp only; rw [hu]; ((repeat (first | exact Take.nil | ((with_reducible apply Take.cons); (focus ((repeat (first | exact Sel.here | with_reducible apply Sel.there)); done))))); done)) ?_⟩
      repeat (first
        | exact Env.le_nil _
        | refine Env.le_cons (AV.le_refl _) ?_
        | refine Env.le_cons (AV.le_int rfl (by first | rfl | omega | (dsimp only; omega))) ?_)
    · rw [hg] at hc
      rw [if_neg (of_decide_eq_false hc), List.append_nil] at hu
      refine ⟨(k + 1, q), by dsimp only; omega, by dsimp only; omega, VS.take (by dsimp only; rw [hu]; ((repeat (first | exact Take.nil | ((with_reducible apply Take.cons); (focus ((repeat (first | exact Sel.here | with_reducible apply Sel.there)); done))))); done)) ?_⟩
      repeat (first
        | exact Env.le_nil _
        | refine Env.le_cons (AV.le_refl _) ?_
        | refine Env.le_cons (AV.le_int rfl (by first | rfl | omega | (dsimp only; omega))) ?_)
  obtain rfl : k = n := by omega
  all_goals haveI fA_ : FlagA := ⟨⟩
  all_goals haveI fH_ : FlagH := ⟨⟩
  repeat' (first
    | exact True.intro
    | refine stp ?_
    | refine two ?_ ?_
    | refine allc fun c_ => ?_
    | (refine imp fun hc => ?_) <;> try (first | contradiction | (exfalso; omega) | (exfalso; exact absurd (of_dT hc) (by assumption)) | (exfalso; exact of_dF hc (by assumption)))
    | refine all fun v_ => ?_)
  all_goals clear fA_ fH_
  refine retv (VS.trans (vfreeze (t := 4) (eb := 8) rfl rfl (fun x => rfl) (by omega)) (VS.drop (List.nil_sublist _))) ?_
  ((with_reducible apply rq2); rfl; rfl; rfl)
  exact ret_eq rfl
end Go.Proofs.YtmamiihpghnmmaaGreatDoor
namespace Go.Proofs.YtmamiihpghnmmaaGreatDoor
open Go Go.Av Go.Sp
set_option linter.unusedVariables false
set_option linter.unusedSimpArgs false
set_option maxRecDepth 100000
set_option maxHeartbeats 4000000

theorem cal_keeps : Cal Tryz.prog 68 := Cal.of Tryz.func68 (by kernel_rfl) (by kernel_rfl)
theorem cal_Follows : Cal Tryz.prog 27 := Cal.of Tryz.func27 (by kernel_rfl) (by kernel_rfl)
theorem cal_FollowsOn : Cal Tryz.prog 37 := Cal.of Tryz.func37 (by kernel_rfl) (by kernel_rfl)
theorem ahead_parts {k : Int} (h : aheadP k) : 1 ≤ (partsOf k).1 ∧ (k = 15 ∨ k = 16 → (partsOf k).1 = 2) := by
  have : k = 14 ∨ k = 15 ∨ k = 16 ∨ k = 17 ∨ k = 18 := by unfold aheadP at h; omega
  rcases this with h | h | h | h | h <;> subst h <;> exact ⟨by decide, by decide⟩
theorem keeps (G : List (Nat × List D)) (a b : List Bool) (k : Int) (i s : Nat) (hk : aheadP k) (ha : i + 1 < a.length) (hb : i + 1 < b.length) (hl : a.length ≤ 60) (hs : k = 15 ∨ k = 16 → s < a.length) :
    ACr Tryz.prog G 68 [.agg [.d (boolsD a), .d (boolsD b)], .int k, .int i, .int s] (.bool (a[i] == lawB k a[i + 1] (a[s]?.getD false) b[i] b[i + 1])) := by
  refine AC_ofV (ts := [8]) Tryz.f68.ntmps Tryz.func68 rfl rfl rfl (by simp [Tryz.ntmps68]) fun W I => ?_
  by_cases h1 : k = 15 ∨ k = 16
  · have hs' := hs h1
    all_goals haveI fA_ : FlagA := ⟨⟩
    repeat' (first
      | exact True.intro
      | refine stp ?_
      | refine two ?_ ?_
      | (refine imp fun hc => ?_) <;> try (first | contradiction | (exfalso; omega))
      | refine all fun v_ => ?_)
    all_goals clear fA_
    all_goals
      refine retv (VS.drop (List.nil_sublist _)) ?_
      ((with_reducible apply rq1); rfl; rfl)
      refine ret_eq (congrArg AV.bool ?_)
      rw [List.getElem?_eq_getElem hs']
      unfold lawB
      rw [if_neg (by omega), if_neg (by omega), if_neg (by omega)]
      first
        | ((rw [if_pos (by omega)] <;> simp_all); done)
        | ((rw [if_neg (by omega)] <;> simp_all); done)
  · unfold aheadP at hk
    all_goals haveI fA_ : FlagA := ⟨⟩
    repeat' (first
      | exact True.intro
      | refine stp ?_
      | refine two ?_ ?_
      | (refine imp fun hc => ?_) <;> try (first | contradiction | (exfalso; omega))
      | refine all fun v_ => ?_)
    all_goals clear fA_
    all_goals
      refine retv (VS.drop (List.nil_sublist _)) ?_
      ((with_reducible apply rq1); rfl; rfl)
      refine ret_eq (congrArg AV.bool ?_)
      unfold lawB
      first
        | ((rw [if_pos (by omega)] <;> simp_all); done)
        | ((rw [if_neg (by omega), if_pos (by omega)] <;> simp_all); done)
        | ((rw [if_neg (by omega), if_neg (by omega), if_pos (by omega)] <;> simp_all); done)
set_option maxHeartbeats 1000000 in
theorem Follows (l : List Fo) (x : List Bool) (c : Int) (y : List Bool) (d : Int) : ACr Tryz.prog GP 27 [.d (opsD l), .d (boolsD x), .int c, .d (boolsD y), .int d] (.tup [.bool (followsOf l x c y d).1, .int (followsOf l x c y d).2]) := by
  have hX := Truths l x c
  have hY := Truths l y d
  have hE := Ends l
  generalize hx : truthsOf l x c = p at hX
  obtain ⟨a, e⟩ := p
  generalize hy : truthsOf l y d = q at hY
  obtain ⟨b, e'⟩ := q
  generalize he : endsOf l = q at hE
  obtain ⟨es, e2⟩ := q
  dsimp only at hX hY hE
  have hke := True.intro
  refine AC_ofV (ts := [10, 11]) Tryz.f27.ntmps Tryz.func27 rfl rfl rfl (by simp [Tryz.ntmps27]) fun W I => ?_
  refine jfact (t := 0) rfl fun hl0 => ?_
  refine jfact (t := 1) rfl fun hl1 => ?_
  refine jfact (t := 3) rfl fun hl3 => ?_
  all_goals haveI fA_ : FlagA := ⟨⟩
  repeat' (first
    | ((with_reducible apply call0); (focus rfl); (focus exact cal_Truths); (focus exact hX); (focus rfl))
    | ((with_reducible apply je_call0); (focus rfl); (focus (decide +kernel)); (focus rfl); (focus exact cal_Truths); (focus exact hX); (focus rfl))
    | ((with_reducible apply call0); (focus rfl); (focus exact cal_Truths); (focus exact hY); (focus rfl))
    | ((with_reducible apply je_call0); (focus rfl); (focus (decide +kernel)); (focus rfl); (focus exact cal_Truths); (focus exact hY); (focus rfl))
    | ((with_reducible apply call0); (focus rfl); (focus exact cal_Ends); (focus exact hE); (focus rfl))
    | ((with_reducible apply je_call0); (focus rfl); (focus (decide +kernel)); (focus rfl); (focus exact cal_Ends); (focus exact hE); (focus rfl))
    | ((with_reducible apply qcall); (focus rfl); (focus exact cal_ahead); (focus exact ahead _ _); (focus rfl))
    | ((with_reducible apply qcall); (focus rfl); (focus exact cal_keeps); (focus exact hke); (focus rfl))
    | exact True.intro
    | refine stp ?_
    | refine two ?_ ?_
    | (refine imp fun hc => ?_) <;> try (first | contradiction | (exfalso; omega))
    | refine all fun v_ => ?_)
  all_goals clear fA_
  all_goals try (
    refine retv0 ?_
    ((with_reducible apply rq2); rfl; rfl; rfl)
    refine ret_eq ?_
    unfold followsOf
    rw [hx, hy]
    first
      | (rw [if_pos (by omega)])
      | (rw [if_neg (by omega), if_pos (by assumption)])
      | (rw [if_neg (by omega), if_neg (by assumption), if_pos (by assumption)]))
  have h1 : e = 0 := by omega
  have h2 : e' = 0 := by omega
  subst h1 h2
  have hs : followsOf l x c y d = (decide (kept l (tAt l x c) (tAt l y d)), 0) := by
    unfold followsOf
    rw [hx, hy, if_neg (by omega)]; rfl
  obtain ⟨g, ta⟩ := truthsOf_ok hx
  obtain ⟨_, tb⟩ := truthsOf_ok hy
  have h60 := g.h60
  have hal := ta.len
  have hbl := tb.len
  have he2 : e2 = 0 := by have := g.ends; rw [he] at this; exact this
  subst he2
  obtain ⟨_, _, _, hlen, hes⟩ := endsOf_ok he
  refine J_loopV (X := Nat) (fun i => [(12, .d (boolsD a)), (14, .d (boolsD b)), (15, .d (intsD es)), (49, .d (opsD l)), (50, .int l.length), (51, .int i)]) (fun _ => []) (fun i => i ≤ l.length ∧ ∀ q, q < i → keptAt l (tAt l x c) (tAt l y d) q) (fun i => l.length - i) 0 ⟨Nat.zero_le _, fun q hq => by omega⟩ (VS.of_le ?_) ?_
  · repeat (first
      | exact Env.le_nil _
      | refine Env.le_cons (AV.le_refl _) ?_
      | refine Env.le_cons (AV.le_int rfl (by first | rfl | omega | (dsimp only; omega))) ?_)
  rintro i ⟨k1, k2⟩
  by_cases hi : i < l.length
  · have hki := kindAt_eq l i hi
    by_cases hah : aheadP l[i].kind
    · obtain ⟨pa, pb⟩ := ahead_parts hah
      obtain ⟨q1, q2, q3, q4, q5⟩ := first_in hi (g.well i hi) pa
      have he1 : es[i + 1] = (second l i : Int) := by rw [hes (i + 1) (by omega), ← q4]
      have hsec : l[i].kind = 15 ∨ l[i].kind = 16 → second l i < a.length := fun h => by have := (second_in hi (g.well i hi) (pb h)).1; omega
      have hke := keeps GP a b l[i].kind i (second l i) hah (by omega) (by omega) (by omega) hsec
      rw [← he1] at hke
      have hd : decide (aheadP l[i].kind) = true := decide_eq_true hah
      generalize hbb : (a[i] == lawB l[i].kind a[i + 1] (a[second l i]?.getD false) b[i] b[i + 1]) = bb at hke
      have hka : keptAt l (tAt l x c) (tAt l y d) i ↔ bb = true := by
        rw [← hbb, beq_iff_eq]
        unfold keptAt
        rw [hki, ta.get, ta.get, tb.get, tb.get]
        rw [lawB_second (tAt l x c (i + 1)) (a[second l i]?.getD false) (tAt l x c (second l i)) (tAt l y d i) (tAt l y d (i + 1)) hah fun h => by rw [List.getElem?_eq_getElem (hsec h)]; exact ta.get _ _]
        exact ⟨fun h => h hah, fun h _ => h⟩
      cases bb with
      | true =>
        all_goals haveI fA_ : FlagA := ⟨⟩
        repeat' (first
          | ((with_reducible apply call0); (focus rfl); (focus exact cal_Truths); (focus exact hX); (focus rfl))
          | ((with_reducible apply je_call0); (focus rfl); (focus (decide +kernel)); (focus rfl); (focus exact cal_Truths); (focus exact hX); (focus rfl))
          | ((with_reducible apply call0); (focus rfl); (focus exact cal_Truths); (focus exact hY); (focus rfl))
          | ((with_reducible apply je_call0); (focus rfl); (focus (decide +kernel)); (focus rfl); (focus exact cal_Truths); (focus exact hY); (focus rfl))
          | ((with_reducible apply call0); (focus rfl); (focus exact cal_Ends); (focus exact hE); (focus rfl))
          | ((with_reducible apply je_call0); (focus rfl); (focus (decide +kernel)); (focus rfl); (focus exact cal_Ends); (focus exact hE); (focus rfl))
          | ((with_reducible apply qcall); (focus rfl); (focus exact cal_ahead); (focus exact ahead _ _); (focus rfl))
          | ((with_reducible apply qcall); (focus rfl); (focus exact cal_keeps); (focus exact hke); (focus rfl))
          | exact True.intro
          | refine stp ?_
          | refine two ?_ ?_
          | (refine imp fun hc => ?_) <;> try (first | contradiction | (exfalso; omega))
          | refine all fun v_ => ?_)
        all_goals clear fA_
        refine ⟨i + 1, ⟨by omega, fun q hq => ?_⟩, by omega, vle (List.nil_sublist _) ?_⟩
        · by_cases hqi : q < i
          · exact k2 q hqi
          · obtain rfl : q = i := by omega
            exact hka.2 rfl
        · repeat (first
            | exact Env.le_nil _
            | refine Env.le_cons (AV.le_refl _) ?_
            | refine Env.le_cons (AV.le_int rfl (by first | rfl | omega | (dsimp only; omega))) ?_)
      | false =>
        all_goals haveI fA_ : FlagA := ⟨⟩
        repeat' (first
          | ((with_reducible apply call0); (focus rfl); (focus exact cal_Truths); (focus exact hX); (focus rfl))
          | ((with_reducible apply je_call0); (focus rfl); (focus (decide +kernel)); (focus rfl); (focus exact cal_Truths); (focus exact hX); (focus rfl))
          | ((with_reducible apply call0); (focus rfl); (focus exact cal_Truths); (focus exact hY); (focus rfl))
          | ((with_reducible apply je_call0); (focus rfl); (focus (decide +kernel)); (focus rfl); (focus exact cal_Truths); (focus exact hY); (focus rfl))
          | ((with_reducible apply call0); (focus rfl); (focus exact cal_Ends); (focus exact hE); (focus rfl))
          | ((with_reducible apply je_call0); (focus rfl); (focus (decide +kernel)); (focus rfl); (focus exact cal_Ends); (focus exact hE); (focus rfl))
          | ((with_reducible apply qcall); (focus rfl); (focus exact cal_ahead); (focus exact ahead _ _); (focus rfl))
          | ((with_reducible apply qcall); (focus rfl); (focus exact cal_keeps); (focus exact hke); (focus rfl))
          | exact True.intro
          | refine stp ?_
          | refine two ?_ ?_
          | (refine imp fun hc => ?_) <;> try (first | contradiction | (exfalso; omega))
          | refine all fun v_ => ?_)
        all_goals clear fA_
        refine retv (VS.drop (List.nil_sublist _)) ?_
        ((with_reducible apply rq2); rfl; rfl; rfl)
        refine ret_eq ?_
        rw [hs, decide_eq_false (fun h => by have := hka.1 (h i hi); cases this)]
    · all_goals haveI fA_ : FlagA := ⟨⟩
      repeat' (first
        | ((with_reducible apply call0); (focus rfl); (focus exact cal_Truths); (focus exact hX); (focus rfl))
        | ((with_reducible apply je_call0); (focus rfl); (focus (decide +kernel)); (focus rfl); (focus exact cal_Truths); (focus exact hX); (focus rfl))
        | ((with_reducible apply call0); (focus rfl); (focus exact cal_Truths); (focus exact hY); (focus rfl))
        | ((with_reducible apply je_call0); (focus rfl); (focus (decide +kernel)); (focus rfl); (focus exact cal_Truths); (focus exact hY); (focus rfl))
        | ((with_reducible apply call0); (focus rfl); (focus exact cal_Ends); (focus exact hE); (focus rfl))
        | ((with_reducible apply je_call0); (focus rfl); (focus (decide +kernel)); (focus rfl); (focus exact cal_Ends); (focus exact hE); (focus rfl))
        | ((with_reducible apply qcall); (focus rfl); (focus exact cal_ahead); (focus exact ahead _ _); (focus rfl))
        | ((with_reducible apply qcall); (focus rfl); (focus exact cal_keeps); (focus exact hke); (focus rfl))
        | exact True.intro
        | refine stp ?_
        | refine two ?_ ?_
        | (refine imp fun hc => ?_) <;> try (first | contradiction | (exfalso; omega))
        | refine all fun v_ => ?_)
      all_goals clear fA_
      refine ⟨i + 1, ⟨by omega, fun q hq => ?_⟩, by omega, vle (List.nil_sublist _) ?_⟩
      · by_cases hqi : q < i
        · exact k2 q hqi
        · obtain rfl : q = i := by omega
          intro h
          rw [hki] at h
          exact absurd h hah
      · repeat (first
          | exact Env.le_nil _
          | refine Env.le_cons (AV.le_refl _) ?_
          | refine Env.le_cons (AV.le_int rfl (by first | rfl | omega | (dsimp only; omega))) ?_)
  · all_goals haveI fA_ : FlagA := ⟨⟩
    repeat' (first
      | ((with_reducible apply call0); (focus rfl); (focus exact cal_Truths); (focus exact hX); (focus rfl))
      | ((with_reducible apply je_call0); (focus rfl); (focus (decide +kernel)); (focus rfl); (focus exact cal_Truths); (focus exact hX); (focus rfl))
      | ((with_reducible apply call0); (focus rfl); (focus exact cal_Truths); (focus exact hY); (focus rfl))
      | ((with_reducible apply je_call0); (focus rfl); (focus (decide +kernel)); (focus rfl); (focus exact cal_Truths); (focus exact hY); (focus rfl))
      | ((with_reducible apply call0); (focus rfl); (focus exact cal_Ends); (focus exact hE); (focus rfl))
      | ((with_reducible apply je_call0); (focus rfl); (focus (decide +kernel)); (focus rfl); (focus exact cal_Ends); (focus exact hE); (focus rfl))
      | ((with_reducible apply qcall); (focus rfl); (focus exact cal_ahead); (focus exact ahead _ _); (focus rfl))
      | ((with_reducible apply qcall); (focus rfl); (focus exact cal_keeps); (focus exact hke); (focus rfl))
      | exact True.intro
      | refine stp ?_
      | refine two ?_ ?_
      | (refine imp fun hc => ?_) <;> try (first | contradiction | (exfalso; omega))
      | refine all fun v_ => ?_)
    all_goals clear fA_
    refine retv (VS.drop (List.nil_sublist _)) ?_
    ((with_reducible apply rq2); rfl; rfl; rfl)
    refine ret_eq ?_
    have hkk : kept l (tAt l x c) (tAt l y d) := fun q hq => k2 q (by omega)
    rw [hs, decide_eq_true hkk]
set_option maxHeartbeats 4000000 in
theorem FollowsOn (G : List (Nat × List D)) (l : List Fo) (x : List Bool) (c : Int) (y : List Bool) (d : Int) : ACr Tryz.prog G 37 [.d (opsD l), .d (boolsD x), .int c, .d (boolsD y), .int d] (.tup [.bool (followsOf l x c y d).1, .int (followsOf l x c y d).2]) := by
  have hX := TruthsOf G l x c
  have hY := TruthsOf G l y d
  generalize hx : truthsOf l x c = p at hX
  obtain ⟨a, e⟩ := p
  generalize hy : truthsOf l y d = q at hY
  obtain ⟨b, e'⟩ := q
  dsimp only at hX hY
  have hsa := True.intro
  refine AC_ofV (ts := [10, 11]) Tryz.f37.ntmps Tryz.func37 rfl rfl rfl (by simp [Tryz.ntmps37]) fun W I => ?_
  refine jfact (t := 0) rfl fun hl0 => ?_
  refine jfact (t := 1) rfl fun hl1 => ?_
  refine jfact (t := 3) rfl fun hl3 => ?_
  all_goals haveI fA_ : FlagA := ⟨⟩
  repeat' (first
    | ((with_reducible apply call0); (focus rfl); (focus exact cal_TruthsOf); (focus exact hX); (focus rfl))
    | ((with_reducible apply je_call0); (focus rfl); (focus (decide +kernel)); (focus rfl); (focus exact cal_TruthsOf); (focus exact hX); (focus rfl))
    | ((with_reducible apply call0); (focus rfl); (focus exact cal_TruthsOf); (focus exact hY); (focus rfl))
    | ((with_reducible apply je_call0); (focus rfl); (focus (decide +kernel)); (focus rfl); (focus exact cal_TruthsOf); (focus exact hY); (focus rfl))
    | ((with_reducible apply call0); (focus rfl); (focus exact cal_looksAhead); (focus exact looksAhead _ _); (focus rfl))
    | ((with_reducible apply je_call0); (focus rfl); (focus (decide +kernel)); (focus rfl); (focus exact cal_looksAhead); (focus exact looksAhead _ _); (focus rfl))
    | ((with_reducible apply call0); (focus rfl); (focus exact cal_secondAt); (focus exact hsa); (focus rfl))
    | ((with_reducible apply je_call0); (focus rfl); (focus (decide +kernel)); (focus rfl); (focus exact cal_secondAt); (focus exact hsa); (focus rfl))
    | exact True.intro
    | refine stp ?_
    | refine two ?_ ?_
    | (refine imp fun hc => ?_) <;> try (first | contradiction | (exfalso; omega))
    | refine all fun v_ => ?_)
  all_goals clear fA_
  all_goals try (
    refine retv0 ?_
    ((with_reducible apply rq2); rfl; rfl; rfl)
    refine ret_eq ?_
    unfold followsOf
    rw [hx, hy]
    first
      | (rw [if_pos (by omega)])
      | (rw [if_neg (by omega), if_pos (by assumption)])
      | (rw [if_neg (by omega), if_neg (by assumption), if_pos (by assumption)]))
  have h1 : e = 0 := by omega
  have h2 : e' = 0 := by omega
  subst h1 h2
  have hs : followsOf l x c y d = (decide (kept l (tAt l x c) (tAt l y d)), 0) := by
    unfold followsOf
    rw [hx, hy, if_neg (by omega)]; rfl
  obtain ⟨g, ta⟩ := truthsOf_ok hx
  obtain ⟨_, tb⟩ := truthsOf_ok hy
  have h60 := g.h60
  have hal := ta.len
  have hbl := tb.len
  refine J_loopV (X := Nat) (fun i => [(0, .d (opsD l)), (12, .d (boolsD a)), (14, .d (boolsD b)), (15, .int i)]) (fun _ => []) (fun i => i ≤ l.length ∧ ∀ q, q < i → keptAt l (tAt l x c) (tAt l y d) q) (fun i => l.length - i) 0 ⟨Nat.zero_le _, fun q hq => by omega⟩ (VS.of_le ?_) ?_
  · repeat (first
      | exact Env.le_nil _
      | refine Env.le_cons (AV.le_refl _) ?_
      | refine Env.le_cons (AV.le_int rfl (by first | rfl | omega | (dsimp only; omega))) ?_)
  rintro i ⟨k1, k2⟩
  by_cases hi : i < l.length
  · have hki := kindAt_eq l i hi
    by_cases hah : aheadP l[i].kind
    · obtain ⟨pa, pb⟩ := ahead_parts hah
      obtain ⟨q1, q2, q3, q4, q5⟩ := first_in hi (g.well i hi) pa
      have hsa := secondAt G l i (by omega)
      rw [q4] at hsa
      have hka : keptAt l (tAt l x c) (tAt l y d) i ↔ a[i] = lawB l[i].kind a[i + 1] (tAt l x c (second l i)) b[i] b[i + 1] := by
        unfold keptAt
        rw [hki, ta.get, ta.get, tb.get, tb.get]
        exact ⟨fun h => h hah, fun h _ => h⟩
      have hsec : l[i].kind = 15 ∨ l[i].kind = 16 → ∃ h : second l i < a.length, a[second l i] = tAt l x c (second l i) := fun h => ⟨by have := (second_in hi (g.well i hi) (pb h)).1; omega, ta.get _ _⟩
      generalize hS : tAt l x c (second l i) = S at hka hsec
      unfold lawB at hka
      unfold aheadP at hah
      generalize hwb : (if l[i].kind = 14 then b[i + 1] else if l[i].kind = 17 then a[i + 1] || b[i] else if l[i].kind = 18 then a[i + 1] && b[i] else if l[i].kind = 15 then S || (a[i + 1] && b[i]) else S && (a[i + 1] || b[i])) = w at hka
      by_cases h56 : l[i].kind = 15 ∨ l[i].kind = 16
      · obtain ⟨s1, s2⟩ := hsec h56
        all_goals haveI fA_ : FlagA := ⟨⟩
        repeat' (first
          | ((with_reducible apply call0); (focus rfl); (focus exact cal_TruthsOf); (focus exact hX); (focus rfl))
          | ((with_reducible apply je_call0); (focus rfl); (focus (decide +kernel)); (focus rfl); (focus exact cal_TruthsOf); (focus exact hX); (focus rfl))
          | ((with_reducible apply call0); (focus rfl); (focus exact cal_TruthsOf); (focus exact hY); (focus rfl))
          | ((with_reducible apply je_call0); (focus rfl); (focus (decide +kernel)); (focus rfl); (focus exact cal_TruthsOf); (focus exact hY); (focus rfl))
          | ((with_reducible apply call0); (focus rfl); (focus exact cal_looksAhead); (focus exact looksAhead _ _); (focus rfl))
          | ((with_reducible apply je_call0); (focus rfl); (focus (decide +kernel)); (focus rfl); (focus exact cal_looksAhead); (focus exact looksAhead _ _); (focus rfl))
          | ((with_reducible apply call0); (focus rfl); (focus exact cal_secondAt); (focus exact hsa); (focus rfl))
          | ((with_reducible apply je_call0); (focus rfl); (focus (decide +kernel)); (focus rfl); (focus exact cal_secondAt); (focus exact hsa); (focus rfl))
          | exact True.intro
          | refine stp ?_
          | refine two ?_ ?_
          | (refine imp fun hc => ?_) <;> try (first | contradiction | (exfalso; omega))
          | refine all fun v_ => ?_)
        all_goals clear fA_
        all_goals
          first
            | (refine ⟨i + 1, ⟨by omega, fun q hq => ?_⟩, by omega, VS.of_le ?_⟩
               · by_cases hqi : q < i
                 · exact k2 q hqi
                 · obtain rfl : q = i := by omega
                   refine hka.2 ?_
                   rw [← hwb]
                   clear hka k2 hX hY hs hx hy ta tb hsa hl0 hl1 hl3 q2 q4 q5 g pb hsec
                   simp_all
               · repeat (first
                   | exact Env.le_nil _
                   | refine Env.le_cons (AV.le_refl _) ?_
                   | refine Env.le_cons (AV.le_int rfl (by first | rfl | omega | (dsimp only; omega))) ?_))
            | (refine retv0 ?_
               ((with_reducible apply rq2); rfl; rfl; rfl)
               refine ret_eq ?_
               have hno : ¬ (a[i] = w) := by
                 rw [← hwb]
                 clear hka k2 hX hY hs hx hy ta tb hsa hl0 hl1 hl3 q2 q4 q5 g pb hsec
                 simp_all
               have hkk : ¬ kept l (tAt l x c) (tAt l y d) := fun h => hno (hka.1 (h i hi))
               rw [hs, decide_eq_false hkk])
      · all_goals haveI fA_ : FlagA := ⟨⟩
        repeat' (first
          | ((with_reducible apply call0); (focus rfl); (focus exact cal_TruthsOf); (focus exact hX); (focus rfl))
          | ((with_reducible apply je_call0); (focus rfl); (focus (decide +kernel)); (focus rfl); (focus exact cal_TruthsOf); (focus exact hX); (focus rfl))
          | ((with_reducible apply call0); (focus rfl); (focus exact cal_TruthsOf); (focus exact hY); (focus rfl))
          | ((with_reducible apply je_call0); (focus rfl); (focus (decide +kernel)); (focus rfl); (focus exact cal_TruthsOf); (focus exact hY); (focus rfl))
          | ((with_reducible apply call0); (focus rfl); (focus exact cal_looksAhead); (focus exact looksAhead _ _); (focus rfl))
          | ((with_reducible apply je_call0); (focus rfl); (focus (decide +kernel)); (focus rfl); (focus exact cal_looksAhead); (focus exact looksAhead _ _); (focus rfl))
          | ((with_reducible apply call0); (focus rfl); (focus exact cal_secondAt); (focus exact hsa); (focus rfl))
          | ((with_reducible apply je_call0); (focus rfl); (focus (decide +kernel)); (focus rfl); (focus exact cal_secondAt); (focus exact hsa); (focus rfl))
          | exact True.intro
          | refine stp ?_
          | refine two ?_ ?_
          | (refine imp fun hc => ?_) <;> try (first | contradiction | (exfalso; omega))
          | refine all fun v_ => ?_)
        all_goals clear fA_
        all_goals
          first
            | (refine ⟨i + 1, ⟨by omega, fun q hq => ?_⟩, by omega, VS.of_le ?_⟩
               · by_cases hqi : q < i
                 · exact k2 q hqi
                 · obtain rfl : q = i := by omega
                   refine hka.2 ?_
                   rw [← hwb]
                   clear hka k2 hX hY hs hx hy ta tb hsa hl0 hl1 hl3 q2 q4 q5 g pb hsec
                   simp_all
               · repeat (first
                   | exact Env.le_nil _
                   | refine Env.le_cons (AV.le_refl _) ?_
                   | refine Env.le_cons (AV.le_int rfl (by first | rfl | omega | (dsimp only; omega))) ?_))
            | (refine retv0 ?_
               ((with_reducible apply rq2); rfl; rfl; rfl)
               refine ret_eq ?_
               have hno : ¬ (a[i] = w) := by
                 rw [← hwb]
                 clear hka k2 hX hY hs hx hy ta tb hsa hl0 hl1 hl3 q2 q4 q5 g pb hsec
                 simp_all
               have hkk : ¬ kept l (tAt l x c) (tAt l y d) := fun h => hno (hka.1 (h i hi))
               rw [hs, decide_eq_false hkk])
    · all_goals haveI fA_ : FlagA := ⟨⟩
      repeat' (first
        | ((with_reducible apply call0); (focus rfl); (focus exact cal_TruthsOf); (focus exact hX); (focus rfl))
        | ((with_reducible apply je_call0); (focus rfl); (focus (decide +kernel)); (focus rfl); (focus exact cal_TruthsOf); (focus exact hX); (focus rfl))
        | ((with_reducible apply call0); (focus rfl); (focus exact cal_TruthsOf); (focus exact hY); (focus rfl))
        | ((with_reducible apply je_call0); (focus rfl); (focus (decide +kernel)); (focus rfl); (focus exact cal_TruthsOf); (focus exact hY); (focus rfl))
        | ((with_reducible apply call0); (focus rfl); (focus exact cal_looksAhead); (focus exact looksAhead _ _); (focus rfl))
        | ((with_reducible apply je_call0); (focus rfl); (focus (decide +kernel)); (focus rfl); (focus exact cal_looksAhead); (focus exact looksAhead _ _); (focus rfl))
        | ((with_reducible apply call0); (focus rfl); (focus exact cal_secondAt); (focus exact hsa); (focus rfl))
        | ((with_reducible apply je_call0); (focus rfl); (focus (decide +kernel)); (focus rfl); (focus exact cal_secondAt); (focus exact hsa); (focus rfl))
        | exact True.intro
        | refine stp ?_
        | refine two ?_ ?_
        | (refine imp fun hc => ?_) <;> try (first | contradiction | (exfalso; omega))
        | refine all fun v_ => ?_)
      all_goals clear fA_
      refine ⟨i + 1, ⟨by omega, fun q hq => ?_⟩, by omega, vle (List.nil_sublist _) ?_⟩
      · by_cases hqi : q < i
        · exact k2 q hqi
        · obtain rfl : q = i := by omega
          intro h
          rw [hki] at h
          exact absurd h hah
      · repeat (first
          | exact Env.le_nil _
          | refine Env.le_cons (AV.le_refl _) ?_
          | refine Env.le_cons (AV.le_int rfl (by first | rfl | omega | (dsimp only; omega))) ?_)
  · all_goals haveI fA_ : FlagA := ⟨⟩
    repeat' (first
      | ((with_reducible apply call0); (focus rfl); (focus exact cal_TruthsOf); (focus exact hX); (focus rfl))
      | ((with_reducible apply je_call0); (focus rfl); (focus (decide +kernel)); (focus rfl); (focus exact cal_TruthsOf); (focus exact hX); (focus rfl))
      | ((with_reducible apply call0); (focus rfl); (focus exact cal_TruthsOf); (focus exact hY); (focus rfl))
      | ((with_reducible apply je_call0); (focus rfl); (focus (decide +kernel)); (focus rfl); (focus exact cal_TruthsOf); (focus exact hY); (focus rfl))
      | ((with_reducible apply call0); (focus rfl); (focus exact cal_looksAhead); (focus exact looksAhead _ _); (focus rfl))
      | ((with_reducible apply je_call0); (focus rfl); (focus (decide +kernel)); (focus rfl); (focus exact cal_looksAhead); (focus exact looksAhead _ _); (focus rfl))
      | ((with_reducible apply call0); (focus rfl); (focus exact cal_secondAt); (focus exact hsa); (focus rfl))
      | ((with_reducible apply je_call0); (focus rfl); (focus (decide +kernel)); (focus rfl); (focus exact cal_secondAt); (focus exact hsa); (focus rfl))
      | exact True.intro
      | refine stp ?_
      | refine two ?_ ?_
      | (refine imp fun hc => ?_) <;> try (first | contradiction | (exfalso; omega))
      | refine all fun v_ => ?_)
    all_goals clear fA_
    refine retv0 ?_
    ((with_reducible apply rq2); rfl; rfl; rfl)
    refine ret_eq ?_
    have hkk : kept l (tAt l x c) (tAt l y d) := fun q hq => k2 q (by omega)
    rw [hs, decide_eq_true hkk]
end Go.Proofs.YtmamiihpghnmmaaGreatDoor
