/- Contracts: polish.Split, foretellref.Ops, SplitOf. -/
import Derived.Test.YtmamiihpghnmmaaDoorT3
namespace Go.Proofs.YtmamiihpghnmmaaDoor
open Go Go.Av Go.Sp
set_option linter.unusedVariables false
set_option linter.unusedSimpArgs false
set_option maxRecDepth 100000
set_option maxHeartbeats 4000000

theorem cal_Ops : Cal Tryd.prog 124 := Cal.of Tryd.func124 (by kernel_rfl) (by kernel_rfl)
theorem cal_SplitOf : Cal Tryd.prog 106 := Cal.of Tryd.func106 (by kernel_rfl) (by kernel_rfl)
/-- Are they the same? -/
theorem sameTerms (G : List (Nat × List D)) (a b : List (List Fo)) : ACr Tryd.prog G 38 [.d (termsD a), .d (termsD b)] (.bool (decide (a = b))) := by
  refine AC_of (ts := [4]) 27 Tryd.func38 rfl rfl rfl (by simp) fun W I => ?_
  refine jfact (t := 0) rfl fun hl0 => ?_
  refine jfact (t := 1) rfl fun hl1 => ?_
  repeat' (first
    | ((with_reducible apply qcall); (focus rfl); (focus exact cal_sameOps); (focus exact sameOps _ _ _); (focus rfl))
    | exact True.intro
    | refine stp ?_
    | refine two ?_ ?_
    | (refine imp fun hc => ?_) <;> try (first | contradiction | (exfalso; omega))
    | refine all fun v_ => ?_)
  · ((with_reducible apply rq1); rfl; rfl)
    refine ret_eq ?_
    rw [decide_eq_false]
    intro e; subst e; omega
  refine J_loop (X := Nat) (fun i => [(0, .d (termsD a)), (1, .d (termsD b)), (5, .int i)]) (fun _ => []) (fun i => i ≤ a.length ∧ a.take i = b.take i) (fun i => a.length - i) 0 ⟨Nat.zero_le _, rfl⟩ ?_ rfl ?_
  · repeat (first
      | exact Env.le_nil _
      | refine Env.le_cons (AV.le_refl _) ?_
      | refine Env.le_cons (AV.le_int rfl (by first | rfl | omega | (dsimp only; omega))) ?_)
  rintro i ⟨h1, h2⟩
  repeat' (first
    | ((with_reducible apply qcall); (focus rfl); (focus exact cal_sameOps); (focus exact sameOps _ _ _); (focus rfl))
    | exact True.intro
    | refine stp ?_
    | refine two ?_ ?_
    | (refine imp fun hc => ?_) <;> try (first | contradiction | (exfalso; omega))
    | refine all fun v_ => ?_)
  all_goals first
    | (((with_reducible apply rq1); rfl; rfl)
       refine ret_eq ?_
       rw [decide_eq_false]
       intro e; subst e
       exact hc rfl)
    | (refine ⟨i + 1, ⟨by omega, take_step (by omega) (by omega) h2 ?_⟩, by first | omega | (dsimp only; omega), ?_, rfl⟩
       · exact hc
       · repeat (first
           | exact Env.le_nil _
           | refine Env.le_cons (AV.le_refl _) ?_
           | refine Env.le_cons (AV.le_int rfl (by first | rfl | omega | (dsimp only; omega))) ?_))
    | (((with_reducible apply rq1); rfl; rfl)
       refine ret_eq ?_
       rw [decide_eq_true]
       rwa [List.take_of_length_le (by omega), List.take_of_length_le (by omega)] at h2)

theorem Ops (G : List (Nat × List D)) (l : List Fo) (m n : Int) (h0 : 0 ≤ m) (h1 : m ≤ n) (h2 : n ≤ l.length) : ACr Tryd.prog G 124 [.d (opsD l), .int m, .int n] (.d (opsD ((l.drop m.toNat).take (n.toNat - m.toNat)))) := by
  obtain ⟨m, rfl⟩ := Int.eq_ofNat_of_zero_le h0
  obtain ⟨n, rfl⟩ := Int.eq_ofNat_of_zero_le (show 0 ≤ n by omega)
  refine AC_ofV (ts := [6]) 23 Tryd.func124 rfl rfl rfl (by simp) fun W I => ?_
  refine jfact (t := 0) rfl fun hl => ?_
  repeat' (first
    | exact True.intro
    | refine stp ?_
    | refine two ?_ ?_
    | (refine imp fun hc => ?_) <;> try (first | contradiction | (exfalso; omega))
    | refine all fun v_ => ?_)
  refine jrow (E := 96) (sz := 2) Fo.cells ?_
  refine J_loop (X := Nat × Value) (fun y => [(0, .d (opsD l)), (2, .int n), (7, .val y.2), (8, .int y.1)]) (fun y => [rowE y.2 96 2 Fo.cells ((l.drop m).take (y.1 - m))]) (fun y => m ≤ y.1 ∧ y.1 ≤ n) (fun y => n - y.1) (m, .slice none 0 0) ⟨Nat.le_refl _, by dsimp only; omega⟩ ?_ ?_ ?_
  · repeat (first
      | exact Env.le_nil _
      | refine Env.le_cons (AV.le_refl _) ?_
      | refine Env.le_cons (AV.le_int rfl (by first | rfl | omega | (dsimp only; omega))) ?_)
  · simp
  rintro ⟨i, v⟩ ⟨k1, k2⟩
  dsimp only at k1 k2 ⊢
  repeat' (first
    | exact True.intro
    | refine stp ?_
    | refine two ?_ ?_
    | (refine imp fun hc => ?_) <;> try (first | contradiction | (exfalso; omega))
    | refine all fun v_ => ?_)
  · refine ⟨(i + 1, v_), ⟨by dsimp only; omega, by dsimp only; omega⟩, by dsimp only; omega, ?_, ?_⟩
    · repeat (first
        | exact Env.le_nil _
        | refine Env.le_cons (AV.le_refl _) ?_
        | refine Env.le_cons (AV.le_int rfl (by first | rfl | omega | (dsimp only; omega))) ?_)
    · dsimp only
      rw [cut_snoc l m i k1 (by omega)]
  · refine retv (vfreeze (t := 6) (eb := 16) rfl rfl (fun x => rfl) (by simp only [List.length_take, List.length_drop]; omega)) ?_
    ((with_reducible apply rq1); rfl; rfl)
    refine ret_eq ?_
    have : i = n := by omega
    rw [this]; rfl

theorem SplitOf (G : List (Nat × List D)) (l : List Fo) : ACr Tryd.prog G 106 [.d (opsD l)] (.tup [.d (termsD (splitOf l).1), .int (splitOf l).2]) := by
  have hE := EndsOf G l
  generalize he : endsOf l = p at hE
  obtain ⟨es, e⟩ := p
  refine AC_ofV (ts := [2, 3]) 51 Tryd.func106 rfl rfl rfl (by simp) fun W I => ?_
  by_cases hc : e ≠ 0
  · repeat' (first
      | ((with_reducible apply call0); (focus rfl); (focus exact cal_EndsOf); (focus exact hE); (focus rfl))
      | ((with_reducible apply je_call0); (focus rfl); (focus (decide +kernel)); (focus rfl); (focus exact cal_EndsOf); (focus exact hE); (focus rfl))
      | ((with_reducible apply call0); (focus rfl); (focus exact cal_PartsOf); (focus exact PartsOf _ _); (focus rfl))
      | ((with_reducible apply je_call0); (focus rfl); (focus (decide +kernel)); (focus rfl); (focus exact cal_PartsOf); (focus exact PartsOf _ _); (focus rfl))
      | ((with_reducible apply call0); (focus rfl); (focus exact cal_endOf); (focus exact endOf _ _ _ (by omega) (by omega)); (focus rfl))
      | ((with_reducible apply je_call0); (focus rfl); (focus (decide +kernel)); (focus rfl); (focus exact cal_endOf); (focus exact endOf _ _ _ (by omega) (by omega)); (focus rfl))
      | ((with_reducible apply call0); (focus rfl); (focus exact cal_Ops); (focus exact Ops _ _ _ _ (by omega) (by omega) (by omega)); (focus rfl))
      | ((with_reducible apply je_call0); (focus rfl); (focus (decide +kernel)); (focus rfl); (focus exact cal_Ops); (focus exact Ops _ _ _ _ (by omega) (by omega) (by omega)); (focus rfl))
      | exact True.intro
      | refine stp ?_
      | refine two ?_ ?_
      | (refine imp fun hc => ?_) <;> try (first | contradiction | (exfalso; omega))
      | refine all fun v_ => ?_)
    refine retv (vnil (t := 2) 1 24 rfl) ?_
    ((with_reducible apply rq2); rfl; rfl; rfl)
    refine ret_eq ?_
    rw [splitOf, he, if_pos hc]; rfl
  have e0 : e = 0 := by simpa using hc
  subst e0
  obtain ⟨hl, h0, h1, hlen, hes⟩ := endsOf_ok he
  have hs : splitOf l = (chunks l (partsOf l[0].kind).1.toNat 1, 0) := by rw [splitOf, he, List.getElem?_eq_getElem h0]; rfl
  have hp := partsOf_le l[0].kind
  repeat' (first
    | ((with_reducible apply call0); (focus rfl); (focus exact cal_EndsOf); (focus exact hE); (focus rfl))
    | ((with_reducible apply je_call0); (focus rfl); (focus (decide +kernel)); (focus rfl); (focus exact cal_EndsOf); (focus exact hE); (focus rfl))
    | ((with_reducible apply call0); (focus rfl); (focus exact cal_PartsOf); (focus exact PartsOf _ _); (focus rfl))
    | ((with_reducible apply je_call0); (focus rfl); (focus (decide +kernel)); (focus rfl); (focus exact cal_PartsOf); (focus exact PartsOf _ _); (focus rfl))
    | ((with_reducible apply call0); (focus rfl); (focus exact cal_endOf); (focus exact endOf _ _ _ (by omega) (by omega)); (focus rfl))
    | ((with_reducible apply je_call0); (focus rfl); (focus (decide +kernel)); (focus rfl); (focus exact cal_endOf); (focus exact endOf _ _ _ (by omega) (by omega)); (focus rfl))
    | ((with_reducible apply call0); (focus rfl); (focus exact cal_Ops); (focus exact Ops _ _ _ _ (by omega) (by omega) (by omega)); (focus rfl))
    | ((with_reducible apply je_call0); (focus rfl); (focus (decide +kernel)); (focus rfl); (focus exact cal_Ops); (focus exact Ops _ _ _ _ (by omega) (by omega) (by omega)); (focus rfl))
    | exact True.intro
    | refine stp ?_
    | refine two ?_ ?_
    | (refine imp fun hc => ?_) <;> try (first | contradiction | (exfalso; omega))
    | refine all fun v_ => ?_)
  generalize hn : (partsOf l[0].kind).1.toNat = n at hs
  refine jrow (E := 27) (sz := 1) termC ?_
  refine J_loop (X := Nat × Nat × Value × List (List Fo)) (fun y => [(0, .d (opsD l)), (6, .val y.2.2.1), (7, .int (partsOf l[0].kind).1), (9, .int y.2.1), (10, .int y.1)]) (fun y => [rowE y.2.2.1 27 1 termC y.2.2.2]) (fun y => Parted l n y.1 y.2.1 y.2.2.2) (fun y => n - y.1) (0, 1, .slice none 0 0, []) (hn ▸ Parted.start h0 h1) ?_ rfl ?_
  · repeat (first
      | exact Env.le_nil _
      | refine Env.le_cons (AV.le_refl _) ?_
      | refine Env.le_cons (AV.le_int rfl (by first | rfl | omega | (dsimp only; omega))) ?_)
  rintro ⟨j, i, v, out⟩ k
  dsimp only at k ⊢
  have klt := k.lt
  have kle := k.len
  have kfew := k.few
  by_cases hj : j < n
  · obtain ⟨q1, q2, q3, q4⟩ := k.next hj
    repeat' (first
      | ((with_reducible apply call0); (focus rfl); (focus exact cal_EndsOf); (focus exact hE); (focus rfl))
      | ((with_reducible apply je_call0); (focus rfl); (focus (decide +kernel)); (focus rfl); (focus exact cal_EndsOf); (focus exact hE); (focus rfl))
      | ((with_reducible apply call0); (focus rfl); (focus exact cal_PartsOf); (focus exact PartsOf _ _); (focus rfl))
      | ((with_reducible apply je_call0); (focus rfl); (focus (decide +kernel)); (focus rfl); (focus exact cal_PartsOf); (focus exact PartsOf _ _); (focus rfl))
      | ((with_reducible apply call0); (focus rfl); (focus exact cal_endOf); (focus exact endOf _ _ _ (by omega) (by omega)); (focus rfl))
      | ((with_reducible apply je_call0); (focus rfl); (focus (decide +kernel)); (focus rfl); (focus exact cal_endOf); (focus exact endOf _ _ _ (by omega) (by omega)); (focus rfl))
      | ((with_reducible apply call0); (focus rfl); (focus exact cal_Ops); (focus exact Ops _ _ _ _ (by omega) (by omega) (by omega)); (focus rfl))
      | ((with_reducible apply je_call0); (focus rfl); (focus (decide +kernel)); (focus rfl); (focus exact cal_Ops); (focus exact Ops _ _ _ _ (by omega) (by omega) (by omega)); (focus rfl))
      | exact True.intro
      | refine stp ?_
      | refine two ?_ ?_
      | (refine imp fun hc => ?_) <;> try (first | contradiction | (exfalso; omega))
      | refine all fun v_ => ?_)
    refine ⟨(j + 1, (Sp.endOf l i).1.toNat, v_, _), q4, by dsimp only; omega, ?_, ?_⟩
    · repeat (first
        | exact Env.le_nil _
        | refine Env.le_cons (AV.le_refl _) ?_
        | refine Env.le_cons (AV.le_int rfl (by first | rfl | omega | (dsimp only; omega))) ?_)
    · simp only [Int.toNat_natCast]
  · repeat' (first
      | ((with_reducible apply call0); (focus rfl); (focus exact cal_EndsOf); (focus exact hE); (focus rfl))
      | ((with_reducible apply je_call0); (focus rfl); (focus (decide +kernel)); (focus rfl); (focus exact cal_EndsOf); (focus exact hE); (focus rfl))
      | ((with_reducible apply call0); (focus rfl); (focus exact cal_PartsOf); (focus exact PartsOf _ _); (focus rfl))
      | ((with_reducible apply je_call0); (focus rfl); (focus (decide +kernel)); (focus rfl); (focus exact cal_PartsOf); (focus exact PartsOf _ _); (focus rfl))
      | ((with_reducible apply call0); (focus rfl); (focus exact cal_endOf); (focus exact endOf _ _ _ (by omega) (by omega)); (focus rfl))
      | ((with_reducible apply je_call0); (focus rfl); (focus (decide +kernel)); (focus rfl); (focus exact cal_endOf); (focus exact endOf _ _ _ (by omega) (by omega)); (focus rfl))
      | ((with_reducible apply call0); (focus rfl); (focus exact cal_Ops); (focus exact Ops _ _ _ _ (by omega) (by omega) (by omega)); (focus rfl))
      | ((with_reducible apply je_call0); (focus rfl); (focus (decide +kernel)); (focus rfl); (focus exact cal_Ops); (focus exact Ops _ _ _ _ (by omega) (by omega) (by omega)); (focus rfl))
      | exact True.intro
      | refine stp ?_
      | refine two ?_ ?_
      | (refine imp fun hc => ?_) <;> try (first | contradiction | (exfalso; omega))
      | refine all fun v_ => ?_)
    refine retv (vfreeze (t := 2) (eb := 24) rfl rfl (fun x => rfl) (by omega)) ?_
    ((with_reducible apply rq2); rfl; rfl; rfl)
    refine ret_eq ?_
    rw [hs, k.done (by have := k.le; omega)]
end Go.Proofs.YtmamiihpghnmmaaDoor
