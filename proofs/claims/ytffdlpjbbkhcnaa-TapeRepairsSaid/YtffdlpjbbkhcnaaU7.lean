/- Contracts: foretellref.RecordsOf, tape.Repair, foretellref.Repaired, sameLists. -/
import Derived.Test.YtffdlpjbbkhcnaaU6
import Derived.Test.YtffdlpjbbkhcnaaU5
namespace Go.Proofs.Ytffdlpjbbkhcnaa
open Go Go.Av Go.Sp
set_option maxRecDepth 100000
set_option maxHeartbeats 4000000

theorem cal_RecordsOf : Cal Try.prog 28 := Cal.of Try.func28 (by kernel_rfl) (by kernel_rfl)
theorem cal_Repair : Cal Try.prog 30 := Cal.of Try.func30 (by kernel_rfl) (by kernel_rfl)
theorem cal_Repaired : Cal Try.prog 31 := Cal.of Try.func31 (by kernel_rfl) (by kernel_rfl)
theorem cal_sameInts : Cal Try.prog 43 := Cal.of Try.func43 (by kernel_rfl) (by kernel_rfl)
theorem cal_sameLists : Cal Try.prog 29 := Cal.of Try.func29 (by kernel_rfl) (by kernel_rfl)
/-- Are they the same? -/
theorem sameInts (G : List (Nat × List D)) (a b : List Int) : ACr Try.prog G 43 [.d (intsD a), .d (intsD b)] (.bool (decide (a = b))) := by
  refine AC_of (ts := [4]) 26 Try.func43 rfl rfl rfl (by simp) fun W I => ?_
  refine jfact (t := 0) rfl fun hl0 => ?_
  refine jfact (t := 1) rfl fun hl1 => ?_
  repeat' (first
    | exact True.intro
    | refine stp ?_
    | refine two ?_ ?_
    | (refine imp fun hc => ?_) <;> try (first | contradiction | (exfalso; omega))
    | refine all fun v_ => ?_)
  · ((with_reducible apply rq1); rfl; rfl)
    refine ret_eq ?_
    rw [decide_eq_false]
    intro e; subst e; omega
  refine J_loop (X := Nat) (fun i => [(0, .d (intsD a)), (1, .d (intsD b)), (5, .int i)]) (fun _ => []) (fun i => i ≤ a.length ∧ a.take i = b.take i) (fun i => a.length - i) 0 ⟨Nat.zero_le _, rfl⟩ ?_ rfl ?_
  · repeat (first
      | exact Env.le_nil _
      | refine Env.le_cons (AV.le_refl _) ?_
      | refine Env.le_cons (AV.le_int rfl (by first | rfl | omega | (dsimp only; omega))) ?_)
  rintro i ⟨h1, h2⟩
  repeat' (first
    | exact True.intro
    | refine stp ?_
    | refine two ?_ ?_
    | (refine imp fun hc => ?_) <;> try (first | contradiction | (exfalso; omega))
    | refine all fun v_ => ?_)
  all_goals first
    | (((with_reducible apply rq1); rfl; rfl)
       refine ret_eq ?_
       rw [decide_eq_false]
       intro e; subst e
       exact hc rfl)
    | (refine ⟨i + 1, ⟨by omega, take_step (by omega) (by omega) h2 ?_⟩, by first | omega | (dsimp only; omega), ?_, rfl⟩
       · simpa using hc
       · repeat (first
           | exact Env.le_nil _
           | refine Env.le_cons (AV.le_refl _) ?_
           | refine Env.le_cons (AV.le_int rfl (by first | rfl | omega | (dsimp only; omega))) ?_))
    | (((with_reducible apply rq1); rfl; rfl)
       refine ret_eq ?_
       rw [decide_eq_true]
       rwa [List.take_of_length_le (by omega), List.take_of_length_le (by omega)] at h2)
/-- Are they the same? -/
theorem sameLists (G : List (Nat × List D)) (a b : List (List Int)) : ACr Try.prog G 29 [.d (listsD a), .d (listsD b)] (.bool (decide (a = b))) := by
  refine AC_of (ts := [4]) 27 Try.func29 rfl rfl rfl (by simp) fun W I => ?_
  refine jfact (t := 0) rfl fun hl0 => ?_
  refine jfact (t := 1) rfl fun hl1 => ?_
  repeat' (first
    | ((with_reducible apply qcall); (focus rfl); (focus exact cal_sameInts); (focus exact sameInts _ _ _); (focus rfl))
    | exact True.intro
    | refine stp ?_
    | refine two ?_ ?_
    | (refine imp fun hc => ?_) <;> try (first | contradiction | (exfalso; omega))
    | refine all fun v_ => ?_)
  · ((with_reducible apply rq1); rfl; rfl)
    refine ret_eq ?_
    rw [decide_eq_false]
    intro e; subst e; omega
  refine J_loop (X := Nat) (fun i => [(0, .d (listsD a)), (1, .d (listsD b)), (5, .int i)]) (fun _ => []) (fun i => i ≤ a.length ∧ a.take i = b.take i) (fun i => a.length - i) 0 ⟨Nat.zero_le _, rfl⟩ ?_ rfl ?_
  · repeat (first
      | exact Env.le_nil _
      | refine Env.le_cons (AV.le_refl _) ?_
      | refine Env.le_cons (AV.le_int rfl (by first | rfl | omega | (dsimp only; omega))) ?_)
  rintro i ⟨h1, h2⟩
  repeat' (first
    | ((with_reducible apply qcall); (focus rfl); (focus exact cal_sameInts); (focus exact sameInts _ _ _); (focus rfl))
    | exact True.intro
    | refine stp ?_
    | refine two ?_ ?_
    | (refine imp fun hc => ?_) <;> try (first | contradiction | (exfalso; omega))
    | refine all fun v_ => ?_)
  all_goals first
    | (((with_reducible apply rq1); rfl; rfl)
       refine ret_eq ?_
       rw [decide_eq_false]
       intro e; subst e
       exact hc rfl)
    | (refine ⟨i + 1, ⟨by omega, take_step (by omega) (by omega) h2 ?_⟩, by first | omega | (dsimp only; omega), ?_, rfl⟩
       · exact hc
       · repeat (first
           | exact Env.le_nil _
           | refine Env.le_cons (AV.le_refl _) ?_
           | refine Env.le_cons (AV.le_int rfl (by first | rfl | omega | (dsimp only; omega))) ?_))
    | (((with_reducible apply rq1); rfl; rfl)
       refine ret_eq ?_
       rw [decide_eq_true]
       rwa [List.take_of_length_le (by omega), List.take_of_length_le (by omega)] at h2)
theorem fourAtI (G : List (Nat × List D)) (b : List UInt8) (m : Int) (h0 : 0 ≤ m) (h : m + 4 ≤ b.length) (hb : b.length * 1 ≤ 140737488355328) : ACr Try.prog G 57 [.d (bytesD b), .int m] (.int (g4 b m.toNat)) := by
  obtain ⟨n, rfl⟩ := Int.eq_ofNat_of_zero_le h0
  exact fourAt G b n (by omega) hb
theorem RecordsOf (G : List (Nat × List D)) (t : Tp) : ACr Try.prog G 28 [tpA t] (.tup [.d (listsD (readOf t).1.1), .int (readOf t).1.2, .int (readOf t).2]) := by
  refine AC_ofV (ts := [2, 3, 4]) Try.f28.ntmps Try.func28 rfl rfl rfl (by simp [Try.ntmps28]) fun W I => ?_
  by_cases hm : ¬ mayT t
  · repeat' (first
      | ((with_reducible apply call0); (focus rfl); (focus exact cal_TapeMay); (focus exact TapeMay _ _); (focus rfl))
      | ((with_reducible apply je_call0); (focus rfl); (focus (decide +kernel)); (focus rfl); (focus exact cal_TapeMay); (focus exact TapeMay _ _); (focus rfl))
      | ((with_reducible apply call0); (focus rfl); (focus exact cal_fourAt); (focus exact fourAt _ _ _ (by omega) (by omega)); (focus rfl))
      | ((with_reducible apply je_call0); (focus rfl); (focus (decide +kernel)); (focus rfl); (focus exact cal_fourAt); (focus exact fourAt _ _ _ (by omega) (by omega)); (focus rfl))
      | ((with_reducible apply call0); (focus rfl); (focus exact cal_fourAt); (focus exact fourAtI _ _ _ (by omega) (by omega) (by omega)); (focus rfl))
      | ((with_reducible apply je_call0); (focus rfl); (focus (decide +kernel)); (focus rfl); (focus exact cal_fourAt); (focus exact fourAtI _ _ _ (by omega) (by omega) (by omega)); (focus rfl))
      | exact True.intro
      | refine stpa ?_
      | refine two ?_ ?_
      | (refine imp fun hc => ?_) <;> try (first | contradiction | (exfalso; omega))
      | refine all fun v_ => ?_)
    refine retv (VS.trans (VS.drop (List.nil_sublist _)) (vnil (t := 2) 1 24 rfl)) ?_
    ((with_reducible apply rq3); rfl; rfl; rfl; rfl)
    refine ret_eq ?_
    have e : readOf t = (([], 0), 9) := if_neg hm
    rw [e]; rfl
  replace hm := Decidable.not_not.1 hm
  have hlen := hm.1
  repeat' (first
    | ((with_reducible apply call0); (focus rfl); (focus exact cal_TapeMay); (focus exact TapeMay _ _); (focus rfl))
    | ((with_reducible apply je_call0); (focus rfl); (focus (decide +kernel)); (focus rfl); (focus exact cal_TapeMay); (focus exact TapeMay _ _); (focus rfl))
    | ((with_reducible apply call0); (focus rfl); (focus exact cal_fourAt); (focus exact fourAt _ _ _ (by omega) (by omega)); (focus rfl))
    | ((with_reducible apply je_call0); (focus rfl); (focus (decide +kernel)); (focus rfl); (focus exact cal_fourAt); (focus exact fourAt _ _ _ (by omega) (by omega)); (focus rfl))
    | ((with_reducible apply call0); (focus rfl); (focus exact cal_fourAt); (focus exact fourAtI _ _ _ (by omega) (by omega) (by omega)); (focus rfl))
    | ((with_reducible apply je_call0); (focus rfl); (focus (decide +kernel)); (focus rfl); (focus exact cal_fourAt); (focus exact fourAtI _ _ _ (by omega) (by omega) (by omega)); (focus rfl))
    | exact True.intro
    | refine stpa ?_
    | refine two ?_ ?_
    | (refine imp fun hc => ?_) <;> try (first | contradiction | (exfalso; omega))
    | refine all fun v_ => ?_)
  refine jrow (E := 36) (sz := 1) listC ?_
  refine J_loopV (X := List (List Int) × Nat × Sl) (fun y => [(1, .val (.pointer (some ⟨v_, 0, none⟩))), (5, .val y.2.2.v), (6, .int y.2.1)]) (fun y => [rowE y.2.2.v 36 1 listC y.1, .cells v_ 27 [.d (bytesD t.data), .int t.synced]]) (fun y => readTo t.data y.1 y.2.1 ∧ y.1.length ≤ y.2.1) (fun y => t.data.length - y.2.1) ([], 0, Sl.nil) ⟨readTo_zero _, Nat.zero_le _⟩ (VS.of_le ?_) ?_
  · repeat (first
      | exact Env.le_nil _
      | refine Env.le_cons (AV.le_refl _) ?_
      | refine Env.le_cons (AV.le_int rfl (by first | rfl | omega | (dsimp only; omega))) ?_)
  rintro ⟨l, a, q⟩ ⟨h1, h2⟩
  dsimp only at h1 h2 ⊢
  have h3 := h1.1
  have hdl : (t.data.drop a).length = t.data.length - a := by rw [List.length_drop]
  have hg := g4_bound t.data a
  have hga : g4 (t.data.drop a) 0 = g4 t.data a := by rw [g4_drop, Nat.add_zero]
  by_cases c1 : ¬ a + 4 ≤ t.data.length
  · repeat' (first
      | ((with_reducible apply call0); (focus rfl); (focus exact cal_TapeMay); (focus exact TapeMay _ _); (focus rfl))
      | ((with_reducible apply je_call0); (focus rfl); (focus (decide +kernel)); (focus rfl); (focus exact cal_TapeMay); (focus exact TapeMay _ _); (focus rfl))
      | ((with_reducible apply call0); (focus rfl); (focus exact cal_fourAt); (focus exact fourAt _ _ _ (by omega) (by omega)); (focus rfl))
      | ((with_reducible apply je_call0); (focus rfl); (focus (decide +kernel)); (focus rfl); (focus exact cal_fourAt); (focus exact fourAt _ _ _ (by omega) (by omega)); (focus rfl))
      | ((with_reducible apply call0); (focus rfl); (focus exact cal_fourAt); (focus exact fourAtI _ _ _ (by omega) (by omega) (by omega)); (focus rfl))
      | ((with_reducible apply je_call0); (focus rfl); (focus (decide +kernel)); (focus rfl); (focus exact cal_fourAt); (focus exact fourAtI _ _ _ (by omega) (by omega) (by omega)); (focus rfl))
      | exact True.intro
      | refine stpa ?_
      | refine two ?_ ?_
      | (refine imp fun hc => ?_) <;> try (first | contradiction | (exfalso; omega))
      | refine all fun v_ => ?_)
    refine retv (VS.trans (VS.drop (h' := [rowE q.v 36 1 listC l]) (by (repeat (first | exact List.nil_sublist _ | (with_reducible apply List.Sublist.cons_cons) | apply List.Sublist.cons)))) (vfreeze (t := 2) (eb := 24) rfl rfl (fun x => rfl) (by omega))) ?_
    ((with_reducible apply rq3); rfl; rfl; rfl; rfl)
    refine ret_eq ?_
    rw [readOf, if_pos hm, readTo_end h1 (fun hw => by have := hw.1; omega)]
  by_cases c2 : 4000 < g4 t.data a
  · repeat' (first
      | ((with_reducible apply call0); (focus rfl); (focus exact cal_TapeMay); (focus exact TapeMay _ _); (focus rfl))
      | ((with_reducible apply je_call0); (focus rfl); (focus (decide +kernel)); (focus rfl); (focus exact cal_TapeMay); (focus exact TapeMay _ _); (focus rfl))
      | ((with_reducible apply call0); (focus rfl); (focus exact cal_fourAt); (focus exact fourAt _ _ _ (by omega) (by omega)); (focus rfl))
      | ((with_reducible apply je_call0); (focus rfl); (focus (decide +kernel)); (focus rfl); (focus exact cal_fourAt); (focus exact fourAt _ _ _ (by omega) (by omega)); (focus rfl))
      | ((with_reducible apply call0); (focus rfl); (focus exact cal_fourAt); (focus exact fourAtI _ _ _ (by omega) (by omega) (by omega)); (focus rfl))
      | ((with_reducible apply je_call0); (focus rfl); (focus (decide +kernel)); (focus rfl); (focus exact cal_fourAt); (focus exact fourAtI _ _ _ (by omega) (by omega) (by omega)); (focus rfl))
      | exact True.intro
      | refine stpa ?_
      | refine two ?_ ?_
      | (refine imp fun hc => ?_) <;> try (first | contradiction | (exfalso; omega))
      | refine all fun v_ => ?_)
    refine retv (VS.trans (VS.drop (h' := [rowE q.v 36 1 listC l]) (by (repeat (first | exact List.nil_sublist _ | (with_reducible apply List.Sublist.cons_cons) | apply List.Sublist.cons)))) (vfreeze (t := 2) (eb := 24) rfl rfl (fun x => rfl) (by omega))) ?_
    ((with_reducible apply rq3); rfl; rfl; rfl; rfl)
    refine ret_eq ?_
    rw [readOf, if_pos hm, readTo_end h1 (fun hw => by have := hw.2.1; omega)]
  by_cases c3 : (t.data.length : Int) < a + 4 * g4 t.data a + 8
  · repeat' (first
      | ((with_reducible apply call0); (focus rfl); (focus exact cal_TapeMay); (focus exact TapeMay _ _); (focus rfl))
      | ((with_reducible apply je_call0); (focus rfl); (focus (decide +kernel)); (focus rfl); (focus exact cal_TapeMay); (focus exact TapeMay _ _); (focus rfl))
      | ((with_reducible apply call0); (focus rfl); (focus exact cal_fourAt); (focus exact fourAt _ _ _ (by omega) (by omega)); (focus rfl))
      | ((with_reducible apply je_call0); (focus rfl); (focus (decide +kernel)); (focus rfl); (focus exact cal_fourAt); (focus exact fourAt _ _ _ (by omega) (by omega)); (focus rfl))
      | ((with_reducible apply call0); (focus rfl); (focus exact cal_fourAt); (focus exact fourAtI _ _ _ (by omega) (by omega) (by omega)); (focus rfl))
      | ((with_reducible apply je_call0); (focus rfl); (focus (decide +kernel)); (focus rfl); (focus exact cal_fourAt); (focus exact fourAtI _ _ _ (by omega) (by omega) (by omega)); (focus rfl))
      | exact True.intro
      | refine stpa ?_
      | refine two ?_ ?_
      | (refine imp fun hc => ?_) <;> try (first | contradiction | (exfalso; omega))
      | refine all fun v_ => ?_)
    refine retv (VS.trans (VS.drop (h' := [rowE q.v 36 1 listC l]) (by (repeat (first | exact List.nil_sublist _ | (with_reducible apply List.Sublist.cons_cons) | apply List.Sublist.cons)))) (vfreeze (t := 2) (eb := 24) rfl rfl (fun x => rfl) (by omega))) ?_
    ((with_reducible apply rq3); rfl; rfl; rfl; rfl)
    refine ret_eq ?_
    rw [readOf, if_pos hm, readTo_end h1 (fun hw => by have := hw.2.2.1; omega)]
  repeat' (first
    | ((with_reducible apply call0); (focus rfl); (focus exact cal_TapeMay); (focus exact TapeMay _ _); (focus rfl))
    | ((with_reducible apply je_call0); (focus rfl); (focus (decide +kernel)); (focus rfl); (focus exact cal_TapeMay); (focus exact TapeMay _ _); (focus rfl))
    | ((with_reducible apply call0); (focus rfl); (focus exact cal_fourAt); (focus exact fourAt _ _ _ (by omega) (by omega)); (focus rfl))
    | ((with_reducible apply je_call0); (focus rfl); (focus (decide +kernel)); (focus rfl); (focus exact cal_fourAt); (focus exact fourAt _ _ _ (by omega) (by omega)); (focus rfl))
    | ((with_reducible apply call0); (focus rfl); (focus exact cal_fourAt); (focus exact fourAtI _ _ _ (by omega) (by omega) (by omega)); (focus rfl))
    | ((with_reducible apply je_call0); (focus rfl); (focus (decide +kernel)); (focus rfl); (focus exact cal_fourAt); (focus exact fourAtI _ _ _ (by omega) (by omega) (by omega)); (focus rfl))
    | exact True.intro
    | refine stpa ?_
    | refine two ?_ ?_
    | (refine imp fun hc => ?_) <;> try (first | contradiction | (exfalso; omega))
    | refine all fun v_ => ?_)
  obtain ⟨N, hN⟩ : ∃ N : Nat, g4 t.data a = N := ⟨(g4 t.data a).toNat, by omega⟩
  refine jrow (E := 3) (sz := 1) intC ?_
  refine J_loop (X := Nat × Sl) (fun y => [(1, .val (.pointer (some ⟨v_, 0, none⟩))), (5, .val q.v), (6, .int a), (7, .int (g4 t.data a)), (8, .val y.2.v), (9, .int y.1)]) (fun y => [rowE y.2.v 3 1 intC (fourL t.data (a + 4) y.1), rowE q.v 36 1 listC l, .cells v_ 27 [.d (bytesD t.data), .int t.synced]]) (fun y => y.1 ≤ N) (fun y => N - y.1) (0, Sl.nil) (Nat.zero_le _) ?_ rfl ?_
  · repeat (first
      | exact Env.le_nil _
      | refine Env.le_cons (AV.le_refl _) ?_
      | refine Env.le_cons (AV.le_int rfl (by first | rfl | omega | (dsimp only; omega))) ?_)
  rintro ⟨j, q'⟩ h4
  dsimp only at h4 ⊢
  have hl4 := fourL_length t.data (a + 4) j
  by_cases hj : j < N
  · repeat' (first
      | ((with_reducible apply call0); (focus rfl); (focus exact cal_TapeMay); (focus exact TapeMay _ _); (focus rfl))
      | ((with_reducible apply je_call0); (focus rfl); (focus (decide +kernel)); (focus rfl); (focus exact cal_TapeMay); (focus exact TapeMay _ _); (focus rfl))
      | ((with_reducible apply call0); (focus rfl); (focus exact cal_fourAt); (focus exact fourAt _ _ _ (by omega) (by omega)); (focus rfl))
      | ((with_reducible apply je_call0); (focus rfl); (focus (decide +kernel)); (focus rfl); (focus exact cal_fourAt); (focus exact fourAt _ _ _ (by omega) (by omega)); (focus rfl))
      | ((with_reducible apply call0); (focus rfl); (focus exact cal_fourAt); (focus exact fourAtI _ _ _ (by omega) (by omega) (by omega)); (focus rfl))
      | ((with_reducible apply je_call0); (focus rfl); (focus (decide +kernel)); (focus rfl); (focus exact cal_fourAt); (focus exact fourAtI _ _ _ (by omega) (by omega) (by omega)); (focus rfl))
      | exact True.intro
      | refine stpa ?_
      | refine two ?_ ?_
      | (refine imp fun hc => ?_) <;> try (first | contradiction | (exfalso; omega))
      | refine all fun v_ => ?_)
    refine ⟨(j + 1, v_), by dsimp only; omega, by dsimp only; omega, ?_, ?_⟩
    · repeat (first
        | exact Env.le_nil _
        | refine Env.le_cons (AV.le_refl _) ?_
        | refine Env.le_cons (AV.le_int rfl (by first | rfl | omega | (dsimp only; omega))) ?_)
    · dsimp only
      rw [fourL_succ]
      have e : ((a : Int) + 4 + 4 * (j : Int)).toNat = a + 4 + 4 * j := by omega
      rw [e]
  obtain rfl : j = N := by omega
  refine J_vs (vdat (h1 := []) (h' := [_, _]) 8 rfl rfl (fun _ => rfl) (by omega) (CvE.cons (t := 8) rfl .here (CvE.refl _ _ _)) (CvH.refl _)) ?_
  have hd : (g4 (t.data.drop a) 0).toNat = j := by omega
  have hL : fourL (t.data.drop a) 4 (g4 (t.data.drop a) 0).toNat = fourL t.data (a + 4) j := by rw [hd, fourL_drop]
  have hwi := whole_iff (t.data.drop a) (by omega) (by omega) (by omega)
  rw [hL, hd] at hwi
  have R := RecordBytes G (fourL t.data (a + 4) j)
  have hbig : ¬ 4000 < (fourL t.data (a + 4) j).length := by omega
  by_cases hok : okNums (fourL t.data (a + 4) j)
  · rw [recB_ok hbig hok] at R
    dsimp only at R
    have hra := recAll_length (fourL t.data (a + 4) j)
    have eT : ((a : Int) + 4 * g4 t.data a + 8).toNat - (a : Int).toNat = 8 + 4 * j := by omega
    have hbs : ∀ x y : List UInt8, ((ByteArray.mk x.toArray) == (ByteArray.mk y.toArray)) = decide (x = y) := fun x y => by
      rw [Bool.eq_iff_iff]
      show (x.toArray == y.toArray) = true ↔ decide (x = y) = true
      simp
    repeat' (first
      | ((with_reducible apply call0); (focus rfl); (focus exact cal_RecordBytes); (focus exact R); (focus rfl))
      | ((with_reducible apply je_call0); (focus rfl); (focus (decide +kernel)); (focus rfl); (focus exact cal_RecordBytes); (focus exact R); (focus rfl))
      | exact True.intro
      | refine stpa ?_
      | refine two ?_ ?_
      | (refine imp fun hc => ?_) <;> try (first | contradiction | (exfalso; omega))
      | refine all fun v_ => ?_)
    · rw [eT, Int.toNat_natCast, hbs, decide_eq_true_eq] at hc
      have hw := hwi.2 ⟨hok, hc⟩
      have hn := readTo_next h1 hw
      have hq := whole_le hw
      rw [List.length_drop] at hq
      have hf : firstOf (t.data.drop a) = (fourL t.data (a + 4) j, 8 + 4 * j) := by unfold firstOf; rw [hL, hd]
      rw [hf] at hn hq
      refine ⟨(l ++ [fourL t.data (a + 4) j], a + (8 + 4 * j), v_), ⟨hn, ?_⟩, ?_, VS.of_le ?_⟩
      · dsimp only; rw [List.length_append, List.length_singleton]; omega
      · dsimp only at hq ⊢; omega
      · repeat (first
          | exact Env.le_nil _
          | refine Env.le_cons (AV.le_refl _) ?_
          | refine Env.le_cons (AV.le_int rfl (by first | rfl | omega | (dsimp only; omega))) ?_)
    · rw [eT, Int.toNat_natCast, hbs, decide_eq_false_iff_not] at hc
      refine retv (VS.trans (VS.drop (h' := [rowE q.v 36 1 listC l]) (by (repeat (first | exact List.nil_sublist _ | (with_reducible apply List.Sublist.cons_cons) | apply List.Sublist.cons)))) (vfreeze (t := 2) (eb := 24) rfl rfl (fun x => rfl) (by omega))) ?_
      ((with_reducible apply rq3); rfl; rfl; rfl; rfl)
      refine ret_eq ?_
      rw [readOf, if_pos hm, readTo_end h1 (fun hw => hc (hwi.1 hw).2)]
  · have e2 : recB (fourL t.data (a + 4) j) = ([], 2) := by rw [recB, if_neg hbig, if_neg hok]
    rw [e2] at R
    dsimp only at R
    repeat' (first
      | ((with_reducible apply call0); (focus rfl); (focus exact cal_RecordBytes); (focus exact R); (focus rfl))
      | ((with_reducible apply je_call0); (focus rfl); (focus (decide +kernel)); (focus rfl); (focus exact cal_RecordBytes); (focus exact R); (focus rfl))
      | exact True.intro
      | refine stpa ?_
      | refine two ?_ ?_
      | (refine imp fun hc => ?_) <;> try (first | contradiction | (exfalso; omega))
      | refine all fun v_ => ?_)
    refine retv (VS.trans (VS.drop (h' := [rowE q.v 36 1 listC l]) (by (repeat (first | exact List.nil_sublist _ | (with_reducible apply List.Sublist.cons_cons) | apply List.Sublist.cons)))) (vfreeze (t := 2) (eb := 24) rfl rfl (fun x => rfl) (by omega))) ?_
    ((with_reducible apply rq3); rfl; rfl; rfl; rfl)
    refine ret_eq ?_
    rw [readOf, if_pos hm, readTo_end h1 (fun hw => hok (hwi.1 hw).1)]
theorem CloneD (G : List (Nat × List D)) (l : List UInt8) (hl : l.length ≤ 140737488355328) : ACr Try.prog G 58 [.d (bytesD l)] (.d (bytesD l)) := AC.frz 1 (Clone G l hl) rfl (fun _ => rfl) (by omega)
theorem Repair (G : List (Nat × List D)) (t : Tp) : ACr Try.prog G 30 [tpA t] (.tup [tpA (repairOf t).1, .int (repairOf t).2]) := by
  refine AC_ofR (rs := [.cell 2 27, .tmp 3]) Try.f30.ntmps Try.func30 rfl rfl rfl (by simp [Try.ntmps30]) fun W I => ?_
  have R := Read G t
  by_cases hm : mayT t
  · have e : readOf t = (((readB t.data).1, ((readB t.data).2 : Int)), 0) := if_pos hm
    rw [e] at R
    dsimp only at R
    have hle := readB_le t.data
    have hlen := hm.1
    repeat' (first
      | ((with_reducible apply call0); (focus rfl); (focus exact cal_Read); (focus exact R); (focus rfl))
      | ((with_reducible apply je_call0); (focus rfl); (focus (decide +kernel)); (focus rfl); (focus exact cal_Read); (focus exact R); (focus rfl))
      | ((with_reducible apply call0); (focus rfl); (focus exact cal_RecordsOf); (focus exact R); (focus rfl))
      | ((with_reducible apply je_call0); (focus rfl); (focus (decide +kernel)); (focus rfl); (focus exact cal_RecordsOf); (focus exact R); (focus rfl))
      | ((with_reducible apply call0); (focus rfl); (focus exact cal_Clone); (focus exact CloneD _ _ (by rw [List.length_take]; omega)); (focus rfl))
      | ((with_reducible apply je_call0); (focus rfl); (focus (decide +kernel)); (focus rfl); (focus exact cal_Clone); (focus exact CloneD _ _ (by rw [List.length_take]; omega)); (focus rfl))
      | ((with_reducible apply call0); (focus rfl); (focus exact cal_Octets); (focus exact Octets _ _ _ (by omega)); (focus rfl))
      | ((with_reducible apply je_call0); (focus rfl); (focus (decide +kernel)); (focus rfl); (focus exact cal_Octets); (focus exact Octets _ _ _ (by omega)); (focus rfl))
      | exact True.intro
      | refine stpa ?_
      | refine two ?_ ?_
      | (refine imp fun hc => ?_) <;> try (first | contradiction | (exfalso; omega))
      | refine all fun v_ => ?_)
    exact retr0 (xs := [tpA ⟨t.data.take (readB t.data).2, min t.synced (readB t.data).2⟩, .int 0]) ⟨rv_agg rfl el_Tape rfl (by (repeat (first | exact List.mem_cons_self | apply List.mem_cons_of_mem))) rfl, rv_tmp rfl, trivial⟩ rfl (h' := []) (List.nil_sublist _) (ret_eq (by rw [repairOf, if_pos hm]; rfl))
  · have e : readOf t = (([], 0), 9) := if_neg hm
    rw [e] at R
    dsimp only at R
    repeat' (first
      | ((with_reducible apply call0); (focus rfl); (focus exact cal_Read); (focus exact R); (focus rfl))
      | ((with_reducible apply je_call0); (focus rfl); (focus (decide +kernel)); (focus rfl); (focus exact cal_Read); (focus exact R); (focus rfl))
      | ((with_reducible apply call0); (focus rfl); (focus exact cal_RecordsOf); (focus exact R); (focus rfl))
      | ((with_reducible apply je_call0); (focus rfl); (focus (decide +kernel)); (focus rfl); (focus exact cal_RecordsOf); (focus exact R); (focus rfl))
      | ((with_reducible apply call0); (focus rfl); (focus exact cal_Clone); (focus exact CloneD _ _ (by rw [List.length_take]; omega)); (focus rfl))
      | ((with_reducible apply je_call0); (focus rfl); (focus (decide +kernel)); (focus rfl); (focus exact cal_Clone); (focus exact CloneD _ _ (by rw [List.length_take]; omega)); (focus rfl))
      | ((with_reducible apply call0); (focus rfl); (focus exact cal_Octets); (focus exact Octets _ _ _ (by omega)); (focus rfl))
      | ((with_reducible apply je_call0); (focus rfl); (focus (decide +kernel)); (focus rfl); (focus exact cal_Octets); (focus exact Octets _ _ _ (by omega)); (focus rfl))
      | exact True.intro
      | refine stpa ?_
      | refine two ?_ ?_
      | (refine imp fun hc => ?_) <;> try (first | contradiction | (exfalso; omega))
      | refine all fun v_ => ?_)
    exact retrl (xs := [.agg [.val (.slice none 0 0), .int 0], .int 9]) (ys := [tpA tpNil, .int 9]) vid ⟨rv_agg rfl el_Tape rfl (by (repeat (first | exact List.mem_cons_self | apply List.mem_cons_of_mem))) rfl, rv_tmp rfl, trivial⟩ ⟨AV.le_agg ⟨AV.le_nil 1 1, AV.le_refl _, trivial⟩, AV.le_refl _, trivial⟩ rfl (h' := []) (List.nil_sublist _) (ret_eq (by rw [repairOf, if_neg hm]; rfl))
theorem Repaired (G : List (Nat × List D)) (t : Tp) : ACr Try.prog G 31 [tpA t] (.tup [tpA (repairOf t).1, .int (repairOf t).2]) := by
  refine AC_ofR (rs := [.cell 2 27, .tmp 3]) Try.f31.ntmps Try.func31 rfl rfl rfl (by simp [Try.ntmps31]) fun W I => ?_
  have R := RecordsOf G t
  by_cases hm : mayT t
  · have e : readOf t = (((readB t.data).1, ((readB t.data).2 : Int)), 0) := if_pos hm
    rw [e] at R
    dsimp only at R
    have hle := readB_le t.data
    repeat' (first
      | ((with_reducible apply call0); (focus rfl); (focus exact cal_Read); (focus exact R); (focus rfl))
      | ((with_reducible apply je_call0); (focus rfl); (focus (decide +kernel)); (focus rfl); (focus exact cal_Read); (focus exact R); (focus rfl))
      | ((with_reducible apply call0); (focus rfl); (focus exact cal_RecordsOf); (focus exact R); (focus rfl))
      | ((with_reducible apply je_call0); (focus rfl); (focus (decide +kernel)); (focus rfl); (focus exact cal_RecordsOf); (focus exact R); (focus rfl))
      | ((with_reducible apply call0); (focus rfl); (focus exact cal_Clone); (focus exact CloneD _ _ (by rw [List.length_take]; omega)); (focus rfl))
      | ((with_reducible apply je_call0); (focus rfl); (focus (decide +kernel)); (focus rfl); (focus exact cal_Clone); (focus exact CloneD _ _ (by rw [List.length_take]; omega)); (focus rfl))
      | ((with_reducible apply call0); (focus rfl); (focus exact cal_Octets); (focus exact Octets _ _ _ (by omega)); (focus rfl))
      | ((with_reducible apply je_call0); (focus rfl); (focus (decide +kernel)); (focus rfl); (focus exact cal_Octets); (focus exact Octets _ _ _ (by omega)); (focus rfl))
      | exact True.intro
      | refine stpa ?_
      | refine two ?_ ?_
      | (refine imp fun hc => ?_) <;> try (first | contradiction | (exfalso; omega))
      | refine all fun v_ => ?_)
    · exact retr0 (xs := [tpA ⟨t.data.take (readB t.data).2, (readB t.data).2⟩, .int 0]) ⟨rv_agg rfl el_Tape rfl (by (repeat (first | exact List.mem_cons_self | apply List.mem_cons_of_mem))) rfl, rv_tmp rfl, trivial⟩ rfl (h' := []) (List.nil_sublist _) (ret_eq (by rw [repairOf, if_pos hm, Int.min_eq_right (by omega)]; rfl))
    · exact retr0 (xs := [tpA ⟨t.data.take (readB t.data).2, t.synced⟩, .int 0]) ⟨rv_agg rfl el_Tape rfl (by (repeat (first | exact List.mem_cons_self | apply List.mem_cons_of_mem))) rfl, rv_tmp rfl, trivial⟩ rfl (h' := []) (List.nil_sublist _) (ret_eq (by rw [repairOf, if_pos hm, Int.min_eq_left (by omega)]; rfl))
  · have e : readOf t = (([], 0), 9) := if_neg hm
    rw [e] at R
    dsimp only at R
    repeat' (first
      | ((with_reducible apply call0); (focus rfl); (focus exact cal_Read); (focus exact R); (focus rfl))
      | ((with_reducible apply je_call0); (focus rfl); (focus (decide +kernel)); (focus rfl); (focus exact cal_Read); (focus exact R); (focus rfl))
      | ((with_reducible apply call0); (focus rfl); (focus exact cal_RecordsOf); (focus exact R); (focus rfl))
      | ((with_reducible apply je_call0); (focus rfl); (focus (decide +kernel)); (focus rfl); (focus exact cal_RecordsOf); (focus exact R); (focus rfl))
      | ((with_reducible apply call0); (focus rfl); (focus exact cal_Clone); (focus exact CloneD _ _ (by rw [List.length_take]; omega)); (focus rfl))
      | ((with_reducible apply je_call0); (focus rfl); (focus (decide +kernel)); (focus rfl); (focus exact cal_Clone); (focus exact CloneD _ _ (by rw [List.length_take]; omega)); (focus rfl))
      | ((with_reducible apply call0); (focus rfl); (focus exact cal_Octets); (focus exact Octets _ _ _ (by omega)); (focus rfl))
      | ((with_reducible apply je_call0); (focus rfl); (focus (decide +kernel)); (focus rfl); (focus exact cal_Octets); (focus exact Octets _ _ _ (by omega)); (focus rfl))
      | exact True.intro
      | refine stpa ?_
      | refine two ?_ ?_
      | (refine imp fun hc => ?_) <;> try (first | contradiction | (exfalso; omega))
      | refine all fun v_ => ?_)
    exact retrl (xs := [.agg [.val (.slice none 0 0), .int 0], .int 9]) (ys := [tpA tpNil, .int 9]) vid ⟨rv_agg rfl el_Tape rfl (by (repeat (first | exact List.mem_cons_self | apply List.mem_cons_of_mem))) rfl, rv_tmp rfl, trivial⟩ ⟨AV.le_agg ⟨AV.le_nil 1 1, AV.le_refl _, trivial⟩, AV.le_refl _, trivial⟩ rfl (h' := []) (List.nil_sublist _) (ret_eq (by rw [repairOf, if_neg hm]; rfl))
end Go.Proofs.Ytffdlpjbbkhcnaa
