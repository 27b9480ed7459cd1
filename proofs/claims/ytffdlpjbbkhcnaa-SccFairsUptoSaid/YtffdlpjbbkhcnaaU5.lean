/- Contracts: foretellref.Written. -/
import Derived.Test.YtffdlpjbbkhcnaaU3
import Derived.Test.YtffdlpjbbkhcnaaU2
namespace Go.Proofs.Ytffdlpjbbkhcnaa
open Go Go.Av Go.Sp
set_option linter.unusedVariables false
set_option linter.unusedSimpArgs false
set_option maxRecDepth 100000
set_option maxHeartbeats 4000000

theorem cal_Written : Cal Try.prog 26 := Cal.of Try.func26 (by kernel_rfl) (by kernel_rfl)
theorem cal_ints : Cal Try.prog 25 := Cal.of Try.func25 (by kernel_rfl) (by kernel_rfl)
/-- A copy. -/
theorem ints (G : List (Nat × List D)) (a : List Int) (ha : a.length * 8 ≤ 140737488355328) : ACr Try.prog G 25 [.d (intsD a)] (.d (intsD a)) := by
  refine AC_ofV (ts := [2]) 5 Try.func25 rfl rfl rfl (by simp) fun W I => ?_
  repeat' (first
    | exact True.intro
    | refine stp ?_
    | refine two ?_ ?_
    | (refine imp fun hc => ?_) <;> try (first | contradiction | (exfalso; omega))
    | refine all fun v_ => ?_)
  refine retv0 ?_
  ((with_reducible apply rq1); rfl; rfl)
  exact ret_eq rfl
theorem OctetsR (G : List (Nat × List D)) (l : List UInt8) (n : Nat) (hn : n ≤ l.length) : AC Try.prog G 52 [.d (bytesD l), .int n] [] fun e h => ∃ q : Sl, e = .ret (.val q.v) ∧ h = [rowE q.v 5 1 byteC (l.take n)] := by
  refine AC_ofV (ts := [4]) 20 Try.func52 rfl rfl rfl (by simp) fun W I => ?_
  refine jfact (t := 0) rfl fun hl => ?_
  repeat' (first
    | exact True.intro
    | refine stpa ?_
    | refine two ?_ ?_
    | (refine imp fun hc => ?_) <;> try (first | contradiction | (exfalso; omega))
    | refine all fun v_ => ?_)
  refine jrow (E := 5) (sz := 1) byteC ?_
  refine J_loop (X := Nat × Sl) (fun y => [(0, .d (bytesD l)), (1, .int n), (5, .val y.2.v), (6, .int y.1)]) (fun y => [rowE y.2.v 5 1 byteC (l.take y.1)]) (fun y => y.1 ≤ n) (fun y => n - y.1) (0, Sl.nil) (Nat.zero_le _) ?_ rfl ?_
  · repeat (first
      | exact Env.le_nil _
      | refine Env.le_cons (AV.le_refl _) ?_
      | refine Env.le_cons (AV.le_int rfl (by first | rfl | omega | (dsimp only; omega))) ?_)
  rintro ⟨i, v⟩ h1
  dsimp only at h1 ⊢
  have hlen : (l.take i).length = i := by rw [List.length_take]; omega
  repeat' (first
    | exact True.intro
    | refine stpa ?_
    | refine two ?_ ?_
    | (refine imp fun hc => ?_) <;> try (first | contradiction | (exfalso; omega))
    | refine all fun v_ => ?_)
  · refine ⟨(i + 1, v_), by dsimp only; omega, by dsimp only; omega, ?_, ?_⟩
    · repeat (first
        | exact Env.le_nil _
        | refine Env.le_cons (AV.le_refl _) ?_
        | refine Env.le_cons (AV.le_int rfl (by first | rfl | omega | (dsimp only; omega))) ?_)
    · dsimp only
      rw [List.take_succ_eq_append_getElem (by omega)]
  · refine retv0 ?_
    ((with_reducible apply rq1); rfl; rfl)
    obtain rfl : i = n := by omega
    exact ⟨_, rfl, rfl⟩
theorem Written (G : List (Nat × List D)) (t : Tp) (l : List Int) : ACr Try.prog G 26 [tpA t, .d (intsD l)] (.tup [tpA (writeOf t l).1, .int (writeOf t l).2]) := by
  refine AC_ofR (rs := [.cell 4 27, .tmp 5]) 54 Try.func26 rfl rfl rfl (by simp) fun W I => ?_
  have hR := RecordBytes G l
  by_cases hm : ¬ mayT t
  · repeat' (first
      | ((with_reducible apply call0); (focus rfl); (focus exact cal_TapeMay); (focus exact TapeMay _ _); (focus rfl))
      | ((with_reducible apply je_call0); (focus rfl); (focus (decide +kernel)); (focus rfl); (focus exact cal_TapeMay); (focus exact TapeMay _ _); (focus rfl))
      | ((with_reducible apply call0); (focus rfl); (focus exact cal_RecordBytes); (focus exact hR); (focus rfl))
      | ((with_reducible apply je_call0); (focus rfl); (focus (decide +kernel)); (focus rfl); (focus exact cal_RecordBytes); (focus exact hR); (focus rfl))
      | ((with_reducible apply callE1); (focus rfl); (focus exact cal_Octets); (focus exact OctetsR _ _ _ (by omega)); (focus rfl))
      | ((with_reducible apply je_callE); (focus rfl); (focus (decide +kernel)); (focus rfl); (focus exact cal_Octets); (focus exact OctetsR _ _ _ (by omega)); (focus rfl))
      | exact True.intro
      | refine stpa ?_
      | refine two ?_ ?_
      | (refine imp fun hc => ?_) <;> try (first | contradiction | (exfalso; omega))
      | refine all fun v_ => ?_)
    exact retrl (xs := [.agg [.val (.slice none 0 0), .int 0], .int 9]) (ys := [tpA tpNil, .int 9]) vid ⟨rv_agg rfl el_Tape rfl (by ((repeat (first | exact List.mem_cons_self | apply List.mem_cons_of_mem)); done)) rfl, rv_tmp rfl, trivial⟩ ⟨AV.le_agg ⟨AV.le_nil 1 1, AV.le_refl _, trivial⟩, AV.le_refl _, trivial⟩ rfl (h' := []) (List.nil_sublist _) (ret_eq (by rw [writeOf, if_pos hm]; rfl))
  replace hm := Decidable.not_not.1 hm
  obtain ⟨m1, m2, m3⟩ := hm
  have hm : mayT t := ⟨m1, m2, m3⟩
  by_cases hok : ¬ ((recB l).2 = 0)
  · repeat' (first
      | ((with_reducible apply call0); (focus rfl); (focus exact cal_TapeMay); (focus exact TapeMay _ _); (focus rfl))
      | ((with_reducible apply je_call0); (focus rfl); (focus (decide +kernel)); (focus rfl); (focus exact cal_TapeMay); (focus exact TapeMay _ _); (focus rfl))
      | ((with_reducible apply call0); (focus rfl); (focus exact cal_RecordBytes); (focus exact hR); (focus rfl))
      | ((with_reducible apply je_call0); (focus rfl); (focus (decide +kernel)); (focus rfl); (focus exact cal_RecordBytes); (focus exact hR); (focus rfl))
      | ((with_reducible apply callE1); (focus rfl); (focus exact cal_Octets); (focus exact OctetsR _ _ _ (by omega)); (focus rfl))
      | ((with_reducible apply je_callE); (focus rfl); (focus (decide +kernel)); (focus rfl); (focus exact cal_Octets); (focus exact OctetsR _ _ _ (by omega)); (focus rfl))
      | exact True.intro
      | refine stpa ?_
      | refine two ?_ ?_
      | (refine imp fun hc => ?_) <;> try (first | contradiction | (exfalso; omega))
      | refine all fun v_ => ?_)
    exact retrl (xs := [.agg [.val (.slice none 0 0), .int 0], .int (recB l).2]) (ys := [tpA tpNil, .int (recB l).2]) vid ⟨rv_agg rfl el_Tape rfl (by ((repeat (first | exact List.mem_cons_self | apply List.mem_cons_of_mem)); done)) rfl, rv_tmp rfl, trivial⟩ ⟨AV.le_agg ⟨AV.le_nil 1 1, AV.le_refl _, trivial⟩, AV.le_refl _, trivial⟩ rfl (h' := []) (List.nil_sublist _) (ret_eq (by rw [writeOf_e hm hok]; rfl))
  have h4 : ¬ 4000 < l.length := fun h => hok (by rw [recB, if_pos h]; decide)
  have hk : okNums l := Classical.byContradiction fun h => hok (by rw [recB, if_neg h4, if_neg h]; decide)
  rw [recB_ok h4 hk] at hR
  dsimp only at hR
  have hlen := recAll_length l
  repeat' (first
    | ((with_reducible apply call0); (focus rfl); (focus exact cal_TapeMay); (focus exact TapeMay _ _); (focus rfl))
    | ((with_reducible apply je_call0); (focus rfl); (focus (decide +kernel)); (focus rfl); (focus exact cal_TapeMay); (focus exact TapeMay _ _); (focus rfl))
    | ((with_reducible apply call0); (focus rfl); (focus exact cal_RecordBytes); (focus exact hR); (focus rfl))
    | ((with_reducible apply je_call0); (focus rfl); (focus (decide +kernel)); (focus rfl); (focus exact cal_RecordBytes); (focus exact hR); (focus rfl))
    | ((with_reducible apply callE1); (focus rfl); (focus exact cal_Octets); (focus exact OctetsR _ _ _ (by omega)); (focus rfl))
    | ((with_reducible apply je_callE); (focus rfl); (focus (decide +kernel)); (focus rfl); (focus exact cal_Octets); (focus exact OctetsR _ _ _ (by omega)); (focus rfl))
    | exact True.intro
    | refine stpa ?_
    | refine two ?_ ?_
    | (refine imp fun hc => ?_) <;> try (first | contradiction | (exfalso; omega))
    | refine all fun v_ => ?_)
  · exact retrl (xs := [.agg [.val (.slice none 0 0), .int 0], .int 12]) (ys := [tpA tpNil, .int 12]) vid ⟨rv_agg rfl el_Tape rfl (by ((repeat (first | exact List.mem_cons_self | apply List.mem_cons_of_mem)); done)) rfl, rv_tmp rfl, trivial⟩ ⟨AV.le_agg ⟨AV.le_nil 1 1, AV.le_refl _, trivial⟩, AV.le_refl _, trivial⟩ rfl (h' := []) (List.nil_sublist _) (ret_eq (by rw [writeOf_12 hm h4 hk (by omega)]; rfl))
  rename_i bp br h1_ h2_
  rw [List.take_length]
  refine J_loop (X := Nat × Sl) (fun y => [(2, .val (.pointer (some ⟨bp, 0, none⟩))), (4, .val (.pointer (some ⟨br, 0, none⟩))), (6, .d (bytesD (recAll l))), (8, .val y.2.v), (9, .int y.1)]) (fun y => [rowE y.2.v 5 1 byteC (t.data ++ (recAll l).take y.1), .cells br 27 [.val (.slice none 0 0), .int 0], .cells bp 27 [.d (bytesD t.data), .int t.synced]]) (fun y => y.1 ≤ (recAll l).length) (fun y => (recAll l).length - y.1) (0, v_) (Nat.zero_le _) ?_ (by dsimp only; rw [List.take_zero, List.append_nil]; rfl) ?_
  · repeat (first
      | exact Env.le_nil _
      | refine Env.le_cons (AV.le_refl _) ?_
      | refine Env.le_cons (AV.le_int rfl (by first | rfl | omega | (dsimp only; omega))) ?_)
  rintro ⟨i, v⟩ k1
  dsimp only at k1 ⊢
  have hA : (t.data ++ (recAll l).take i).length = t.data.length + i := by rw [List.length_append, List.length_take]; omega
  by_cases hi : i < (recAll l).length
  · repeat' (first
      | ((with_reducible apply call0); (focus rfl); (focus exact cal_TapeMay); (focus exact TapeMay _ _); (focus rfl))
      | ((with_reducible apply je_call0); (focus rfl); (focus (decide +kernel)); (focus rfl); (focus exact cal_TapeMay); (focus exact TapeMay _ _); (focus rfl))
      | ((with_reducible apply call0); (focus rfl); (focus exact cal_RecordBytes); (focus exact hR); (focus rfl))
      | ((with_reducible apply je_call0); (focus rfl); (focus (decide +kernel)); (focus rfl); (focus exact cal_RecordBytes); (focus exact hR); (focus rfl))
      | ((with_reducible apply callE1); (focus rfl); (focus exact cal_Octets); (focus exact OctetsR _ _ _ (by omega)); (focus rfl))
      | ((with_reducible apply je_callE); (focus rfl); (focus (decide +kernel)); (focus rfl); (focus exact cal_Octets); (focus exact OctetsR _ _ _ (by omega)); (focus rfl))
      | exact True.intro
      | refine stpa ?_
      | refine two ?_ ?_
      | (refine imp fun hc => ?_) <;> try (first | contradiction | (exfalso; omega))
      | refine all fun v_ => ?_)
    refine ⟨(i + 1, v_), by dsimp only; omega, by dsimp only; omega, ?_, ?_⟩
    · repeat (first
        | exact Env.le_nil _
        | refine Env.le_cons (AV.le_refl _) ?_
        | refine Env.le_cons (AV.le_int rfl (by first | rfl | omega | (dsimp only; omega))) ?_)
    · dsimp only
      rw [List.take_succ_eq_append_getElem hi, List.append_assoc]
  · obtain rfl : i = (recAll l).length := by omega
    rw [List.take_length] at hA ⊢
    repeat' (first
      | ((with_reducible apply call0); (focus rfl); (focus exact cal_TapeMay); (focus exact TapeMay _ _); (focus rfl))
      | ((with_reducible apply je_call0); (focus rfl); (focus (decide +kernel)); (focus rfl); (focus exact cal_TapeMay); (focus exact TapeMay _ _); (focus rfl))
      | ((with_reducible apply call0); (focus rfl); (focus exact cal_RecordBytes); (focus exact hR); (focus rfl))
      | ((with_reducible apply je_call0); (focus rfl); (focus (decide +kernel)); (focus rfl); (focus exact cal_RecordBytes); (focus exact hR); (focus rfl))
      | ((with_reducible apply callE1); (focus rfl); (focus exact cal_Octets); (focus exact OctetsR _ _ _ (by omega)); (focus rfl))
      | ((with_reducible apply je_callE); (focus rfl); (focus (decide +kernel)); (focus rfl); (focus exact cal_Octets); (focus exact OctetsR _ _ _ (by omega)); (focus rfl))
      | exact True.intro
      | refine stpa ?_
      | refine two ?_ ?_
      | (refine imp fun hc => ?_) <;> try (first | contradiction | (exfalso; omega))
      | refine all fun v_ => ?_)
    refine retr (VS.trans (VS.drop (h' := [rowE v.v 5 1 byteC (t.data ++ recAll l), .cells br 27 [.val v.v, .int t.synced]]) (.cons_cons _ (.cons_cons _ (.cons _ .slnil)))) (vdat (h1 := []) 1 rfl rfl (fun _ => rfl) (by omega) (CvE.refl _ _ _) (CvH.cells (.cons .here (.cons (.same _) .nil)) (.refl _)))) (xs := [.agg [.d (bytesD (t.data ++ recAll l)), .int t.synced], .int 0]) ⟨rv_agg rfl el_Tape rfl (by ((repeat (first | exact List.mem_cons_self | apply List.mem_cons_of_mem)); done)) rfl, rv_tmp rfl, trivial⟩ rfl (h' := []) (List.nil_sublist _) (ret_eq (by rw [writeOf_ok hm h4 hk (by omega)]; rfl))
end Go.Proofs.Ytffdlpjbbkhcnaa
