/- Contracts: tape.Write, foretellref.Written. -/
import Derived.Test.YtffdlpjbbkhcnaaU3
import Derived.Test.YtffdlpjbbkhcnaaU2
namespace Go.Proofs.Ytffdlpjbbkhcnaa
open Go Go.Av Go.Sp
set_option maxRecDepth 100000

theorem cal_Write : Cal Try.prog 24 := Cal.of Try.func24 (by kernel_rfl) (by kernel_rfl)
set_option maxHeartbeats 2000000 in
theorem Write (G : List (Nat × List D)) (t : Tp) (l : List Int) : ACr Try.prog G 24 [tpA t, .d (intsD l)] (.tup [tpA (writeOf t l).1, .int (writeOf t l).2]) := by
  refine AC_ofR (rs := [.cell 4 27, .tmp 5]) 61 Try.func24 rfl rfl rfl (by simp) fun W I => ?_
  by_cases hm : ¬ mayT t
  · repeat' (first
      | ((with_reducible apply callE1); (focus rfl); (focus exact cal_topen); (focus exact topen_ok _ _ hm); (focus rfl))
      | ((with_reducible apply je_callE); (focus rfl); (focus (decide +kernel)); (focus rfl); (focus exact cal_topen); (focus exact topen_ok _ _ hm); (focus rfl))
      | ((with_reducible apply call0); (focus rfl); (focus exact cal_topen); (focus exact topen_no _ _ hm); (focus rfl))
      | ((with_reducible apply je_call0); (focus rfl); (focus (decide +kernel)); (focus rfl); (focus exact cal_topen); (focus exact topen_no _ _ hm); (focus rfl))
      | ((with_reducible apply callU0); (focus rfl); (focus exact cal_put); (focus exact put _ _ _ _ (Nat.zero_le _)); (focus rfl))
      | ((with_reducible apply callU1); (focus rfl); (focus exact cal_put); (focus exact put _ _ _ _ (Nat.zero_le _)); (focus rfl))
      | ((with_reducible apply callU2); (focus rfl); (focus exact cal_put); (focus exact put _ _ _ _ (Nat.zero_le _)); (focus rfl))
      | ((with_reducible apply callU3); (focus rfl); (focus exact cal_put); (focus exact put _ _ _ _ (Nat.zero_le _)); (focus rfl))
      | ((with_reducible apply callU4); (focus rfl); (focus exact cal_put); (focus exact put _ _ _ _ (Nat.zero_le _)); (focus rfl))
      | ((with_reducible apply callU5); (focus rfl); (focus exact cal_put); (focus exact put _ _ _ _ (Nat.zero_le _)); (focus rfl))
      | refine stpa ?_
      | refine two ?_ ?_
      | (refine imp fun hc => ?_) <;> try (first | contradiction | (exfalso; omega))
      | refine all fun v_ => ?_)
    exact retrl (xs := [.agg [.val (.slice none 0 0), .int 0], .int 9]) (ys := [tpA tpNil, .int 9]) vid ⟨rv_agg rfl el_Tape rfl (by (repeat (first | exact List.mem_cons_self | apply List.mem_cons_of_mem))) rfl, rv_tmp rfl, trivial⟩ ⟨AV.le_agg ⟨AV.le_nil 1 1, AV.le_refl _, trivial⟩, AV.le_refl _, trivial⟩ rfl (h' := []) (List.nil_sublist _) (ret_eq (by rw [writeOf, if_pos hm]; rfl))
  · replace hm := Decidable.not_not.1 hm
    obtain ⟨m1, m2, m3⟩ := hm
    have hm : mayT t := ⟨m1, m2, m3⟩
    refine jfact (t := 1) rfl fun hl => ?_
    refine jrow (E := 5) (sz := 1) byteC ?_
    repeat' (first
      | ((with_reducible apply callE1); (focus rfl); (focus exact cal_topen); (focus exact topen_ok _ _ hm); (focus rfl))
      | ((with_reducible apply je_callE); (focus rfl); (focus (decide +kernel)); (focus rfl); (focus exact cal_topen); (focus exact topen_ok _ _ hm); (focus rfl))
      | ((with_reducible apply call0); (focus rfl); (focus exact cal_topen); (focus exact topen_no _ _ hm); (focus rfl))
      | ((with_reducible apply je_call0); (focus rfl); (focus (decide +kernel)); (focus rfl); (focus exact cal_topen); (focus exact topen_no _ _ hm); (focus rfl))
      | ((with_reducible apply callU0); (focus rfl); (focus exact cal_put); (focus exact put _ _ _ _ (Nat.zero_le _)); (focus rfl))
      | ((with_reducible apply callU1); (focus rfl); (focus exact cal_put); (focus exact put _ _ _ _ (Nat.zero_le _)); (focus rfl))
      | ((with_reducible apply callU2); (focus rfl); (focus exact cal_put); (focus exact put _ _ _ _ (Nat.zero_le _)); (focus rfl))
      | ((with_reducible apply callU3); (focus rfl); (focus exact cal_put); (focus exact put _ _ _ _ (Nat.zero_le _)); (focus rfl))
      | ((with_reducible apply callU4); (focus rfl); (focus exact cal_put); (focus exact put _ _ _ _ (Nat.zero_le _)); (focus rfl))
      | ((with_reducible apply callU5); (focus rfl); (focus exact cal_put); (focus exact put _ _ _ _ (Nat.zero_le _)); (focus rfl))
      | refine stpa ?_
      | refine two ?_ ?_
      | (refine imp fun hc => ?_) <;> try (first | contradiction | (exfalso; omega))
      | refine all fun v_ => ?_)
    · exact retrl (xs := [.agg [.val (.slice none 0 0), .int 0], .int 1]) (ys := [tpA tpNil, .int 1]) vid ⟨rv_agg rfl el_Tape rfl (by (repeat (first | exact List.mem_cons_self | apply List.mem_cons_of_mem))) rfl, rv_tmp rfl, trivial⟩ ⟨AV.le_agg ⟨AV.le_nil 1 1, AV.le_refl _, trivial⟩, AV.le_refl _, trivial⟩ rfl (h' := []) (List.nil_sublist _) (ret_eq (by rw [writeOf_1 hm (by omega)]; rfl))
    rw [show ([] : List UInt8) ++ b4 l.length = recTo l 0 from (recTo_zero l).symm]
    rename_i bp br q b6
    have hbig : ¬ 4000 < l.length := by omega
    refine J_loop (X := Nat × Sl) (fun y => [(1, .d (intsD l)), (4, .val (.pointer (some ⟨br, 0, none⟩))), (6, .val (.pointer (some ⟨b6, 0, none⟩))), (8, .val y.2.v), (26, .d (intsD l)), (27, .int l.length), (28, .int y.1)]) (fun y => [rowE y.2.v 5 1 byteC (recTo l y.1), .cells b6 27 [.val q.v, .int t.synced], rowE q.v 5 1 byteC t.data, .cells br 27 [.val (.slice none 0 0), .int 0], .cells bp 27 [.d (bytesD t.data), .int t.synced]]) (fun y => y.1 ≤ l.length ∧ okNums (l.take y.1)) (fun y => l.length - y.1) (0, v_) ⟨Nat.zero_le _, okNums_zero l⟩ ?_ rfl ?_
    · repeat (first
        | exact Env.le_nil _
        | refine Env.le_cons (AV.le_refl _) ?_
        | refine Env.le_cons (AV.le_int rfl (by first | rfl | omega | (dsimp only; omega))) ?_)
    rintro ⟨i, v⟩ ⟨k1, k2⟩
    dsimp only at k1 k2 ⊢
    have hlen := recTo_length l i k1
    by_cases hi : i < l.length
    · by_cases hb : 0 ≤ l[i] ∧ l[i] ≤ 2147483647
      · repeat' (first
          | ((with_reducible apply callU0); (focus rfl); (focus exact cal_put); (focus exact put _ _ _ _ (by omega)); (focus rfl))
          | ((with_reducible apply callU1); (focus rfl); (focus exact cal_put); (focus exact put _ _ _ _ (by omega)); (focus rfl))
          | ((with_reducible apply callU2); (focus rfl); (focus exact cal_put); (focus exact put _ _ _ _ (by omega)); (focus rfl))
          | ((with_reducible apply callU3); (focus rfl); (focus exact cal_put); (focus exact put _ _ _ _ (by omega)); (focus rfl))
          | ((with_reducible apply callU4); (focus rfl); (focus exact cal_put); (focus exact put _ _ _ _ (by omega)); (focus rfl))
          | ((with_reducible apply callU5); (focus rfl); (focus exact cal_put); (focus exact put _ _ _ _ (by omega)); (focus rfl))
          | refine jborF rfl cal_Sum (Sum _ _) ⟨bor_row (E := 5) 1 (by (repeat (first | exact List.mem_cons_self | apply List.mem_cons_of_mem))) rfl (fun _ => rfl) (by omega), trivial⟩ rfl ?_
          | refine stpa ?_
          | refine two ?_ ?_
          | (refine imp fun hc => ?_) <;> try (first | contradiction | (exfalso; omega))
          | refine all fun v_ => ?_)
        refine ⟨(i + 1, v_), ⟨by dsimp only; omega, okNums_succ l i hi k2 hb⟩, by dsimp only; omega, ?_, ?_⟩
        · repeat (first
            | exact Env.le_nil _
            | refine Env.le_cons (AV.le_refl _) ?_
            | refine Env.le_cons (AV.le_int rfl (by first | rfl | omega | (dsimp only; omega))) ?_)
        · dsimp only
          rw [recTo_succ l i hi]
      · repeat' (first
          | ((with_reducible apply callU0); (focus rfl); (focus exact cal_put); (focus exact put _ _ _ _ (by omega)); (focus rfl))
          | ((with_reducible apply callU1); (focus rfl); (focus exact cal_put); (focus exact put _ _ _ _ (by omega)); (focus rfl))
          | ((with_reducible apply callU2); (focus rfl); (focus exact cal_put); (focus exact put _ _ _ _ (by omega)); (focus rfl))
          | ((with_reducible apply callU3); (focus rfl); (focus exact cal_put); (focus exact put _ _ _ _ (by omega)); (focus rfl))
          | ((with_reducible apply callU4); (focus rfl); (focus exact cal_put); (focus exact put _ _ _ _ (by omega)); (focus rfl))
          | ((with_reducible apply callU5); (focus rfl); (focus exact cal_put); (focus exact put _ _ _ _ (by omega)); (focus rfl))
          | refine jborF rfl cal_Sum (Sum _ _) ⟨bor_row (E := 5) 1 (by (repeat (first | exact List.mem_cons_self | apply List.mem_cons_of_mem))) rfl (fun _ => rfl) (by omega), trivial⟩ rfl ?_
          | refine stpa ?_
          | refine two ?_ ?_
          | (refine imp fun hc => ?_) <;> try (first | contradiction | (exfalso; omega))
          | refine all fun v_ => ?_)
        all_goals
          exact retrl (xs := [.agg [.val (.slice none 0 0), .int 0], .int 2]) (ys := [tpA tpNil, .int 2]) vid ⟨rv_agg rfl el_Tape rfl (by (repeat (first | exact List.mem_cons_self | apply List.mem_cons_of_mem))) rfl, rv_tmp rfl, trivial⟩ ⟨AV.le_agg ⟨AV.le_nil 1 1, AV.le_refl _, trivial⟩, AV.le_refl _, trivial⟩ rfl (h' := []) (List.nil_sublist _) (ret_eq (by rw [writeOf_2 hm hbig (okNums_no l i hi (by omega))]; rfl))
    · obtain rfl : i = l.length := by omega
      have hlen2 := recAll_length l
      have hA : (recTo l l.length ++ b4 (sumOf (recTo l l.length))).length = 8 + 4 * l.length := hlen2
      have hok := okNums_all l _ (Nat.le_refl _) k2
      repeat' (first
        | ((with_reducible apply callU0); (focus rfl); (focus exact cal_put); (focus exact put _ _ _ _ (by omega)); (focus rfl))
        | ((with_reducible apply callU1); (focus rfl); (focus exact cal_put); (focus exact put _ _ _ _ (by omega)); (focus rfl))
        | ((with_reducible apply callU2); (focus rfl); (focus exact cal_put); (focus exact put _ _ _ _ (by omega)); (focus rfl))
        | ((with_reducible apply callU3); (focus rfl); (focus exact cal_put); (focus exact put _ _ _ _ (by omega)); (focus rfl))
        | ((with_reducible apply callU4); (focus rfl); (focus exact cal_put); (focus exact put _ _ _ _ (by omega)); (focus rfl))
        | ((with_reducible apply callU5); (focus rfl); (focus exact cal_put); (focus exact put _ _ _ _ (by omega)); (focus rfl))
        | refine jborF rfl cal_Sum (Sum _ _) ⟨bor_row (E := 5) 1 (by (repeat (first | exact List.mem_cons_self | apply List.mem_cons_of_mem))) rfl (fun _ => rfl) (by omega), trivial⟩ rfl ?_
        | refine stpa ?_
        | refine two ?_ ?_
        | (refine imp fun hc => ?_) <;> try (first | contradiction | (exfalso; omega))
        | refine all fun v_ => ?_)
      · exact retrl (xs := [.agg [.val (.slice none 0 0), .int 0], .int 12]) (ys := [tpA tpNil, .int 12]) vid ⟨rv_agg rfl el_Tape rfl (by (repeat (first | exact List.mem_cons_self | apply List.mem_cons_of_mem))) rfl, rv_tmp rfl, trivial⟩ ⟨AV.le_agg ⟨AV.le_nil 1 1, AV.le_refl _, trivial⟩, AV.le_refl _, trivial⟩ rfl (h' := []) (List.nil_sublist _) (ret_eq (by rw [writeOf_12 hm hbig hok (by omega)]; rfl))
      refine JL_vs (vdat (h1 := []) (h' := [_, _, _, _]) 1 rfl rfl (fun _ => rfl) (by omega) (CvE.cons (t := 57) rfl .here (CvE.refl _ _ _)) (CvH.refl _)) ?_
      repeat' (first
        | ((with_reducible apply callU0); (focus rfl); (focus exact cal_put); (focus exact put _ _ _ _ (by omega)); (focus rfl))
        | ((with_reducible apply callU1); (focus rfl); (focus exact cal_put); (focus exact put _ _ _ _ (by omega)); (focus rfl))
        | ((with_reducible apply callU2); (focus rfl); (focus exact cal_put); (focus exact put _ _ _ _ (by omega)); (focus rfl))
        | ((with_reducible apply callU3); (focus rfl); (focus exact cal_put); (focus exact put _ _ _ _ (by omega)); (focus rfl))
        | ((with_reducible apply callU4); (focus rfl); (focus exact cal_put); (focus exact put _ _ _ _ (by omega)); (focus rfl))
        | ((with_reducible apply callU5); (focus rfl); (focus exact cal_put); (focus exact put _ _ _ _ (by omega)); (focus rfl))
        | refine jborF rfl cal_Sum (Sum _ _) ⟨bor_row (E := 5) 1 (by (repeat (first | exact List.mem_cons_self | apply List.mem_cons_of_mem))) rfl (fun _ => rfl) (by omega), trivial⟩ rfl ?_
        | refine stpa ?_
        | refine two ?_ ?_
        | (refine imp fun hc => ?_) <;> try (first | contradiction | (exfalso; omega))
        | refine all fun v_ => ?_)
      have hd : (t.data ++ recAll l).length = t.data.length + (8 + 4 * l.length) := by rw [List.length_append, hlen2]
      refine retr (VS.trans (VS.drop (h' := [rowE v_.v 5 1 byteC (t.data ++ recAll l), .cells br 27 [.val v_.v, .int t.synced]]) (.cons _ (.cons_cons _ (.cons_cons _ (.cons _ .slnil))))) (vdat (h1 := []) 1 rfl rfl (fun _ => rfl) (by omega) (CvE.refl _ _ _) (CvH.cells (.cons .here (.cons (.same _) .nil)) (.refl _)))) (xs := [.agg [.d (bytesD (t.data ++ recAll l)), .int t.synced], .int 0]) ⟨rv_agg rfl el_Tape rfl (by (repeat (first | exact List.mem_cons_self | apply List.mem_cons_of_mem))) rfl, rv_tmp rfl, trivial⟩ rfl (h' := []) (List.nil_sublist _) (ret_eq (by rw [writeOf_ok hm hbig hok (by omega)]; rfl))
end Go.Proofs.Ytffdlpjbbkhcnaa
