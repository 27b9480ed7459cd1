/- Contracts: tapes: copies, comparisons, open, Sync, Crash; the document's answers to these. -/
import Derived.Test.YtffdlpjbbkhcnaaU1
namespace Go.Proofs.Ytffdlpjbbkhcnaa
open Go Go.Av Go.Sp
set_option linter.unusedVariables false
set_option linter.unusedSimpArgs false
set_option maxRecDepth 100000
set_option maxHeartbeats 4000000

theorem cal_Clone : Cal Try.prog 58 := Cal.of Try.func58 (by kernel_rfl) (by kernel_rfl)
theorem cal_topen : Cal Try.prog 50 := Cal.of Try.func50 (by kernel_rfl) (by kernel_rfl)
theorem cal_TapeMay : Cal Try.prog 51 := Cal.of Try.func51 (by kernel_rfl) (by kernel_rfl)
theorem cal_Octets : Cal Try.prog 52 := Cal.of Try.func52 (by kernel_rfl) (by kernel_rfl)
theorem cal_Sync : Cal Try.prog 19 := Cal.of Try.func19 (by kernel_rfl) (by kernel_rfl)
theorem cal_TapeSynced : Cal Try.prog 20 := Cal.of Try.func20 (by kernel_rfl) (by kernel_rfl)
theorem cal_Crash : Cal Try.prog 22 := Cal.of Try.func22 (by kernel_rfl) (by kernel_rfl)
theorem cal_TapeCrashed : Cal Try.prog 23 := Cal.of Try.func23 (by kernel_rfl) (by kernel_rfl)
theorem cal_tapes : Cal Try.prog 18 := Cal.of Try.func18 (by kernel_rfl) (by kernel_rfl)
theorem cal_sameBytes : Cal Try.prog 53 := Cal.of Try.func53 (by kernel_rfl) (by kernel_rfl)
theorem cal_sameTape : Cal Try.prog 21 := Cal.of Try.func21 (by kernel_rfl) (by kernel_rfl)
theorem Clone (G : List (Nat × List D)) (l : List UInt8) (hl : l.length ≤ 140737488355328) : AC Try.prog G 58 [.d (bytesD l)] [] fun e h => ∃ q : Sl, e = .ret (.val q.v) ∧ h = [rowE q.v 5 1 byteC l] := by
  refine AC_ofV (ts := [2]) 8 Try.func58 rfl rfl rfl (by simp) fun W I => ?_
  repeat' (first
    | ((with_reducible apply jeqnil); (focus rfl); (focus rfl); (focus rfl); (focus rfl))
    | ((with_reducible apply jbuild0S byteC); (focus rfl); (focus (with_reducible exact ElC.h)); (focus rfl))
    | exact True.intro
    | refine stpa ?_
    | refine two ?_ ?_
    | (refine imp fun hc => ?_) <;> try (first | contradiction | (exfalso; omega))
    | refine all fun v_ => ?_)
  · rename_i hn
    have : l = [] := by simpa using hn hc
    subst this
    refine retv (VS.nilrow 5 1) ?_
    ((with_reducible apply rq1); rfl; rfl)
    exact ⟨Sl.nil, rfl, rfl⟩
  · refine retv0 ?_
    ((with_reducible apply rq1); rfl; rfl)
    exact ⟨_, rfl, rfl⟩
theorem topen_ok (G : List (Nat × List D)) (t : Tp) (hm : mayT t) : AC Try.prog G 50 [tpA t] [] fun e h => ∃ q : Sl, e = .ret (.tup [.agg [.val q.v, .int t.synced], .bool true]) ∧ h = [rowE q.v 5 1 byteC t.data] := by
  obtain ⟨h1, h2, h3⟩ := hm
  refine AC_ofR (rs := [.cell 2 27, .tmp 3]) 28 Try.func50 rfl rfl rfl (by simp) fun W I => ?_
  repeat' (first
    | ((with_reducible apply callE1); (focus rfl); (focus exact cal_Clone); (focus exact Clone _ _ (by omega)); (focus rfl))
    | ((with_reducible apply je_callE); (focus rfl); (focus (decide +kernel)); (focus rfl); (focus exact cal_Clone); (focus exact Clone _ _ (by omega)); (focus rfl))
    | exact True.intro
    | refine stpa ?_
    | refine two ?_ ?_
    | (refine imp fun hc => ?_) <;> try (first | contradiction | (exfalso; omega))
    | refine all fun v_ => ?_)
  refine retr0 (xs := [.agg [.val v_.v, .int t.synced], .bool true]) ⟨rv_agg rfl el_Tape rfl (by ((repeat (first | exact List.mem_cons_self | apply List.mem_cons_of_mem)); done)) rfl, rv_tmp rfl, trivial⟩ rfl (h' := [rowE v_.v 5 1 byteC t.data]) (by (repeat (first | exact List.nil_sublist _ | (with_reducible apply List.Sublist.cons_cons) | apply List.Sublist.cons))) ⟨v_, rfl, rfl⟩
theorem topen_no (G : List (Nat × List D)) (t : Tp) (hm : ¬ mayT t) : ACr Try.prog G 50 [tpA t] (.tup [tpA tpNil, .bool false]) := by
  unfold mayT at hm
  refine AC_ofR (rs := [.cell 2 27, .tmp 3]) 28 Try.func50 rfl rfl rfl (by simp) fun W I => ?_
  repeat' (first
    | ((with_reducible apply callE1); (focus rfl); (focus exact cal_Clone); (focus exact Clone _ _ (by omega)); (focus rfl))
    | ((with_reducible apply je_callE); (focus rfl); (focus (decide +kernel)); (focus rfl); (focus exact cal_Clone); (focus exact Clone _ _ (by omega)); (focus rfl))
    | exact True.intro
    | refine stpa ?_
    | refine two ?_ ?_
    | (refine imp fun hc => ?_) <;> try (first | contradiction | (exfalso; omega))
    | refine all fun v_ => ?_)
  all_goals
    exact retrl (xs := [.agg [.val (.slice none 0 0), .int 0], .bool false]) (ys := [tpA tpNil, .bool false]) vid ⟨rv_agg rfl el_Tape rfl (by ((repeat (first | exact List.mem_cons_self | apply List.mem_cons_of_mem)); done)) rfl, rv_tmp rfl, trivial⟩ ⟨AV.le_agg ⟨AV.le_nil 1 1, AV.le_refl _, trivial⟩, AV.le_refl _, trivial⟩ rfl (h' := []) (List.nil_sublist _) ⟨rfl, rfl⟩
theorem TapeMay (G : List (Nat × List D)) (t : Tp) : ACr Try.prog G 51 [tpA t] (.bool (decide (mayT t))) := by
  refine AC_ofV (ts := [2]) 15 Try.func51 rfl rfl rfl (by simp) fun W I => ?_
  repeat' (first
    | ((with_reducible apply call0); (focus rfl); (focus exact cal_In); (focus exact In _ _ _ _); (focus rfl))
    | ((with_reducible apply je_call0); (focus rfl); (focus (decide +kernel)); (focus rfl); (focus exact cal_In); (focus exact In _ _ _ _); (focus rfl))
    | ((with_reducible apply qcall); (focus rfl); (focus exact cal_In); (focus exact In _ _ _ _); (focus rfl))
    | exact True.intro
    | refine stpa ?_
    | refine two ?_ ?_
    | (refine imp fun hc => ?_) <;> try (first | contradiction | (exfalso; omega))
    | refine all fun v_ => ?_)
  all_goals
    refine retv (VS.drop (List.nil_sublist _)) ?_
    ((with_reducible apply rq1); rfl; rfl)
    refine ret_eq (congrArg AV.bool ?_)
    unfold mayT
    (first | rfl | (refine decide_eq_decide.2 ?_; omega) | (refine (decide_eq_true ?_).symm; omega) | (refine (decide_eq_false ?_).symm; omega) | (refine decide_eq_true ?_; omega) | (refine decide_eq_false ?_; omega))
theorem Octets (G : List (Nat × List D)) (l : List UInt8) (n : Nat) (hn : n ≤ l.length) : ACr Try.prog G 52 [.d (bytesD l), .int n] (.d (bytesD (l.take n))) := by
  refine AC_ofV (ts := [4]) 20 Try.func52 rfl rfl rfl (by simp) fun W I => ?_
  refine jfact (t := 0) rfl fun hl => ?_
  repeat' (first
    | exact True.intro
    | refine stpa ?_
    | refine two ?_ ?_
    | (refine imp fun hc => ?_) <;> try (first | contradiction | (exfalso; omega))
    | refine all fun v_ => ?_)
  refine jrow (E := 5) (sz := 1) byteC ?_
  refine J_loop (X := Nat × Sl) (fun y => [(0, .d (bytesD l)), (1, .int n), (5, .val y.2.v), (6, .int y.1)]) (fun y => [rowE y.2.v 5 1 byteC (l.take y.1)]) (fun y => y.1 ≤ n) (fun y => n - y.1) (0, Sl.nil) (Nat.zero_le _) ?_ rfl ?_
  · repeat (first
      | exact Env.le_nil _
      | refine Env.le_cons (AV.le_refl _) ?_
      | refine Env.le_cons (AV.le_int rfl (by first | rfl | omega | (dsimp only; omega))) ?_)
  rintro ⟨i, v⟩ h1
  dsimp only at h1 ⊢
  have hlen : (l.take i).length = i := by rw [List.length_take]; omega
  repeat' (first
    | exact True.intro
    | refine stpa ?_
    | refine two ?_ ?_
    | (refine imp fun hc => ?_) <;> try (first | contradiction | (exfalso; omega))
    | refine all fun v_ => ?_)
  · refine ⟨(i + 1, v_), by dsimp only; omega, by dsimp only; omega, ?_, ?_⟩
    · repeat (first
        | exact Env.le_nil _
        | refine Env.le_cons (AV.le_refl _) ?_
        | refine Env.le_cons (AV.le_int rfl (by first | rfl | omega | (dsimp only; omega))) ?_)
    · dsimp only
      rw [List.take_succ_eq_append_getElem (by omega)]
  · refine retv (vfreeze (t := 4) (eb := 1) rfl rfl (fun x => rfl) (by rw [hlen]; omega)) ?_
    ((with_reducible apply rq1); rfl; rfl)
    refine ret_eq ?_
    have : i = n := by omega
    rw [this]
theorem Sync (G : List (Nat × List D)) (t : Tp) : ACr Try.prog G 19 [tpA t] (.tup [tpA (syncOf t).1, .int (syncOf t).2]) := by
  by_cases hm : mayT t
  · refine AC_ofR (rs := [.cell 2 27, .tmp 3]) 19 Try.func19 rfl rfl rfl (by simp) fun W I => ?_
    repeat' (first
      | ((with_reducible apply callE1); (focus rfl); (focus exact cal_topen); (focus exact topen_ok _ _ hm); (focus rfl))
      | ((with_reducible apply je_callE); (focus rfl); (focus (decide +kernel)); (focus rfl); (focus exact cal_topen); (focus exact topen_ok _ _ hm); (focus rfl))
      | ((with_reducible apply call0); (focus rfl); (focus exact cal_topen); (focus exact topen_no _ _ hm); (focus rfl))
      | ((with_reducible apply je_call0); (focus rfl); (focus (decide +kernel)); (focus rfl); (focus exact cal_topen); (focus exact topen_no _ _ hm); (focus rfl))
      | exact True.intro
      | refine stpa ?_
      | refine two ?_ ?_
      | (refine imp fun hc => ?_) <;> try (first | contradiction | (exfalso; omega))
      | refine all fun v_ => ?_)
    rename_i bp br q
    have hb := hm.1
    refine retr (VS.trans (VS.drop (h' := [rowE q.v 5 1 byteC t.data, .cells br 27 [.val q.v, .int t.data.length]]) (.cons _ (.cons_cons _ (.cons_cons _ (.cons _ .slnil))))) (vdat (h1 := []) 1 rfl rfl (fun _ => rfl) (by omega) (CvE.refl _ _ _) (CvH.cells (.cons .here (.cons (.same _) .nil)) (.refl _)))) (xs := [.agg [.d (bytesD t.data), .int t.data.length], .int 0]) ⟨rv_agg rfl el_Tape rfl (by ((repeat (first | exact List.mem_cons_self | apply List.mem_cons_of_mem)); done)) rfl, rv_tmp rfl, trivial⟩ rfl (h' := []) (List.nil_sublist _) (ret_eq (by rw [syncOf, if_pos hm]; rfl))
  · refine AC_ofR (rs := [.cell 2 27, .tmp 3]) 19 Try.func19 rfl rfl rfl (by simp) fun W I => ?_
    repeat' (first
      | ((with_reducible apply callE1); (focus rfl); (focus exact cal_topen); (focus exact topen_ok _ _ hm); (focus rfl))
      | ((with_reducible apply je_callE); (focus rfl); (focus (decide +kernel)); (focus rfl); (focus exact cal_topen); (focus exact topen_ok _ _ hm); (focus rfl))
      | ((with_reducible apply call0); (focus rfl); (focus exact cal_topen); (focus exact topen_no _ _ hm); (focus rfl))
      | ((with_reducible apply je_call0); (focus rfl); (focus (decide +kernel)); (focus rfl); (focus exact cal_topen); (focus exact topen_no _ _ hm); (focus rfl))
      | exact True.intro
      | refine stpa ?_
      | refine two ?_ ?_
      | (refine imp fun hc => ?_) <;> try (first | contradiction | (exfalso; omega))
      | refine all fun v_ => ?_)
    exact retrl (xs := [.agg [.val (.slice none 0 0), .int 0], .int 9]) (ys := [tpA tpNil, .int 9]) vid ⟨rv_agg rfl el_Tape rfl (by ((repeat (first | exact List.mem_cons_self | apply List.mem_cons_of_mem)); done)) rfl, rv_tmp rfl, trivial⟩ ⟨AV.le_agg ⟨AV.le_nil 1 1, AV.le_refl _, trivial⟩, AV.le_refl _, trivial⟩ rfl (h' := []) (List.nil_sublist _) (ret_eq (by rw [syncOf, if_neg hm]; rfl))
theorem TapeSynced (G : List (Nat × List D)) (t : Tp) : ACr Try.prog G 20 [tpA t] (.tup [tpA (syncOf t).1, .int (syncOf t).2]) := by
  refine AC_ofR (rs := [.cell 2 27, .tmp 3]) Try.f20.ntmps Try.func20 rfl rfl rfl (by simp [Try.ntmps20]) fun W I => ?_
  repeat' (first
    | ((with_reducible apply call0); (focus rfl); (focus exact cal_TapeMay); (focus exact TapeMay _ _); (focus rfl))
    | ((with_reducible apply je_call0); (focus rfl); (focus (decide +kernel)); (focus rfl); (focus exact cal_TapeMay); (focus exact TapeMay _ _); (focus rfl))
    | ((with_reducible apply call0); (focus rfl); (focus exact cal_Octets); (focus exact Octets _ _ _ (by omega)); (focus rfl))
    | ((with_reducible apply je_call0); (focus rfl); (focus (decide +kernel)); (focus rfl); (focus exact cal_Octets); (focus exact Octets _ _ _ (by omega)); (focus rfl))
    | exact True.intro
    | refine stpa ?_
    | refine two ?_ ?_
    | (refine imp fun hc => ?_) <;> try (first | contradiction | (exfalso; omega))
    | refine all fun v_ => ?_)
  · refine retr0 (xs := [.agg [.d (bytesD (t.data.take t.data.length)), .int t.data.length], .int 0]) ⟨rv_agg rfl el_Tape rfl (by ((repeat (first | exact List.mem_cons_self | apply List.mem_cons_of_mem)); done)) rfl, rv_tmp rfl, trivial⟩ rfl (h' := []) (List.nil_sublist _) (ret_eq ?_)
    rw [syncOf, if_pos hc, List.take_length]; rfl
  · exact retrl (xs := [.agg [.val (.slice none 0 0), .int 0], .int 9]) (ys := [tpA tpNil, .int 9]) vid ⟨rv_agg rfl el_Tape rfl (by ((repeat (first | exact List.mem_cons_self | apply List.mem_cons_of_mem)); done)) rfl, rv_tmp rfl, trivial⟩ ⟨AV.le_agg ⟨AV.le_nil 1 1, AV.le_refl _, trivial⟩, AV.le_refl _, trivial⟩ rfl (h' := []) (List.nil_sublist _) (ret_eq (by rw [syncOf, if_neg hc]; rfl))
theorem Crash (G : List (Nat × List D)) (t : Tp) (keep : Int) : ACr Try.prog G 22 [tpA t, .int keep] (.tup [tpA (crashOf t keep).1, .int (crashOf t keep).2]) := by
  by_cases hm : mayT t
  · obtain ⟨m1, m2, m3⟩ := hm
    have hm : mayT t := ⟨m1, m2, m3⟩
    refine AC_ofR (rs := [.cell 4 27, .tmp 5]) 40 Try.func22 rfl rfl rfl (by simp) fun W I => ?_
    repeat' (first
      | ((with_reducible apply callE1); (focus rfl); (focus exact cal_topen); (focus exact topen_ok _ _ hm); (focus rfl))
      | ((with_reducible apply je_callE); (focus rfl); (focus (decide +kernel)); (focus rfl); (focus exact cal_topen); (focus exact topen_ok _ _ hm); (focus rfl))
      | ((with_reducible apply call0); (focus rfl); (focus exact cal_topen); (focus exact topen_no _ _ hm); (focus rfl))
      | ((with_reducible apply je_call0); (focus rfl); (focus (decide +kernel)); (focus rfl); (focus exact cal_topen); (focus exact topen_no _ _ hm); (focus rfl))
      | exact True.intro
      | refine stpa ?_
      | refine two ?_ ?_
      | (refine imp fun hc => ?_) <;> try (first | contradiction | (exfalso; omega))
      | refine all fun v_ => ?_)
    · exact retrl (xs := [.agg [.val (.slice none 0 0), .int 0], .int 2]) (ys := [tpA tpNil, .int 2]) vid ⟨rv_agg rfl el_Tape rfl (by ((repeat (first | exact List.mem_cons_self | apply List.mem_cons_of_mem)); done)) rfl, rv_tmp rfl, trivial⟩ ⟨AV.le_agg ⟨AV.le_nil 1 1, AV.le_refl _, trivial⟩, AV.le_refl _, trivial⟩ rfl (h' := []) (List.nil_sublist _) (ret_eq (by rw [crashOf, if_neg (fun h => h hm), if_pos hc]; rfl))
    refine JL_vs (vdat (h1 := [_]) (h' := [_, _, _]) 1 rfl rfl (fun _ => rfl) (by omega) (CvE.cons (t := 34) rfl .here (CvE.refl _ _ _)) (CvH.refl _)) ?_
    repeat' (first
      | ((with_reducible apply callE1); (focus rfl); (focus exact cal_topen); (focus exact topen_ok _ _ hm); (focus rfl))
      | ((with_reducible apply je_callE); (focus rfl); (focus (decide +kernel)); (focus rfl); (focus exact cal_topen); (focus exact topen_ok _ _ hm); (focus rfl))
      | ((with_reducible apply call0); (focus rfl); (focus exact cal_topen); (focus exact topen_no _ _ hm); (focus rfl))
      | ((with_reducible apply je_call0); (focus rfl); (focus (decide +kernel)); (focus rfl); (focus exact cal_topen); (focus exact topen_no _ _ hm); (focus rfl))
      | exact True.intro
      | refine stpa ?_
      | refine two ?_ ?_
      | (refine imp fun hc => ?_) <;> try (first | contradiction | (exfalso; omega))
      | refine all fun v_ => ?_)
    refine retr0 (xs := [.agg [.d (bytesD (t.data.take (t.synced + min keep (t.data.length - t.synced)).toNat)), .int (t.synced + min keep (t.data.length - t.synced))], .int 0]) ⟨rv_agg rfl el_Tape rfl (by ((repeat (first | exact List.mem_cons_self | apply List.mem_cons_of_mem)); done)) rfl, rv_tmp rfl, trivial⟩ rfl (h' := []) (List.nil_sublist _) (ret_eq ?_)
    rw [crashOf, if_neg (fun h => h hm), if_neg hc]; rfl
  · refine AC_ofR (rs := [.cell 4 27, .tmp 5]) 40 Try.func22 rfl rfl rfl (by simp) fun W I => ?_
    repeat' (first
      | ((with_reducible apply callE1); (focus rfl); (focus exact cal_topen); (focus exact topen_ok _ _ hm); (focus rfl))
      | ((with_reducible apply je_callE); (focus rfl); (focus (decide +kernel)); (focus rfl); (focus exact cal_topen); (focus exact topen_ok _ _ hm); (focus rfl))
      | ((with_reducible apply call0); (focus rfl); (focus exact cal_topen); (focus exact topen_no _ _ hm); (focus rfl))
      | ((with_reducible apply je_call0); (focus rfl); (focus (decide +kernel)); (focus rfl); (focus exact cal_topen); (focus exact topen_no _ _ hm); (focus rfl))
      | exact True.intro
      | refine stpa ?_
      | refine two ?_ ?_
      | (refine imp fun hc => ?_) <;> try (first | contradiction | (exfalso; omega))
      | refine all fun v_ => ?_)
    exact retrl (xs := [.agg [.val (.slice none 0 0), .int 0], .int 9]) (ys := [tpA tpNil, .int 9]) vid ⟨rv_agg rfl el_Tape rfl (by ((repeat (first | exact List.mem_cons_self | apply List.mem_cons_of_mem)); done)) rfl, rv_tmp rfl, trivial⟩ ⟨AV.le_agg ⟨AV.le_nil 1 1, AV.le_refl _, trivial⟩, AV.le_refl _, trivial⟩ rfl (h' := []) (List.nil_sublist _) (ret_eq (by rw [crashOf, if_pos hm]; rfl))
theorem TapeCrashed (G : List (Nat × List D)) (t : Tp) (keep : Int) : ACr Try.prog G 23 [tpA t, .int keep] (.tup [tpA (crashOf t keep).1, .int (crashOf t keep).2]) := by
  refine AC_ofR (rs := [.cell 4 27, .tmp 5]) Try.f23.ntmps Try.func23 rfl rfl rfl (by simp [Try.ntmps23]) fun W I => ?_
  by_cases hm : mayT t
  · obtain ⟨m1, m2, m3⟩ := hm
    have hm : mayT t := ⟨m1, m2, m3⟩
    by_cases hneg : keep < 0
    · have hO := True.intro
      repeat' (first
        | ((with_reducible apply call0); (focus rfl); (focus exact cal_TapeMay); (focus exact TapeMay _ _); (focus rfl))
        | ((with_reducible apply je_call0); (focus rfl); (focus (decide +kernel)); (focus rfl); (focus exact cal_TapeMay); (focus exact TapeMay _ _); (focus rfl))
        | ((with_reducible apply call0); (focus rfl); (focus exact cal_Octets); (focus exact Octets _ _ _ (by omega)); (focus rfl))
        | ((with_reducible apply je_call0); (focus rfl); (focus (decide +kernel)); (focus rfl); (focus exact cal_Octets); (focus exact Octets _ _ _ (by omega)); (focus rfl))
        | ((with_reducible apply call0); (focus rfl); (focus exact cal_Octets); (focus exact hO); (focus rfl))
        | ((with_reducible apply je_call0); (focus rfl); (focus (decide +kernel)); (focus rfl); (focus exact cal_Octets); (focus exact hO); (focus rfl))
        | exact True.intro
        | refine stpa ?_
        | refine two ?_ ?_
        | (refine imp fun hc => ?_) <;> try (first | contradiction | (exfalso; omega))
        | refine all fun v_ => ?_)
      exact retrl (xs := [.agg [.val (.slice none 0 0), .int 0], .int 2]) (ys := [tpA tpNil, .int 2]) vid ⟨rv_agg rfl el_Tape rfl (by ((repeat (first | exact List.mem_cons_self | apply List.mem_cons_of_mem)); done)) rfl, rv_tmp rfl, trivial⟩ ⟨AV.le_agg ⟨AV.le_nil 1 1, AV.le_refl _, trivial⟩, AV.le_refl _, trivial⟩ rfl (h' := []) (List.nil_sublist _) (ret_eq (by rw [crashOf, if_neg (fun h => h hm), if_pos hneg]; rfl))
    have hs : crashOf t keep = (⟨t.data.take (t.synced + min keep (t.data.length - t.synced)).toNat, t.synced + min keep (t.data.length - t.synced)⟩, 0) := by
      rw [crashOf, if_neg (fun h => h hm), if_neg hneg]
    by_cases hlt : keep < t.data.length - t.synced
    · have e1 : t.synced + min keep (t.data.length - t.synced) = t.synced + keep := by omega
      rw [e1] at hs
      have hO := Octets G t.data (t.synced + keep).toNat (by omega)
      rw [Int.toNat_of_nonneg (by omega)] at hO
      repeat' (first
        | ((with_reducible apply call0); (focus rfl); (focus exact cal_TapeMay); (focus exact TapeMay _ _); (focus rfl))
        | ((with_reducible apply je_call0); (focus rfl); (focus (decide +kernel)); (focus rfl); (focus exact cal_TapeMay); (focus exact TapeMay _ _); (focus rfl))
        | ((with_reducible apply call0); (focus rfl); (focus exact cal_Octets); (focus exact Octets _ _ _ (by omega)); (focus rfl))
        | ((with_reducible apply je_call0); (focus rfl); (focus (decide +kernel)); (focus rfl); (focus exact cal_Octets); (focus exact Octets _ _ _ (by omega)); (focus rfl))
        | ((with_reducible apply call0); (focus rfl); (focus exact cal_Octets); (focus exact hO); (focus rfl))
        | ((with_reducible apply je_call0); (focus rfl); (focus (decide +kernel)); (focus rfl); (focus exact cal_Octets); (focus exact hO); (focus rfl))
        | exact True.intro
        | refine stpa ?_
        | refine two ?_ ?_
        | (refine imp fun hc => ?_) <;> try (first | contradiction | (exfalso; omega))
        | refine all fun v_ => ?_)
      refine retr0 (xs := [.agg [.d (bytesD (t.data.take (t.synced + keep).toNat)), .int (t.synced + keep)], .int 0]) ⟨rv_agg rfl el_Tape rfl (by ((repeat (first | exact List.mem_cons_self | apply List.mem_cons_of_mem)); done)) rfl, rv_tmp rfl, trivial⟩ rfl (h' := []) (List.nil_sublist _) (ret_eq ?_)
      rw [hs]; rfl
    · have e1 : t.synced + min keep (t.data.length - t.synced) = t.data.length := by omega
      rw [e1, Int.toNat_natCast] at hs
      have hO := True.intro
      repeat' (first
        | ((with_reducible apply call0); (focus rfl); (focus exact cal_TapeMay); (focus exact TapeMay _ _); (focus rfl))
        | ((with_reducible apply je_call0); (focus rfl); (focus (decide +kernel)); (focus rfl); (focus exact cal_TapeMay); (focus exact TapeMay _ _); (focus rfl))
        | ((with_reducible apply call0); (focus rfl); (focus exact cal_Octets); (focus exact Octets _ _ _ (by omega)); (focus rfl))
        | ((with_reducible apply je_call0); (focus rfl); (focus (decide +kernel)); (focus rfl); (focus exact cal_Octets); (focus exact Octets _ _ _ (by omega)); (focus rfl))
        | ((with_reducible apply call0); (focus rfl); (focus exact cal_Octets); (focus exact hO); (focus rfl))
        | ((with_reducible apply je_call0); (focus rfl); (focus (decide +kernel)); (focus rfl); (focus exact cal_Octets); (focus exact hO); (focus rfl))
        | exact True.intro
        | refine stpa ?_
        | refine two ?_ ?_
        | (refine imp fun hc => ?_) <;> try (first | contradiction | (exfalso; omega))
        | refine all fun v_ => ?_)
      refine retr0 (xs := [.agg [.d (bytesD (t.data.take t.data.length)), .int t.data.length], .int 0]) ⟨rv_agg rfl el_Tape rfl (by ((repeat (first | exact List.mem_cons_self | apply List.mem_cons_of_mem)); done)) rfl, rv_tmp rfl, trivial⟩ rfl (h' := []) (List.nil_sublist _) (ret_eq ?_)
      rw [hs]; rfl
  · have hO := True.intro
    repeat' (first
      | ((with_reducible apply call0); (focus rfl); (focus exact cal_TapeMay); (focus exact TapeMay _ _); (focus rfl))
      | ((with_reducible apply je_call0); (focus rfl); (focus (decide +kernel)); (focus rfl); (focus exact cal_TapeMay); (focus exact TapeMay _ _); (focus rfl))
      | ((with_reducible apply call0); (focus rfl); (focus exact cal_Octets); (focus exact Octets _ _ _ (by omega)); (focus rfl))
      | ((with_reducible apply je_call0); (focus rfl); (focus (decide +kernel)); (focus rfl); (focus exact cal_Octets); (focus exact Octets _ _ _ (by omega)); (focus rfl))
      | ((with_reducible apply call0); (focus rfl); (focus exact cal_Octets); (focus exact hO); (focus rfl))
      | ((with_reducible apply je_call0); (focus rfl); (focus (decide +kernel)); (focus rfl); (focus exact cal_Octets); (focus exact hO); (focus rfl))
      | exact True.intro
      | refine stpa ?_
      | refine two ?_ ?_
      | (refine imp fun hc => ?_) <;> try (first | contradiction | (exfalso; omega))
      | refine all fun v_ => ?_)
    exact retrl (xs := [.agg [.val (.slice none 0 0), .int 0], .int 9]) (ys := [tpA tpNil, .int 9]) vid ⟨rv_agg rfl el_Tape rfl (by ((repeat (first | exact List.mem_cons_self | apply List.mem_cons_of_mem)); done)) rfl, rv_tmp rfl, trivial⟩ ⟨AV.le_agg ⟨AV.le_nil 1 1, AV.le_refl _, trivial⟩, AV.le_refl _, trivial⟩ rfl (h' := []) (List.nil_sublist _) (ret_eq (by rw [crashOf, if_pos hm]; rfl))
theorem tapes (G : List (Nat × List D)) (t : Tp) (hl : t.data.length ≤ 140737488355328) : ACr Try.prog G 18 [tpA t] (tpA t) := by
  refine AC_ofR (rs := [.cell 2 27]) Try.f18.ntmps Try.func18 rfl rfl rfl (by simp [Try.ntmps18]) fun W I => ?_
  repeat' (first
    | ((with_reducible apply call0); (focus rfl); (focus exact cal_octets); (focus exact octets _ _ (by omega)); (focus rfl))
    | ((with_reducible apply je_call0); (focus rfl); (focus (decide +kernel)); (focus rfl); (focus exact cal_octets); (focus exact octets _ _ (by omega)); (focus rfl))
    | exact True.intro
    | refine stpa ?_
    | refine two ?_ ?_
    | (refine imp fun hc => ?_) <;> try (first | contradiction | (exfalso; omega))
    | refine all fun v_ => ?_)
  exact retr0 (xs := [tpA t]) ⟨rv_agg rfl el_Tape rfl (by ((repeat (first | exact List.mem_cons_self | apply List.mem_cons_of_mem)); done)) rfl, trivial⟩ rfl (h' := []) (List.nil_sublist _) (ret_eq rfl)
theorem sameBytes (G : List (Nat × List D)) (a b : List UInt8) : ACr Try.prog G 53 [.d (bytesD a), .d (bytesD b)] (.bool (decide (a = b))) := by
  refine AC_ofV (ts := [4]) 10 Try.func53 rfl rfl rfl (by simp) fun W I => ?_
  repeat' (first
    | exact True.intro
    | refine stpa ?_
    | refine two ?_ ?_
    | (refine imp fun hc => ?_) <;> try (first | contradiction | (exfalso; omega))
    | refine all fun v_ => ?_)
  refine retv0 ?_
  ((with_reducible apply rq1); rfl; rfl)
  refine ret_eq (congrArg AV.bool ?_)
  rw [Bool.eq_iff_iff]
  show (a.toArray == b.toArray) = true ↔ decide (a = b) = true
  simp
theorem sameTape (G : List (Nat × List D)) (a b : Tp) : ACr Try.prog G 21 [tpA a, tpA b] (.bool (decide (a.synced = b.synced ∧ a.data = b.data))) := by
  refine AC_ofV (ts := [4]) 17 Try.func21 rfl rfl rfl (by simp) fun W I => ?_
  repeat' (first
    | ((with_reducible apply call0); (focus rfl); (focus exact cal_sameBytes); (focus exact sameBytes _ _ _); (focus rfl))
    | ((with_reducible apply je_call0); (focus rfl); (focus (decide +kernel)); (focus rfl); (focus exact cal_sameBytes); (focus exact sameBytes _ _ _); (focus rfl))
    | ((with_reducible apply qcall); (focus rfl); (focus exact cal_sameBytes); (focus exact sameBytes _ _ _); (focus rfl))
    | exact True.intro
    | refine stpa ?_
    | refine two ?_ ?_
    | (refine imp fun hc => ?_) <;> try (first | contradiction | (exfalso; omega))
    | refine all fun v_ => ?_)
  all_goals
    refine retv (VS.drop (List.nil_sublist _)) ?_
    ((with_reducible apply rq1); rfl; rfl)
    refine ret_eq (congrArg AV.bool ?_)
    simp [*]
end Go.Proofs.Ytffdlpjbbkhcnaa
