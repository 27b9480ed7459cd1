/- Contract: foretellref.KeyAdded. -/
import Derived.Test.YtnlfhnbcdfdhgaaO6
import Derived.Test.YtnlfhnbcdfdhgaaG29
import Derived.Test.YtnlfhnbcdfdhgaaE14
namespace Go.Proofs.Ytnlfhnbcdfdhgaa
open Go Go.Av Go.Sp
set_option linter.unusedVariables false
set_option linter.unusedSimpArgs false
set_option maxRecDepth 100000
set_option maxHeartbeats 4000000
theorem cal_KeyAdded : Cal Try.prog 6 := Cal.of Try.func6 (by kernel_rfl) (by kernel_rfl)
/-- What is handed back. -/
theorem KAdd_err (G : List (Nat × List D)) (s : Sto) (n : Int) (h0 : (hasF s n).2 ≠ 0) : ACr Try.prog G 6 [stA s, .int n] (.tup [stA (addF s n).1.1, .bool (addF s n).1.2, .int (addF s n).2]) := by
 have hH := KeyIn G s n
 unfold addF
 rw [if_pos h0]
 generalize (hasF s n) = v at hH h0
 obtain ⟨o, e⟩ := v
 dsimp only at hH h0 ⊢
 refine AC_ofR (rs := [.cell 4 25, .tmp 5, .tmp 6]) Try.f6.ntmps Try.func6 rfl rfl rfl (by simp [Try.ntmps6]) fun W I => ?_
 all_goals haveI fA_ : FlagA := ⟨⟩
 all_goals haveI fH_ : FlagH := ⟨⟩
 repeat' (first
  | refine ca cal_KeyIn (hH) ?_
  | exact True.intro
  | refine stp ?_
  | refine two ?_ ?_
  | refine allc fun c_ => ?_
  | (refine imp fun hc => ?_) <;> try exact cx1 hc
  | refine all fun v_ => ?_)
 all_goals clear fA_ fH_
 exact retrl (xs := [.agg [.val (.slice none 0 0), .val (.slice none 0 0)], .bool false, .int e]) (ys := [.agg [.d (intsD []), .d (listsD [])], .bool false, .int e]) vid ⟨rv_agg rfl (by (with_reducible exact ElC.h)) rfl (by exact memD) rfl, rv_tmp rfl, rv_tmp rfl, trivial⟩ ⟨AV.le_agg ⟨AV.le_nil 1 8, AV.le_nil 1 24, trivial⟩, AV.le_refl _, AV.le_refl _, trivial⟩ rfl (h' := []) (List.nil_sublist _) (ret_eq rfl)
theorem KAdd_old (G : List (Nat × List D)) (s : Sto) (n : Int) (h0 : hasF s n = (true, 0)) : ACr Try.prog G 6 [stA s, .int n] (.tup [stA (addF s n).1.1, .bool (addF s n).1.2, .int (addF s n).2]) := by
 have hH := KeyIn G s n
 unfold addF
 rw [h0] at hH ⊢
 dsimp only at hH ⊢
 rw [if_neg (fun k => k rfl), if_pos rfl]
 dsimp only
 refine AC.factI (f := intC) (xs := s.loose) (.agg .here) fun hll => ?_
 refine AC.factI (f := listC) (xs := s.runs) (.agg (.there .here)) fun hlr => ?_
 refine AC_ofR (rs := [.cell 4 25, .tmp 5, .tmp 6]) Try.f6.ntmps Try.func6 rfl rfl rfl (by simp [Try.ntmps6]) fun W I => ?_
 all_goals haveI fA_ : FlagA := ⟨⟩
 all_goals haveI fH_ : FlagH := ⟨⟩
 repeat' (first
  | refine ca cal_KeyIn (hH) ?_
  | refine cag cal_StoreCopy (StoreCopyR G s) ?_
  | exact True.intro
  | refine stp ?_
  | refine two ?_ ?_
  | refine allc fun c_ => ?_
  | (refine imp fun hc => ?_) <;> try exact cx1 hc
  | refine all fun v_ => ?_)
 all_goals clear fA_ fH_
 obtain ⟨bo, rfl⟩ : ∃ x, x = v_ := ⟨v_, rfl⟩
 obtain ⟨k1, rfl⟩ : ∃ x, x = v_ := ⟨v_, rfl⟩
 obtain ⟨br, rfl⟩ : ∃ x, x = v_ := ⟨v_, rfl⟩
 obtain ⟨q, p⟩ := k1
 dsimp only
 refine retr (VS.trans (VS.take (hc := [rowE q.v 3 1 intC (s.loose), rowE p.v 22 1 listC (s.runs), .cells br 25 [.val q.v, .val p.v]]) (by exact takedD) (Env.le_refl _))
  (VS.trans (vdat (h1 := []) (h' := [rowE p.v 22 1 listC (s.runs), .cells br 25 [.d (intsD (s.loose)), .val p.v]]) 8 rfl rfl (fun _ => rfl) (by omega) (CvE.refl _ _ _) ?_)
  (vdat (h1 := []) (h' := [.cells br 25 [.d (intsD (s.loose)), .d (listsD (s.runs))]]) 24 rfl rfl (fun _ => rfl) (by omega) (CvE.refl _ _ _) ?_))) (xs := [.agg [.d (intsD (s.loose)), .d (listsD (s.runs))], .bool false, .int 0]) ⟨rv_agg rfl (by (with_reducible exact ElC.h)) rfl (by exact memD) rfl, rv_tmp rfl, rv_tmp rfl, trivial⟩ rfl (h' := []) (List.nil_sublist _) (ret_eq rfl)
 · exact .keep (.cells (.cons .here (.cons (.same _) .nil)) (.refl _))
 · exact .cells (.cons (.same _) (.cons .here .nil)) (.refl _)
theorem KAdd_full (G : List (Nat × List D)) (s : Sto) (n : Int) (h0 : hasF s n = (false, 0)) (hp : StoP s) (hf : (keysL s).length = 20000) : ACr Try.prog G 6 [stA s, .int n] (.tup [stA (addF s n).1.1, .bool (addF s n).1.2, .int (addF s n).2]) := by
 have hH := KeyIn G s n
 unfold addF
 rw [h0] at hH ⊢
 dsimp only at hH ⊢
 rw [if_neg (fun k => k rfl), if_neg (by decide), if_pos hf]
 have hfew := hp.few
 have hrf := runs_few s.runs fun r hr => (hp.runs r hr).1
 have hK := keysOf G s (by omega) (by omega) (by omega)
 refine AC_ofR (rs := [.cell 4 25, .tmp 5, .tmp 6]) Try.f6.ntmps Try.func6 rfl rfl rfl (by simp [Try.ntmps6]) fun W I => ?_
 all_goals haveI fA_ : FlagA := ⟨⟩
 all_goals haveI fH_ : FlagH := ⟨⟩
 repeat' (first
  | refine ca cal_KeyIn (hH) ?_
  | refine ca cal_keysOf (hK) ?_
  | refine cag cal_StoreCopy (StoreCopyR G s) ?_
  | exact True.intro
  | refine stp ?_
  | refine two ?_ ?_
  | refine allc fun c_ => ?_
  | (refine imp fun hc => ?_) <;> try exact cx1 hc
  | refine all fun v_ => ?_)
 all_goals clear fA_ fH_
 exact retrl (xs := [.agg [.val (.slice none 0 0), .val (.slice none 0 0)], .bool false, .int 12]) (ys := [.agg [.d (intsD []), .d (listsD [])], .bool false, .int 12]) vid ⟨rv_agg rfl (by (with_reducible exact ElC.h)) rfl (by exact memD) rfl, rv_tmp rfl, rv_tmp rfl, trivial⟩ ⟨AV.le_agg ⟨AV.le_nil 1 8, AV.le_nil 1 24, trivial⟩, AV.le_refl _, AV.le_refl _, trivial⟩ rfl (h' := []) (List.nil_sublist _) (ret_eq rfl)
theorem KAdd_loose (G : List (Nat × List D)) (s : Sto) (n : Int) (h0 : hasF s n = (false, 0)) (hp : StoP s) (hf : ¬ (keysL s).length = 20000) (h7 : s.loose.length + 1 < 8) : ACr Try.prog G 6 [stA s, .int n] (.tup [stA (addF s n).1.1, .bool (addF s n).1.2, .int (addF s n).2]) := by
 have hH := KeyIn G s n
 unfold addF
 rw [h0] at hH ⊢
 dsimp only at hH ⊢
 rw [if_neg (fun k => k rfl), if_neg (by decide), if_neg hf, if_pos h7]
 dsimp only
 have hfew := hp.few
 have hkl := keysL_len s
 have hrf := runs_few s.runs fun r hr => (hp.runs r hr).1
 have hK := keysOf G s (by omega) (by omega) (by omega)
 have hll : (s.loose ++ [n]).length = s.loose.length + 1 := by simp
 refine AC_ofR (rs := [.cell 4 25, .tmp 5, .tmp 6]) Try.f6.ntmps Try.func6 rfl rfl rfl (by simp [Try.ntmps6]) fun W I => ?_
 all_goals haveI fA_ : FlagA := ⟨⟩
 all_goals haveI fH_ : FlagH := ⟨⟩
 repeat' (first
  | refine ca cal_KeyIn (hH) ?_
  | refine ca cal_keysOf (hK) ?_
  | refine cag cal_StoreCopy (StoreCopyR G s) ?_
  | ((with_reducible apply (japU1 (f := intC) (u := n))); (focus rfl); (focus rfl); (focus (with_reducible exact ElC.h)); (focus exact updqD); (focus rfl); (focus rfl); (focus rfl); (focus rfl); (focus exact bndD); (focus exact bndD))
  | exact True.intro
  | refine stp ?_
  | refine two ?_ ?_
  | refine allc fun c_ => ?_
  | (refine imp fun hc => ?_) <;> try exact cx1 hc
  | refine all fun v_ => ?_)
 all_goals clear fA_ fH_
 obtain ⟨q2, rfl⟩ : ∃ x, x = v_ := ⟨v_, rfl⟩
 obtain ⟨bo, rfl⟩ : ∃ x, x = v_ := ⟨v_, rfl⟩
 obtain ⟨k1, rfl⟩ : ∃ x, x = v_ := ⟨v_, rfl⟩
 obtain ⟨br, rfl⟩ : ∃ x, x = v_ := ⟨v_, rfl⟩
 obtain ⟨q, p⟩ := k1
 dsimp only
 refine retr (VS.trans (VS.take (hc := [rowE q2.v 3 1 intC (s.loose ++ [n]), rowE p.v 22 1 listC (s.runs), .cells br 25 [.val q2.v, .val p.v]]) (by exact takedD) (Env.le_refl _))
  (VS.trans (vdat (h1 := []) (h' := [rowE p.v 22 1 listC (s.runs), .cells br 25 [.d (intsD (s.loose ++ [n])), .val p.v]]) 8 rfl rfl (fun _ => rfl) (by omega) (CvE.refl _ _ _) ?_)
  (vdat (h1 := []) (h' := [.cells br 25 [.d (intsD (s.loose ++ [n])), .d (listsD (s.runs))]]) 24 rfl rfl (fun _ => rfl) (by omega) (CvE.refl _ _ _) ?_))) (xs := [.agg [.d (intsD (s.loose ++ [n])), .d (listsD (s.runs))], .bool true, .int 0]) ⟨rv_agg rfl (by (with_reducible exact ElC.h)) rfl (by exact memD) rfl, rv_tmp rfl, rv_tmp rfl, trivial⟩ rfl (h' := []) (List.nil_sublist _) (ret_eq rfl)
 · exact .keep (.cells (.cons .here (.cons (.same _) .nil)) (.refl _))
 · exact .cells (.cons (.same _) (.cons .here .nil)) (.refl _)
theorem KAdd_pack (G : List (Nat × List D)) (s : Sto) (n : Int) (h0 : hasF s n = (false, 0)) (hp : StoP s) (hf : ¬ (keysL s).length = 20000) (h7 : ¬ s.loose.length + 1 < 8) : ACr Try.prog G 6 [stA s, .int n] (.tup [stA (addF s n).1.1, .bool (addF s n).1.2, .int (addF s n).2]) := by
 have hH := KeyIn G s n
 unfold addF
 rw [h0] at hH ⊢
 dsimp only at hH ⊢
 rw [if_neg (fun k => k rfl), if_neg (by decide), if_neg hf, if_neg h7]
 dsimp only
 have hfew := hp.few
 have hkl := keysL_len s
 have hrf := runs_few s.runs fun r hr => (hp.runs r hr).1
 have hK := keysOf G s (by omega) (by omega) (by omega)
 have hll : (s.loose ++ [n]).length = s.loose.length + 1 := by simp
 have hU := numbersUpD G (s.loose ++ [n]) (by omega)
 have hsl : (sortI (s.loose ++ [n])).length = s.loose.length + 1 := by rw [sortI_len, hll]
 have hup := sortI_up (s.loose ++ [n])
 generalize hLL : sortI (s.loose ++ [n]) = L0 at hU hsl hup ⊢
 refine AC_ofR (rs := [.cell 4 25, .tmp 5, .tmp 6]) Try.f6.ntmps Try.func6 rfl rfl rfl (by simp [Try.ntmps6]) fun W I => ?_
 all_goals haveI fA_ : FlagA := ⟨⟩
 all_goals haveI fH_ : FlagH := ⟨⟩
 repeat' (first
  | refine ca cal_KeyIn (hH) ?_
  | refine ca cal_keysOf (hK) ?_
  | refine cag cal_StoreCopy (StoreCopyR G s) ?_
  | ((with_reducible apply (japU1 (f := intC) (u := n))); (focus rfl); (focus rfl); (focus (with_reducible exact ElC.h)); (focus exact updqD); (focus rfl); (focus rfl); (focus rfl); (focus rfl); (focus exact bndD); (focus exact bndD))
  | exact True.intro
  | refine stp ?_
  | refine two ?_ ?_
  | refine allc fun c_ => ?_
  | (refine imp fun hc => ?_) <;> try exact cx1 hc
  | refine all fun v_ => ?_)
 all_goals clear fA_ fH_
 obtain ⟨q2, rfl⟩ : ∃ x, x = v_ := ⟨v_, rfl⟩
 obtain ⟨bo, rfl⟩ : ∃ x, x = v_ := ⟨v_, rfl⟩
 obtain ⟨k1, rfl⟩ : ∃ x, x = v_ := ⟨v_, rfl⟩
 obtain ⟨br, rfl⟩ : ∃ x, x = v_ := ⟨v_, rfl⟩
 obtain ⟨q, p⟩ := k1
 dsimp only
 refine JL_vs (VS.trans (VS.take (hc := [rowE q2.v 3 1 intC (s.loose ++ [n]), rowE p.v 22 1 listC s.runs, .cells bo 25 [.val q2.v, .val p.v], .cells br 25 [.val Sl.nil.v, .val Sl.nil.v]]) (by exact takedD) (Env.le_refl _))
  (VS.trans (vdat (h1 := []) (h' := [rowE p.v 22 1 listC s.runs, .cells bo 25 [.d (intsD (s.loose ++ [n])), .val p.v], .cells br 25 [.val Sl.nil.v, .val Sl.nil.v]]) 8 rfl rfl (fun _ => rfl) (by omega) (CvE.cons (t := 46) rfl .here (CvE.refl _ _ _)) (.keep (.cells (.cons .here (.cons (.same _) .nil)) (.refl _))))
  (vdat (h1 := []) (h' := [.cells bo 25 [.d (intsD (s.loose ++ [n])), .d (listsD s.runs)], .cells br 25 [.val Sl.nil.v, .val Sl.nil.v]]) 24 rfl rfl (fun _ => rfl) (by omega) (CvE.refl _ _ _) (.cells (.cons (.same _) (.cons .here .nil)) (.refl _))))) ?_
 all_goals haveI fA_ : FlagA := ⟨⟩
 all_goals haveI fH_ : FlagH := ⟨⟩
 repeat' (first
  | refine ca cal_numbersUp (hU) ?_
  | exact True.intro
  | refine stp ?_
  | refine two ?_ ?_
  | refine allc fun c_ => ?_
  | (refine imp fun hc => ?_) <;> try exact cx1 hc
  | refine all fun v_ => ?_)
 all_goals clear fA_ fH_
 have hrise := hp.runs
 refine J_loopV (X := Nat × List Int) (fun y => [(4, .val (.pointer (some ⟨br, 0, none⟩))), (9, .val (.pointer (some ⟨bo, 0, none⟩))), (10, .d (intsD y.2)), (11, .int y.1)]) (fun y => [.cells bo 25 [.d (intsD (s.loose ++ [n])), .d (listsD s.runs)], .cells br 25 [.val Sl.nil.v, .val Sl.nil.v]]) (fun y => PkI s.runs L0 y.1 y.2) (fun y => y.1) (s.runs.length, L0) ⟨Nat.le_refl _, hup, rfl, by dsimp only; rw [List.take_length]; omega⟩ (VS.take (by exact takedD) ?_) ?_
 · exact leD
 rintro ⟨m, last⟩ hI
 dsimp only at hI ⊢
 have hle := hI.le
 cases m with
 | zero =>
   have hpk : packR s.runs s.runs.length L0 = s.runs.take 0 ++ [last] := hI.zero
   all_goals haveI fA_ : FlagA := ⟨⟩
   repeat' (first
    | exact True.intro
    | refine stp ?_
    | refine two ?_ ?_
    | (refine imp fun hc => ?_) <;> try exact cx hc
    | refine all fun v_ => ?_)
   all_goals clear fA_
   refine jrow (E := 22) (sz := 1) listC ?_
   all_goals haveI fA_ : FlagA := ⟨⟩
   repeat' (first
    | exact True.intro
    | refine stp ?_
    | refine two ?_ ?_
    | (refine imp fun hc => ?_) <;> try exact cx hc
    | refine all fun v_ => ?_)
   all_goals clear fA_
   refine J_loopV (X := Nat × Sl) (fun y => [(4, .val (.pointer (some ⟨br, 0, none⟩))), (9, .val (.pointer (some ⟨bo, 0, none⟩))), (10, .d (intsD last)), (11, .int (0 : Nat)), (13, .val y.2.v), (14, .int y.1)]) (fun y => [rowE y.2.v 22 1 listC (s.runs.take y.1), .cells bo 25 [.d (intsD (s.loose ++ [n])), .d (listsD s.runs)], .cells br 25 [.val Sl.nil.v, .val Sl.nil.v]]) (fun y => y.1 ≤ 0) (fun y => 0 - y.1) (0, Sl.nil) (Nat.zero_le _) (VS.take (by exact takedD) ?_) ?_
   · exact leD
   rintro ⟨i, r⟩ hi
   dsimp only at hi ⊢
   have hlen : (s.runs.take i).length = i := by rw [List.length_take]; omega
   by_cases him : i < 0
   · have hil : i < s.runs.length := by omega
     have et : s.runs.take i ++ [s.runs[i]] = s.runs.take (i + 1) := (List.take_succ_eq_append_getElem hil).symm
     all_goals haveI fA_ : FlagA := ⟨⟩
     repeat' (first
      | ((with_reducible apply (japU1 (f := listC) (u := s.runs[i]))); (focus rfl); (focus rfl); (focus (with_reducible exact ElC.h)); (focus exact updqD); (focus rfl); (focus rfl); (focus rfl); (focus rfl); (focus exact bndD); (focus exact bndD))
      | exact True.intro
      | refine stp ?_
      | refine two ?_ ?_
      | (refine imp fun hc => ?_) <;> try exact cx hc
      | refine all fun v_ => ?_)
     all_goals clear fA_
     all_goals
      refine ⟨(i + 1, v_), him, by dsimp only; omega, VS.take (by dsimp only; rw [← et]; exact takedD) ?_⟩
      exact leD
   obtain rfl : i = 0 := by omega
   all_goals haveI fA_ : FlagA := ⟨⟩
   repeat' (first
    | ((with_reducible apply (japU1 (f := listC) (u := last))); (focus rfl); (focus rfl); (focus (with_reducible exact ElC.h)); (focus exact updqD); (focus rfl); (focus rfl); (focus rfl); (focus rfl); (focus exact bndD); (focus exact bndD))
    | exact True.intro
    | refine stp ?_
    | refine two ?_ ?_
    | (refine imp fun hc => ?_) <;> try exact cx hc
    | refine all fun v_ => ?_)
   all_goals clear fA_
   obtain ⟨p3, rfl⟩ : ∃ x, x = v_ := ⟨v_, rfl⟩
   rw [hpk]
   have hfl : (s.runs.take (0) ++ [last]).length = 0 + 1 := by simp only [List.length_append, List.length_take, List.length_cons, List.length_nil]; omega
   refine retr (VS.trans (VS.take (hc := [rowE p3.v 22 1 listC (s.runs.take (0) ++ [last]), .cells br 25 [.val Sl.nil.v, .val p3.v]]) (by exact takedD) (Env.le_refl _))
    (VS.trans (vdat (h1 := []) (h' := [.cells br 25 [.val Sl.nil.v, .d (listsD (s.runs.take (0) ++ [last]))]]) 24 rfl rfl (fun _ => rfl) (by omega) (CvE.refl _ _ _) ?_)
    (VS.trans (VS.nilrow 3 1) (vdat (f := intC) (xs := []) (h1 := []) (h' := [.cells br 25 [.d (intsD []), .d (listsD (s.runs.take (0) ++ [last]))]]) 8 rfl rfl (fun _ => rfl) (by simp) (CvE.refl _ _ _) ?_)))) (xs := [.agg [.d (intsD []), .d (listsD (s.runs.take (0) ++ [last]))], .bool true, .int 0]) ⟨rv_agg rfl (by (with_reducible exact ElC.h)) rfl (by exact memD) rfl, rv_tmp rfl, rv_tmp rfl, trivial⟩ rfl (h' := []) (List.nil_sublist _) (ret_eq rfl)
   · exact .cells (.cons (.same _) (.cons .here .nil)) (.refl _)
   · exact .cells (.cons .here (.cons (.same _) .nil)) (.refl _)
 | succ m =>
   have i1 : (((m + 1 : Nat) : Int) - 1).toNat < s.runs.length := by omega
   have g1 : s.runs[(((m + 1 : Nat) : Int) - 1).toNat]'i1 = s.runs[m] := by
    have e : (((m + 1 : Nat) : Int) - 1).toNat = m := by omega
    simp only [e]
   have g1l := congrArg List.length g1
   by_cases hl : s.runs[m].length ≤ last.length
   · have hn := hI.next hl
     have h2 := hI.few
     rw [flat_succ s.runs m hle, List.length_append] at h2
     have hrl : (s.runs[m] ++ last).length = s.runs[m].length + last.length := List.length_append
     have F : AC Try.prog G 17 [.d (intsD (s.runs[(((m + 1 : Nat) : Int) - 1).toNat]'i1))] [] fun r h => ∃ q : Sl, r = .ret (.val q.v) ∧ h = [rowE q.v 3 1 intC s.runs[m]] := by rw [g1]; exact numbers G s.runs[m]
     have hU2 := numbersUpD G (s.runs[m] ++ last) (by omega)
     generalize sortI (s.runs[m] ++ last) = l2 at hU2 hn
     all_goals haveI fA_ : FlagA := ⟨⟩
     repeat' (first
      | refine cae cal_numbers (F) ?_
      | ((with_reducible apply (japU (f := intC) (ys := last))); (focus rfl); (focus rfl); (focus (with_reducible exact ElC.h)); (focus exact updqD); (focus rfl); (focus rfl); (focus rfl); (focus rfl); (focus exact bndD); (focus exact bndD))
      | ((refine JL_vs (vfreeze (t := 75) (eb := 8) rfl rfl (fun x => rfl) (by omega)) ?_); (refine ca cal_numbersUp hU2 ?_))
      | exact True.intro
      | refine stp ?_
      | refine two ?_ ?_
      | (refine imp fun hc => ?_) <;> try exact cx hc
      | refine all fun v_ => ?_)
     all_goals clear fA_
     refine ⟨(m, l2), hn, Nat.lt_succ_self m, VS.take (by exact takedD) ?_⟩
     exact leD
   · have hpk := hI.stop hl
     all_goals haveI fA_ : FlagA := ⟨⟩
     repeat' (first
      | exact True.intro
      | refine stp ?_
      | refine two ?_ ?_
      | (refine imp fun hc => ?_) <;> try exact cx hc
      | refine all fun v_ => ?_)
     all_goals clear fA_
     refine jrow (E := 22) (sz := 1) listC ?_
     all_goals haveI fA_ : FlagA := ⟨⟩
     repeat' (first
      | exact True.intro
      | refine stp ?_
      | refine two ?_ ?_
      | (refine imp fun hc => ?_) <;> try exact cx hc
      | refine all fun v_ => ?_)
     all_goals clear fA_
     refine J_loopV (X := Nat × Sl) (fun y => [(4, .val (.pointer (some ⟨br, 0, none⟩))), (9, .val (.pointer (some ⟨bo, 0, none⟩))), (10, .d (intsD last)), (11, .int ((m + 1) : Nat)), (13, .val y.2.v), (14, .int y.1)]) (fun y => [rowE y.2.v 22 1 listC (s.runs.take y.1), .cells bo 25 [.d (intsD (s.loose ++ [n])), .d (listsD s.runs)], .cells br 25 [.val Sl.nil.v, .val Sl.nil.v]]) (fun y => y.1 ≤ (m + 1)) (fun y => (m + 1) - y.1) (0, Sl.nil) (Nat.zero_le _) (VS.take (by exact takedD) ?_) ?_
     · exact leD
     rintro ⟨i, r⟩ hi
     dsimp only at hi ⊢
     have hlen : (s.runs.take i).length = i := by rw [List.length_take]; omega
     by_cases him : i < (m + 1)
     · have hil : i < s.runs.length := by omega
       have et : s.runs.take i ++ [s.runs[i]] = s.runs.take (i + 1) := (List.take_succ_eq_append_getElem hil).symm
       all_goals haveI fA_ : FlagA := ⟨⟩
       repeat' (first
        | ((with_reducible apply (japU1 (f := listC) (u := s.runs[i]))); (focus rfl); (focus rfl); (focus (with_reducible exact ElC.h)); (focus exact updqD); (focus rfl); (focus rfl); (focus rfl); (focus rfl); (focus exact bndD); (focus exact bndD))
        | exact True.intro
        | refine stp ?_
        | refine two ?_ ?_
        | (refine imp fun hc => ?_) <;> try exact cx hc
        | refine all fun v_ => ?_)
       all_goals clear fA_
       all_goals
        refine ⟨(i + 1, v_), him, by dsimp only; omega, VS.take (by dsimp only; rw [← et]; exact takedD) ?_⟩
        exact leD
     obtain rfl : i = (m + 1) := by omega
     all_goals haveI fA_ : FlagA := ⟨⟩
     repeat' (first
      | ((with_reducible apply (japU1 (f := listC) (u := last))); (focus rfl); (focus rfl); (focus (with_reducible exact ElC.h)); (focus exact updqD); (focus rfl); (focus rfl); (focus rfl); (focus rfl); (focus exact bndD); (focus exact bndD))
      | exact True.intro
      | refine stp ?_
      | refine two ?_ ?_
      | (refine imp fun hc => ?_) <;> try exact cx hc
      | refine all fun v_ => ?_)
     all_goals clear fA_
     obtain ⟨p3, rfl⟩ : ∃ x, x = v_ := ⟨v_, rfl⟩
     rw [hpk]
     have hfl : (s.runs.take ((m + 1)) ++ [last]).length = (m + 1) + 1 := by simp only [List.length_append, List.length_take, List.length_cons, List.length_nil]; omega
     refine retr (VS.trans (VS.take (hc := [rowE p3.v 22 1 listC (s.runs.take ((m + 1)) ++ [last]), .cells br 25 [.val Sl.nil.v, .val p3.v]]) (by exact takedD) (Env.le_refl _))
      (VS.trans (vdat (h1 := []) (h' := [.cells br 25 [.val Sl.nil.v, .d (listsD (s.runs.take ((m + 1)) ++ [last]))]]) 24 rfl rfl (fun _ => rfl) (by omega) (CvE.refl _ _ _) ?_)
      (VS.trans (VS.nilrow 3 1) (vdat (f := intC) (xs := []) (h1 := []) (h' := [.cells br 25 [.d (intsD []), .d (listsD (s.runs.take ((m + 1)) ++ [last]))]]) 8 rfl rfl (fun _ => rfl) (by simp) (CvE.refl _ _ _) ?_)))) (xs := [.agg [.d (intsD []), .d (listsD (s.runs.take ((m + 1)) ++ [last]))], .bool true, .int 0]) ⟨rv_agg rfl (by (with_reducible exact ElC.h)) rfl (by exact memD) rfl, rv_tmp rfl, rv_tmp rfl, trivial⟩ rfl (h' := []) (List.nil_sublist _) (ret_eq rfl)
     · exact .cells (.cons (.same _) (.cons .here .nil)) (.refl _)
     · exact .cells (.cons .here (.cons (.same _) .nil)) (.refl _)
theorem KeyAdded (G : List (Nat × List D)) (s : Sto) (n : Int) : ACr Try.prog G 6 [stA s, .int n] (.tup [stA (addF s n).1.1, .bool (addF s n).1.2, .int (addF s n).2]) := by
 by_cases h0 : (hasF s n).2 ≠ 0
 · exact KAdd_err G s n h0
 replace h0 := Decidable.not_not.1 h0
 have hp := hasF_sto h0
 cases hb : (hasF s n).1 with
 | true => exact KAdd_old G s n (Prod.ext hb h0)
 | false =>
   have hv : hasF s n = (false, 0) := Prod.ext hb h0
   by_cases hf : (keysL s).length = 20000
   · exact KAdd_full G s n hv hp hf
   · by_cases h7 : s.loose.length + 1 < 8
     · exact KAdd_loose G s n hv hp hf h7
     · exact KAdd_pack G s n hv hp hf h7
end Go.Proofs.Ytnlfhnbcdfdhgaa
