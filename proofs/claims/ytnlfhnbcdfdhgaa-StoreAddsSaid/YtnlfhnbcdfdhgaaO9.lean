/- Contract: store.Add. -/
import Derived.Test.YtnlfhnbcdfdhgaaO7
import Derived.Test.YtnlfhnbcdfdhgaaG29
import Derived.Test.YtnlfhnbcdfdhgaaE14
namespace Go.Proofs.Ytnlfhnbcdfdhgaa
open Go Go.Av Go.Sp
set_option linter.unusedVariables false
set_option linter.unusedSimpArgs false
set_option maxRecDepth 100000
set_option maxHeartbeats 4000000
theorem cal_SAdd : Cal Try.prog 5 := Cal.of Try.func5 (by kernel_rfl) (by kernel_rfl)
/-- What is handed back. -/
theorem SAdd_err (G : List (Nat × List D)) (s : Sto) (n : Int) (h0 : (hasF s n).2 ≠ 0) : ACr Try.prog G 5 [stA s, .int n] (.tup [stA (addF s n).1.1, .bool (addF s n).1.2, .int (addF s n).2]) := by
 have hH := SHas G s n
 unfold addF
 rw [if_pos h0]
 generalize (hasF s n) = v at hH h0
 obtain ⟨o, e⟩ := v
 dsimp only at hH h0 ⊢
 refine AC_ofR (rs := [.cell 4 25, .tmp 5, .tmp 6]) Try.f5.ntmps Try.func5 rfl rfl rfl (by simp [Try.ntmps5]) fun W I => ?_
 all_goals haveI fA_ : FlagA := ⟨⟩
 all_goals haveI fH_ : FlagH := ⟨⟩
 repeat' (first
  | refine ca cal_SHas (hH) ?_
  | exact True.intro
  | refine stp ?_
  | refine two ?_ ?_
  | refine allc fun c_ => ?_
  | (refine imp fun hc => ?_) <;> try exact cx1 hc
  | refine all fun v_ => ?_)
 all_goals clear fA_ fH_
 exact retrl (xs := [.agg [.val (.slice none 0 0), .val (.slice none 0 0)], .bool false, .int e]) (ys := [.agg [.d (intsD []), .d (listsD [])], .bool false, .int e]) vid ⟨rv_agg rfl (by (with_reducible exact ElC.h)) rfl (by exact memD) rfl, rv_tmp rfl, rv_tmp rfl, trivial⟩ ⟨AV.le_agg ⟨AV.le_nil 1 8, AV.le_nil 1 24, trivial⟩, AV.le_refl _, AV.le_refl _, trivial⟩ rfl (h' := []) (List.nil_sublist _) (ret_eq rfl)
theorem SAdd_old (G : List (Nat × List D)) (s : Sto) (n : Int) (h0 : hasF s n = (true, 0)) : ACr Try.prog G 5 [stA s, .int n] (.tup [stA (addF s n).1.1, .bool (addF s n).1.2, .int (addF s n).2]) := by
 have hH := SHas G s n
 unfold addF
 rw [h0] at hH ⊢
 dsimp only at hH ⊢
 rw [if_neg (fun k => k rfl), if_pos rfl]
 dsimp only
 refine AC.factI (f := intC) (xs := s.loose) (.agg .here) fun hll => ?_
 refine AC.factI (f := listC) (xs := s.runs) (.agg (.there .here)) fun hlr => ?_
 refine AC_ofR (rs := [.cell 4 25, .tmp 5, .tmp 6]) Try.f5.ntmps Try.func5 rfl rfl rfl (by simp [Try.ntmps5]) fun W I => ?_
 all_goals haveI fA_ : FlagA := ⟨⟩
 all_goals haveI fH_ : FlagH := ⟨⟩
 repeat' (first
  | refine ca cal_SHas (hH) ?_
  | refine cag cal_own (own G s) ?_
  | exact True.intro
  | refine stp ?_
  | refine two ?_ ?_
  | refine allc fun c_ => ?_
  | (refine imp fun hc => ?_) <;> try exact cx1 hc
  | refine all fun v_ => ?_)
 all_goals clear fA_ fH_
 obtain ⟨bo, rfl⟩ : ∃ x, x = v_ := ⟨v_, rfl⟩
 obtain ⟨⟨q, p⟩, rfl⟩ : ∃ x, x = v_ := ⟨v_, rfl⟩
 obtain ⟨br, rfl⟩ : ∃ x, x = v_ := ⟨v_, rfl⟩
 dsimp only
 refine retr (VS.trans (VS.take (hc := [rowE q.v 3 1 intC (s.loose), rowE p.v 22 1 listC (s.runs), .cells br 25 [.val q.v, .val p.v]]) (by exact takedD) (Env.le_refl _))
  (VS.trans (vdat (h1 := []) (h' := [rowE p.v 22 1 listC (s.runs), .cells br 25 [.d (intsD (s.loose)), .val p.v]]) 8 rfl rfl (fun _ => rfl) (by omega) (CvE.refl _ _ _) ?_)
  (vdat (h1 := []) (h' := [.cells br 25 [.d (intsD (s.loose)), .d (listsD (s.runs))]]) 24 rfl rfl (fun _ => rfl) (by omega) (CvE.refl _ _ _) ?_))) (xs := [.agg [.d (intsD (s.loose)), .d (listsD (s.runs))], .bool false, .int 0]) ⟨rv_agg rfl (by (with_reducible exact ElC.h)) rfl (by exact memD) rfl, rv_tmp rfl, rv_tmp rfl, trivial⟩ rfl (h' := []) (List.nil_sublist _) (ret_eq rfl)
 · exact .keep (.cells (.cons .here (.cons (.same _) .nil)) (.refl _))
 · exact .cells (.cons (.same _) (.cons .here .nil)) (.refl _)
theorem SAdd_full (G : List (Nat × List D)) (s : Sto) (n : Int) (h0 : hasF s n = (false, 0)) (hp : StoP s) (hf : (keysL s).length = 20000) : ACr Try.prog G 5 [stA s, .int n] (.tup [stA (addF s n).1.1, .bool (addF s n).1.2, .int (addF s n).2]) := by
 have hH := SHas G s n
 unfold addF
 rw [h0] at hH ⊢
 dsimp only at hH ⊢
 rw [if_neg (fun k => k rfl), if_neg (by decide), if_pos hf]
 have hfew := hp.few
 have hK := keysS G s (by omega) (by omega)
 rw [hf] at hK
 refine AC_ofR (rs := [.cell 4 25, .tmp 5, .tmp 6]) Try.f5.ntmps Try.func5 rfl rfl rfl (by simp [Try.ntmps5]) fun W I => ?_
 all_goals haveI fA_ : FlagA := ⟨⟩
 all_goals haveI fH_ : FlagH := ⟨⟩
 repeat' (first
  | refine ca cal_SHas (hH) ?_
  | refine ca cal_keysS (hK) ?_
  | refine cag cal_own (own G s) ?_
  | exact True.intro
  | refine stp ?_
  | refine two ?_ ?_
  | refine allc fun c_ => ?_
  | (refine imp fun hc => ?_) <;> try exact cx1 hc
  | refine all fun v_ => ?_)
 all_goals clear fA_ fH_
 exact retrl (xs := [.agg [.val (.slice none 0 0), .val (.slice none 0 0)], .bool false, .int 12]) (ys := [.agg [.d (intsD []), .d (listsD [])], .bool false, .int 12]) vid ⟨rv_agg rfl (by (with_reducible exact ElC.h)) rfl (by exact memD) rfl, rv_tmp rfl, rv_tmp rfl, trivial⟩ ⟨AV.le_agg ⟨AV.le_nil 1 8, AV.le_nil 1 24, trivial⟩, AV.le_refl _, AV.le_refl _, trivial⟩ rfl (h' := []) (List.nil_sublist _) (ret_eq rfl)
theorem SAdd_loose (G : List (Nat × List D)) (s : Sto) (n : Int) (h0 : hasF s n = (false, 0)) (hp : StoP s) (hf : ¬ (keysL s).length = 20000) (h7 : s.loose.length + 1 < 8) : ACr Try.prog G 5 [stA s, .int n] (.tup [stA (addF s n).1.1, .bool (addF s n).1.2, .int (addF s n).2]) := by
 have hH := SHas G s n
 unfold addF
 rw [h0] at hH ⊢
 dsimp only at hH ⊢
 rw [if_neg (fun k => k rfl), if_neg (by decide), if_neg hf, if_pos h7]
 dsimp only
 have hfew := hp.few
 have hK := keysS G s (by omega) (by omega)
 have hkl := keysL_len s
 have hrf := runs_few s.runs fun r hr => (hp.runs r hr).1
 have hll : (s.loose ++ [n]).length = s.loose.length + 1 := by simp
 refine AC_ofR (rs := [.cell 4 25, .tmp 5, .tmp 6]) Try.f5.ntmps Try.func5 rfl rfl rfl (by simp [Try.ntmps5]) fun W I => ?_
 all_goals haveI fA_ : FlagA := ⟨⟩
 all_goals haveI fH_ : FlagH := ⟨⟩
 repeat' (first
  | refine ca cal_SHas (hH) ?_
  | refine ca cal_keysS (hK) ?_
  | refine cag cal_own (own G s) ?_
  | ((with_reducible apply (japU1 (f := intC) (u := n))); (focus rfl); (focus rfl); (focus (with_reducible exact ElC.h)); (focus exact updqD); (focus rfl); (focus rfl); (focus rfl); (focus rfl); (focus exact bndD); (focus exact bndD))
  | exact True.intro
  | refine stp ?_
  | refine two ?_ ?_
  | refine allc fun c_ => ?_
  | (refine imp fun hc => ?_) <;> try exact cx1 hc
  | refine all fun v_ => ?_)
 all_goals clear fA_ fH_
 obtain ⟨q2, rfl⟩ : ∃ x, x = v_ := ⟨v_, rfl⟩
 obtain ⟨bo, rfl⟩ : ∃ x, x = v_ := ⟨v_, rfl⟩
 obtain ⟨⟨q, p⟩, rfl⟩ : ∃ x, x = v_ := ⟨v_, rfl⟩
 obtain ⟨br, rfl⟩ : ∃ x, x = v_ := ⟨v_, rfl⟩
 dsimp only
 refine retr (VS.trans (VS.take (hc := [rowE q2.v 3 1 intC (s.loose ++ [n]), rowE p.v 22 1 listC (s.runs), .cells br 25 [.val q2.v, .val p.v]]) (by exact takedD) (Env.le_refl _))
  (VS.trans (vdat (h1 := []) (h' := [rowE p.v 22 1 listC (s.runs), .cells br 25 [.d (intsD (s.loose ++ [n])), .val p.v]]) 8 rfl rfl (fun _ => rfl) (by omega) (CvE.refl _ _ _) ?_)
  (vdat (h1 := []) (h' := [.cells br 25 [.d (intsD (s.loose ++ [n])), .d (listsD (s.runs))]]) 24 rfl rfl (fun _ => rfl) (by omega) (CvE.refl _ _ _) ?_))) (xs := [.agg [.d (intsD (s.loose ++ [n])), .d (listsD (s.runs))], .bool true, .int 0]) ⟨rv_agg rfl (by (with_reducible exact ElC.h)) rfl (by exact memD) rfl, rv_tmp rfl, rv_tmp rfl, trivial⟩ rfl (h' := []) (List.nil_sublist _) (ret_eq rfl)
 · exact .keep (.cells (.cons .here (.cons (.same _) .nil)) (.refl _))
 · exact .cells (.cons (.same _) (.cons .here .nil)) (.refl _)
end Go.Proofs.Ytnlfhnbcdfdhgaa
