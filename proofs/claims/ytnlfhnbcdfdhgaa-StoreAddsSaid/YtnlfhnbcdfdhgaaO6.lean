/- Contracts: store.All, foretellref.KeysUp; foretellref.StoreCopy, foretelllaw.stores, sameStore. -/
import Derived.Test.YtnlfhnbcdfdhgaaO5
import Derived.Test.YtnlfhnbcdfdhgaaV9
namespace Go.Sp
open Go Go.Av
set_option linter.unusedVariables false
set_option linter.unusedSimpArgs false
/-- What is handed in as a store. -/
def stoC (s : Sto) : List D := [intsD s.loose, listsD s.runs]
end Go.Sp
namespace Go.Proofs.Ytnlfhnbcdfdhgaa
open Go Go.Av Go.Sp
set_option linter.unusedVariables false
set_option linter.unusedSimpArgs false
set_option maxRecDepth 100000
set_option maxHeartbeats 4000000
theorem cal_StoreCopy : Cal Try.prog 8 := Cal.of Try.func8 (by kernel_rfl) (by kernel_rfl)
theorem cal_stores : Cal Try.prog 4 := Cal.of Try.func4 (by kernel_rfl) (by kernel_rfl)
theorem cal_sameStore : Cal Try.prog 7 := Cal.of Try.func7 (by kernel_rfl) (by kernel_rfl)
theorem StoreCopyR (G : List (Nat × List D)) (s : Sto) : AC Try.prog G 8 [stA s] [] fun r h => ∃ v : Sl × Sl, r = .ret (.agg [.val v.1.v, .val v.2.v]) ∧ h = [rowE v.2.v 22 1 listC s.runs, rowE v.1.v 3 1 intC s.loose] := by
 refine AC.factI (f := listC) (xs := s.runs) (.agg (.there .here)) fun hlr => ?_
 refine AC.factN (g := listC) (f := intC) (xss := s.runs) 1 8 (fun _ => rfl) (.agg (.there .here)) fun hN => ?_
 have hL := numbers G s.loose
 refine AC_ofR (rs := [.cell 2 25]) Try.f8.ntmps Try.func8 rfl rfl rfl (by simp [Try.ntmps8]) fun W I => ?_
 all_goals haveI fA_ : FlagA := ⟨⟩
 all_goals haveI fH_ : FlagH := ⟨⟩
 repeat' (first
  | refine cae cal_numbers (hL) ?_
  | exact True.intro
  | refine stp ?_
  | refine two ?_ ?_
  | refine allc fun c_ => ?_
  | (refine imp fun hc => ?_) <;> try exact cx1 hc
  | refine all fun v_ => ?_)
 all_goals clear fA_ fH_
 obtain ⟨bo, rfl⟩ : ∃ x, x = v_ := ⟨v_, rfl⟩
 obtain ⟨q, rfl⟩ : ∃ x, x = v_ := ⟨v_, rfl⟩
 obtain ⟨br, rfl⟩ : ∃ x, x = v_ := ⟨v_, rfl⟩
 obtain ⟨bs, rfl⟩ : ∃ x, x = v_ := ⟨v_, rfl⟩
 refine jrow (E := 22) (sz := 1) listC ?_
 refine J_loopV (X := Nat × Sl) (fun y => [(1, .val (.pointer (some ⟨bs, 0, none⟩))), (2, .val (.pointer (some ⟨br, 0, none⟩))), (3, .val (.pointer (some ⟨bo, 0, none⟩))), (4, .int y.1)]) (fun y => [rowE y.2.v 22 1 listC (s.runs.take y.1), rowE q.v 3 1 intC s.loose, .cells bo 25 [.val q.v, .val y.2.v], .cells br 25 [.val Sl.nil.v, .val Sl.nil.v], .cells bs 25 [.d (intsD s.loose), .d (listsD s.runs)]]) (fun y => y.1 ≤ s.runs.length) (fun y => s.runs.length - y.1) (0, Sl.nil) (Nat.zero_le _) (VS.take (by exact takedD) ?_) ?_
 · exact leD
 rintro ⟨i, p⟩ hi
 dsimp only at hi ⊢
 by_cases hil : i < s.runs.length
 · have et : s.runs.take i ++ [s.runs[i]] = s.runs.take (i + 1) := (List.take_succ_eq_append_getElem hil).symm
   have hlen : (s.runs.take i).length = i := by rw [List.length_take]; omega
   have hlr2 := hN s.runs[i] (List.getElem_mem hil)
   have hR := AC.frz 8 (numbers G s.runs[i]) rfl (fun _ => rfl) hlr2
   all_goals haveI fA_ : FlagA := ⟨⟩
   all_goals haveI fH_ : FlagH := ⟨⟩
   repeat' (first
    | refine ca cal_numbers (hR) ?_
    | ((with_reducible apply (japU1 (f := listC) (u := s.runs[i]))); (focus rfl); (focus rfl); (focus (with_reducible exact ElC.h)); (focus exact updqD); (focus rfl); (focus rfl); (focus rfl); (focus rfl); (focus exact bndD); (focus exact bndD))
    | exact True.intro
    | refine stp ?_
    | refine two ?_ ?_
    | refine allc fun c_ => ?_
    | (refine imp fun hc => ?_) <;> try exact cx1 hc
    | refine all fun v_ => ?_)
   all_goals clear fA_ fH_
   refine ⟨(i + 1, v_), hil, by dsimp only; omega, VS.take (by dsimp only; rw [← et]; exact takedD) ?_⟩
   exact leD
 obtain rfl : i = s.runs.length := by omega
 rw [List.take_length]
 all_goals haveI fA_ : FlagA := ⟨⟩
 all_goals haveI fH_ : FlagH := ⟨⟩
 repeat' (first
  | exact True.intro
  | refine stp ?_
  | refine two ?_ ?_
  | refine allc fun c_ => ?_
  | (refine imp fun hc => ?_) <;> try exact cx1 hc
  | refine all fun v_ => ?_)
 all_goals clear fA_ fH_
 refine retr0 (xs := [.agg [.val q.v, .val p.v]]) ⟨rv_agg rfl (by (with_reducible exact ElC.h)) rfl (by exact memD) rfl, trivial⟩ rfl (h' := [rowE p.v 22 1 listC s.runs, rowE q.v 3 1 intC s.loose]) (by exact sublD) ?_
 exact ⟨(q, p), rfl, rfl⟩
theorem stores (G : List (Nat × List D)) (s : Sto) : ACr Try.prog G 4 [stA s] (stA s) := by
 refine AC.factI (f := intC) (xs := s.loose) (.agg .here) fun hll => ?_
 refine AC.factI (f := listC) (xs := s.runs) (.agg (.there .here)) fun hlr => ?_
 have hC := StoreCopyR G s
 refine AC_ofR (rs := [.cell 2 25]) Try.f4.ntmps Try.func4 rfl rfl rfl (by simp [Try.ntmps4]) fun W I => ?_
 all_goals haveI fA_ : FlagA := ⟨⟩
 all_goals haveI fH_ : FlagH := ⟨⟩
 repeat' (first
  | refine cag cal_StoreCopy (hC) ?_
  | exact True.intro
  | refine stp ?_
  | refine two ?_ ?_
  | refine allc fun c_ => ?_
  | (refine imp fun hc => ?_) <;> try exact cx1 hc
  | refine all fun v_ => ?_)
 all_goals clear fA_ fH_
 obtain ⟨v, rfl⟩ : ∃ x, x = v_ := ⟨v_, rfl⟩
 obtain ⟨br, rfl⟩ : ∃ x, x = v_ := ⟨v_, rfl⟩
 obtain ⟨q, p⟩ := v
 dsimp only
 refine retr (VS.trans (VS.take (hc := [rowE q.v 3 1 intC s.loose, rowE p.v 22 1 listC s.runs, .cells br 25 [.val q.v, .val p.v]]) (by exact takedD) (Env.le_refl _))
  (VS.trans (vdat (h1 := []) (h' := [rowE p.v 22 1 listC s.runs, .cells br 25 [.d (intsD s.loose), .val p.v]]) 8 rfl rfl (fun _ => rfl) hll (CvE.refl _ _ _) ?_)
  (vdat (h1 := []) (h' := [.cells br 25 [.d (intsD s.loose), .d (listsD s.runs)]]) 24 rfl rfl (fun _ => rfl) hlr (CvE.refl _ _ _) ?_))) (xs := [stA s]) ⟨rv_agg rfl (by (with_reducible exact ElC.h)) rfl (by exact memD) rfl, trivial⟩ rfl (h' := []) (List.nil_sublist _) (ret_eq rfl)
 · exact .keep (.cells (.cons .here (.cons (.same _) .nil)) (.refl _))
 · exact .cells (.cons (.same _) (.cons .here .nil)) (.refl _)
theorem sameStore (G : List (Nat × List D)) (s : Sto) : ACr Try.prog G 7 [stA s, stA s] (.bool true) := by
 refine AC_ofV (ts := [4]) Try.f7.ntmps Try.func7 rfl rfl rfl (by simp [Try.ntmps7]) fun W I => ?_
 all_goals haveI fA_ : FlagA := ⟨⟩
 all_goals haveI fH_ : FlagH := ⟨⟩
 repeat' (first
  | refine ca cal_sameInts (sameInts _ _ _) ?_
  | refine ca cal_sameLists (sameLists _ _ _) ?_
  | exact True.intro
  | refine stp ?_
  | refine two ?_ ?_
  | refine allc fun c_ => ?_
  | (refine imp fun hc => ?_) <;> try exact cx1 hc
  | refine all fun v_ => ?_)
 all_goals clear fA_ fH_
 all_goals
  refine retv (VS.drop (List.nil_sublist _)) ?_
  ((with_reducible apply rq1); rfl; rfl)
  exact ret_eq (by simp_all)
end Go.Proofs.Ytnlfhnbcdfdhgaa
