/- Contract: store.Add, where loose keys become a run. -/
import Derived.Test.YtnlfhnbcdfdhgaaO9
namespace Go.Proofs.Ytnlfhnbcdfdhgaa
open Go Go.Av Go.Sp
set_option linter.unusedVariables false
set_option linter.unusedSimpArgs false
set_option maxRecDepth 100000
set_option maxHeartbeats 4000000
/-- What is handed back. -/
theorem SAdd_pack (G : List (Nat × List D)) (s : Sto) (n : Int) (h0 : hasF s n = (false, 0)) (hp : StoP s) (hf : ¬ (keysL s).length = 20000) (h7 : ¬ s.loose.length + 1 < 8) : ACr Try.prog G 5 [stA s, .int n] (.tup [stA (addF s n).1.1, .bool (addF s n).1.2, .int (addF s n).2]) := by
 have hH := SHas G s n
 unfold addF
 rw [h0] at hH ⊢
 dsimp only at hH ⊢
 rw [if_neg (fun k => k rfl), if_neg (by decide), if_neg hf, if_neg h7]
 dsimp only
 have hfew := hp.few
 have hK := keysS G s (by omega) (by omega)
 have hkl := keysL_len s
 have hrf := runs_few s.runs fun r hr => (hp.runs r hr).1
 have hll : (s.loose ++ [n]).length = s.loose.length + 1 := by simp
 refine AC_ofR (rs := [.cell 4 25, .tmp 5, .tmp 6]) Try.f5.ntmps Try.func5 rfl rfl rfl (by simp [Try.ntmps5]) fun W I => ?_
 all_goals haveI fA_ : FlagA := ⟨⟩
 all_goals haveI fH_ : FlagH := ⟨⟩
 repeat' (first
  | refine ca cal_SHas (hH) ?_
  | refine ca cal_keysS (hK) ?_
  | refine cag cal_own (own G s) ?_
  | ((with_reducible apply callG); (focus rfl); (focus exact cal_SortI); (focus exact SortS G v_ (s.loose ++ [n]) (by omega)); (focus ((repeat (first | with_reducible exact Take.nil | ((with_reducible apply Take.cons); (focus ((repeat (first | with_reducible exact Sel.here | with_reducible apply Sel.there)); done))))); done)); (focus rfl); (focus (intro v_; (repeat (first | exact App.nil | apply App.cons)); done)))
  | ((with_reducible apply (japU1 (f := intC) (u := n))); (focus rfl); (focus rfl); (focus (with_reducible exact ElC.h)); (focus exact updqD); (focus rfl); (focus rfl); (focus rfl); (focus rfl); (focus exact bndD); (focus exact bndD))
  | exact True.intro
  | refine stp ?_
  | refine two ?_ ?_
  | refine allc fun c_ => ?_
  | (refine imp fun hc => ?_) <;> try exact cx1 hc
  | refine all fun v_ => ?_)
 all_goals clear fA_ fH_
 clear v_
 rename_i bs br k1 v bo k2
 obtain ⟨q, rfl⟩ : ∃ x, x = v_ := ⟨v_, rfl⟩
 obtain ⟨p, pr⟩ := v
 have hsl : (sortI (s.loose ++ [n])).length = s.loose.length + 1 := by rw [sortI_len, hll]
 have hup := sortI_up (s.loose ++ [n])
 generalize hLL : sortI (s.loose ++ [n]) = L0 at hsl hup ⊢
 dsimp only
 refine JL_vs (VS.trans (VS.take (hc := [rowE q.v 3 1 intC L0, rowE pr.v 22 1 listC s.runs, .cells bo 25 [.val q.v, .val pr.v], .cells br 25 [.val Sl.nil.v, .val Sl.nil.v]]) (by exact takedD) (Env.le_refl _))
  (vdat (h1 := []) (h' := [rowE pr.v 22 1 listC s.runs, .cells bo 25 [.d (intsD L0), .val pr.v], .cells br 25 [.val Sl.nil.v, .val Sl.nil.v]]) 8 rfl rfl (fun _ => rfl) (by omega) (CvE.cons (t := 47) rfl .here (CvE.refl _ _ _)) (.keep (.cells (.cons .here (.cons (.same _) .nil)) (.refl _))))) ?_
 all_goals haveI fA_ : FlagA := ⟨⟩
 all_goals haveI fH_ : FlagH := ⟨⟩
 repeat' (first
  | ((with_reducible apply (japU1 (f := listC) (u := L0))); (focus rfl); (focus rfl); (focus (with_reducible exact ElC.h)); (focus exact updqD); (focus rfl); (focus rfl); (focus rfl); (focus rfl); (focus exact bndD); (focus exact bndD))
  | exact True.intro
  | refine stp ?_
  | refine two ?_ ?_
  | refine allc fun c_ => ?_
  | (refine imp fun hc => ?_) <;> try exact cx1 hc
  | refine all fun v_ => ?_)
 all_goals clear fA_ fH_
 obtain ⟨p2, rfl⟩ : ∃ x, x = v_ := ⟨v_, rfl⟩
 clear hc
 have hrl : (s.runs ++ [L0]).length = s.runs.length + 1 := by simp
 have hrise := hp.runs
 refine J_loopV (X := Nat × List Int × Sl) (fun y => [(4, .val (.pointer (some ⟨br, 0, none⟩))), (9, .val (.pointer (some ⟨bo, 0, none⟩))), (10, .int ((y.1 + 1 : Nat) : Int))]) (fun y => [.cells bo 25 [.val Sl.nil.v, .val y.2.2.v], rowE y.2.2.v 22 1 listC (s.runs.take y.1 ++ [y.2.1]), .cells br 25 [.val Sl.nil.v, .val Sl.nil.v]]) (fun y => PkI s.runs L0 y.1 y.2.1) (fun y => y.1) (s.runs.length, L0, p2) ⟨Nat.le_refl _, hup, rfl, by dsimp only; rw [List.take_length]; omega⟩ (VS.take (by dsimp only; rw [List.take_length]; exact takedD) ?_) ?_
 · exact leD
 rintro ⟨m, last, p⟩ hI
 dsimp only at hI ⊢
 cases m with
 | zero =>
   have hpk := hI.zero
   have hRl : (s.runs.take 0 ++ [last]).length = 1 := rfl
   all_goals haveI fA_ : FlagA := ⟨⟩
   all_goals haveI fH_ : FlagH := ⟨⟩
   repeat' (first
    | exact True.intro
    | refine stp ?_
    | refine two ?_ ?_
    | refine allc fun c_ => ?_
    | (refine imp fun hc => ?_) <;> try exact cx1 hc
    | refine all fun v_ => ?_)
   all_goals clear fA_ fH_
   rw [show packR s.runs s.runs.length L0 = s.runs.take 0 ++ [last] from hpk]
   refine retr (VS.trans (VS.take (hc := [rowE p.v 22 1 listC (s.runs.take 0 ++ [last]), .cells br 25 [.val Sl.nil.v, .val p.v]]) (by exact takedD) (Env.le_refl _))
    (VS.trans (vdat (h1 := []) (h' := [.cells br 25 [.val Sl.nil.v, .d (listsD (s.runs.take 0 ++ [last]))]]) 24 rfl rfl (fun _ => rfl) (by omega) (CvE.refl _ _ _) ?_)
    (VS.trans (VS.nilrow 3 1) (vdat (f := intC) (xs := []) (h1 := []) (h' := [.cells br 25 [.d (intsD []), .d (listsD (s.runs.take 0 ++ [last]))]]) 8 rfl rfl (fun _ => rfl) (by simp) (CvE.refl _ _ _) ?_)))) (xs := [.agg [.d (intsD []), .d (listsD (s.runs.take 0 ++ [last]))], .bool true, .int 0]) ⟨rv_agg rfl (by (with_reducible exact ElC.h)) rfl (by exact memD) rfl, rv_tmp rfl, rv_tmp rfl, trivial⟩ rfl (h' := []) (List.nil_sublist _) (ret_eq rfl)
   · exact .cells (.cons (.same _) (.cons .here .nil)) (.refl _)
   · exact .cells (.cons .here (.cons (.same _) .nil)) (.refl _)
 | succ m =>
   have hm := hI.le
   have hRl : (s.runs.take (m + 1) ++ [last]).length = m + 2 := by rw [List.length_append, List.length_take]; simp; omega
   have i1 : (((m + 1 + 1 : Nat) : Int) - 1).toNat < (s.runs.take (m + 1) ++ [last]).length := by omega
   have i2 : (((m + 1 + 1 : Nat) : Int) - 2).toNat < (s.runs.take (m + 1) ++ [last]).length := by omega
   have g1 : (s.runs.take (m + 1) ++ [last])[(((m + 1 + 1 : Nat) : Int) - 1).toNat]'i1 = last := by
    have e : (((m + 1 + 1 : Nat) : Int) - 1).toNat = m + 1 := by omega
    simp only [e]
    rw [List.getElem_append_right (by rw [List.length_take]; omega)]
    simp
   have g2 : (s.runs.take (m + 1) ++ [last])[(((m + 1 + 1 : Nat) : Int) - 2).toNat]'i2 = s.runs[m] := by
    have e : (((m + 1 + 1 : Nat) : Int) - 2).toNat = m := by omega
    simp only [e]
    rw [List.getElem_append_left (by rw [List.length_take]; omega), List.getElem_take]
   have g1l := congrArg List.length g1
   have g2l := congrArg List.length g2
   have gt : (s.runs.take (m + 1) ++ [last]).take (((m + 1 + 1 : Nat) : Int) - 2).toNat = s.runs.take m := by
    have e : (((m + 1 + 1 : Nat) : Int) - 2).toNat = m := by omega
    rw [e, List.take_append_of_le_length (by rw [List.length_take]; omega), List.take_take, Nat.min_eq_left (by omega)]
   by_cases hl : s.runs[m].length ≤ last.length
   · have hn := hI.next hl
     have h2 := hI.few
     rw [flat_succ s.runs m hm, List.length_append] at h2
     have hM := AC.frz 8 (merge G s.runs[m] last (lt_le (hrise _ (List.getElem_mem hm)).2) hI.up (by omega)) rfl (fun _ => rfl) (by rw [sortI_len, List.length_append]; omega)
     have F : ACr Try.prog G 13 [.d (intsD ((s.runs.take (m + 1) ++ [last])[(((m + 1 + 1 : Nat) : Int) - 2).toNat]'i2)), .d (intsD ((s.runs.take (m + 1) ++ [last])[(((m + 1 + 1 : Nat) : Int) - 1).toNat]'i1))] (.d (intsD (sortI (s.runs[m] ++ last)))) := by
      rw [g2, g1]; exact hM
     generalize hr' : sortI (s.runs[m] ++ last) = r' at F hn
     all_goals haveI fA_ : FlagA := ⟨⟩
     all_goals haveI fH_ : FlagH := ⟨⟩
     repeat' (first
      | refine ca cal_merge (F) ?_
      | ((with_reducible apply (japU1 (f := listC) (u := r'))); (focus rfl); (focus rfl); (focus (with_reducible exact ElC.h)); (focus exact updqD); (focus rfl); (focus rfl); (focus rfl); (focus rfl); (focus exact bndD); (focus exact bndD))
      | exact True.intro
      | refine stp ?_
      | refine two ?_ ?_
      | refine allc fun c_ => ?_
      | (refine imp fun hc => ?_) <;> try exact cx1 hc
      | refine all fun v_ => ?_)
     all_goals clear fA_ fH_
     refine ⟨(m, r', v_), hn, Nat.lt_succ_self m, VS.take (by dsimp only; rw [← gt]; exact takedD) ?_⟩
     exact leD
   · have hpk := hI.stop hl
     all_goals haveI fA_ : FlagA := ⟨⟩
     all_goals haveI fH_ : FlagH := ⟨⟩
     repeat' (first
      | exact True.intro
      | refine stp ?_
      | refine two ?_ ?_
      | refine allc fun c_ => ?_
      | (refine imp fun hc => ?_) <;> try exact cx1 hc
      | refine all fun v_ => ?_)
     all_goals clear fA_ fH_
     rw [hpk]
     refine retr (VS.trans (VS.take (hc := [rowE p.v 22 1 listC (s.runs.take (m + 1) ++ [last]), .cells br 25 [.val Sl.nil.v, .val p.v]]) (by exact takedD) (Env.le_refl _))
      (VS.trans (vdat (h1 := []) (h' := [.cells br 25 [.val Sl.nil.v, .d (listsD (s.runs.take (m + 1) ++ [last]))]]) 24 rfl rfl (fun _ => rfl) (by omega) (CvE.refl _ _ _) ?_)
      (VS.trans (VS.nilrow 3 1) (vdat (f := intC) (xs := []) (h1 := []) (h' := [.cells br 25 [.d (intsD []), .d (listsD (s.runs.take (m + 1) ++ [last]))]]) 8 rfl rfl (fun _ => rfl) (by simp) (CvE.refl _ _ _) ?_)))) (xs := [.agg [.d (intsD []), .d (listsD (s.runs.take (m + 1) ++ [last]))], .bool true, .int 0]) ⟨rv_agg rfl (by (with_reducible exact ElC.h)) rfl (by exact memD) rfl, rv_tmp rfl, rv_tmp rfl, trivial⟩ rfl (h' := []) (List.nil_sublist _) (ret_eq rfl)
     · exact .cells (.cons (.same _) (.cons .here .nil)) (.refl _)
     · exact .cells (.cons .here (.cons (.same _) .nil)) (.refl _)
theorem SAdd (G : List (Nat × List D)) (s : Sto) (n : Int) : ACr Try.prog G 5 [stA s, .int n] (.tup [stA (addF s n).1.1, .bool (addF s n).1.2, .int (addF s n).2]) := by
 by_cases h0 : (hasF s n).2 ≠ 0
 · exact SAdd_err G s n h0
 replace h0 := Decidable.not_not.1 h0
 have hp := hasF_sto h0
 cases hb : (hasF s n).1 with
 | true => exact SAdd_old G s n (Prod.ext hb h0)
 | false =>
   have hv : hasF s n = (false, 0) := Prod.ext hb h0
   by_cases hf : (keysL s).length = 20000
   · exact SAdd_full G s n hv hp hf
   · by_cases h7 : s.loose.length + 1 < 8
     · exact SAdd_loose G s n hv hp hf h7
     · exact SAdd_pack G s n hv hp hf h7
end Go.Proofs.Ytnlfhnbcdfdhgaa
