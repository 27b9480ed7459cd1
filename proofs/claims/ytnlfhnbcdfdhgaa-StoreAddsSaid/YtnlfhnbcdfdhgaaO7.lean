/- Contracts: store.own. -/
import Derived.Test.YtnlfhnbcdfdhgaaO5
namespace Go.Proofs.Ytnlfhnbcdfdhgaa
open Go Go.Av Go.Sp
set_option linter.unusedVariables false
set_option linter.unusedSimpArgs false
set_option maxRecDepth 100000
set_option maxHeartbeats 4000000
theorem cal_own : Cal Try.prog 10 := Cal.of Try.func10 (by kernel_rfl) (by kernel_rfl)
theorem own (G : List (Nat × List D)) (s : Sto) : AC Try.prog G 10 [stA s] [] fun r h => ∃ v : Sl × Sl, r = .ret (.agg [.val v.1.v, .val v.2.v]) ∧ h = [rowE v.2.v 22 1 listC s.runs, rowE v.1.v 3 1 intC s.loose] := by
 refine AC.factI (f := listC) (xs := s.runs) (.agg (.there .here)) fun hlr => ?_
 refine AC.factN (g := listC) (f := intC) (xss := s.runs) 1 8 (fun _ => rfl) (.agg (.there .here)) fun hN => ?_
 have hL := CloneS G s.loose
 refine AC_ofR (rs := [.cell 2 25]) Try.f10.ntmps Try.func10 rfl rfl rfl (by simp [Try.ntmps10]) fun W I => ?_
 all_goals haveI fA_ : FlagA := ⟨⟩
 all_goals haveI fH_ : FlagH := ⟨⟩
 repeat' (first
  | refine cae cal_CloneS (hL) ?_
  | exact True.intro
  | refine stp ?_
  | refine two ?_ ?_
  | refine allc fun c_ => ?_
  | (refine imp fun hc => ?_) <;> try exact cx1 hc
  | refine all fun v_ => ?_)
 all_goals clear fA_ fH_
 obtain ⟨bo, rfl⟩ : ∃ x, x = v_ := ⟨v_, rfl⟩
 obtain ⟨q, rfl⟩ : ∃ x, x = v_ := ⟨v_, rfl⟩
 obtain ⟨br, rfl⟩ : ∃ x, x = v_ := ⟨v_, rfl⟩
 obtain ⟨bs, rfl⟩ : ∃ x, x = v_ := ⟨v_, rfl⟩
 refine jrow (E := 22) (sz := 1) listC ?_
 refine J_loopV (X := Nat × Sl) (fun y => [(2, .val (.pointer (some ⟨br, 0, none⟩))), (3, .val (.pointer (some ⟨bo, 0, none⟩))), (11, .d (listsD s.runs)), (12, .int s.runs.length), (13, .int y.1)]) (fun y => [rowE y.2.v 22 1 listC (s.runs.take y.1), rowE q.v 3 1 intC s.loose, .cells bo 25 [.val q.v, .val y.2.v], .cells br 25 [.val Sl.nil.v, .val Sl.nil.v]]) (fun y => y.1 ≤ s.runs.length) (fun y => s.runs.length - y.1) (0, Sl.nil) (Nat.zero_le _) (VS.take (by exact takedD) ?_) ?_
 · exact leD
 rintro ⟨i, p⟩ hi
 dsimp only at hi ⊢
 by_cases hil : i < s.runs.length
 · have et : s.runs.take i ++ [s.runs[i]] = s.runs.take (i + 1) := (List.take_succ_eq_append_getElem hil).symm
   have hlen : (s.runs.take i).length = i := by rw [List.length_take]; omega
   have hlr2 := hN s.runs[i] (List.getElem_mem hil)
   have hR := AC.frz 8 (CloneS G s.runs[i]) rfl (fun _ => rfl) hlr2
   all_goals haveI fA_ : FlagA := ⟨⟩
   all_goals haveI fH_ : FlagH := ⟨⟩
   all_goals haveI fS_ : StopAt 1 := ⟨⟩
   repeat' (first
    | refine stp ?_
    | refine two ?_ ?_
    | (refine imp fun hc => ?_) <;> try (first | contradiction | (exfalso; omega))
    | refine all fun v_ => ?_)
   all_goals clear fA_ fH_ fS_
   refine ⟨?_⟩
   refine J_region_HB [rowE p.v 22 1 listC (s.runs.take i), .cells bo 25 [.val q.v, .val p.v]] mixed rfl (by (repeat ((with_reducible apply Hd.cons); (focus rfl))); exact Hd.nil) (by (repeat (with_reducible apply len_cons)); exact len_nil) (by decide +kernel) (by ((repeat (first | with_reducible exact Take.nil | ((with_reducible apply Take.cons); (focus ((repeat (first | with_reducible exact Sel.here | with_reducible apply Sel.there)); done))))); done)) ?_
   all_goals haveI fA_ : FlagA := ⟨⟩
   all_goals haveI fH_ : FlagH := ⟨⟩
   repeat' (first
    | refine ca cal_CloneS (hR) ?_
    | refine caq cal_CloneS (hR) ?_
    | ((with_reducible apply (japU1 (f := listC) (u := s.runs[i]))); (focus rfl); (focus rfl); (focus (with_reducible exact ElC.h)); (focus exact updqD); (focus rfl); (focus rfl); (focus rfl); (focus rfl); (focus exact bndD); (focus exact bndD))
    | exact True.intro
    | refine stp ?_
    | refine two ?_ ?_
    | refine allc fun c_ => ?_
    | (refine imp fun hc => ?_) <;> try exact cx1 hc
    | refine all fun v_ => ?_)
   all_goals clear fA_ fH_
   all_goals
    refine ⟨(i + 1, v_), hil, by dsimp only; omega, VS.take (by dsimp only; rw [← et]; exact takedD) ?_⟩
    exact leD
 obtain rfl : i = s.runs.length := by omega
 rw [List.take_length]
 all_goals haveI fA_ : FlagA := ⟨⟩
 all_goals haveI fH_ : FlagH := ⟨⟩
 repeat' (first
  | exact True.intro
  | refine stp ?_
  | refine two ?_ ?_
  | refine allc fun c_ => ?_
  | (refine imp fun hc => ?_) <;> try exact cx1 hc
  | refine all fun v_ => ?_)
 all_goals clear fA_ fH_
 refine retr0 (xs := [.agg [.val q.v, .val p.v]]) ⟨rv_agg rfl (by (with_reducible exact ElC.h)) rfl (by exact memD) rfl, trivial⟩ rfl (h' := [rowE p.v 22 1 listC s.runs, rowE q.v 3 1 intC s.loose]) (by exact sublD) ?_
 exact ⟨(q, p), rfl, rfl⟩
end Go.Proofs.Ytnlfhnbcdfdhgaa
