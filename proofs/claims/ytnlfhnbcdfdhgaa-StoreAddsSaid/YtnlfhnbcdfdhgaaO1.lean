/- Contracts: foretellref.numbersUp, numbers, keysOf; slices.Clone (of ints); store.merge, keys. -/
import Derived.Test.YtnlfhnbcdfdhgaaG26
import Derived.Test.YtnlfhnbcdfdhgaaQ3
import Derived.Test.YtnlfhnbcdfdhgaaT0
namespace Go.Proofs.Ytnlfhnbcdfdhgaa
open Go Go.Av Go.Sp
set_option linter.unusedVariables false
set_option linter.unusedSimpArgs false
set_option maxRecDepth 100000
set_option maxHeartbeats 4000000
theorem cal_numbersUp : Cal Try.prog 16 := Cal.of Try.func16 (by kernel_rfl) (by kernel_rfl)
theorem cal_numbers : Cal Try.prog 17 := Cal.of Try.func17 (by kernel_rfl) (by kernel_rfl)
theorem cal_keysOf : Cal Try.prog 15 := Cal.of Try.func15 (by kernel_rfl) (by kernel_rfl)
theorem cal_CloneS : Cal Try.prog 24 := Cal.of Try.func24 (by kernel_rfl) (by kernel_rfl)
theorem cal_merge : Cal Try.prog 13 := Cal.of Try.func13 (by kernel_rfl) (by kernel_rfl)
theorem cal_keysS : Cal Try.prog 11 := Cal.of Try.func11 (by kernel_rfl) (by kernel_rfl)
theorem numbersUp (G : List (Nat × List D)) (l : List Int) (hl : l.length ≤ 1000000) : AC Try.prog G 16 [.d (intsD l)] [] fun r h => ∃ q : Sl, r = .ret (.val q.v) ∧ h = [rowE q.v 3 1 intC (sortI l)] := by
 refine AC_ofV (ts := [2]) Try.f16.ntmps Try.func16 rfl rfl rfl (by simp [Try.ntmps16]) fun W I => ?_
 refine jrow (E := 3) (sz := 1) intC ?_
 all_goals haveI fA_ : FlagA := ⟨⟩
 repeat' (first
  | exact True.intro
  | refine stp ?_
  | refine two ?_ ?_
  | (refine imp fun hc => ?_) <;> try exact cx hc
  | refine all fun v_ => ?_)
 all_goals clear fA_
 refine J_loopV (X := Nat × Sl) (fun y => [(0, .d (intsD l)), (3, .val y.2.v), (4, .int y.1)]) (fun y => [rowE y.2.v 3 1 intC (sortI (l.take y.1))]) (fun y => y.1 ≤ l.length) (fun y => l.length - y.1) (0, Sl.nil) (Nat.zero_le _) (VS.take (by dsimp only; rw [List.take_zero, show sortI ([] : List Int) = [] by simp [sortI]]; exact takedD) ?_) ?_
 · exact leD
 rintro ⟨i, q⟩ hi
 dsimp only at hi ⊢
 have hsl : (sortI (l.take i)).length = i := by rw [sortI_len, List.length_take]; omega
 by_cases hil : i < l.length
 · all_goals haveI fA_ : FlagA := ⟨⟩
   repeat' (first
    | exact True.intro
    | refine stp ?_
    | refine two ?_ ?_
    | (refine imp fun hc => ?_) <;> try exact cx hc
    | refine all fun v_ => ?_)
   all_goals clear fA_
   obtain ⟨p, rfl⟩ : ∃ x, x = v_ := ⟨v_, rfl⟩
   refine J_loopV (X := List Int × List Int) (fun y => [(0, .d (intsD l)), (3, .val p.v), (4, .int i), (5, .int y.1.length)]) (fun y => [rowE p.v 3 1 intC (y.1 ++ l[i] :: y.2)]) (fun y => InsI l i l[i] y.1 y.2) (fun y => y.1.length) (sortI (l.take i), []) (InsI.start l i l[i]) (VS.take (by exact takedD) ?_) ?_
   · exact leD
   rintro ⟨A, B⟩ hI
   dsimp only at hI ⊢
   have hAB : A.length + B.length = i := by have := congrArg List.length hI.sort; rw [List.length_append] at this; omega
   rcases List.eq_nil_or_concat A with rfl | ⟨A', y, rfl⟩
   · have hd := hI.done hil (fun y h => by cases h)
     all_goals haveI fA_ : FlagA := ⟨⟩
     all_goals haveI fH_ : FlagH := ⟨⟩
     repeat' (first
      | exact True.intro
      | refine stp ?_
      | refine two ?_ ?_
      | refine allc fun c_ => ?_
      | (refine imp fun hc => ?_) <;> try exact cx1 hc
      | refine all fun v_ => ?_)
     all_goals clear fA_ fH_
     refine ⟨(i + 1, p), by dsimp only; omega, by dsimp only; omega, VS.take (by dsimp only; rw [← hd]; exact takedD) ?_⟩
     exact leD
   · rw [List.concat_eq_append] at hI hAB ⊢
     have hAl : (A' ++ [y]).length = A'.length + 1 := by simp
     have hRl : (A' ++ [y] ++ l[i] :: B).length = A'.length + B.length + 2 := by simp; omega
     have g1 : ∀ h : A'.length + 1 < (A' ++ [y] ++ l[i] :: B).length, (A' ++ [y] ++ l[i] :: B)[A'.length + 1]'h = l[i] := fun h => by simp
     have g2 : ∀ h : (((A'.length + 1 : Nat) : Int) - 1).toNat < (A' ++ [y] ++ l[i] :: B).length, (A' ++ [y] ++ l[i] :: B)[(((A'.length + 1 : Nat) : Int) - 1).toNat]'h = y := fun h => by
      have e : (((A'.length + 1 : Nat) : Int) - 1).toNat = A'.length := by omega
      simp only [e]; simp
     rw [hAl] at hAB ⊢
     by_cases hxy : l[i] < y
     · have hlt : (A' ++ [y] ++ l[i] :: B)[A'.length + 1]'(by omega) < (A' ++ [y] ++ l[i] :: B)[(((A'.length + 1 : Nat) : Int) - 1).toNat]'(by omega) := by rw [g1, g2]; exact hxy
       all_goals haveI fA_ : FlagA := ⟨⟩
       all_goals haveI fH_ : FlagH := ⟨⟩
       repeat' (first
        | exact True.intro
        | refine stp ?_
        | refine two ?_ ?_
        | refine allc fun c_ => ?_
        | (refine imp fun hc => ?_) <;> try exact cx1 hc
        | refine all fun v_ => ?_)
       all_goals clear fA_ fH_
       have e2 : (((A'.length + 1 : Nat) : Int) - 1).toNat = A'.length := by omega
       have esw : ((A' ++ [y] ++ l[i] :: B).set (A'.length + 1) (A' ++ [y] ++ l[i] :: B)[(((A'.length + 1 : Nat) : Int) - 1).toNat]).set (((A'.length + 1 : Nat) : Int) - 1).toNat (A' ++ [y] ++ l[i] :: B)[A'.length + 1] = A' ++ l[i] :: y :: B := by
        rw [g1, g2, e2, mid_swap]
       refine ⟨(A', y :: B), hI.swap hxy, by dsimp only; omega, VS.take (by dsimp only; rw [esw]; exact takedD) ?_⟩
       exact leD
     · have hlt : ¬ (A' ++ [y] ++ l[i] :: B)[A'.length + 1]'(by omega) < (A' ++ [y] ++ l[i] :: B)[(((A'.length + 1 : Nat) : Int) - 1).toNat]'(by omega) := by rw [g1, g2]; exact hxy
       have hd := hI.done hil (fun z hz => by simp at hz; omega)
       all_goals haveI fA_ : FlagA := ⟨⟩
       all_goals haveI fH_ : FlagH := ⟨⟩
       repeat' (first
        | exact True.intro
        | refine stp ?_
        | refine two ?_ ?_
        | refine allc fun c_ => ?_
        | (refine imp fun hc => ?_) <;> try exact cx1 hc
        | refine all fun v_ => ?_)
       all_goals clear fA_ fH_
       refine ⟨(i + 1, p), by dsimp only; omega, by dsimp only; omega, VS.take (by dsimp only; rw [← hd]; exact takedD) ?_⟩
       exact leD
 obtain rfl : i = l.length := by omega
 rw [List.take_length]
 all_goals haveI fA_ : FlagA := ⟨⟩
 repeat' (first
  | exact True.intro
  | refine stp ?_
  | refine two ?_ ?_
  | (refine imp fun hc => ?_) <;> try exact cx hc
  | refine all fun v_ => ?_)
 all_goals clear fA_
 refine retv (VS.take (hc := [rowE q.v 3 1 intC (sortI l)]) (by exact takedD) (Env.le_refl _)) ?_
 ((with_reducible apply rq1); rfl; rfl)
 exact ⟨q, rfl, rfl⟩
theorem numbersUpD (G : List (Nat × List D)) (l : List Int) (hl : l.length ≤ 1000000) : ACr Try.prog G 16 [.d (intsD l)] (.d (intsD (sortI l))) :=
 AC.frz 8 (numbersUp G l hl) rfl (fun _ => rfl) (by rw [sortI_len]; omega)
theorem numbers (G : List (Nat × List D)) (l : List Int) : AC Try.prog G 17 [.d (intsD l)] [] fun r h => ∃ q : Sl, r = .ret (.val q.v) ∧ h = [rowE q.v 3 1 intC l] := by
 refine AC_ofV (ts := [2]) Try.f17.ntmps Try.func17 rfl rfl rfl (by simp [Try.ntmps17]) fun W I => ?_
 refine jfact (t := 0) rfl fun hl => ?_
 refine jrow (E := 3) (sz := 1) intC ?_
 all_goals haveI fA_ : FlagA := ⟨⟩
 repeat' (first
  | exact True.intro
  | refine stp ?_
  | refine two ?_ ?_
  | (refine imp fun hc => ?_) <;> try exact cx hc
  | refine all fun v_ => ?_)
 all_goals clear fA_
 refine J_loopV (X := Nat × Sl) (fun y => [(0, .d (intsD l)), (3, .val y.2.v), (4, .int y.1)]) (fun y => [rowE y.2.v 3 1 intC (l.take y.1)]) (fun y => y.1 ≤ l.length) (fun y => l.length - y.1) (0, Sl.nil) (Nat.zero_le _) (VS.take (by exact takedD) ?_) ?_
 · exact leD
 rintro ⟨i, q⟩ hi
 dsimp only at hi ⊢
 by_cases hil : i < l.length
 · have et : l.take i ++ [l[i]] = l.take (i + 1) := (List.take_succ_eq_append_getElem hil).symm
   have hlen : (l.take i).length = i := by rw [List.length_take]; omega
   all_goals haveI fA_ : FlagA := ⟨⟩
   repeat' (first
    | exact True.intro
    | refine stp ?_
    | refine two ?_ ?_
    | (refine imp fun hc => ?_) <;> try exact cx hc
    | refine all fun v_ => ?_)
   all_goals clear fA_
   refine ⟨(i + 1, v_), by dsimp only; omega, by dsimp only; omega, VS.take (by dsimp only; rw [← et]; exact takedD) ?_⟩
   exact leD
 obtain rfl : i = l.length := by omega
 rw [List.take_length]
 all_goals haveI fA_ : FlagA := ⟨⟩
 repeat' (first
  | exact True.intro
  | refine stp ?_
  | refine two ?_ ?_
  | (refine imp fun hc => ?_) <;> try exact cx hc
  | refine all fun v_ => ?_)
 all_goals clear fA_
 refine retv (VS.take (hc := [rowE q.v 3 1 intC l]) (by exact takedD) (Env.le_refl _)) ?_
 ((with_reducible apply rq1); rfl; rfl)
 exact ⟨q, rfl, rfl⟩
theorem keysOf (G : List (Nat × List D)) (s : Sto) (hl : s.loose.length ≤ 1000000) (hr : s.runs.flatten.length ≤ 1000000) (hR : s.runs.length ≤ 1000000) : ACr Try.prog G 15 [stA s] (.d (intsD (keysL s))) := by
 refine AC_ofV (ts := [2]) Try.f15.ntmps Try.func15 rfl rfl rfl (by simp [Try.ntmps15]) fun W I => ?_
 refine jrow (E := 3) (sz := 1) intC ?_
 all_goals haveI fA_ : FlagA := ⟨⟩
 repeat' (first
  | exact True.intro
  | refine stp ?_
  | refine two ?_ ?_
  | (refine imp fun hc => ?_) <;> try exact cx hc
  | refine all fun v_ => ?_)
 all_goals clear fA_
 obtain ⟨bs, rfl⟩ : ∃ x, x = v_ := ⟨v_, rfl⟩
 refine J_loopV (X := Nat × Sl) (fun y => [(1, .val (.pointer (some ⟨bs, 0, none⟩))), (3, .val y.2.v), (4, .int y.1)]) (fun y => [rowE y.2.v 3 1 intC (s.runs.take y.1).flatten, .cells bs 25 [.d (intsD s.loose), .d (listsD s.runs)]]) (fun y => y.1 ≤ s.runs.length) (fun y => s.runs.length - y.1) (0, Sl.nil) (Nat.zero_le _) (VS.take (by exact takedD) ?_) ?_
 · exact leD
 rintro ⟨i, q⟩ hi
 dsimp only at hi ⊢
 by_cases hil : i < s.runs.length
 · have hfl := flat_succ s.runs i hil
   have hle := flat_le s.runs (i + 1)
   rw [hfl, List.length_append] at hle
   all_goals haveI fA_ : FlagA := ⟨⟩
   repeat' (first
    | exact True.intro
    | refine stp ?_
    | refine two ?_ ?_
    | (refine imp fun hc => ?_) <;> try exact cx hc
    | refine all fun v_ => ?_)
   all_goals clear fA_
   refine J_loopV (X := Nat × Sl) (fun y => [(1, .val (.pointer (some ⟨bs, 0, none⟩))), (3, .val y.2.v), (4, .int i), (5, .int y.1)]) (fun y => [rowE y.2.v 3 1 intC ((s.runs.take i).flatten ++ s.runs[i].take y.1), .cells bs 25 [.d (intsD s.loose), .d (listsD s.runs)]]) (fun y => y.1 ≤ s.runs[i].length) (fun y => s.runs[i].length - y.1) (0, q) (Nat.zero_le _) (VS.take (by dsimp only; rw [List.take_zero, List.append_nil]; exact takedD) ?_) ?_
   · exact leD
   rintro ⟨k, p⟩ hk
   dsimp only at hk ⊢
   by_cases hkl : k < s.runs[i].length
   · have et : (s.runs.take i).flatten ++ s.runs[i].take k ++ [s.runs[i][k]] = (s.runs.take i).flatten ++ s.runs[i].take (k + 1) := by rw [List.append_assoc, List.take_succ_eq_append_getElem hkl]
     have hlen : ((s.runs.take i).flatten ++ s.runs[i].take k).length = (s.runs.take i).flatten.length + k := by rw [List.length_append, List.length_take]; omega
     all_goals haveI fA_ : FlagA := ⟨⟩
     repeat' (first
      | exact True.intro
      | refine stp ?_
      | refine two ?_ ?_
      | (refine imp fun hc => ?_) <;> try exact cx hc
      | refine all fun v_ => ?_)
     all_goals clear fA_
     refine ⟨(k + 1, v_), by dsimp only; omega, by dsimp only; omega, VS.take (by dsimp only; rw [← et]; exact takedD) ?_⟩
     exact leD
   obtain rfl : k = s.runs[i].length := by omega
   rw [List.take_length, ← hfl]
   all_goals haveI fA_ : FlagA := ⟨⟩
   repeat' (first
    | exact True.intro
    | refine stp ?_
    | refine two ?_ ?_
    | (refine imp fun hc => ?_) <;> try exact cx hc
    | refine all fun v_ => ?_)
   all_goals clear fA_
   refine ⟨(i + 1, p), by dsimp only; omega, by dsimp only; omega, VS.take (by exact takedD) ?_⟩
   exact leD
 obtain rfl : i = s.runs.length := by omega
 rw [List.take_length]
 all_goals haveI fA_ : FlagA := ⟨⟩
 repeat' (first
  | exact True.intro
  | refine stp ?_
  | refine two ?_ ?_
  | (refine imp fun hc => ?_) <;> try exact cx hc
  | refine all fun v_ => ?_)
 all_goals clear fA_
 refine J_loopV (X := Nat × Sl) (fun y => [(1, .val (.pointer (some ⟨bs, 0, none⟩))), (3, .val y.2.v), (6, .int y.1)]) (fun y => [rowE y.2.v 3 1 intC (s.runs.flatten ++ s.loose.take y.1), .cells bs 25 [.d (intsD s.loose), .d (listsD s.runs)]]) (fun y => y.1 ≤ s.loose.length) (fun y => s.loose.length - y.1) (0, q) (Nat.zero_le _) (VS.take (by dsimp only; rw [List.take_zero, List.append_nil]; exact takedD) ?_) ?_
 · exact leD
 clear q
 rintro ⟨k, q⟩ hk
 dsimp only at hk ⊢
 by_cases hkl : k < s.loose.length
 · have et : s.runs.flatten ++ s.loose.take k ++ [s.loose[k]] = s.runs.flatten ++ s.loose.take (k + 1) := by rw [List.append_assoc, List.take_succ_eq_append_getElem hkl]
   have hlen : (s.runs.flatten ++ s.loose.take k).length = s.runs.flatten.length + k := by rw [List.length_append, List.length_take]; omega
   all_goals haveI fA_ : FlagA := ⟨⟩
   repeat' (first
    | exact True.intro
    | refine stp ?_
    | refine two ?_ ?_
    | (refine imp fun hc => ?_) <;> try exact cx hc
    | refine all fun v_ => ?_)
   all_goals clear fA_
   refine ⟨(k + 1, v_), by dsimp only; omega, by dsimp only; omega, VS.take (by dsimp only; rw [← et]; exact takedD) ?_⟩
   exact leD
 obtain rfl : k = s.loose.length := by omega
 rw [List.take_length]
 all_goals haveI fA_ : FlagA := ⟨⟩
 repeat' (first
  | exact True.intro
  | refine stp ?_
  | refine two ?_ ?_
  | (refine imp fun hc => ?_) <;> try exact cx hc
  | refine all fun v_ => ?_)
 all_goals clear fA_
 refine retv (VS.trans (vfreeze (t := 2) (eb := 8) rfl rfl (fun x => rfl) (by rw [List.length_append]; omega)) (VS.drop (List.nil_sublist _))) ?_
 ((with_reducible apply rq1); rfl; rfl)
 exact ret_eq rfl
theorem CloneS (G : List (Nat × List D)) (xs : List Int) : AC Try.prog G 24 [.d (intsD xs)] [] fun r h => ∃ q : Sl, r = .ret (.val q.v) ∧ h = [rowE q.v 3 1 intC xs] := by
 refine AC_ofV (ts := [2]) Try.f24.ntmps Try.func24 rfl rfl rfl (by simp [Try.ntmps24]) fun W I => ?_
 refine jfact (t := 0) rfl fun hl => ?_
 all_goals haveI fA_ : FlagA := ⟨⟩
 repeat' (first
  | ((with_reducible apply jeq_nil); (focus rfl); (focus rfl); (focus rfl); (focus rfl))
  | ((with_reducible apply (jbuild0S intC)); (focus rfl); (focus (with_reducible exact ElC.h)); (focus rfl))
  | exact True.intro
  | refine stp ?_
  | refine two ?_ ?_
  | (refine imp fun hc => ?_) <;> try exact cx hc
  | refine all fun v_ => ?_)
 all_goals clear fA_
 · subst hc
   refine retv (VS.nilrow 3 1) ?_
   ((with_reducible apply rq1); rfl; rfl)
   exact ⟨Sl.nil, rfl, rfl⟩
 · refine retv0 ?_
   ((with_reducible apply rq1); rfl; rfl)
   exact ⟨v_, rfl, rfl⟩
end Go.Proofs.Ytnlfhnbcdfdhgaa
