/- Contract: foretellref.StoreFault. -/
import Derived.Test.YtnlfhnbcdfdhgaaO3
namespace Go.Proofs.Ytnlfhnbcdfdhgaa
open Go Go.Av Go.Sp
set_option linter.unusedVariables false
set_option linter.unusedSimpArgs false
set_option maxRecDepth 100000
set_option maxHeartbeats 4000000
theorem cal_StoreFault : Cal Try.prog 27 := Cal.of Try.func27 (by kernel_rfl) (by kernel_rfl)
theorem StoreFault (G : List (Nat × List D)) (s : Sto) : ACr Try.prog G 27 [stA s] (.int (stoF s)) := by
 refine AC.factI (f := listC) (xs := s.runs) (.agg (.there .here)) fun hlr => ?_
 refine AC.factN (g := listC) (f := intC) (xss := s.runs) 1 8 (fun _ => rfl) (.agg (.there .here)) fun hN => ?_
 refine AC_ofV (ts := [2]) Try.f27.ntmps Try.func27 rfl rfl rfl (by simp [Try.ntmps27]) fun W I => ?_
 by_cases h7 : ¬ s.loose.length ≤ 7
 · all_goals haveI fA_ : FlagA := ⟨⟩
   all_goals haveI fH_ : FlagH := ⟨⟩
   repeat' (first
    | exact True.intro
    | refine stp ?_
    | refine two ?_ ?_
    | refine allc fun c_ => ?_
    | (refine imp fun hc => ?_) <;> try exact cx1 hc
    | refine all fun v_ => ?_)
   all_goals clear fA_ fH_
   refine retv (VS.drop (List.nil_sublist _)) ?_
   ((with_reducible apply rq1); rfl; rfl)
   exact ret_eq (by rw [stoF_no]; exact fun p => h7 p.loose)
 replace h7 := Decidable.not_not.1 h7
 all_goals haveI fA_ : FlagA := ⟨⟩
 all_goals haveI fH_ : FlagH := ⟨⟩
 repeat' (first
  | exact True.intro
  | refine stp ?_
  | refine two ?_ ?_
  | refine allc fun c_ => ?_
  | (refine imp fun hc => ?_) <;> try exact cx1 hc
  | refine all fun v_ => ?_)
 all_goals clear fA_ fH_
 obtain ⟨bs, rfl⟩ : ∃ x, x = v_ := ⟨v_, rfl⟩
 refine J_loopV (X := Nat) (fun i => [(1, .val (.pointer (some ⟨bs, 0, none⟩))), (3, .int ((s.loose.length + (s.runs.take i).flatten.length : Nat) : Int)), (4, .int i)]) (fun _ => [.cells bs 25 [.d (intsD s.loose), .d (listsD s.runs)]]) (fun i => RunsI s i) (fun i => s.runs.length - i) 0 (RunsI.start h7) (VS.of_le ?_) ?_
 · simp only [List.take_zero, List.flatten_nil, List.length_nil, Nat.add_zero]
   exact leD
 rintro i hI
 have hile := hI.le
 have hfew := hI.few
 by_cases hil : i < s.runs.length
 · have hlr2 := hN s.runs[i] (List.getElem_mem hil)
   have hno1 := fun p : StoP s => p.no_run hil
   have hno2 := fun p : StoP s => p.no_few hil
   have hnx := hI.next hil
   have e1 : ((s.loose.length + (s.runs.take (i + 1)).flatten.length : Nat) : Int) = ((s.loose.length + (s.runs.take i).flatten.length : Nat) : Int) + s.runs[i].length := by rw [sumL_runs s.runs i hil]; omega
   by_cases hz : s.runs[i].length = 0
   · all_goals haveI fA_ : FlagA := ⟨⟩
     all_goals haveI fH_ : FlagH := ⟨⟩
     repeat' (first
      | exact True.intro
      | refine stp ?_
      | refine two ?_ ?_
      | refine allc fun c_ => ?_
      | (refine imp fun hc => ?_) <;> try exact cx1 hc
      | refine all fun v_ => ?_)
     all_goals clear fA_ fH_
     all_goals
      refine retv (VS.drop (List.nil_sublist _)) ?_
      ((with_reducible apply rq1); rfl; rfl)
      exact ret_eq (by rw [stoF_no]; exact fun p => (hno1 p).1 (List.length_eq_zero_iff.1 hz))
   by_cases hb : ¬ s.loose.length + (s.runs.take i).flatten.length + s.runs[i].length ≤ 20000
   · all_goals haveI fA_ : FlagA := ⟨⟩
     all_goals haveI fH_ : FlagH := ⟨⟩
     repeat' (first
      | exact True.intro
      | refine stp ?_
      | refine two ?_ ?_
      | refine allc fun c_ => ?_
      | (refine imp fun hc => ?_) <;> try exact cx1 hc
      | refine all fun v_ => ?_)
     all_goals clear fA_ fH_
     all_goals
      refine retv (VS.drop (List.nil_sublist _)) ?_
      ((with_reducible apply rq1); rfl; rfl)
      exact ret_eq (by rw [stoF_no]; exact fun p => hb (hno2 p))
   replace hb := Decidable.not_not.1 hb
   all_goals haveI fA_ : FlagA := ⟨⟩
   all_goals haveI fH_ : FlagH := ⟨⟩
   repeat' (first
    | exact True.intro
    | refine stp ?_
    | refine two ?_ ?_
    | refine allc fun c_ => ?_
    | (refine imp fun hc => ?_) <;> try exact cx1 hc
    | refine all fun v_ => ?_)
   all_goals clear fA_ fH_
   refine J_loopV (X := Nat) (fun k => [(1, .val (.pointer (some ⟨bs, 0, none⟩))), (3, .int (((s.loose.length + (s.runs.take i).flatten.length : Nat) : Int) + s.runs[i].length)), (4, .int i), (5, .d (intsD s.runs[i])), (6, .int ((k : Int) + 1))]) (fun _ => [.cells bs 25 [.d (intsD s.loose), .d (listsD s.runs)]]) (fun k => k + 1 ≤ s.runs[i].length ∧ ∀ (j : Nat) (h : j + 1 < s.runs[i].length), j < k → s.runs[i][j] < s.runs[i][j + 1]) (fun k => s.runs[i].length - k) 0 ⟨by omega, fun j h h2 => absurd h2 (Nat.not_lt_zero _)⟩ (VS.of_le ?_) ?_
   · exact leD
   rintro m ⟨hk, hup⟩
   by_cases hkl : m + 1 < s.runs[i].length
   · have e : (((m : Int) + 1) - 1).toNat = m := by omega
     have e2 : ((m : Int) + 1).toNat = m + 1 := by omega
     by_cases c : s.runs[i][m + 1] ≤ s.runs[i][m]
     · have hcmp : s.runs[i][((m : Int) + 1).toNat]'(by omega) ≤ s.runs[i][(((m : Int) + 1) - 1).toNat]'(by omega) := by simp only [e, e2]; exact c
       all_goals haveI fA_ : FlagA := ⟨⟩
       all_goals haveI fH_ : FlagH := ⟨⟩
       repeat' (first
        | exact True.intro
        | refine stp ?_
        | refine two ?_ ?_
        | refine allc fun c_ => ?_
        | (refine imp fun hc => ?_) <;> try exact cx1 hc
        | refine all fun v_ => ?_)
       all_goals clear fA_ fH_
       all_goals
        refine retv (VS.drop (List.nil_sublist _)) ?_
        ((with_reducible apply rq1); rfl; rfl)
        exact ret_eq (by rw [stoF_no]; exact fun p => rise_no hkl c (hno1 p).2)
     · have hcmp : ¬ s.runs[i][((m : Int) + 1).toNat]'(by omega) ≤ s.runs[i][(((m : Int) + 1) - 1).toNat]'(by omega) := by simp only [e, e2]; exact c
       all_goals haveI fA_ : FlagA := ⟨⟩
       all_goals haveI fH_ : FlagH := ⟨⟩
       repeat' (first
        | exact True.intro
        | refine stp ?_
        | refine two ?_ ?_
        | refine allc fun c_ => ?_
        | (refine imp fun hc => ?_) <;> try exact cx1 hc
        | refine all fun v_ => ?_)
       all_goals clear fA_ fH_
       refine ⟨m + 1, ⟨hkl, fun j h h2 => ?_⟩, by omega, VS.of_le ?_⟩
       · by_cases ej : j = m
         · subst ej; omega
         · exact hup j h (by omega)
       · exact leD
   have hrise : s.runs[i].Pairwise (· < ·) := rise_of fun j h => hup j h (by omega)
   all_goals haveI fA_ : FlagA := ⟨⟩
   all_goals haveI fH_ : FlagH := ⟨⟩
   repeat' (first
    | exact True.intro
    | refine stp ?_
    | refine two ?_ ?_
    | refine allc fun c_ => ?_
    | (refine imp fun hc => ?_) <;> try exact cx1 hc
    | refine all fun v_ => ?_)
   all_goals clear fA_ fH_
   refine ⟨i + 1, hnx (fun e => hz (by rw [e]; rfl)) hrise hb, by omega, VS.of_le ?_⟩
   rw [e1]
   exact leD
 obtain rfl : i = s.runs.length := by omega
 have hruns := hI.runs
 rw [List.take_length] at hfew hruns
 have hrl := runs_few s.runs fun r hr => (hruns r hr).1
 have hK := keysOf G s (by omega) (by omega) (by omega)
 have hkl := keysL_len s
 have hU := numbersUpD G (keysL s) (by omega)
 have hul : (sortI (keysL s)).length = s.loose.length + s.runs.flatten.length := by rw [sortI_len]; exact hkl
 have hkey : (∀ k ∈ sortI (keysL s), keyP k) ↔ ∀ k ∈ keysL s, keyP k := ⟨fun h k hk => h k ((sortI_perm _).mem_iff.2 hk), fun h k hk => h k ((sortI_perm _).mem_iff.1 hk)⟩
 have hnd : (keysL s).Nodup ↔ (sortI (keysL s)).Nodup := (sortI_perm _).nodup_iff.symm
 have hup := sortI_up (keysL s)
 generalize sortI (keysL s) = L at hU hul hkey hnd hup
 all_goals haveI fA_ : FlagA := ⟨⟩
 all_goals haveI fH_ : FlagH := ⟨⟩
 repeat' (first
  | refine ca cal_keysOf (hK) ?_
  | refine ca cal_numbersUp (hU) ?_
  | exact True.intro
  | refine stp ?_
  | refine two ?_ ?_
  | refine allc fun c_ => ?_
  | (refine imp fun hc => ?_) <;> try exact cx1 hc
  | refine all fun v_ => ?_)
 all_goals clear fA_ fH_
 refine J_loopV (X := Nat) (fun k => [(8, .d (intsD L)), (9, .int k)]) (fun _ => []) (fun k => k ≤ L.length ∧ (∀ (j : Nat) (h : j < L.length), j < k → keyP L[j]) ∧ ∀ (j : Nat) (h : j + 1 < L.length), j + 1 < k → L[j] ≠ L[j + 1]) (fun k => L.length - k) 0 ⟨Nat.zero_le _, fun j h h2 => absurd h2 (Nat.not_lt_zero _), fun j h h2 => absurd h2 (Nat.not_lt_zero _)⟩ (VS.trans (VS.drop (List.nil_sublist _)) (VS.of_le ?_)) ?_
 · exact leD
 rintro k ⟨hkl0, hke, hun⟩
 by_cases hkl : k < L.length
 · by_cases hin : 0 ≤ L[k] ∧ L[k] ≤ 2147483647
   · cases k with
     | zero =>
       all_goals haveI fA_ : FlagA := ⟨⟩
       all_goals haveI fH_ : FlagH := ⟨⟩
       repeat' (first
        | refine ca cal_In (In _ _ _ _) ?_
        | refine caq cal_In (In _ _ _ _) ?_
        | exact True.intro
        | refine stp ?_
        | refine two ?_ ?_
        | refine allc fun c_ => ?_
        | (refine imp fun hc => ?_) <;> try exact cx1 hc
        | refine all fun v_ => ?_)
       all_goals clear fA_ fH_
       refine ⟨1, ⟨hkl, fun j h h2 => by obtain rfl : j = 0 := by omega
                                         exact hin, fun j h h2 => by omega⟩, by omega, VS.of_le ?_⟩
       exact leD
     | succ m =>
       have e : (((m + 1 : Nat) : Int) - 1).toNat = m := by omega
       by_cases c : L[m] = L[m + 1]
       · have hcmp : L[m + 1] = L[(((m + 1 : Nat) : Int) - 1).toNat]'(by omega) := by simp only [e]; exact c.symm
         all_goals haveI fA_ : FlagA := ⟨⟩
         all_goals haveI fH_ : FlagH := ⟨⟩
         repeat' (first
          | refine ca cal_In (In _ _ _ _) ?_
          | refine caq cal_In (In _ _ _ _) ?_
          | exact True.intro
          | refine stp ?_
          | refine two ?_ ?_
          | refine allc fun c_ => ?_
          | (refine imp fun hc => ?_) <;> try exact cx1 hc
          | refine all fun v_ => ?_)
         all_goals clear fA_ fH_
         all_goals
          refine retv (VS.drop (List.nil_sublist _)) ?_
          ((with_reducible apply rq1); rfl; rfl)
          exact ret_eq (by rw [stoF_no]; exact fun p => not_nodup hkl c (hnd.1 p.nodup))
       · have hcmp : ¬ L[m + 1] = L[(((m + 1 : Nat) : Int) - 1).toNat]'(by omega) := by simp only [e]; exact fun h => c h.symm
         all_goals haveI fA_ : FlagA := ⟨⟩
         all_goals haveI fH_ : FlagH := ⟨⟩
         repeat' (first
          | refine ca cal_In (In _ _ _ _) ?_
          | refine caq cal_In (In _ _ _ _) ?_
          | exact True.intro
          | refine stp ?_
          | refine two ?_ ?_
          | refine allc fun c_ => ?_
          | (refine imp fun hc => ?_) <;> try exact cx1 hc
          | refine all fun v_ => ?_)
         all_goals clear fA_ fH_
         refine ⟨m + 1 + 1, ⟨hkl, fun j h h2 => ?_, fun j h h2 => ?_⟩, by omega, VS.of_le ?_⟩
         · by_cases ej : j = m + 1
           · subst ej; exact hin
           · exact hke j h (by omega)
         · by_cases ej : j = m
           · subst ej; exact c
           · exact hun j h (by omega)
         · exact leD
   · all_goals haveI fA_ : FlagA := ⟨⟩
     all_goals haveI fH_ : FlagH := ⟨⟩
     repeat' (first
      | refine ca cal_In (In _ _ _ _) ?_
      | refine caq cal_In (In _ _ _ _) ?_
      | exact True.intro
      | refine stp ?_
      | refine two ?_ ?_
      | refine allc fun c_ => ?_
      | (refine imp fun hc => ?_) <;> try exact cx1 hc
      | refine all fun v_ => ?_)
     all_goals clear fA_ fH_
     all_goals
      refine retv (VS.drop (List.nil_sublist _)) ?_
      ((with_reducible apply rq1); rfl; rfl)
      exact ret_eq (by rw [stoF_no]; exact fun p => hin (hkey.2 p.range _ (List.getElem_mem hkl)))
 have hP : StoP s := StoP.of hI h7 (hkey.1 fun x hx => by obtain ⟨j, hj, rfl⟩ := List.getElem_of_mem hx; exact hke j hj (by omega)) (hnd.2 (lt_nodup (up_nodup hup fun j h => hun j h (by omega))))
 all_goals haveI fA_ : FlagA := ⟨⟩
 all_goals haveI fH_ : FlagH := ⟨⟩
 repeat' (first
  | refine ca cal_In (In _ _ _ _) ?_
  | refine caq cal_In (In _ _ _ _) ?_
  | exact True.intro
  | refine stp ?_
  | refine two ?_ ?_
  | refine allc fun c_ => ?_
  | (refine imp fun hc => ?_) <;> try exact cx1 hc
  | refine all fun v_ => ?_)
 all_goals clear fA_ fH_
 refine retv (VS.drop (List.nil_sublist _)) ?_
 ((with_reducible apply rq1); rfl; rfl)
 exact ret_eq (by rw [stoF_ok hP])
end Go.Proofs.Ytnlfhnbcdfdhgaa
