/- Contracts: slices.IndexFunc, ContainsFunc (of keys); store.Check. -/
import Derived.Test.YtnlfhnbcdfdhgaaO2
import Derived.Test.YtnlfhnbcdfdhgaaE12
namespace Go.Sp
open Go Go.Av
set_option linter.unusedVariables false
set_option linter.unusedSimpArgs false
def nkAt : List Int → Nat → Int
 | [], _ => -1
 | n :: l, i => if keyP n then nkAt l (i + 1) else i
theorem nkAt_at (l : List Int) (i : Nat) (h : i < l.length) : nkAt (l.drop i) i = if keyP l[i] then nkAt (l.drop (i + 1)) (i + 1) else (i : Int) := by
 rw [List.drop_eq_getElem_cons h, nkAt]
theorem nkAt_end (l : List Int) (i : Nat) (h : l.length ≤ i) : nkAt (l.drop i) i = -1 := by
 rw [List.drop_of_length_le h, nkAt]
theorem nkAt_in : ∀ (l : List Int) (i : Nat), 0 ≤ nkAt l i ↔ ¬ ∀ k ∈ l, keyP k
 | [], i => by simp [nkAt]
 | n :: l, i => by
   rw [nkAt]
   by_cases h : keyP n
   · rw [if_pos h, nkAt_in l (i + 1)]
     exact ⟨fun k a => k fun m hm => a m (List.mem_cons_of_mem _ hm), fun k a => k fun m hm => by
      rcases List.mem_cons.1 hm with rfl | hm
      · exact h
      · exact a m hm⟩
   · rw [if_neg h]
     exact ⟨fun _ a => h (a n List.mem_cons_self), fun _ => by omega⟩
theorem runs_few : ∀ ls : List (List Int), (∀ r ∈ ls, r ≠ []) → ls.length ≤ ls.flatten.length
 | [], _ => by simp
 | r :: ls, h => by
   have := runs_few ls fun x hx => h x (List.mem_cons_of_mem _ hx)
   have := List.length_pos_iff.2 (h r List.mem_cons_self)
   simp only [List.length_cons, List.flatten_cons, List.length_append]; omega
end Go.Sp
namespace Go.Proofs.Ytnlfhnbcdfdhgaa
open Go Go.Av Go.Sp
set_option linter.unusedVariables false
set_option linter.unusedSimpArgs false
set_option maxRecDepth 100000
set_option maxHeartbeats 4000000
theorem cal_StCheck : Cal Try.prog 20 := Cal.of Try.func20 (by kernel_rfl) (by kernel_rfl)
theorem nkG (G : List (Nat × List D)) (n : Int) : AC Try.prog G 30 [.int n] [] fun r h => ∃ _ : Unit, r = .ret (.bool (!decide (keyP n))) ∧ h = [] := by
 refine AC_ofV (ts := [2]) Try.f30.ntmps Try.func30 rfl rfl rfl (by simp [Try.ntmps30]) fun W I => ?_
 all_goals haveI fA_ : FlagA := ⟨⟩
 all_goals haveI fH_ : FlagH := ⟨⟩
 repeat' (first
  | refine ca cal_key (key _ _) ?_
  | exact True.intro
  | refine stp ?_
  | refine two ?_ ?_
  | refine allc fun c_ => ?_
  | (refine imp fun hc => ?_) <;> try exact cx1 hc
  | refine all fun v_ => ?_)
 all_goals clear fA_ fH_
 refine retv0 ?_
 ((with_reducible apply rq1); rfl; rfl)
 exact ⟨(), rfl, rfl⟩
theorem IndexFuncI (G : List (Nat × List D)) (l : List Int) : ACr Try.prog G 44 [.d (intsD l), .val (.func (.func 30) #[] #[])] (.int (nkAt l 0)) := by
 refine AC_ofV (ts := [4]) Try.f44.ntmps Try.func44 rfl rfl rfl (by simp [Try.ntmps44]) fun W I => ?_
 refine jfact (t := 0) rfl fun hl => ?_
 all_goals haveI fA_ : FlagA := ⟨⟩
 repeat' (first
  | ((with_reducible apply callGV); (focus rfl); (focus rfl); (focus exact cal_notKey); (focus exact nkG _ _); (focus ((repeat (first | with_reducible exact Take.nil | ((with_reducible apply Take.cons); (focus ((repeat (first | with_reducible exact Sel.here | with_reducible apply Sel.there)); done))))); done)); (focus rfl); (focus (intro v_; (repeat (first | exact App.nil | apply App.cons)); done)))
  | exact True.intro
  | refine stp ?_
  | refine two ?_ ?_
  | (refine imp fun hc => ?_) <;> try exact cx hc
  | refine all fun v_ => ?_)
 all_goals clear fA_
 refine J_loopV (X := Nat) (fun i => [(0, .d (intsD l)), (1, .val (.func (.func 30) #[] #[])), (7, .int l.length), (8, .int i)]) (fun _ => []) (fun i => i ≤ l.length ∧ nkAt l 0 = nkAt (l.drop i) i) (fun i => l.length - i) 0 ⟨Nat.zero_le _, rfl⟩ (VS.of_le ?_) ?_
 · exact leD
 rintro i ⟨h1, h2⟩
 by_cases hi : i < l.length
 · rw [nkAt_at l i hi] at h2
   have F := nkG G l[i]
   by_cases hv : keyP l[i]
   · rw [if_pos hv] at h2
     rw [decide_eq_true hv] at F
     all_goals haveI fA_ : FlagA := ⟨⟩
     repeat' (first
      | ((with_reducible apply callGV); (focus rfl); (focus rfl); (focus exact cal_notKey); (focus exact F); (focus ((repeat (first | with_reducible exact Take.nil | ((with_reducible apply Take.cons); (focus ((repeat (first | with_reducible exact Sel.here | with_reducible apply Sel.there)); done))))); done)); (focus rfl); (focus (intro v_; (repeat (first | exact App.nil | apply App.cons)); done)))
      | exact True.intro
      | refine stp ?_
      | refine two ?_ ?_
      | (refine imp fun hc => ?_) <;> try exact cx hc
      | refine all fun v_ => ?_)
     all_goals clear fA_
     refine ⟨i + 1, ⟨hi, h2⟩, by omega, VS.of_le ?_⟩
     exact leD
   · rw [if_neg hv] at h2
     rw [decide_eq_false hv] at F
     all_goals haveI fA_ : FlagA := ⟨⟩
     repeat' (first
      | ((with_reducible apply callGV); (focus rfl); (focus rfl); (focus exact cal_notKey); (focus exact F); (focus ((repeat (first | with_reducible exact Take.nil | ((with_reducible apply Take.cons); (focus ((repeat (first | with_reducible exact Sel.here | with_reducible apply Sel.there)); done))))); done)); (focus rfl); (focus (intro v_; (repeat (first | exact App.nil | apply App.cons)); done)))
      | exact True.intro
      | refine stp ?_
      | refine two ?_ ?_
      | (refine imp fun hc => ?_) <;> try exact cx hc
      | refine all fun v_ => ?_)
     all_goals clear fA_
     refine retv0 ?_
     ((with_reducible apply rq1); rfl; rfl)
     exact ret_eq (by rw [h2])
 rw [nkAt_end l i (by omega)] at h2
 all_goals haveI fA_ : FlagA := ⟨⟩
 repeat' (first
  | exact True.intro
  | refine stp ?_
  | refine two ?_ ?_
  | (refine imp fun hc => ?_) <;> try exact cx hc
  | refine all fun v_ => ?_)
 all_goals clear fA_
 refine retv0 ?_
 ((with_reducible apply rq1); rfl; rfl)
 exact ret_eq (by rw [h2])
theorem ContainsFuncI (G : List (Nat × List D)) (l : List Int) : ACr Try.prog G 29 [.d (intsD l), .val (.func (.func 30) #[] #[])] (.bool (decide (¬ ∀ k ∈ l, keyP k))) := by
 refine AC_ofV (ts := [4]) Try.f29.ntmps Try.func29 rfl rfl rfl (by simp [Try.ntmps29]) fun W I => ?_
 all_goals haveI fA_ : FlagA := ⟨⟩
 repeat' (first
  | refine ca cal_IndexFuncI (IndexFuncI _ _) ?_
  | exact True.intro
  | refine stp ?_
  | refine two ?_ ?_
  | (refine imp fun hc => ?_) <;> try exact cx hc
  | refine all fun v_ => ?_)
 all_goals clear fA_
 refine retv0 ?_
 ((with_reducible apply rq1); rfl; rfl)
 exact ret_eq (congrArg AV.bool (decide_eq_decide.2 (nkAt_in l 0)))
theorem SortS (G : List (Nat × List D)) (q : Sl) (xs : List Int) (hb : xs.length < 4611686018427387904) : AC Try.prog G 12 [.val q.v] [rowE q.v 3 1 intC xs] fun e h => ∃ _ : Unit, e = .ret (.tup []) ∧ h = [rowE q.v 3 1 intC (sortI xs)] :=
 (SortI G q xs hb).mono fun _ _ h => ⟨(), h.1, h.2⟩
/-! ### store.Check -/
theorem StCheck (G : List (Nat × List D)) (s : Sto) : ACr Try.prog G 20 [stA s] (.int (stoF s)) := by
 refine AC.factI (f := listC) (xs := s.runs) (.agg (.there .here)) fun hlr => ?_
 refine AC.factN (g := listC) (f := intC) (xss := s.runs) 1 8 (fun _ => rfl) (.agg (.there .here)) fun hN => ?_
 refine AC_ofV (ts := [2]) Try.f20.ntmps Try.func20 rfl rfl rfl (by simp [Try.ntmps20]) fun W I => ?_
 by_cases h7 : ¬ s.loose.length ≤ 7
 · all_goals haveI fA_ : FlagA := ⟨⟩
   all_goals haveI fH_ : FlagH := ⟨⟩
   repeat' (first
    | refine ca cal_IndexFuncI (IndexFuncI _ _) ?_
    | exact True.intro
    | refine stp ?_
    | refine two ?_ ?_
    | refine allc fun c_ => ?_
    | (refine imp fun hc => ?_) <;> try exact cx1 hc
    | refine all fun v_ => ?_)
   all_goals clear fA_ fH_
   refine retv (VS.drop (List.nil_sublist _)) ?_
   ((with_reducible apply rq1); rfl; rfl)
   exact ret_eq (by rw [stoF_no]; exact fun p => h7 p.loose)
 replace h7 := Decidable.not_not.1 h7
 have hC := CloneS G s.loose
 all_goals haveI fA_ : FlagA := ⟨⟩
 all_goals haveI fH_ : FlagH := ⟨⟩
 repeat' (first
  | refine cae cal_CloneS (hC) ?_
  | exact True.intro
  | refine stp ?_
  | refine two ?_ ?_
  | refine allc fun c_ => ?_
  | (refine imp fun hc => ?_) <;> try exact cx1 hc
  | refine all fun v_ => ?_)
 all_goals clear fA_ fH_
 obtain ⟨q, rfl⟩ : ∃ x, x = v_ := ⟨v_, rfl⟩
 refine J_loopV (X := Nat × Sl) (fun y => [(3, .val y.2.v), (18, .d (listsD s.runs)), (19, .int s.runs.length), (20, .int y.1)]) (fun y => [rowE y.2.v 3 1 intC (s.loose ++ (s.runs.take y.1).flatten)]) (fun y => RunsI s y.1) (fun y => s.runs.length - y.1) (0, q) (RunsI.start h7) (VS.take (by simp only [List.take_zero, List.flatten_nil, List.append_nil]; exact takedD) ?_) ?_
 · exact leD
 clear q
 rintro ⟨i, q⟩ hI
 dsimp only at hI ⊢
 have hile := hI.le
 have hfew := hI.few
 have hal : (s.loose ++ (s.runs.take i).flatten).length = s.loose.length + (s.runs.take i).flatten.length := List.length_append
 by_cases hil : i < s.runs.length
 · have hlr2 := hN s.runs[i] (List.getElem_mem hil)
   have hno1 := fun p : StoP s => p.no_run hil
   have hno2 := fun p : StoP s => p.no_few hil
   have hnx := hI.next hil
   by_cases hz : s.runs[i].length = 0
   · all_goals haveI fA_ : FlagA := ⟨⟩
     all_goals haveI fH_ : FlagH := ⟨⟩
     repeat' (first
      | refine cae cal_CloneS (hC) ?_
      | exact True.intro
      | refine stp ?_
      | refine two ?_ ?_
      | refine allc fun c_ => ?_
      | (refine imp fun hc => ?_) <;> try exact cx1 hc
      | refine all fun v_ => ?_)
     all_goals clear fA_ fH_
     all_goals
      refine retv (VS.drop (List.nil_sublist _)) ?_
      ((with_reducible apply rq1); rfl; rfl)
      exact ret_eq (by rw [stoF_no]; exact fun p => (hno1 p).1 (List.length_eq_zero_iff.1 hz))
   by_cases hb : ¬ s.loose.length + (s.runs.take i).flatten.length + s.runs[i].length ≤ 20000
   · all_goals haveI fA_ : FlagA := ⟨⟩
     all_goals haveI fH_ : FlagH := ⟨⟩
     repeat' (first
      | refine cae cal_CloneS (hC) ?_
      | exact True.intro
      | refine stp ?_
      | refine two ?_ ?_
      | refine allc fun c_ => ?_
      | (refine imp fun hc => ?_) <;> try exact cx1 hc
      | refine all fun v_ => ?_)
     all_goals clear fA_ fH_
     all_goals
      refine retv (VS.drop (List.nil_sublist _)) ?_
      ((with_reducible apply rq1); rfl; rfl)
      exact ret_eq (by rw [stoF_no]; exact fun p => hb (hno2 p))
   replace hb := Decidable.not_not.1 hb
   all_goals haveI fA_ : FlagA := ⟨⟩
   all_goals haveI fH_ : FlagH := ⟨⟩
   repeat' (first
    | refine cae cal_CloneS (hC) ?_
    | exact True.intro
    | refine stp ?_
    | refine two ?_ ?_
    | refine allc fun c_ => ?_
    | (refine imp fun hc => ?_) <;> try exact cx1 hc
    | refine all fun v_ => ?_)
   all_goals clear fA_ fH_
   refine J_loopV (X := Nat) (fun k => [(3, .val q.v), (5, .d (intsD s.runs[i])), (18, .d (listsD s.runs)), (19, .int s.runs.length), (20, .int i), (35, .d (intsD s.runs[i])), (36, .int s.runs[i].length), (37, .int k)]) (fun _ => [rowE q.v 3 1 intC (s.loose ++ (s.runs.take i).flatten)]) (fun k => k ≤ s.runs[i].length ∧ ∀ (j : Nat) (h : j + 1 < s.runs[i].length), j + 1 < k → s.runs[i][j] < s.runs[i][j + 1]) (fun k => s.runs[i].length - k) 0 ⟨Nat.zero_le _, fun j h h2 => absurd h2 (Nat.not_lt_zero _)⟩ (VS.take (by exact takedD) ?_) ?_
   · exact leD
   rintro k ⟨hk, hup⟩
   by_cases hkl : k < s.runs[i].length
   · cases k with
     | zero =>
       all_goals haveI fA_ : FlagA := ⟨⟩
       all_goals haveI fH_ : FlagH := ⟨⟩
       repeat' (first
        | refine cae cal_CloneS (hC) ?_
        | exact True.intro
        | refine stp ?_
        | refine two ?_ ?_
        | refine allc fun c_ => ?_
        | (refine imp fun hc => ?_) <;> try exact cx1 hc
        | refine all fun v_ => ?_)
       all_goals clear fA_ fH_
       refine ⟨1, ⟨hkl, fun j h h2 => by omega⟩, by omega, VS.take (by exact takedD) ?_⟩
       exact leD
     | succ m =>
       have e : (((m + 1 : Nat) : Int) - 1).toNat = m := by omega
       by_cases c : s.runs[i][m + 1] ≤ s.runs[i][m]
       · have hcmp : s.runs[i][m + 1] ≤ s.runs[i][(((m + 1 : Nat) : Int) - 1).toNat]'(by omega) := by simp only [e]; exact c
         all_goals haveI fA_ : FlagA := ⟨⟩
         all_goals haveI fH_ : FlagH := ⟨⟩
         repeat' (first
          | refine cae cal_CloneS (hC) ?_
          | exact True.intro
          | refine stp ?_
          | refine two ?_ ?_
          | refine allc fun c_ => ?_
          | (refine imp fun hc => ?_) <;> try exact cx1 hc
          | refine all fun v_ => ?_)
         all_goals clear fA_ fH_
         all_goals
          refine retv (VS.drop (List.nil_sublist _)) ?_
          ((with_reducible apply rq1); rfl; rfl)
          exact ret_eq (by rw [stoF_no]; exact fun p => rise_no hkl c (hno1 p).2)
       · have hcmp : ¬ s.runs[i][m + 1] ≤ s.runs[i][(((m + 1 : Nat) : Int) - 1).toNat]'(by omega) := by simp only [e]; exact c
         all_goals haveI fA_ : FlagA := ⟨⟩
         all_goals haveI fH_ : FlagH := ⟨⟩
         repeat' (first
          | refine cae cal_CloneS (hC) ?_
          | exact True.intro
          | refine stp ?_
          | refine two ?_ ?_
          | refine allc fun c_ => ?_
          | (refine imp fun hc => ?_) <;> try exact cx1 hc
          | refine all fun v_ => ?_)
         all_goals clear fA_ fH_
         refine ⟨m + 1 + 1, ⟨hkl, fun j h h2 => ?_⟩, by omega, VS.take (by exact takedD) ?_⟩
         · by_cases ej : j = m
           · subst ej; omega
           · exact hup j h (by omega)
         · exact leD
   have hrise : s.runs[i].Pairwise (· < ·) := rise_of fun j h => hup j h (by omega)
   have et : s.loose ++ (s.runs.take i).flatten ++ s.runs[i] = s.loose ++ (s.runs.take (i + 1)).flatten := by rw [flat_succ _ _ hil, List.append_assoc]
   all_goals haveI fA_ : FlagA := ⟨⟩
   all_goals haveI fH_ : FlagH := ⟨⟩
   repeat' (first
    | refine cae cal_CloneS (hC) ?_
    | exact True.intro
    | refine stp ?_
    | refine two ?_ ?_
    | refine allc fun c_ => ?_
    | (refine imp fun hc => ?_) <;> try exact cx1 hc
    | refine all fun v_ => ?_)
   all_goals clear fA_ fH_
   refine ⟨(i + 1, v_), hnx (fun e => hz (by rw [e]; rfl)) hrise hb, by dsimp only; omega, VS.take (by dsimp only; rw [← et]; exact takedD) ?_⟩
   exact leD
 obtain rfl : i = s.runs.length := by omega
 rw [List.take_length] at hfew hal ⊢
 have hperm := keys_perm s
 have hkey : (∀ k ∈ s.loose ++ s.runs.flatten, keyP k) ↔ ∀ k ∈ keysL s, keyP k := ⟨fun h k hk => h k (hperm.mem_iff.2 hk), fun h k hk => h k (hperm.mem_iff.1 hk)⟩
 have hF := ContainsFuncI G (s.loose ++ s.runs.flatten)
 have hS := SortS G q (s.loose ++ s.runs.flatten) (by omega)
 have hsl : (sortI (s.loose ++ s.runs.flatten)).length = s.loose.length + s.runs.flatten.length := by rw [sortI_len]; exact hal
 have hnd : (keysL s).Nodup ↔ (sortI (s.loose ++ s.runs.flatten)).Nodup := ((sortI_perm _).trans hperm).nodup_iff.symm
 have hup := sortI_up (s.loose ++ s.runs.flatten)
 by_cases hk : ∀ k ∈ s.loose ++ s.runs.flatten, keyP k
 · rw [decide_eq_false (fun h => h hk)] at hF
   generalize sortI (s.loose ++ s.runs.flatten) = L at hS hsl hnd hup
   all_goals haveI fA_ : FlagA := ⟨⟩
   all_goals haveI fH_ : FlagH := ⟨⟩
   repeat' (first
    | refine jborF rfl cal_ContainsFuncI hF ⟨bor_row (E := 3) 8 (by exact memD) rfl (fun _ => rfl) (by omega), bor_same _ _, trivial⟩ rfl ?_
    | refine cag cal_SortI (hS) ?_
    | exact True.intro
    | refine stp ?_
    | refine two ?_ ?_
    | refine allc fun c_ => ?_
    | (refine imp fun hc => ?_) <;> try exact cx1 hc
    | refine all fun v_ => ?_)
   all_goals clear fA_ fH_
   refine J_loopV (X := Nat) (fun k => [(3, .val q.v), (62, .val q.v), (63, .int L.length), (64, .int k)]) (fun _ => [rowE q.v 3 1 intC L]) (fun k => k ≤ L.length ∧ ∀ (j : Nat) (h : j + 1 < L.length), j + 1 < k → L[j] ≠ L[j + 1]) (fun k => L.length - k) 0 ⟨Nat.zero_le _, fun j h h2 => absurd h2 (Nat.not_lt_zero _)⟩ (VS.take (by exact takedD) ?_) ?_
   · exact leD
   rintro k ⟨hkl0, hun⟩
   by_cases hkl : k < L.length
   · cases k with
     | zero =>
       all_goals haveI fA_ : FlagA := ⟨⟩
       all_goals haveI fH_ : FlagH := ⟨⟩
       repeat' (first
        | refine jborF rfl cal_ContainsFuncI hF ⟨bor_row (E := 3) 8 (by exact memD) rfl (fun _ => rfl) (by omega), bor_same _ _, trivial⟩ rfl ?_
        | refine cag cal_SortI (hS) ?_
        | exact True.intro
        | refine stp ?_
        | refine two ?_ ?_
        | refine allc fun c_ => ?_
        | (refine imp fun hc => ?_) <;> try exact cx1 hc
        | refine all fun v_ => ?_)
       all_goals clear fA_ fH_
       refine ⟨1, ⟨hkl, fun j h h2 => by omega⟩, by omega, VS.take (by exact takedD) ?_⟩
       exact leD
     | succ m =>
       have e : (((m + 1 : Nat) : Int) - 1).toNat = m := by omega
       by_cases c : L[m] = L[m + 1]
       · have hcmp : L[(((m + 1 : Nat) : Int) - 1).toNat]'(by omega) = L[m + 1] := by simp only [e]; exact c
         all_goals haveI fA_ : FlagA := ⟨⟩
         all_goals haveI fH_ : FlagH := ⟨⟩
         repeat' (first
          | refine jborF rfl cal_ContainsFuncI hF ⟨bor_row (E := 3) 8 (by exact memD) rfl (fun _ => rfl) (by omega), bor_same _ _, trivial⟩ rfl ?_
          | refine cag cal_SortI (hS) ?_
          | exact True.intro
          | refine stp ?_
          | refine two ?_ ?_
          | refine allc fun c_ => ?_
          | (refine imp fun hc => ?_) <;> try exact cx1 hc
          | refine all fun v_ => ?_)
         all_goals clear fA_ fH_
         all_goals
          refine retv (VS.drop (List.nil_sublist _)) ?_
          ((with_reducible apply rq1); rfl; rfl)
          exact ret_eq (by rw [stoF_no]; exact fun p => not_nodup hkl c (hnd.1 p.nodup))
       · have hcmp : ¬ L[(((m + 1 : Nat) : Int) - 1).toNat]'(by omega) = L[m + 1] := by simp only [e]; exact c
         all_goals haveI fA_ : FlagA := ⟨⟩
         all_goals haveI fH_ : FlagH := ⟨⟩
         repeat' (first
          | refine jborF rfl cal_ContainsFuncI hF ⟨bor_row (E := 3) 8 (by exact memD) rfl (fun _ => rfl) (by omega), bor_same _ _, trivial⟩ rfl ?_
          | refine cag cal_SortI (hS) ?_
          | exact True.intro
          | refine stp ?_
          | refine two ?_ ?_
          | refine allc fun c_ => ?_
          | (refine imp fun hc => ?_) <;> try exact cx1 hc
          | refine all fun v_ => ?_)
         all_goals clear fA_ fH_
         refine ⟨m + 1 + 1, ⟨hkl, fun j h h2 => ?_⟩, by omega, VS.take (by exact takedD) ?_⟩
         · by_cases ej : j = m
           · subst ej; exact c
           · exact hun j h (by omega)
         · exact leD
   have hP : StoP s := StoP.of hI h7 (hkey.1 hk) (hnd.2 (lt_nodup (up_nodup hup fun j h => hun j h (by omega))))
   all_goals haveI fA_ : FlagA := ⟨⟩
   all_goals haveI fH_ : FlagH := ⟨⟩
   repeat' (first
    | refine jborF rfl cal_ContainsFuncI hF ⟨bor_row (E := 3) 8 (by exact memD) rfl (fun _ => rfl) (by omega), bor_same _ _, trivial⟩ rfl ?_
    | refine cag cal_SortI (hS) ?_
    | exact True.intro
    | refine stp ?_
    | refine two ?_ ?_
    | refine allc fun c_ => ?_
    | (refine imp fun hc => ?_) <;> try exact cx1 hc
    | refine all fun v_ => ?_)
   all_goals clear fA_ fH_
   refine retv (VS.drop (List.nil_sublist _)) ?_
   ((with_reducible apply rq1); rfl; rfl)
   exact ret_eq (by rw [stoF_ok hP])
 · rw [decide_eq_true hk] at hF
   all_goals haveI fA_ : FlagA := ⟨⟩
   all_goals haveI fH_ : FlagH := ⟨⟩
   repeat' (first
    | refine jborF rfl cal_ContainsFuncI hF ⟨bor_row (E := 3) 8 (by exact memD) rfl (fun _ => rfl) (by omega), bor_same _ _, trivial⟩ rfl ?_
    | refine cag cal_SortI (hS) ?_
    | exact True.intro
    | refine stp ?_
    | refine two ?_ ?_
    | refine allc fun c_ => ?_
    | (refine imp fun hc => ?_) <;> try exact cx1 hc
    | refine all fun v_ => ?_)
   all_goals clear fA_ fH_
   refine retv (VS.drop (List.nil_sublist _)) ?_
   ((with_reducible apply rq1); rfl; rfl)
   exact ret_eq (by rw [stoF_no]; exact fun p => hk (hkey.2 p.range))
end Go.Proofs.Ytnlfhnbcdfdhgaa
