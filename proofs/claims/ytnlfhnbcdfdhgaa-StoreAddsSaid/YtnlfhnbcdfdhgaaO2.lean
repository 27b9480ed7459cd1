/- Contracts: store.merge, keys, key, the closure of Check; slices.IndexFunc, ContainsFunc (of keys). -/
import Derived.Test.YtnlfhnbcdfdhgaaO1
import Derived.Test.YtnlfhnbcdfdhgaaE13
import Derived.Test.YtnlfhnbcdfdhgaaE7
namespace Go.Sp
open Go Go.Av
set_option linter.unusedVariables false
set_option linter.unusedSimpArgs false
theorem sumL_runs (ls : List (List Int)) (i : Nat) (h : i < ls.length) : (ls.take (i + 1)).flatten.length = (ls.take i).flatten.length + ls[i].length := by
 rw [flat_succ _ _ h, List.length_append]
end Go.Sp
namespace Go.Proofs.Ytnlfhnbcdfdhgaa
open Go Go.Av Go.Sp
set_option linter.unusedVariables false
set_option linter.unusedSimpArgs false
set_option maxRecDepth 100000
set_option maxHeartbeats 4000000
theorem cal_key : Cal Try.prog 21 := Cal.of Try.func21 (by kernel_rfl) (by kernel_rfl)
theorem cal_notKey : Cal Try.prog 30 := Cal.of Try.func30 (by kernel_rfl) (by kernel_rfl)
theorem cal_IndexFuncI : Cal Try.prog 44 := Cal.of Try.func44 (by kernel_rfl) (by kernel_rfl)
theorem cal_ContainsFuncI : Cal Try.prog 29 := Cal.of Try.func29 (by kernel_rfl) (by kernel_rfl)
theorem merge (G : List (Nat × List D)) (a b : List Int) (ha : a.Pairwise (· ≤ ·)) (hb : b.Pairwise (· ≤ ·)) (hl : a.length + b.length ≤ 1000000) : AC Try.prog G 13 [.d (intsD a), .d (intsD b)] [] fun r h => ∃ q : Sl, r = .ret (.val q.v) ∧ h = [rowE q.v 3 1 intC (sortI (a ++ b))] := by
 refine AC_ofV (ts := [4]) Try.f13.ntmps Try.func13 rfl rfl rfl (by simp [Try.ntmps13]) fun W I => ?_
 all_goals haveI fA_ : FlagA := ⟨⟩
 repeat' (first
  | ((with_reducible apply (jmk0 intC)); (focus rfl); (focus rfl); (focus exact (Int.natCast_add _ _).symm); (focus rfl); (focus (with_reducible exact ElC.h)); (focus rfl); (focus omega); (focus omega); (focus rfl))
  | exact True.intro
  | refine stp ?_
  | refine two ?_ ?_
  | (refine imp fun hc => ?_) <;> try exact cx hc
  | refine all fun v_ => ?_)
 all_goals clear fA_
 obtain ⟨q, rfl⟩ : ∃ x, x = v_ := ⟨v_, rfl⟩
 refine J_loopV (X := List Int × List Int × List Int × Sl) (fun y => [(0, .d (intsD y.2.1)), (1, .d (intsD y.2.2.1)), (5, .val y.2.2.2.v)]) (fun y => [rowE y.2.2.2.v 3 1 intC y.1]) (fun y => MrgI a b y.1 y.2.1 y.2.2.1) (fun y => y.2.1.length + y.2.2.1.length) ([], a, b, q) (MrgI.start ha hb) (VS.take (by exact takedD) ?_) ?_
 · exact leD
 clear q
 rintro ⟨o, x, y, q⟩ hI
 dsimp only at hI ⊢
 have hil := hI.len
 cases x with
 | nil =>
   have lx : ([] : List Int).length = 0 := rfl
   have hd := hI.done (.inl rfl)
   all_goals haveI fA_ : FlagA := ⟨⟩
   repeat' (first
    | exact True.intro
    | refine stp ?_
    | refine two ?_ ?_
    | (refine imp fun hc => ?_) <;> try exact cx hc
    | refine all fun v_ => ?_)
   all_goals clear fA_
   refine retv (VS.take (hc := [rowE v_.v 3 1 intC (sortI (a ++ b))]) (by rw [← hd]; exact takedD) (Env.le_refl _)) ?_
   ((with_reducible apply rq1); rfl; rfl)
   exact ⟨v_, rfl, rfl⟩
 | cons u x =>
   have lx : (u :: x).length = x.length + 1 := rfl
   cases y with
   | nil =>
     have ly : ([] : List Int).length = 0 := rfl
     have hd := hI.done (.inr rfl)
     all_goals haveI fA_ : FlagA := ⟨⟩
     repeat' (first
      | exact True.intro
      | refine stp ?_
      | refine two ?_ ?_
      | (refine imp fun hc => ?_) <;> try exact cx hc
      | refine all fun v_ => ?_)
     all_goals clear fA_
     refine retv (VS.take (hc := [rowE v_.v 3 1 intC (sortI (a ++ b))]) (by rw [← hd]; exact takedD) (Env.le_refl _)) ?_
     ((with_reducible apply rq1); rfl; rfl)
     exact ⟨v_, rfl, rfl⟩
   | cons v y =>
     have ly : (v :: y).length = y.length + 1 := rfl
     by_cases huv : u ≤ v
     · have hn : ¬ (v :: y)[nat_lit 0]'(Nat.succ_pos _) < (u :: x)[nat_lit 0]'(Nat.succ_pos _) := fun (h : v < u) => by omega
       have eo : o ++ [(u :: x)[nat_lit 0]'(Nat.succ_pos _)] = o ++ [u] := rfl
       all_goals haveI fA_ : FlagA := ⟨⟩
       all_goals haveI fH_ : FlagH := ⟨⟩
       repeat' (first
        | exact True.intro
        | refine stp ?_
        | refine two ?_ ?_
        | refine allc fun c_ => ?_
        | (refine imp fun hc => ?_) <;> try exact cx1 hc
        | refine all fun v_ => ?_)
       all_goals clear fA_ fH_
       refine ⟨(o ++ [u], x, v :: y, v_), hI.step huv, by dsimp only; omega, VS.take (by dsimp only; rw [eo]; exact takedD) ?_⟩
       exact leD
     · have hn : (v :: y)[nat_lit 0]'(Nat.succ_pos _) < (u :: x)[nat_lit 0]'(Nat.succ_pos _) := show v < u by omega
       have eo : o ++ [(v :: y)[nat_lit 0]'(Nat.succ_pos _)] = o ++ [v] := rfl
       all_goals haveI fA_ : FlagA := ⟨⟩
       all_goals haveI fH_ : FlagH := ⟨⟩
       repeat' (first
        | exact True.intro
        | refine stp ?_
        | refine two ?_ ?_
        | refine allc fun c_ => ?_
        | (refine imp fun hc => ?_) <;> try exact cx1 hc
        | refine all fun v_ => ?_)
       all_goals clear fA_ fH_
       refine ⟨(o ++ [v], y, u :: x, v_), hI.swap.step (by omega), by dsimp only; omega, VS.take (by dsimp only; rw [eo]; exact takedD) ?_⟩
       exact leD
theorem keysS (G : List (Nat × List D)) (s : Sto) (hl : s.loose.length ≤ 1000000) (hr : s.runs.flatten.length ≤ 1000000) : ACr Try.prog G 11 [stA s] (.int ((keysL s).length : Nat)) := by
 rw [keysL_len]
 refine AC.factI (f := listC) (xs := s.runs) (.agg (.there .here)) fun hlr => ?_
 refine AC_ofV (ts := [2]) Try.f11.ntmps Try.func11 rfl rfl rfl (by simp [Try.ntmps11]) fun W I => ?_
 all_goals haveI fA_ : FlagA := ⟨⟩
 all_goals haveI fH_ : FlagH := ⟨⟩
 repeat' (first
  | exact True.intro
  | refine stp ?_
  | refine two ?_ ?_
  | refine allc fun c_ => ?_
  | (refine imp fun hc => ?_) <;> try exact cx1 hc
  | refine all fun v_ => ?_)
 all_goals clear fA_ fH_
 refine J_loopV (X := Nat) (fun i => [(3, .int ((s.loose.length + (s.runs.take i).flatten.length : Nat) : Int)), (10, .d (listsD s.runs)), (11, .int s.runs.length), (12, .int i)]) (fun _ => []) (fun i => i ≤ s.runs.length) (fun i => s.runs.length - i) 0 (Nat.zero_le _) (VS.trans (VS.drop (List.nil_sublist _)) (VS.of_le ?_)) ?_
 · simp only [List.take_zero, List.flatten_nil, List.length_nil, Nat.add_zero]
   exact leD
 intro i hi
 by_cases hil : i < s.runs.length
 · have h1 := sumL_runs s.runs i hil
   have h2 := flat_le s.runs (i + 1)
   have e1 : ((s.loose.length + (s.runs.take (i + 1)).flatten.length : Nat) : Int) = ((s.loose.length + (s.runs.take i).flatten.length : Nat) : Int) + s.runs[i].length := by rw [h1]; omega
   all_goals haveI fA_ : FlagA := ⟨⟩
   all_goals haveI fH_ : FlagH := ⟨⟩
   repeat' (first
    | exact True.intro
    | refine stp ?_
    | refine two ?_ ?_
    | refine allc fun c_ => ?_
    | (refine imp fun hc => ?_) <;> try exact cx1 hc
    | refine all fun v_ => ?_)
   all_goals clear fA_ fH_
   refine ⟨i + 1, by omega, by omega, VS.of_le ?_⟩
   rw [e1]
   exact leD
 obtain rfl : i = s.runs.length := by omega
 rw [List.take_length]
 all_goals haveI fA_ : FlagA := ⟨⟩
 all_goals haveI fH_ : FlagH := ⟨⟩
 repeat' (first
  | exact True.intro
  | refine stp ?_
  | refine two ?_ ?_
  | refine allc fun c_ => ?_
  | (refine imp fun hc => ?_) <;> try exact cx1 hc
  | refine all fun v_ => ?_)
 all_goals clear fA_ fH_
 refine retv0 ?_
 ((with_reducible apply rq1); rfl; rfl)
 exact ret_eq rfl
theorem key (G : List (Nat × List D)) (n : Int) : ACr Try.prog G 21 [.int n] (.bool (decide (keyP n))) := by
 refine AC_ofV (ts := [2]) Try.f21.ntmps Try.func21 rfl rfl rfl (by simp [Try.ntmps21]) fun W I => ?_
 unfold keyP
 by_cases h0 : 0 ≤ n
 · all_goals haveI fA_ : FlagA := ⟨⟩
   all_goals haveI fH_ : FlagH := ⟨⟩
   repeat' (first
    | exact True.intro
    | refine stp ?_
    | refine two ?_ ?_
    | refine allc fun c_ => ?_
    | (refine imp fun hc => ?_) <;> try exact cx1 hc
    | refine all fun v_ => ?_)
   all_goals clear fA_ fH_
   all_goals
    refine retv0 ?_
    ((with_reducible apply rq1); rfl; rfl)
    refine ret_eq (congrArg AV.bool ?_)
    (first | rfl | (refine decide_eq_decide.2 ?_; omega) | (refine (decide_eq_true ?_).symm; omega) | (refine (decide_eq_false ?_).symm; omega) | (refine decide_eq_true ?_; omega) | (refine decide_eq_false ?_; omega))
 · all_goals haveI fA_ : FlagA := ⟨⟩
   all_goals haveI fH_ : FlagH := ⟨⟩
   repeat' (first
    | exact True.intro
    | refine stp ?_
    | refine two ?_ ?_
    | refine allc fun c_ => ?_
    | (refine imp fun hc => ?_) <;> try exact cx1 hc
    | refine all fun v_ => ?_)
   all_goals clear fA_ fH_
   all_goals
    refine retv0 ?_
    ((with_reducible apply rq1); rfl; rfl)
    refine ret_eq (congrArg AV.bool ?_)
    (first | rfl | (refine decide_eq_decide.2 ?_; omega) | (refine (decide_eq_true ?_).symm; omega) | (refine (decide_eq_false ?_).symm; omega) | (refine decide_eq_true ?_; omega) | (refine decide_eq_false ?_; omega))
theorem notKey (G : List (Nat × List D)) (n : Int) : ACr Try.prog G 30 [.int n] (.bool (!decide (keyP n))) := by
 refine AC_ofV (ts := [2]) Try.f30.ntmps Try.func30 rfl rfl rfl (by simp [Try.ntmps30]) fun W I => ?_
 all_goals haveI fA_ : FlagA := ⟨⟩
 all_goals haveI fH_ : FlagH := ⟨⟩
 repeat' (first
  | refine ca cal_key (key _ _) ?_
  | exact True.intro
  | refine stp ?_
  | refine two ?_ ?_
  | refine allc fun c_ => ?_
  | (refine imp fun hc => ?_) <;> try exact cx1 hc
  | refine all fun v_ => ?_)
 all_goals clear fA_ fH_
 refine retv0 ?_
 ((with_reducible apply rq1); rfl; rfl)
 exact ret_eq rfl
end Go.Proofs.Ytnlfhnbcdfdhgaa
