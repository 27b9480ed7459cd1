/- A bundle of this claim's own texts: O2 E12. -/
import Derived.Test.YtcikppldaepodaaZ1
import Derived.Test.YtcikppldaepodaaZ2
namespace Go.Sp
open Go Go.Av
set_option linter.unusedVariables false
set_option linter.unusedSimpArgs false
theorem sumL_runs (ls : List (List Int)) (i : Nat) (h : i < ls.length) : (ls.take (i + 1)).flatten.length = (ls.take i).flatten.length + ls[i].length := by
  rw [flat_succ _ _ h, List.length_append]
end Go.Sp
namespace Go.Proofs.Ytcikppldaepodaa
open Go Go.Av Go.Sp
set_option linter.unusedVariables false
set_option linter.unusedSimpArgs false
set_option maxRecDepth 100000
set_option maxHeartbeats 4000000
theorem cal_key : Cal Try.prog 42 := Cal.of Try.func42 (by kernel_rfl) (by kernel_rfl)
theorem cal_notKey : Cal Try.prog 41 := Cal.of Try.func41 (by kernel_rfl) (by kernel_rfl)
theorem cal_IndexFuncI : Cal Try.prog 61 := Cal.of Try.func61 (by kernel_rfl) (by kernel_rfl)
theorem cal_ContainsFuncI : Cal Try.prog 40 := Cal.of Try.func40 (by kernel_rfl) (by kernel_rfl)
theorem merge (G : List (Nat × List D)) (a b : List Int) (ha : a.Pairwise (· ≤ ·)) (hb : b.Pairwise (· ≤ ·)) (hl : a.length + b.length ≤ 1000000) : AC Try.prog G 47 [.d (intsD a), .d (intsD b)] [] fun r h => ∃ q : Sl, r = .ret (.val q.v) ∧ h = [rowE q.v 3 1 intC (sortI (a ++ b))] := by
  refine AC_ofV (ts := [4]) Try.f47.ntmps Try.func47 rfl rfl rfl (by simp [Try.ntmps47]) fun W I => ?_
  all_goals haveI fA_ : FlagA := ⟨⟩
  repeat' (first
    | ((with_reducible apply (jmk0 intC)); (focus rfl); (focus rfl); (focus exact (Int.natCast_add _ _).symm); (focus rfl); (focus (with_reducible exact ElC.h)); (focus rfl); (focus omega); (focus omega); (focus rfl))
    | exact True.intro
    | refine stp ?_
    | refine two ?_ ?_
    | (refine imp fun hc => ?_) <;> try (first | contradiction | (exfalso; omega))
    | refine all fun v_ => ?_)
  all_goals clear fA_
  obtain ⟨q, rfl⟩ : ∃ x, x = v_ := ⟨v_, rfl⟩
  refine J_loopV (X := List Int × List Int × List Int × Sl) (fun y => [(0, .d (intsD y.2.1)), (1, .d (intsD y.2.2.1)), (5, .val y.2.2.2.v)]) (fun y => [rowE y.2.2.2.v 3 1 intC y.1]) (fun y => MrgI a b y.1 y.2.1 y.2.2.1) (fun y => y.2.1.length + y.2.2.1.length) ([], a, b, q) (MrgI.start ha hb) (VS.take (by ((repeat (first | exact Take.nil | ((with_reducible apply Take.cons); (focus ((repeat (first | exact Sel.here | with_reducible apply Sel.there)); done))))); done)) ?_) ?_
  · repeat (first
      | exact Env.le_nil _
      | refine Env.le_cons (AV.le_refl _) ?_
      | refine Env.le_cons (AV.le_int rfl (by first | rfl | omega | (dsimp only; omega))) ?_)
  clear q
  rintro ⟨o, x, y, q⟩ hI
  dsimp only at hI ⊢
  have hil := hI.len
  cases x with
  | nil =>
    have lx : ([] : List Int).length = 0 := rfl
    have hd := hI.done (.inl rfl)
    all_goals haveI fA_ : FlagA := ⟨⟩
    repeat' (first
      | exact True.intro
      | refine stp ?_
      | refine two ?_ ?_
      | (refine imp fun hc => ?_) <;> try (first | contradiction | (exfalso; omega))
      | refine all fun v_ => ?_)
    all_goals clear fA_
    refine retv (VS.take (hc := [rowE v_.v 3 1 intC (sortI (a ++ b))]) (by rw [← hd]; ((repeat (first | exact Take.nil | ((with_reducible apply Take.cons); (focus ((repeat (first | exact Sel.here | with_reducible apply Sel.there)); done))))); done)) (Env.le_refl _)) ?_
    ((with_reducible apply rq1); rfl; rfl)
    exact ⟨v_, rfl, rfl⟩
  | cons u x =>
    have lx : (u :: x).length = x.length + 1 := rfl
    cases y with
    | nil =>
      have ly : ([] : List Int).length = 0 := rfl
      have hd := hI.done (.inr rfl)
      all_goals haveI fA_ : FlagA := ⟨⟩
      repeat' (first
        | exact True.intro
        | refine stp ?_
        | refine two ?_ ?_
        | (refine imp fun hc => ?_) <;> try (first | contradiction | (exfalso; omega))
        | refine all fun v_ => ?_)
      all_goals clear fA_
      refine retv (VS.take (hc := [rowE v_.v 3 1 intC (sortI (a ++ b))]) (by rw [← hd]; ((repeat (first | exact Take.nil | ((with_reducible apply Take.cons); (focus ((repeat (first | exact Sel.here | with_reducible apply Sel.there)); done))))); done)) (Env.le_refl _)) ?_
      ((with_reducible apply rq1); rfl; rfl)
      exact ⟨v_, rfl, rfl⟩
    | cons v y =>
      have ly : (v :: y).length = y.length + 1 := rfl
      by_cases huv : u ≤ v
      · have hn : ¬ (v :: y)[nat_lit 0]'(Nat.succ_pos _) < (u :: x)[nat_lit 0]'(Nat.succ_pos _) := fun (h : v < u) => by omega
        have eo : o ++ [(u :: x)[nat_lit 0]'(Nat.succ_pos _)] = o ++ [u] := rfl
        all_goals haveI fA_ : FlagA := ⟨⟩
        all_goals haveI fH_ : FlagH := ⟨⟩
        repeat' (first
          | exact True.intro
          | refine stp ?_
          | refine two ?_ ?_
          | refine allc fun c_ => ?_
          | (refine imp fun hc => ?_) <;> try (first | contradiction | (exfalso; omega) | (exfalso; exact absurd (of_dT hc) (by assumption)) | (exfalso; exact of_dF hc (by assumption)))
          | refine all fun v_ => ?_)
        all_goals clear fA_ fH_
        refine ⟨(o ++ [u], x, v :: y, v_), hI.step huv, by dsimp only; omega, VS.take (by dsimp only; rw [eo]; ((repeat (first | exact Take.nil | ((with_reducible apply Take.cons); (focus ((repeat (first | exact Sel.here | with_reducible apply Sel.there)); done))))); done)) ?_⟩
        repeat (first
          | exact Env.le_nil _
          | refine Env.le_cons (AV.le_refl _) ?_
          | refine Env.le_cons (AV.le_int rfl (by first | rfl | omega | (dsimp only; omega))) ?_)
      · have hn : (v :: y)[nat_lit 0]'(Nat.succ_pos _) < (u :: x)[nat_lit 0]'(Nat.succ_pos _) := show v < u by omega
        have eo : o ++ [(v :: y)[nat_lit 0]'(Nat.succ_pos _)] = o ++ [v] := rfl
        all_goals haveI fA_ : FlagA := ⟨⟩
        all_goals haveI fH_ : FlagH := ⟨⟩
        repeat' (first
          | exact True.intro
          | refine stp ?_
          | refine two ?_ ?_
          | refine allc fun c_ => ?_
          | (refine imp fun hc => ?_) <;> try (first | contradiction | (exfalso; omega) | (exfalso; exact absurd (of_dT hc) (by assumption)) | (exfalso; exact of_dF hc (by assumption)))
          | refine all fun v_ => ?_)
        all_goals clear fA_ fH_
        refine ⟨(o ++ [v], y, u :: x, v_), hI.swap.step (by omega), by dsimp only; omega, VS.take (by dsimp only; rw [eo]; ((repeat (first | exact Take.nil | ((with_reducible apply Take.cons); (focus ((repeat (first | exact Sel.here | with_reducible apply Sel.there)); done))))); done)) ?_⟩
        repeat (first
          | exact Env.le_nil _
          | refine Env.le_cons (AV.le_refl _) ?_
          | refine Env.le_cons (AV.le_int rfl (by first | rfl | omega | (dsimp only; omega))) ?_)
theorem key (G : List (Nat × List D)) (n : Int) : ACr Try.prog G 42 [.int n] (.bool (decide (keyP n))) := by
  refine AC_ofV (ts := [2]) Try.f42.ntmps Try.func42 rfl rfl rfl (by simp [Try.ntmps42]) fun W I => ?_
  unfold keyP
  by_cases h0 : 0 ≤ n
  · all_goals haveI fA_ : FlagA := ⟨⟩
    all_goals haveI fH_ : FlagH := ⟨⟩
    repeat' (first
      | exact True.intro
      | refine stp ?_
      | refine two ?_ ?_
      | refine allc fun c_ => ?_
      | (refine imp fun hc => ?_) <;> try (first | contradiction | (exfalso; omega) | (exfalso; exact absurd (of_dT hc) (by assumption)) | (exfalso; exact of_dF hc (by assumption)))
      | refine all fun v_ => ?_)
    all_goals clear fA_ fH_
    all_goals
      refine retv0 ?_
      ((with_reducible apply rq1); rfl; rfl)
      refine ret_eq (congrArg AV.bool ?_)
      (first | rfl | (refine decide_eq_decide.2 ?_; omega) | (refine (decide_eq_true ?_).symm; omega) | (refine (decide_eq_false ?_).symm; omega) | (refine decide_eq_true ?_; omega) | (refine decide_eq_false ?_; omega))
  · all_goals haveI fA_ : FlagA := ⟨⟩
    all_goals haveI fH_ : FlagH := ⟨⟩
    repeat' (first
      | exact True.intro
      | refine stp ?_
      | refine two ?_ ?_
      | refine allc fun c_ => ?_
      | (refine imp fun hc => ?_) <;> try (first | contradiction | (exfalso; omega) | (exfalso; exact absurd (of_dT hc) (by assumption)) | (exfalso; exact of_dF hc (by assumption)))
      | refine all fun v_ => ?_)
    all_goals clear fA_ fH_
    all_goals
      refine retv0 ?_
      ((with_reducible apply rq1); rfl; rfl)
      refine ret_eq (congrArg AV.bool ?_)
      (first | rfl | (refine decide_eq_decide.2 ?_; omega) | (refine (decide_eq_true ?_).symm; omega) | (refine (decide_eq_false ?_).symm; omega) | (refine decide_eq_true ?_; omega) | (refine decide_eq_false ?_; omega))
end Go.Proofs.Ytcikppldaepodaa
namespace Go.Av
open Go
set_option linter.unusedVariables false
set_option linter.unusedSimpArgs false
section
variable {k : Kx} {Q : Exit → Env → H → Prop} {ρ : Env} {h : H} {ops : Array Oper} {l : List Oper} {d : Nat} {ty : TypeId} {pos : String} {after : Array Edge}
theorem jborF {f : FuncId} {xs : Array Operand} {ats : Array TypeId} {es args : List AV} {v : Value} (hxs : evsO ρ xs.toList = some es) (hcal : Cal k.P f) (hac : ACr k.P k.c.G f args (.val v)) (hb : Bors h es args) (hd : Nat.blt d k.n = true)
    (hj : JL k ops l Q ((d, .val v) :: ρ) h) : JL k ops (⟨some d, .call { callee := .value (.func f), args := xs, argTypes := ats }, ty, pos, after, none⟩ :: l) Q ρ h :=
  jbor (caps := #[]) rfl hxs hcal hac (by simpa using hb) hd hj
end
end Go.Av
