/- Contracts: tape.Sum, foretellref.Summed; search.Check, MovesFault; copies. -/
import Derived.Test.YtffdlpjbbkhcnaaEl
import Derived.Test.YtffdlpjbbkhcnaaSt
import Derived.Test.YtffdlpjbbkhcnaaS2
namespace Go.Proofs.Ytffdlpjbbkhcnaa
open Go Go.Av Go.Sp
set_option linter.unusedVariables false
set_option linter.unusedSimpArgs false
set_option maxRecDepth 100000
set_option maxHeartbeats 4000000

theorem cal_octets : Cal Try.prog 16 := Cal.of Try.func16 (by kernel_rfl) (by kernel_rfl)
theorem cal_Sum : Cal Try.prog 15 := Cal.of Try.func15 (by kernel_rfl) (by kernel_rfl)
theorem cal_Summed : Cal Try.prog 17 := Cal.of Try.func17 (by kernel_rfl) (by kernel_rfl)
theorem cal_In : Cal Try.prog 59 := Cal.of Try.func59 (by kernel_rfl) (by kernel_rfl)
theorem cal_moves : Cal Try.prog 33 := Cal.of Try.func33 (by kernel_rfl) (by kernel_rfl)
theorem cal_MCheck : Cal Try.prog 32 := Cal.of Try.func32 (by kernel_rfl) (by kernel_rfl)
theorem cal_MovesFault : Cal Try.prog 34 := Cal.of Try.func34 (by kernel_rfl) (by kernel_rfl)
/-- A copy. -/
theorem octets (G : List (Nat × List D)) (a : List UInt8) (ha : a.length * 1 ≤ 140737488355328) : ACr Try.prog G 16 [.d (bytesD a)] (.d (bytesD a)) := by
  refine AC_ofV (ts := [2]) 5 Try.func16 rfl rfl rfl (by simp) fun W I => ?_
  repeat' (first
    | exact True.intro
    | refine stp ?_
    | refine two ?_ ?_
    | (refine imp fun hc => ?_) <;> try (first | contradiction | (exfalso; omega))
    | refine all fun v_ => ?_)
  refine retv0 ?_
  ((with_reducible apply rq1); rfl; rfl)
  exact ret_eq rfl
/-- A copy. -/
theorem moves (G : List (Nat × List D)) (a : List Fo) (ha : a.length * 16 ≤ 140737488355328) : ACr Try.prog G 33 [.d (opsD a)] (.d (opsD a)) := by
  refine AC_ofV (ts := [2]) 5 Try.func33 rfl rfl rfl (by simp) fun W I => ?_
  repeat' (first
    | exact True.intro
    | refine stp ?_
    | refine two ?_ ?_
    | (refine imp fun hc => ?_) <;> try (first | contradiction | (exfalso; omega))
    | refine all fun v_ => ?_)
  refine retv0 ?_
  ((with_reducible apply rq1); rfl; rfl)
  exact ret_eq rfl
theorem In (G : List (Nat × List D)) (x a b : Int) : ACr Try.prog G 59 [.int x, .int a, .int b] (.bool (decide (a ≤ x ∧ x ≤ b))) := by
  refine AC_of (ts := [6]) 15 Try.func59 rfl rfl rfl (by simp) fun W I => ?_
  repeat' (first
    | exact True.intro
    | refine stp ?_
    | refine two ?_ ?_
    | (refine imp fun hc => ?_) <;> try (first | contradiction | (exfalso; omega))
    | refine all fun v_ => ?_)
  all_goals
    ((with_reducible apply rq1); rfl; rfl)
    refine ret_eq (congrArg AV.bool ?_)
    (first | rfl | (refine decide_eq_decide.2 ?_; omega) | (refine (decide_eq_true ?_).symm; omega) | (refine (decide_eq_false ?_).symm; omega) | (refine decide_eq_true ?_; omega) | (refine decide_eq_false ?_; omega))
theorem Sum (G : List (Nat × List D)) (l : List UInt8) : ACr Try.prog G 15 [.d (bytesD l)] (.int (sumOf l)) := by
  refine AC_of (ts := [2]) 20 Try.func15 rfl rfl rfl (by simp) fun W I => ?_
  refine jfact (t := 0) rfl fun hl => ?_
  repeat' (first
    | exact True.intro
    | refine stp ?_
    | refine two ?_ ?_
    | (refine imp fun hc => ?_) <;> try (first | contradiction | (exfalso; omega))
    | refine all fun v_ => ?_)
  refine J_loop (X := Nat × Int) (fun y => [(3, .int y.2), (6, .d (bytesD l)), (7, .int l.length), (8, .int y.1)]) (fun _ => []) (fun y => y.1 ≤ l.length ∧ 0 ≤ y.2 ∧ y.2 < 2147483629 ∧ sumOf l = sumS (l.drop y.1) y.2) (fun y => l.length - y.1) (0, 1) ⟨Nat.zero_le _, by decide, by decide, rfl⟩ ?_ rfl ?_
  · repeat (first
      | exact Env.le_nil _
      | refine Env.le_cons (AV.le_refl _) ?_
      | refine Env.le_cons (AV.le_int rfl (by first | rfl | omega | (dsimp only; omega))) ?_)
  rintro ⟨i, s⟩ ⟨k1, k2, k3, k4⟩
  dsimp only at k1 k2 k3 k4 ⊢
  by_cases hi : i < l.length
  · have hb := (l[i]).toNat_lt
    rw [sumS_at l i hi] at k4
    repeat' (first
      | exact True.intro
      | refine stp ?_
      | refine two ?_ ?_
      | (refine imp fun hc => ?_) <;> try (first | contradiction | (exfalso; omega))
      | refine all fun v_ => ?_)
    refine ⟨(i + 1, _), ⟨by dsimp only; omega, ?_, ?_, k4⟩, by dsimp only; omega, ?_, rfl⟩
    · exact Int.emod_nonneg _ (by decide)
    · exact Int.emod_lt_of_pos _ (by decide)
    · repeat (first
        | exact Env.le_nil _
        | refine Env.le_cons (AV.le_refl _) ?_
        | refine Env.le_cons (AV.le_int rfl (by first | rfl | omega | (dsimp only; omega))) ?_)
  · rw [sumS_end l i (by omega)] at k4
    repeat' (first
      | exact True.intro
      | refine stp ?_
      | refine two ?_ ?_
      | (refine imp fun hc => ?_) <;> try (first | contradiction | (exfalso; omega))
      | refine all fun v_ => ?_)
    ((with_reducible apply rq1); rfl; rfl)
    exact ret_eq (congrArg AV.int k4.symm)
theorem Summed (G : List (Nat × List D)) (l : List UInt8) : ACr Try.prog G 17 [.d (bytesD l)] (.int (sumOf l)) := by
  refine AC_of (ts := [2]) 25 Try.func17 rfl rfl rfl (by simp) fun W I => ?_
  refine jfact (t := 0) rfl fun hl => ?_
  repeat' (first
    | exact True.intro
    | refine stp ?_
    | refine two ?_ ?_
    | (refine imp fun hc => ?_) <;> try (first | contradiction | (exfalso; omega))
    | refine all fun v_ => ?_)
  refine J_loop (X := Nat × Int) (fun y => [(0, .d (bytesD l)), (3, .int y.2), (4, .int y.1)]) (fun _ => []) (fun y => y.1 ≤ l.length ∧ 0 ≤ y.2 ∧ y.2 < 2147483629 ∧ sumOf l = sumS (l.drop y.1) y.2) (fun y => l.length - y.1) (0, 1) ⟨Nat.zero_le _, by decide, by decide, rfl⟩ ?_ rfl ?_
  · repeat (first
      | exact Env.le_nil _
      | refine Env.le_cons (AV.le_refl _) ?_
      | refine Env.le_cons (AV.le_int rfl (by first | rfl | omega | (dsimp only; omega))) ?_)
  rintro ⟨i, s⟩ ⟨k1, k2, k3, k4⟩
  dsimp only at k1 k2 k3 k4 ⊢
  by_cases hi : i < l.length
  · have hb := (l[i]).toNat_lt
    rw [sumS_at l i hi] at k4
    repeat' (first
      | exact True.intro
      | refine stp ?_
      | refine two ?_ ?_
      | (refine imp fun hc => ?_) <;> try (first | contradiction | (exfalso; omega))
      | refine all fun v_ => ?_)
    have e : (s * 257 + (l[i].toNat : Int)) % 2147483629 = 257 * s + (l[i].toNat : Int) - (257 * s + (l[i].toNat : Int)) / 2147483629 * 2147483629 := by omega
    refine ⟨(i + 1, _), ⟨by dsimp only; omega, ?_, ?_, k4⟩, by dsimp only; omega, ?_, rfl⟩
    · exact Int.emod_nonneg _ (by decide)
    · exact Int.emod_lt_of_pos _ (by decide)
    · repeat (first
        | exact Env.le_nil _
        | refine Env.le_cons (AV.le_refl _) ?_
        | refine Env.le_cons (AV.le_int rfl (by first | rfl | omega | (dsimp only; omega))) ?_)
  · rw [sumS_end l i (by omega)] at k4
    repeat' (first
      | exact True.intro
      | refine stp ?_
      | refine two ?_ ?_
      | (refine imp fun hc => ?_) <;> try (first | contradiction | (exfalso; omega))
      | refine all fun v_ => ?_)
    ((with_reducible apply rq1); rfl; rfl)
    exact ret_eq (congrArg AV.int k4.symm)
theorem MCheck (G : List (Nat × List D)) (l : List Fo) : ACr Try.prog G 32 [.d (opsD l)] (.int (movF l)) := by
  refine AC_ofV (ts := [2]) Try.f32.ntmps Try.func32 rfl rfl rfl (by simp [Try.ntmps32]) fun W I => ?_
  refine jfact (t := 0) rfl fun hl => ?_
  repeat' (first
    | exact True.intro
    | refine stpa ?_
    | refine two ?_ ?_
    | (refine imp fun hc => ?_) <;> try (first | contradiction | (exfalso; omega))
    | refine all fun v_ => ?_)
  · refine retv0 ?_
    ((with_reducible apply rq1); rfl; rfl)
    refine ret_eq (congrArg AV.int ?_)
    rw [movF, if_pos (by omega)]
  have hs : movF l = movE l := by rw [movF, if_neg (by omega)]
  refine J_loopV (X := Nat) (fun i => [(8, .d (opsD l)), (9, .int l.length), (10, .int i)]) (fun _ => []) (fun i => i ≤ l.length ∧ movF l = movE (l.drop i)) (fun i => l.length - i) 0 ⟨Nat.zero_le _, hs⟩ (VS.of_le ?_) ?_
  · repeat (first
      | exact Env.le_nil _
      | refine Env.le_cons (AV.le_refl _) ?_
      | refine Env.le_cons (AV.le_int rfl (by first | rfl | omega | (dsimp only; omega))) ?_)
  rintro i ⟨k1, k2⟩
  by_cases hi : i < l.length
  · rw [movE_at l i hi] at k2
    repeat' (first
      | exact True.intro
      | refine stpa ?_
      | refine two ?_ ?_
      | (refine imp fun hc => ?_) <;> try (first | contradiction | (exfalso; omega))
      | refine all fun v_ => ?_)
    all_goals first
      | (refine retv (VS.drop (List.nil_sublist _)) ?_
         ((with_reducible apply rq1); rfl; rfl)
         refine ret_eq (congrArg AV.int ?_)
         rw [k2]
         first
           | rw [if_pos (by omega)]
           | rw [if_neg (by omega), if_pos (by omega)])
      | (rw [if_neg (by omega), if_neg (by omega)] at k2
         refine ⟨i + 1, ⟨by omega, k2⟩, by omega, vle (List.nil_sublist _) ?_⟩
         repeat (first
           | exact Env.le_nil _
           | refine Env.le_cons (AV.le_refl _) ?_
           | refine Env.le_cons (AV.le_int rfl (by first | rfl | omega | (dsimp only; omega))) ?_))
  · rw [movE_end l i (by omega)] at k2
    repeat' (first
      | exact True.intro
      | refine stpa ?_
      | refine two ?_ ?_
      | (refine imp fun hc => ?_) <;> try (first | contradiction | (exfalso; omega))
      | refine all fun v_ => ?_)
    refine retv0 ?_
    ((with_reducible apply rq1); rfl; rfl)
    exact ret_eq (congrArg AV.int k2.symm)
theorem MovesFault (G : List (Nat × List D)) (l : List Fo) : ACr Try.prog G 34 [.d (opsD l)] (.int (movF l)) := by
  refine AC_ofV (ts := [2]) Try.f34.ntmps Try.func34 rfl rfl rfl (by simp [Try.ntmps34]) fun W I => ?_
  refine jfact (t := 0) rfl fun hl => ?_
  repeat' (first
    | ((with_reducible apply call0); (focus rfl); (focus exact cal_In); (focus exact In _ _ _ _); (focus rfl))
    | ((with_reducible apply je_call0); (focus rfl); (focus (decide +kernel)); (focus rfl); (focus exact cal_In); (focus exact In _ _ _ _); (focus rfl))
    | exact True.intro
    | refine stpa ?_
    | refine two ?_ ?_
    | (refine imp fun hc => ?_) <;> try (first | contradiction | (exfalso; omega))
    | refine all fun v_ => ?_)
  · refine retv0 ?_
    ((with_reducible apply rq1); rfl; rfl)
    refine ret_eq (congrArg AV.int ?_)
    rw [movF, if_pos (by omega)]
  have hs : movF l = movE l := by rw [movF, if_neg (by omega)]
  refine J_loopV (X := Nat) (fun i => [(0, .d (opsD l)), (3, .int i)]) (fun _ => []) (fun i => i ≤ l.length ∧ movF l = movE (l.drop i)) (fun i => l.length - i) 0 ⟨Nat.zero_le _, hs⟩ (VS.of_le ?_) ?_
  · repeat (first
      | exact Env.le_nil _
      | refine Env.le_cons (AV.le_refl _) ?_
      | refine Env.le_cons (AV.le_int rfl (by first | rfl | omega | (dsimp only; omega))) ?_)
  rintro i ⟨k1, k2⟩
  by_cases hi : i < l.length
  · rw [movE_at l i hi] at k2
    repeat' (first
      | ((with_reducible apply call0); (focus rfl); (focus exact cal_In); (focus exact In _ _ _ _); (focus rfl))
      | ((with_reducible apply je_call0); (focus rfl); (focus (decide +kernel)); (focus rfl); (focus exact cal_In); (focus exact In _ _ _ _); (focus rfl))
      | exact True.intro
      | refine stpa ?_
      | refine two ?_ ?_
      | (refine imp fun hc => ?_) <;> try (first | contradiction | (exfalso; omega))
      | refine all fun v_ => ?_)
    all_goals first
      | (refine retv0 ?_
         ((with_reducible apply rq1); rfl; rfl)
         refine ret_eq (congrArg AV.int ?_)
         rw [k2]
         first
           | rw [if_pos (by omega)]
           | rw [if_neg (by omega), if_pos (by omega)])
      | (rw [if_neg (by omega), if_neg (by omega)] at k2
         refine ⟨i + 1, ⟨by omega, k2⟩, by omega, vle (List.nil_sublist _) ?_⟩
         repeat (first
           | exact Env.le_nil _
           | refine Env.le_cons (AV.le_refl _) ?_
           | refine Env.le_cons (AV.le_int rfl (by first | rfl | omega | (dsimp only; omega))) ?_))
  · rw [movE_end l i (by omega)] at k2
    repeat' (first
      | ((with_reducible apply call0); (focus rfl); (focus exact cal_In); (focus exact In _ _ _ _); (focus rfl))
      | ((with_reducible apply je_call0); (focus rfl); (focus (decide +kernel)); (focus rfl); (focus exact cal_In); (focus exact In _ _ _ _); (focus rfl))
      | exact True.intro
      | refine stpa ?_
      | refine two ?_ ?_
      | (refine imp fun hc => ?_) <;> try (first | contradiction | (exfalso; omega))
      | refine all fun v_ => ?_)
    refine retv0 ?_
    ((with_reducible apply rq1); rfl; rfl)
    exact ret_eq (congrArg AV.int k2.symm)
end Go.Proofs.Ytffdlpjbbkhcnaa
