/- Contracts: logic.Truths and its closures; foretellref.secondAt, truthAt, TruthsOf. -/
import Derived.Test.YtacdheachjnejaaDoorT7
import Derived.Test.YtacdheachjnejaaDoorSf
namespace Go.Proofs.YtacdheachjnejaaDoor
open Go Go.Av Go.Sp
set_option linter.unusedVariables false
set_option linter.unusedSimpArgs false
set_option maxRecDepth 100000
set_option maxHeartbeats 4000000

theorem cal_secondAt : Cal Tryd.prog 106 := Cal.of Tryd.func106 (by kernel_rfl) (by kernel_rfl)
theorem secondAt (G : List (Nat × List D)) (l : List Fo) (i : Nat) (hi : i ≤ 1000) : ACr Tryd.prog G 106 [.d (opsD l), .int i] (.int (Sp.endOf l (i + 1 : Nat)).1) := by
  refine AC_of (ts := [4]) 15 Tryd.func106 rfl rfl rfl (by simp) fun W I => ?_
  repeat' (first
    | ((with_reducible apply call0); (focus rfl); (focus exact cal_endOf); (focus exact endOf _ _ _ (by omega) (by omega)); (focus rfl))
    | ((with_reducible apply je_call0); (focus rfl); (focus (decide +kernel)); (focus rfl); (focus exact cal_endOf); (focus exact endOf _ _ _ (by omega) (by omega)); (focus rfl))
    | exact True.intro
    | refine stp ?_
    | refine two ?_ ?_
    | (refine imp fun hc => ?_) <;> try (first | contradiction | (exfalso; omega))
    | refine all fun v_ => ?_)
  ((with_reducible apply rq1); rfl; rfl)
  exact ret_eq rfl
theorem pow6 {j : Nat} (h : j ≤ 6) : 1 ≤ (2 : Int) ^ j ∧ (2 : Int) ^ j ≤ 64 := by
  have : j = 0 ∨ j = 1 ∨ j = 2 ∨ j = 3 ∨ j = 4 ∨ j = 5 ∨ j = 6 := by omega
  rcases this with h | h | h | h | h | h | h <;> subst h <;> decide
theorem half_pow (c : Int) (j : Nat) : c / 2 ^ j / 2 = c / 2 ^ (j + 1) := by
  rw [Int.ediv_ediv_of_nonneg (by exact_mod_cast Nat.zero_le _), Int.pow_succ]
end Go.Proofs.YtacdheachjnejaaDoor
