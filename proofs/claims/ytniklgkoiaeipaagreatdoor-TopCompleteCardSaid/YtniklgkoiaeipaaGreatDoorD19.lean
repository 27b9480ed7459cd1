/- A bundle of this claim's own texts: T10. -/
import Derived.Test.YtniklgkoiaeipaaGreatDoorD1
import Derived.Test.YtniklgkoiaeipaaGreatDoorD17
set_option linter.unusedVariables false
set_option linter.unusedSimpArgs false
set_option maxRecDepth 100000
set_option maxHeartbeats 4000000
namespace Go.Proofs.YtniklgkoiaeipaaGreatDoor
open Go Go.Av Go.Sp

theorem cal_Truths1 : Cal Tryz.prog 132 := Cal.of Tryz.func132 (by kernel_rfl) (by kernel_rfl)
theorem cal_Truths2 : Cal Tryz.prog 133 := Cal.of Tryz.func133 (by kernel_rfl) (by kernel_rfl)
theorem cal_Truths : Cal Tryz.prog 87 := Cal.of Tryz.func87 (by kernel_rfl) (by kernel_rfl)
theorem Truths1 (G : List (Nat × List D)) (out : List Bool) (n : Nat) (hb : out.length ≤ 60) (h : n + 1 < out.length) : ACr Tryz.prog G 132 [.pd [boolsD out], .pd [.i .i64 n]] (.bool out[n + 1]) := by
 refine AC_of (ts := [2]) 8 Tryz.func132 rfl rfl rfl (by simp) fun W I => ?_
 repeat' (first
  | exact True.intro
  | refine stp ?_
  | refine two ?_ ?_
  | (refine imp fun hc => ?_) <;> try exact cx hc
  | refine all fun v_ => ?_)
 ((with_reducible apply rq1); rfl; rfl)
 exact ret_eq rfl
theorem Truths2 (G : List (Nat × List D)) (out : List Bool) (es : List Int) (n : Nat) (hb : es.length ≤ 60) (h : n + 1 < es.length) (h0 : 0 ≤ es[n + 1]) (h1 : es[n + 1].toNat < out.length) : ACr Tryz.prog G 133 [.pd [boolsD out], .pd [intsD es], .pd [.i .i64 n]] (.bool out[es[n + 1].toNat]) := by
 refine AC_of (ts := [3]) 12 Tryz.func133 rfl rfl rfl (by simp) fun W I => ?_
 repeat' (first
  | exact True.intro
  | refine stp ?_
  | refine two ?_ ?_
  | (refine imp fun hc => ?_) <;> try exact cx hc
  | refine all fun v_ => ?_)
 ((with_reducible apply rq1); rfl; rfl)
 exact ret_eq rfl
theorem pow6 {j : Nat} (h : j ≤ 6) : 1 ≤ (2 : Int) ^ j ∧ (2 : Int) ^ j ≤ 64 := by
 have : j = 0 ∨ j = 1 ∨ j = 2 ∨ j = 3 ∨ j = 4 ∨ j = 5 ∨ j = 6 := by omega
 rcases this with h | h | h | h | h | h | h <;> subst h <;> decide
end Go.Proofs.YtniklgkoiaeipaaGreatDoor
