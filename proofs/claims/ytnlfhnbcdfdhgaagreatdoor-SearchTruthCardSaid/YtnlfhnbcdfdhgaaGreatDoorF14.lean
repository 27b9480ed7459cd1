/- A bundle of this claim's own texts: T10. -/
import Derived.Test.YtnlfhnbcdfdhgaaGreatDoorF3
import Derived.Test.YtnlfhnbcdfdhgaaGreatDoorF12
set_option linter.unusedVariables false
set_option linter.unusedSimpArgs false
set_option maxRecDepth 100000
set_option maxHeartbeats 4000000
namespace Go.Proofs.YtnlfhnbcdfdhgaaGreatDoor
open Go Go.Av Go.Sp

theorem CC : Cal Tryz.prog 127 := Cal.of Tryz.func127 (by kernel_rfl) (by kernel_rfl)
theorem B5 : Cal Tryz.prog 128 := Cal.of Tryz.func128 (by kernel_rfl) (by kernel_rfl)
theorem Ay : Cal Tryz.prog 78 := Cal.of Tryz.func78 (by kernel_rfl) (by kernel_rfl)
theorem Ty (G : List (Nat × List D)) (out : List Bool) (n : Nat) (hb : out.length ≤ 60) (h : n + 1 < out.length) : ACr Tryz.prog G 127 [.pd [Bt out], .pd [.i .i64 n]] (.bool out[n + 1]) := by
 refine Dl (ts := [2]) 8 Tryz.func127 rfl rfl rfl (by simp) fun W I => ?_
 repeat' (first
  | exact True.intro
  | refine stp ?_
  | refine two ?_ ?_
  | (refine imp fun hc => ?_) <;> try exact cx hc
  | refine all fun v_ => ?_)
 ((with_reducible apply rq1); rfl; rfl)
 exact AB rfl
theorem aV (G : List (Nat × List D)) (out : List Bool) (es : List Int) (n : Nat) (hb : es.length ≤ 60) (h : n + 1 < es.length) (h0 : 0 ≤ es[n + 1]) (h1 : es[n + 1].toNat < out.length) : ACr Tryz.prog G 128 [.pd [Bt out], .pd [AK es], .pd [.i .i64 n]] (.bool out[es[n + 1].toNat]) := by
 refine Dl (ts := [3]) 12 Tryz.func128 rfl rfl rfl (by simp) fun W I => ?_
 repeat' (first
  | exact True.intro
  | refine stp ?_
  | refine two ?_ ?_
  | (refine imp fun hc => ?_) <;> try exact cx hc
  | refine all fun v_ => ?_)
 ((with_reducible apply rq1); rfl; rfl)
 exact AB rfl
theorem dq {j : Nat} (h : j ≤ 6) : 1 ≤ (2 : Int) ^ j ∧ (2 : Int) ^ j ≤ 64 := by
 have : j = 0 ∨ j = 1 ∨ j = 2 ∨ j = 3 ∨ j = 4 ∨ j = 5 ∨ j = 6 := by omega
 rcases this with h | h | h | h | h | h | h <;> subst h <;> decide
end Go.Proofs.YtnlfhnbcdfdhgaaGreatDoor
