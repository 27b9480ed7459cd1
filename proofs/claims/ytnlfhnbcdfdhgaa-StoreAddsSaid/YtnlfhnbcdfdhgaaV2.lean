/- Contracts: foretellref.reachedFrom, ReachedOf; scc.Reached. -/
import Derived.Test.YtnlfhnbcdfdhgaaV1b
import Derived.Test.YtnlfhnbcdfdhgaaG1
namespace Go.Proofs.Ytnlfhnbcdfdhgaa
open Go Go.Av Go.Sp
set_option linter.unusedVariables false
set_option linter.unusedSimpArgs false
set_option maxRecDepth 100000
set_option maxHeartbeats 4000000

abbrev gnA (g : Gn) : AV := .agg [.d (opsD g.spots), .int g.init, .d (natLD g.next), .d (natsD g.sets), .int g.many]
theorem gnA_eq (g : Gn) : grA g.gr = gnA g := by
 unfold grA gnA Gn.gr
 rw [natsD_eq, natLD_eq]
theorem armXV2_1 {p q : Prop} (hp : p) (h : p → q := by
 apply cmp; (focus (first
  | ((with_reducible apply call0); (focus rfl); (focus exact cal_reachedFrom); (focus exact reachedFrom _ _ _ hok.next (fun i => g.nx_lt hok i) (by assumption) hok.size); (focus rfl))
  | ((with_reducible apply je_call0); (focus rfl); (focus (decide +kernel)); (focus rfl); (focus exact cal_reachedFrom); (focus exact reachedFrom _ _ _ hok.next (fun i => g.nx_lt hok i) (by assumption) hok.size); (focus rfl))
  ))
 exact fun h => h) : q := h hp
end Go.Proofs.Ytnlfhnbcdfdhgaa
