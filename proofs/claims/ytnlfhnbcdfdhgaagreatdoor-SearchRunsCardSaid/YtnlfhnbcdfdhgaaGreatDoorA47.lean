/- Own texts. -/
import Derived.Test.YtnlfhnbcdfdhgaaGreatDoorA46
set_option linter.unusedVariables false
set_option linter.unusedSimpArgs false
set_option maxRecDepth 100000
set_option maxHeartbeats 4000000
namespace Go.Proofs.YtnlfhnbcdfdhgaaGreatDoor
open Go Go.Av Go.Sp
theorem XR {p q : Prop} (hp : p) (h : p → q := by
 apply cmp; (focus (first
  | ((with_reducible apply GR); rfl; exact Ps; (focus exact eC _ _ jB); rfl)
  | ((with_reducible apply Cs); rfl; decide +kernel; rfl; exact Ps; (focus exact eC _ _ jB); rfl)
  ))
 exact fun h => h) : q := h hp
theorem NH (t : Tk) (l : List Fo) (hl : l.length * 16 ≤ 140737488351232) : ACr Tryz.prog GP 3 [tkA t, .d (AO l)] (.bool true) := by
 have hR := SRun t l
 have hS := YY t l
 generalize Bu t l = v at hR hS
 obtain ⟨o, er⟩ := v
 obtain ⟨o1, o2, o3, o4, o5, o6, o7⟩ := o
 dsimp only at hR hS
 refine AK (ts := [4]) Tryz.f3.ntmps Tryz.func3 rfl rfl rfl (by simp [Tryz.ntmps3]) fun W I => ?_
 repeat' (first | refine ca XT (tasks _ _) ?_ | refine XR ?_ | refine ca bE (hR) ?_ | refine ca Qm (hS) ?_ | refine ca KM (Tc _ _) ?_ | refine caq KM (Tc _ _) ?_ | ((with_reducible apply jp); (focus ((with_reducible apply (bj TG)); rfl; rfl)); rfl) | exact jA | refine AF ?_ | refine two ?_ ?_ | refine AB fun c_ => ?_ | refine imp fun hc => ?_; try exact cx1 hc | refine all fun v_ => ?_)
 all_goals
  refine AI jE ?_
  ((with_reducible apply rq1); rfl; rfl)
  exact AA (by simp_all)
end Go.Proofs.YtnlfhnbcdfdhgaaGreatDoor
