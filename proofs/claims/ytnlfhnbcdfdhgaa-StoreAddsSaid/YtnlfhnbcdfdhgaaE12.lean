/- A call of a function that borrows (over E2). -/
import Derived.Test.YtnlfhnbcdfdhgaaE4
namespace Go.Av
open Go
set_option linter.unusedVariables false
set_option linter.unusedSimpArgs false
section
variable {k : Kx} {Q : Exit → Env → H → Prop} {ρ : Env} {h : H} {ops : Array Oper} {l : List Oper} {d : Nat} {ty : TypeId} {pos : String} {after : Array Edge}
/-- A call of a function that borrows. -/
theorem jborF {f : FuncId} {xs : Array Operand} {ats : Array TypeId} {es args : List AV} {v : Value} (hxs : evsO ρ xs.toList = some es) (hcal : Cal k.P f) (hac : ACr k.P k.c.G f args (.val v)) (hb : Bors h es args) (hd : Nat.blt d k.n = true)
 (hj : JL k ops l Q ((d, .val v) :: ρ) h) : JL k ops (⟨some d, .call { callee := .value (.func f), args := xs, argTypes := ats }, ty, pos, after, none⟩ :: l) Q ρ h :=
 jbor (caps := #[]) rfl hxs hcal hac (by simpa using hb) hd hj
end
end Go.Av
