/- What every card of bounded bulk wants. -/
import Derived.Test.YtffdlpjbbkhcnaaTopP
namespace Go.Proofs.Ytffdlpjbbkhcnaa
open Go Go.Av Go.Sp
set_option linter.unusedVariables false
set_option linter.unusedSimpArgs false
set_option maxRecDepth 100000
set_option maxHeartbeats 4000000

theorem bulkAll_sum {H : Type} : ∀ ds : List (DataW H), Rows.uptoBulkAll ds = (ds.map Rows.uptoBulk).sum
  | [] => rfl
  | d :: ds => by rw [Rows.uptoBulkAll, List.map_cons, List.sum_cons, bulkAll_sum ds]
theorem bulkOk {H : Type} : BulkOk (@Rows.uptoBulk H) where
  lit l := by cases l <;> simp [Rows.uptoBulk]
  str l := by simp [Rows.uptoBulk]
  nil := by simp [Rows.uptoBulk]
  slice es sp := by simp only [Rows.uptoBulk, bulkAll_sum]; omega
  agg ps := by simp only [Rows.uptoBulk, bulkAll_sum]; omega
end Go.Proofs.Ytffdlpjbbkhcnaa
