import Derived.Test.YtjgobpejifhphaaW34j
/-! Walks of chapter 34: the reference's Price; the statement DissolvePays. -/
namespace Go.Proofs.Ytjgobpejifhphaa
open Go.RowKit Go.Deep
set_option linter.unusedVariables false

theorem sE_zero {L O : List Int} {r : Int} (he : sE L O r = 0) : lok L O = 0 := by
  rcases Decidable.em (lok L O = 0) with h0 | h0
  · exact h0
  · rw [sE_lok h0] at he; exact absurd he h0
end Go.Proofs.Ytjgobpejifhphaa
