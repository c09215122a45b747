/-
  Is every literal of a clause one of another clause? As plain lists.
-/
import Derived.Test.YthhkngpbaflfiaaAbsP
namespace Go.Proofs.Ythhkngpbaflfiaa
open Go.RowKit Base
set_option linter.unusedVariables false
set_option linter.unusedSimpArgs false
namespace Clause

def subs (a b : List Int) : Bool := a.all fun x => decide (x ∈ b)

theorem subs_iff {a b : List Int} : subs a b = true ↔ ∀ x ∈ a, x ∈ b := by simp [subs]

theorem subs_any (a b : List Int) : (!((a.map fun x => !decide (x ∈ b)).any id)) = subs a b := by
  unfold subs
  rw [List.any_map]
  simp [List.all_eq_not_any_not]

end Clause
end Go.Proofs.Ythhkngpbaflfiaa
