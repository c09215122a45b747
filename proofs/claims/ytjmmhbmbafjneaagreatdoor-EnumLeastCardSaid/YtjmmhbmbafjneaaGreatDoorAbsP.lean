/-
  max(x, -x): what the machine gives (plain).
-/
import Derived.Test.YtjmmhbmbafjneaaGreatDoorBase
namespace Go.Proofs.YtjmmhbmbafjneaaGreatDoor
open Go.RowKit Base
set_option linter.unusedVariables false
namespace Clause

/-- What the machine gives for max(x, -x): of the least number itself. -/
def absI (x : Int) : Int := if x = -9223372036854775808 then x else max x (-x)

def Wf (xs : List Int) : Prop := ∀ x ∈ xs, -9223372036854775808 ≤ x ∧ x ≤ 9223372036854775807

end Clause
end Go.Proofs.YtjmmhbmbafjneaaGreatDoor
