/-
  circuit.need: a fault panics.
-/
import Derived.Test.YtllbncfcnjmbmaaDoorCirc
import Derived.Recover
namespace Go.Proofs.YtllbncfcnjmbmaaDoor
open Go.RowKit Base
set_option linter.unusedVariables false
set_option linter.unusedSimpArgs false
namespace Circuit

theorem need_ok (w : World) : Calls Tryd.prog 32 #[.bool true] w fun e w' => e = .returned (.tuple #[]) ∧ w = w' := by
  go_enter Tryd.func32, Tryd.ntmps32
  go_wp2
  go_end0
  exact ⟨rfl, rfl⟩

theorem need_bad (w : World) : Calls Tryd.prog 32 #[.bool false] w fun e w' => e = .panicked [{ v := .iface 30 (.int .i64 9), recovered := false }] ∧ w = w' := by
  go_enter Tryd.func32, Tryd.ntmps32
  go_wp2
  exact ⟨rfl, rfl, rfl⟩

end Circuit
end Go.Proofs.YtllbncfcnjmbmaaDoor
