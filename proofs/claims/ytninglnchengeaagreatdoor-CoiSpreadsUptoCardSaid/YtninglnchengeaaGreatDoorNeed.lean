/-
  circuit.need: a fault panics.
-/
import Derived.Test.YtninglnchengeaaGreatDoorCirc
import Derived.Recover
namespace Go.Proofs.YtninglnchengeaaGreatDoor
open Go.RowKit Base
set_option linter.unusedVariables false
set_option linter.unusedSimpArgs false
namespace Circuit

theorem need_ok (w : World) : Calls Tryz.prog 72 #[.bool true] w fun e w' => e = .returned (.tuple #[]) ∧ w = w' := by
  go_enter Tryz.func72, Tryz.ntmps72
  go_wp2
  go_end0
  exact ⟨rfl, rfl⟩

theorem need_bad (w : World) : Calls Tryz.prog 72 #[.bool false] w fun e w' => e = .panicked [{ v := .iface 32 (.int .i64 9), recovered := false }] ∧ w = w' := by
  go_enter Tryz.func72, Tryz.ntmps72
  go_wp2
  exact ⟨rfl, rfl, rfl⟩

end Circuit
end Go.Proofs.YtninglnchengeaaGreatDoor
