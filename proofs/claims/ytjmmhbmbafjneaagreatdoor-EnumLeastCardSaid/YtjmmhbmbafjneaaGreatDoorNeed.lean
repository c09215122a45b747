/-
  circuit.need: a fault panics.
-/
import Derived.Test.YtjmmhbmbafjneaaGreatDoorCirc
import Derived.Recover
namespace Go.Proofs.YtjmmhbmbafjneaaGreatDoor
open Go.RowKit Base
set_option linter.unusedVariables false
set_option linter.unusedSimpArgs false
namespace Circuit

theorem need_ok (w : World) : Calls Tryz.prog 66 #[.bool true] w fun e w' => e = .returned (.tuple #[]) ∧ w = w' := by
  go_enter Tryz.func66, Tryz.ntmps66
  go_wp2
  go_end0
  exact ⟨rfl, rfl⟩

theorem need_bad (w : World) : Calls Tryz.prog 66 #[.bool false] w fun e w' => e = .panicked [{ v := .iface 33 (.int .i64 9), recovered := false }] ∧ w = w' := by
  go_enter Tryz.func66, Tryz.ntmps66
  go_wp2
  exact ⟨rfl, rfl, rfl⟩

end Circuit
end Go.Proofs.YtjmmhbmbafjneaaGreatDoor
