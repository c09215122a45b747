/-
  max(x, -x): package clause's function that reckons a literal's variable.
-/
import Derived.Test.YtmiklgekcmeedaaDoorAbsP
namespace Go.Proofs.YtmiklgekcmeedaaDoor
open Go.RowKit Base
set_option linter.unusedVariables false
namespace Clause

set_option maxHeartbeats 400000 in
theorem abs_any (x : Int) (h0 : -9223372036854775808 ≤ x) (h1 : x ≤ 9223372036854775807) (w : World) :
    Calls Tryd.prog 38 #[.int .i64 x] w fun e w' => e = .returned (.int .i64 (absI x)) ∧ w = w' := by
  by_cases hm : x = -9223372036854775808
  · subst hm
    go_enter Tryd.func38, Tryd.ntmps38
    go_wp2
    all_goals
      go_ret
      exact ⟨ret_int (by unfold absI; first | rfl | (unfold wrap64; rfl)), rfl⟩
  · have e : absI x = max x (-x) := if_neg hm
    have E := Lib.hid e
    have hm' : -9223372036854775807 ≤ x := by omega
    clear e hm
    go_enter Tryd.func38, Tryd.ntmps38
    go_wp2
    all_goals
      go_ret
      exact ⟨ret_int (by rw [E.out]; omega), rfl⟩

end Clause
end Go.Proofs.YtmiklgekcmeedaaDoor
