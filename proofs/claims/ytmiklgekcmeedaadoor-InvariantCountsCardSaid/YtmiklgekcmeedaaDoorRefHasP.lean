/-
  The reference's order of literals (plain).
-/
import Derived.Test.YtmiklgekcmeedaaDoorAbsP
namespace Go.Proofs.YtmiklgekcmeedaaDoor
open Go.RowKit Base
set_option linter.unusedVariables false
set_option linter.unusedSimpArgs false
namespace RefC

theorem mem_take_more {xs : List Int} {x : Int} {k : Nat} (hk : k < xs.length) (h : decide (x ∈ xs.take k) = false) (hp : xs[k] ≠ x) : decide (x ∈ xs.take (k + 1)) = false := by
  rw [List.take_succ_eq_append_getElem hk]
  simp only [decide_eq_false_iff_not, List.mem_append, List.mem_singleton, not_or] at h ⊢
  exact ⟨h, fun e => hp e.symm⟩

def lessB (a b : Int) : Bool := decide (Clause.absI a < Clause.absI b) || (decide (Clause.absI a = Clause.absI b) && decide (a < b))

def I64 (x : Int) : Prop := -9223372036854775808 ≤ x ∧ x ≤ 9223372036854775807

end RefC
end Go.Proofs.YtmiklgekcmeedaaDoor
