/-
  What is known of a formula that may be. Plain.
-/
import Derived.Test.YthhkngpbaflfiaaFormulaCheck
namespace Go.Proofs.Ythhkngpbaflfiaa
open Go.RowKit Base
set_option linter.unusedVariables false
set_option linter.unusedSimpArgs false
namespace Formula

theorem check_or (vars : Int) (cls : List (List Int)) : check vars cls = 0 ∨ check vars cls = 9 := by
  unfold check; split <;> simp

theorem clause_ok {vars : Int} {l : List Int} (h : Clause.check vars l = 0) : l.length ≤ 1024 ∧ ∀ x ∈ l, 1 ≤ Clause.absI x ∧ Clause.absI x ≤ vars := by
  unfold Clause.check at h
  split at h
  · cases h
  · rename_i hl
    split at h
    · cases h
    · rename_i ha
      refine ⟨by omega, fun x hx => ?_⟩
      have : Clause.badL vars x = false := by
        rw [Bool.eq_false_iff]
        intro hb
        exact ha (List.any_eq_true.2 ⟨x, hx, hb⟩)
      unfold Clause.badL at this
      simp at this
      omega

theorem check_ok {vars : Int} {cls : List (List Int)} (h : check vars cls = 0) : 0 ≤ vars ∧ vars ≤ 262144 ∧ cls.length ≤ 1048576 ∧ ∀ l ∈ cls, l.length ≤ 1024 ∧ ∀ x ∈ l, 1 ≤ Clause.absI x ∧ Clause.absI x ≤ vars := by
  unfold check at h
  split at h
  · cases h
  · rename_i hb
    unfold bad at hb
    simp only [Bool.or_eq_true, decide_eq_true_eq, not_or, List.any_eq_true, not_exists, not_and] at hb
    refine ⟨by omega, by omega, by omega, fun l hl => clause_ok ?_⟩
    have := hb.2 l hl
    simpa using this

end Formula
end Go.Proofs.Ythhkngpbaflfiaa
