/-
  Literals whose opposite is nowhere, as plain lists. No program.
-/
import Derived.Test.YthhkngpbaflfiaaAbsP
namespace Go.Proofs.Ythhkngpbaflfiaa.Pure
set_option linter.unusedVariables false
set_option linter.unusedSimpArgs false

def pl (X : List Int) (v : Int) : List Int := if v ∈ X ∧ -v ∉ X then [v] else if -v ∈ X ∧ v ∉ X then [-v] else []

def pures (X : List Int) (k : Nat) : List Int := (List.range k).flatMap fun (i : Nat) => pl X ((i : Int) + 1)

theorem pures_more (X : List Int) (k : Nat) : pures X (k + 1) = pures X k ++ pl X ((k : Int) + 1) := by
  unfold pures
  rw [List.range_succ, List.flatMap_append]
  simp

theorem pl_len (X : List Int) (v : Int) : (pl X v).length ≤ 1 := by
  unfold pl
  split
  · simp
  · split <;> simp

theorem pures_len (X : List Int) (k : Nat) : (pures X k).length ≤ k := by
  induction k with
  | zero => simp [pures]
  | succ k ih =>
    rw [pures_more, List.length_append]
    have := pl_len X ((k : Int) + 1)
    omega

end Go.Proofs.Ythhkngpbaflfiaa.Pure
