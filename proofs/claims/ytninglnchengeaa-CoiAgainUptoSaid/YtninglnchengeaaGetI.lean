/-
  Plain: what is said of a key, the latest first.
-/
import Derived.Test.YtninglnchengeaaBase
namespace Go.Proofs.Ytninglnchengeaa
namespace GetI

/-- The latest that is said of a key. -/
def getI {α : Type} [DecidableEq α] (D : List (α × Int)) (k : α) : Option Int := (D.find? fun p => decide (p.1 = k)).map (·.2)
theorem getI_nil {α : Type} [DecidableEq α] (k : α) : getI ([] : List (α × Int)) k = none := rfl
theorem getI_same {α : Type} [DecidableEq α] (D : List (α × Int)) (k : α) (v : Int) : getI ((k, v) :: D) k = some v := by simp [getI]
theorem getI_other {α : Type} [DecidableEq α] (D : List (α × Int)) {k k' : α} (v : Int) (h : k ≠ k') : getI ((k, v) :: D) k' = getI D k' := by simp [getI, h]
theorem getI_mem {α : Type} [DecidableEq α] {D : List (α × Int)} {k : α} {v : Int} (h : getI D k = some v) : (k, v) ∈ D := by
  unfold getI at h
  rw [Option.map_eq_some_iff] at h
  obtain ⟨p, hp, rfl⟩ := h
  have h1 := List.mem_of_find?_eq_some hp
  have h2 := List.find?_some hp
  simp only [decide_eq_true_eq] at h2
  rw [← h2]; exact h1
end GetI
end Go.Proofs.Ytninglnchengeaa
