/-
  A formula's box, just laid.
-/
import Derived.Test.YthhkngpbaflfiaaLaws
namespace Go.Proofs.Ythhkngpbaflfiaa
open Go.RowKit Base
set_option linter.unusedVariables false
set_option linter.unusedSimpArgs false
namespace BoxF

/-- A formula's box, just laid. -/
theorem box_new (w : World) (u : Int) (a : Option Addr) (m c : Nat) (W : World) (hW : w.alloc (.cells #[.int .i64 u, .slice a m c] 24) = W) :
    Below w.heap.size w W ∧ W.cell? ⟨w.heap.size, 0, none⟩ = some (.int .i64 u) ∧ W.cell? ⟨w.heap.size, 1, none⟩ = some (.slice a m c) ∧ w.heap.size < W.heap.size := by
  subst hW
  exact ⟨(Below.refl _ _).alloc (Nat.le_refl _) _, by simp [go_sem], by simp [go_sem], by simp⟩

/-- A zero formula stored where a zero formula is. -/
theorem box_zero (w : World) (W : World) (hW : w.alloc (.cells #[.int .i64 0, .slice none 0 0] 24) = W) :
    W.frozen? ⟨w.heap.size, 0, none⟩ = false ∧ W.frozen? ⟨w.heap.size, 1, none⟩ = false ∧ W.setCell ⟨w.heap.size, 0, none⟩ (.int .i64 0) = W ∧ W.setCell ⟨w.heap.size, 1, none⟩ (.slice none 0 0) = W := by
  obtain ⟨_, h0, h1, _⟩ := box_new w 0 none 0 0 W hW
  refine ⟨by rw [← hW]; simp [go_sem], by rw [← hW]; simp [go_sem], setCell_same _ _ _ h0, setCell_same _ _ _ h1⟩

end BoxF
end Go.Proofs.Ythhkngpbaflfiaa
