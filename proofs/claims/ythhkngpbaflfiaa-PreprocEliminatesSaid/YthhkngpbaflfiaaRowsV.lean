/-
  Cells that hold rows of integers.
-/
import Derived.Test.YthhkngpbaflfiaaLaws
namespace Go.Proofs.Ythhkngpbaflfiaa
open Go.RowKit
set_option linter.unusedVariables false
namespace Base

/-- Cells that hold such rows. -/
def RowsV (w : World) (vs : List Value) (L : List (List Int)) : Prop := vs.length = L.length ∧ ∀ (k : Nat) (v : Value) (l : List Int), vs[k]? = some v → L[k]? = some l → IntsV w v l

theorem RowsV.nil (w : World) : RowsV w [] [] := ⟨rfl, fun k v l h => by simp at h⟩

theorem RowsV.snoc {w : World} {us : List Value} {L : List (List Int)} (h : RowsV w us L) {v : Value} {l : List Int} (hv : IntsV w v l) : RowsV w (us ++ [v]) (L ++ [l]) := by
  refine ⟨by simp [h.1], fun k v' l' hk hl => ?_⟩
  by_cases hkk : k < us.length
  · rw [List.getElem?_append_left hkk] at hk
    rw [List.getElem?_append_left (by rw [← h.1]; exact hkk)] at hl
    exact h.2 k v' l' hk hl
  · rw [List.getElem?_append_right (by omega)] at hk
    rw [List.getElem?_append_right (by rw [← h.1]; omega), ← h.1] at hl
    have e : k - us.length = 0 := by
      have := (List.getElem?_eq_some_iff.1 hk).1
      simpa using this
    rw [e] at hk hl
    simp at hk hl
    subst hk; subst hl
    exact hv

theorem RowsV.of {w : World} {a : Option Addr} {n c : Nat} {vs : List Value} {L : List (List Int)} (h : Sl2 w a n c vs L) : RowsV w vs L := ⟨by rw [h.sl.len, h.len], h.row⟩

theorem RowsV.sl2 {w w' : World} {a : Option Addr} {n c : Nat} {vs : List Value} {L : List (List Int)} (h : RowsV w vs L) (hb : Below w.heap.size w w') (hs : Sl w' a n c vs) : Sl2 w' a n c vs L :=
  ⟨hs, by rw [← h.1]; exact hs.len, fun k v l hv hl => (h.2 k v l hv hl).below hb (Nat.le_refl _)⟩

end Base
end Go.Proofs.Ythhkngpbaflfiaa
