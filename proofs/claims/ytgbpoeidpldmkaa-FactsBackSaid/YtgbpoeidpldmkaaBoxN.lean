/-
  A box of cells that may be written. No program's function.
-/
import Derived.Test.YtgbpoeidpldmkaaTrip
namespace Go.Proofs.Ytgbpoeidpldmkaa
open Go.RowKit
set_option linter.unusedVariables false
set_option linter.unusedSimpArgs false
namespace Base
/-- Block N holds these cells, and may be written. -/
structure BoxN (N : Nat) (cs : List Value) (w : World) : Prop where
  lt : N < w.heap.size
  at' : ∀ j u, cs[j]? = some u → w.cell? ⟨N, j, none⟩ = some u
  fz : ∀ j, w.frozen? ⟨N, j, none⟩ = false

theorem BoxN.new (w : World) (cs : Array Value) (t : TypeId) : BoxN w.heap.size cs.toList (w.alloc (.cells cs t)) := by
  refine ⟨by simp, fun j u hu => ?_, fun j => by simp [go_sem]⟩
  simp [go_sem]
  simpa using hu

theorem BoxN.next {N : Nat} {cs : List Value} {w w' : World} (h : BoxN N cs w) {B : Nat} (hb : Below B w w') (hB : N < B) : BoxN N cs w' :=
  ⟨Nat.lt_of_lt_of_le h.lt hb.size, fun j u hu => (hb.cell (p := ⟨N, j, none⟩) hB).trans (h.at' j u hu), fun j => (hb.frozen (p := ⟨N, j, none⟩) hB).trans (h.fz j)⟩

theorem BoxN.holds {N : Nat} {cs : List Value} {w w' : World} (h : BoxN N cs w) {B : Nat} (hb : Holds B w w') (hB : B ≤ N) : BoxN N cs w' := by
  have hblk := hb.block N hB h.lt
  refine ⟨Nat.lt_of_lt_of_le h.lt hb.size, fun j u hu => ?_, fun j => ?_⟩
  · exact (World.cell?_of_block (w := w) (a := ⟨N, j, none⟩) hblk).trans (h.at' j u hu)
  · exact (World.frozen?_of_block (w := w) (a := ⟨N, j, none⟩) hblk).trans (h.fz j)

theorem BoxN.set {N : Nat} {cs : List Value} {w : World} (h : BoxN N cs w) (j : Nat) (u : Value) : BoxN N (cs.set j u) (w.setCell ⟨N, j, none⟩ u) := by
  refine ⟨by simpa [World.setCell] using h.lt, fun i v hv => ?_, fun i => by rw [World.frozen?_setCell]; exact h.fz i⟩
  by_cases hij : j = i
  · subst hij
    obtain ⟨hl, he⟩ := List.getElem?_eq_some_iff.1 hv
    rw [List.length_set] at hl
    have h0 := h.at' j cs[j] (List.getElem?_eq_getElem hl)
    have : v = u := by rw [← he]; simp
    subst this
    exact World.cell?_setCell_same' _ _ _ (by rw [h0]; rfl)
  · rw [List.getElem?_set_ne hij] at hv
    rw [World.cell?_setCell_other _ _ _ _ (by intro e; simp only [Addr.mk.injEq, and_true, true_and] at e; exact hij e)]
    exact h.at' i v hv

theorem BoxN.other {N : Nat} {cs : List Value} {w : World} (h : BoxN N cs w) {a : Addr} (ha : a.block ≠ N) (u : Value) : BoxN N cs (w.setCell a u) := by
  refine ⟨by simpa [World.setCell] using h.lt, fun i v hv => ?_, fun i => by rw [World.frozen?_setCell]; exact h.fz i⟩
  rw [World.cell?_setCell_other _ _ _ _ (by intro e; apply ha; rw [e])]
  exact h.at' i v hv
end Base
end Go.Proofs.Ytgbpoeidpldmkaa
