/-
  Between the words of the shelf's contracts on slices (a row held, a row put) and a slice of the call's own.
-/
import Derived.Test.YtmiklgekcmeedaaDoorLaws
import Derived.Sort.Grow
import Derived.Shelf.SlSortCmp.Whole1
namespace Go.Proofs.YtmiklgekcmeedaaDoor
open Go.RowKit Base Go.Sort
set_option linter.unusedVariables false
set_option linter.unusedSimpArgs false
namespace OwnP
variable {α : Type} [Inhabited α] {enc : α → Value}

theorem holds {w : World} {g : Nat} {cur : Array Value} {e : TypeId} {xs : List α} (hb : w.heap[g]? = some (.cells cur e (0, 0))) (ht : cur.toList.take xs.length = xs.map enc) : Holds enc w g 0 xs.toArray := by
  intro j hj
  have hj' : j < xs.length := by simpa using hj
  refine ⟨?_, by simp [World.frozen?, hb]⟩
  have h1 : (cur.toList.take xs.length)[j]? = (xs.map enc)[j]? := by rw [ht]
  rw [List.getElem?_take_of_lt hj'] at h1
  simp only [World.cell?, hb, Nat.zero_add]
  simp only [Option.isSome_none, Bool.false_eq_true, if_false]
  rw [← Array.getElem?_toList, h1]
  simp [hj']

theorem heap_put {w : World} {g n : Nat} {os : Array Obj} {cur : Array Value} {e : TypeId} {fr : Nat × Nat} (d : Array α) (hb : w.heap[g]? = some (.cells cur e fr)) :
    (grow (putRow enc (Sort.ahead w n) g 0 d) os).heap[g]? = some (.cells (putCells enc 0 d cur) e fr) := by
  have hg : g < w.heap.size := (Array.getElem?_eq_some_iff.1 hb).1
  rw [heap_grow_old _ _ (by simpa using hg)]
  simp [putRow, mapBlock, Sort.ahead, Array.getElem?_modify, hb, onCells]

theorem below_put {w : World} {B g n : Nat} {os : Array Obj} (d : Array α) (hB : B ≤ g) (hs : B ≤ w.heap.size) : Below B w (grow (putRow enc (Sort.ahead w n) g 0 d) os) := by
  refine ⟨rfl, rfl, rfl, by simp, fun k hk => ?_⟩
  rw [heap_grow_old _ _ (by simp; omega)]
  have : g ≠ k := by omega
  simp [putRow, mapBlock, Sort.ahead, Array.getElem?_modify, this]

theorem take_put (cur : Array Value) (ys zs : List α) (h : (ys ++ zs).length ≤ cur.size) : (putCells enc 0 (ys ++ zs).toArray cur).toList.take ys.length = ys.map enc := by
  apply List.ext_getElem?
  intro j
  simp only [List.length_append] at h
  by_cases hj : j < ys.length
  · rw [List.getElem?_take_of_lt hj, Array.getElem?_toList]
    simp [putCells, hj, show j < cur.size by omega, show j < ys.length + zs.length by omega]
  · rw [List.getElem?_take_eq_none (by omega), List.getElem?_eq_none (by simp; omega)]

/-- Behind such a call the slice owns what was put (its front). -/
theorem own_put {w : World} {base g cap n : Nat} {e : TypeId} {os : Array Obj} {cur : Array Value} {ys zs : List α} (hbase : base ≤ g) (hb : w.heap[g]? = some (.cells cur e (0, 0)))
    (h1 : (ys ++ zs).length ≤ cap) (h2 : cap ≤ maxLen) (h3 : cur.size = cap * 1) :
    (grow (putRow enc (Sort.ahead w n) g 0 (ys ++ zs).toArray) os).ownsRow base e 1 (.slice (some ⟨g, 0, none⟩) ys.length cap) ys.length (ys.map enc) := by
  refine ⟨by simp, .inr ⟨g, cap, _, rfl, hbase, heap_put _ hb, ?_, h2, by simp [putCells, h3], by rw [Nat.mul_one]; exact take_put cur ys zs (by omega)⟩⟩
  simp only [List.length_append] at h1
  omega

theorem grow_nil (w : World) : grow w #[] = w := by
  simp [grow]

end OwnP
end Go.Proofs.YtmiklgekcmeedaaDoor
