/-
  Words that all later texts use: a slice value and what its elements are, one cell each; carried over worlds that only grow.
-/
import Derived.Test.YtjmmhbmbafjneaaGreatDoorRows
import Derived.WalkKit
import Derived.WalkSpells
import Derived.WalkLawsBesides
import Derived.Lib.Hide
import Derived.Deep.LoopGhost
namespace Go.Proofs.YtjmmhbmbafjneaaGreatDoor
open Go.RowKit
set_option linter.unusedVariables false

namespace Base

theorem ret_int {k : IntKind} {a b : Int} (h : a = b) : Ending.returned (.int k a) = .returned (.int k b) := by rw [h]
theorem ret_bool {a b : Bool} (h : a = b) : Ending.returned (.bool a) = .returned (.bool b) := by rw [h]

/-- Old cells and old marks, of a world that is as it was below. -/
theorem bcell {W w1 : World} (hb : Below W.heap.size W w1) : (∀ b o, b < W.heap.size → w1.cell? ⟨b, o, none⟩ = W.cell? ⟨b, o, none⟩) ∧ (∀ b o, b < W.heap.size → w1.frozen? ⟨b, o, none⟩ = W.frozen? ⟨b, o, none⟩) :=
  ⟨fun b o h => hb.cell (p := ⟨b, o, none⟩) h, fun b o h => hb.frozen (p := ⟨b, o, none⟩) h⟩

/-- v is a slice whose elements are vs, a cell each. -/
structure Sl (w : World) (a : Option Addr) (n c : Nat) (vs : List Value) : Prop where
  len : vs.length = n
  cap : n ≤ c
  big : c ≤ 9223372036854775807
  bare : a = none → n = 0 ∧ c = 0
  cell : ∀ (k : Nat) (x : Value), vs[k]? = some x → ∃ b o, a = some ⟨b, o, none⟩ ∧ b < w.heap.size ∧ w.cell? ⟨b, o + k, none⟩ = some x

theorem Sl.below {B : Nat} {w w' : World} {a : Option Addr} {n c : Nat} {vs : List Value} (h : Sl w a n c vs) (hb : Below B w w') (hB : w.heap.size ≤ B) : Sl w' a n c vs :=
  ⟨h.len, h.cap, h.big, h.bare, fun k x hx => by
    obtain ⟨b, o, ha, hs, hc⟩ := h.cell k x hx
    exact ⟨b, o, ha, Nat.lt_of_lt_of_le hs hb.size, (hb.cell (p := ⟨b, o + k, none⟩) (Nat.lt_of_lt_of_le hs hB)).trans hc⟩⟩

theorem Sl.next {w w' : World} {a : Option Addr} {n c : Nat} {vs : List Value} (h : Sl w a n c vs) (hb : Below w.heap.size w w') : Sl w' a n c vs := h.below hb (Nat.le_refl _)

/-- The address of a slice with an element, and that element's cell. -/
theorem Sl.at {w : World} {a : Option Addr} {n c : Nat} {vs : List Value} (h : Sl w a n c vs) {k : Nat} (hk : k < n) :
    ∃ b o x, a = some ⟨b, o, none⟩ ∧ b < w.heap.size ∧ vs[k]? = some x ∧ w.cell? ⟨b, o + k, none⟩ = some x := by
  have hl := h.len
  obtain ⟨b, o, ha, hs, hc⟩ := h.cell k vs[k] (List.getElem?_eq_getElem (by omega))
  exact ⟨b, o, vs[k], ha, hs, List.getElem?_eq_getElem (by omega), hc⟩

/-- The nil slice. -/
theorem Sl.nil (w : World) : Sl w none 0 0 [] := ⟨rfl, Nat.le_refl _, by omega, fun _ => ⟨rfl, rfl⟩, fun k x h => by simp at h⟩

def ints (xs : List Int) : List Value := xs.map (Value.int .i64)

theorem ints_at {xs : List Int} {k : Nat} {x : Value} (h : (ints xs)[k]? = some x) : ∃ h : k < xs.length, x = .int .i64 xs[k] := by
  unfold ints at h
  rw [List.getElem?_map, Option.map_eq_some_iff] at h
  obtain ⟨y, hy, rfl⟩ := h
  obtain ⟨hk, rfl⟩ := List.getElem?_eq_some_iff.1 hy
  exact ⟨hk, rfl⟩

theorem ints_len (xs : List Int) : (ints xs).length = xs.length := by simp [ints]

/-- An element of a slice of integers. -/
theorem Sl.int {w : World} {a : Option Addr} {n c : Nat} {xs : List Int} (h : Sl w a n c (ints xs)) {k : Nat} (hk : k < n) :
    ∃ b o, ∃ hx : k < xs.length, a = some ⟨b, o, none⟩ ∧ b < w.heap.size ∧ w.cell? ⟨b, o + k, none⟩ = some (.int .i64 xs[k]) := by
  obtain ⟨b, o, x, ha, hs, hx, hc⟩ := h.at hk
  obtain ⟨hk', rfl⟩ := ints_at hx
  exact ⟨b, o, hk', ha, hs, hc⟩

/-- Where the first element stands of which p holds, from place k on; -1: nowhere. -/
def idx {α : Type} (p : α → Bool) : List α → Nat → Int
  | [], _ => -1
  | x :: r, k => if p x then k else idx p r (k + 1)

theorem idx_iff {α : Type} (p : α → Bool) (l : List α) (k : Nat) : 0 ≤ idx p l k ↔ l.any p = true := by
  induction l generalizing k with
  | nil => simp [idx]
  | cons x r ih =>
    unfold idx
    by_cases h : p x = true
    · rw [if_pos h]; simp [h]
    · rw [if_neg h, ih (k + 1)]; simp [h]

theorem idx_nn {α : Type} (p : α → Bool) (l : List α) (k : Nat) : decide (0 ≤ idx p l k) = l.any p := by
  by_cases h : l.any p = true
  · rw [h]; exact decide_eq_true ((idx_iff p l k).2 h)
  · rw [Bool.eq_false_iff.2 h]; exact decide_eq_false (fun h' => h ((idx_iff p l k).1 h'))

end Base
end Go.Proofs.YtjmmhbmbafjneaaGreatDoor
