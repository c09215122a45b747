/-
  strings.Join by the shelf's contract; what it joins, as bytes.
-/
import Derived.Test.YtmiklgekcmeedaaLaws
import Derived.Shelf.Lay
import Derived.Shelf.Strings.OnBuilder
namespace Go.Proofs.Ytmiklgekcmeedaa
open Go.RowKit Base
set_option linter.unusedVariables false
set_option linter.unusedSimpArgs false
namespace Join
open Go.Shelf

shelf_lay Lays.n156 Nm 156 at Try as lays156

theorem extra156 : Builder.Extra Try.prog lays156_ren where
  sizeBuilder := by kernel_rfl
  liesBuilder := by kernel_rfl
  t5 := Try.underlying5
  a5 := Try.isAgg5
  z5 := Try.sizeOf5
  v5 := Try.zeroValue5
  infoByte := by kernel_rfl
  cellsByte := by kernel_rfl
  sizeByte := by kernel_rfl
  neB5 := by decide

/-- Strings that lie in a row. -/
def strs (xs : List ByteArray) : List Value := xs.map .string

theorem join_any (w : World) (a : Option Addr) (n c : Nat) (xs : List ByteArray) (h : Sl w a n c (strs xs)) (sep : ByteArray) (hbig : xs.length ≤ 140737488355328) (hlen : (Lib.join (xs.map (·.data.toList)) sep.data.toList).length ≤ 140737488355328) :
    Calls Try.prog 13 #[.slice a n c, .string sep] w fun e w' => e = .returned (.string ⟨(Lib.join (xs.map (·.data.toList)) sep.data.toList).toArray⟩) ∧ Below w.heap.size w w' := by
  have hl : xs.length = n := by have := h.len; unfold strs at this; rw [List.length_map] at this; exact this
  subst hl
  by_cases h0 : xs.length = 0
  · have hx : xs = [] := List.eq_nil_of_length_eq_zero h0
    subst hx
    refine (Any.strings_Join_none lays156 extra156 a c sep w).mono fun e w' ⟨he, hw⟩ => ?_
    subst hw
    exact ⟨he, Below.refl _ _⟩
  · obtain ⟨b, o, rfl, hb, _⟩ := h.cell 0 (.string (xs[0]'(by omega))) (by unfold strs; rw [List.getElem?_map, List.getElem?_eq_getElem (by omega)]; rfl)
    refine Any.strings_Join lays156 extra156 b o c xs sep w (fun j x hx => ?_) hb hbig h.cap hlen
    obtain ⟨b', o', e, _, hc⟩ := h.cell j (.string x) (by unfold strs; rw [List.getElem?_map, hx]; rfl)
    simp only [Option.some.injEq, Addr.mk.injEq, and_true] at e
    obtain ⟨rfl, rfl⟩ := e
    exact hc
end Join
end Go.Proofs.Ytmiklgekcmeedaa
