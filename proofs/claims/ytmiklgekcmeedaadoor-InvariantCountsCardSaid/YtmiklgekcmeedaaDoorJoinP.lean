/-
  The reference's Join of a clause's texts.
-/
import Derived.Test.YtmiklgekcmeedaaDoorLineD
namespace Go.Proofs.YtmiklgekcmeedaaDoor
open Go.RowKit Base
set_option linter.unusedVariables false
set_option linter.unusedSimpArgs false
namespace Dig
open Join (strs)

theorem join_snoc (xs : List (List UInt8)) (x sep : List UInt8) (h : xs ≠ []) : Lib.join (xs ++ [x]) sep = Lib.join xs sep ++ sep ++ x := by
  cases xs with
  | nil => exact absurd rfl h
  | cons y r =>
    rw [List.cons_append, Lib.join_cons, Lib.join_cons]
    simp [Lib.joinTail]

theorem line_snoc {l : List Int} {k : Nat} (hk : k < l.length) : lineT (l.take (k + 1)) = if k = 0 then pr l[k] else lineT (l.take k) ++ [32] ++ pr l[k] := by
  unfold lineT
  rw [List.take_succ_eq_append_getElem hk, List.map_append, List.map_cons, List.map_nil]
  by_cases h0 : k = 0
  · subst h0
    rw [if_pos rfl, List.take_zero, List.map_nil, List.nil_append, Lib.join_one]
  · rw [if_neg h0, join_snoc]
    intro e
    have h9 := congrArg List.length e
    rw [List.length_map, List.length_take, List.length_nil] at h9
    omega
end Dig
end Go.Proofs.YtmiklgekcmeedaaDoor
