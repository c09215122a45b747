/-
  Plain: the text of clauses. No program.
-/
import Derived.Test.YtmiklgekcmeedaaDoorJoinP
import Derived.Test.YtmiklgekcmeedaaDoorTextP
namespace Go.Proofs.YtmiklgekcmeedaaDoor.Inv
open Dig
set_option linter.unusedVariables false
set_option linter.unusedSimpArgs false

def want (L : Nat) (l : List (List Int)) : List UInt8 := hd L ++ [10] ++ (l.map fun x => lineT x ++ [10]).flatten

theorem tail_turn (sep : List UInt8) (r : List (List UInt8)) : Lib.joinTail sep r ++ sep = sep ++ (r.map (· ++ sep)).flatten := by
  induction r with
  | nil => simp [Lib.joinTail]
  | cons x r ih =>
    have e : Lib.joinTail sep (x :: r) = (sep ++ x) ++ Lib.joinTail sep r := by simp [Lib.joinTail]
    rw [e, List.append_assoc, ih]
    simp

theorem text_want (l : List (List Int)) : textP l = want l.length l ++ [46, 10] := by
  unfold textP want
  rw [Lib.join_cons, List.append_assoc, tail_turn]
  rw [List.map_append, List.flatten_append, List.map_map]
  simp
  rfl

theorem want_snoc (L : Nat) {l : List (List Int)} {k : Nat} (hk : k < l.length) : want L (l.take (k + 1)) = want L (l.take k) ++ lineT l[k] ++ [10] := by
  unfold want
  rw [List.take_succ_eq_append_getElem hk, List.map_append, List.flatten_append]
  simp

theorem hd_len {n : Nat} (h : n ≤ 9223372036854775807) : (hd n).length ≤ 25 := by
  have := pr_len (x := (n : Int)) (by omega)
  unfold hd
  rw [List.length_append]
  simp
  omega

theorem want_len {L : Nat} (hL : L ≤ 9223372036854775807) (l : List (List Int)) (h : ∀ x ∈ l, Clause.Wf x ∧ x.length ≤ 1024) : (want L l).length ≤ 26 + l.length * 22529 := by
  have h1 := hd_len hL
  unfold want
  rw [List.length_append, List.length_append]
  have h2 : ((l.map fun x => lineT x ++ [10]).flatten).length ≤ l.length * 22529 := by
    clear h1
    induction l with
    | nil => simp
    | cons x r ih =>
      have h3 := ih fun y hy => h y (List.mem_cons_of_mem _ hy)
      have h4 := h x List.mem_cons_self
      have h5 := line_len h4.1
      have h6 := h4.2
      have e9 : (x :: r).length * 22529 = r.length * 22529 + 22529 := by rw [List.length_cons, Nat.succ_mul]
      have e1 : ([10] : List UInt8).length = 1 := rfl
      rw [List.map_cons, List.flatten_cons, List.length_append, List.length_append, e9, e1]
      omega
  have e1 : ([10] : List UInt8).length = 1 := rfl
  rw [e1]
  omega
end Go.Proofs.YtmiklgekcmeedaaDoor.Inv
