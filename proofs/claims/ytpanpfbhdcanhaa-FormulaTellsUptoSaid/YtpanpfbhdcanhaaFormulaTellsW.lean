/-
  interlocklaw11.FormulaTells: the walk, in the form that the law's frame wants.
-/
import Derived.Test.YtpanpfbhdcanhaaFormulaTells
import Derived.Test.YtpanpfbhdcanhaaOpenFormula
namespace Go.Proofs.Ytpanpfbhdcanhaa.formulaTells
open Go.RowKit Base
set_option linter.unusedVariables false
theorem walk (u0 : Int) (l0 : -9223372036854775808 ≤ u0) (g0 : u0 ≤ 9223372036854775807) (a0 : Option Addr) (c0 : Nat) (x0 : List (List Int)) (y0 : List Value) {w : World} (s0 : Sl2 w a0 x0.length c0 y0 x0) (w0 : Formula.Wf2 x0) (z0 : Open.bulkRows x0 ≤ 1048576)
    (s : ByteArray) (hs : s.size ≤ 1048576) (a2 : Option Addr) (c2 : Nat) (x2 : List Int) (s2 : Sl w a2 x2.length c2 (ints x2)) (w2 : Clause.Wf x2) (z2 : Open.bulkInts x2 ≤ 1048576)
    (a1 : Option Addr) (c1 : Nat) (x1 : List (List Int)) (y1 : List Value) (s1 : Sl2 w a1 x1.length c1 y1 x1) (w1 : Formula.Wf2 x1) (z1 : Open.bulkRows x1 ≤ 1048576) (W : World) (hW : W = w) :
    Calls Try.prog 5 #[.agg #[.int .i64 u0, .slice a0 x0.length c0], .string s, .slice a2 x2.length c2, .slice a1 x1.length c1] W fun e w' => e = .returned (.bool true) ∧ Below W.heap.size W w' := by
  subst hW
  have h0 := Open.bulkRows_len x0
  have h1 := Open.bulkRows_len x1
  refine Tells.tells_any W u0 a0 _ c0 y0 x0 s0 w0 s (by omega) a2 _ c2 x2 s2 w2 a1 _ c1 y1 x1 s1 w1 (by omega) ?_
  intro l hl
  rcases List.mem_append.1 hl with h | h
  · have := h0.2 l h; omega
  · have := h1.2 l h; omega
end Go.Proofs.Ytpanpfbhdcanhaa.formulaTells
