/-
  interlocklaw11.FormulaBrute: the walk, in the form that the law's frame wants.
-/
import Derived.Test.YtpanpfbhdcanhaaFormulaBrute
import Derived.Test.YtpanpfbhdcanhaaOpenFormula
namespace Go.Proofs.Ytpanpfbhdcanhaa.formulaBrute
open Go.RowKit Base
set_option linter.unusedVariables false
theorem walk (u0 : Int) (l0 : -9223372036854775808 ≤ u0) (g0 : u0 ≤ 9223372036854775807) (a0 : Option Addr) (c0 : Nat) (x0 : List (List Int)) (y0 : List Value) {w : World} (s0 : Sl2 w a0 x0.length c0 y0 x0) (w0 : Formula.Wf2 x0) (W : World) (hW : W = w) :
    Calls Try.prog 4 #[.agg #[.int .i64 u0, .slice a0 x0.length c0]] W fun e w' => e = .returned (.bool true) ∧ Below W.heap.size W w' := by
  subst hW
  exact LawBrute.any W u0 a0 _ c0 y0 x0 s0 w0
end Go.Proofs.Ytpanpfbhdcanhaa.formulaBrute
