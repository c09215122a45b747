/-
  No cell of these rows narrows 'for every input' (looked for: loops, veiled, ifaces, maps, wideKeys, modest, calm, conditions, laid).
  DERIVED. THE GIVEN ROWS OF THIS SEAT. 4 by the template 'for every input the law returns true; each argument reads behind the call as it read before'; 0 by the template 'total and deterministic' (their statements: YtpanpfbhdcanhaaTotals.lean).
  GIVEN WITH THE SEED: the statements are not yours to turn. If you find one false, say at which input.
  Laid BY PROGRAM, IN A SANDBOX (cutbox-rows.mjs): the forced cells as the released guide's own fill.sh prints them over the translation 3cf134a7aab86533… (all of the seat's roots in one cut). By AI agents, Wed Nov 11 2026. No macro, syntax, notation, axiom, sorry.
-/
import Derived.Test.YtpanpfbhdcanhaaChecked
import GoSem.Claim
import GoSem.ClaimJoined
import GoSem.ClaimMapViews
import Derived.JoinedTies
import Derived.KernelRfl
namespace Go.Proofs.Ytpanpfbhdcanhaa
/- THE CELL 'sum', in the pinned program and in every row, IS THE sha256 OF THE DUMP (.gsa) THAT YtpanpfbhdcanhaaProg.lean LOADS. Nothing in Lean hashes anything: it is a label: what it is worth is what the hold of that sum in a sandbox is worth. -/
noncomputable def Try.pinned : Pinned := { name := "ytpanpfbhdcanhaa", sum := "3cf134a7aab8653317cd9be6bbb8105637b8e957626f3cbcd0fda2c5c5654708", checked := Try.checked }
namespace Rows
def none {H : Type} : Left H := { results := [], args := [] }

/-- 'interlocklaw11.FormulaUnits': WHATEVER THE INPUT: true; the input reads as it did. -/
def formulaUnitsSpec : ChangeSpec := { name := "formulaUnits", fn := fun _ => fun
  | [d1, d2] => { results := [.lit (.bool true)], args := [d1, d2] }
  | _ => none }
def formulaUnitsRow : OpenClaim := { program := "ytpanpfbhdcanhaa", sum := "3cf134a7aab8653317cd9be6bbb8105637b8e957626f3cbcd0fda2c5c5654708", func := "interlock/interlocklaw11.FormulaUnits", spec := "formulaUnits", unfollowed := true, recurses := true, apart := false }
def FormulaUnitsSaid : Prop := formulaUnitsRow.holds Try.pinned (OpenSpec.ofChange formulaUnitsSpec)

/-- ITS FALSE NEIGHBOUR: 'it returns false'. Refute it at one input. -/
def formulaUnitsWrong : ChangeSpec := { name := "formulaUnits", fn := fun _ => fun
  | [d1, d2] => { results := [.lit (.bool false)], args := [d1, d2] }
  | _ => none }
def FormulaUnitsWrongFalsely : Prop := formulaUnitsRow.holds Try.pinned (OpenSpec.ofChange formulaUnitsWrong)

/-- 'interlocklaw11.FormulaBrute': WHATEVER THE INPUT: true; the input reads as it did. -/
def formulaBruteSpec : ChangeSpec := { name := "formulaBrute", fn := fun _ => fun
  | [d] => { results := [.lit (.bool true)], args := [d] }
  | _ => none }
def formulaBruteRow : OpenClaim := { program := "ytpanpfbhdcanhaa", sum := "3cf134a7aab8653317cd9be6bbb8105637b8e957626f3cbcd0fda2c5c5654708", func := "interlock/interlocklaw11.FormulaBrute", spec := "formulaBrute", unfollowed := true, recurses := true, apart := false }
def FormulaBruteSaid : Prop := formulaBruteRow.holds Try.pinned (OpenSpec.ofChange formulaBruteSpec)

/-- ITS FALSE NEIGHBOUR: 'it returns false'. Refute it at one input. -/
def formulaBruteWrong : ChangeSpec := { name := "formulaBrute", fn := fun _ => fun
  | [d] => { results := [.lit (.bool false)], args := [d] }
  | _ => none }
def FormulaBruteWrongFalsely : Prop := formulaBruteRow.holds Try.pinned (OpenSpec.ofChange formulaBruteWrong)

/-- 'interlocklaw11.FormulaTells': WHATEVER THE INPUT: true; the input reads as it did. -/
def formulaTellsSpec : ChangeSpec := { name := "formulaTells", fn := fun _ => fun
  | [d1, d2, d3, d4] => { results := [.lit (.bool true)], args := [d1, d2, d3, d4] }
  | _ => none }
def formulaTellsRow : OpenClaim := { program := "ytpanpfbhdcanhaa", sum := "3cf134a7aab8653317cd9be6bbb8105637b8e957626f3cbcd0fda2c5c5654708", func := "interlock/interlocklaw11.FormulaTells", spec := "formulaTells", unfollowed := true, recurses := true, apart := false }
def FormulaTellsSaid : Prop := formulaTellsRow.holds Try.pinned (OpenSpec.ofChange formulaTellsSpec)

/-- ITS FALSE NEIGHBOUR: 'it returns false'. Refute it at one input. -/
def formulaTellsWrong : ChangeSpec := { name := "formulaTells", fn := fun _ => fun
  | [d1, d2, d3, d4] => { results := [.lit (.bool false)], args := [d1, d2, d3, d4] }
  | _ => none }
def FormulaTellsWrongFalsely : Prop := formulaTellsRow.holds Try.pinned (OpenSpec.ofChange formulaTellsWrong)

/-- 'interlocklaw11.FormulaMore': WHATEVER THE INPUT: true; the input reads as it did. -/
def formulaMoreSpec : ChangeSpec := { name := "formulaMore", fn := fun _ => fun
  | [d1, d2, d3] => { results := [.lit (.bool true)], args := [d1, d2, d3] }
  | _ => none }
def formulaMoreRow : OpenClaim := { program := "ytpanpfbhdcanhaa", sum := "3cf134a7aab8653317cd9be6bbb8105637b8e957626f3cbcd0fda2c5c5654708", func := "interlock/interlocklaw11.FormulaMore", spec := "formulaMore", unfollowed := true, recurses := true, apart := false }
def FormulaMoreSaid : Prop := formulaMoreRow.holds Try.pinned (OpenSpec.ofChange formulaMoreSpec)

/-- ITS FALSE NEIGHBOUR: 'it returns false'. Refute it at one input. -/
def formulaMoreWrong : ChangeSpec := { name := "formulaMore", fn := fun _ => fun
  | [d1, d2, d3] => { results := [.lit (.bool false)], args := [d1, d2, d3] }
  | _ => none }
def FormulaMoreWrongFalsely : Prop := formulaMoreRow.holds Try.pinned (OpenSpec.ofChange formulaMoreWrong)

/- THE SECOND FORM. 'bulk': how many values and letters a reading holds, each counted each time it is reached (what is shared counts as often as it is met; a slice's spare places count too). A statement '..UptoSaid' is the law's where the arguments, and the package variables that the reading takes, are together of bulk at most 1048576: NARROWER than '..Said'. Prove '..Said' where nothing that the law and all that it calls make is longer than what came in: it says more and counts as full. Else prove '..UptoSaid'. A law counts once. -/
mutual
def uptoBulk {H : Type} : DataW H → Nat
  | .lit (.string bytes) => bytes.length + 1
  | .lit _ => 1
  | .nil => 1
  | .ptr d => uptoBulk d + 1
  | .slice elems spare => uptoBulkAll elems + uptoBulkAll spare + 1
  | .agg parts => uptoBulkAll parts + 1
  | .iface _ d => uptoBulk d + 1
  | .map entries => uptoBulkEntries entries + 1
  | .held _ => 1
def uptoBulkAll {H : Type} : List (DataW H) → Nat
  | [] => 0
  | d :: r => uptoBulk d + uptoBulkAll r
def uptoBulkEntries {H : Type} : List (Lit × DataW H) → Nat
  | [] => 0
  | x :: r => uptoBulkEntry x + uptoBulkEntries r
def uptoBulkEntry {H : Type} : Lit × DataW H → Nat
  | (.string bytes, d) => bytes.length + uptoBulk d + 1
  | (_, d) => uptoBulk d + 1
 end
def uptoSmall : (H : Type) → List (DataW H) → Bool := fun _ ds => decide (uptoBulkAll ds ≤ 1048576)
def OpenSpec.upto (s : _root_.Go.ChangeSpec) : _root_.Go.OpenSpec := { _root_.Go.OpenSpec.ofChange s with cond := some uptoSmall }

/-- 'interlocklaw11.FormulaUnits', WHERE WHAT IT READS IS OF BULK AT MOST 1048576: true; the input reads as it did. -/
def formulaUnitsUptoRow : OpenClaim := { program := "ytpanpfbhdcanhaa", sum := "3cf134a7aab8653317cd9be6bbb8105637b8e957626f3cbcd0fda2c5c5654708", func := "interlock/interlocklaw11.FormulaUnits", spec := "formulaUnits", unfollowed := true, recurses := true, apart := false, narrowed := true }
def FormulaUnitsUptoSaid : Prop := formulaUnitsUptoRow.holds Try.pinned (OpenSpec.upto formulaUnitsSpec)

/-- 'interlocklaw11.FormulaBrute', WHERE WHAT IT READS IS OF BULK AT MOST 1048576: true; the input reads as it did. -/
def formulaBruteUptoRow : OpenClaim := { program := "ytpanpfbhdcanhaa", sum := "3cf134a7aab8653317cd9be6bbb8105637b8e957626f3cbcd0fda2c5c5654708", func := "interlock/interlocklaw11.FormulaBrute", spec := "formulaBrute", unfollowed := true, recurses := true, apart := false, narrowed := true }
def FormulaBruteUptoSaid : Prop := formulaBruteUptoRow.holds Try.pinned (OpenSpec.upto formulaBruteSpec)

/-- 'interlocklaw11.FormulaTells', WHERE WHAT IT READS IS OF BULK AT MOST 1048576: true; the input reads as it did. -/
def formulaTellsUptoRow : OpenClaim := { program := "ytpanpfbhdcanhaa", sum := "3cf134a7aab8653317cd9be6bbb8105637b8e957626f3cbcd0fda2c5c5654708", func := "interlock/interlocklaw11.FormulaTells", spec := "formulaTells", unfollowed := true, recurses := true, apart := false, narrowed := true }
def FormulaTellsUptoSaid : Prop := formulaTellsUptoRow.holds Try.pinned (OpenSpec.upto formulaTellsSpec)

/-- 'interlocklaw11.FormulaMore', WHERE WHAT IT READS IS OF BULK AT MOST 1048576: true; the input reads as it did. -/
def formulaMoreUptoRow : OpenClaim := { program := "ytpanpfbhdcanhaa", sum := "3cf134a7aab8653317cd9be6bbb8105637b8e957626f3cbcd0fda2c5c5654708", func := "interlock/interlocklaw11.FormulaMore", spec := "formulaMore", unfollowed := true, recurses := true, apart := false, narrowed := true }
def FormulaMoreUptoSaid : Prop := formulaMoreUptoRow.holds Try.pinned (OpenSpec.upto formulaMoreSpec)

end Rows
end Go.Proofs.Ytpanpfbhdcanhaa
