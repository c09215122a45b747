/-
  DERIVED. GIVEN WITH THE SEED: THE CARDS: each row of YtllbncfcnjmbmaaDoorRows.lean that lists a variable, with what it lists TIED to the program's text (the seventh form; the later family's looks); each row that meets fmt, with fmt's text TOLD by the authors' own Lean function (tested against real Go, not proved from fmt's source: count such statements apart). THE CARD IS WHAT COUNTS. Prove the row's statement (the work); the ties are given (YtllbncfcnjmbmaaDoorTie.lean); close each card by the builder's one call (the guide's Derived/Test/ToyasCard.lean, 'card_holds'). Laid BY PROGRAM, IN A SANDBOX (cutbox-door.mjs). By AI agents, Wed Nov 11 2026. No macro, syntax, notation, axiom, sorry.
-/
import Derived.Test.YtllbncfcnjmbmaaDoorRows
import GoSem.ClaimSeven
namespace Go.Proofs.YtllbncfcnjmbmaaDoor
namespace Rows

/-- THE TIED CARD OF 'interlocklaw21.CubeMeets'. -/
def cubeMeetsCard : Claim7 := { stood := { row := cubeMeetsRow, standIns := [], harness := (true, "091e0e9c5c5590e0fa0741b87948dc6b62ff615e56ceac477382c5530372b637"), looks := true }, kinds := [], alts := [], laidByText := true, laidKinds := [.data, .pinned], laidTests := true, laidLooks := .later }
def CubeMeetsCardSaid : Prop := Claim7.holds Tryd.pinned (.plain (OpenSpec.ofChange cubeMeetsSpec)) cubeMeetsCard

/-- THE SECOND FORM's CARD OF 'interlocklaw21.CubeMeets'. -/
def cubeMeetsUptoCard : Claim7 := { stood := { row := cubeMeetsUptoRow, standIns := [], harness := (true, "091e0e9c5c5590e0fa0741b87948dc6b62ff615e56ceac477382c5530372b637"), looks := true }, kinds := [], alts := [], laidByText := true, laidKinds := [.data, .pinned], laidTests := true, laidLooks := .later }
def CubeMeetsUptoCardSaid : Prop := Claim7.holds Tryd.pinned (.plain (OpenSpec.upto cubeMeetsSpec)) cubeMeetsUptoCard
end Rows
end Go.Proofs.YtllbncfcnjmbmaaDoor
