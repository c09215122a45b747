/-
  DERIVED. GIVEN WITH THE SEED: THE CARDS: each row of YtmiklgekcmeedaaDoorRows.lean that lists a variable, with what it lists TIED to the program's text (the seventh form; the later family's looks); each row that meets fmt, with fmt's text TOLD by the authors' own Lean function (tested against real Go, not proved from fmt's source: count such statements apart). THE CARD IS WHAT COUNTS. Prove the row's statement (the work); the ties are given (YtmiklgekcmeedaaDoorTie.lean); close each card by the builder's one call (the guide's Derived/Test/ToyasCard.lean, 'card_holds'). Laid BY PROGRAM, IN A SANDBOX (cutbox-door.mjs). By AI agents, Wed Nov 11 2026. No macro, syntax, notation, axiom, sorry.
-/
import Derived.Test.YtmiklgekcmeedaaDoorRows
import GoSem.ClaimSeven
namespace Go.Proofs.YtmiklgekcmeedaaDoor
namespace Rows

/-- THE TIED CARD OF 'interlocklaw26.InvariantBack'. -/
def invariantBackCard : Claim7 := { stood := { row := invariantBackRow, standIns := [], harness := (true, "3a1a81d8c667bc12ec99dd541ba95e4e09b808e7c53d429874bdd04f3187d7bf"), looks := false }, kinds := [], alts := [], laidByText := true, laidKinds := [.data, .pinned], laidTests := true, laidLooks := .later }
def InvariantBackCardSaid : Prop := Claim7.holds Tryd.pinned (.plain (OpenSpec.ofChange invariantBackSpec)) invariantBackCard

/-- THE TIED CARD OF 'interlocklaw26.InvariantCounts'. -/
def invariantCountsCard : Claim7 := { stood := { row := invariantCountsRow, standIns := [], harness := (true, "3a1a81d8c667bc12ec99dd541ba95e4e09b808e7c53d429874bdd04f3187d7bf"), looks := false }, kinds := [], alts := [], laidByText := true, laidKinds := [.data, .pinned], laidTests := true, laidLooks := .later }
def InvariantCountsCardSaid : Prop := Claim7.holds Tryd.pinned (.plain (OpenSpec.ofChange invariantCountsSpec)) invariantCountsCard

/-- THE SECOND FORM's CARD OF 'interlocklaw26.InvariantBack'. -/
def invariantBackUptoCard : Claim7 := { stood := { row := invariantBackUptoRow, standIns := [], harness := (true, "3a1a81d8c667bc12ec99dd541ba95e4e09b808e7c53d429874bdd04f3187d7bf"), looks := false }, kinds := [], alts := [], laidByText := true, laidKinds := [.data, .pinned], laidTests := true, laidLooks := .later }
def InvariantBackUptoCardSaid : Prop := Claim7.holds Tryd.pinned (.plain (OpenSpec.upto invariantBackSpec)) invariantBackUptoCard

/-- THE SECOND FORM's CARD OF 'interlocklaw26.InvariantCounts'. -/
def invariantCountsUptoCard : Claim7 := { stood := { row := invariantCountsUptoRow, standIns := [], harness := (true, "3a1a81d8c667bc12ec99dd541ba95e4e09b808e7c53d429874bdd04f3187d7bf"), looks := false }, kinds := [], alts := [], laidByText := true, laidKinds := [.data, .pinned], laidTests := true, laidLooks := .later }
def InvariantCountsUptoCardSaid : Prop := Claim7.holds Tryd.pinned (.plain (OpenSpec.upto invariantCountsSpec)) invariantCountsUptoCard
end Rows
end Go.Proofs.YtmiklgekcmeedaaDoor
