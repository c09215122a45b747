/-
  DERIVED. GIVEN WITH THE SEED: THE CARDS: each row of YtninglnchengeaaGreatDoorRows.lean that lists a variable, with what it lists TIED to the program's text (the seventh form; the later family's looks); each row that meets fmt, with fmt's text TOLD by the authors' own Lean function (tested against real Go, not proved from fmt's source: count such statements apart). THE CARD IS WHAT COUNTS. Prove the row's statement (the work); the ties are given (YtninglnchengeaaGreatDoorTie.lean); close each card by the builder's one call (the guide's Derived/Test/ToyasCard.lean, 'card_holds'). Laid BY PROGRAM, IN A SANDBOX (cutbox-door.mjs). By AI agents, Wed Nov 11 2026. No macro, syntax, notation, axiom, sorry.
-/
import Derived.Test.YtninglnchengeaaGreatDoorRows
import GoSem.ClaimSeven
namespace Go.Proofs.YtninglnchengeaaGreatDoor
namespace Rows

/-- THE TIED CARD OF 'interlocklaw35.CoiRefuses'. -/
def coiRefusesCard : Claim7 := { stood := { row := coiRefusesRow, standIns := [], harness := (true, "09f39dc81952872272d7a7fdc40e40c77629b311509f23fa21ead6e1ef1706c2"), looks := true }, kinds := [], alts := [], laidByText := true, laidKinds := [.data, .pinned], laidTests := true, laidLooks := .later }
def CoiRefusesCardSaid : Prop := Claim7.holds Tryz.pinned (.plain (OpenSpec.ofChange coiRefusesSpec)) coiRefusesCard

/-- THE TIED CARD OF 'interlocklaw35.CoiSpreads'. -/
def coiSpreadsCard : Claim7 := { stood := { row := coiSpreadsRow, standIns := [], harness := (true, "09f39dc81952872272d7a7fdc40e40c77629b311509f23fa21ead6e1ef1706c2"), looks := true }, kinds := [], alts := [], laidByText := true, laidKinds := [.data, .pinned], laidTests := true, laidLooks := .later }
def CoiSpreadsCardSaid : Prop := Claim7.holds Tryz.pinned (.plain (OpenSpec.ofChange coiSpreadsSpec)) coiSpreadsCard

/-- THE SECOND FORM's CARD OF 'interlocklaw35.CoiRefuses'. -/
def coiRefusesUptoCard : Claim7 := { stood := { row := coiRefusesUptoRow, standIns := [], harness := (true, "09f39dc81952872272d7a7fdc40e40c77629b311509f23fa21ead6e1ef1706c2"), looks := true }, kinds := [], alts := [], laidByText := true, laidKinds := [.data, .pinned], laidTests := true, laidLooks := .later }
def CoiRefusesUptoCardSaid : Prop := Claim7.holds Tryz.pinned (.plain (OpenSpec.upto coiRefusesSpec)) coiRefusesUptoCard

/-- THE SECOND FORM's CARD OF 'interlocklaw35.CoiSpreads'. -/
def coiSpreadsUptoCard : Claim7 := { stood := { row := coiSpreadsUptoRow, standIns := [], harness := (true, "09f39dc81952872272d7a7fdc40e40c77629b311509f23fa21ead6e1ef1706c2"), looks := true }, kinds := [], alts := [], laidByText := true, laidKinds := [.data, .pinned], laidTests := true, laidLooks := .later }
def CoiSpreadsUptoCardSaid : Prop := Claim7.holds Tryz.pinned (.plain (OpenSpec.upto coiSpreadsSpec)) coiSpreadsUptoCard
end Rows
end Go.Proofs.YtninglnchengeaaGreatDoor
