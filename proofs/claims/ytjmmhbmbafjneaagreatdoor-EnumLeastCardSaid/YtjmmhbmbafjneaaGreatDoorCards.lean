/-
  DERIVED. GIVEN WITH THE SEED: THE CARDS: each row of YtjmmhbmbafjneaaGreatDoorRows.lean that lists a variable, with what it lists TIED to the program's text (the seventh form; the later family's looks); each row that meets fmt, with fmt's text TOLD by the authors' own Lean function (tested against real Go, not proved from fmt's source: count such statements apart). THE CARD IS WHAT COUNTS. Prove the row's statement (the work); the ties are given (YtjmmhbmbafjneaaGreatDoorTie.lean); close each card by the builder's one call (the guide's Derived/Test/ToyasCard.lean, 'card_holds'). Laid BY PROGRAM, IN A SANDBOX (cutbox-door.mjs). By AI agents, Wed Nov 11 2026. No macro, syntax, notation, axiom, sorry.
-/
import Derived.Test.YtjmmhbmbafjneaaGreatDoorRows
import GoSem.ClaimSeven
namespace Go.Proofs.YtjmmhbmbafjneaaGreatDoor
namespace Rows

/-- THE TIED CARD OF 'interlocklaw28.EnumReach'. -/
def enumReachCard : Claim7 := { stood := { row := enumReachRow, standIns := [], harness := (true, "b3779894723677e87f5223ae22ab4eb79a474422e3c44b01f99449f98d592d20"), looks := true }, kinds := [], alts := [], laidByText := true, laidKinds := [.data, .pinned], laidTests := true, laidLooks := .later }
def EnumReachCardSaid : Prop := Claim7.holds Tryz.pinned (.plain (OpenSpec.ofChange enumReachSpec)) enumReachCard

/-- THE TIED CARD OF 'interlocklaw28.EnumMore'. -/
def enumMoreCard : Claim7 := { stood := { row := enumMoreRow, standIns := [], harness := (true, "b3779894723677e87f5223ae22ab4eb79a474422e3c44b01f99449f98d592d20"), looks := true }, kinds := [], alts := [], laidByText := true, laidKinds := [.data, .pinned], laidTests := true, laidLooks := .later }
def EnumMoreCardSaid : Prop := Claim7.holds Tryz.pinned (.plain (OpenSpec.ofChange enumMoreSpec)) enumMoreCard

/-- THE TIED CARD OF 'interlocklaw28.EnumTells'. -/
def enumTellsCard : Claim7 := { stood := { row := enumTellsRow, standIns := [], harness := (true, "b3779894723677e87f5223ae22ab4eb79a474422e3c44b01f99449f98d592d20"), looks := true }, kinds := [], alts := [], laidByText := true, laidKinds := [.data, .pinned], laidTests := true, laidLooks := .later }
def EnumTellsCardSaid : Prop := Claim7.holds Tryz.pinned (.plain (OpenSpec.ofChange enumTellsSpec)) enumTellsCard

/-- THE TIED CARD OF 'interlocklaw28.EnumLeast'. -/
def enumLeastCard : Claim7 := { stood := { row := enumLeastRow, standIns := [], harness := (true, "b3779894723677e87f5223ae22ab4eb79a474422e3c44b01f99449f98d592d20"), looks := true }, kinds := [], alts := [], laidByText := true, laidKinds := [.data, .pinned], laidTests := true, laidLooks := .later }
def EnumLeastCardSaid : Prop := Claim7.holds Tryz.pinned (.plain (OpenSpec.ofChange enumLeastSpec)) enumLeastCard

/-- THE SECOND FORM's CARD OF 'interlocklaw28.EnumReach'. -/
def enumReachUptoCard : Claim7 := { stood := { row := enumReachUptoRow, standIns := [], harness := (true, "b3779894723677e87f5223ae22ab4eb79a474422e3c44b01f99449f98d592d20"), looks := true }, kinds := [], alts := [], laidByText := true, laidKinds := [.data, .pinned], laidTests := true, laidLooks := .later }
def EnumReachUptoCardSaid : Prop := Claim7.holds Tryz.pinned (.plain (OpenSpec.upto enumReachSpec)) enumReachUptoCard

/-- THE SECOND FORM's CARD OF 'interlocklaw28.EnumMore'. -/
def enumMoreUptoCard : Claim7 := { stood := { row := enumMoreUptoRow, standIns := [], harness := (true, "b3779894723677e87f5223ae22ab4eb79a474422e3c44b01f99449f98d592d20"), looks := true }, kinds := [], alts := [], laidByText := true, laidKinds := [.data, .pinned], laidTests := true, laidLooks := .later }
def EnumMoreUptoCardSaid : Prop := Claim7.holds Tryz.pinned (.plain (OpenSpec.upto enumMoreSpec)) enumMoreUptoCard

/-- THE SECOND FORM's CARD OF 'interlocklaw28.EnumTells'. -/
def enumTellsUptoCard : Claim7 := { stood := { row := enumTellsUptoRow, standIns := [], harness := (true, "b3779894723677e87f5223ae22ab4eb79a474422e3c44b01f99449f98d592d20"), looks := true }, kinds := [], alts := [], laidByText := true, laidKinds := [.data, .pinned], laidTests := true, laidLooks := .later }
def EnumTellsUptoCardSaid : Prop := Claim7.holds Tryz.pinned (.plain (OpenSpec.upto enumTellsSpec)) enumTellsUptoCard

/-- THE SECOND FORM's CARD OF 'interlocklaw28.EnumLeast'. -/
def enumLeastUptoCard : Claim7 := { stood := { row := enumLeastUptoRow, standIns := [], harness := (true, "b3779894723677e87f5223ae22ab4eb79a474422e3c44b01f99449f98d592d20"), looks := true }, kinds := [], alts := [], laidByText := true, laidKinds := [.data, .pinned], laidTests := true, laidLooks := .later }
def EnumLeastUptoCardSaid : Prop := Claim7.holds Tryz.pinned (.plain (OpenSpec.upto enumLeastSpec)) enumLeastUptoCard
end Rows
end Go.Proofs.YtjmmhbmbafjneaaGreatDoor
