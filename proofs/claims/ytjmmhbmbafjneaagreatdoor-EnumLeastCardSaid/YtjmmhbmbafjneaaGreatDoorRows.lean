/-
  NARROWER THAN 'FOR EVERY INPUT', by the rows' own cells (each row's printed sentence says how): EnumReach: laid · EnumMore: laid · EnumTells: laid · EnumLeast: laid.
  DERIVED. THE GIVEN ROWS OF THIS SEAT. 4 by the template 'for every input the law returns true; each argument reads behind the call as it read before'; 0 by the template 'total and deterministic' (their statements: YtjmmhbmbafjneaaGreatDoorTotals.lean).
  GIVEN WITH THE SEED: the statements are not yours to turn. If you find one false, say at which input.
  Laid BY PROGRAM, IN A SANDBOX (cutbox-rows.mjs): the forced cells as the released guide's own fill.sh prints them over the translation 7824e98eccc2bcab… (all of the seat's roots in one cut). By AI agents, Wed Nov 11 2026. No macro, syntax, notation, axiom, sorry.
-/
import Derived.Test.YtjmmhbmbafjneaaGreatDoorChecked
import GoSem.PinnedTables
import GoSem.Claim
import GoSem.ClaimJoined
import GoSem.ClaimMapViews
import Derived.JoinedTies
import Derived.KernelRfl
namespace Go.Proofs.YtjmmhbmbafjneaaGreatDoor
/- THE CELL 'sum', in the pinned program and in every row, IS THE sha256 OF THE DUMP (.gsa) THAT YtjmmhbmbafjneaaGreatDoorProg.lean LOADS. Nothing in Lean hashes anything: it is a label: what it is worth is what the hold of that sum in a sandbox is worth. -/
noncomputable def Tryz.pinned : Pinned := { name := "ytjmmhbmbafjneaagreatdoor", sum := "7824e98eccc2bcab293c1565bef4c88989d9952598d653ffb40a6870bcbddc40", checked := Tryz.checked }
namespace Rows
def none {H : Type} : Left H := { results := [], args := [] }

/- WHAT THE LISTED PACKAGE-LEVEL VARIABLES READ AS WHEN THE CALL BEGINS. Each datum BY PROGRAM (the guide's laid-datum.mjs) off the statement by which the dump's own 'gosem.cut.vars' lays the variable. In a bare row this is a premise. The card (YtjmmhbmbafjneaaGreatDoorCards.lean) ties it to the program's text. -/
def laid_unicode_utf8_acceptRanges {H : Type} : DataW H := .agg [.agg [.lit (.int .u8 128), .lit (.int .u8 191)], .agg [.lit (.int .u8 160), .lit (.int .u8 191)], .agg [.lit (.int .u8 128), .lit (.int .u8 159)], .agg [.lit (.int .u8 144), .lit (.int .u8 191)], .agg [.lit (.int .u8 128), .lit (.int .u8 143)], .agg [.lit (.int .u8 0), .lit (.int .u8 0)], .agg [.lit (.int .u8 0), .lit (.int .u8 0)], .agg [.lit (.int .u8 0), .lit (.int .u8 0)], .agg [.lit (.int .u8 0), .lit (.int .u8 0)], .agg [.lit (.int .u8 0), .lit (.int .u8 0)], .agg [.lit (.int .u8 0), .lit (.int .u8 0)], .agg [.lit (.int .u8 0), .lit (.int .u8 0)], .agg [.lit (.int .u8 0), .lit (.int .u8 0)], .agg [.lit (.int .u8 0), .lit (.int .u8 0)], .agg [.lit (.int .u8 0), .lit (.int .u8 0)], .agg [.lit (.int .u8 0), .lit (.int .u8 0)]]
/-- One of Go's own tables, pinned by name: the form's constant. -/
def laid_unicode_utf8_first : DataW Unit := Go.Pinned.utf8First

/-- 'interlocklaw28.EnumReach': WHATEVER THE INPUT: true; the input reads as it did. -/
def enumReachSpec : ChangeSpec := { name := "enumReach", fn := fun _ => fun
  | [d1, d2, d3] => { results := [.lit (.bool true)], args := [d1, d2, d3] }
  | _ => none }
def enumReachRow : OpenClaim := { program := "ytjmmhbmbafjneaagreatdoor", sum := "7824e98eccc2bcab293c1565bef4c88989d9952598d653ffb40a6870bcbddc40", func := "interlock/interlocklaw28.EnumReach", spec := "enumReach", inPlace := ["internal/bytealg.IndexByteString", "internal/bytealg.IndexString", "internal/abi.NoEscape"], unfollowed := true, recurses := true, named := ["internal/bytealg.MaxLen", "unicode/utf8.first", "unicode/utf8.acceptRanges"], apart := false, laid := [("unicode/utf8.acceptRanges", laid_unicode_utf8_acceptRanges), ("unicode/utf8.first", laid_unicode_utf8_first)] }
def EnumReachSaid : Prop := enumReachRow.holds Tryz.pinned (OpenSpec.ofChange enumReachSpec)

/-- ITS FALSE NEIGHBOUR: 'it returns false'. Refute it at one input. -/
def enumReachWrong : ChangeSpec := { name := "enumReach", fn := fun _ => fun
  | [d1, d2, d3] => { results := [.lit (.bool false)], args := [d1, d2, d3] }
  | _ => none }
def EnumReachWrongFalsely : Prop := enumReachRow.holds Tryz.pinned (OpenSpec.ofChange enumReachWrong)

/-- 'interlocklaw28.EnumMore': WHATEVER THE INPUT: true; the input reads as it did. -/
def enumMoreSpec : ChangeSpec := { name := "enumMore", fn := fun _ => fun
  | [d1, d2, d3] => { results := [.lit (.bool true)], args := [d1, d2, d3] }
  | _ => none }
def enumMoreRow : OpenClaim := { program := "ytjmmhbmbafjneaagreatdoor", sum := "7824e98eccc2bcab293c1565bef4c88989d9952598d653ffb40a6870bcbddc40", func := "interlock/interlocklaw28.EnumMore", spec := "enumMore", inPlace := ["internal/bytealg.IndexByteString", "internal/bytealg.IndexString", "internal/abi.NoEscape"], unfollowed := true, recurses := true, named := ["internal/bytealg.MaxLen", "unicode/utf8.first", "unicode/utf8.acceptRanges"], apart := false, laid := [("unicode/utf8.acceptRanges", laid_unicode_utf8_acceptRanges), ("unicode/utf8.first", laid_unicode_utf8_first)] }
def EnumMoreSaid : Prop := enumMoreRow.holds Tryz.pinned (OpenSpec.ofChange enumMoreSpec)

/-- ITS FALSE NEIGHBOUR: 'it returns false'. Refute it at one input. -/
def enumMoreWrong : ChangeSpec := { name := "enumMore", fn := fun _ => fun
  | [d1, d2, d3] => { results := [.lit (.bool false)], args := [d1, d2, d3] }
  | _ => none }
def EnumMoreWrongFalsely : Prop := enumMoreRow.holds Tryz.pinned (OpenSpec.ofChange enumMoreWrong)

/-- 'interlocklaw28.EnumTells': WHATEVER THE INPUT: true; the input reads as it did. -/
def enumTellsSpec : ChangeSpec := { name := "enumTells", fn := fun _ => fun
  | [d1, d2, d3] => { results := [.lit (.bool true)], args := [d1, d2, d3] }
  | _ => none }
def enumTellsRow : OpenClaim := { program := "ytjmmhbmbafjneaagreatdoor", sum := "7824e98eccc2bcab293c1565bef4c88989d9952598d653ffb40a6870bcbddc40", func := "interlock/interlocklaw28.EnumTells", spec := "enumTells", inPlace := ["internal/bytealg.IndexByteString", "internal/bytealg.IndexString", "internal/abi.NoEscape"], unfollowed := true, recurses := true, named := ["internal/bytealg.MaxLen", "unicode/utf8.first", "unicode/utf8.acceptRanges"], apart := false, laid := [("unicode/utf8.acceptRanges", laid_unicode_utf8_acceptRanges), ("unicode/utf8.first", laid_unicode_utf8_first)] }
def EnumTellsSaid : Prop := enumTellsRow.holds Tryz.pinned (OpenSpec.ofChange enumTellsSpec)

/-- ITS FALSE NEIGHBOUR: 'it returns false'. Refute it at one input. -/
def enumTellsWrong : ChangeSpec := { name := "enumTells", fn := fun _ => fun
  | [d1, d2, d3] => { results := [.lit (.bool false)], args := [d1, d2, d3] }
  | _ => none }
def EnumTellsWrongFalsely : Prop := enumTellsRow.holds Tryz.pinned (OpenSpec.ofChange enumTellsWrong)

/-- 'interlocklaw28.EnumLeast': WHATEVER THE INPUT: true; the input reads as it did. -/
def enumLeastSpec : ChangeSpec := { name := "enumLeast", fn := fun _ => fun
  | [d1, d2, d3] => { results := [.lit (.bool true)], args := [d1, d2, d3] }
  | _ => none }
def enumLeastRow : OpenClaim := { program := "ytjmmhbmbafjneaagreatdoor", sum := "7824e98eccc2bcab293c1565bef4c88989d9952598d653ffb40a6870bcbddc40", func := "interlock/interlocklaw28.EnumLeast", spec := "enumLeast", inPlace := ["internal/bytealg.IndexByteString", "internal/bytealg.IndexString", "internal/abi.NoEscape"], unfollowed := true, recurses := true, named := ["internal/bytealg.MaxLen", "unicode/utf8.first", "unicode/utf8.acceptRanges"], apart := false, laid := [("unicode/utf8.acceptRanges", laid_unicode_utf8_acceptRanges), ("unicode/utf8.first", laid_unicode_utf8_first)] }
def EnumLeastSaid : Prop := enumLeastRow.holds Tryz.pinned (OpenSpec.ofChange enumLeastSpec)

/-- ITS FALSE NEIGHBOUR: 'it returns false'. Refute it at one input. -/
def enumLeastWrong : ChangeSpec := { name := "enumLeast", fn := fun _ => fun
  | [d1, d2, d3] => { results := [.lit (.bool false)], args := [d1, d2, d3] }
  | _ => none }
def EnumLeastWrongFalsely : Prop := enumLeastRow.holds Tryz.pinned (OpenSpec.ofChange enumLeastWrong)

/- THE SECOND FORM. 'bulk': how many values and letters a reading holds, each counted each time it is reached (what is shared counts as often as it is met; a slice's spare places count too). A statement '..UptoSaid' is the law's where the arguments, and the package variables that the reading takes, are together of bulk at most 1048576: NARROWER than '..Said'. Prove '..Said' where nothing that the law and all that it calls make is longer than what came in: it says more and counts as full. Else prove '..UptoSaid'. A law counts once. -/
mutual
def uptoBulk {H : Type} : DataW H → Nat
  | .lit (.string bytes) => bytes.length + 1
  | .lit _ => 1
  | .nil => 1
  | .ptr d => uptoBulk d + 1
  | .slice elems spare => uptoBulkAll elems + uptoBulkAll spare + 1
  | .agg parts => uptoBulkAll parts + 1
  | .iface _ d => uptoBulk d + 1
  | .map entries => uptoBulkEntries entries + 1
  | .held _ => 1
def uptoBulkAll {H : Type} : List (DataW H) → Nat
  | [] => 0
  | d :: r => uptoBulk d + uptoBulkAll r
def uptoBulkEntries {H : Type} : List (Lit × DataW H) → Nat
  | [] => 0
  | x :: r => uptoBulkEntry x + uptoBulkEntries r
def uptoBulkEntry {H : Type} : Lit × DataW H → Nat
  | (.string bytes, d) => bytes.length + uptoBulk d + 1
  | (_, d) => uptoBulk d + 1
 end
def uptoSmall : (H : Type) → List (DataW H) → Bool := fun _ ds => decide (uptoBulkAll ds ≤ 1048576)
def OpenSpec.upto (s : _root_.Go.ChangeSpec) : _root_.Go.OpenSpec := { _root_.Go.OpenSpec.ofChange s with cond := some uptoSmall }

/-- 'interlocklaw28.EnumReach', WHERE WHAT IT READS IS OF BULK AT MOST 1048576: true; the input reads as it did. -/
def enumReachUptoRow : OpenClaim := { program := "ytjmmhbmbafjneaagreatdoor", sum := "7824e98eccc2bcab293c1565bef4c88989d9952598d653ffb40a6870bcbddc40", func := "interlock/interlocklaw28.EnumReach", spec := "enumReach", inPlace := ["internal/bytealg.IndexByteString", "internal/bytealg.IndexString", "internal/abi.NoEscape"], unfollowed := true, recurses := true, named := ["internal/bytealg.MaxLen", "unicode/utf8.first", "unicode/utf8.acceptRanges"], apart := false, laid := [("unicode/utf8.acceptRanges", laid_unicode_utf8_acceptRanges), ("unicode/utf8.first", laid_unicode_utf8_first)], narrowed := true }
def EnumReachUptoSaid : Prop := enumReachUptoRow.holds Tryz.pinned (OpenSpec.upto enumReachSpec)

/-- 'interlocklaw28.EnumMore', WHERE WHAT IT READS IS OF BULK AT MOST 1048576: true; the input reads as it did. -/
def enumMoreUptoRow : OpenClaim := { program := "ytjmmhbmbafjneaagreatdoor", sum := "7824e98eccc2bcab293c1565bef4c88989d9952598d653ffb40a6870bcbddc40", func := "interlock/interlocklaw28.EnumMore", spec := "enumMore", inPlace := ["internal/bytealg.IndexByteString", "internal/bytealg.IndexString", "internal/abi.NoEscape"], unfollowed := true, recurses := true, named := ["internal/bytealg.MaxLen", "unicode/utf8.first", "unicode/utf8.acceptRanges"], apart := false, laid := [("unicode/utf8.acceptRanges", laid_unicode_utf8_acceptRanges), ("unicode/utf8.first", laid_unicode_utf8_first)], narrowed := true }
def EnumMoreUptoSaid : Prop := enumMoreUptoRow.holds Tryz.pinned (OpenSpec.upto enumMoreSpec)

/-- 'interlocklaw28.EnumTells', WHERE WHAT IT READS IS OF BULK AT MOST 1048576: true; the input reads as it did. -/
def enumTellsUptoRow : OpenClaim := { program := "ytjmmhbmbafjneaagreatdoor", sum := "7824e98eccc2bcab293c1565bef4c88989d9952598d653ffb40a6870bcbddc40", func := "interlock/interlocklaw28.EnumTells", spec := "enumTells", inPlace := ["internal/bytealg.IndexByteString", "internal/bytealg.IndexString", "internal/abi.NoEscape"], unfollowed := true, recurses := true, named := ["internal/bytealg.MaxLen", "unicode/utf8.first", "unicode/utf8.acceptRanges"], apart := false, laid := [("unicode/utf8.acceptRanges", laid_unicode_utf8_acceptRanges), ("unicode/utf8.first", laid_unicode_utf8_first)], narrowed := true }
def EnumTellsUptoSaid : Prop := enumTellsUptoRow.holds Tryz.pinned (OpenSpec.upto enumTellsSpec)

/-- 'interlocklaw28.EnumLeast', WHERE WHAT IT READS IS OF BULK AT MOST 1048576: true; the input reads as it did. -/
def enumLeastUptoRow : OpenClaim := { program := "ytjmmhbmbafjneaagreatdoor", sum := "7824e98eccc2bcab293c1565bef4c88989d9952598d653ffb40a6870bcbddc40", func := "interlock/interlocklaw28.EnumLeast", spec := "enumLeast", inPlace := ["internal/bytealg.IndexByteString", "internal/bytealg.IndexString", "internal/abi.NoEscape"], unfollowed := true, recurses := true, named := ["internal/bytealg.MaxLen", "unicode/utf8.first", "unicode/utf8.acceptRanges"], apart := false, laid := [("unicode/utf8.acceptRanges", laid_unicode_utf8_acceptRanges), ("unicode/utf8.first", laid_unicode_utf8_first)], narrowed := true }
def EnumLeastUptoSaid : Prop := enumLeastUptoRow.holds Tryz.pinned (OpenSpec.upto enumLeastSpec)

end Rows
end Go.Proofs.YtjmmhbmbafjneaaGreatDoor
