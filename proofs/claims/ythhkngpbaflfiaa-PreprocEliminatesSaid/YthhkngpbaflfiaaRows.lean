/-
  No cell of these rows narrows 'for every input' (looked for: loops, veiled, ifaces, maps, wideKeys, modest, calm, conditions, laid).
  DERIVED. THE GIVEN ROWS OF THIS SEAT. 5 by the template 'for every input the law returns true; each argument reads behind the call as it read before'; 0 by the template 'total and deterministic' (their statements: YthhkngpbaflfiaaTotals.lean).
  GIVEN WITH THE SEED: the statements are not yours to turn. If you find one false, say at which input.
  Laid BY PROGRAM, IN A SANDBOX (cutbox-rows.mjs): the forced cells as the released guide's own fill.sh prints them over the translation 1325f78aa118cf54… (all of the seat's roots in one cut). By AI agents, Wed Nov 11 2026. No macro, syntax, notation, axiom, sorry.
-/
import Derived.Test.YthhkngpbaflfiaaChecked
import GoSem.Claim
import GoSem.ClaimJoined
import GoSem.ClaimMapViews
import Derived.JoinedTies
import Derived.KernelRfl
namespace Go.Proofs.Ythhkngpbaflfiaa
/- THE CELL 'sum', in the pinned program and in every row, IS THE sha256 OF THE DUMP (.gsa) THAT YthhkngpbaflfiaaProg.lean LOADS. Nothing in Lean hashes anything: it is a label: what it is worth is what the hold of that sum in a sandbox is worth. -/
noncomputable def Try.pinned : Pinned := { name := "ythhkngpbaflfiaa", sum := "1325f78aa118cf548d300c72ee8c903821f5acc159eb3d8366dcf081a8a9032f", checked := Try.checked }
namespace Rows
def none {H : Type} : Left H := { results := [], args := [] }

/-- 'interlocklaw38.PreprocCleans': WHATEVER THE INPUT: true; the input reads as it did. -/
def preprocCleansSpec : ChangeSpec := { name := "preprocCleans", fn := fun _ => fun
  | [d] => { results := [.lit (.bool true)], args := [d] }
  | _ => none }
def preprocCleansRow : OpenClaim := { program := "ythhkngpbaflfiaa", sum := "1325f78aa118cf548d300c72ee8c903821f5acc159eb3d8366dcf081a8a9032f", func := "interlock/interlocklaw38.PreprocCleans", spec := "preprocCleans", unfollowed := true, recurses := true, apart := false }
def PreprocCleansSaid : Prop := preprocCleansRow.holds Try.pinned (OpenSpec.ofChange preprocCleansSpec)

/-- ITS FALSE NEIGHBOUR: 'it returns false'. Refute it at one input. -/
def preprocCleansWrong : ChangeSpec := { name := "preprocCleans", fn := fun _ => fun
  | [d] => { results := [.lit (.bool false)], args := [d] }
  | _ => none }
def PreprocCleansWrongFalsely : Prop := preprocCleansRow.holds Try.pinned (OpenSpec.ofChange preprocCleansWrong)

/-- 'interlocklaw38.PreprocStrong': WHATEVER THE INPUT: true; the input reads as it did. -/
def preprocStrongSpec : ChangeSpec := { name := "preprocStrong", fn := fun _ => fun
  | [d] => { results := [.lit (.bool true)], args := [d] }
  | _ => none }
def preprocStrongRow : OpenClaim := { program := "ythhkngpbaflfiaa", sum := "1325f78aa118cf548d300c72ee8c903821f5acc159eb3d8366dcf081a8a9032f", func := "interlock/interlocklaw38.PreprocStrong", spec := "preprocStrong", unfollowed := true, recurses := true, apart := false }
def PreprocStrongSaid : Prop := preprocStrongRow.holds Try.pinned (OpenSpec.ofChange preprocStrongSpec)

/-- ITS FALSE NEIGHBOUR: 'it returns false'. Refute it at one input. -/
def preprocStrongWrong : ChangeSpec := { name := "preprocStrong", fn := fun _ => fun
  | [d] => { results := [.lit (.bool false)], args := [d] }
  | _ => none }
def PreprocStrongWrongFalsely : Prop := preprocStrongRow.holds Try.pinned (OpenSpec.ofChange preprocStrongWrong)

/-- 'interlocklaw38.PreprocSame': WHATEVER THE INPUT: true; the input reads as it did. -/
def preprocSameSpec : ChangeSpec := { name := "preprocSame", fn := fun _ => fun
  | [d] => { results := [.lit (.bool true)], args := [d] }
  | _ => none }
def preprocSameRow : OpenClaim := { program := "ythhkngpbaflfiaa", sum := "1325f78aa118cf548d300c72ee8c903821f5acc159eb3d8366dcf081a8a9032f", func := "interlock/interlocklaw38.PreprocSame", spec := "preprocSame", unfollowed := true, recurses := true, apart := false }
def PreprocSameSaid : Prop := preprocSameRow.holds Try.pinned (OpenSpec.ofChange preprocSameSpec)

/-- ITS FALSE NEIGHBOUR: 'it returns false'. Refute it at one input. -/
def preprocSameWrong : ChangeSpec := { name := "preprocSame", fn := fun _ => fun
  | [d] => { results := [.lit (.bool false)], args := [d] }
  | _ => none }
def PreprocSameWrongFalsely : Prop := preprocSameRow.holds Try.pinned (OpenSpec.ofChange preprocSameWrong)

/-- 'interlocklaw38.PreprocAgain': WHATEVER THE INPUT: true; the input reads as it did. -/
def preprocAgainSpec : ChangeSpec := { name := "preprocAgain", fn := fun _ => fun
  | [d] => { results := [.lit (.bool true)], args := [d] }
  | _ => none }
def preprocAgainRow : OpenClaim := { program := "ythhkngpbaflfiaa", sum := "1325f78aa118cf548d300c72ee8c903821f5acc159eb3d8366dcf081a8a9032f", func := "interlock/interlocklaw38.PreprocAgain", spec := "preprocAgain", unfollowed := true, recurses := true, apart := false }
def PreprocAgainSaid : Prop := preprocAgainRow.holds Try.pinned (OpenSpec.ofChange preprocAgainSpec)

/-- ITS FALSE NEIGHBOUR: 'it returns false'. Refute it at one input. -/
def preprocAgainWrong : ChangeSpec := { name := "preprocAgain", fn := fun _ => fun
  | [d] => { results := [.lit (.bool false)], args := [d] }
  | _ => none }
def PreprocAgainWrongFalsely : Prop := preprocAgainRow.holds Try.pinned (OpenSpec.ofChange preprocAgainWrong)

/-- 'interlocklaw38.PreprocEliminates': WHATEVER THE INPUT: true; the input reads as it did. -/
def preprocEliminatesSpec : ChangeSpec := { name := "preprocEliminates", fn := fun _ => fun
  | [d1, d2, d3] => { results := [.lit (.bool true)], args := [d1, d2, d3] }
  | _ => none }
def preprocEliminatesRow : OpenClaim := { program := "ythhkngpbaflfiaa", sum := "1325f78aa118cf548d300c72ee8c903821f5acc159eb3d8366dcf081a8a9032f", func := "interlock/interlocklaw38.PreprocEliminates", spec := "preprocEliminates", unfollowed := true, recurses := true, apart := false }
def PreprocEliminatesSaid : Prop := preprocEliminatesRow.holds Try.pinned (OpenSpec.ofChange preprocEliminatesSpec)

/-- ITS FALSE NEIGHBOUR: 'it returns false'. Refute it at one input. -/
def preprocEliminatesWrong : ChangeSpec := { name := "preprocEliminates", fn := fun _ => fun
  | [d1, d2, d3] => { results := [.lit (.bool false)], args := [d1, d2, d3] }
  | _ => none }
def PreprocEliminatesWrongFalsely : Prop := preprocEliminatesRow.holds Try.pinned (OpenSpec.ofChange preprocEliminatesWrong)

/- THE SECOND FORM. 'bulk': how many values and letters a reading holds, each counted each time it is reached (what is shared counts as often as it is met; a slice's spare places count too). A statement '..UptoSaid' is the law's where the arguments, and the package variables that the reading takes, are together of bulk at most 1048576: NARROWER than '..Said'. Prove '..Said' where nothing that the law and all that it calls make is longer than what came in: it says more and counts as full. Else prove '..UptoSaid'. A law counts once. -/
mutual
def uptoBulk {H : Type} : DataW H → Nat
  | .lit (.string bytes) => bytes.length + 1
  | .lit _ => 1
  | .nil => 1
  | .ptr d => uptoBulk d + 1
  | .slice elems spare => uptoBulkAll elems + uptoBulkAll spare + 1
  | .agg parts => uptoBulkAll parts + 1
  | .iface _ d => uptoBulk d + 1
  | .map entries => uptoBulkEntries entries + 1
  | .held _ => 1
def uptoBulkAll {H : Type} : List (DataW H) → Nat
  | [] => 0
  | d :: r => uptoBulk d + uptoBulkAll r
def uptoBulkEntries {H : Type} : List (Lit × DataW H) → Nat
  | [] => 0
  | x :: r => uptoBulkEntry x + uptoBulkEntries r
def uptoBulkEntry {H : Type} : Lit × DataW H → Nat
  | (.string bytes, d) => bytes.length + uptoBulk d + 1
  | (_, d) => uptoBulk d + 1
 end
def uptoSmall : (H : Type) → List (DataW H) → Bool := fun _ ds => decide (uptoBulkAll ds ≤ 1048576)
def OpenSpec.upto (s : _root_.Go.ChangeSpec) : _root_.Go.OpenSpec := { _root_.Go.OpenSpec.ofChange s with cond := some uptoSmall }

/-- 'interlocklaw38.PreprocCleans', WHERE WHAT IT READS IS OF BULK AT MOST 1048576: true; the input reads as it did. -/
def preprocCleansUptoRow : OpenClaim := { program := "ythhkngpbaflfiaa", sum := "1325f78aa118cf548d300c72ee8c903821f5acc159eb3d8366dcf081a8a9032f", func := "interlock/interlocklaw38.PreprocCleans", spec := "preprocCleans", unfollowed := true, recurses := true, apart := false, narrowed := true }
def PreprocCleansUptoSaid : Prop := preprocCleansUptoRow.holds Try.pinned (OpenSpec.upto preprocCleansSpec)

/-- 'interlocklaw38.PreprocStrong', WHERE WHAT IT READS IS OF BULK AT MOST 1048576: true; the input reads as it did. -/
def preprocStrongUptoRow : OpenClaim := { program := "ythhkngpbaflfiaa", sum := "1325f78aa118cf548d300c72ee8c903821f5acc159eb3d8366dcf081a8a9032f", func := "interlock/interlocklaw38.PreprocStrong", spec := "preprocStrong", unfollowed := true, recurses := true, apart := false, narrowed := true }
def PreprocStrongUptoSaid : Prop := preprocStrongUptoRow.holds Try.pinned (OpenSpec.upto preprocStrongSpec)

/-- 'interlocklaw38.PreprocSame', WHERE WHAT IT READS IS OF BULK AT MOST 1048576: true; the input reads as it did. -/
def preprocSameUptoRow : OpenClaim := { program := "ythhkngpbaflfiaa", sum := "1325f78aa118cf548d300c72ee8c903821f5acc159eb3d8366dcf081a8a9032f", func := "interlock/interlocklaw38.PreprocSame", spec := "preprocSame", unfollowed := true, recurses := true, apart := false, narrowed := true }
def PreprocSameUptoSaid : Prop := preprocSameUptoRow.holds Try.pinned (OpenSpec.upto preprocSameSpec)

/-- 'interlocklaw38.PreprocAgain', WHERE WHAT IT READS IS OF BULK AT MOST 1048576: true; the input reads as it did. -/
def preprocAgainUptoRow : OpenClaim := { program := "ythhkngpbaflfiaa", sum := "1325f78aa118cf548d300c72ee8c903821f5acc159eb3d8366dcf081a8a9032f", func := "interlock/interlocklaw38.PreprocAgain", spec := "preprocAgain", unfollowed := true, recurses := true, apart := false, narrowed := true }
def PreprocAgainUptoSaid : Prop := preprocAgainUptoRow.holds Try.pinned (OpenSpec.upto preprocAgainSpec)

/-- 'interlocklaw38.PreprocEliminates', WHERE WHAT IT READS IS OF BULK AT MOST 1048576: true; the input reads as it did. -/
def preprocEliminatesUptoRow : OpenClaim := { program := "ythhkngpbaflfiaa", sum := "1325f78aa118cf548d300c72ee8c903821f5acc159eb3d8366dcf081a8a9032f", func := "interlock/interlocklaw38.PreprocEliminates", spec := "preprocEliminates", unfollowed := true, recurses := true, apart := false, narrowed := true }
def PreprocEliminatesUptoSaid : Prop := preprocEliminatesUptoRow.holds Try.pinned (OpenSpec.upto preprocEliminatesSpec)

end Rows
end Go.Proofs.Ythhkngpbaflfiaa
