/-
  No cell of these rows narrows 'for every input' (looked for: loops, veiled, ifaces, maps, wideKeys, modest, calm, conditions, laid).
  DERIVED. THE GIVEN ROWS OF THIS SEAT. 3 by the template 'for every input the law returns true; each argument reads behind the call as it read before'; 0 by the template 'total and deterministic' (their statements: YtdkclipjlleacaaTotals.lean).
  GIVEN WITH THE SEED: the statements are not yours to turn. If you find one false, say at which input.
  Laid BY PROGRAM, IN A SANDBOX (cutbox-rows.mjs): the forced cells as the released guide's own fill.sh prints them over the translation 239eb2b59dced09f… (all of the seat's roots in one cut). By AI agents, Wed Nov 11 2026. No macro, syntax, notation, axiom, sorry.
-/
import Derived.Test.YtdkclipjlleacaaChecked
import GoSem.Claim
import GoSem.ClaimJoined
import GoSem.ClaimMapViews
import Derived.JoinedTies
import Derived.KernelRfl
namespace Go.Proofs.Ytdkclipjlleacaa
/- THE CELL 'sum', in the pinned program and in every row, IS THE sha256 OF THE DUMP (.gsa) THAT YtdkclipjlleacaaProg.lean LOADS. Nothing in Lean hashes anything: it is a label: what it is worth is what the hold of that sum in a sandbox is worth. -/
noncomputable def Try.pinned : Pinned := { name := "ytdkclipjlleacaa", sum := "239eb2b59dced09f07405441bd3df767df3268c0208779e4a7187d3f2ff40c8e", checked := Try.checked }
namespace Rows
def none {H : Type} : Left H := { results := [], args := [] }

/-- 'interlocklaw10.ClauseSound': WHATEVER THE INPUT: true; the input reads as it did. -/
def clauseSoundSpec : ChangeSpec := { name := "clauseSound", fn := fun _ => fun
  | [d1, d2, d3, d4] => { results := [.lit (.bool true)], args := [d1, d2, d3, d4] }
  | _ => none }
def clauseSoundRow : OpenClaim := { program := "ytdkclipjlleacaa", sum := "239eb2b59dced09f07405441bd3df767df3268c0208779e4a7187d3f2ff40c8e", func := "interlock/interlocklaw10.ClauseSound", spec := "clauseSound", unfollowed := true, recurses := true, apart := false }
def ClauseSoundSaid : Prop := clauseSoundRow.holds Try.pinned (OpenSpec.ofChange clauseSoundSpec)

/-- ITS FALSE NEIGHBOUR: 'it returns false'. Refute it at one input. -/
def clauseSoundWrong : ChangeSpec := { name := "clauseSound", fn := fun _ => fun
  | [d1, d2, d3, d4] => { results := [.lit (.bool false)], args := [d1, d2, d3, d4] }
  | _ => none }
def ClauseSoundWrongFalsely : Prop := clauseSoundRow.holds Try.pinned (OpenSpec.ofChange clauseSoundWrong)

/-- 'interlocklaw10.ClauseParts': WHATEVER THE INPUT: true; the input reads as it did. -/
def clausePartsSpec : ChangeSpec := { name := "clauseParts", fn := fun _ => fun
  | [d1, d2, d3] => { results := [.lit (.bool true)], args := [d1, d2, d3] }
  | _ => none }
def clausePartsRow : OpenClaim := { program := "ytdkclipjlleacaa", sum := "239eb2b59dced09f07405441bd3df767df3268c0208779e4a7187d3f2ff40c8e", func := "interlock/interlocklaw10.ClauseParts", spec := "clauseParts", unfollowed := true, recurses := true, apart := false }
def ClausePartsSaid : Prop := clausePartsRow.holds Try.pinned (OpenSpec.ofChange clausePartsSpec)

/-- ITS FALSE NEIGHBOUR: 'it returns false'. Refute it at one input. -/
def clausePartsWrong : ChangeSpec := { name := "clauseParts", fn := fun _ => fun
  | [d1, d2, d3] => { results := [.lit (.bool false)], args := [d1, d2, d3] }
  | _ => none }
def ClausePartsWrongFalsely : Prop := clausePartsRow.holds Try.pinned (OpenSpec.ofChange clausePartsWrong)

/-- 'interlocklaw10.ClauseNorm': WHATEVER THE INPUT: true; the input reads as it did. -/
def clauseNormSpec : ChangeSpec := { name := "clauseNorm", fn := fun _ => fun
  | [d] => { results := [.lit (.bool true)], args := [d] }
  | _ => none }
def clauseNormRow : OpenClaim := { program := "ytdkclipjlleacaa", sum := "239eb2b59dced09f07405441bd3df767df3268c0208779e4a7187d3f2ff40c8e", func := "interlock/interlocklaw10.ClauseNorm", spec := "clauseNorm", unfollowed := true, recurses := true, apart := false }
def ClauseNormSaid : Prop := clauseNormRow.holds Try.pinned (OpenSpec.ofChange clauseNormSpec)

/-- ITS FALSE NEIGHBOUR: 'it returns false'. Refute it at one input. -/
def clauseNormWrong : ChangeSpec := { name := "clauseNorm", fn := fun _ => fun
  | [d] => { results := [.lit (.bool false)], args := [d] }
  | _ => none }
def ClauseNormWrongFalsely : Prop := clauseNormRow.holds Try.pinned (OpenSpec.ofChange clauseNormWrong)

/- THE SECOND FORM. 'bulk': how many values and letters a reading holds, each counted each time it is reached (what is shared counts as often as it is met; a slice's spare places count too). A statement '..UptoSaid' is the law's where the arguments, and the package variables that the reading takes, are together of bulk at most 1048576: NARROWER than '..Said'. Prove '..Said' where nothing that the law and all that it calls make is longer than what came in: it says more and counts as full. Else prove '..UptoSaid'. A law counts once. -/
mutual
def uptoBulk {H : Type} : DataW H → Nat
  | .lit (.string bytes) => bytes.length + 1
  | .lit _ => 1
  | .nil => 1
  | .ptr d => uptoBulk d + 1
  | .slice elems spare => uptoBulkAll elems + uptoBulkAll spare + 1
  | .agg parts => uptoBulkAll parts + 1
  | .iface _ d => uptoBulk d + 1
  | .map entries => uptoBulkEntries entries + 1
  | .held _ => 1
def uptoBulkAll {H : Type} : List (DataW H) → Nat
  | [] => 0
  | d :: r => uptoBulk d + uptoBulkAll r
def uptoBulkEntries {H : Type} : List (Lit × DataW H) → Nat
  | [] => 0
  | x :: r => uptoBulkEntry x + uptoBulkEntries r
def uptoBulkEntry {H : Type} : Lit × DataW H → Nat
  | (.string bytes, d) => bytes.length + uptoBulk d + 1
  | (_, d) => uptoBulk d + 1
 end
def uptoSmall : (H : Type) → List (DataW H) → Bool := fun _ ds => decide (uptoBulkAll ds ≤ 1048576)
def OpenSpec.upto (s : _root_.Go.ChangeSpec) : _root_.Go.OpenSpec := { _root_.Go.OpenSpec.ofChange s with cond := some uptoSmall }

/-- 'interlocklaw10.ClauseSound', WHERE WHAT IT READS IS OF BULK AT MOST 1048576: true; the input reads as it did. -/
def clauseSoundUptoRow : OpenClaim := { program := "ytdkclipjlleacaa", sum := "239eb2b59dced09f07405441bd3df767df3268c0208779e4a7187d3f2ff40c8e", func := "interlock/interlocklaw10.ClauseSound", spec := "clauseSound", unfollowed := true, recurses := true, apart := false, narrowed := true }
def ClauseSoundUptoSaid : Prop := clauseSoundUptoRow.holds Try.pinned (OpenSpec.upto clauseSoundSpec)

/-- 'interlocklaw10.ClauseParts', WHERE WHAT IT READS IS OF BULK AT MOST 1048576: true; the input reads as it did. -/
def clausePartsUptoRow : OpenClaim := { program := "ytdkclipjlleacaa", sum := "239eb2b59dced09f07405441bd3df767df3268c0208779e4a7187d3f2ff40c8e", func := "interlock/interlocklaw10.ClauseParts", spec := "clauseParts", unfollowed := true, recurses := true, apart := false, narrowed := true }
def ClausePartsUptoSaid : Prop := clausePartsUptoRow.holds Try.pinned (OpenSpec.upto clausePartsSpec)

/-- 'interlocklaw10.ClauseNorm', WHERE WHAT IT READS IS OF BULK AT MOST 1048576: true; the input reads as it did. -/
def clauseNormUptoRow : OpenClaim := { program := "ytdkclipjlleacaa", sum := "239eb2b59dced09f07405441bd3df767df3268c0208779e4a7187d3f2ff40c8e", func := "interlock/interlocklaw10.ClauseNorm", spec := "clauseNorm", unfollowed := true, recurses := true, apart := false, narrowed := true }
def ClauseNormUptoSaid : Prop := clauseNormUptoRow.holds Try.pinned (OpenSpec.upto clauseNormSpec)

end Rows
end Go.Proofs.Ytdkclipjlleacaa
