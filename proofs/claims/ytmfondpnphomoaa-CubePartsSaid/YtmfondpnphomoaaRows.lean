/-
  No cell of these rows narrows 'for every input' (looked for: loops, veiled, ifaces, maps, wideKeys, modest, calm, conditions, laid).
  DERIVED. THE GIVEN ROWS OF THIS SEAT. 2 by the template 'for every input the law returns true; each argument reads behind the call as it read before'; 0 by the template 'total and deterministic' (their statements: YtmfondpnphomoaaTotals.lean).
  GIVEN WITH THE SEED: the statements are not yours to turn. If you find one false, say at which input.
  Laid BY PROGRAM, IN A SANDBOX (cutbox-rows.mjs): the forced cells as the released guide's own fill.sh prints them over the translation 674c6ce54de62151… (all of the seat's roots in one cut). By AI agents, Wed Nov 11 2026. No macro, syntax, notation, axiom, sorry.
-/
import Derived.Test.YtmfondpnphomoaaChecked
import GoSem.Claim
import GoSem.ClaimJoined
import GoSem.ClaimMapViews
import Derived.JoinedTies
import Derived.KernelRfl
namespace Go.Proofs.Ytmfondpnphomoaa
/- THE CELL 'sum', in the pinned program and in every row, IS THE sha256 OF THE DUMP (.gsa) THAT YtmfondpnphomoaaProg.lean LOADS. Nothing in Lean hashes anything: it is a label: what it is worth is what the hold of that sum in a sandbox is worth. -/
noncomputable def Try.pinned : Pinned := { name := "ytmfondpnphomoaa", sum := "674c6ce54de62151376de0317c60af6427dc277daec754dcf8d5c0fc50a7b6b5", checked := Try.checked }
namespace Rows
def none {H : Type} : Left H := { results := [], args := [] }

/-- 'interlocklaw21.CubeIn': WHATEVER THE INPUT: true; the input reads as it did. -/
def cubeInSpec : ChangeSpec := { name := "cubeIn", fn := fun _ => fun
  | [d1, d2] => { results := [.lit (.bool true)], args := [d1, d2] }
  | _ => none }
def cubeInRow : OpenClaim := { program := "ytmfondpnphomoaa", sum := "674c6ce54de62151376de0317c60af6427dc277daec754dcf8d5c0fc50a7b6b5", func := "interlock/interlocklaw21.CubeIn", spec := "cubeIn", unfollowed := true, recurses := true, apart := false }
def CubeInSaid : Prop := cubeInRow.holds Try.pinned (OpenSpec.ofChange cubeInSpec)

/-- ITS FALSE NEIGHBOUR: 'it returns false'. Refute it at one input. -/
def cubeInWrong : ChangeSpec := { name := "cubeIn", fn := fun _ => fun
  | [d1, d2] => { results := [.lit (.bool false)], args := [d1, d2] }
  | _ => none }
def CubeInWrongFalsely : Prop := cubeInRow.holds Try.pinned (OpenSpec.ofChange cubeInWrong)

/-- 'interlocklaw21.CubeParts': WHATEVER THE INPUT: true; the input reads as it did. -/
def cubePartsSpec : ChangeSpec := { name := "cubeParts", fn := fun _ => fun
  | [d1, d2, d3] => { results := [.lit (.bool true)], args := [d1, d2, d3] }
  | _ => none }
def cubePartsRow : OpenClaim := { program := "ytmfondpnphomoaa", sum := "674c6ce54de62151376de0317c60af6427dc277daec754dcf8d5c0fc50a7b6b5", func := "interlock/interlocklaw21.CubeParts", spec := "cubeParts", unfollowed := true, recurses := true, apart := false }
def CubePartsSaid : Prop := cubePartsRow.holds Try.pinned (OpenSpec.ofChange cubePartsSpec)

/-- ITS FALSE NEIGHBOUR: 'it returns false'. Refute it at one input. -/
def cubePartsWrong : ChangeSpec := { name := "cubeParts", fn := fun _ => fun
  | [d1, d2, d3] => { results := [.lit (.bool false)], args := [d1, d2, d3] }
  | _ => none }
def CubePartsWrongFalsely : Prop := cubePartsRow.holds Try.pinned (OpenSpec.ofChange cubePartsWrong)

/- THE SECOND FORM. 'bulk': how many values and letters a reading holds, each counted each time it is reached (what is shared counts as often as it is met; a slice's spare places count too). A statement '..UptoSaid' is the law's where the arguments, and the package variables that the reading takes, are together of bulk at most 1048576: NARROWER than '..Said'. Prove '..Said' where nothing that the law and all that it calls make is longer than what came in: it says more and counts as full. Else prove '..UptoSaid'. A law counts once. -/
mutual
def uptoBulk {H : Type} : DataW H → Nat
  | .lit (.string bytes) => bytes.length + 1
  | .lit _ => 1
  | .nil => 1
  | .ptr d => uptoBulk d + 1
  | .slice elems spare => uptoBulkAll elems + uptoBulkAll spare + 1
  | .agg parts => uptoBulkAll parts + 1
  | .iface _ d => uptoBulk d + 1
  | .map entries => uptoBulkEntries entries + 1
  | .held _ => 1
def uptoBulkAll {H : Type} : List (DataW H) → Nat
  | [] => 0
  | d :: r => uptoBulk d + uptoBulkAll r
def uptoBulkEntries {H : Type} : List (Lit × DataW H) → Nat
  | [] => 0
  | x :: r => uptoBulkEntry x + uptoBulkEntries r
def uptoBulkEntry {H : Type} : Lit × DataW H → Nat
  | (.string bytes, d) => bytes.length + uptoBulk d + 1
  | (_, d) => uptoBulk d + 1
 end
def uptoSmall : (H : Type) → List (DataW H) → Bool := fun _ ds => decide (uptoBulkAll ds ≤ 1048576)
def OpenSpec.upto (s : _root_.Go.ChangeSpec) : _root_.Go.OpenSpec := { _root_.Go.OpenSpec.ofChange s with cond := some uptoSmall }

/-- 'interlocklaw21.CubeIn', WHERE WHAT IT READS IS OF BULK AT MOST 1048576: true; the input reads as it did. -/
def cubeInUptoRow : OpenClaim := { program := "ytmfondpnphomoaa", sum := "674c6ce54de62151376de0317c60af6427dc277daec754dcf8d5c0fc50a7b6b5", func := "interlock/interlocklaw21.CubeIn", spec := "cubeIn", unfollowed := true, recurses := true, apart := false, narrowed := true }
def CubeInUptoSaid : Prop := cubeInUptoRow.holds Try.pinned (OpenSpec.upto cubeInSpec)

/-- 'interlocklaw21.CubeParts', WHERE WHAT IT READS IS OF BULK AT MOST 1048576: true; the input reads as it did. -/
def cubePartsUptoRow : OpenClaim := { program := "ytmfondpnphomoaa", sum := "674c6ce54de62151376de0317c60af6427dc277daec754dcf8d5c0fc50a7b6b5", func := "interlock/interlocklaw21.CubeParts", spec := "cubeParts", unfollowed := true, recurses := true, apart := false, narrowed := true }
def CubePartsUptoSaid : Prop := cubePartsUptoRow.holds Try.pinned (OpenSpec.upto cubePartsSpec)

end Rows
end Go.Proofs.Ytmfondpnphomoaa
