/-
  No cell of these rows narrows 'for every input' (looked for: loops, veiled, ifaces, maps, wideKeys, modest, calm, conditions, laid).
  DERIVED. THE GIVEN ROWS OF THIS SEAT. 4 by the template 'for every input the law returns true; each argument reads behind the call as it read before'; 0 by the template 'total and deterministic' (their statements: YtpejpjiipcolbaaTotals.lean).
  GIVEN WITH THE SEED: the statements are not yours to turn. If you find one false, say at which input.
  Laid BY PROGRAM, IN A SANDBOX (cutbox-rows.mjs): the forced cells as the released guide's own fill.sh prints them over the translation c4a7df4cae4a8e24… (all of the seat's roots in one cut). By AI agents, Wed Nov 11 2026. No macro, syntax, notation, axiom, sorry.
-/
import Derived.Test.YtpejpjiipcolbaaChecked
import GoSem.Claim
import GoSem.ClaimJoined
import GoSem.ClaimMapViews
import Derived.JoinedTies
import Derived.KernelRfl
namespace Go.Proofs.Ytpejpjiipcolbaa
/- THE CELL 'sum', in the pinned program and in every row, IS THE sha256 OF THE DUMP (.gsa) THAT YtpejpjiipcolbaaProg.lean LOADS. Nothing in Lean hashes anything: it is a label: what it is worth is what the hold of that sum in a sandbox is worth. -/
noncomputable def Try.pinned : Pinned := { name := "ytpejpjiipcolbaa", sum := "c4a7df4cae4a8e24b6d4ed335d5f67a7d58d534ff43aded861ba8b08f01d40e6", checked := Try.checked }
namespace Rows
def none {H : Type} : Left H := { results := [], args := [] }

/-- 'interlocklaw03.CircuitKinds': WHATEVER THE INPUT: true; the input reads as it did. -/
def circuitKindsSpec : ChangeSpec := { name := "circuitKinds", fn := fun _ => fun
  | [d] => { results := [.lit (.bool true)], args := [d] }
  | _ => none }
def circuitKindsRow : OpenClaim := { program := "ytpejpjiipcolbaa", sum := "c4a7df4cae4a8e24b6d4ed335d5f67a7d58d534ff43aded861ba8b08f01d40e6", func := "interlock/interlocklaw03.CircuitKinds", spec := "circuitKinds", inPlace := ["internal/bytealg.IndexByteString", "internal/bytealg.IndexString"], unfollowed := true, recurses := true, named := ["internal/bytealg.MaxLen"], apart := false }
def CircuitKindsSaid : Prop := circuitKindsRow.holds Try.pinned (OpenSpec.ofChange circuitKindsSpec)

/-- ITS FALSE NEIGHBOUR: 'it returns false'. Refute it at one input. -/
def circuitKindsWrong : ChangeSpec := { name := "circuitKinds", fn := fun _ => fun
  | [d] => { results := [.lit (.bool false)], args := [d] }
  | _ => none }
def CircuitKindsWrongFalsely : Prop := circuitKindsRow.holds Try.pinned (OpenSpec.ofChange circuitKindsWrong)

/-- 'interlocklaw03.CircuitFinds': WHATEVER THE INPUT: true; the input reads as it did. -/
def circuitFindsSpec : ChangeSpec := { name := "circuitFinds", fn := fun _ => fun
  | [d] => { results := [.lit (.bool true)], args := [d] }
  | _ => none }
def circuitFindsRow : OpenClaim := { program := "ytpejpjiipcolbaa", sum := "c4a7df4cae4a8e24b6d4ed335d5f67a7d58d534ff43aded861ba8b08f01d40e6", func := "interlock/interlocklaw03.CircuitFinds", spec := "circuitFinds", inPlace := ["internal/bytealg.IndexByteString", "internal/bytealg.IndexString"], unfollowed := true, recurses := true, named := ["internal/bytealg.MaxLen"], apart := false }
def CircuitFindsSaid : Prop := circuitFindsRow.holds Try.pinned (OpenSpec.ofChange circuitFindsSpec)

/-- ITS FALSE NEIGHBOUR: 'it returns false'. Refute it at one input. -/
def circuitFindsWrong : ChangeSpec := { name := "circuitFinds", fn := fun _ => fun
  | [d] => { results := [.lit (.bool false)], args := [d] }
  | _ => none }
def CircuitFindsWrongFalsely : Prop := circuitFindsRow.holds Try.pinned (OpenSpec.ofChange circuitFindsWrong)

/-- 'interlocklaw03.CircuitCopies': WHATEVER THE INPUT: true; the input reads as it did. -/
def circuitCopiesSpec : ChangeSpec := { name := "circuitCopies", fn := fun _ => fun
  | [d] => { results := [.lit (.bool true)], args := [d] }
  | _ => none }
def circuitCopiesRow : OpenClaim := { program := "ytpejpjiipcolbaa", sum := "c4a7df4cae4a8e24b6d4ed335d5f67a7d58d534ff43aded861ba8b08f01d40e6", func := "interlock/interlocklaw03.CircuitCopies", spec := "circuitCopies", inPlace := ["internal/bytealg.IndexByteString", "internal/bytealg.IndexString"], unfollowed := true, recurses := true, named := ["internal/bytealg.MaxLen"], apart := false }
def CircuitCopiesSaid : Prop := circuitCopiesRow.holds Try.pinned (OpenSpec.ofChange circuitCopiesSpec)

/-- ITS FALSE NEIGHBOUR: 'it returns false'. Refute it at one input. -/
def circuitCopiesWrong : ChangeSpec := { name := "circuitCopies", fn := fun _ => fun
  | [d] => { results := [.lit (.bool false)], args := [d] }
  | _ => none }
def CircuitCopiesWrongFalsely : Prop := circuitCopiesRow.holds Try.pinned (OpenSpec.ofChange circuitCopiesWrong)

/-- 'interlocklaw03.CircuitCone': WHATEVER THE INPUT: true; the input reads as it did. -/
def circuitConeSpec : ChangeSpec := { name := "circuitCone", fn := fun _ => fun
  | [d1, d2] => { results := [.lit (.bool true)], args := [d1, d2] }
  | _ => none }
def circuitConeRow : OpenClaim := { program := "ytpejpjiipcolbaa", sum := "c4a7df4cae4a8e24b6d4ed335d5f67a7d58d534ff43aded861ba8b08f01d40e6", func := "interlock/interlocklaw03.CircuitCone", spec := "circuitCone", inPlace := ["internal/bytealg.IndexByteString", "internal/bytealg.IndexString"], unfollowed := true, recurses := true, named := ["internal/bytealg.MaxLen"], apart := false }
def CircuitConeSaid : Prop := circuitConeRow.holds Try.pinned (OpenSpec.ofChange circuitConeSpec)

/-- ITS FALSE NEIGHBOUR: 'it returns false'. Refute it at one input. -/
def circuitConeWrong : ChangeSpec := { name := "circuitCone", fn := fun _ => fun
  | [d1, d2] => { results := [.lit (.bool false)], args := [d1, d2] }
  | _ => none }
def CircuitConeWrongFalsely : Prop := circuitConeRow.holds Try.pinned (OpenSpec.ofChange circuitConeWrong)

/- THE SECOND FORM. 'bulk': how many values and letters a reading holds, each counted each time it is reached (what is shared counts as often as it is met; a slice's spare places count too). A statement '..UptoSaid' is the law's where the arguments, and the package variables that the reading takes, are together of bulk at most 1048576: NARROWER than '..Said'. Prove '..Said' where nothing that the law and all that it calls make is longer than what came in: it says more and counts as full. Else prove '..UptoSaid'. A law counts once. -/
mutual
def uptoBulk {H : Type} : DataW H → Nat
  | .lit (.string bytes) => bytes.length + 1
  | .lit _ => 1
  | .nil => 1
  | .ptr d => uptoBulk d + 1
  | .slice elems spare => uptoBulkAll elems + uptoBulkAll spare + 1
  | .agg parts => uptoBulkAll parts + 1
  | .iface _ d => uptoBulk d + 1
  | .map entries => uptoBulkEntries entries + 1
  | .held _ => 1
def uptoBulkAll {H : Type} : List (DataW H) → Nat
  | [] => 0
  | d :: r => uptoBulk d + uptoBulkAll r
def uptoBulkEntries {H : Type} : List (Lit × DataW H) → Nat
  | [] => 0
  | x :: r => uptoBulkEntry x + uptoBulkEntries r
def uptoBulkEntry {H : Type} : Lit × DataW H → Nat
  | (.string bytes, d) => bytes.length + uptoBulk d + 1
  | (_, d) => uptoBulk d + 1
 end
def uptoSmall : (H : Type) → List (DataW H) → Bool := fun _ ds => decide (uptoBulkAll ds ≤ 1048576)
def OpenSpec.upto (s : _root_.Go.ChangeSpec) : _root_.Go.OpenSpec := { _root_.Go.OpenSpec.ofChange s with cond := some uptoSmall }

/-- 'interlocklaw03.CircuitKinds', WHERE WHAT IT READS IS OF BULK AT MOST 1048576: true; the input reads as it did. -/
def circuitKindsUptoRow : OpenClaim := { program := "ytpejpjiipcolbaa", sum := "c4a7df4cae4a8e24b6d4ed335d5f67a7d58d534ff43aded861ba8b08f01d40e6", func := "interlock/interlocklaw03.CircuitKinds", spec := "circuitKinds", inPlace := ["internal/bytealg.IndexByteString", "internal/bytealg.IndexString"], unfollowed := true, recurses := true, named := ["internal/bytealg.MaxLen"], apart := false, narrowed := true }
def CircuitKindsUptoSaid : Prop := circuitKindsUptoRow.holds Try.pinned (OpenSpec.upto circuitKindsSpec)

/-- 'interlocklaw03.CircuitFinds', WHERE WHAT IT READS IS OF BULK AT MOST 1048576: true; the input reads as it did. -/
def circuitFindsUptoRow : OpenClaim := { program := "ytpejpjiipcolbaa", sum := "c4a7df4cae4a8e24b6d4ed335d5f67a7d58d534ff43aded861ba8b08f01d40e6", func := "interlock/interlocklaw03.CircuitFinds", spec := "circuitFinds", inPlace := ["internal/bytealg.IndexByteString", "internal/bytealg.IndexString"], unfollowed := true, recurses := true, named := ["internal/bytealg.MaxLen"], apart := false, narrowed := true }
def CircuitFindsUptoSaid : Prop := circuitFindsUptoRow.holds Try.pinned (OpenSpec.upto circuitFindsSpec)

/-- 'interlocklaw03.CircuitCopies', WHERE WHAT IT READS IS OF BULK AT MOST 1048576: true; the input reads as it did. -/
def circuitCopiesUptoRow : OpenClaim := { program := "ytpejpjiipcolbaa", sum := "c4a7df4cae4a8e24b6d4ed335d5f67a7d58d534ff43aded861ba8b08f01d40e6", func := "interlock/interlocklaw03.CircuitCopies", spec := "circuitCopies", inPlace := ["internal/bytealg.IndexByteString", "internal/bytealg.IndexString"], unfollowed := true, recurses := true, named := ["internal/bytealg.MaxLen"], apart := false, narrowed := true }
def CircuitCopiesUptoSaid : Prop := circuitCopiesUptoRow.holds Try.pinned (OpenSpec.upto circuitCopiesSpec)

/-- 'interlocklaw03.CircuitCone', WHERE WHAT IT READS IS OF BULK AT MOST 1048576: true; the input reads as it did. -/
def circuitConeUptoRow : OpenClaim := { program := "ytpejpjiipcolbaa", sum := "c4a7df4cae4a8e24b6d4ed335d5f67a7d58d534ff43aded861ba8b08f01d40e6", func := "interlock/interlocklaw03.CircuitCone", spec := "circuitCone", inPlace := ["internal/bytealg.IndexByteString", "internal/bytealg.IndexString"], unfollowed := true, recurses := true, named := ["internal/bytealg.MaxLen"], apart := false, narrowed := true }
def CircuitConeUptoSaid : Prop := circuitConeUptoRow.holds Try.pinned (OpenSpec.upto circuitConeSpec)

end Rows
end Go.Proofs.Ytpejpjiipcolbaa
