/-
  No cell of these rows narrows 'for every input' (looked for: loops, veiled, ifaces, maps, wideKeys, modest, calm, conditions, laid).
  DERIVED. THE GIVEN ROWS OF THIS SEAT. 3 by the template 'for every input the law returns true; each argument reads behind the call as it read before'; 0 by the template 'total and deterministic' (their statements: YthdhlkcdbogcaaaTotals.lean).
  GIVEN WITH THE SEED: the statements are not yours to turn. If you find one false, say at which input.
  Laid BY PROGRAM, IN A SANDBOX (cutbox-rows.mjs): the forced cells as the released guide's own fill.sh prints them over the translation 9c56fabc998524f7… (all of the seat's roots in one cut). By AI agents, Wed Nov 11 2026. No macro, syntax, notation, axiom, sorry.
-/
import Derived.Test.YthdhlkcdbogcaaaChecked
import GoSem.Claim
import GoSem.ClaimJoined
import GoSem.ClaimMapViews
import Derived.JoinedTies
import Derived.KernelRfl
namespace Go.Proofs.Ythdhlkcdbogcaaa
/- THE CELL 'sum', in the pinned program and in every row, IS THE sha256 OF THE DUMP (.gsa) THAT YthdhlkcdbogcaaaProg.lean LOADS. Nothing in Lean hashes anything: it is a label: what it is worth is what the hold of that sum in a sandbox is worth. -/
noncomputable def Try.pinned : Pinned := { name := "ythdhlkcdbogcaaa", sum := "9c56fabc998524f76051d7d21ebcfe9dda33e996f185565dc5b43063782b50ad", checked := Try.checked }
namespace Rows
def none {H : Type} : Left H := { results := [], args := [] }

/-- 'interlocklaw06.StrashSame': WHATEVER THE INPUT: true; the input reads as it did. -/
def strashSameSpec : ChangeSpec := { name := "strashSame", fn := fun _ => fun
  | [d1, d2] => { results := [.lit (.bool true)], args := [d1, d2] }
  | _ => none }
def strashSameRow : OpenClaim := { program := "ythdhlkcdbogcaaa", sum := "9c56fabc998524f76051d7d21ebcfe9dda33e996f185565dc5b43063782b50ad", func := "interlock/interlocklaw06.StrashSame", spec := "strashSame", inPlace := ["internal/bytealg.IndexByteString", "internal/bytealg.IndexString"], unfollowed := true, recurses := true, named := ["internal/bytealg.MaxLen"], plainKeys := false, apart := false }
def StrashSameSaid : Prop := strashSameRow.holds Try.pinned (OpenSpec.ofChange strashSameSpec)

/-- ITS FALSE NEIGHBOUR: 'it returns false'. Refute it at one input. -/
def strashSameWrong : ChangeSpec := { name := "strashSame", fn := fun _ => fun
  | [d1, d2] => { results := [.lit (.bool false)], args := [d1, d2] }
  | _ => none }
def StrashSameWrongFalsely : Prop := strashSameRow.holds Try.pinned (OpenSpec.ofChange strashSameWrong)

/-- 'interlocklaw06.StrashLess': WHATEVER THE INPUT: true; the input reads as it did. -/
def strashLessSpec : ChangeSpec := { name := "strashLess", fn := fun _ => fun
  | [d] => { results := [.lit (.bool true)], args := [d] }
  | _ => none }
def strashLessRow : OpenClaim := { program := "ythdhlkcdbogcaaa", sum := "9c56fabc998524f76051d7d21ebcfe9dda33e996f185565dc5b43063782b50ad", func := "interlock/interlocklaw06.StrashLess", spec := "strashLess", inPlace := ["internal/bytealg.IndexByteString", "internal/bytealg.IndexString"], unfollowed := true, recurses := true, named := ["internal/bytealg.MaxLen"], plainKeys := false, apart := false }
def StrashLessSaid : Prop := strashLessRow.holds Try.pinned (OpenSpec.ofChange strashLessSpec)

/-- ITS FALSE NEIGHBOUR: 'it returns false'. Refute it at one input. -/
def strashLessWrong : ChangeSpec := { name := "strashLess", fn := fun _ => fun
  | [d] => { results := [.lit (.bool false)], args := [d] }
  | _ => none }
def StrashLessWrongFalsely : Prop := strashLessRow.holds Try.pinned (OpenSpec.ofChange strashLessWrong)

/-- 'interlocklaw06.StrashTwice': WHATEVER THE INPUT: true; the input reads as it did. -/
def strashTwiceSpec : ChangeSpec := { name := "strashTwice", fn := fun _ => fun
  | [d1, d2] => { results := [.lit (.bool true)], args := [d1, d2] }
  | _ => none }
def strashTwiceRow : OpenClaim := { program := "ythdhlkcdbogcaaa", sum := "9c56fabc998524f76051d7d21ebcfe9dda33e996f185565dc5b43063782b50ad", func := "interlock/interlocklaw06.StrashTwice", spec := "strashTwice", inPlace := ["internal/bytealg.IndexByteString", "internal/bytealg.IndexString"], unfollowed := true, recurses := true, named := ["internal/bytealg.MaxLen"], plainKeys := false, apart := false }
def StrashTwiceSaid : Prop := strashTwiceRow.holds Try.pinned (OpenSpec.ofChange strashTwiceSpec)

/-- ITS FALSE NEIGHBOUR: 'it returns false'. Refute it at one input. -/
def strashTwiceWrong : ChangeSpec := { name := "strashTwice", fn := fun _ => fun
  | [d1, d2] => { results := [.lit (.bool false)], args := [d1, d2] }
  | _ => none }
def StrashTwiceWrongFalsely : Prop := strashTwiceRow.holds Try.pinned (OpenSpec.ofChange strashTwiceWrong)

/- THE SECOND FORM. 'bulk': how many values and letters a reading holds, each counted each time it is reached (what is shared counts as often as it is met; a slice's spare places count too). A statement '..UptoSaid' is the law's where the arguments, and the package variables that the reading takes, are together of bulk at most 1048576: NARROWER than '..Said'. Prove '..Said' where nothing that the law and all that it calls make is longer than what came in: it says more and counts as full. Else prove '..UptoSaid'. A law counts once. -/
mutual
def uptoBulk {H : Type} : DataW H → Nat
  | .lit (.string bytes) => bytes.length + 1
  | .lit _ => 1
  | .nil => 1
  | .ptr d => uptoBulk d + 1
  | .slice elems spare => uptoBulkAll elems + uptoBulkAll spare + 1
  | .agg parts => uptoBulkAll parts + 1
  | .iface _ d => uptoBulk d + 1
  | .map entries => uptoBulkEntries entries + 1
  | .held _ => 1
def uptoBulkAll {H : Type} : List (DataW H) → Nat
  | [] => 0
  | d :: r => uptoBulk d + uptoBulkAll r
def uptoBulkEntries {H : Type} : List (Lit × DataW H) → Nat
  | [] => 0
  | x :: r => uptoBulkEntry x + uptoBulkEntries r
def uptoBulkEntry {H : Type} : Lit × DataW H → Nat
  | (.string bytes, d) => bytes.length + uptoBulk d + 1
  | (_, d) => uptoBulk d + 1
 end
def uptoSmall : (H : Type) → List (DataW H) → Bool := fun _ ds => decide (uptoBulkAll ds ≤ 1048576)
def OpenSpec.upto (s : _root_.Go.ChangeSpec) : _root_.Go.OpenSpec := { _root_.Go.OpenSpec.ofChange s with cond := some uptoSmall }

/-- 'interlocklaw06.StrashSame', WHERE WHAT IT READS IS OF BULK AT MOST 1048576: true; the input reads as it did. -/
def strashSameUptoRow : OpenClaim := { program := "ythdhlkcdbogcaaa", sum := "9c56fabc998524f76051d7d21ebcfe9dda33e996f185565dc5b43063782b50ad", func := "interlock/interlocklaw06.StrashSame", spec := "strashSame", inPlace := ["internal/bytealg.IndexByteString", "internal/bytealg.IndexString"], unfollowed := true, recurses := true, named := ["internal/bytealg.MaxLen"], plainKeys := false, apart := false, narrowed := true }
def StrashSameUptoSaid : Prop := strashSameUptoRow.holds Try.pinned (OpenSpec.upto strashSameSpec)

/-- 'interlocklaw06.StrashLess', WHERE WHAT IT READS IS OF BULK AT MOST 1048576: true; the input reads as it did. -/
def strashLessUptoRow : OpenClaim := { program := "ythdhlkcdbogcaaa", sum := "9c56fabc998524f76051d7d21ebcfe9dda33e996f185565dc5b43063782b50ad", func := "interlock/interlocklaw06.StrashLess", spec := "strashLess", inPlace := ["internal/bytealg.IndexByteString", "internal/bytealg.IndexString"], unfollowed := true, recurses := true, named := ["internal/bytealg.MaxLen"], plainKeys := false, apart := false, narrowed := true }
def StrashLessUptoSaid : Prop := strashLessUptoRow.holds Try.pinned (OpenSpec.upto strashLessSpec)

/-- 'interlocklaw06.StrashTwice', WHERE WHAT IT READS IS OF BULK AT MOST 1048576: true; the input reads as it did. -/
def strashTwiceUptoRow : OpenClaim := { program := "ythdhlkcdbogcaaa", sum := "9c56fabc998524f76051d7d21ebcfe9dda33e996f185565dc5b43063782b50ad", func := "interlock/interlocklaw06.StrashTwice", spec := "strashTwice", inPlace := ["internal/bytealg.IndexByteString", "internal/bytealg.IndexString"], unfollowed := true, recurses := true, named := ["internal/bytealg.MaxLen"], plainKeys := false, apart := false, narrowed := true }
def StrashTwiceUptoSaid : Prop := strashTwiceUptoRow.holds Try.pinned (OpenSpec.upto strashTwiceSpec)

end Rows
end Go.Proofs.Ythdhlkcdbogcaaa
