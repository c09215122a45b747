/-
  Plain: clauses as a text.
-/
import Derived.Test.YtmiklgekcmeedaaDoorDigP
import Derived.Test.YtmiklgekcmeedaaDoorFitP
import Derived.Lib.Join
namespace Go.Proofs.YtmiklgekcmeedaaDoor
open Go.RowKit Base
namespace Dig
def lineT (l : List Int) : List UInt8 := Lib.join (l.map pr) [32]
end Dig
namespace Inv
open Dig
def hd (n : Nat) : List UInt8 := [105, 110, 118, 32] ++ pr (n : Int)
def textP (l : List (List Int)) : List UInt8 := Lib.join (hd l.length :: (l.map lineT ++ [[46]])) [10] ++ [10]
def allFit (l : List (List Int)) : Bool := !(l.map fun x => !fitsB x).any id
def printS (l : List (List Int)) : ByteArray × Int := if 1024 < l.length then (⟨#[]⟩, 3) else if allFit l = true then (str (textP l), 0) else (⟨#[]⟩, 9)
end Inv
end Go.Proofs.YtmiklgekcmeedaaDoor
