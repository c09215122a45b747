/-
  What a variable of a circuit is (plain).
-/
import Derived.Test.YtjmmhbmbafjneaaGreatDoorGateP
namespace Go.Proofs.YtjmmhbmbafjneaaGreatDoor
open Go.RowKit Base
set_option linter.unusedVariables false
set_option linter.unusedSimpArgs false
namespace Circuit

/-- Is a literal of a variable? -/
def ofV (v l : Int) : Bool := decide (0 ≤ l) && decide (var l = v)

/-- What a variable is. -/
def kindOf (x : Circ) (v : Int) : ByteArray :=
  if v = 0 then ⟨#[48]⟩ else if (x.ins.map (ofV v)).any id = true then ⟨#[105]⟩ else if (x.lats.map fun t => ofV v t.1).any id = true then ⟨#[108]⟩ else if (gate x.ands v).isSome = true then ⟨#[97]⟩ else ⟨#[]⟩

end Circuit
end Go.Proofs.YtjmmhbmbafjneaaGreatDoor
