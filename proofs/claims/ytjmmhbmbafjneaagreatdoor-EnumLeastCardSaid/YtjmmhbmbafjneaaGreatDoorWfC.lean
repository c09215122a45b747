/-
  Plain: a circuit's integers are such.
-/
import Derived.Test.YtjmmhbmbafjneaaGreatDoorKindP
import Derived.Test.YtjmmhbmbafjneaaGreatDoorCheckC
namespace Go.Proofs.YtjmmhbmbafjneaaGreatDoor
open Go.RowKit Base
namespace Circuit

/-- A circuit's integers are such. -/
structure WfC (x : Circ) : Prop where
  mx : I64 x.max
  ins : ∀ l ∈ x.ins, I64 l
  lats : WfT x.lats
  outs : ∀ l ∈ x.outs, I64 l
  bads : ∀ l ∈ x.bads, I64 l
  invs : ∀ l ∈ x.invs, I64 l
  ands : WfT x.ands
  names : ∀ t ∈ x.names, I64 t.2.1

end Circuit
end Go.Proofs.YtjmmhbmbafjneaaGreatDoor
