/-
  Plain: may a clause be printed?
-/
import Derived.Test.YtmiklgekcmeedaaDoorNormP
import Derived.Test.YtmiklgekcmeedaaDoorCheckB
namespace Go.Proofs.YtmiklgekcmeedaaDoor
open Go.RowKit Base
namespace Inv
/-- May a clause be printed? -/
def fitsB (l : List Int) : Bool := decide (0 < l.length) && (!RefC.always (RefC.norm l) && (decide (RefC.norm l = l) && decide (Clause.check 64 l = 0)))
end Inv
end Go.Proofs.YtmiklgekcmeedaaDoor
