/- Walks: eqItemS, markItemS. -/
import Derived.Test.YtmemenkioejdoaaDoorWItem
import Derived.Test.YtmemenkioejdoaaDoorWMPart
import Derived.StillTailTactics
namespace Go.Proofs.YtmemenkioejdoaaDoor
open Go.RowKit


end Go.Proofs.YtmemenkioejdoaaDoor
