/- Walks: eqItemS, markItemS. -/
import Derived.Test.YteeklaplnhafoaaDoorWItem
import Derived.Test.YteeklaplnhafoaaDoorWMPart
import Derived.StillTailTactics
namespace Go.Proofs.YteeklaplnhafoaaDoor
open Go.RowKit


end Go.Proofs.YteeklaplnhafoaaDoor
