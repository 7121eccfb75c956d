/- Walks: eqItemS, markItemS. -/
import Derived.Test.YtoahjfofnaafaaaDoorWItem
import Derived.Test.YtoahjfofnaafaaaDoorWMPart
import Derived.StillTailTactics
namespace Go.Proofs.YtoahjfofnaafaaaDoor
open Go.RowKit


end Go.Proofs.YtoahjfofnaafaaaDoor
