/- Walks: eqItemS, markItemS. -/
import Derived.Test.YtbkjfgbafphopaaDoorWItem
import Derived.Test.YtbkjfgbafphopaaDoorWMPart
import Derived.StillTailTactics
namespace Go.Proofs.YtbkjfgbafphopaaDoor
open Go.RowKit


end Go.Proofs.YtbkjfgbafphopaaDoor
