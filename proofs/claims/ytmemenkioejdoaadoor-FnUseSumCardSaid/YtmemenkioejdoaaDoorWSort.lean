/- Walks: indices, spoilOrder with its test, and the library's insertion sort that it goes by (at most 8 lots). -/
import Derived.Test.YtmemenkioejdoaaDoorPSort
import Derived.Test.YtmemenkioejdoaaDoorWLotA
import Derived.Test.YtmemenkioejdoaaDoorWMark
import Derived.StillTailTactics
namespace Go.Proofs.YtmemenkioejdoaaDoor
open Go.RowKit

end Go.Proofs.YtmemenkioejdoaaDoor
