/- Walks: markPartS, heldPartS (slices of structs of two integers). -/
import Derived.Test.YtmemenkioejdoaaDoorWUpP
import Derived.Test.YtmemenkioejdoaaDoorWPPart
namespace Go.Proofs.YtmemenkioejdoaaDoor
open Go.RowKit
end Go.Proofs.YtmemenkioejdoaaDoor
