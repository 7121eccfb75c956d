/- Walks: markPartS, heldPartS (slices of structs of two integers). -/
import Derived.Test.YteeklaplnhafoaaDoorWUpP
import Derived.Test.YteeklaplnhafoaaDoorWPPart
namespace Go.Proofs.YteeklaplnhafoaaDoor
open Go.RowKit
end Go.Proofs.YteeklaplnhafoaaDoor
