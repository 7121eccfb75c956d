/- Walks on plans: szPlan, toPlan, eqPlan. -/
import Derived.Test.YtbkjfgbafphopaaDoorWMarks
namespace Go.Proofs.YtbkjfgbafphopaaDoor
open Go.RowKit

end Go.Proofs.YtbkjfgbafphopaaDoor
