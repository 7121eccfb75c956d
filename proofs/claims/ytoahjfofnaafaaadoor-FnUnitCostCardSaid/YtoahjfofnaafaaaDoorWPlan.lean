/- Walks on plans: szPlan, toPlan, eqPlan. -/
import Derived.Test.YtoahjfofnaafaaaDoorWMarks
namespace Go.Proofs.YtoahjfofnaafaaaDoor
open Go.RowKit

end Go.Proofs.YtoahjfofnaafaaaDoor
