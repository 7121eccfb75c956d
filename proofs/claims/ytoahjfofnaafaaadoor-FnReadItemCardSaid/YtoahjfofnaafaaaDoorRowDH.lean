/- Facts about the whole program that every door law's card leans on, shown once. -/
import Derived.Test.YtoahjfofnaafaaaDoorRows
import Derived.Test.YtoahjfofnaafaaaDoorCards
namespace Go.Proofs.YtoahjfofnaafaaaDoor
theorem prog_main : Tryd.prog.mainIs = some (Rows.fnExactItemTextCard.stood.harness.1, Rows.fnExactItemTextCard.stood.harness.2.toList) := by kernel_rfl
end Go.Proofs.YtoahjfofnaafaaaDoor
