/- Two facts about the whole program, shown once for all laws of the seat. -/
import Derived.Test.YtcodghlenniffaaRows
import Derived.Test.YtcodghlenniffaaRow
namespace Go.Proofs.Ytcodghlenniffaa

theorem prog_mayEnter : Try.prog.mayEnter = true := by kernel_rfl
theorem prog_lifts : Try.prog.liftsFinal = false := by kernel_rfl
end Go.Proofs.Ytcodghlenniffaa
