/- Facts about the whole program that every door law's card leans on, shown once. -/
import Derived.Test.YtbkjfgbafphopaaDoorRows
import Derived.Test.YtbkjfgbafphopaaDoorCards
namespace Go.Proofs.YtbkjfgbafphopaaDoor
theorem prog_main : Tryd.prog.mainIs = some (Rows.fnItemsValidCard.stood.harness.1, Rows.fnItemsValidCard.stood.harness.2.toList) := by kernel_rfl
end Go.Proofs.YtbkjfgbafphopaaDoor
