/- FnExactConstants: the law's walk. -/
import Derived.Test.YtedopialmhpalaaProg
import Derived.Test.YtedopialmhpalaaKit
namespace Go.Proofs.Ytedopialmhpalaa
open Go.RowKit
theorem law_Constants (w : World) :
    Calls Try.prog 3 #[] w fun e w' => e = .returned (.bool true) ∧ Le w w' := by
  go_enter Try.func3, Try.ntmps3
  go_wp2
  go_ret
  exact ⟨rfl, Le.refl _⟩
end Go.Proofs.Ytedopialmhpalaa
