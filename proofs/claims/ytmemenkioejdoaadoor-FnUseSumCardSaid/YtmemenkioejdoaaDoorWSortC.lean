/- Walk: spoilOrder. -/
import Derived.Test.YtmemenkioejdoaaDoorWSortB
import Derived.LoopN
namespace Go.Proofs.YtmemenkioejdoaaDoor
open Go.RowKit

theorem Pre.none (ps : List (Int × Int)) (xs : List Int) (hl : xs.length = 0) : Pre ps xs 0 0 :=
  ⟨hl, Nat.le_refl _, fun q _ hq => absurd hq (by omega), fun q hq => absurd hq (by omega), fun q hq => absurd hq (by omega), fun q hq => absurd hq (by omega)⟩

end Go.Proofs.YtmemenkioejdoaaDoor
