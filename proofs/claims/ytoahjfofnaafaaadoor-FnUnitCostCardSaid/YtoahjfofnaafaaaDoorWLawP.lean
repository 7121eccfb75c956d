/- Small words for the laws on plans. -/
import Derived.Test.YtoahjfofnaafaaaDoorWLawD
import Derived.Test.YtoahjfofnaafaaaDoorWLeastI
import Derived.Test.YtoahjfofnaafaaaDoorWLeastS
import Derived.Test.YtoahjfofnaafaaaDoorPPlanB
import Derived.Test.YtoahjfofnaafaaaDoorWAlive
namespace Go.Proofs.YtoahjfofnaafaaaDoor
open Go.RowKit

theorem plan_retN {P : Program} {f : FuncId} {args : Array Value} {w : World} {t : TypeId} {L M : List Int} {b : Bool}
    (h : Calls P f args w fun e w' => ∃ v1 v2, e = .returned (.tuple #[.agg #[v1, v2], .bool b]) ∧ w'.ownsRow w.heap.size t 1 v1 L.length (ints L) ∧ w'.ownsRow w.heap.size t 1 v2 M.length (ints M) ∧ (∀ g, v1.ownBlock = some g → v2.ownBlock ≠ some g) ∧ Le w w') (hm : L.length ≤ 9223372036854775807) (hn : M.length ≤ 9223372036854775807) :
    Calls P f args w fun e w' => ∃ A c B d, e = .returned (.tuple #[.agg #[.slice A L.length c, .slice B M.length d], .bool b]) ∧ RI w' A L.length L ∧ RI w' B M.length M ∧ Le w w' :=
  h.mono fun e w' ⟨v1, v2, he, o1, o2, ha, hl⟩ => by
    obtain ⟨A, c, rfl, hr⟩ := own_RI o1 hm
    obtain ⟨B, d, rfl, hs⟩ := own_RI o2 hn
    exact ⟨A, c, B, d, he, hr, hs, hl⟩
end Go.Proofs.YtoahjfofnaafaaaDoor
