/- Walks: UseBound of the program and of the reference. -/
import Derived.Test.YtmemenkioejdoaaDoorWLotA
namespace Go.Proofs.YtmemenkioejdoaaDoor
open Go.RowKit

def useArgs (ps : List (Int × Int)) (ws : List Int) : Bool := lotsL ps && wantsL ws
def useBoundL (ps : List (Int × Int)) (ws : List Int) (day : Int) : Int := if ((lotsL ps && wantsL ws) && inB 0 6 day) = true then lotsAtL ps day + sumTo (gi ws) (min day.toNat ws.length) else -1
theorem lotsAtL_b {ps : List (Int × Int)} (h : lotsL ps = true) (day : Int) : 0 ≤ lotsAtL ps day ∧ lotsAtL ps day ≤ 45 := by
  obtain ⟨h5, hf⟩ := lots_facts rfl h
  unfold lotsAtL
  rw [h, if_pos rfl]
  have := sumTo_bound (f := lotAt ps day) (c := 9) (n := ps.length) (lotAt_bound day hf)
  omega
theorem wants_sum {ws : List Int} (h : wantsL ws = true) {k : Nat} (hk : k ≤ ws.length) : 0 ≤ sumTo (gi ws) k ∧ sumTo (gi ws) k ≤ 300 := by
  obtain ⟨h6, hf⟩ := wants_facts rfl h
  have := sumTo_bound (f := gi ws) (c := 50) (n := k) fun j hj => hf j (by omega)
  omega
theorem wants_sumW {ws : List Int} (h : wantsL ws = true) {k : Nat} (hk : k ≤ ws.length) : sumW (gi ws) k = sumTo (gi ws) k := by
  obtain ⟨h6, hf⟩ := wants_facts rfl h
  exact sumW_eq 50 (fun j hj => hf j (by omega)) (by omega)
theorem gi_take (xs : List Int) {k j : Nat} (h : j < k) : gi (xs.take k) j = gi xs j := by
  unfold gi; rw [List.getD_eq_getElem?_getD, List.getD_eq_getElem?_getD, List.getElem?_take, if_pos h]

end Go.Proofs.YtmemenkioejdoaaDoor
