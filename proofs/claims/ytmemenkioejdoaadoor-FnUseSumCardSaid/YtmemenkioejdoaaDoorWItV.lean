/- Walks: which items are valid. -/
import Derived.Test.YtmemenkioejdoaaDoorWItemB
namespace Go.Proofs.YtmemenkioejdoaaDoor
open Go.RowKit

def partB (ps : List (Int × Int)) (index : Int) (k : Nat) : Bool := (inB 0 (index - 1) (gp ps k).1 && inB 1 6 (gp ps k).2) && (decide (k = 0) || decide ((gp ps (k - 1)).1 < (gp ps k).1))
def itemL (x : It) (index : Int) : Bool := (List.range x.2.1.length).all (partB x.2.1 index) && (((inB 0 6 x.1 && decide (x.2.1.length ≤ 3)) && (decide (0 < x.1) == decide (0 < x.2.1.length))) && inB 0 31 x.2.2)
theorem itemL_f {x : It} {index : Int} {k : Nat} (hk : k < x.2.1.length) (h : partB x.2.1 index k = false) : itemL x index = false := by
  unfold itemL
  have : (List.range x.2.1.length).all (partB x.2.1 index) = false := by
    rw [← Bool.not_eq_true, List.all_eq_true]
    intro hh
    rw [hh k (List.mem_range.2 hk)] at h; cases h
  rw [this, Bool.false_and]

end Go.Proofs.YtmemenkioejdoaaDoor
