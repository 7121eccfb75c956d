/- Walk: the library's insertion sort, at the indices of at most 8 lots. -/
import Derived.Test.YtmemenkioejdoaaDoorWSort
import Derived.BigRegion
import Derived.LoopN
namespace Go.Proofs.YtmemenkioejdoaaDoor
open Go.RowKit

theorem ints_set (xs : List Int) (j : Nat) (v : Int) : (ints xs).toArray.setIfInBounds j (.int .i64 v) = (ints (xs.set j v)).toArray := by
  apply Array.ext'
  simp [ints, List.map_set]

theorem BlkI.cell_ {w : World} {g : Nat} {xs : List Int} (h : BlkI w g xs) {j : Nat} (hj : j < xs.length) : w.cell? ⟨g, j, none⟩ = some (.int .i64 (gi xs j)) := by
  have h1 := Blk.cell h j
  rw [h1, List.getElem?_toArray, ints_getElem? hj]
theorem BlkI.set2 {w : World} {g : Nat} {xs : List Int} (h : BlkI w g xs) (i j : Nat) (u v : Int) : BlkI ((w.setCell ⟨g, i, none⟩ (.int .i64 u)).setCell ⟨g, j, none⟩ (.int .i64 v)) g ((xs.set i u).set j v) := by
  have h1 := Blk.set_ (Blk.set_ h i (.int .i64 u)) j (.int .i64 v)
  rw [ints_set, ints_set] at h1
  exact h1

end Go.Proofs.YtmemenkioejdoaaDoor
