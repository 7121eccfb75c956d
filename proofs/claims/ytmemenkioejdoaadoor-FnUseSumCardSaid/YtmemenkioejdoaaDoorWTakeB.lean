/- Walks: TakeDo of the program and of the reference. -/
import Derived.Test.YtmemenkioejdoaaDoorWTakeA
import Derived.Test.YtmemenkioejdoaaDoorWPLot
import Derived.Test.YtmemenkioejdoaaDoorWUpP
import Derived.Maps.AppendAt
namespace Go.Proofs.YtmemenkioejdoaaDoor
open Go.RowKit

def takeDo1 (ps : List (Int × Int)) (take : List Int) (k : Nat) : Int × Int := ((gp ps k).1 - gi take k, (gp ps k).2)
def takeDoL (ps : List (Int × Int)) (take : List Int) : List (Int × Int) := (List.range ps.length).map (takeDo1 ps take)
def takeDoR (ps : List (Int × Int)) (day : Int) (take : List Int) : List (Int × Int) := if takeOkL ps day take = true then takeDoL ps take else []
theorem gp_range (n : Nat) (f : Nat → Int × Int) {j : Nat} (h : j < n) : gp ((List.range n).map f) j = f j := by
  unfold gp; rw [List.getD_eq_getElem?_getD, List.getElem?_map, List.getElem?_range h]; rfl
theorem takeDoL_length (ps : List (Int × Int)) (take : List Int) : (takeDoL ps take).length = ps.length := by simp [takeDoL]
theorem takeDoR_le {ps : List (Int × Int)} {day : Int} {take : List Int} {n m : Nat} (hl : ps.length = n) (h : n ≤ m) : (takeDoR ps day take).length ≤ m := by
  unfold takeDoR
  split
  · rw [takeDoL_length, hl]; exact h
  · exact Nat.zero_le _
theorem gp_takeDoL {ps : List (Int × Int)} {take : List Int} {k : Nat} (h : k < ps.length) : gp (takeDoL ps take) k = takeDo1 ps take k := gp_range _ _ h

end Go.Proofs.YtmemenkioejdoaaDoor
