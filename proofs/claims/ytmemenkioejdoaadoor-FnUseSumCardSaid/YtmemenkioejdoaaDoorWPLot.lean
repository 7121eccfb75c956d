/- Walks on slices of Lot (structs of two integers): szLotS, toLot, toLotS, eqLot, eqLotS. -/
import Derived.Test.YtmemenkioejdoaaDoorWInt
import Derived.StillTailTactics
namespace Go.Proofs.YtmemenkioejdoaaDoor
open Go.RowKit

theorem infoLot : (Tryd.prog.info? 44).map (fun i => (i.zero, i.size, i.bytes)) = some (some (.agg #[.int .i64 0, .int .i64 0]), 2, 16) := by kernel_rfl

/-- the block of a list of pairs -/
def BlkLot (w : World) (g : Nat) (ps : List (Int × Int)) : Prop := Blk w g 44 (pairs ps).toArray

end Go.Proofs.YtmemenkioejdoaaDoor
