/- Walks on slices of Part (structs of two integers): szPartS, toPart, toPartS, eqPart, eqPartS. -/
import Derived.Test.YtmemenkioejdoaaDoorWInt
import Derived.StillTailTactics
namespace Go.Proofs.YtmemenkioejdoaaDoor
open Go.RowKit

theorem infoPart : (Tryd.prog.info? 37).map (fun i => (i.zero, i.size, i.bytes)) = some (some (.agg #[.int .i64 0, .int .i64 0]), 2, 16) := by kernel_rfl

/-- the block of a list of pairs -/
def BlkPart (w : World) (g : Nat) (ps : List (Int × Int)) : Prop := Blk w g 37 (pairs ps).toArray

end Go.Proofs.YtmemenkioejdoaaDoor
