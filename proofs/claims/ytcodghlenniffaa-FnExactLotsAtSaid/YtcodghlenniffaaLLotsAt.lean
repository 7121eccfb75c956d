/- The walk of FnExactLotsAt: both sides come to one value, the arguments are left alone. -/
import Derived.Test.YtcodghlenniffaaWLotA
import Derived.Test.YtcodghlenniffaaWPLot
namespace Go.Proofs.Ytcodghlenniffaa
open Go.RowKit

set_option maxHeartbeats 1000000 in
theorem law_LotsAt (w : World) (A0 : Option Addr) (n0 c0 : Nat) (xs0 : List (Int × Int)) (h0 : RP w A0 n0 xs0) (x1 : Int) (_lo1 : -9223372036854775808 ≤ x1) (_hi1 : x1 ≤ 9223372036854775807) :
    Calls Try.prog 6 #[.slice A0 n0 c0, .int .i64 x1] w fun e w' => e = .returned (.bool true) ∧ Le w w' := by
  have hm0 := h0.max
  rcases Int.lt_or_le (1048576) (n0 : Int) with hb0 | hn0'
  · go_enter Try.func6, Try.ntmps6
    go_wp2_with fail
    refine (szLotS_no _ _ _ _ _ (by omega) (by omega) hb0).mono ?_; rintro e w' ⟨rfl, rfl⟩
    go_wp2
    go_ret
    exact ⟨rfl, Le.refl _⟩
  have hn0 : n0 ≤ 1048576 := by omega
  go_enter Try.func6, Try.ntmps6
  go_wp2_with fail
  refine (szLotS_ok _ _ _ _ _ (by omega) hn0').mono ?_; rintro e w' ⟨rfl, rfl⟩
  go_wp2_with fail
  refine (toLotS_any _ _ _ _ _ h0 hn0).mono ?_; rintro e w1 ⟨rfl, r0a, _, l1⟩
  go_wp2_with fail
  refine (le_of_pure (specLotsAt_any _ _ _ _ _ _ r0a)).mono ?_; rintro e w2 ⟨rfl, l2⟩
  go_wp2_with fail
  refine (toLotS_any _ _ _ _ _ (h0.le (l1.trans l2)) hn0).mono ?_; rintro e w3 ⟨rfl, r0b, _, l3⟩
  go_wp2_with fail
  refine (implLotsAt_any _ _ _ _ _ _ r0b).mono ?_; rintro e w4 ⟨rfl, l4⟩
  go_wp2_with fail
  refine (toLotS_any _ _ _ _ _ (h0.le (((l1.trans l2).trans l3).trans l4)) hn0).mono ?_; rintro e w5 ⟨rfl, r0c, _, l5⟩
  go_wp2_with fail
  refine (eqLotS_self _ _ _ _ _ _ _ _ (r0b.le (l4.trans l5)) r0c).mono ?_; rintro e w6 ⟨rfl, l6⟩
  go_wp2
  go_ret
  exact ⟨rfl, (((((l1.trans l2).trans l3).trans l4).trans l5).trans l6)⟩

end Go.Proofs.Ytcodghlenniffaa
