/- The walk of FnExactTakeOk: both sides come to one value, the arguments are left alone. -/
import Derived.Test.YtcodghlenniffaaWTakeA
import Derived.Test.YtcodghlenniffaaWPLot
namespace Go.Proofs.Ytcodghlenniffaa
open Go.RowKit

set_option maxHeartbeats 1000000 in
theorem law_TakeOk (w : World) (A0 : Option Addr) (n0 c0 : Nat) (xs0 : List (Int × Int)) (h0 : RP w A0 n0 xs0) (x1 : Int) (_lo1 : -9223372036854775808 ≤ x1) (_hi1 : x1 ≤ 9223372036854775807) (A2 : Option Addr) (n2 c2 : Nat) (xs2 : List Int) (h2 : RI w A2 n2 xs2) (_w2 : W64 xs2) :
    Calls Try.prog 7 #[.slice A0 n0 c0, .int .i64 x1, .slice A2 n2 c2] w fun e w' => e = .returned (.bool true) ∧ Le w w' := by
  have hm0 := h0.max
  have hm2 := h2.max
  rcases Nat.lt_or_ge 1048576 n2 with hb2 | hn2
  · go_enter Try.func7, Try.ntmps7
    go_wp2
    go_ret
    exact ⟨rfl, Le.refl _⟩
  rcases Int.lt_or_le (1048576) (n0 : Int) with hb0 | hn0'
  · go_enter Try.func7, Try.ntmps7
    go_wp2_with fail
    refine (szLotS_no _ _ _ _ _ (by omega) (by omega) hb0).mono ?_; rintro e w' ⟨rfl, rfl⟩
    go_wp2
    go_ret
    exact ⟨rfl, Le.refl _⟩
  have hn0 : n0 ≤ 1048576 := by omega
  go_enter Try.func7, Try.ntmps7
  go_wp2_with fail
  refine (szLotS_ok _ _ _ _ _ (by omega) hn0').mono ?_; rintro e w' ⟨rfl, rfl⟩
  go_wp2_with fail
  refine (toLotS_any _ _ _ _ _ h0 hn0).mono ?_; rintro e w1 ⟨rfl, r0a, _, l1⟩
  go_wp2_with fail
  refine (toIntS_r _ _ _ _ _ (h2.le l1) hn2).mono ?_; rintro e w2 ⟨rfl, r2a, _, l2⟩
  go_wp2_with fail
  refine (le_of_drew (specTakeOk_any _ _ _ _ _ _ _ _ _ _ (r0a.le l2) r2a)).mono ?_; rintro e w3 ⟨rfl, l3⟩
  go_wp2_with fail
  refine (toLotS_any _ _ _ _ _ (h0.le ((l1.trans l2).trans l3)) hn0).mono ?_; rintro e w4 ⟨rfl, r0b, _, l4⟩
  go_wp2_with fail
  refine (toIntS_r _ _ _ _ _ (h2.le (((l1.trans l2).trans l3).trans l4)) hn2).mono ?_; rintro e w5 ⟨rfl, r2b, _, l5⟩
  go_wp2_with fail
  refine (implTakeOk_any _ _ _ _ _ _ _ _ _ _ (r0b.le l5) r2b).mono ?_; rintro e w6 ⟨rfl, l6⟩
  go_wp2_with fail
  refine (toLotS_any _ _ _ _ _ (h0.le (((((l1.trans l2).trans l3).trans l4).trans l5).trans l6)) hn0).mono ?_; rintro e w7 ⟨rfl, r0c, _, l7⟩
  go_wp2_with fail
  refine (eqLotS_self _ _ _ _ _ _ _ _ (r0b.le ((l5.trans l6).trans l7)) r0c).mono ?_; rintro e w8 ⟨rfl, l8⟩
  go_wp2_with fail
  refine (toIntS_r _ _ _ _ _ (h2.le (((((((l1.trans l2).trans l3).trans l4).trans l5).trans l6).trans l7).trans l8)) hn2).mono ?_; rintro e w9 ⟨rfl, r2c, _, l9⟩
  go_wp2_with fail
  refine (eqIntS_self _ _ _ _ _ _ _ _ (r2b.le (((l6.trans l7).trans l8).trans l9)) r2c).mono ?_; rintro e w10 ⟨rfl, l10⟩
  go_wp2
  go_ret
  exact ⟨rfl, (((((((((l1.trans l2).trans l3).trans l4).trans l5).trans l6).trans l7).trans l8).trans l9).trans l10)⟩

end Go.Proofs.Ytcodghlenniffaa
