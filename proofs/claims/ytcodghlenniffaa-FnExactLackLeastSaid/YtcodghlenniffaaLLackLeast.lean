/- The walk of FnExactLackLeast: both sides come to one value, the arguments are left alone. -/
import Derived.Test.YtcodghlenniffaaWMost
import Derived.Test.YtcodghlenniffaaWPLot
namespace Go.Proofs.Ytcodghlenniffaa
open Go.RowKit

set_option maxHeartbeats 1000000 in
theorem law_LackLeast (w : World) (A0 : Option Addr) (n0 c0 : Nat) (xs0 : List (Int × Int)) (h0 : RP w A0 n0 xs0) (A1 : Option Addr) (n1 c1 : Nat) (xs1 : List Int) (h1 : RI w A1 n1 xs1) (_w1 : W64 xs1) :
    Calls Try.prog 14 #[.slice A0 n0 c0, .slice A1 n1 c1] w fun e w' => e = .returned (.bool true) ∧ Le w w' := by
  have hm0 := h0.max
  have hm1 := h1.max
  rcases Nat.lt_or_ge 1048576 n1 with hb1 | hn1
  · go_enter Try.func14, Try.ntmps14
    go_wp2
    go_ret
    exact ⟨rfl, Le.refl _⟩
  rcases Int.lt_or_le (1048576) (n0 : Int) with hb0 | hn0'
  · go_enter Try.func14, Try.ntmps14
    go_wp2_with fail
    refine (szLotS_no _ _ _ _ _ (by omega) (by omega) hb0).mono ?_; rintro e w' ⟨rfl, rfl⟩
    go_wp2
    go_ret
    exact ⟨rfl, Le.refl _⟩
  have hn0 : n0 ≤ 1048576 := by omega
  go_enter Try.func14, Try.ntmps14
  go_wp2_with fail
  refine (szLotS_ok _ _ _ _ _ (by omega) hn0').mono ?_; rintro e w' ⟨rfl, rfl⟩
  go_wp2_with fail
  refine (toLotS_any _ _ _ _ _ h0 hn0).mono ?_; rintro e w1 ⟨rfl, r0a, _, l1⟩
  go_wp2_with fail
  refine (toIntS_r _ _ _ _ _ (h1.le l1) hn1).mono ?_; rintro e w2 ⟨rfl, r1a, _, l2⟩
  go_wp2_with fail
  refine (specLack_any _ _ _ _ _ _ _ _ _ (r0a.le l2) r1a).mono ?_; rintro e w3 ⟨rfl, l3⟩
  go_wp2_with fail
  refine (toLotS_any _ _ _ _ _ (h0.le ((l1.trans l2).trans l3)) hn0).mono ?_; rintro e w4 ⟨rfl, r0b, _, l4⟩
  go_wp2_with fail
  refine (toIntS_r _ _ _ _ _ (h1.le (((l1.trans l2).trans l3).trans l4)) hn1).mono ?_; rintro e w5 ⟨rfl, r1b, _, l5⟩
  go_wp2_with fail
  refine (implLack_any _ _ _ _ _ _ _ _ _ (r0b.le l5) r1b).mono ?_; rintro e w6 ⟨rfl, l6⟩
  go_wp2_with fail
  refine (toLotS_any _ _ _ _ _ (h0.le (((((l1.trans l2).trans l3).trans l4).trans l5).trans l6)) hn0).mono ?_; rintro e w7 ⟨rfl, r0c, _, l7⟩
  go_wp2_with fail
  refine (eqLotS_self _ _ _ _ _ _ _ _ (r0b.le ((l5.trans l6).trans l7)) r0c).mono ?_; rintro e w8 ⟨rfl, l8⟩
  go_wp2_with fail
  refine (toIntS_r _ _ _ _ _ (h1.le (((((((l1.trans l2).trans l3).trans l4).trans l5).trans l6).trans l7).trans l8)) hn1).mono ?_; rintro e w9 ⟨rfl, r1c, _, l9⟩
  go_wp2_with fail
  refine (eqIntS_self _ _ _ _ _ _ _ _ (r1b.le (((l6.trans l7).trans l8).trans l9)) r1c).mono ?_; rintro e w10 ⟨rfl, l10⟩
  go_wp2
  go_ret
  exact ⟨rfl, (((((((((l1.trans l2).trans l3).trans l4).trans l5).trans l6).trans l7).trans l8).trans l9).trans l10)⟩

end Go.Proofs.Ytcodghlenniffaa
