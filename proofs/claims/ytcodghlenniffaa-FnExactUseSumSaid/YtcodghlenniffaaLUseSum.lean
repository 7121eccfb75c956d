/- The walk of FnExactUseSum: both sides come to one value, the arguments are left alone. -/
import Derived.Test.YtcodghlenniffaaWUseS
namespace Go.Proofs.Ytcodghlenniffaa
open Go.RowKit

set_option maxHeartbeats 1000000 in
theorem law_UseSum (w : World) (A0 : Option Addr) (n0 c0 : Nat) (xs0 : List (List Int)) (h0 : RII w A0 n0 xs0) :
    Calls Try.prog 5 #[.slice A0 n0 c0] w fun e w' => e = .returned (.bool true) ∧ Le w w' := by
  have hm0 := h0.max
  have t00 := totL_nonneg xs0 n0
  rcases Int.lt_or_le (1048576) ((n0 : Int) + totL xs0 n0) with hb0 | hn0'
  · go_enter Try.func5, Try.ntmps5
    go_wp2_with fail
    refine (szIntSS_no _ _ _ _ _ _ h0 (by omega) (by omega) hb0).mono ?_; rintro e w' ⟨rfl, rfl⟩
    go_wp2
    go_ret
    exact ⟨rfl, Le.refl _⟩
  have hz0 : (n0 : Int) + totL xs0 n0 ≤ 1048576 := by omega
  go_enter Try.func5, Try.ntmps5
  go_wp2_with fail
  refine (szIntSS_ok _ _ _ _ _ _ h0 (by omega) hn0').mono ?_; rintro e w' ⟨rfl, rfl⟩
  go_wp2_with fail
  refine (toIntSS_any _ _ _ _ _ h0 hz0).mono ?_; rintro e w1 ⟨rfl, r0a, _, l1⟩
  go_wp2_with fail
  refine (le_of_pure (specUseSum_any _ _ _ _ _ r0a)).mono ?_; rintro e w2 ⟨rfl, l2⟩
  go_wp2_with fail
  refine (toIntSS_any _ _ _ _ _ (h0.le (l1.trans l2)) hz0).mono ?_; rintro e w3 ⟨rfl, r0b, _, l3⟩
  go_wp2_with fail
  refine (le_of_pure (implUseSum_any _ _ _ _ _ r0b)).mono ?_; rintro e w4 ⟨rfl, l4⟩
  go_wp2_with fail
  refine (toIntSS_any _ _ _ _ _ (h0.le (((l1.trans l2).trans l3).trans l4)) hz0).mono ?_; rintro e w5 ⟨rfl, r0c, _, l5⟩
  go_wp2_with fail
  refine (eqIntSS_self _ _ _ _ _ _ _ _ (r0b.le (l4.trans l5)) r0c).mono ?_; rintro e w6 ⟨rfl, l6⟩
  go_wp2
  go_ret
  exact ⟨rfl, (((((l1.trans l2).trans l3).trans l4).trans l5).trans l6)⟩

end Go.Proofs.Ytcodghlenniffaa
