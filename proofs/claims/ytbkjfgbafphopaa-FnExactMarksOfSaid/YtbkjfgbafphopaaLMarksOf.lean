/- The walk of FnExactMarksOf: both sides come to one value, the arguments are left alone. -/
import Derived.Test.YtbkjfgbafphopaaWMarks
namespace Go.Proofs.Ytbkjfgbafphopaa
open Go.RowKit

set_option maxHeartbeats 1000000 in
theorem law_MarksOf (w : World) (A0 : Option Addr) (n0 c0 : Nat) (xs0 : List (It)) (h0 : RM w A0 n0 xs0) (x1 : Int) (_lo1 : -9223372036854775808 ≤ x1) (_hi1 : x1 ≤ 9223372036854775807) :
    Calls Try.prog 6 #[.slice A0 n0 c0, .int .i64 x1] w fun e w' => e = .returned (.bool true) ∧ Le w w' := by
  have hm0 := h0.max
  have t00 := totM_nonneg xs0 n0
  rcases Int.lt_or_le (1048576) ((n0 : Int) + totM xs0 n0) with hb0 | hn0'
  · go_enter Try.func6, Try.ntmps6
    go_wp2_with fail
    refine (szItemS_no _ _ _ _ _ _ h0 (by omega) (by omega) hb0).mono ?_; rintro e v1 ⟨rfl, q1⟩
    go_wp2
    go_ret
    exact ⟨rfl, q1⟩
  have hz0 : (n0 : Int) + totM xs0 n0 ≤ 1048576 := by omega
  go_enter Try.func6, Try.ntmps6
  go_wp2_with fail
  refine (szItemS_ok _ _ _ _ _ _ h0 (by omega) hn0').mono ?_; rintro e w1 ⟨rfl, l1⟩
  go_wp2_with fail
  refine (toItemS_any _ _ _ _ _ (h0.le l1) hz0).mono ?_; rintro e w2 ⟨rfl, r0a, _, l2⟩
  go_wp2_with fail
  refine (specMarks_any _ _ _ _ _ _ r0a).mono ?_; rintro e w3 ⟨rfl, l3⟩
  go_wp2_with fail
  refine (toItemS_any _ _ _ _ _ (h0.le ((l1.trans l2).trans l3)) hz0).mono ?_; rintro e w4 ⟨rfl, r0b, _, l4⟩
  go_wp2_with fail
  refine (implMarks_any _ _ _ _ _ _ r0b).mono ?_; rintro e w5 ⟨rfl, l5⟩
  go_wp2_with fail
  refine (toItemS_any _ _ _ _ _ (h0.le ((((l1.trans l2).trans l3).trans l4).trans l5)) hz0).mono ?_; rintro e w6 ⟨rfl, r0c, _, l6⟩
  go_wp2_with fail
  refine (eqItemS_self _ _ _ _ _ _ _ _ (r0b.le (l5.trans l6)) r0c).mono ?_; rintro e w7 ⟨rfl, l7⟩
  go_wp2
  go_ret
  exact ⟨rfl, ((((((l1.trans l2).trans l3).trans l4).trans l5).trans l6).trans l7)⟩

end Go.Proofs.Ytbkjfgbafphopaa
