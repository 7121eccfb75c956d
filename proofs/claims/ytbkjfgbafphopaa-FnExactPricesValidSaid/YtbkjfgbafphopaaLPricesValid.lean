/- The walk of FnExactPricesValid: both sides come to one value, the arguments are left alone. -/
import Derived.Test.YtbkjfgbafphopaaWPrice
namespace Go.Proofs.Ytbkjfgbafphopaa
open Go.RowKit

set_option maxHeartbeats 1000000 in
theorem law_PricesValid (w : World) (A0 : Option Addr) (n0 c0 : Nat) (xs0 : List (It)) (h0 : RM w A0 n0 xs0) (A1 : Option Addr) (n1 c1 : Nat) (xs1 : List Int) (h1 : RI w A1 n1 xs1) (_w1 : W64 xs1) :
    Calls Try.prog 5 #[.slice A0 n0 c0, .slice A1 n1 c1] w fun e w' => e = .returned (.bool true) ∧ Le w w' := by
  have hm0 := h0.max
  have hm1 := h1.max
  rcases Nat.lt_or_ge 1048576 n1 with hb1 | hn1
  · go_enter Try.func5, Try.ntmps5
    go_wp2
    go_ret
    exact ⟨rfl, Le.refl _⟩
  have t00 := totM_nonneg xs0 n0
  rcases Int.lt_or_le (1048576) ((n0 : Int) + totM xs0 n0) with hb0 | hn0'
  · go_enter Try.func5, Try.ntmps5
    go_wp2_with fail
    refine (szItemS_no _ _ _ _ _ _ h0 (by omega) (by omega) hb0).mono ?_; rintro e v1 ⟨rfl, q1⟩
    go_wp2
    go_ret
    exact ⟨rfl, q1⟩
  have hz0 : (n0 : Int) + totM xs0 n0 ≤ 1048576 := by omega
  go_enter Try.func5, Try.ntmps5
  go_wp2_with fail
  refine (szItemS_ok _ _ _ _ _ _ h0 (by omega) hn0').mono ?_; rintro e w1 ⟨rfl, l1⟩
  go_wp2_with fail
  refine (toItemS_any _ _ _ _ _ (h0.le l1) hz0).mono ?_; rintro e w2 ⟨rfl, r0a, _, l2⟩
  go_wp2_with fail
  refine (toIntS_r _ _ _ _ _ (h1.le (l1.trans l2)) hn1).mono ?_; rintro e w3 ⟨rfl, r1a, _, l3⟩
  go_wp2_with fail
  refine (specPrices_any _ _ _ _ _ _ _ _ _ (r0a.le l3) r1a).mono ?_; rintro e w4 ⟨rfl, l4⟩
  go_wp2_with fail
  refine (toItemS_any _ _ _ _ _ (h0.le (((l1.trans l2).trans l3).trans l4)) hz0).mono ?_; rintro e w5 ⟨rfl, r0b, _, l5⟩
  go_wp2_with fail
  refine (toIntS_r _ _ _ _ _ (h1.le ((((l1.trans l2).trans l3).trans l4).trans l5)) hn1).mono ?_; rintro e w6 ⟨rfl, r1b, _, l6⟩
  go_wp2_with fail
  refine (implPrices_any _ _ _ _ _ _ _ _ _ (r0b.le l6) r1b).mono ?_; rintro e w7 ⟨rfl, l7⟩
  go_wp2_with fail
  refine (toItemS_any _ _ _ _ _ (h0.le ((((((l1.trans l2).trans l3).trans l4).trans l5).trans l6).trans l7)) hz0).mono ?_; rintro e w8 ⟨rfl, r0c, _, l8⟩
  go_wp2_with fail
  refine (eqItemS_self _ _ _ _ _ _ _ _ (r0b.le ((l6.trans l7).trans l8)) r0c).mono ?_; rintro e w9 ⟨rfl, l9⟩
  go_wp2_with fail
  refine (toIntS_r _ _ _ _ _ (h1.le ((((((((l1.trans l2).trans l3).trans l4).trans l5).trans l6).trans l7).trans l8).trans l9)) hn1).mono ?_; rintro e w10 ⟨rfl, r1c, _, l10⟩
  go_wp2_with fail
  refine (eqIntS_self _ _ _ _ _ _ _ _ (r1b.le (((l7.trans l8).trans l9).trans l10)) r1c).mono ?_; rintro e w11 ⟨rfl, l11⟩
  go_wp2
  go_ret
  exact ⟨rfl, ((((((((((l1.trans l2).trans l3).trans l4).trans l5).trans l6).trans l7).trans l8).trans l9).trans l10).trans l11)⟩

end Go.Proofs.Ytbkjfgbafphopaa
