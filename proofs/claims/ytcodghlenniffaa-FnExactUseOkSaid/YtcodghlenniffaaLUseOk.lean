/- The walk of FnExactUseOk: both sides come to one value, the arguments are left alone. -/
import Derived.Test.YtcodghlenniffaaWUseO
import Derived.Test.YtcodghlenniffaaWPLot
namespace Go.Proofs.Ytcodghlenniffaa
open Go.RowKit

set_option maxHeartbeats 1000000 in
theorem law_UseOk (w : World) (A0 : Option Addr) (n0 c0 : Nat) (xs0 : List (Int × Int)) (h0 : RP w A0 n0 xs0) (A1 : Option Addr) (n1 c1 : Nat) (xs1 : List Int) (h1 : RI w A1 n1 xs1) (_w1 : W64 xs1) (A2 : Option Addr) (n2 c2 : Nat) (xs2 : List (List Int)) (h2 : RII w A2 n2 xs2) :
    Calls Try.prog 10 #[.slice A0 n0 c0, .slice A1 n1 c1, .slice A2 n2 c2] w fun e w' => e = .returned (.bool true) ∧ Le w w' := by
  have hm0 := h0.max
  have hm1 := h1.max
  have hm2 := h2.max
  rcases Nat.lt_or_ge 1048576 n1 with hb1 | hn1
  · go_enter Try.func10, Try.ntmps10
    go_wp2
    go_ret
    exact ⟨rfl, Le.refl _⟩
  rcases Int.lt_or_le (1048576) (n0 : Int) with hb0 | hn0'
  · go_enter Try.func10, Try.ntmps10
    go_wp2_with fail
    refine (szLotS_no _ _ _ _ _ (by omega) (by omega) hb0).mono ?_; rintro e w' ⟨rfl, rfl⟩
    go_wp2
    go_ret
    exact ⟨rfl, Le.refl _⟩
  have hn0 : n0 ≤ 1048576 := by omega
  have t02 := totL_nonneg xs2 n2
  rcases Int.lt_or_le (1048576 - n0) ((n2 : Int) + totL xs2 n2) with hb2 | hn2'
  · go_enter Try.func10, Try.ntmps10
    go_wp2_with fail
    refine (szLotS_ok _ _ _ _ _ (by omega) hn0').mono ?_; rintro e w' ⟨rfl, rfl⟩
    go_wp2_with fail
    refine (szIntSS_no _ _ _ _ _ _ h2 (by omega) (by omega) hb2).mono ?_; rintro e w' ⟨rfl, rfl⟩
    go_wp2
    go_ret
    exact ⟨rfl, Le.refl _⟩
  have hz2 : (n2 : Int) + totL xs2 n2 ≤ 1048576 := by omega
  go_enter Try.func10, Try.ntmps10
  go_wp2_with fail
  refine (szLotS_ok _ _ _ _ _ (by omega) hn0').mono ?_; rintro e w' ⟨rfl, rfl⟩
  go_wp2_with fail
  refine (szIntSS_ok _ _ _ _ _ _ h2 (by omega) hn2').mono ?_; rintro e w' ⟨rfl, rfl⟩
  go_wp2_with fail
  refine (toLotS_any _ _ _ _ _ h0 hn0).mono ?_; rintro e w1 ⟨rfl, r0a, _, l1⟩
  go_wp2_with fail
  refine (toIntS_r _ _ _ _ _ (h1.le l1) hn1).mono ?_; rintro e w2 ⟨rfl, r1a, _, l2⟩
  go_wp2_with fail
  refine (toIntSS_any _ _ _ _ _ (h2.le (l1.trans l2)) hz2).mono ?_; rintro e w3 ⟨rfl, r2a, _, l3⟩
  go_wp2_with fail
  refine (specUseOk_any _ _ _ _ _ _ _ _ _ _ _ _ _ (r0a.le (l2.trans l3)) (r1a.le l3) r2a).mono ?_; rintro e w4 ⟨rfl, l4⟩
  go_wp2_with fail
  refine (toLotS_any _ _ _ _ _ (h0.le (((l1.trans l2).trans l3).trans l4)) hn0).mono ?_; rintro e w5 ⟨rfl, r0b, _, l5⟩
  go_wp2_with fail
  refine (toIntS_r _ _ _ _ _ (h1.le ((((l1.trans l2).trans l3).trans l4).trans l5)) hn1).mono ?_; rintro e w6 ⟨rfl, r1b, _, l6⟩
  go_wp2_with fail
  refine (toIntSS_any _ _ _ _ _ (h2.le (((((l1.trans l2).trans l3).trans l4).trans l5).trans l6)) hz2).mono ?_; rintro e w7 ⟨rfl, r2b, _, l7⟩
  go_wp2_with fail
  refine (implUseOk_any _ _ _ _ _ _ _ _ _ _ _ _ _ (r0b.le (l6.trans l7)) (r1b.le l7) r2b).mono ?_; rintro e w8 ⟨rfl, l8⟩
  go_wp2_with fail
  refine (toLotS_any _ _ _ _ _ (h0.le (((((((l1.trans l2).trans l3).trans l4).trans l5).trans l6).trans l7).trans l8)) hn0).mono ?_; rintro e w9 ⟨rfl, r0c, _, l9⟩
  go_wp2_with fail
  refine (eqLotS_self _ _ _ _ _ _ _ _ (r0b.le (((l6.trans l7).trans l8).trans l9)) r0c).mono ?_; rintro e w10 ⟨rfl, l10⟩
  go_wp2_with fail
  refine (toIntS_r _ _ _ _ _ (h1.le (((((((((l1.trans l2).trans l3).trans l4).trans l5).trans l6).trans l7).trans l8).trans l9).trans l10)) hn1).mono ?_; rintro e w11 ⟨rfl, r1c, _, l11⟩
  go_wp2_with fail
  refine (eqIntS_self _ _ _ _ _ _ _ _ (r1b.le ((((l7.trans l8).trans l9).trans l10).trans l11)) r1c).mono ?_; rintro e w12 ⟨rfl, l12⟩
  go_wp2_with fail
  refine (toIntSS_any _ _ _ _ _ (h2.le (((((((((((l1.trans l2).trans l3).trans l4).trans l5).trans l6).trans l7).trans l8).trans l9).trans l10).trans l11).trans l12)) hz2).mono ?_; rintro e w13 ⟨rfl, r2c, _, l13⟩
  go_wp2_with fail
  refine (eqIntSS_self _ _ _ _ _ _ _ _ (r2b.le (((((l8.trans l9).trans l10).trans l11).trans l12).trans l13)) r2c).mono ?_; rintro e w14 ⟨rfl, l14⟩
  go_wp2
  go_ret
  exact ⟨rfl, (((((((((((((l1.trans l2).trans l3).trans l4).trans l5).trans l6).trans l7).trans l8).trans l9).trans l10).trans l11).trans l12).trans l13).trans l14)⟩

end Go.Proofs.Ytcodghlenniffaa
