/- The walk of FnExactUnitCost: both sides come to one value, the arguments are left alone. -/
import Derived.Test.YtbkjfgbafphopaaWUnitS
namespace Go.Proofs.Ytbkjfgbafphopaa
open Go.RowKit

set_option maxHeartbeats 1000000 in
theorem law_UnitCost (w : World) (A0 : Option Addr) (n0 c0 : Nat) (xs0 : List (It)) (h0 : RM w A0 n0 xs0) (A1 : Option Addr) (n1 c1 : Nat) (xs1 : List Int) (h1 : RI w A1 n1 xs1) (_w1 : W64 xs1) (x2 : Int) (_lo2 : -9223372036854775808 ≤ x2) (_hi2 : x2 ≤ 9223372036854775807) :
    Calls Try.prog 8 #[.slice A0 n0 c0, .slice A1 n1 c1, .int .i64 x2] w fun e w' => e = .returned (.bool true) ∧ Le w w' := by
  have hm0 := h0.max
  have hm1 := h1.max
  rcases Nat.lt_or_ge 1048576 n1 with hb1 | hn1
  · go_enter Try.func8, Try.ntmps8
    go_wp2
    go_ret
    exact ⟨rfl, Le.refl _⟩
  have t00 := totM_nonneg xs0 n0
  rcases Int.lt_or_le (1048576) ((n0 : Int) + totM xs0 n0) with hb0 | hn0'
  · go_enter Try.func8, Try.ntmps8
    go_wp2_with fail
    refine (szItemS_no _ _ _ _ _ _ h0 (by omega) (by omega) hb0).mono ?_; rintro e v1 ⟨rfl, q1⟩
    go_wp2
    go_ret
    exact ⟨rfl, q1⟩
  have hz0 : (n0 : Int) + totM xs0 n0 ≤ 1048576 := by omega
  go_enter Try.func8, Try.ntmps8
  go_wp2_with fail
  refine (szItemS_ok _ _ _ _ _ _ h0 (by omega) hn0').mono ?_; rintro e w1 ⟨rfl, l1⟩
  go_wp2_with fail
  refine (toItemS_any _ _ _ _ _ (h0.le l1) hz0).mono ?_; rintro e w2 ⟨rfl, r0a, _, l2⟩
  go_wp2_with fail
  refine (toIntS_r _ _ _ _ _ (h1.le (l1.trans l2)) hn1).mono ?_; rintro e w3 ⟨rfl, r1a, _, l3⟩
  go_wp2_with fail
  refine (specUnit_any _ _ _ _ _ _ _ _ _ _ (r0a.le l3) r1a _hi2).mono ?_; rintro e w4 ⟨rfl, l4⟩
  have l5 := (Le.refl w4).alloc (.cells #[.int .i64 ((unitL xs0 xs1 x2).1 : Nat), .int .i64 ((unitL xs0 xs1 x2).2 : Nat)] 45)
  have fw := Blk.new w4 45 #[.int .i64 ((unitL xs0 xs1 x2).1 : Nat), .int .i64 ((unitL xs0 xs1 x2).2 : Nat)]
  generalize hwfw : w4.alloc (.cells #[.int .i64 ((unitL xs0 xs1 x2).1 : Nat), .int .i64 ((unitL xs0 xs1 x2).2 : Nat)] 45) = w5 at *
  go_wp2_with fail
  refine (toItemS_any _ _ _ _ _ (h0.le ((((l1.trans l2).trans l3).trans l4).trans l5)) hz0).mono ?_; rintro e w6 ⟨rfl, r0b, _, l6⟩
  go_wp2_with fail
  refine (toIntS_r _ _ _ _ _ (h1.le (((((l1.trans l2).trans l3).trans l4).trans l5).trans l6)) hn1).mono ?_; rintro e w7 ⟨rfl, r1b, _, l7⟩
  go_wp2_with fail
  refine (implUnit_any _ _ _ _ _ _ _ _ _ _ (r0b.le l7) r1b _hi2).mono ?_; rintro e w8 ⟨rfl, l8⟩
  have l9 := (Le.refl w8).alloc (.cells #[.int .i64 ((unitL xs0 xs1 x2).1 : Nat), .int .i64 ((unitL xs0 xs1 x2).2 : Nat)] 45)
  have fg := Blk.new w8 45 #[.int .i64 ((unitL xs0 xs1 x2).1 : Nat), .int .i64 ((unitL xs0 xs1 x2).2 : Nat)]
  generalize hwfg : w8.alloc (.cells #[.int .i64 ((unitL xs0 xs1 x2).1 : Nat), .int .i64 ((unitL xs0 xs1 x2).2 : Nat)] 45) = w9 at *
  have fw0 := (fw.le (((l6.trans l7).trans l8).trans l9)).cell 0
  have fw1 := (fw.le (((l6.trans l7).trans l8).trans l9)).cell 1
  simp at fw0 fw1
  clear fw
  have fg0 := (fg.le (Le.refl _)).cell 0
  have fg1 := (fg.le (Le.refl _)).cell 1
  simp at fg0 fg1
  clear fg
  have hbb : (unitOkL xs0 xs1 x2 != unitOkL xs0 xs1 x2) = false := by simp
  go_wp2_with fail
  refine (eqFrac_self _ _ _).mono ?_; rintro e w10 ⟨rfl, l10⟩
  go_wp2_with fail
  refine (toItemS_any _ _ _ _ _ (h0.le (((((((((l1.trans l2).trans l3).trans l4).trans l5).trans l6).trans l7).trans l8).trans l9).trans l10)) hz0).mono ?_; rintro e w11 ⟨rfl, r0c, _, l11⟩
  go_wp2_with fail
  refine (eqItemS_self _ _ _ _ _ _ _ _ (r0b.le ((((l7.trans l8).trans l9).trans l10).trans l11)) r0c).mono ?_; rintro e w12 ⟨rfl, l12⟩
  go_wp2_with fail
  refine (toIntS_r _ _ _ _ _ (h1.le (((((((((((l1.trans l2).trans l3).trans l4).trans l5).trans l6).trans l7).trans l8).trans l9).trans l10).trans l11).trans l12)) hn1).mono ?_; rintro e w13 ⟨rfl, r1c, _, l13⟩
  go_wp2_with fail
  refine (eqIntS_self _ _ _ _ _ _ _ _ (r1b.le (((((l8.trans l9).trans l10).trans l11).trans l12).trans l13)) r1c).mono ?_; rintro e w14 ⟨rfl, l14⟩
  go_wp2
  go_ret
  exact ⟨rfl, (((((((((((((l1.trans l2).trans l3).trans l4).trans l5).trans l6).trans l7).trans l8).trans l9).trans l10).trans l11).trans l12).trans l13).trans l14)⟩

end Go.Proofs.Ytbkjfgbafphopaa
