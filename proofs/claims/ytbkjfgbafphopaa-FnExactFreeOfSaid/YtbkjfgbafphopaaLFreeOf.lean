/- The walk of FnExactFreeOf: both sides come to one list; what is marked afterwards shows that it is shared with nothing. -/
import Derived.Test.YtbkjfgbafphopaaWFree
import Derived.Test.YtbkjfgbafphopaaWPlanM
namespace Go.Proofs.Ytbkjfgbafphopaa
open Go.RowKit

set_option maxHeartbeats 2000000 in
theorem law_FreeOf (w : World) (A0 : Option Addr) (n0 c0 : Nat) (xs0 : List (It)) (h0 : RM w A0 n0 xs0) (x1 : Int) (_lo1 : -9223372036854775808 ≤ x1) (_hi1 : x1 ≤ 9223372036854775807) :
    Calls Try.prog 10 #[.slice A0 n0 c0, .int .i64 x1] w fun e w' => e = .returned (.bool true) ∧ Le w w' := by
  have hm0 := h0.max
  have t00 := totM_nonneg xs0 n0
  rcases Int.lt_or_le (1048576) ((n0 : Int) + totM xs0 n0) with hb0 | hn0'
  · go_enter Try.func10, Try.ntmps10
    go_wp2_with fail
    refine (szItemS_no _ _ _ _ _ _ h0 (by omega) (by omega) hb0).mono ?_; rintro e v1 ⟨rfl, q1⟩
    go_wp2
    go_ret
    exact ⟨rfl, q1⟩
  have hz0 : (n0 : Int) + totM xs0 n0 ≤ 1048576 := by omega
  have hLn : (freeL xs0 x1).length ≤ 1048576 := Nat.le_trans (freeL_len h0.len) (by omega)
  go_enter Try.func10, Try.ntmps10
  go_wp2_with fail
  refine (szItemS_ok _ _ _ _ _ _ h0 (by omega) hn0').mono ?_; rintro e w1 ⟨rfl, l1⟩
  go_wp2_with fail
  refine (toItemS_any _ _ _ _ _ (h0.le l1) hz0).mono ?_; rintro e w2 ⟨rfl, r0a, ⟨fr0a, br0a⟩, l2⟩
  go_wp2_with fail
  refine (slice_ret (specFree_any _ _ _ _ _ _ r0a) (by omega)).mono ?_; rintro e w3 ⟨Agw, cgw, rfl, gw, ogw, l3⟩
  go_wp2_with fail
  refine (toItemS_any _ _ _ _ _ (h0.le ((l1.trans l2).trans l3)) hz0).mono ?_; rintro e w4 ⟨rfl, r0b, ⟨fr0b, br0b⟩, l4⟩
  go_wp2_with fail
  refine (slice_ret (implFree_any _ _ _ _ _ _ r0b) (by omega)).mono ?_; rintro e w5 ⟨Agg, cgg, rfl, gg, ogg, l5⟩
  go_wp2_with fail
  refine (eqIntS_self _ _ _ _ _ _ _ _ gg (gw.le (l4.trans l5))).mono ?_; rintro e w6 ⟨rfl, l6⟩
  go_wp2_with fail
  refine (toItemS_any _ _ _ _ _ (h0.le (((((l1.trans l2).trans l3).trans l4).trans l5).trans l6)) hz0).mono ?_; rintro e w7 ⟨rfl, r0c, ⟨fr0c, br0c⟩, l7⟩
  go_wp2_with fail
  refine (eqItemS_self _ _ _ _ _ _ _ _ (r0b.le ((l5.trans l6).trans l7)) r0c).mono ?_; rintro e w8 ⟨rfl, l8⟩
  go_wp2_with fail
  refine (markItemS_own _ _ _ _ _ _ _ _ (OwnM.le br0b (((l5.trans l6).trans l7).trans l8)) hz0 (by omega) (by omega)).mono ?_; rintro e w9 ⟨rfl, gr9⟩
  have gg2 := own_RI2 (Chg.own (own_Le (own_Le (own_Le ogg l6) l7) l8) gr9 (fun g hg => .inr (Nat.le_trans (Le.refl _).size ((ogg).lt g hg).1))) (by omega)
  go_wp2_with fail
  refine (eqIntS_self _ _ _ _ _ _ _ _ gg2 (gw.le (Chg.le gr9 ((((l4.trans l5).trans l6).trans l7).trans l8) (Le.refl _).size))).mono ?_; rintro e w10 ⟨rfl, l10⟩
  go_wp2_with fail
  refine (markIntS_own _ _ _ _ _ 1 _ (own_Le (Chg.own (own_Le (own_Le (own_Le ogg l6) l7) l8) gr9 (fun g hg => .inr (Nat.le_trans (Le.refl _).size ((ogg).lt g hg).1))) l10) hLn (by omega) (by omega)).mono ?_; rintro e w11 ⟨rfl, om, gr11⟩
  go_wp2_with fail
  refine (heldIntS_any _ _ _ 1 _ (own_RI2 om (by omega)) hLn (by omega) (by omega)).mono ?_; rintro e w' ⟨rfl, rfl⟩
  go_wp2_with fail
  refine (toItemS_any _ _ _ _ _ (h0.le (Le.marked ((Chg.le gr9 (((((((l1.trans l2).trans l3).trans l4).trans l5).trans l6).trans l7).trans l8) ((l1.trans l2).trans l3).size).trans l10) (own_Le (Chg.own (own_Le (own_Le (own_Le ogg l6) l7) l8) gr9 (fun g hg => .inr (Nat.le_trans (Le.refl _).size ((ogg).lt g hg).1))) l10) (((l1.trans l2).trans l3).trans l4).size gr11)) hz0).mono ?_; rintro e w12 ⟨rfl, r0d, ⟨fr0d, br0d⟩, l12⟩
  go_wp2_with fail
  refine (slice_ret (implFree_any _ _ _ _ _ _ r0d) (by omega)).mono ?_; rintro e w13 ⟨Agh, cgh, rfl, gh, ogh, l13⟩
  go_wp2_with fail
  refine (eqIntS_self _ _ _ _ _ _ _ _ gh (gw.le (((Le.marked ((Chg.le gr9 ((((l4.trans l5).trans l6).trans l7).trans l8) (Le.refl _).size).trans l10) (own_Le (Chg.own (own_Le (own_Le (own_Le ogg l6) l7) l8) gr9 (fun g hg => .inr (Nat.le_trans (Le.refl _).size ((ogg).lt g hg).1))) l10) l4.size gr11).trans l12).trans l13))).mono ?_; rintro e w14 ⟨rfl, l14⟩
  go_wp2_with fail
  refine (heldIntS_any _ _ _ 1 _ (own_RI2 (own_Le (own_Le (own_Le om l12) l13) l14) (by omega)) hLn (by omega) (by omega)).mono ?_; rintro e w' ⟨rfl, rfl⟩
  go_wp2
  go_ret
  exact ⟨rfl, ((((Le.marked ((Chg.le gr9 (((((((l1.trans l2).trans l3).trans l4).trans l5).trans l6).trans l7).trans l8) ((l1.trans l2).trans l3).size).trans l10) (own_Le (Chg.own (own_Le (own_Le (own_Le ogg l6) l7) l8) gr9 (fun g hg => .inr (Nat.le_trans (Le.refl _).size ((ogg).lt g hg).1))) l10) (((l1.trans l2).trans l3).trans l4).size gr11).trans l12).trans l13).trans l14)⟩

end Go.Proofs.Ytbkjfgbafphopaa
