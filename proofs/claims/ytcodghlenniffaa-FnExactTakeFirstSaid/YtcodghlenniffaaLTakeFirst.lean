/- The walk of FnExactTakeFirst: both sides come to one list; what is marked afterwards shows that it is shared with nothing. -/
import Derived.Test.YtcodghlenniffaaWTakeG
import Derived.Test.YtcodghlenniffaaWMLot
namespace Go.Proofs.Ytcodghlenniffaa
open Go.RowKit

set_option maxHeartbeats 2000000 in
theorem law_TakeFirst (w : World) (A0 : Option Addr) (n0 c0 : Nat) (xs0 : List (Int × Int)) (h0 : RP w A0 n0 xs0) (x1 : Int) (_lo1 : -9223372036854775808 ≤ x1) (_hi1 : x1 ≤ 9223372036854775807) (x2 : Int) (_lo2 : -9223372036854775808 ≤ x2) (_hi2 : x2 ≤ 9223372036854775807) :
    Calls Try.prog 11 #[.slice A0 n0 c0, .int .i64 x1, .int .i64 x2] w fun e w' => e = .returned (.bool true) ∧ Le w w' := by
  have hm0 := h0.max
  rcases Int.lt_or_le (1048576) (n0 : Int) with hb0 | hn0'
  · go_enter Try.func11, Try.ntmps11
    go_wp2_with fail
    refine (szLotS_no _ _ _ _ _ (by omega) (by omega) hb0).mono ?_; rintro e w' ⟨rfl, rfl⟩
    go_wp2
    go_ret
    exact ⟨rfl, Le.refl _⟩
  have hn0 : n0 ≤ 1048576 := by omega
  have hLn : (takeFirstL xs0 x1 x2).length ≤ 1048576 := takeFirstL_le h0.len hn0
  go_enter Try.func11, Try.ntmps11
  go_wp2_with fail
  refine (szLotS_ok _ _ _ _ _ (by omega) hn0').mono ?_; rintro e w' ⟨rfl, rfl⟩
  go_wp2_with fail
  refine (toLotS_any _ _ _ _ _ h0 hn0).mono ?_; rintro e w1 ⟨rfl, r0a, br0a, l1⟩
  go_wp2_with fail
  refine (slice_ret (specTakeFirst_any _ _ _ _ _ _ _ r0a) (by omega)).mono ?_; rintro e w2 ⟨Agw, cgw, rfl, gw, ogw, l2⟩
  go_wp2_with fail
  refine (toLotS_any _ _ _ _ _ (h0.le (l1.trans l2)) hn0).mono ?_; rintro e w3 ⟨rfl, r0b, br0b, l3⟩
  go_wp2_with fail
  refine (slice_ret (implTakeFirst_any _ _ _ _ _ _ _ r0b) (by omega)).mono ?_; rintro e w4 ⟨Agg, cgg, rfl, gg, ogg, l4⟩
  go_wp2_with fail
  refine (eqIntS_self _ _ _ _ _ _ _ _ gg (gw.le (l3.trans l4))).mono ?_; rintro e w5 ⟨rfl, l5⟩
  go_wp2_with fail
  refine (toLotS_any _ _ _ _ _ (h0.le ((((l1.trans l2).trans l3).trans l4).trans l5)) hn0).mono ?_; rintro e w6 ⟨rfl, r0c, br0c, l6⟩
  go_wp2_with fail
  refine (eqLotS_self _ _ _ _ _ _ _ _ (r0b.le ((l4.trans l5).trans l6)) r0c).mono ?_; rintro e w7 ⟨rfl, l7⟩
  go_wp2_with fail
  refine (markLotS_own _ _ _ _ _ _ _ (own_Le (own_Le (own_Le (own_Le (Blk.ownP br0b (Nat.le_refl _) h0.len h0.max) l4) l5) l6) l7) hn0 (by omega) (by omega)).mono ?_; rintro e w8 ⟨rfl, _, gr8⟩
  have gg2 := own_RI2 (own_gb (own_Le (own_Le (own_Le ogg l5) l6) l7) gr8 (fun g hg => Nat.lt_of_lt_of_le (((Blk.ownP br0b (Nat.le_refl _) h0.len h0.max)).lt g hg).2 (Le.refl _).size)) (by omega)
  go_wp2_with fail
  refine (eqIntS_self _ _ _ _ _ _ _ _ gg2 (gw.le (Le.marked ((((l3.trans l4).trans l5).trans l6).trans l7) (own_Le (own_Le (own_Le (own_Le (Blk.ownP br0b (Nat.le_refl _) h0.len h0.max) l4) l5) l6) l7) (Le.refl _).size gr8))).mono ?_; rintro e w9 ⟨rfl, l9⟩
  go_wp2_with fail
  refine (markIntS_own _ _ _ _ _ 1 _ (own_Le (own_gb (own_Le (own_Le (own_Le ogg l5) l6) l7) gr8 (fun g hg => Nat.lt_of_lt_of_le (((Blk.ownP br0b (Nat.le_refl _) h0.len h0.max)).lt g hg).2 (Le.refl _).size)) l9) hLn (by omega) (by omega)).mono ?_; rintro e w10 ⟨rfl, om, gr10⟩
  go_wp2_with fail
  refine (heldIntS_any _ _ _ 1 _ (own_RI2 om (by omega)) hLn (by omega) (by omega)).mono ?_; rintro e w' ⟨rfl, rfl⟩
  go_wp2_with fail
  refine (toLotS_any _ _ _ _ _ (h0.le (Le.marked ((Le.marked ((((((l1.trans l2).trans l3).trans l4).trans l5).trans l6).trans l7) (own_Le (own_Le (own_Le (own_Le (Blk.ownP br0b (Nat.le_refl _) h0.len h0.max) l4) l5) l6) l7) (l1.trans l2).size gr8).trans l9) (own_Le (own_gb (own_Le (own_Le (own_Le ogg l5) l6) l7) gr8 (fun g hg => Nat.lt_of_lt_of_le (((Blk.ownP br0b (Nat.le_refl _) h0.len h0.max)).lt g hg).2 (Le.refl _).size)) l9) ((l1.trans l2).trans l3).size gr10)) hn0).mono ?_; rintro e w11 ⟨rfl, r0d, br0d, l11⟩
  go_wp2_with fail
  refine (slice_ret (implTakeFirst_any _ _ _ _ _ _ _ r0d) (by omega)).mono ?_; rintro e w12 ⟨Agh, cgh, rfl, gh, ogh, l12⟩
  go_wp2_with fail
  refine (eqIntS_self _ _ _ _ _ _ _ _ gh (gw.le (((Le.marked ((Le.marked ((((l3.trans l4).trans l5).trans l6).trans l7) (own_Le (own_Le (own_Le (own_Le (Blk.ownP br0b (Nat.le_refl _) h0.len h0.max) l4) l5) l6) l7) (Le.refl _).size gr8).trans l9) (own_Le (own_gb (own_Le (own_Le (own_Le ogg l5) l6) l7) gr8 (fun g hg => Nat.lt_of_lt_of_le (((Blk.ownP br0b (Nat.le_refl _) h0.len h0.max)).lt g hg).2 (Le.refl _).size)) l9) l3.size gr10).trans l11).trans l12))).mono ?_; rintro e w13 ⟨rfl, l13⟩
  go_wp2_with fail
  refine (heldIntS_any _ _ _ 1 _ (own_RI2 (own_Le (own_Le (own_Le om l11) l12) l13) (by omega)) hLn (by omega) (by omega)).mono ?_; rintro e w' ⟨rfl, rfl⟩
  go_wp2
  go_ret
  exact ⟨rfl, ((((Le.marked ((Le.marked ((((((l1.trans l2).trans l3).trans l4).trans l5).trans l6).trans l7) (own_Le (own_Le (own_Le (own_Le (Blk.ownP br0b (Nat.le_refl _) h0.len h0.max) l4) l5) l6) l7) (l1.trans l2).size gr8).trans l9) (own_Le (own_gb (own_Le (own_Le (own_Le ogg l5) l6) l7) gr8 (fun g hg => Nat.lt_of_lt_of_le (((Blk.ownP br0b (Nat.le_refl _) h0.len h0.max)).lt g hg).2 (Le.refl _).size)) l9) ((l1.trans l2).trans l3).size gr10).trans l11).trans l12).trans l13)⟩

end Go.Proofs.Ytcodghlenniffaa
