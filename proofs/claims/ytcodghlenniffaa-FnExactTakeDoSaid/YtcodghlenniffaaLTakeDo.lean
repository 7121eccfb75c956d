/- The walk of FnExactTakeDo: both sides come to one list; what is marked afterwards shows that it is shared with nothing. -/
import Derived.Test.YtcodghlenniffaaWTakeC
import Derived.Test.YtcodghlenniffaaWMLot
namespace Go.Proofs.Ytcodghlenniffaa
open Go.RowKit

set_option maxHeartbeats 2000000 in
theorem law_TakeDo (w : World) (A0 : Option Addr) (n0 c0 : Nat) (xs0 : List (Int × Int)) (h0 : RP w A0 n0 xs0) (x1 : Int) (_lo1 : -9223372036854775808 ≤ x1) (_hi1 : x1 ≤ 9223372036854775807) (A2 : Option Addr) (n2 c2 : Nat) (xs2 : List Int) (h2 : RI w A2 n2 xs2) (_w2 : W64 xs2) :
    Calls Try.prog 9 #[.slice A0 n0 c0, .int .i64 x1, .slice A2 n2 c2] w fun e w' => e = .returned (.bool true) ∧ Le w w' := by
  have hm0 := h0.max
  have hm2 := h2.max
  rcases Nat.lt_or_ge 1048576 n2 with hb2 | hn2
  · go_enter Try.func9, Try.ntmps9
    go_wp2
    go_ret
    exact ⟨rfl, Le.refl _⟩
  rcases Int.lt_or_le (1048576) (n0 : Int) with hb0 | hn0'
  · go_enter Try.func9, Try.ntmps9
    go_wp2_with fail
    refine (szLotS_no _ _ _ _ _ (by omega) (by omega) hb0).mono ?_; rintro e w' ⟨rfl, rfl⟩
    go_wp2
    go_ret
    exact ⟨rfl, Le.refl _⟩
  have hn0 : n0 ≤ 1048576 := by omega
  have hLn : (takeDoR xs0 x1 xs2).length ≤ 1048576 := takeDoR_le h0.len hn0
  have hbb : (takeOkL xs0 x1 xs2 != takeOkL xs0 x1 xs2) = false := by simp
  go_enter Try.func9, Try.ntmps9
  go_wp2_with fail
  refine (szLotS_ok _ _ _ _ _ (by omega) hn0').mono ?_; rintro e w' ⟨rfl, rfl⟩
  go_wp2_with fail
  refine (toLotS_any _ _ _ _ _ h0 hn0).mono ?_; rintro e w1 ⟨rfl, r0a, br0a, l1⟩
  go_wp2_with fail
  refine (toIntS_r _ _ _ _ _ (h2.le l1) hn2).mono ?_; rintro e w2 ⟨rfl, r2a, br2a, l2⟩
  go_wp2_with fail
  refine (slice_retPB (specTakeDo_any _ _ _ _ _ _ _ _ _ _ (r0a.le l2) r2a) (by omega)).mono ?_; rintro e w3 ⟨Agw, cgw, rfl, gw, ogw, l3⟩
  go_wp2_with fail
  refine (toLotS_any _ _ _ _ _ (h0.le ((l1.trans l2).trans l3)) hn0).mono ?_; rintro e w4 ⟨rfl, r0b, br0b, l4⟩
  go_wp2_with fail
  refine (toIntS_r _ _ _ _ _ (h2.le (((l1.trans l2).trans l3).trans l4)) hn2).mono ?_; rintro e w5 ⟨rfl, r2b, br2b, l5⟩
  go_wp2_with fail
  refine (slice_retPB (implTakeDo_any _ _ _ _ _ _ _ _ _ _ (r0b.le l5) r2b) (by omega)).mono ?_; rintro e w6 ⟨Agg, cgg, rfl, gg, ogg, l6⟩
  go_wp2_with fail
  refine (eqLotS_self _ _ _ _ _ _ _ _ gg (gw.le ((l4.trans l5).trans l6))).mono ?_; rintro e w7 ⟨rfl, l7⟩
  go_wp2_with fail
  refine (toLotS_any _ _ _ _ _ (h0.le ((((((l1.trans l2).trans l3).trans l4).trans l5).trans l6).trans l7)) hn0).mono ?_; rintro e w8 ⟨rfl, r0c, br0c, l8⟩
  go_wp2_with fail
  refine (eqLotS_self _ _ _ _ _ _ _ _ (r0b.le (((l5.trans l6).trans l7).trans l8)) r0c).mono ?_; rintro e w9 ⟨rfl, l9⟩
  go_wp2_with fail
  refine (toIntS_r _ _ _ _ _ (h2.le ((((((((l1.trans l2).trans l3).trans l4).trans l5).trans l6).trans l7).trans l8).trans l9)) hn2).mono ?_; rintro e w10 ⟨rfl, r2c, br2c, l10⟩
  go_wp2_with fail
  refine (eqIntS_self _ _ _ _ _ _ _ _ (r2b.le ((((l6.trans l7).trans l8).trans l9).trans l10)) r2c).mono ?_; rintro e w11 ⟨rfl, l11⟩
  go_wp2_with fail
  refine (markLotS_own _ _ _ _ _ _ _ (own_Le (own_Le (own_Le (own_Le (own_Le (own_Le (own_Le (Blk.ownP br0b (Nat.le_refl _) h0.len h0.max) l5) l6) l7) l8) l9) l10) l11) hn0 (by omega) (by omega)).mono ?_; rintro e w12 ⟨rfl, _, gr12⟩
  go_wp2_with fail
  refine (markIntS_own _ _ _ _ _ _ _ (own_gb (own_Le (own_Le (own_Le (own_Le (own_Le (own_Le (Blk.ownI br2b (Nat.le_refl _) h2.len h2.max) l6) l7) l8) l9) l10) l11) gr12 (fun g hg => Nat.lt_of_lt_of_le (((Blk.ownP br0b (Nat.le_refl _) h0.len h0.max)).lt g hg).2 (Le.refl _).size)) hn2 (by omega) (by omega)).mono ?_; rintro e w13 ⟨rfl, _, gr13⟩
  have gg2 := own_RP2 (own_gb (own_gb (own_Le (own_Le (own_Le (own_Le (own_Le ogg l7) l8) l9) l10) l11) gr12 (fun g hg => Nat.lt_of_lt_of_le (((Blk.ownP br0b (Nat.le_refl _) h0.len h0.max)).lt g hg).2 l5.size)) gr13 (fun g hg => Nat.lt_of_lt_of_le (((Blk.ownI br2b (Nat.le_refl _) h2.len h2.max)).lt g hg).2 (Le.refl _).size)) (by omega)
  go_wp2_with fail
  refine (eqLotS_self _ _ _ _ _ _ _ _ gg2 (gw.le (Le.marked (Le.marked (((((((l4.trans l5).trans l6).trans l7).trans l8).trans l9).trans l10).trans l11) (own_Le (own_Le (own_Le (own_Le (own_Le (own_Le (own_Le (Blk.ownP br0b (Nat.le_refl _) h0.len h0.max) l5) l6) l7) l8) l9) l10) l11) (Le.refl _).size gr12) (own_gb (own_Le (own_Le (own_Le (own_Le (own_Le (own_Le (Blk.ownI br2b (Nat.le_refl _) h2.len h2.max) l6) l7) l8) l9) l10) l11) gr12 (fun g hg => Nat.lt_of_lt_of_le (((Blk.ownP br0b (Nat.le_refl _) h0.len h0.max)).lt g hg).2 (Le.refl _).size)) l4.size gr13))).mono ?_; rintro e w14 ⟨rfl, l14⟩
  go_wp2_with fail
  refine (markLotS_own _ _ _ _ _ 1 _ (own_Le (own_gb (own_gb (own_Le (own_Le (own_Le (own_Le (own_Le ogg l7) l8) l9) l10) l11) gr12 (fun g hg => Nat.lt_of_lt_of_le (((Blk.ownP br0b (Nat.le_refl _) h0.len h0.max)).lt g hg).2 l5.size)) gr13 (fun g hg => Nat.lt_of_lt_of_le (((Blk.ownI br2b (Nat.le_refl _) h2.len h2.max)).lt g hg).2 (Le.refl _).size)) l14) hLn (by omega) (by omega)).mono ?_; rintro e w15 ⟨rfl, om, gr15⟩
  go_wp2_with fail
  refine (heldLotS_any _ _ _ 1 _ (own_RP2 om (by omega)) hLn (by omega) (by omega)).mono ?_; rintro e w' ⟨rfl, rfl⟩
  go_wp2_with fail
  refine (toLotS_any _ _ _ _ _ (h0.le (Le.marked ((Le.marked (Le.marked ((((((((((l1.trans l2).trans l3).trans l4).trans l5).trans l6).trans l7).trans l8).trans l9).trans l10).trans l11) (own_Le (own_Le (own_Le (own_Le (own_Le (own_Le (own_Le (Blk.ownP br0b (Nat.le_refl _) h0.len h0.max) l5) l6) l7) l8) l9) l10) l11) ((l1.trans l2).trans l3).size gr12) (own_gb (own_Le (own_Le (own_Le (own_Le (own_Le (own_Le (Blk.ownI br2b (Nat.le_refl _) h2.len h2.max) l6) l7) l8) l9) l10) l11) gr12 (fun g hg => Nat.lt_of_lt_of_le (((Blk.ownP br0b (Nat.le_refl _) h0.len h0.max)).lt g hg).2 (Le.refl _).size)) (((l1.trans l2).trans l3).trans l4).size gr13).trans l14) (own_Le (own_gb (own_gb (own_Le (own_Le (own_Le (own_Le (own_Le ogg l7) l8) l9) l10) l11) gr12 (fun g hg => Nat.lt_of_lt_of_le (((Blk.ownP br0b (Nat.le_refl _) h0.len h0.max)).lt g hg).2 l5.size)) gr13 (fun g hg => Nat.lt_of_lt_of_le (((Blk.ownI br2b (Nat.le_refl _) h2.len h2.max)).lt g hg).2 (Le.refl _).size)) l14) ((((l1.trans l2).trans l3).trans l4).trans l5).size gr15)) hn0).mono ?_; rintro e w16 ⟨rfl, r0d, br0d, l16⟩
  go_wp2_with fail
  refine (toIntS_r _ _ _ _ _ (h2.le ((Le.marked ((Le.marked (Le.marked ((((((((((l1.trans l2).trans l3).trans l4).trans l5).trans l6).trans l7).trans l8).trans l9).trans l10).trans l11) (own_Le (own_Le (own_Le (own_Le (own_Le (own_Le (own_Le (Blk.ownP br0b (Nat.le_refl _) h0.len h0.max) l5) l6) l7) l8) l9) l10) l11) ((l1.trans l2).trans l3).size gr12) (own_gb (own_Le (own_Le (own_Le (own_Le (own_Le (own_Le (Blk.ownI br2b (Nat.le_refl _) h2.len h2.max) l6) l7) l8) l9) l10) l11) gr12 (fun g hg => Nat.lt_of_lt_of_le (((Blk.ownP br0b (Nat.le_refl _) h0.len h0.max)).lt g hg).2 (Le.refl _).size)) (((l1.trans l2).trans l3).trans l4).size gr13).trans l14) (own_Le (own_gb (own_gb (own_Le (own_Le (own_Le (own_Le (own_Le ogg l7) l8) l9) l10) l11) gr12 (fun g hg => Nat.lt_of_lt_of_le (((Blk.ownP br0b (Nat.le_refl _) h0.len h0.max)).lt g hg).2 l5.size)) gr13 (fun g hg => Nat.lt_of_lt_of_le (((Blk.ownI br2b (Nat.le_refl _) h2.len h2.max)).lt g hg).2 (Le.refl _).size)) l14) ((((l1.trans l2).trans l3).trans l4).trans l5).size gr15).trans l16)) hn2).mono ?_; rintro e w17 ⟨rfl, r2d, br2d, l17⟩
  go_wp2_with fail
  refine (slice_retPB (implTakeDo_any _ _ _ _ _ _ _ _ _ _ (r0d.le l17) r2d) (by omega)).mono ?_; rintro e w18 ⟨Agh, cgh, rfl, gh, ogh, l18⟩
  go_wp2_with fail
  refine (eqLotS_self _ _ _ _ _ _ _ _ gh (gw.le ((((Le.marked ((Le.marked (Le.marked (((((((l4.trans l5).trans l6).trans l7).trans l8).trans l9).trans l10).trans l11) (own_Le (own_Le (own_Le (own_Le (own_Le (own_Le (own_Le (Blk.ownP br0b (Nat.le_refl _) h0.len h0.max) l5) l6) l7) l8) l9) l10) l11) (Le.refl _).size gr12) (own_gb (own_Le (own_Le (own_Le (own_Le (own_Le (own_Le (Blk.ownI br2b (Nat.le_refl _) h2.len h2.max) l6) l7) l8) l9) l10) l11) gr12 (fun g hg => Nat.lt_of_lt_of_le (((Blk.ownP br0b (Nat.le_refl _) h0.len h0.max)).lt g hg).2 (Le.refl _).size)) l4.size gr13).trans l14) (own_Le (own_gb (own_gb (own_Le (own_Le (own_Le (own_Le (own_Le ogg l7) l8) l9) l10) l11) gr12 (fun g hg => Nat.lt_of_lt_of_le (((Blk.ownP br0b (Nat.le_refl _) h0.len h0.max)).lt g hg).2 l5.size)) gr13 (fun g hg => Nat.lt_of_lt_of_le (((Blk.ownI br2b (Nat.le_refl _) h2.len h2.max)).lt g hg).2 (Le.refl _).size)) l14) (l4.trans l5).size gr15).trans l16).trans l17).trans l18))).mono ?_; rintro e w19 ⟨rfl, l19⟩
  go_wp2_with fail
  refine (heldLotS_any _ _ _ 1 _ (own_RP2 (own_Le (own_Le (own_Le (own_Le om l16) l17) l18) l19) (by omega)) hLn (by omega) (by omega)).mono ?_; rintro e w' ⟨rfl, rfl⟩
  go_wp2
  go_ret
  exact ⟨rfl, (((((Le.marked ((Le.marked (Le.marked ((((((((((l1.trans l2).trans l3).trans l4).trans l5).trans l6).trans l7).trans l8).trans l9).trans l10).trans l11) (own_Le (own_Le (own_Le (own_Le (own_Le (own_Le (own_Le (Blk.ownP br0b (Nat.le_refl _) h0.len h0.max) l5) l6) l7) l8) l9) l10) l11) ((l1.trans l2).trans l3).size gr12) (own_gb (own_Le (own_Le (own_Le (own_Le (own_Le (own_Le (Blk.ownI br2b (Nat.le_refl _) h2.len h2.max) l6) l7) l8) l9) l10) l11) gr12 (fun g hg => Nat.lt_of_lt_of_le (((Blk.ownP br0b (Nat.le_refl _) h0.len h0.max)).lt g hg).2 (Le.refl _).size)) (((l1.trans l2).trans l3).trans l4).size gr13).trans l14) (own_Le (own_gb (own_gb (own_Le (own_Le (own_Le (own_Le (own_Le ogg l7) l8) l9) l10) l11) gr12 (fun g hg => Nat.lt_of_lt_of_le (((Blk.ownP br0b (Nat.le_refl _) h0.len h0.max)).lt g hg).2 l5.size)) gr13 (fun g hg => Nat.lt_of_lt_of_le (((Blk.ownI br2b (Nat.le_refl _) h2.len h2.max)).lt g hg).2 (Le.refl _).size)) l14) ((((l1.trans l2).trans l3).trans l4).trans l5).size gr15).trans l16).trans l17).trans l18).trans l19)⟩

end Go.Proofs.Ytcodghlenniffaa
