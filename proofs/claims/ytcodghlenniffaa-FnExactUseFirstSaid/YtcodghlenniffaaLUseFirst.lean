/- The walk of FnExactUseFirst: both sides come to one list; what is marked afterwards shows that it is shared with nothing. -/
import Derived.Test.YtcodghlenniffaaWUseH
import Derived.Test.YtcodghlenniffaaWMLot
namespace Go.Proofs.Ytcodghlenniffaa
open Go.RowKit

set_option maxHeartbeats 2000000 in
theorem law_UseFirst (w : World) (A0 : Option Addr) (n0 c0 : Nat) (xs0 : List (Int × Int)) (h0 : RP w A0 n0 xs0) (A1 : Option Addr) (n1 c1 : Nat) (xs1 : List Int) (h1 : RI w A1 n1 xs1) (_w1 : W64 xs1) :
    Calls Try.prog 13 #[.slice A0 n0 c0, .slice A1 n1 c1] w fun e w' => e = .returned (.bool true) ∧ Le w w' := by
  have hm0 := h0.max
  have hm1 := h1.max
  rcases Nat.lt_or_ge 1048576 n1 with hb1 | hn1
  · go_enter Try.func13, Try.ntmps13
    go_wp2
    go_ret
    exact ⟨rfl, Le.refl _⟩
  rcases Int.lt_or_le (1048576) (n0 : Int) with hb0 | hn0'
  · go_enter Try.func13, Try.ntmps13
    go_wp2_with fail
    refine (szLotS_no _ _ _ _ _ (by omega) (by omega) hb0).mono ?_; rintro e w' ⟨rfl, rfl⟩
    go_wp2
    go_ret
    exact ⟨rfl, Le.refl _⟩
  have hn0 : n0 ≤ 1048576 := by omega
  have hLn : (useFirstL xs0 xs1).length ≤ 64 := useFirstL_len _ _
  have hRow : ∀ j, j < (useFirstL xs0 xs1).length → (gl (useFirstL xs0 xs1) j).length ≤ 5 := useFirstL_row _ _
  have hS1 : 1 ≤ startL 1 (gl (useFirstL xs0 xs1)) (useFirstL xs0 xs1).length := (startL_b 1 (gl (useFirstL xs0 xs1)) (useFirstL xs0 xs1).length (b := 5) hRow).1
  go_enter Try.func13, Try.ntmps13
  go_wp2_with fail
  refine (szLotS_ok _ _ _ _ _ (by omega) hn0').mono ?_; rintro e w' ⟨rfl, rfl⟩
  go_wp2_with fail
  refine (toLotS_any _ _ _ _ _ h0 hn0).mono ?_; rintro e w1 ⟨rfl, r0a, br0a, l1⟩
  go_wp2_with fail
  refine (toIntS_r _ _ _ _ _ (h1.le l1) hn1).mono ?_; rintro e w2 ⟨rfl, r1a, br1a, l2⟩
  go_wp2_with fail
  refine (slice_retL (specUseFirst_any _ _ _ _ _ _ _ _ _ (r0a.le l2) r1a)).mono ?_; rintro e w3 ⟨Agw, cgw, hgw, rfl, gw, ogw, l3⟩
  go_wp2_with fail
  refine (toLotS_any _ _ _ _ _ (h0.le ((l1.trans l2).trans l3)) hn0).mono ?_; rintro e w4 ⟨rfl, r0b, br0b, l4⟩
  go_wp2_with fail
  refine (toIntS_r _ _ _ _ _ (h1.le (((l1.trans l2).trans l3).trans l4)) hn1).mono ?_; rintro e w5 ⟨rfl, r1b, br1b, l5⟩
  go_wp2_with fail
  refine (slice_retL (implUseFirst_any _ _ _ _ _ _ _ _ _ (r0b.le l5) r1b)).mono ?_; rintro e w6 ⟨Agg, cgg, hgg, rfl, gg, ogg, l6⟩
  go_wp2_with fail
  refine (eqIntSS_self _ _ _ _ _ _ _ _ gg (gw.le ((l4.trans l5).trans l6))).mono ?_; rintro e w7 ⟨rfl, l7⟩
  go_wp2_with fail
  refine (toLotS_any _ _ _ _ _ (h0.le ((((((l1.trans l2).trans l3).trans l4).trans l5).trans l6).trans l7)) hn0).mono ?_; rintro e w8 ⟨rfl, r0c, br0c, l8⟩
  go_wp2_with fail
  refine (eqLotS_self _ _ _ _ _ _ _ _ (r0b.le (((l5.trans l6).trans l7).trans l8)) r0c).mono ?_; rintro e w9 ⟨rfl, l9⟩
  go_wp2_with fail
  refine (toIntS_r _ _ _ _ _ (h1.le ((((((((l1.trans l2).trans l3).trans l4).trans l5).trans l6).trans l7).trans l8).trans l9)) hn1).mono ?_; rintro e w10 ⟨rfl, r1c, br1c, l10⟩
  go_wp2_with fail
  refine (eqIntS_self _ _ _ _ _ _ _ _ (r1b.le ((((l6.trans l7).trans l8).trans l9).trans l10)) r1c).mono ?_; rintro e w11 ⟨rfl, l11⟩
  go_wp2_with fail
  refine (markLotS_own _ _ _ _ _ _ _ (own_Le (own_Le (own_Le (own_Le (own_Le (own_Le (own_Le (Blk.ownP br0b (Nat.le_refl _) h0.len h0.max) l5) l6) l7) l8) l9) l10) l11) hn0 (by omega) (by omega)).mono ?_; rintro e w12 ⟨rfl, _, gr12⟩
  go_wp2_with fail
  refine (markIntS_own _ _ _ _ _ _ _ (own_gb (own_Le (own_Le (own_Le (own_Le (own_Le (own_Le (Blk.ownI br1b (Nat.le_refl _) h1.len h1.max) l6) l7) l8) l9) l10) l11) gr12 (fun g hg => Nat.lt_of_lt_of_le (((Blk.ownP br0b (Nat.le_refl _) h0.len h0.max)).lt g hg).2 (Le.refl _).size)) hn1 (by omega) (by omega)).mono ?_; rintro e w13 ⟨rfl, _, gr13⟩
  have gg2 := OwnL.rii (OwnL.gb (OwnL.gb (OwnL.le (OwnL.le (OwnL.le (OwnL.le (OwnL.le ogg l7) l8) l9) l10) l11) gr12 (fun g hg => Nat.lt_of_lt_of_le (((Blk.ownP br0b (Nat.le_refl _) h0.len h0.max)).lt g hg).2 l5.size)) gr13 (fun g hg => Nat.lt_of_lt_of_le (((Blk.ownI br1b (Nat.le_refl _) h1.len h1.max)).lt g hg).2 (Le.refl _).size)) rfl
  go_wp2_with fail
  refine (eqIntSS_self _ _ _ _ _ _ _ _ gg2 (gw.le (Le.marked (Le.marked (((((((l4.trans l5).trans l6).trans l7).trans l8).trans l9).trans l10).trans l11) (own_Le (own_Le (own_Le (own_Le (own_Le (own_Le (own_Le (Blk.ownP br0b (Nat.le_refl _) h0.len h0.max) l5) l6) l7) l8) l9) l10) l11) (Le.refl _).size gr12) (own_gb (own_Le (own_Le (own_Le (own_Le (own_Le (own_Le (Blk.ownI br1b (Nat.le_refl _) h1.len h1.max) l6) l7) l8) l9) l10) l11) gr12 (fun g hg => Nat.lt_of_lt_of_le (((Blk.ownP br0b (Nat.le_refl _) h0.len h0.max)).lt g hg).2 (Le.refl _).size)) l4.size gr13))).mono ?_; rintro e w14 ⟨rfl, l14⟩
  go_wp2_with fail
  refine (markIntSS_own _ _ _ _ _ 5 _ _ _ (OwnL.le (OwnL.gb (OwnL.gb (OwnL.le (OwnL.le (OwnL.le (OwnL.le (OwnL.le ogg l7) l8) l9) l10) l11) gr12 (fun g hg => Nat.lt_of_lt_of_le (((Blk.ownP br0b (Nat.le_refl _) h0.len h0.max)).lt g hg).2 l5.size)) gr13 (fun g hg => Nat.lt_of_lt_of_le (((Blk.ownI br1b (Nat.le_refl _) h1.len h1.max)).lt g hg).2 (Le.refl _).size)) l14) hLn (by omega) hRow).mono ?_; rintro e w15 ⟨rfl, om, gr15⟩
  go_wp2_with fail
  refine (heldIntSS_own _ _ _ _ _ 5 _ (gl (useFirstL xs0 xs1)) _ om hLn (by omega) hRow).mono ?_; rintro e w' ⟨rfl, rfl⟩
  go_wp2_with fail
  refine (toLotS_any _ _ _ _ _ (h0.le (Chg.le gr15 ((Le.marked (Le.marked ((((((((((l1.trans l2).trans l3).trans l4).trans l5).trans l6).trans l7).trans l8).trans l9).trans l10).trans l11) (own_Le (own_Le (own_Le (own_Le (own_Le (own_Le (own_Le (Blk.ownP br0b (Nat.le_refl _) h0.len h0.max) l5) l6) l7) l8) l9) l10) l11) ((l1.trans l2).trans l3).size gr12) (own_gb (own_Le (own_Le (own_Le (own_Le (own_Le (own_Le (Blk.ownI br1b (Nat.le_refl _) h1.len h1.max) l6) l7) l8) l9) l10) l11) gr12 (fun g hg => Nat.lt_of_lt_of_le (((Blk.ownP br0b (Nat.le_refl _) h0.len h0.max)).lt g hg).2 (Le.refl _).size)) (((l1.trans l2).trans l3).trans l4).size gr13).trans l14) ((((l1.trans l2).trans l3).trans l4).trans l5).size)) hn0).mono ?_; rintro e w16 ⟨rfl, r0d, br0d, l16⟩
  go_wp2_with fail
  refine (toIntS_r _ _ _ _ _ (h1.le ((Chg.le gr15 ((Le.marked (Le.marked ((((((((((l1.trans l2).trans l3).trans l4).trans l5).trans l6).trans l7).trans l8).trans l9).trans l10).trans l11) (own_Le (own_Le (own_Le (own_Le (own_Le (own_Le (own_Le (Blk.ownP br0b (Nat.le_refl _) h0.len h0.max) l5) l6) l7) l8) l9) l10) l11) ((l1.trans l2).trans l3).size gr12) (own_gb (own_Le (own_Le (own_Le (own_Le (own_Le (own_Le (Blk.ownI br1b (Nat.le_refl _) h1.len h1.max) l6) l7) l8) l9) l10) l11) gr12 (fun g hg => Nat.lt_of_lt_of_le (((Blk.ownP br0b (Nat.le_refl _) h0.len h0.max)).lt g hg).2 (Le.refl _).size)) (((l1.trans l2).trans l3).trans l4).size gr13).trans l14) ((((l1.trans l2).trans l3).trans l4).trans l5).size).trans l16)) hn1).mono ?_; rintro e w17 ⟨rfl, r1d, br1d, l17⟩
  go_wp2_with fail
  refine (slice_retL (implUseFirst_any _ _ _ _ _ _ _ _ _ (r0d.le l17) r1d)).mono ?_; rintro e w18 ⟨Agh, cgh, hgh, rfl, gh, ogh, l18⟩
  go_wp2_with fail
  refine (eqIntSS_self _ _ _ _ _ _ _ _ gh (gw.le ((((Chg.le gr15 ((Le.marked (Le.marked (((((((l4.trans l5).trans l6).trans l7).trans l8).trans l9).trans l10).trans l11) (own_Le (own_Le (own_Le (own_Le (own_Le (own_Le (own_Le (Blk.ownP br0b (Nat.le_refl _) h0.len h0.max) l5) l6) l7) l8) l9) l10) l11) (Le.refl _).size gr12) (own_gb (own_Le (own_Le (own_Le (own_Le (own_Le (own_Le (Blk.ownI br1b (Nat.le_refl _) h1.len h1.max) l6) l7) l8) l9) l10) l11) gr12 (fun g hg => Nat.lt_of_lt_of_le (((Blk.ownP br0b (Nat.le_refl _) h0.len h0.max)).lt g hg).2 (Le.refl _).size)) l4.size gr13).trans l14) (l4.trans l5).size).trans l16).trans l17).trans l18))).mono ?_; rintro e w19 ⟨rfl, l19⟩
  go_wp2_with fail
  refine (heldIntSS_own _ _ _ _ _ 5 _ (gl (useFirstL xs0 xs1)) _ (OwnL.le (OwnL.le (OwnL.le (OwnL.le om l16) l17) l18) l19) hLn (by omega) hRow).mono ?_; rintro e w' ⟨rfl, rfl⟩
  go_wp2
  go_ret
  exact ⟨rfl, (((((Chg.le gr15 ((Le.marked (Le.marked ((((((((((l1.trans l2).trans l3).trans l4).trans l5).trans l6).trans l7).trans l8).trans l9).trans l10).trans l11) (own_Le (own_Le (own_Le (own_Le (own_Le (own_Le (own_Le (Blk.ownP br0b (Nat.le_refl _) h0.len h0.max) l5) l6) l7) l8) l9) l10) l11) ((l1.trans l2).trans l3).size gr12) (own_gb (own_Le (own_Le (own_Le (own_Le (own_Le (own_Le (Blk.ownI br1b (Nat.le_refl _) h1.len h1.max) l6) l7) l8) l9) l10) l11) gr12 (fun g hg => Nat.lt_of_lt_of_le (((Blk.ownP br0b (Nat.le_refl _) h0.len h0.max)).lt g hg).2 (Le.refl _).size)) (((l1.trans l2).trans l3).trans l4).size gr13).trans l14) ((((l1.trans l2).trans l3).trans l4).trans l5).size).trans l16).trans l17).trans l18).trans l19)⟩

end Go.Proofs.Ytcodghlenniffaa
