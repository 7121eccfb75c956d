/- The walk of FnExactPlanCost: both sides come to one value, the arguments are left alone. -/
import Derived.Test.YtbkjfgbafphopaaWCostB
import Derived.Deep.RegionHeld3
namespace Go.Proofs.Ytbkjfgbafphopaa
open Go.RowKit

set_option maxHeartbeats 4000000 in
theorem law_PlanCost (w : World) (A0 : Option Addr) (n0 c0 : Nat) (xs0 : List (It)) (h0 : RM w A0 n0 xs0) (A1 : Option Addr) (n1 c1 : Nat) (xs1 : List Int) (h1 : RI w A1 n1 xs1) (_w1 : W64 xs1) (A2 : Option Addr) (n2 c2 : Nat) (xs2 : List Int) (h2 : RI w A2 n2 xs2) (_w2 : W64 xs2) (B2 : Option Addr) (m2 d2 : Nat) (ys2 : List Int) (g2 : RI w B2 m2 ys2) (_v2 : W64 ys2) :
    Calls Try.prog 7 #[.slice A0 n0 c0, .slice A1 n1 c1, .agg #[.slice A2 n2 c2, .slice B2 m2 d2]] w fun e w' => e = .returned (.bool true) ∧ Le w w' := by
  have hm0 := h0.max
  have hm1 := h1.max
  have hm2 := h2.max
  have gm2 := g2.max
  have lz := (Le.refl w).alloc (.cells #[.slice A2 n2 c2, .slice B2 m2 d2] 37)
  have kz := Blk.new w 37 #[.slice A2 n2 c2, .slice B2 m2 d2]
  replace h0 := h0.le lz
  replace h1 := h1.le lz
  replace h2 := h2.le lz
  replace g2 := g2.le lz
  generalize hwz : w.alloc (.cells #[.slice A2 n2 c2, .slice B2 m2 d2] 37) = wz at *
  have KZ := Lib.hid (show ∀ w', Le wz w' → w'.cell? ⟨w.heap.size, 0, none⟩ = some (.slice A2 n2 c2) ∧ w'.cell? ⟨w.heap.size, 1, none⟩ = some (.slice B2 m2 d2) from fun w' l => ⟨by simpa using (kz.le l).cell 0, by simpa using (kz.le l).cell 1⟩)
  clear kz
  rcases Nat.lt_or_ge 1048576 n1 with hb1 | hn1
  · go_enter Try.func7, Try.ntmps7
    go_wp2
    go_ret
    exact ⟨rfl, lz.trans (Le.refl _)⟩
  have t00 := totM_nonneg xs0 n0
  rcases Int.lt_or_le (1048576) ((n0 : Int) + totM xs0 n0) with hb0 | hn0'
  · go_enter Try.func7, Try.ntmps7
    go_wp2_with fail
    refine (szItemS_no _ _ _ _ _ _ h0 (by omega) (by omega) hb0).mono ?_; rintro e v1 ⟨rfl, q1⟩
    go_wp2
    go_ret
    exact ⟨rfl, lz.trans (q1)⟩
  have hz0 : (n0 : Int) + totM xs0 n0 ≤ 1048576 := by omega
  rcases Int.lt_or_le (1048576 - n0 - totM xs0 n0) ((n2 : Int) + (m2 : Int)) with hb2 | hn2'
  · go_enter Try.func7, Try.ntmps7
    go_wp2_with fail
    refine (szItemS_ok _ _ _ _ _ _ h0 (by omega) hn0').mono ?_; rintro e v1 ⟨rfl, q1⟩
    obtain ⟨az, bz⟩ := KZ.out _ q1
    go_wp2_with fail
    refine (szPlan_no _ _ _ _ _ _ _ _ (by omega) (by omega) (by omega) (by omega) hb2).mono ?_; rintro e v2 ⟨rfl, q2⟩
    go_wp2
    go_ret
    exact ⟨rfl, lz.trans ((q1.trans q2))⟩
  have hn2 : n2 ≤ 1048576 := by omega
  have hm2' : m2 ≤ 1048576 := by omega
  go_enter Try.func7, Try.ntmps7
  go_wp2_with fail
  refine (szItemS_ok _ _ _ _ _ _ h0 (by omega) hn0').mono ?_; rintro e w1 ⟨rfl, l1⟩
  obtain ⟨az, bz⟩ := KZ.out _ l1
  go_wp2_with fail
  refine (szPlan_ok _ _ _ _ _ _ _ _ (by omega) hn2').mono ?_; rintro e w2 ⟨rfl, l2⟩
  clear az bz
  have l3 := (Le.refl w2).drew
  have tok0 : True := trivial
  have tok1 : True := trivial
  have tok2 : True := trivial
  have tok3 : True := trivial
  go_wp2
  have sz0 := KZ.out _ (l1.trans l2)
  obtain ⟨az, bz⟩ := sz0
  go_region_held3 (fun w' => w'.cell? ⟨w.heap.size, 0, none⟩ = some (.slice A2 n2 c2) ∧ w'.cell? ⟨w.heap.size, 1, none⟩ = some (.slice B2 m2 d2))
    (first | go_keep | exact KZ.out _ (l1.trans l2) | exact KZ.out _ ((l1.trans l2).trans l3) | exact KZ.out _ (((l1.trans l2).trans l3).trans l4) | exact KZ.out _ ((((l1.trans l2).trans l3).trans l4).trans l5) | exact KZ.out _ (((((l1.trans l2).trans l3).trans l4).trans l5).trans l6) | exact KZ.out _ ((((((l1.trans l2).trans l3).trans l4).trans l5).trans l6).trans l7))
    (first
      | (go_at_call 15; have _t := tok0; refine (toItemS_any _ _ _ _ _ (h0.le ((l1.trans l2).trans l3)) hz0).mono ?_; rintro e w4 ⟨rfl, r0a, _, l4⟩; clear tok0)
      | (go_at_call 21; have _t := tok1; refine (toIntS_r _ _ _ _ _ (h1.le (((l1.trans l2).trans l3).trans l4)) hn1).mono ?_; rintro e w5 ⟨rfl, r1a, _, l5⟩; clear tok1)
      | (go_at_call 28; have _t := tok2; refine (toPlan_any _ _ _ _ _ _ _ _ _ (h2.le ((((l1.trans l2).trans l3).trans l4).trans l5)) (g2.le ((((l1.trans l2).trans l3).trans l4).trans l5)) hn2 hm2').mono ?_; rintro e w6 ⟨pr2a, sr2a, rfl, r2a, r2ay, _, _, l6⟩; clear tok2)
      | (go_at_call 27; have _t := tok3; refine (specCost_any _ _ _ _ _ _ _ _ _ _ _ _ _ _ _ _ _ (r0a.le (l5.trans l6)) (r1a.le l6) r2a r2ay).mono ?_; rintro e w7 ⟨rfl, l7⟩; clear tok3))
  clear az bz
  go_wp2_with fail
  refine (toItemS_any _ _ _ _ _ (h0.le ((((((l1.trans l2).trans l3).trans l4).trans l5).trans l6).trans l7)) hz0).mono ?_; rintro e w8 ⟨rfl, r0b, _, l8⟩
  go_wp2_with fail
  refine (toIntS_r _ _ _ _ _ (h1.le (((((((l1.trans l2).trans l3).trans l4).trans l5).trans l6).trans l7).trans l8)) hn1).mono ?_; rintro e w9 ⟨rfl, r1b, _, l9⟩
  obtain ⟨az, bz⟩ := KZ.out _ ((((((((l1.trans l2).trans l3).trans l4).trans l5).trans l6).trans l7).trans l8).trans l9)
  go_wp2_with fail
  refine (toPlan_any _ _ _ _ _ _ _ _ _ (h2.le ((((((((l1.trans l2).trans l3).trans l4).trans l5).trans l6).trans l7).trans l8).trans l9)) (g2.le ((((((((l1.trans l2).trans l3).trans l4).trans l5).trans l6).trans l7).trans l8).trans l9)) hn2 hm2').mono ?_; rintro e w10 ⟨pr2b, sr2b, rfl, r2b, r2by, _, _, l10⟩
  clear az bz
  have l11 := (Le.refl w10).alloc (.cells #[.slice (some ⟨pr2b, 0, none⟩) n2 n2, .slice (some ⟨sr2b, 0, none⟩) m2 m2] 40)
  have kx := Blk.new w10 40 #[.slice (some ⟨pr2b, 0, none⟩) n2 n2, .slice (some ⟨sr2b, 0, none⟩) m2 m2]
  generalize hwx : w10.alloc (.cells #[.slice (some ⟨pr2b, 0, none⟩) n2 n2, .slice (some ⟨sr2b, 0, none⟩) m2 m2] 40) = w11 at *
  have KX := Lib.hid (show ∀ w', Le w11 w' → w'.cell? ⟨w10.heap.size, 0, none⟩ = some (.slice (some ⟨pr2b, 0, none⟩) n2 n2) ∧ w'.cell? ⟨w10.heap.size, 1, none⟩ = some (.slice (some ⟨sr2b, 0, none⟩) m2 m2) from fun w' l => ⟨by simpa using (kx.le l).cell 0, by simpa using (kx.le l).cell 1⟩)
  clear kx
  obtain ⟨az, bz⟩ := KX.out _ (Le.refl _)
  go_wp2_with fail
  refine (implCost_any _ _ _ _ _ _ _ _ _ _ _ _ _ _ _ _ _ (r0b.le ((l9.trans l10).trans l11)) (r1b.le (l10.trans l11)) (r2b.le l11) (r2by.le l11)).mono ?_; rintro e w12 ⟨rfl, l12⟩
  clear az bz
  go_wp2_with fail
  refine (toItemS_any _ _ _ _ _ (h0.le (((((((((((l1.trans l2).trans l3).trans l4).trans l5).trans l6).trans l7).trans l8).trans l9).trans l10).trans l11).trans l12)) hz0).mono ?_; rintro e w13 ⟨rfl, r0c, _, l13⟩
  go_wp2_with fail
  refine (eqItemS_self _ _ _ _ _ _ _ _ (r0b.le ((((l9.trans l10).trans l11).trans l12).trans l13)) r0c).mono ?_; rintro e w14 ⟨rfl, l14⟩
  go_wp2_with fail
  refine (toIntS_r _ _ _ _ _ (h1.le (((((((((((((l1.trans l2).trans l3).trans l4).trans l5).trans l6).trans l7).trans l8).trans l9).trans l10).trans l11).trans l12).trans l13).trans l14)) hn1).mono ?_; rintro e w15 ⟨rfl, r1c, _, l15⟩
  go_wp2_with fail
  refine (eqIntS_self _ _ _ _ _ _ _ _ (r1b.le (((((l10.trans l11).trans l12).trans l13).trans l14).trans l15)) r1c).mono ?_; rintro e w16 ⟨rfl, l16⟩
  have l17 := (Le.refl w16).drew
  have tok0 : True := trivial
  have tok1 : True := trivial
  go_wp2
  have sz0 := And.intro (KZ.out _ (((((((((((((((l1.trans l2).trans l3).trans l4).trans l5).trans l6).trans l7).trans l8).trans l9).trans l10).trans l11).trans l12).trans l13).trans l14).trans l15).trans l16)) (KX.out _ ((((l12.trans l13).trans l14).trans l15).trans l16))
  obtain ⟨⟨az, bz⟩, ax, bx⟩ := sz0
  go_region_held3 (fun w' => w'.cell? ⟨w.heap.size, 0, none⟩ = some (.slice A2 n2 c2) ∧ w'.cell? ⟨w.heap.size, 1, none⟩ = some (.slice B2 m2 d2) ∧ w'.cell? ⟨w10.heap.size, 0, none⟩ = some (.slice (some ⟨pr2b, 0, none⟩) n2 n2) ∧ w'.cell? ⟨w10.heap.size, 1, none⟩ = some (.slice (some ⟨sr2b, 0, none⟩) m2 m2))
    (first | go_keep | exact ⟨(KZ.out _ (((((((((((((((l1.trans l2).trans l3).trans l4).trans l5).trans l6).trans l7).trans l8).trans l9).trans l10).trans l11).trans l12).trans l13).trans l14).trans l15).trans l16)).1, (KZ.out _ (((((((((((((((l1.trans l2).trans l3).trans l4).trans l5).trans l6).trans l7).trans l8).trans l9).trans l10).trans l11).trans l12).trans l13).trans l14).trans l15).trans l16)).2, KX.out _ ((((l12.trans l13).trans l14).trans l15).trans l16)⟩ | exact ⟨(KZ.out _ ((((((((((((((((l1.trans l2).trans l3).trans l4).trans l5).trans l6).trans l7).trans l8).trans l9).trans l10).trans l11).trans l12).trans l13).trans l14).trans l15).trans l16).trans l17)).1, (KZ.out _ ((((((((((((((((l1.trans l2).trans l3).trans l4).trans l5).trans l6).trans l7).trans l8).trans l9).trans l10).trans l11).trans l12).trans l13).trans l14).trans l15).trans l16).trans l17)).2, KX.out _ (((((l12.trans l13).trans l14).trans l15).trans l16).trans l17)⟩ | exact ⟨(KZ.out _ (((((((((((((((((l1.trans l2).trans l3).trans l4).trans l5).trans l6).trans l7).trans l8).trans l9).trans l10).trans l11).trans l12).trans l13).trans l14).trans l15).trans l16).trans l17).trans l18)).1, (KZ.out _ (((((((((((((((((l1.trans l2).trans l3).trans l4).trans l5).trans l6).trans l7).trans l8).trans l9).trans l10).trans l11).trans l12).trans l13).trans l14).trans l15).trans l16).trans l17).trans l18)).2, KX.out _ ((((((l12.trans l13).trans l14).trans l15).trans l16).trans l17).trans l18)⟩ | exact ⟨(KZ.out _ ((((((((((((((((((l1.trans l2).trans l3).trans l4).trans l5).trans l6).trans l7).trans l8).trans l9).trans l10).trans l11).trans l12).trans l13).trans l14).trans l15).trans l16).trans l17).trans l18).trans l19)).1, (KZ.out _ ((((((((((((((((((l1.trans l2).trans l3).trans l4).trans l5).trans l6).trans l7).trans l8).trans l9).trans l10).trans l11).trans l12).trans l13).trans l14).trans l15).trans l16).trans l17).trans l18).trans l19)).2, KX.out _ (((((((l12.trans l13).trans l14).trans l15).trans l16).trans l17).trans l18).trans l19)⟩)
    (first
      | (go_at_call 28; have _t := tok0; refine (toPlan_any _ _ _ _ _ _ _ _ _ (h2.le ((((((((((((((((l1.trans l2).trans l3).trans l4).trans l5).trans l6).trans l7).trans l8).trans l9).trans l10).trans l11).trans l12).trans l13).trans l14).trans l15).trans l16).trans l17)) (g2.le ((((((((((((((((l1.trans l2).trans l3).trans l4).trans l5).trans l6).trans l7).trans l8).trans l9).trans l10).trans l11).trans l12).trans l13).trans l14).trans l15).trans l16).trans l17)) hn2 hm2').mono ?_; rintro e w18 ⟨pr2c, sr2c, rfl, r2c, r2cy, _, _, l18⟩; clear tok0)
      | (go_at_call 30; have _t := tok1; refine (eqPlan_self _ _ _ _ _ _ _ _ _ _ _ _ _ _ _ (r2b.le (((((((l11.trans l12).trans l13).trans l14).trans l15).trans l16).trans l17).trans l18)) (r2by.le (((((((l11.trans l12).trans l13).trans l14).trans l15).trans l16).trans l17).trans l18)) r2c r2cy).mono ?_; rintro e w19 ⟨rfl, l19⟩; clear tok1))
  clear az bz ax bx
  go_wp2
  go_ret
  exact ⟨rfl, lz.trans (((((((((((((((((((l1.trans l2).trans l3).trans l4).trans l5).trans l6).trans l7).trans l8).trans l9).trans l10).trans l11).trans l12).trans l13).trans l14).trans l15).trans l16).trans l17).trans l18).trans l19))⟩

end Go.Proofs.Ytbkjfgbafphopaa
