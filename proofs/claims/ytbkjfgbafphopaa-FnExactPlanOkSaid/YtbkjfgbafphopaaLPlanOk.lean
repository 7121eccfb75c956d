/- The walk of FnExactPlanOk: both sides come to one value, the arguments are left alone. -/
import Derived.Test.YtbkjfgbafphopaaWPOkI
import Derived.Deep.RegionHeld3
namespace Go.Proofs.Ytbkjfgbafphopaa
open Go.RowKit

set_option maxHeartbeats 4000000 in
theorem law_PlanOk (w : World) (A0 : Option Addr) (n0 c0 : Nat) (xs0 : List (It)) (h0 : RM w A0 n0 xs0) (A1 : Option Addr) (n1 c1 : Nat) (xs1 : List Int) (h1 : RI w A1 n1 xs1) (_w1 : W64 xs1) (A2 : Option Addr) (n2 c2 : Nat) (xs2 : List Int) (h2 : RI w A2 n2 xs2) (_w2 : W64 xs2) (A3 : Option Addr) (n3 c3 : Nat) (xs3 : List Int) (h3 : RI w A3 n3 xs3) (_w3 : W64 xs3) (B3 : Option Addr) (m3 d3 : Nat) (ys3 : List Int) (g3 : RI w B3 m3 ys3) (_v3 : W64 ys3) :
    Calls Try.prog 9 #[.slice A0 n0 c0, .slice A1 n1 c1, .slice A2 n2 c2, .agg #[.slice A3 n3 c3, .slice B3 m3 d3]] w fun e w' => e = .returned (.bool true) ∧ Le w w' := by
  have hm0 := h0.max
  have hm1 := h1.max
  have hm2 := h2.max
  have hm3 := h3.max
  have gm3 := g3.max
  have lz := (Le.refl w).alloc (.cells #[.slice A3 n3 c3, .slice B3 m3 d3] 37)
  have kz := Blk.new w 37 #[.slice A3 n3 c3, .slice B3 m3 d3]
  replace h0 := h0.le lz
  replace h1 := h1.le lz
  replace h2 := h2.le lz
  replace h3 := h3.le lz
  replace g3 := g3.le lz
  generalize hwz : w.alloc (.cells #[.slice A3 n3 c3, .slice B3 m3 d3] 37) = wz at *
  have KZ := Lib.hid (show ∀ w', Le wz w' → w'.cell? ⟨w.heap.size, 0, none⟩ = some (.slice A3 n3 c3) ∧ w'.cell? ⟨w.heap.size, 1, none⟩ = some (.slice B3 m3 d3) from fun w' l => ⟨by simpa using (kz.le l).cell 0, by simpa using (kz.le l).cell 1⟩)
  clear kz
  rcases Nat.lt_or_ge 1048576 n1 with hb1 | hn1
  · go_enter Try.func9, Try.ntmps9
    go_wp2
    go_ret
    exact ⟨rfl, lz.trans (Le.refl _)⟩
  rcases Nat.lt_or_ge 1048576 n2 with hb2 | hn2
  · go_enter Try.func9, Try.ntmps9
    go_wp2
    go_ret
    exact ⟨rfl, lz.trans (Le.refl _)⟩
  have t00 := totM_nonneg xs0 n0
  rcases Int.lt_or_le (1048576) ((n0 : Int) + totM xs0 n0) with hb0 | hn0'
  · go_enter Try.func9, Try.ntmps9
    go_wp2_with fail
    refine (szItemS_no _ _ _ _ _ _ h0 (by omega) (by omega) hb0).mono ?_; rintro e v1 ⟨rfl, q1⟩
    go_wp2
    go_ret
    exact ⟨rfl, lz.trans (q1)⟩
  have hz0 : (n0 : Int) + totM xs0 n0 ≤ 1048576 := by omega
  rcases Int.lt_or_le (1048576 - n0 - totM xs0 n0) ((n3 : Int) + (m3 : Int)) with hb3 | hn3'
  · go_enter Try.func9, Try.ntmps9
    go_wp2_with fail
    refine (szItemS_ok _ _ _ _ _ _ h0 (by omega) hn0').mono ?_; rintro e v1 ⟨rfl, q1⟩
    obtain ⟨az, bz⟩ := KZ.out _ q1
    go_wp2_with fail
    refine (szPlan_no _ _ _ _ _ _ _ _ (by omega) (by omega) (by omega) (by omega) hb3).mono ?_; rintro e v2 ⟨rfl, q2⟩
    go_wp2
    go_ret
    exact ⟨rfl, lz.trans ((q1.trans q2))⟩
  have hn3 : n3 ≤ 1048576 := by omega
  have hm3' : m3 ≤ 1048576 := by omega
  go_enter Try.func9, Try.ntmps9
  go_wp2_with fail
  refine (szItemS_ok _ _ _ _ _ _ h0 (by omega) hn0').mono ?_; rintro e w1 ⟨rfl, l1⟩
  obtain ⟨az, bz⟩ := KZ.out _ l1
  go_wp2_with fail
  refine (szPlan_ok _ _ _ _ _ _ _ _ (by omega) hn3').mono ?_; rintro e w2 ⟨rfl, l2⟩
  clear az bz
  have l3 := (Le.refl w2).drew
  have tok0 : True := trivial
  have tok1 : True := trivial
  have tok2 : True := trivial
  have tok3 : True := trivial
  have tok4 : True := trivial
  go_wp2
  have sz0 := KZ.out _ (l1.trans l2)
  obtain ⟨az, bz⟩ := sz0
  go_region_held3 (fun w' => w'.cell? ⟨w.heap.size, 0, none⟩ = some (.slice A3 n3 c3) ∧ w'.cell? ⟨w.heap.size, 1, none⟩ = some (.slice B3 m3 d3))
    (first | go_keep | exact KZ.out _ (l1.trans l2) | exact KZ.out _ ((l1.trans l2).trans l3) | exact KZ.out _ (((l1.trans l2).trans l3).trans l4) | exact KZ.out _ ((((l1.trans l2).trans l3).trans l4).trans l5) | exact KZ.out _ (((((l1.trans l2).trans l3).trans l4).trans l5).trans l6) | exact KZ.out _ ((((((l1.trans l2).trans l3).trans l4).trans l5).trans l6).trans l7) | exact KZ.out _ (((((((l1.trans l2).trans l3).trans l4).trans l5).trans l6).trans l7).trans l8))
    (first
      | (go_at_call 15; have _t := tok0; refine (toItemS_any _ _ _ _ _ (h0.le ((l1.trans l2).trans l3)) hz0).mono ?_; rintro e w4 ⟨rfl, r0a, _, l4⟩; clear tok0)
      | (go_at_call 21; have _t := tok1; refine (toIntS_r _ _ _ _ _ (h1.le (((l1.trans l2).trans l3).trans l4)) hn1).mono ?_; rintro e w5 ⟨rfl, r1a, _, l5⟩; clear tok1)
      | (go_at_call 21; have _t := tok2; refine (toIntS_r _ _ _ _ _ (h2.le ((((l1.trans l2).trans l3).trans l4).trans l5)) hn2).mono ?_; rintro e w6 ⟨rfl, r2a, _, l6⟩; clear tok2)
      | (go_at_call 28; have _t := tok3; refine (toPlan_any _ _ _ _ _ _ _ _ _ (h3.le (((((l1.trans l2).trans l3).trans l4).trans l5).trans l6)) (g3.le (((((l1.trans l2).trans l3).trans l4).trans l5).trans l6)) hn3 hm3').mono ?_; rintro e w7 ⟨pr3a, sr3a, rfl, r3a, r3ay, _, _, l7⟩; clear tok3)
      | (go_at_call 34; have _t := tok4; refine (specPlanOk_any _ _ _ _ _ _ _ _ _ _ _ _ _ _ _ _ _ _ _ _ _ (r0a.le ((l5.trans l6).trans l7)) (r1a.le (l6.trans l7)) (r2a.le l7) r3a r3ay).mono ?_; rintro e w8 ⟨rfl, l8⟩; clear tok4))
  clear az bz
  go_wp2_with fail
  refine (toItemS_any _ _ _ _ _ (h0.le (((((((l1.trans l2).trans l3).trans l4).trans l5).trans l6).trans l7).trans l8)) hz0).mono ?_; rintro e w9 ⟨rfl, r0b, _, l9⟩
  go_wp2_with fail
  refine (toIntS_r _ _ _ _ _ (h1.le ((((((((l1.trans l2).trans l3).trans l4).trans l5).trans l6).trans l7).trans l8).trans l9)) hn1).mono ?_; rintro e w10 ⟨rfl, r1b, _, l10⟩
  go_wp2_with fail
  refine (toIntS_r _ _ _ _ _ (h2.le (((((((((l1.trans l2).trans l3).trans l4).trans l5).trans l6).trans l7).trans l8).trans l9).trans l10)) hn2).mono ?_; rintro e w11 ⟨rfl, r2b, _, l11⟩
  obtain ⟨az, bz⟩ := KZ.out _ ((((((((((l1.trans l2).trans l3).trans l4).trans l5).trans l6).trans l7).trans l8).trans l9).trans l10).trans l11)
  go_wp2_with fail
  refine (toPlan_any _ _ _ _ _ _ _ _ _ (h3.le ((((((((((l1.trans l2).trans l3).trans l4).trans l5).trans l6).trans l7).trans l8).trans l9).trans l10).trans l11)) (g3.le ((((((((((l1.trans l2).trans l3).trans l4).trans l5).trans l6).trans l7).trans l8).trans l9).trans l10).trans l11)) hn3 hm3').mono ?_; rintro e w12 ⟨pr3b, sr3b, rfl, r3b, r3by, _, _, l12⟩
  clear az bz
  have l13 := (Le.refl w12).alloc (.cells #[.slice (some ⟨pr3b, 0, none⟩) n3 n3, .slice (some ⟨sr3b, 0, none⟩) m3 m3] 40)
  have kx := Blk.new w12 40 #[.slice (some ⟨pr3b, 0, none⟩) n3 n3, .slice (some ⟨sr3b, 0, none⟩) m3 m3]
  generalize hwx : w12.alloc (.cells #[.slice (some ⟨pr3b, 0, none⟩) n3 n3, .slice (some ⟨sr3b, 0, none⟩) m3 m3] 40) = w13 at *
  have KX := Lib.hid (show ∀ w', Le w13 w' → w'.cell? ⟨w12.heap.size, 0, none⟩ = some (.slice (some ⟨pr3b, 0, none⟩) n3 n3) ∧ w'.cell? ⟨w12.heap.size, 1, none⟩ = some (.slice (some ⟨sr3b, 0, none⟩) m3 m3) from fun w' l => ⟨by simpa using (kx.le l).cell 0, by simpa using (kx.le l).cell 1⟩)
  clear kx
  obtain ⟨az, bz⟩ := KX.out _ (Le.refl _)
  go_wp2_with fail
  refine (implPlanOk_any _ _ _ _ _ _ _ _ _ _ _ _ _ _ _ _ _ _ _ _ _ (r0b.le (((l10.trans l11).trans l12).trans l13)) (r1b.le ((l11.trans l12).trans l13)) (r2b.le (l12.trans l13)) (r3b.le l13) (r3by.le l13)).mono ?_; rintro e w14 ⟨rfl, l14⟩
  clear az bz
  go_wp2_with fail
  refine (toItemS_any _ _ _ _ _ (h0.le (((((((((((((l1.trans l2).trans l3).trans l4).trans l5).trans l6).trans l7).trans l8).trans l9).trans l10).trans l11).trans l12).trans l13).trans l14)) hz0).mono ?_; rintro e w15 ⟨rfl, r0c, _, l15⟩
  go_wp2_with fail
  refine (eqItemS_self _ _ _ _ _ _ _ _ (r0b.le (((((l10.trans l11).trans l12).trans l13).trans l14).trans l15)) r0c).mono ?_; rintro e w16 ⟨rfl, l16⟩
  go_wp2_with fail
  refine (toIntS_r _ _ _ _ _ (h1.le (((((((((((((((l1.trans l2).trans l3).trans l4).trans l5).trans l6).trans l7).trans l8).trans l9).trans l10).trans l11).trans l12).trans l13).trans l14).trans l15).trans l16)) hn1).mono ?_; rintro e w17 ⟨rfl, r1c, _, l17⟩
  go_wp2_with fail
  refine (eqIntS_self _ _ _ _ _ _ _ _ (r1b.le ((((((l11.trans l12).trans l13).trans l14).trans l15).trans l16).trans l17)) r1c).mono ?_; rintro e w18 ⟨rfl, l18⟩
  go_wp2_with fail
  refine (toIntS_r _ _ _ _ _ (h2.le (((((((((((((((((l1.trans l2).trans l3).trans l4).trans l5).trans l6).trans l7).trans l8).trans l9).trans l10).trans l11).trans l12).trans l13).trans l14).trans l15).trans l16).trans l17).trans l18)) hn2).mono ?_; rintro e w19 ⟨rfl, r2c, _, l19⟩
  go_wp2_with fail
  refine (eqIntS_self _ _ _ _ _ _ _ _ (r2b.le (((((((l12.trans l13).trans l14).trans l15).trans l16).trans l17).trans l18).trans l19)) r2c).mono ?_; rintro e w20 ⟨rfl, l20⟩
  have l21 := (Le.refl w20).drew
  have tok0 : True := trivial
  have tok1 : True := trivial
  go_wp2
  have sz0 := And.intro (KZ.out _ (((((((((((((((((((l1.trans l2).trans l3).trans l4).trans l5).trans l6).trans l7).trans l8).trans l9).trans l10).trans l11).trans l12).trans l13).trans l14).trans l15).trans l16).trans l17).trans l18).trans l19).trans l20)) (KX.out _ ((((((l14.trans l15).trans l16).trans l17).trans l18).trans l19).trans l20))
  obtain ⟨⟨az, bz⟩, ax, bx⟩ := sz0
  go_region_held3 (fun w' => w'.cell? ⟨w.heap.size, 0, none⟩ = some (.slice A3 n3 c3) ∧ w'.cell? ⟨w.heap.size, 1, none⟩ = some (.slice B3 m3 d3) ∧ w'.cell? ⟨w12.heap.size, 0, none⟩ = some (.slice (some ⟨pr3b, 0, none⟩) n3 n3) ∧ w'.cell? ⟨w12.heap.size, 1, none⟩ = some (.slice (some ⟨sr3b, 0, none⟩) m3 m3))
    (first | go_keep | exact ⟨(KZ.out _ (((((((((((((((((((l1.trans l2).trans l3).trans l4).trans l5).trans l6).trans l7).trans l8).trans l9).trans l10).trans l11).trans l12).trans l13).trans l14).trans l15).trans l16).trans l17).trans l18).trans l19).trans l20)).1, (KZ.out _ (((((((((((((((((((l1.trans l2).trans l3).trans l4).trans l5).trans l6).trans l7).trans l8).trans l9).trans l10).trans l11).trans l12).trans l13).trans l14).trans l15).trans l16).trans l17).trans l18).trans l19).trans l20)).2, KX.out _ ((((((l14.trans l15).trans l16).trans l17).trans l18).trans l19).trans l20)⟩ | exact ⟨(KZ.out _ ((((((((((((((((((((l1.trans l2).trans l3).trans l4).trans l5).trans l6).trans l7).trans l8).trans l9).trans l10).trans l11).trans l12).trans l13).trans l14).trans l15).trans l16).trans l17).trans l18).trans l19).trans l20).trans l21)).1, (KZ.out _ ((((((((((((((((((((l1.trans l2).trans l3).trans l4).trans l5).trans l6).trans l7).trans l8).trans l9).trans l10).trans l11).trans l12).trans l13).trans l14).trans l15).trans l16).trans l17).trans l18).trans l19).trans l20).trans l21)).2, KX.out _ (((((((l14.trans l15).trans l16).trans l17).trans l18).trans l19).trans l20).trans l21)⟩ | exact ⟨(KZ.out _ (((((((((((((((((((((l1.trans l2).trans l3).trans l4).trans l5).trans l6).trans l7).trans l8).trans l9).trans l10).trans l11).trans l12).trans l13).trans l14).trans l15).trans l16).trans l17).trans l18).trans l19).trans l20).trans l21).trans l22)).1, (KZ.out _ (((((((((((((((((((((l1.trans l2).trans l3).trans l4).trans l5).trans l6).trans l7).trans l8).trans l9).trans l10).trans l11).trans l12).trans l13).trans l14).trans l15).trans l16).trans l17).trans l18).trans l19).trans l20).trans l21).trans l22)).2, KX.out _ ((((((((l14.trans l15).trans l16).trans l17).trans l18).trans l19).trans l20).trans l21).trans l22)⟩ | exact ⟨(KZ.out _ ((((((((((((((((((((((l1.trans l2).trans l3).trans l4).trans l5).trans l6).trans l7).trans l8).trans l9).trans l10).trans l11).trans l12).trans l13).trans l14).trans l15).trans l16).trans l17).trans l18).trans l19).trans l20).trans l21).trans l22).trans l23)).1, (KZ.out _ ((((((((((((((((((((((l1.trans l2).trans l3).trans l4).trans l5).trans l6).trans l7).trans l8).trans l9).trans l10).trans l11).trans l12).trans l13).trans l14).trans l15).trans l16).trans l17).trans l18).trans l19).trans l20).trans l21).trans l22).trans l23)).2, KX.out _ (((((((((l14.trans l15).trans l16).trans l17).trans l18).trans l19).trans l20).trans l21).trans l22).trans l23)⟩)
    (first
      | (go_at_call 28; have _t := tok0; refine (toPlan_any _ _ _ _ _ _ _ _ _ (h3.le ((((((((((((((((((((l1.trans l2).trans l3).trans l4).trans l5).trans l6).trans l7).trans l8).trans l9).trans l10).trans l11).trans l12).trans l13).trans l14).trans l15).trans l16).trans l17).trans l18).trans l19).trans l20).trans l21)) (g3.le ((((((((((((((((((((l1.trans l2).trans l3).trans l4).trans l5).trans l6).trans l7).trans l8).trans l9).trans l10).trans l11).trans l12).trans l13).trans l14).trans l15).trans l16).trans l17).trans l18).trans l19).trans l20).trans l21)) hn3 hm3').mono ?_; rintro e w22 ⟨pr3c, sr3c, rfl, r3c, r3cy, _, _, l22⟩; clear tok0)
      | (go_at_call 30; have _t := tok1; refine (eqPlan_self _ _ _ _ _ _ _ _ _ _ _ _ _ _ _ (r3b.le (((((((((l13.trans l14).trans l15).trans l16).trans l17).trans l18).trans l19).trans l20).trans l21).trans l22)) (r3by.le (((((((((l13.trans l14).trans l15).trans l16).trans l17).trans l18).trans l19).trans l20).trans l21).trans l22)) r3c r3cy).mono ?_; rintro e w23 ⟨rfl, l23⟩; clear tok1))
  clear az bz ax bx
  go_wp2
  go_ret
  exact ⟨rfl, lz.trans (((((((((((((((((((((((l1.trans l2).trans l3).trans l4).trans l5).trans l6).trans l7).trans l8).trans l9).trans l10).trans l11).trans l12).trans l13).trans l14).trans l15).trans l16).trans l17).trans l18).trans l19).trans l20).trans l21).trans l22).trans l23))⟩

end Go.Proofs.Ytbkjfgbafphopaa
