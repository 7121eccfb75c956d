/- Walk: FnPlanLeast. -/
import Derived.Test.YtbkjfgbafphopaaDoorWLawP
import Derived.Test.YtbkjfgbafphopaaDoorWPOkI
namespace Go.Proofs.YtbkjfgbafphopaaDoor
open Go.RowKit

set_option maxRecDepth 20000 in
set_option maxHeartbeats 16000000 in
theorem law_FnPlanLeast (w : World) (A : Option Addr) (n c : Nat) (h : RB w A n) (hc : n ≤ c) :
    Calls Tryd.prog 10 #[.slice A n c] w fun e w' => e = .returned (.bool true) ∧ Le w w' := by
  have hm := h.max
  by_cases hn : 1048576 < n
  · go_enter Tryd.func10, Tryd.ntmps10
    go_wp2
    go_ret
    exact ⟨rfl, Le.refl _⟩
  · have HD := Lib.hid (drawPlanLeast_any A n c w h hc)
    clear h
    go_enter Tryd.func10, Tryd.ntmps10
    go_wp2_with fail
    refine HD.out.mono ?_; rintro e w1 ⟨gv, cap, n2, ts, gx, cx, m0, ws, gy, cy, m1, ss, rfl, d1, x1, y1, l1⟩
    have hk7 := d1.small
    have HR := Lib.hid d1.rm
    have HW := Lib.hid x1.ri
    have HS := Lib.hid y1.ri
    have L1 := Lib.hid l1
    have HK := Lib.hid d1.len
    clear d1 x1 y1 l1
    have hL1 : (runsR ts ws ss).length ≤ 7 := by
      unfold runsR; split
      · rw [runsL_len, HK.out]; exact hk7
      · exact Nat.zero_le _
    have hL2 : (leftR ts ws ss).length ≤ 7 := by
      unfold leftR; split
      · rw [leftL_length, HK.out]; exact hk7
      · exact Nat.zero_le _
    obtain ⟨V, hV⟩ : ∃ V, planArgsL ts ws ss = V := ⟨_, rfl⟩
    obtain ⟨R, hR⟩ : ∃ R, runsR ts ws ss = R := ⟨_, rfl⟩
    obtain ⟨L, hL⟩ : ∃ L, leftR ts ws ss = L := ⟨_, rfl⟩
    rw [hR] at hL1
    rw [hL] at hL2
    have HI := Lib.hid (plan_retN (implLeast_any _ _ _ _ _ _ cap cx cy _ _ _ _ HR.out HW.out HS.out) (by rw [hR]; omega) (by rw [hL]; omega))
    have HSP := Lib.hid (fun w' (q : Le w1 w') => plan_retN (specLeast_any _ _ _ _ _ _ cap cx cy _ _ _ _ (HR.out.le q) (HW.out.le q) (HS.out.le q)) (by rw [hR]; omega) (by rw [hL]; omega))
    rw [hV, hR, hL] at HI HSP
    obtain ⟨r, hr⟩ : ∃ r, R.length = r := ⟨_, rfl⟩
    obtain ⟨l, hl⟩ : ∃ l, L.length = l := ⟨_, rfl⟩
    rw [hr, hl] at HI HSP
    have HV := Lib.hid hV
    have HRR := Lib.hid hR
    have HLL := Lib.hid hL
    have HRN := Lib.hid hr
    have HLN := Lib.hid hl
    rw [hr] at hL1
    rw [hl] at hL2
    clear hV hR hL hr hl
    have hbb : (V != V) = false := by simp
    go_wp2_with fail
    refine HI.out.mono ?_; rintro e w2 ⟨A2, c2, B2, d2, rfl, r2, s2, l2⟩
    have M2 := Lib.hid l2
    have HP := Lib.hid r2
    have HQ := Lib.hid s2
    clear r2 s2 l2
    obtain ⟨bp, hbp⟩ : ∃ bp, w2.heap.size = bp := ⟨_, rfl⟩
    have kp := Blk.new w2 58 #[.slice A2 r c2, .slice B2 l d2]
    have lp := (Le.refl w2).alloc (.cells #[.slice A2 r c2, .slice B2 l d2] 58)
    rw [hbp] at kp
    have KP := Lib.hid kp
    have M3 := Lib.hid (M2.out.trans lp)
    have HP3 := Lib.hid (HP.out.le lp)
    have HQ3 := Lib.hid (HQ.out.le lp)
    clear kp lp
    go_wp2_with fail
    refine (HSP.out _ M3.out).mono ?_; rintro e w4 ⟨A4, c4, B4, d4, rfl, r4, s4, l4⟩
    clear hbp
    have M4 := Lib.hid (M3.out.trans l4)
    have HP4 := Lib.hid (HP3.out.le l4)
    have HQ4 := Lib.hid (HQ3.out.le l4)
    have KP4 := Lib.hid (KP.out.le l4)
    have HX4 := Lib.hid r4
    have HY4 := Lib.hid s4
    clear r4 s4 l4 HP3 HQ3 HP HQ
    have lx := (Le.refl w4).alloc (.cells #[.slice A4 r c4, .slice B4 l d4] 58)
    have a0 := (KP4.out.le lx).cell 0
    have a1 := (KP4.out.le lx).cell 1
    simp at a0 a1
    have LX := Lib.hid lx
    clear lx
    go_wp2_with fail
    refine (samePlan_self _ _ _ _ _ _ _ _ _ _ _ _ _ (HP4.out.le LX.out) (HQ4.out.le LX.out) (HX4.out.le LX.out) (HY4.out.le LX.out)).mono ?_; rintro e w6 ⟨rfl, l6⟩
    have L46 := Lib.hid (LX.out.trans l6)
    have M6 := Lib.hid (M4.out.trans L46.out)
    have HP6 := Lib.hid (HP4.out.le L46.out)
    have HQ6 := Lib.hid (HQ4.out.le L46.out)
    have KP6 := Lib.hid (KP4.out.le L46.out)
    clear l6 a0 a1 LX
    cases V
    · obtain rfl : r = 0 := by
        rw [← HRN.out, ← HRR.out]; unfold runsR; rw [HV.out]; rfl
      obtain rfl : l = 0 := by
        rw [← HLN.out, ← HLL.out]; unfold leftR; rw [HV.out]; rfl
      have a0 := KP6.out.cell 0
      have a1 := KP6.out.cell 1
      simp at a0 a1
      go_wp2_with fail
      refine (alive_any _).mono ?_; rintro e w7 ⟨rfl, l7⟩
      go_wp2
      go_ret
      exact ⟨rfl, L1.out.trans (M6.out.trans l7)⟩
    · obtain rfl : r = n2 := by
        rw [← HRN.out, ← HRR.out]; unfold runsR; rw [if_pos HV.out, runsL_len, HK.out]
      obtain rfl : l = r := by
        rw [← HLN.out, ← HLL.out]; unfold leftR; rw [if_pos HV.out, leftL_length, HK.out]
      have HAT := Lib.hid (show ∀ k, k < l → 0 ≤ (gm ts k).1 ∧ (0 < gi R k → gi L k < rmI ts k) from fun k hk => by
        have h1 := least_at HK.out HV.out hk
        have h2 := (plan_args HK.out HV.out).2.1 k hk
        rw [← HRR.out, ← HLL.out]
        unfold runsR leftR
        rw [if_pos HV.out, if_pos HV.out]
        exact ⟨h2.1.1, h1.2.2⟩)
      have HOK := Lib.hid (show planOkL ts ws ss R L = true from by
        have := least_ok HV.out
        rw [← HRR.out, ← HLL.out]
        unfold runsR leftR
        rwa [if_pos HV.out, if_pos HV.out])
      have HC := Lib.hid (HR.out.le M6.out).at_
      go_wp2
      go_loopw [10] (fun u wr => ∃ k : Nat, k ≤ l ∧ u = .int .i64 (k : Int) ∧ ∃ q, wr = w6.drewN q) (fun u _ => l - (intOf u).toNat)
      case atStart => exact ⟨0, Nat.zero_le _, rfl, 0, rfl⟩
      case round =>
        obtain ⟨k, hk, rfl, q, rfl⟩ := hrel
        have lq := (Le.refl w6).drewN q
        by_cases hlt : k < l
        · obtain ⟨ad, B, m, d, ead, k0, _, _, _⟩ := HC.out k hlt
          injection ead with ead
          subst ead
          obtain ⟨ad1, rfl, k1⟩ := HP6.out.at_ k hlt
          obtain ⟨ad2, rfl, k2⟩ := HQ6.out.at_ k hlt
          obtain ⟨hy0, hlr⟩ := HAT.out k hlt
          unfold rmI at hlr
          have b0 := KP6.out.cell 0
          have b1 := KP6.out.cell 1
          simp at b0 b1
          obtain ⟨Y, hY⟩ : ∃ Y, (gm ts k).1 = Y := ⟨_, rfl⟩
          obtain ⟨x, hx⟩ : ∃ x, gi R k = x := ⟨_, rfl⟩
          obtain ⟨z, hz⟩ : ∃ z, gi L k = z := ⟨_, rfl⟩
          rw [hY] at hlr hy0 k0
          rw [hx] at hlr k1
          rw [hz] at hlr k2
          rw [addr0] at k0
          obtain ⟨M, hM, hM2⟩ : ∃ M, (if Y < 1 then 1 else Y) = M ∧ (0 < x → z < M) := ⟨_, rfl, fun h => by
            have := hlr h
            split at this <;> split <;> omega⟩
          clear hY hx hz hlr lq
          by_cases hx0 : 0 < x
          · have hz0 : ¬ M ≤ z := by have := hM2 hx0; omega
            have hxd : decide (0 < x) = true := decide_eq_true hx0
            clear hM2
            go_wp2
            go_quiet (fail)
            go_wp2
            go_roundw
            case rel => exact ⟨k + 1, by omega, by go_num, _, rfl⟩
            case measure => simp [intOf]; omega
          · have hxd : decide (0 < x) = false := decide_eq_false hx0
            clear hM2
            go_wp2
            go_quiet (fail)
            go_wp2
            go_roundw
            case rel => exact ⟨k + 1, by omega, by go_num, _, rfl⟩
            case measure => simp [intOf]; omega
        · have b0 := KP6.out.cell 0
          have b1 := KP6.out.cell 1
          simp at b0 b1
          have LQ := Lib.hid lq
          clear lq
          go_wp2_with fail
          refine (implPlanOk_any _ _ _ _ _ _ _ _ _ _ cap cx cy c2 d2 _ _ _ _ _ _ (HR.out.le (M6.out.trans LQ.out)) (HW.out.le (M6.out.trans LQ.out)) (HS.out.le (M6.out.trans LQ.out)) (HP6.out.le LQ.out) (HQ6.out.le LQ.out)).mono ?_; rintro e w7 ⟨rfl, l7⟩
          rw [HOK.out]
          go_wp2
          go_ret
          exact ⟨rfl, L1.out.trans (M6.out.trans (LQ.out.trans l7))⟩
end Go.Proofs.YtbkjfgbafphopaaDoor
