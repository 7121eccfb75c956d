/- Walk: FnTakeDo. -/
import Derived.Test.YteeklaplnhafoaaDoorWDrawT
import Derived.Test.YteeklaplnhafoaaDoorWSame
import Derived.Test.YteeklaplnhafoaaDoorWTakeC
namespace Go.Proofs.YteeklaplnhafoaaDoor
open Go.RowKit

set_option maxRecDepth 20000 in
set_option maxHeartbeats 4000000 in
theorem law_FnTakeDo (w : World) (A : Option Addr) (n c : Nat) (h : RB w A n) (hc : n ≤ c) :
    Calls Tryd.prog 9 #[.slice A n c] w fun e w' => e = .returned (.bool true) ∧ Le w w' := by
  have hm := h.max
  by_cases hn : 1048576 < n
  · go_enter Tryd.func9, Tryd.ntmps9
    go_wp2
    go_ret
    exact ⟨rfl, Le.refl _⟩
  · have HD := Lib.hid (drawTakeDo_any A n c w h hc)
    clear h
    go_enter Tryd.func9, Tryd.ntmps9
    go_wp2_with fail
    refine HD.out.mono ?_; rintro e w1 ⟨gv, cap, k, ps, day, B, d, m, T, rfl, d1, ⟨hd1, hd2⟩, hm6, o1, l1⟩
    have hk6 := d1.small
    have hkc := d1.kcap
    obtain ⟨B2, dd, e, r1⟩ := own_RI o1 (by omega)
    injection e with e1 e2 e3
    subst e1
    subst e3
    clear e2
    have HR := Lib.hid d1.rp
    have HI := Lib.hid r1
    have O1 := Lib.hid o1
    have L1 := Lib.hid l1
    have HL := Lib.hid d1.len
    have HM := Lib.hid r1.len
    clear d1 l1 o1 r1
    obtain ⟨V, hV⟩ : ∃ V, takeOkL ps day T = V := ⟨_, rfl⟩
    have HV := Lib.hid hV
    clear hV
    obtain ⟨L, hLd⟩ : ∃ L, takeDoR ps day T = L := ⟨_, rfl⟩
    obtain ⟨l, hll⟩ : ∃ l, L.length = l := ⟨_, rfl⟩
    have hl6 : l ≤ 6 := by rw [← hll, ← hLd]; exact takeDoR_le HL.out hk6
    have HLD := Lib.hid hLd
    have HLL := Lib.hid hll
    clear hLd hll
    have hi1 := slice_retPB (implTakeDo_any _ _ _ _ cap d _ day _ _ HR.out HI.out) (Nat.le_trans (takeDoR_le HL.out hk6) (by omega))
    rw [HLD.out, HLL.out, HV.out] at hi1
    have HI1 := Lib.hid hi1
    clear hi1
    go_wp2_with fail
    refine HI1.out.mono ?_; rintro e w2 ⟨A1, c1, rfl, r1, _, l2⟩
    have HR2 := Lib.hid (HR.out.le l2)
    have HI2 := Lib.hid (HI.out.le l2)
    have M2 := Lib.hid l2
    have HX2 := Lib.hid r1
    clear l2 r1
    have hi2 := slice_retPB (specTakeDo_any _ _ _ _ cap d _ day _ _ HR2.out HI2.out) (Nat.le_trans (takeDoR_le HL.out hk6) (by omega))
    rw [HLD.out, HLL.out, HV.out] at hi2
    have HS1 := Lib.hid hi2
    clear hi2
    go_wp2_with fail
    refine HS1.out.mono ?_; rintro e w3 ⟨A2, c2, rfl, r2, _, l3⟩
    have M3 := Lib.hid (M2.out.trans l3)
    have HX3 := Lib.hid (HX2.out.le l3)
    have HS := Lib.hid (sameLots_self _ _ _ c1 c2 _ _ (HX2.out.le l3) r2)
    clear l3 r2
    have hbb : (V != V) = false := by simp
    go_wp2_with fail
    refine HS.out.mono ?_; rintro e w' ⟨rfl, q3, rfl⟩
    obtain ⟨w4, hw4⟩ : ∃ w4, w3.drewN q3 = w4 := ⟨_, rfl⟩
    have K4 : Le w3 w4 := by rw [← hw4]; exact (Le.refl w3).drewN _
    have M4 := Lib.hid (M3.out.trans K4)
    have HX4 := Lib.hid (HX3.out.le K4)
    rw [hw4]
    clear hw4 K4
    cases V
    · have h0 := HLD.out
      unfold takeDoR at h0
      rw [HV.out, if_neg Bool.false_ne_true] at h0
      obtain rfl : l = 0 := by rw [← HLL.out, ← h0]; rfl
      clear h0
      go_wp2_with fail
      refine (alive_any w4).mono ?_; rintro e w5 ⟨rfl, l5⟩
      go_wp2
      go_ret
      exact ⟨rfl, L1.out.trans (M4.out.trans l5)⟩
    · have h0 := HLD.out
      unfold takeDoR at h0
      rw [HV.out, if_pos rfl] at h0
      have hlk : l = k := by rw [← HLL.out, ← h0, takeDoL_length, HL.out]
      subst hlk
      have hlots := takeDoL_lots HV.out
      have hall := do_all HV.out
      have hrs := row_sum HV.out
      have hgp : ∀ j, j < l → (gp L j).2 = (gp ps j).2 := fun j hj => by rw [← h0, gp_takeDoL (by rw [HL.out]; exact hj)]; rfl
      have hb := lotsAtL_b (takeOk_facts rfl HV.out).1 0
      rw [h0] at hlots hall
      rw [HM.out] at hrs
      obtain ⟨S, hS⟩ : ∃ S, sumTo (gi T) ps.length = S := ⟨_, rfl⟩
      obtain ⟨Z, hZ⟩ : ∃ Z, lotsAtL ps 0 = Z := ⟨_, rfl⟩
      rw [hS, hZ] at hall
      rw [hS] at hrs
      rw [hZ] at hb
      obtain ⟨hrs1, hrs2, hrs3⟩ := hrs
      obtain ⟨hb1, hb2⟩ := hb
      have HSR := Lib.hid hrs1
      have HZ := Lib.hid hZ
      have HALL := Lib.hid hall
      have HLO := Lib.hid hlots
      have HG := Lib.hid hgp
      clear hrs1 hZ hall hlots hgp hS h0
      go_wp2
      go_loopw [10] (fun i wr => ∃ j : Nat, j ≤ l ∧ i = .int .i64 j ∧ Le w4 wr) (fun i _ => l - (intOf i).toNat)
      case atStart => exact ⟨0, Nat.zero_le _, rfl, Le.refl _⟩
      case round =>
        obtain ⟨j, hj, rfl, hle⟩ := hrel
        have H2 := Lib.hid hle
        by_cases hlt : j < l
        · obtain ⟨ad, rfl, p1, p2⟩ := (HX4.out.le hle).at_ j hlt
          obtain ⟨ad2, e2, p3, p4⟩ := (HR.out.le (M4.out.trans hle)).at_ j hlt
          injection e2 with e2
          subst e2
          rw [addr0] at p3 p4
          rw [HG.out j hlt] at p2
          obtain ⟨z, hz⟩ : ∃ z, (gp ps j).2 = z := ⟨_, rfl⟩
          rw [hz] at p2 p4
          have hzz : (z != z) = false := by simp
          clear hle hz p1 p3
          go_wp2
          go_quiet (fail)
          go_wp2
          go_roundw
          case rel => exact ⟨j + 1, by omega, by go_num, H2.out.drewN _⟩
          case measure => simp [intOf]; omega
        · obtain rfl : j = l := by omega
          clear hle
          go_wp2_with fail
          refine (implLotsValid_any _ _ _ _ _ (HX4.out.le H2.out)).mono ?_; rintro e w5 ⟨rfl, l5⟩
          rw [HLO.out]
          have M5 := Lib.hid (M4.out.trans (H2.out.trans l5))
          have HX5 := Lib.hid (HX4.out.le (H2.out.trans l5))
          clear l5
          go_wp2_with fail
          refine (implLotsAt_any _ _ _ _ 0 _ HX5.out).mono ?_; rintro e w6 ⟨rfl, l6⟩
          rw [HALL.out]
          have M6 := Lib.hid (M5.out.trans l6)
          clear l6
          go_wp2_with fail
          refine (implLotsAt_any _ _ _ _ 0 _ (HR.out.le M6.out)).mono ?_; rintro e w7 ⟨rfl, l7⟩
          rw [HZ.out]
          have M7 := Lib.hid (M6.out.trans l7)
          clear l7
          go_wp2_with fail
          refine (lawSum_any _ _ _ _ _ (HI.out.le M7.out)).mono ?_; rintro e w' ⟨rfl, rfl⟩
          rw [HSR.out]
          go_wp2
          go_ret
          exact ⟨rfl, L1.out.trans M7.out⟩
end Go.Proofs.YteeklaplnhafoaaDoor
