/- Walk: FnMakeRun. -/
import Derived.Test.YtoahjfofnaafaaaDoorWDrawQ
import Derived.Test.YtoahjfofnaafaaaDoorWMakeS
import Derived.Test.YtoahjfofnaafaaaDoorWMakeI
namespace Go.Proofs.YtoahjfofnaafaaaDoor
open Go.RowKit

theorem makeL_len {ts : List It} {n : Nat} (hl : ts.length = n) (ss rs : List Int) : (makeL ts ss rs).length ≤ n := by
  unfold makeL
  split
  · simp [hl]
  · simp
theorem eqI_self (xs : List Int) : eqI xs xs = true := by simp [eqI]
set_option maxRecDepth 20000 in
set_option maxHeartbeats 16000000 in
theorem law_FnMakeRun (w : World) (A : Option Addr) (n c : Nat) (h : RB w A n) (hc : n ≤ c) (E : Option Addr) (n2 c2 : Nat) (h2 : RB w E n2) (hc2 : n2 ≤ c2) :
    Calls Tryd.prog 8 #[.slice A n c, .slice E n2 c2] w fun e w' => e = .returned (.bool true) ∧ Le w w' := by
  have hm := h.max
  have hm2 := h2.max
  by_cases hn : 1048576 < n
  · have hnd : decide (1048576 < (n : Int)) = true := decide_eq_true (by omega)
    clear h h2
    go_enter Tryd.func8, Tryd.ntmps8
    go_wp2
    go_ret
    exact ⟨rfl, Le.refl _⟩
  have hnd : decide (1048576 < (n : Int)) = false := decide_eq_false (by omega)
  by_cases hn2 : 1048576 < n2
  · have hnd2 : decide (1048576 < (n2 : Int)) = true := decide_eq_true (by omega)
    clear h h2
    go_enter Tryd.func8, Tryd.ntmps8
    go_wp2
    go_ret
    exact ⟨rfl, Le.refl _⟩
  have hnd2 : decide (1048576 < (n2 : Int)) = false := decide_eq_false (by omega)
  have HD := Lib.hid (drawMakeRun_any A n c w h hc)
  have HD2 := Lib.hid (fun w' (l : Le w w') => drawPlanLeast_any E n2 c2 w' (h2.le l) hc2)
  clear h h2
  go_enter Tryd.func8, Tryd.ntmps8
  go_wp2_with fail
  refine HD.out.mono ?_; rintro e w1 ⟨gv, cap, k, ts, gy, cy, m2, ss, A1, r, c1, R, B1, l, d1, L, rfl, dT, dY, pd, l1⟩
  have hk7 := dT.small
  have hr7 := pd.r7
  have hl8 := pd.l8
  have la := (Le.refl w1).alloc (.cells #[.slice A1 r c1, .slice B1 l d1] 42)
  have kp := Blk.new w1 42 #[.slice A1 r c1, .slice B1 l d1]
  obtain ⟨w2, hw2⟩ : ∃ w2, w1.alloc (.cells #[.slice A1 r c1, .slice B1 l d1] 42) = w2 := ⟨_, rfl⟩
  rw [hw2] at la kp
  obtain ⟨bp, hbp⟩ : ∃ bp, w1.heap.size = bp := ⟨_, rfl⟩
  rw [hbp] at kp
  have HR := Lib.hid (fun w' (q : Le w2 w') => dT.rm.le (la.trans q))
  have HS := Lib.hid (fun w' (q : Le w2 w') => dY.ri.le (la.trans q))
  have HP := Lib.hid (fun w' (q : Le w2 w') => pd.runs.le (la.trans q))
  have HQ := Lib.hid (fun w' (q : Le w2 w') => pd.left.le (la.trans q))
  have KP := Lib.hid (fun w' (q : Le w2 w') => kp.le q)
  have HK := Lib.hid dT.len
  have L2 := Lib.hid (l1.trans la)
  have p0 := kp.cell 0
  have p1 := kp.cell 1
  simp at p0 p1
  have hN1l := makeL_len dT.len ss R
  obtain ⟨V1, hV1⟩ : ∃ V, makeOkL ts ss R = V := ⟨_, rfl⟩
  obtain ⟨N1, hN1⟩ : ∃ N, makeL ts ss R = N := ⟨_, rfl⟩
  rw [hN1] at hN1l
  have HI1 := Lib.hid (implMake_any _ _ _ _ _ _ _ _ cap cy c1 d1 ts ss R L w2 (HR.out _ (Le.refl _)) (HS.out _ (Le.refl _)) (HP.out _ (Le.refl _)) (HQ.out _ (Le.refl _)))
  have HS1 := Lib.hid (fun w' (q : Le w2 w') => specMake_any _ _ _ _ _ _ _ _ cap cy c1 d1 ts ss R L w' (HR.out _ q) (HS.out _ q) (HP.out _ q) (HQ.out _ q))
  rw [hV1, hN1] at HI1 HS1
  have HV1 := Lib.hid hV1
  have HN1 := Lib.hid hN1
  have hbb : (V1 != V1) = false := by simp
  clear dT dY pd l1 la kp hV1 hN1
  go_wp2_with fail
  refine HI1.out.mono ?_; rintro e w3 ⟨v3, rfl, o3, l3⟩
  obtain ⟨A3, c3, rfl, r3⟩ := own_RI o3 (by omega)
  have M3 := Lib.hid l3
  have HN3 := Lib.hid (fun w' (q : Le w3 w') => r3.le q)
  clear l3 p0 p1 hw2 hbp o3 r3
  have p0 := (KP.out _ M3.out).cell 0
  have p1 := (KP.out _ M3.out).cell 1
  simp at p0 p1
  go_wp2_with fail
  refine (HS1.out _ M3.out).mono ?_; rintro e w4 ⟨v4, rfl, o4, l4⟩
  obtain ⟨A4, c4, rfl, r4⟩ := own_RI o4 (by omega)
  have M4 := Lib.hid (M3.out.trans l4)
  have hsi := sameInts_any A3 A4 N1.length N1.length c3 c4 N1 N1 w4 (HN3.out _ l4) r4
  rw [eqI_self] at hsi
  have HSI := Lib.hid hsi
  have HN := Lib.hid (fun w' (q : Le w4 w') => HN3.out _ (l4.trans q))
  clear p0 p1 o4 r4 l4 hsi
  go_wp2_with fail
  refine HSI.out.mono ?_; rintro e w5 ⟨rfl, q5, rfl⟩
  have l5 := (Le.refl w4).drewN q5
  have M5 := Lib.hid (M4.out.trans l5)
  obtain ⟨w5, hw5⟩ : ∃ w5, w4.drewN q5 = w5 := ⟨_, rfl⟩
  rw [hw5] at M5 l5 ⊢
  have HN5 := Lib.hid (fun w' (q : Le w5 w') => HN.out _ (l5.trans q))
  clear hw5 l5
  go_wp2_with fail
  refine (HD2.out _ (L2.out.trans M5.out)).mono ?_; rintro e w6 ⟨gv2, cap2, k2, ts2, gx2, cx2, mx2, ws2, gy2, cy2, my2, ss2, rfl, dT2, dX2, dY2, l6⟩
  have hk72 := dT2.small
  have M6 := Lib.hid (M5.out.trans l6)
  have HR2 := Lib.hid (fun w' (q : Le w6 w') => dT2.rm.le q)
  have HW2 := Lib.hid (fun w' (q : Le w6 w') => dX2.ri.le q)
  have HS2 := Lib.hid (fun w' (q : Le w6 w') => dY2.ri.le q)
  have HK2 := Lib.hid dT2.len
  have HN6 := Lib.hid (fun w' (q : Le w6 w') => HN5.out _ (l6.trans q))
  clear dT2 dX2 dY2 l6 HN HN5 HN3
  have hrl : (runsR ts2 ws2 ss2).length ≤ 7 := by
    unfold runsR; split
    · rw [runsL_len, HK2.out]; exact hk72
    · exact Nat.zero_le _
  have hll : (leftR ts2 ws2 ss2).length ≤ 7 := by
    unfold leftR; split
    · rw [leftL_length, HK2.out]; exact hk72
    · exact Nat.zero_le _
  obtain ⟨V2, hV2⟩ : ∃ V, planArgsL ts2 ws2 ss2 = V := ⟨_, rfl⟩
  obtain ⟨R2, hR2⟩ : ∃ R, runsR ts2 ws2 ss2 = R := ⟨_, rfl⟩
  obtain ⟨Lf2, hL2⟩ : ∃ R, leftR ts2 ws2 ss2 = R := ⟨_, rfl⟩
  have hi2 := plan_retN (implLeast_any _ _ _ _ _ _ cap2 cx2 cy2 _ _ _ _ (HR2.out _ (Le.refl _)) (HW2.out _ (Le.refl _)) (HS2.out _ (Le.refl _))) (by omega) (by omega)
  rw [hV2, hR2, hL2] at hi2
  rw [hR2] at hrl
  rw [hL2] at hll
  have HI2 := Lib.hid hi2
  have HV2 := Lib.hid hV2
  have HRR2 := Lib.hid hR2
  have HLL2 := Lib.hid hL2
  clear hi2 hV2 hR2 hL2
  go_wp2_with fail
  refine HI2.out.mono ?_; rintro e w7 ⟨A7, c7, B7, d7, rfl, r7, s7, l7⟩
  have la7 := (Le.refl w7).alloc (.cells #[.slice A7 R2.length c7, .slice B7 Lf2.length d7] 42)
  have kq := Blk.new w7 42 #[.slice A7 R2.length c7, .slice B7 Lf2.length d7]
  obtain ⟨w8, hw8⟩ : ∃ w8, w7.alloc (.cells #[.slice A7 R2.length c7, .slice B7 Lf2.length d7] 42) = w8 := ⟨_, rfl⟩
  rw [hw8] at la7 kq
  obtain ⟨bq, hbq⟩ : ∃ bq, w7.heap.size = bq := ⟨_, rfl⟩
  rw [hbq] at kq
  have N8 := Lib.hid (l7.trans la7)
  have R7 := Lib.hid (fun w' (q : Le w8 w') => r7.le (la7.trans q))
  have S7 := Lib.hid (fun w' (q : Le w8 w') => s7.le (la7.trans q))
  have KQ := Lib.hid (fun w' (q : Le w8 w') => kq.le q)
  have q0 := kq.cell 0
  have q1 := kq.cell 1
  simp at q0 q1
  have hN2l := makeL_len HK2.out ss2 R2
  obtain ⟨V3, hV3⟩ : ∃ V, makeOkL ts2 ss2 R2 = V := ⟨_, rfl⟩
  obtain ⟨N2, hN2⟩ : ∃ N, makeL ts2 ss2 R2 = N := ⟨_, rfl⟩
  rw [hN2] at hN2l
  have hi3 := implMake_any _ _ _ _ _ _ _ _ cap2 cy2 c7 d7 ts2 ss2 R2 Lf2 w8 (HR2.out _ N8.out) (HS2.out _ N8.out) (R7.out _ (Le.refl _)) (S7.out _ (Le.refl _))
  rw [hV3, hN2] at hi3
  have HI3 := Lib.hid hi3
  have HV3 := Lib.hid hV3
  have HN2 := Lib.hid hN2
  clear hi3 hV3 hN2 r7 s7 l7 la7 kq
  go_wp2_with fail
  refine HI3.out.mono ?_; rintro e w9 ⟨v9, rfl, o9, l9⟩
  obtain ⟨A9, c9, rfl, r9⟩ := own_RI o9 (by omega)
  have M9 := Lib.hid (M6.out.trans (N8.out.trans l9))
  have R9 := Lib.hid r9
  have N9 := Lib.hid (N8.out.trans l9)
  have K9 := Lib.hid (KQ.out _ l9)
  have S9 := Lib.hid (S7.out _ l9)
  have HN := Lib.hid (fun w' (q : Le w2 w') (hq : Le w9 w') => HN6.out _ (N9.out.trans hq))
  clear o9 r9 l9 q0 q1 hw8 hbq HN6
  cases V2
  · cases V1
    · have hnl : N1.length = 0 := by rw [← HN1.out]; unfold makeL; rw [HV1.out]; rfl
      have hnl2 : ((N1.length : Int) == 0) = true := by rw [beq_iff_eq]; omega
      clear hnl
      go_wp2_with fail
      refine (alive_any _).mono ?_; rintro e w20 ⟨rfl, l20⟩
      go_wp2
      go_ret
      exact ⟨rfl, L2.out.trans ((M9.out).trans l20)⟩
    · have hma := make_all HV1.out
      have hnl : N1.length = k := by rw [← HN1.out, hma.1, HK.out]
      have HPOS := Lib.hid (show ∀ j, j < k → ¬ gi N1 j < 0 from fun j hj => by
        have := (hma.2 j (by rw [HK.out]; exact hj)).2
        rw [HN1.out] at this; omega)
      have HNR := Lib.hid (HN.out _ (M9.out) (Le.refl _))
      rw [hnl] at HNR ⊢
      clear hma hnl
      go_wp2
      go_loop [20] (fun u => ∃ j : Nat, j ≤ k ∧ u = .int .i64 (j : Int)) (fun u => k - (intOf u).toNat)
      case atStart => exact ⟨0, Nat.zero_le _, rfl⟩
      case round =>
        obtain ⟨j, hj, rfl⟩ := hrel
        by_cases hlt : j < k
        · obtain ⟨ad1, rfl, k1⟩ := HNR.out.at_ j hlt
          have h1 := HPOS.out j hlt
          obtain ⟨x, hx⟩ : ∃ x, gi N1 j = x := ⟨_, rfl⟩
          rw [hx] at k1 h1
          have hd1 : decide (x < 0) = false := decide_eq_false (by omega)
          clear hx
          go_wp2
          go_round
          case rel => exact ⟨j + 1, by omega, by go_num⟩
          case measure => simp [intOf]; omega
        · obtain rfl : j = k := by omega
          have hkk : ((j : Int) == (j : Int)) = true := by simp
          go_wp2
          go_ret
          exact ⟨rfl, L2.out.trans (M9.out)⟩
  · have hlm := least_made HK2.out HV2.out
    have hrr : R2 = runsL ts2 ws2 ss2 := by rw [← HRR2.out]; unfold runsR; rw [if_pos HV2.out]
    have hll2 : Lf2 = leftL ts2 ws2 ss2 R2 := by rw [hrr, ← HLL2.out]; unfold leftR; rw [if_pos HV2.out]
    rw [← hrr, ← hll2] at hlm
    obtain rfl : V3 = true := by rw [← HV3.out]; exact hlm.1
    have hma2 := make_all HV3.out
    have hpa := plan_args HK2.out HV2.out
    have hnl2 : N2.length = k2 := by rw [← HN2.out, hma2.1, HK2.out]
    have hlf : Lf2.length = k2 := by rw [hll2, leftL_length, HK2.out]
    have hmx : mx2 = k2 := by have h1 := hpa.2.2.1.1; have h2 := (HW2.out _ (Le.refl _)).len; omega
    have HB2 := Lib.hid (show ∀ j, j < k2 → gi N2 j = gi ws2 j + gi Lf2 j ∧ (0 ≤ gi ws2 j ∧ gi ws2 j ≤ 50) ∧ (0 ≤ gi Lf2 j ∧ gi Lf2 j ≤ 100000000) from fun j hj => by
      have h1 := hma2.2 j (by rw [HK2.out]; exact hj)
      rw [HN2.out, HK2.out] at h1
      have h2 := hlm.2 j hj
      have h3 := hpa.2.2.1.2 j hj
      have h4 := (least_at HK2.out HV2.out hj)
      rw [← hrr, ← hll2] at h4
      have h5 := leftL_at (ts := ts2) ws2 ss2 R2 (k := j) (by rw [HK2.out]; exact hj)
      have hrb : ∀ k, k < k2 → 0 ≤ gi R2 k ∧ gi R2 k ≤ 840350 := fun k hk => by
        have := (least_at HK2.out HV2.out hk).1
        rwa [← hrr] at this
      have h6 := (base_b hpa.2.1 hpa.2.2.1.2 hpa.2.2.2.2 hrb hj).2
      have h7 := useA_6 hpa.2.1 hpa.1 (by decide) hrb j k2 (Nat.le_refl _)
      rw [hll2] at h2 h4 ⊢
      rw [HK2.out] at h5
      refine ⟨?_, h3, by omega, by omega⟩
      have h8 := h1.1
      have h9 := h2
      omega)
    have R9' := R9.out
    have S9' := S9.out
    have W9' := HW2.out _ N9.out
    rw [hnl2] at R9' ⊢
    rw [hlf] at S9' K9
    rw [hmx] at W9' ⊢
    rw [hlf]
    have HR9 := Lib.hid R9'.at_
    have HS9 := Lib.hid S9'.at_
    have HW9 := Lib.hid W9'.at_
    have q1 := K9.out.cell 1
    simp at q1
    have hkk : ((k2 : Int) != (k2 : Int)) = false := by simp
    clear hlm hrr hll2 hma2 hpa hnl2 hlf hmx R9' S9' W9'
    go_wp2
    go_loopw [19] (fun u wr => ∃ j : Nat, j ≤ k2 ∧ u = .int .i64 (j : Int) ∧ ∃ q, wr = w9.drewN q) (fun u _ => k2 - (intOf u).toNat)
    case atStart => exact ⟨0, Nat.zero_le _, rfl, 0, rfl⟩
    case round =>
      obtain ⟨j, hj, rfl, q, rfl⟩ := hrel
      have LQ := Lib.hid ((Le.refl w9).drewN q)
      by_cases hlt : j < k2
      · obtain ⟨ad1, rfl, k1⟩ := HR9.out j hlt
        obtain ⟨ad2, rfl, k2'⟩ := HS9.out j hlt
        obtain ⟨ad3, e3, k3⟩ := HW9.out j hlt
        injection e3 with e3
        subst e3
        rw [addr0] at k3
        obtain ⟨h1, h2, h3⟩ := HB2.out j hlt
        obtain ⟨x, hx⟩ : ∃ x, gi ws2 j = x := ⟨_, rfl⟩
        obtain ⟨y, hy⟩ : ∃ y, gi Lf2 j = y := ⟨_, rfl⟩
        obtain ⟨z, hz⟩ : ∃ z, gi N2 j = z := ⟨_, rfl⟩
        rw [hx] at k3 h1 h2
        rw [hy] at k2' h1 h3
        rw [hz] at k1 h1
        have hw : IntKind.i64.wrap (x + y) = z := by rw [h1]; exact IntWalk.i64_in _ (by omega)
        have hxx : (z != z) = false := by simp
        clear hx hy hz h1
        go_wp2
        go_quiet (fail)
        go_wp2
        go_roundw
        case rel => exact ⟨j + 1, by omega, by go_num, _, rfl⟩
        case measure => simp [intOf]; omega
      · obtain rfl : j = k2 := by omega
        obtain ⟨w10, hw10⟩ : ∃ w10, w9.drewN q = w10 := ⟨_, rfl⟩
        rw [hw10] at LQ ⊢
        clear hw10
        cases V1
        · have hnl : N1.length = 0 := by rw [← HN1.out]; unfold makeL; rw [HV1.out]; rfl
          have hnl2 : ((N1.length : Int) == 0) = true := by rw [beq_iff_eq]; omega
          clear hnl
          go_wp2_with fail
          refine (alive_any _).mono ?_; rintro e w20 ⟨rfl, l20⟩
          go_wp2
          go_ret
          exact ⟨rfl, L2.out.trans ((M9.out.trans LQ.out).trans l20)⟩
        · have hma := make_all HV1.out
          have hnl : N1.length = k := by rw [← HN1.out, hma.1, HK.out]
          have HPOS := Lib.hid (show ∀ j, j < k → ¬ gi N1 j < 0 from fun j hj => by
            have := (hma.2 j (by rw [HK.out]; exact hj)).2
            rw [HN1.out] at this; omega)
          have HNR := Lib.hid (HN.out _ (M9.out.trans LQ.out) LQ.out)
          rw [hnl] at HNR ⊢
          clear hma hnl
          go_wp2
          go_loop [20] (fun u => ∃ j : Nat, j ≤ k ∧ u = .int .i64 (j : Int)) (fun u => k - (intOf u).toNat)
          case atStart => exact ⟨0, Nat.zero_le _, rfl⟩
          case round =>
            obtain ⟨j, hj, rfl⟩ := hrel
            by_cases hlt : j < k
            · obtain ⟨ad1, rfl, k1⟩ := HNR.out.at_ j hlt
              have h1 := HPOS.out j hlt
              obtain ⟨x, hx⟩ : ∃ x, gi N1 j = x := ⟨_, rfl⟩
              rw [hx] at k1 h1
              have hd1 : decide (x < 0) = false := decide_eq_false (by omega)
              clear hx
              go_wp2
              go_round
              case rel => exact ⟨j + 1, by omega, by go_num⟩
              case measure => simp [intOf]; omega
            · obtain rfl : j = k := by omega
              have hkk : ((j : Int) == (j : Int)) = true := by simp
              go_wp2
              go_ret
              exact ⟨rfl, L2.out.trans (M9.out.trans LQ.out)⟩
end Go.Proofs.YtoahjfofnaafaaaDoor
