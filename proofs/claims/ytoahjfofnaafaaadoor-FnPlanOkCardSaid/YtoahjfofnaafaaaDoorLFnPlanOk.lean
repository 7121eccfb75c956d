/- Walk: FnPlanOk. -/
import Derived.Test.YtoahjfofnaafaaaDoorWDrawQ
import Derived.Test.YtoahjfofnaafaaaDoorWPOkI
namespace Go.Proofs.YtoahjfofnaafaaaDoor
open Go.RowKit

set_option maxRecDepth 20000 in
set_option maxHeartbeats 8000000 in
theorem law_FnPlanOk (w : World) (A : Option Addr) (n c : Nat) (h : RB w A n) (hc : n ≤ c) :
    Calls Tryd.prog 7 #[.slice A n c] w fun e w' => e = .returned (.bool true) ∧ Le w w' := by
  have hm := h.max
  by_cases hn : 1048576 < n
  · go_enter Tryd.func7, Tryd.ntmps7
    go_wp2
    go_ret
    exact ⟨rfl, Le.refl _⟩
  · have HD := Lib.hid (drawPlanOk_any A n c w h hc)
    clear h
    go_enter Tryd.func7, Tryd.ntmps7
    go_wp2_with fail
    refine HD.out.mono ?_; rintro e w1 ⟨gv, cap, k, ts, gx, cx, m, ws, gy, cy, m2, ss, A1, r, c1, R, B1, l, d1, L, rfl, dT, dX, dY, pd, l1⟩
    have hk7 := dT.small
    have hr7 := pd.r7
    have hl8 := pd.l8
    have la := (Le.refl w1).alloc (.cells #[.slice A1 r c1, .slice B1 l d1] 42)
    have kp := Blk.new w1 42 #[.slice A1 r c1, .slice B1 l d1]
    obtain ⟨w2, hw2⟩ : ∃ w2, w1.alloc (.cells #[.slice A1 r c1, .slice B1 l d1] 42) = w2 := ⟨_, rfl⟩
    rw [hw2] at la kp
    obtain ⟨bp, hbp⟩ : ∃ bp, w1.heap.size = bp := ⟨_, rfl⟩
    rw [hbp] at kp
    have HR := Lib.hid (fun w' (q : Le w2 w') => dT.rm.le (la.trans q))
    have HW := Lib.hid (fun w' (q : Le w2 w') => dX.ri.le (la.trans q))
    have HS := Lib.hid (fun w' (q : Le w2 w') => dY.ri.le (la.trans q))
    have HP := Lib.hid (fun w' (q : Le w2 w') => pd.runs.le (la.trans q))
    have HQ := Lib.hid (fun w' (q : Le w2 w') => pd.left.le (la.trans q))
    have KP := Lib.hid (fun w' (q : Le w2 w') => kp.le q)
    have HK := Lib.hid dT.len
    have L2 := Lib.hid (l1.trans la)
    have p0 := kp.cell 0
    have p1 := kp.cell 1
    simp at p0 p1
    obtain ⟨V, hV⟩ : ∃ V, planOkL ts ws ss R L = V := ⟨_, rfl⟩
    have HV := Lib.hid hV
    have hbb : (V != V) = false := by simp
    clear dT dX dY pd l1 la kp hV
    go_wp2_with fail
    refine (implPlanOk_any _ _ _ _ _ _ _ _ _ _ cap cx cy c1 d1 _ _ _ _ _ _ (HR.out _ (Le.refl _)) (HW.out _ (Le.refl _)) (HS.out _ (Le.refl _)) (HP.out _ (Le.refl _)) (HQ.out _ (Le.refl _))).mono ?_; rintro e w3 ⟨rfl, l3⟩
    rw [HV.out]
    have M3 := Lib.hid l3
    clear l3 p0 p1 hw2 hbp
    have p0 := (KP.out _ M3.out).cell 0
    have p1 := (KP.out _ M3.out).cell 1
    simp at p0 p1
    go_wp2_with fail
    refine (specPlanOk_any _ _ _ _ _ _ _ _ _ _ cap cx cy c1 d1 _ _ _ _ _ _ (HR.out _ M3.out) (HW.out _ M3.out) (HS.out _ M3.out) (HP.out _ M3.out) (HQ.out _ M3.out)).mono ?_; rintro e w4 ⟨rfl, l4⟩
    rw [HV.out]
    have M4 := Lib.hid (M3.out.trans l4)
    clear l4 p0 p1
    cases V
    · go_wp2_with fail
      refine (alive_any _).mono ?_; rintro e w5 ⟨rfl, l5⟩
      go_wp2
      go_ret
      exact ⟨rfl, L2.out.trans (M4.out.trans l5)⟩
    · have HF := Lib.hid (plan_facts HK.out HV.out)
      have hva : planArgsL ts ws ss = true := HF.out.1
      have hrk : r = k := by have h1 := HF.out.2.1.1; have h2 := (HP.out _ M4.out).len; omega
      have hlk : l = k := by have h1 := HF.out.2.2.1; have h2 := (HQ.out _ M4.out).len; omega
      obtain rfl : k = r := hrk.symm
      obtain rfl : k = l := hlk.symm
      have hrr : runsR ts ws ss = runsL ts ws ss := by unfold runsR; rw [if_pos hva]
      have hll : leftR ts ws ss = leftL ts ws ss (runsL ts ws ss) := by unfold leftR; rw [if_pos hva]
      obtain ⟨R5, hR5⟩ : ∃ R5, runsL ts ws ss = R5 := ⟨_, rfl⟩
      have HLT := Lib.hid (show ∀ q, q < k → ¬ gi R q < gi R5 q ∧ ¬ gi L q < 0 from fun q hq => by
        have := least_least HK.out HV.out hq
        rw [hR5] at this; omega)
      have hi := plan_retN (implLeast_any _ _ _ _ _ _ cap cx cy _ _ _ _ (HR.out _ M4.out) (HW.out _ M4.out) (HS.out _ M4.out)) (by rw [hrr, runsL_len, HK.out]; omega) (by rw [hll, leftL_length, HK.out]; omega)
      rw [hva, hrr, hll, runsL_len, leftL_length, HK.out, hR5] at hi
      have HI := Lib.hid hi
      clear hi hrr hll hR5 hva hrk hlk
      go_wp2_with fail
      refine HI.out.mono ?_; rintro e w5 ⟨A5, c5, B5, d5, rfl, r5, _, l5⟩
      have la := (Le.refl w5).alloc (.cells #[.slice A5 k c5, .slice B5 k d5] 42)
      have kq := Blk.new w5 42 #[.slice A5 k c5, .slice B5 k d5]
      obtain ⟨w6, hw6⟩ : ∃ w6, w5.alloc (.cells #[.slice A5 k c5, .slice B5 k d5] 42) = w6 := ⟨_, rfl⟩
      rw [hw6] at la kq
      obtain ⟨bq, hbq⟩ : ∃ bq, w5.heap.size = bq := ⟨_, rfl⟩
      rw [hbq] at kq
      have M6 := Lib.hid (M4.out.trans (l5.trans la))
      have R6 := Lib.hid (r5.le la)
      have KQ := Lib.hid kq
      have p0 := (KP.out _ M6.out).cell 0
      have p1 := (KP.out _ M6.out).cell 1
      have q0 := kq.cell 0
      simp at p0 p1 q0
      have hkk : ((k : Int) != (k : Int)) = false := by simp
      clear l5 la kq r5
      go_wp2
      clear hw6 hbq
      go_loopw [10] (fun u wr => ∃ j : Nat, j ≤ k ∧ u = .int .i64 (j : Int) ∧ ∃ q, wr = w6.drewN q) (fun u _ => k - (intOf u).toNat)
      case atStart => exact ⟨0, Nat.zero_le _, rfl, 0, rfl⟩
      case round =>
        obtain ⟨j, hj, rfl, q, rfl⟩ := hrel
        have LQ := Lib.hid ((Le.refl w6).drewN q)
        by_cases hlt : j < k
        · obtain ⟨ad1, rfl, k1⟩ := R6.out.at_ j hlt
          obtain ⟨ad2, rfl, k2⟩ := (HP.out _ M6.out).at_ j hlt
          obtain ⟨ad3, rfl, k3⟩ := (HQ.out _ M6.out).at_ j hlt
          obtain ⟨h1, h2⟩ := HLT.out j hlt
          obtain ⟨x, hx⟩ : ∃ x, gi R5 j = x := ⟨_, rfl⟩
          obtain ⟨y, hy⟩ : ∃ y, gi R j = y := ⟨_, rfl⟩
          obtain ⟨z, hz⟩ : ∃ z, gi L j = z := ⟨_, rfl⟩
          rw [hx] at k1 h1
          rw [hy] at k2 h1
          rw [hz] at k3 h2
          have hd1 : decide (y < x) = false := decide_eq_false (by omega)
          have hd2 : decide (z < 0) = false := decide_eq_false (by omega)
          clear hx hy hz
          go_wp2
          go_quiet (fail)
          go_wp2
          go_roundw
          case rel => exact ⟨j + 1, by omega, by go_num, _, rfl⟩
          case measure => simp [intOf]; omega
        · obtain rfl : j = k := by omega
          go_wp2
          go_ret
          exact ⟨rfl, L2.out.trans (M6.out.trans LQ.out)⟩
end Go.Proofs.YtoahjfofnaafaaaDoor
