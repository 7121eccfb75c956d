/- Walk: FnUseBound. -/
import Derived.Test.YteeklaplnhafoaaDoorMLaw
import Derived.Test.YteeklaplnhafoaaDoorWMost
namespace Go.Proofs.YteeklaplnhafoaaDoor
open Go.RowKit

theorem bound_bad {ps : List (Int × Int)} {ws : List Int} {day : Int} (h : useBoundL ps ws day < 0) : useBoundL ps ws day = -1 := by
  unfold useBoundL at h ⊢
  split
  · rename_i hc
    rw [if_pos hc] at h
    exfalso
    rw [Bool.and_eq_true, Bool.and_eq_true] at hc
    have a := lotsAtL_b hc.1.1 day
    have b := wants_sum hc.1.2 (k := min day.toNat ws.length) (Nat.min_le_right _ _)
    omega
  · rfl

set_option maxRecDepth 20000 in
set_option maxHeartbeats 4000000 in
theorem law_FnUseBound (w : World) (A : Option Addr) (n c : Nat) (h : RB w A n) (hc : n ≤ c) :
    Calls Tryd.prog 12 #[.slice A n c] w fun e w' => e = .returned (.bool true) ∧ Le w w' := by
  have hm := h.max
  by_cases hn : 1048576 < n
  · go_enter Tryd.func12, Tryd.ntmps12
    go_wp2
    go_ret
    exact ⟨rfl, Le.refl _⟩
  · have HD := Lib.hid (drawUseBound_any A n c w h hc)
    clear h
    go_enter Tryd.func12, Tryd.ntmps12
    go_wp2_with fail
    refine HD.out.mono ?_; rintro e w1 ⟨gv, cap, k, ps, gx, capx, m, xs, day, rfl, d1, i1, ⟨hd1, hd2⟩, l1⟩
    have hk6 := d1.small
    have hkc := d1.kcap
    have hm7 := i1.small
    have hmc := i1.kcap
    have HR := Lib.hid d1.rp
    have HI := Lib.hid i1.ri
    have L1 := Lib.hid l1
    have HL := Lib.hid d1.len
    have HM := Lib.hid i1.len
    have D1 := Lib.hid d1
    have I1 := Lib.hid i1
    clear d1 i1 l1
    go_wp2_with fail
    refine (implUseBound_any _ _ _ _ _ _ _ _ day _ HR.out HI.out hmc).mono ?_; rintro e w2 ⟨rfl, l2⟩
    have HR2 := Lib.hid (HR.out.le l2)
    have HI2 := Lib.hid (HI.out.le l2)
    have L2 := Lib.hid (L1.out.trans l2)
    clear l2
    go_wp2_with fail
    refine (specUseBound_any _ _ _ _ _ _ _ _ day _ HR2.out HI2.out).mono ?_; rintro e w' ⟨rfl, rfl⟩
    obtain ⟨V, hV⟩ : ∃ V, useBoundL ps xs day = V := ⟨_, rfl⟩
    rw [hV]
    have HV := Lib.hid hV
    clear hV
    by_cases hv0 : V < 0
    · have hv := bound_bad (ps := ps) (ws := xs) (day := day) (by rw [HV.out]; exact hv0)
      rw [HV.out] at hv
      subst hv
      go_wp2_with fail
      refine (alive_any w2).mono ?_; rintro e w4 ⟨rfl, l4⟩
      go_wp2
      go_ret
      exact ⟨rfl, L2.out.trans l4⟩
    · obtain ⟨hb1, hb2, hb3⟩ := bound_most (ps := ps) (ws := xs) (day := day) (by rw [HV.out]; exact eq_false hv0)
      rw [HV.out] at hb3
      have HZ := Lib.hid (bound_zero hb1 hb2)
      have H6 := Lib.hid (bound_six hb1 hb2)
      have HMS := Lib.hid hb3
      have HSW := Lib.hid (wants_sumW hb2 (k := m) (by rw [HM.out]; exact Nat.le_refl _))
      clear hb1 hb2 hb3
      go_wp2_with fail
      refine (implUseBound_any _ _ _ _ _ _ _ _ 0 _ HR2.out HI2.out hmc).mono ?_; rintro e w3 ⟨rfl, l3⟩
      rw [HZ.out]
      have HR3 := Lib.hid (HR2.out.le l3)
      have HI3 := Lib.hid (HI2.out.le l3)
      have L3 := Lib.hid (L2.out.trans l3)
      clear l3
      go_wp2_with fail
      refine (implLotsAt_any _ _ _ _ 0 _ HR3.out).mono ?_; rintro e w4 ⟨rfl, l4⟩
      have HR4 := Lib.hid (HR3.out.le l4)
      have HI4 := Lib.hid (HI3.out.le l4)
      have L4 := Lib.hid (L3.out.trans l4)
      clear l4
      go_wp2_with fail
      refine (implUseBound_any _ _ _ _ _ _ _ _ 6 _ HR4.out HI4.out hmc).mono ?_; rintro e w5 ⟨rfl, l5⟩
      rw [H6.out, HM.out]
      have HR5 := Lib.hid (HR4.out.le l5)
      have HI5 := Lib.hid (HI4.out.le l5)
      have L5 := Lib.hid (L4.out.trans l5)
      clear l5
      go_wp2_with fail
      refine (lawSum_any _ _ _ _ _ HI5.out).mono ?_; rintro e w' ⟨rfl, rfl⟩
      rw [HSW.out]
      go_wp2_with fail
      refine (implUseMost_any _ _ _ _ _ _ _ _ _ HR5.out HI5.out).mono ?_; rintro e w6 ⟨rfl, l6⟩
      have hge : decide (useMostL ps xs ≤ V) = true := by rw [decide_eq_true_eq]; exact HMS.out
      go_wp2
      go_ret
      exact ⟨rfl, L5.out.trans l6⟩
end Go.Proofs.YteeklaplnhafoaaDoor
