/- Walk: FnLotsAt. -/
import Derived.Test.YteeklaplnhafoaaDoorWLaw
namespace Go.Proofs.YteeklaplnhafoaaDoor
open Go.RowKit

theorem lotsAt_bad {ps : List (Int × Int)} {day : Int} (h : lotsAtL ps day < 0) : lotsL ps = false ∧ lotsAtL ps day = -1 := by
  obtain ⟨V, hV⟩ : ∃ V, lotsL ps = V := ⟨_, rfl⟩
  cases V
  · exact ⟨hV, by unfold lotsAtL; rw [hV]; rfl⟩
  · have := (lotsAt_less hV (a := day) (b := max day 7) (by omega))
    exfalso
    have e : 0 ≤ lotsAtL ps day := by
      unfold lotsAtL; rw [if_pos hV]
      obtain ⟨_, hf⟩ := lots_facts rfl hV
      exact (sumTo_bound (fun k hk => lotAt_bound day hf k hk)).1
    omega
theorem lotsAt_good {ps : List (Int × Int)} {day : Int} (h : ¬ lotsAtL ps day < 0) : lotsL ps = true := by
  obtain ⟨V, hV⟩ : ∃ V, lotsL ps = V := ⟨_, rfl⟩
  cases V
  · exfalso; apply h; unfold lotsAtL; rw [hV, if_neg Bool.false_ne_true]; omega
  · exact hV

set_option maxRecDepth 20000 in
set_option maxHeartbeats 4000000 in
theorem law_FnLotsAt (w : World) (A : Option Addr) (n c : Nat) (h : RB w A n) (hc : n ≤ c) :
    Calls Tryd.prog 7 #[.slice A n c] w fun e w' => e = .returned (.bool true) ∧ Le w w' := by
  have hm := h.max
  by_cases hn : 1048576 < n
  · go_enter Tryd.func7, Tryd.ntmps7
    go_wp2
    go_ret
    exact ⟨rfl, Le.refl _⟩
  · have HD := Lib.hid (drawLotsAt_any A n c w h hc)
    clear h
    go_enter Tryd.func7, Tryd.ntmps7
    go_wp2_with fail
    refine HD.out.mono ?_; rintro e w1 ⟨gv, cap, k, ps, day, rfl, d1, ⟨hd1, hd2⟩, l1⟩
    have hk6 := d1.small
    have hkc := d1.kcap
    have hr := d1.rp
    have hl := d1.len
    have HR := Lib.hid hr
    have L1 := Lib.hid l1
    have HL := Lib.hid hl
    clear d1 hr l1 hl
    go_wp2_with fail
    refine (implLotsAt_any _ _ _ _ day _ HR.out).mono ?_; rintro e w2 ⟨rfl, l2⟩
    have HR2 := Lib.hid (HR.out.le l2)
    have L2 := Lib.hid (L1.out.trans l2)
    clear l2
    go_wp2_with fail
    refine (specLotsAt_any _ _ _ _ day _ HR2.out).mono ?_; rintro e w' ⟨rfl, rfl⟩
    obtain ⟨V, hV⟩ : ∃ V, lotsAtL ps day = V := ⟨_, rfl⟩
    rw [hV]
    have HV := Lib.hid hV
    clear hV
    by_cases hv0 : V < 0
    · obtain ⟨hb, hv⟩ := lotsAt_bad (ps := ps) (day := day) (by rw [HV.out]; exact hv0)
      rw [HV.out] at hv
      subst hv
      have HB := Lib.hid hb
      clear hb
      go_wp2_with fail
      refine (implLotsValid_any _ _ _ _ _ HR2.out).mono ?_; rintro e w3 ⟨rfl, l3⟩
      rw [HB.out]
      go_wp2_with fail
      refine (alive_any w3).mono ?_; rintro e w4 ⟨rfl, l4⟩
      go_wp2
      go_ret
      exact ⟨rfl, L2.out.trans (l3.trans l4)⟩
    · have hb := lotsAt_good (ps := ps) (day := day) (by rw [HV.out]; exact hv0)
      have h0 : 0 ≤ V := by omega
      have hS : ∀ j, j ≤ k → 0 ≤ sumTo (fun k => (gp ps k).1) j ∧ sumTo (fun k => (gp ps k).1) j ≤ 45 := fun j hj => lots_sum hb (by rw [HL.out]; exact hj)
      have hA := lotsAt_all hb
      rw [HL.out] at hA
      have hless := lotsAt_less hb (show day ≤ day + 1 by omega)
      rw [HV.out] at hless
      have HS := Lib.hid hS
      have HA := Lib.hid hA
      have HLS := Lib.hid hless
      clear hS hA hless hb
      go_wp2
      go_loopw [6, 7] (fun v i wr => ∃ j : Nat, j ≤ k ∧ i = .int .i64 j ∧ v = .int .i64 (sumTo (fun k => (gp ps k).1) j) ∧ wr = w2) (fun _ i _ => k - (intOf i).toNat)
      case atStart => exact ⟨0, Nat.zero_le _, rfl, rfl, rfl⟩
      case round =>
        obtain ⟨j, hj, rfl, rfl, rfl⟩ := hrel
        obtain ⟨b1, b2⟩ := HS.out j hj
        by_cases hlt : j < k
        · obtain ⟨ad, e, c1, c2⟩ := HR2.out.at_ j hlt
          injection e with e
          subst e
          rw [addr0] at c1 c2
          obtain ⟨b3, b4⟩ := HS.out (j + 1) hlt
          have hst : sumTo (fun k => (gp ps k).1) (j + 1) = sumTo (fun k => (gp ps k).1) j + (gp ps j).1 := rfl
          rw [hst] at b3 b4
          have HST := Lib.hid hst
          clear hst
          go_wp2
          go_roundw
          case rel => exact ⟨j + 1, by omega, by go_num, by rw [HST.out], trivial⟩
          case measure => simp [intOf]; omega
        · obtain rfl : j = k := by omega
          go_wp2_with fail
          refine (implLotsAt_any _ _ _ _ (day + 1) _ HR2.out).mono ?_; rintro e w3 ⟨rfl, l3⟩
          have hle : decide (lotsAtL ps (day + 1) ≤ V) = true := by rw [decide_eq_true_eq]; exact HLS.out
          have HR3 := Lib.hid (HR2.out.le l3)
          have L3 := Lib.hid (L2.out.trans l3)
          clear l3
          go_wp2_with fail
          refine (implLotsAt_any _ _ _ _ 0 _ HR3.out).mono ?_; rintro e w4 ⟨rfl, l4⟩
          rw [HA.out]
          go_wp2
          go_ret
          exact ⟨rfl, L3.out.trans l4⟩
end Go.Proofs.YteeklaplnhafoaaDoor
