/- Walk: FnTakeOk. -/
import Derived.Test.YteeklaplnhafoaaDoorWDrawT
import Derived.Test.YteeklaplnhafoaaDoorWTakeA
namespace Go.Proofs.YteeklaplnhafoaaDoor
open Go.RowKit

set_option maxRecDepth 20000 in
set_option maxHeartbeats 4000000 in
theorem law_FnTakeOk (w : World) (A : Option Addr) (n c : Nat) (h : RB w A n) (hc : n ≤ c) :
    Calls Tryd.prog 8 #[.slice A n c] w fun e w' => e = .returned (.bool true) ∧ Le w w' := by
  have hm := h.max
  by_cases hn : 1048576 < n
  · go_enter Tryd.func8, Tryd.ntmps8
    go_wp2
    go_ret
    exact ⟨rfl, Le.refl _⟩
  · have HD := Lib.hid (drawTakeOk_any A n c w h hc)
    clear h
    obtain ⟨i0, hi0, hz0, hz1, hz2⟩ := info_parts infoInt
    go_enter Tryd.func8, Tryd.ntmps8
    go_wp2_with fail
    refine HD.out.mono ?_; rintro e w1 ⟨gv, cap, k, ps, day, B, d, m, T, rfl, d1, ⟨hd1, hd2⟩, hm6, o1, l1⟩
    have hk6 := d1.small
    have hkc := d1.kcap
    obtain ⟨B2, dd, e, r1⟩ := own_RI o1 (by omega)
    injection e with e1 e2 e3
    subst e1
    subst e3
    clear e2
    have HR := Lib.hid d1.rp
    have HI := Lib.hid r1
    have O1 := Lib.hid o1
    have L1 := Lib.hid l1
    have HL := Lib.hid d1.len
    have HM := Lib.hid r1.len
    clear d1 l1 o1 r1
    obtain ⟨V, hV⟩ : ∃ V, takeOkL ps day T = V := ⟨_, rfl⟩
    have HV := Lib.hid hV
    clear hV
    go_wp2_with fail
    refine (implTakeOk_any _ _ _ _ _ _ _ day _ _ HR.out HI.out).mono ?_; rintro e w2 ⟨rfl, l2⟩
    rw [HV.out]
    have HR2 := Lib.hid (HR.out.le l2)
    have HI2 := Lib.hid (HI.out.le l2)
    have M2 := Lib.hid l2
    clear l2
    go_wp2_with fail
    refine (specTakeOk_any _ _ _ _ _ _ _ day _ _ HR2.out HI2.out).mono ?_; rintro e w' ⟨rfl, q3, rfl⟩
    rw [HV.out]
    obtain ⟨w3, hw3⟩ : ∃ w3, w2.drewN q3 = w3 := ⟨_, rfl⟩
    have M3 := Lib.hid (show Le w1 w3 by rw [← hw3]; exact M2.out.trans ((Le.refl w2).drewN _))
    rw [hw3]
    clear hw3
    have hbb : (V != V) = false := by simp
    cases V
    · go_wp2_with fail
      refine (alive_any w3).mono ?_; rintro e w4 ⟨rfl, l4⟩
      go_wp2
      go_ret
      exact ⟨rfl, L1.out.trans (M3.out.trans l4)⟩
    · have hts := take_sum HV.out
      have hrs := (row_sum HV.out).1
      rw [HM.out] at hrs
      rw [← hrs] at hts
      have hdec : decide (sumW (gi T) m ≤ lotsAtL ps day) = true := decide_eq_true hts
      have hZ : ∀ j, takeOkL ps day (T.set j 0) = true := fun j => take_zero HV.out j
      have HZ := Lib.hid hZ
      have HD2 := Lib.hid hdec
      clear hZ hts hrs hdec
      go_wp2
      go_loopw [7] (fun i wr => ∃ j : Nat, j ≤ m ∧ i = .int .i64 j ∧ Le w1 wr) (fun i _ => m - (intOf i).toNat)
      case atStart => exact ⟨0, Nat.zero_le _, rfl, M3.out⟩
      case round =>
        rename_i wr
        obtain ⟨j, hj, rfl, hle⟩ := hrel
        have H2 := Lib.hid hle
        clear hle
        by_cases hlt : j < m
        · obtain ⟨g1, d1, e, _, _⟩ := O1.out.form (by omega)
          injection e with e1 e2 e3
          subst e1
          subst e3
          clear e2
          go_wp2_with (at_builtin; refine wpList_append_own_g (by rfl) (some 39) rfl (.tmp 37) (.tmp 38) 24 rfl wr.heap.size 3 i0 _ 1 8 Tryd.underlying24 hi0 hz0 hz1 hz2 rfl (by decide) (.slice (some ⟨wr.heap.size, 0, none⟩) 0 0) 0 [] rfl (own_empty _ _ _) ⟨g1, 0, none⟩ m d (ints T) rfl (by rw [ints_length, HM.out]; omega) (fun j u hj => (own_Le O1.out (H2.out.trans ((Le.refl wr).alloc _))).cells (g := g1) rfl j u hj) (ints_one _) (by unfold maxLen; omega) (by omega) (by simp) ?_)
          intro va wa owa ga _
          have la : Le wr wa := ((Le.refl wr).alloc _).grown ga (fun q hq => by simp [Value.ownBlock] at hq; omega)
          rw [Nat.zero_add, List.nil_append] at owa
          obtain ⟨g2, d2, rfl, _, _⟩ := owa.form (by omega)
          have hg2 := owa.lt g2 rfl
          have c1 : wa.cell? ⟨g2, j, none⟩ = some (.int .i64 (gi T j)) := by rw [owa.cellAt _ (by omega)]; exact ints_getElem? (by rw [HM.out]; exact hlt)
          have z1 : wa.frozen? ⟨g2, j, none⟩ = false := owa.frozenAt _
          obtain ⟨owb, gb⟩ := owa.stored j (.int .i64 0)
          rw [ints_setT] at owb
          obtain ⟨wb, hwb⟩ : ∃ wb, wa.setCell ⟨g2, j, none⟩ (.int .i64 0) = wb := ⟨_, rfl⟩
          rw [hwb] at owb gb
          have lb : Le wr wb := la.grown gb (fun q hq => by injection hq with hq; omega)
          obtain ⟨B', d', e', hri⟩ := own_RI owb (by omega)
          injection e' with e1 e2 e3
          subst e1
          have HRI := Lib.hid hri
          have LB := Lib.hid (H2.out.trans lb)
          have HRB := Lib.hid (HR.out.le (H2.out.trans lb))
          clear owa ga la owb gb lb hri hg2 e3 e2
          go_wp2_with fail
          refine (implTakeOk_any _ _ _ _ _ _ _ day _ _ HRB.out HRI.out).mono ?_; rintro e w5 ⟨rfl, l5⟩
          rw [HZ.out]
          have L5 := Lib.hid (LB.out.trans l5)
          clear c1 z1 hwb l5
          go_wp2
          go_roundw
          case rel => exact ⟨j + 1, by omega, by go_num, L5.out⟩
          case measure => simp [intOf]; omega
        · obtain rfl : j = m := by omega
          go_wp2_with fail
          refine (lawSum_any _ _ _ _ _ (HI.out.le H2.out)).mono ?_; rintro e w' ⟨rfl, rfl⟩
          go_wp2_with fail
          refine (implLotsAt_any _ _ _ _ day _ (HR.out.le H2.out)).mono ?_; rintro e w6 ⟨rfl, l6⟩
          have hdec := HD2.out
          go_wp2
          go_ret
          exact ⟨rfl, L1.out.trans (H2.out.trans l6)⟩
end Go.Proofs.YteeklaplnhafoaaDoor
