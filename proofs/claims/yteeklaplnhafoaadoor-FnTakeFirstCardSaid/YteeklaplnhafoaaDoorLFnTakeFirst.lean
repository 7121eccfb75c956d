/- Walk: FnTakeFirst. -/
import Derived.Test.YteeklaplnhafoaaDoorWSame
import Derived.Test.YteeklaplnhafoaaDoorWTakeG
import Derived.Test.YteeklaplnhafoaaDoorWTakeA
namespace Go.Proofs.YteeklaplnhafoaaDoor
open Go.RowKit

theorem tf_nil {ps : List (Int × Int)} {day want : Int} (h : (lotsL ps && inB 0 50 want) = false) : takeFirstL ps day want = [] := by
  unfold takeFirstL; rw [h]; rfl
theorem tf_len {ps : List (Int × Int)} {day want : Int} (h : (lotsL ps && inB 0 50 want) = true) : (takeFirstL ps day want).length = ps.length := by
  unfold takeFirstL; rw [h, if_pos rfl]; exact sT_len _ _ _ _ _

set_option maxRecDepth 20000 in
set_option maxHeartbeats 4000000 in
theorem law_FnTakeFirst (w : World) (A : Option Addr) (n c : Nat) (h : RB w A n) (hc : n ≤ c) :
    Calls Tryd.prog 11 #[.slice A n c] w fun e w' => e = .returned (.bool true) ∧ Le w w' := by
  have hm := h.max
  by_cases hn : 1048576 < n
  · go_enter Tryd.func11, Tryd.ntmps11
    go_wp2
    go_ret
    exact ⟨rfl, Le.refl _⟩
  · have HD := Lib.hid (drawTakeFirst_any A n c w h hc)
    clear h
    go_enter Tryd.func11, Tryd.ntmps11
    go_wp2_with fail
    refine HD.out.mono ?_; rintro e w1 ⟨gv, cap, k, ps, day, want, rfl, d1, ⟨hd1, hd2⟩, ⟨ha1, ha2⟩, l1⟩
    have hk6 := d1.small
    have hkc := d1.kcap
    have HR := Lib.hid d1.rp
    have L1 := Lib.hid l1
    have HL := Lib.hid d1.len
    clear d1 l1
    obtain ⟨T, hT⟩ : ∃ T, takeFirstL ps day want = T := ⟨_, rfl⟩
    obtain ⟨m, hm2⟩ : ∃ m, T.length = m := ⟨_, rfl⟩
    have hm5 : m ≤ 5 := by rw [← hm2, ← hT]; exact takeFirstL_small _ _ _
    have HT := Lib.hid hT
    have HM := Lib.hid hm2
    clear hT hm2
    go_wp2_with fail
    refine (implTakeFirst_any _ _ _ _ day want _ HR.out).mono ?_; rintro e w2 ⟨v, rfl, o2, l2⟩
    rw [HT.out, HM.out] at o2
    obtain ⟨B, d, rfl, r2⟩ := own_RI o2 (by omega)
    have HR2 := Lib.hid (HR.out.le l2)
    have HT2 := Lib.hid r2
    have L2 := Lib.hid (L1.out.trans l2)
    clear o2 r2 l2
    go_wp2_with fail
    refine (specTakeFirst_any _ _ _ _ day want _ HR2.out).mono ?_; rintro e w3 ⟨v, rfl, o3, l3⟩
    rw [HT.out, HM.out] at o3
    obtain ⟨B', d', rfl, r3⟩ := own_RI o3 (by omega)
    have HR3 := Lib.hid (HR2.out.le l3)
    have HT3 := Lib.hid (HT2.out.le l3)
    have L3 := Lib.hid (L2.out.trans l3)
    have HS := Lib.hid (sameInts_any _ _ _ _ d d' _ _ _ (HT2.out.le l3) r3)
    clear o3 r3 l3
    go_wp2_with fail
    refine HS.out.mono ?_; rintro e w' ⟨rfl, q3, rfl⟩
    rw [show eqI T T = true by simp [eqI]]
    obtain ⟨w4, hw4⟩ : ∃ w4, w3.drewN q3 = w4 := ⟨_, rfl⟩
    have M4 : Le w3 w4 := by rw [← hw4]; exact (Le.refl w3).drewN _
    have HR4 := Lib.hid (HR3.out.le M4)
    have HT4 := Lib.hid (HT3.out.le M4)
    have L4 := Lib.hid (L3.out.trans M4)
    rw [hw4]
    clear hw4 M4
    go_wp2_with fail
    refine (specLotsValid_any _ _ _ _ _ HR4.out).mono ?_; rintro e w' ⟨rfl, rfl⟩
    obtain ⟨V, hV⟩ : ∃ V, lotsL ps = V := ⟨_, rfl⟩
    rw [hV]
    by_cases hbad : (V && inB 0 50 want) = false
    · have h0 := HT.out
      rw [tf_nil (by rw [hV]; exact hbad)] at h0
      obtain rfl : m = 0 := by rw [← HM.out, ← h0]; rfl
      clear h0
      have HV := Lib.hid hV
      clear hV
      cases V
      · go_wp2_with fail
        refine (alive_any w4).mono ?_; rintro e w5 ⟨rfl, l5⟩
        go_wp2
        go_ret
        exact ⟨rfl, L4.out.trans l5⟩
      · have hw : ¬ (0 ≤ want ∧ want ≤ 50) := by
          intro hh
          rw [Bool.true_and] at hbad
          unfold inB at hbad
          rw [decide_eq_true hh.1, decide_eq_true hh.2] at hbad
          cases hbad
        clear hbad
        by_cases hw0 : want < 0
        · have hd0 : decide (want < 0) = true := decide_eq_true hw0
          go_wp2_with fail
          refine (alive_any w4).mono ?_; rintro e w5 ⟨rfl, l5⟩
          go_wp2
          go_ret
          exact ⟨rfl, L4.out.trans l5⟩
        · have hd0 : decide (want < 0) = false := decide_eq_false hw0
          have hd1' : decide (50 < want) = true := decide_eq_true (by omega)
          go_wp2_with fail
          refine (alive_any w4).mono ?_; rintro e w5 ⟨rfl, l5⟩
          go_wp2
          go_ret
          exact ⟨rfl, L4.out.trans l5⟩
    · have hgood : (V && inB 0 50 want) = true := by simpa using hbad
      have hlen := tf_len (ps := ps) (day := day) (by rw [hV]; exact hgood)
      rw [HT.out, HM.out, HL.out] at hlen
      subst hlen
      rw [Bool.and_eq_true] at hgood
      obtain ⟨rfl, hin⟩ := hgood
      have hw : 0 ≤ want ∧ want ≤ 50 := by simpa [inB] using hin
      obtain ⟨hw0, hw5⟩ := hw
      clear hbad hin
      have HFF := Lib.hid (fun (a b : Nat) (ha : a < m) (hb : b < m) => first_first hV (day := day) (want := want) hw0 hw5 (a := a) (b := b) (by rw [HL.out]; exact ha) (by rw [HL.out]; exact hb))
      rw [HT.out] at HFF
      have hOK := first_ok hV (day := day) hw0 hw5
      rw [HT.out] at hOK
      have hALL := first_all hV (day := day) hw0 hw5
      rw [HT.out, HL.out] at hALL
      have hRS := (row_sum hOK).1
      rw [HL.out, HM.out] at hRS
      rw [← hRS] at hALL
      have HOK := Lib.hid hOK
      have HALL := Lib.hid hALL
      have HV := Lib.hid hV
      clear hV hOK hALL hRS
      go_wp2
      go_loopw [7] (fun i wr => ∃ a : Nat, a ≤ m ∧ i = .int .i64 a ∧ Le w4 wr) (fun i _ => m - (intOf i).toNat)
      case atStart => exact ⟨0, Nat.zero_le _, rfl, Le.refl _⟩
      case round =>
        rename_i wr
        obtain ⟨a, ha, rfl, hle⟩ := hrel
        have HLe := Lib.hid hle
        clear hle
        by_cases hlt : a < m
        · go_wp2
          go_loopw [8] (fun i wr => ∃ b : Nat, b ≤ m ∧ i = .int .i64 b ∧ Le w4 wr) (fun i _ => m - (intOf i).toNat)
          case atStart => exact ⟨0, Nat.zero_le _, rfl, HLe.out⟩
          case round =>
            rename_i wi
            obtain ⟨b, hb, rfl, hle2⟩ := hrel
            by_cases hlt2 : b < m
            · have hff := HFF.out a b hlt hlt2
              obtain ⟨ad, rfl, c1⟩ := (HT4.out.le hle2).at_ a hlt
              obtain ⟨ad', e1, c2⟩ := (HT4.out.le hle2).at_ b hlt2
              injection e1 with e1
              subst e1
              obtain ⟨ad2, e2, p1, p2⟩ := (HR4.out.le hle2).at_ a hlt
              injection e2 with e2
              subst e2
              obtain ⟨ad3, e3, p3, p4⟩ := (HR4.out.le hle2).at_ b hlt2
              injection e3 with e3
              subst e3
              rw [addr0] at p1 p2 p3 p4
              obtain ⟨ta, hta⟩ : ∃ ta, gi T a = ta := ⟨_, rfl⟩
              obtain ⟨tb, htb⟩ : ∃ tb, gi T b = tb := ⟨_, rfl⟩
              obtain ⟨al, hal⟩ : ∃ al, (gp ps a).2 = al := ⟨_, rfl⟩
              obtain ⟨bl, hbl⟩ : ∃ bl, (gp ps b).2 = bl := ⟨_, rfl⟩
              obtain ⟨bm, hbm⟩ : ∃ bm, (gp ps b).1 = bm := ⟨_, rfl⟩
              rw [hta, htb, hal, hbl, hbm] at hff
              rw [hta] at c1
              rw [htb] at c2
              rw [hal] at p2
              rw [hbl] at p4
              rw [hbm] at p3
              have LI := Lib.hid hle2
              clear hle2 hta htb hal hbl hbm p1
              by_cases k1 : 0 < ta
              · have d1 : decide (0 < ta) = true := decide_eq_true k1
                by_cases k2 : bl < al
                · have d2 : decide (bl < al) = true := decide_eq_true k2
                  by_cases k3 : day ≤ bl
                  · have d3 : decide (day ≤ bl) = true := decide_eq_true k3
                    obtain rfl : tb = bm := hff k1 k2 k3
                    have d4 : decide (tb < tb) = false := decide_eq_false (by omega)
                    clear hff k1 k2 k3
                    go_wp2
                    go_quiet (fail)
                    go_wp2
                    go_roundw
                    case rel => exact ⟨b + 1, by omega, by go_num, LI.out.drewN _⟩
                    case measure => simp [intOf]; omega
                  · have d3 : decide (day ≤ bl) = false := decide_eq_false k3
                    clear hff k1 k2 k3
                    go_wp2
                    go_quiet (fail)
                    go_wp2
                    go_roundw
                    case rel => exact ⟨b + 1, by omega, by go_num, LI.out.drewN _⟩
                    case measure => simp [intOf]; omega
                · have d2 : decide (bl < al) = false := decide_eq_false k2
                  clear hff k1 k2
                  go_wp2
                  go_quiet (fail)
                  go_wp2
                  go_roundw
                  case rel => exact ⟨b + 1, by omega, by go_num, LI.out.drewN _⟩
                  case measure => simp [intOf]; omega
              · have d1 : decide (0 < ta) = false := decide_eq_false k1
                clear hff k1
                go_wp2
                go_quiet (fail)
                go_wp2
                go_roundw
                case rel => exact ⟨b + 1, by omega, by go_num, LI.out.drewN _⟩
                case measure => simp [intOf]; omega
            · obtain rfl : b = m := by omega
              have LI := Lib.hid hle2
              clear hle2
              go_wp2
              go_roundw
              case rel => exact ⟨a + 1, by omega, by go_num, LI.out⟩
              case measure => simp [intOf]; omega
        · obtain rfl : a = m := by omega
          go_wp2_with fail
          refine (implTakeOk_any _ _ _ _ _ _ _ day _ _ (HR4.out.le HLe.out) (HT4.out.le HLe.out)).mono ?_; rintro e w5 ⟨rfl, l5⟩
          rw [HOK.out]
          have L5 := Lib.hid (L4.out.trans (HLe.out.trans l5))
          have HR5 := Lib.hid (HR4.out.le (HLe.out.trans l5))
          have HT5 := Lib.hid (HT4.out.le (HLe.out.trans l5))
          clear l5
          go_wp2_with fail
          refine (lawSum_any _ _ _ _ _ HT5.out).mono ?_; rintro e w' ⟨rfl, rfl⟩
          rw [HALL.out]
          go_wp2_with fail
          refine (implLotsAt_any _ _ _ _ day _ HR5.out).mono ?_; rintro e w6 ⟨rfl, l6⟩
          obtain ⟨X, hX⟩ : ∃ X, lotsAtL ps day = X := ⟨_, rfl⟩
          rw [hX]
          have hmin : (if X < want then X else want) = min want X := by split <;> omega
          go_wp2
          go_ret
          exact ⟨rfl, L5.out.trans l6⟩
end Go.Proofs.YteeklaplnhafoaaDoor
