/- Walk: MakeRun of the reference. -/
import Derived.Test.YtoahjfofnaafaaaDoorWMakeI
namespace Go.Proofs.YtoahjfofnaafaaaDoor
open Go.RowKit

set_option maxRecDepth 20000 in
set_option maxHeartbeats 4000000 in
theorem specMake_any (A D E : Option Addr) (C : Addr) (n r s t c e f g : Nat) (ts : List It) (stock rs ls : List Int) (w : World) (h : RM w A n ts) (h2 : RI w (some C) r stock) (h3 : RI w D s rs) (_h4 : RI w E t ls) :
    Calls Tryd.prog 33 #[.slice A n c, .slice (some C) r e, .agg #[.slice D s f, .slice E t g]] w fun o w' => ∃ v, o = .returned (.tuple #[v, .bool (makeOkL ts stock rs)]) ∧ w'.ownsRow w.heap.size 3 1 v (makeL ts stock rs).length (ints (makeL ts stock rs)) ∧ Le w w' := by
  have l0 := (Le.refl w).alloc (.cells #[.slice D s f, .slice E t g] 42)
  have k0 := Blk.new w 42 #[.slice D s f, .slice E t g]
  generalize hwz : w.alloc (.cells #[.slice D s f, .slice E t g] 42) = wz at *
  have hv := specItemsValid_any A n c ts wz (h.le l0)
  have ha := fun w' (l : Le wz w') => l1Amounts_any A (some C) n r c e stock w' (h2.le (l0.trans l))
  have hl := h.len
  have hl2 := h2.len
  have hl3 := h3.len
  have hm := h.max
  have hms := h3.max
  have e0 := makeOkL_eq ts stock rs hl
  have hcell : ∀ w', Le wz w' → w'.cell? ⟨w.heap.size, 0, none⟩ = some (.slice D s f) := fun w' l => by simpa using (k0.le l).cell 0
  have hbad : makeOkL ts stock rs = false → makeL ts stock rs = [] := fun hb => by unfold makeL; rw [hb]; rfl
  have HA := Lib.hid ha
  have HCL := Lib.hid hcell
  have L0 := Lib.hid l0
  have H2 := Lib.hid h2
  have HC := Lib.hid h.at_
  have HC3 := Lib.hid h3.at_
  have hwzs : w.heap.size < wz.heap.size := k0.lt
  clear ha hcell k0 l0 h h2 h3
  cases hb : itemsL ts
  · have hno : makeOkL ts stock rs = false := by rw [e0, hb]; rfl
    rw [hb] at hv
    rw [hbad hno, hno]
    have HV := Lib.hid hv
    clear hv hb e0 hbad hno
    go_enter Tryd.func33, Tryd.ntmps33
    go_wp2_with (go_at_call 70; refine HV.out.mono ?_; rintro o w1 ⟨rfl, l1⟩)
    go_ret2
    exact ⟨_, rfl, own_mono (own_empty _ _ _) (L0.out.trans l1).size, (L0.out.trans l1).alloc _⟩
  · rw [hb] at hv
    have HV := Lib.hid hv
    clear hv
    cases hb2 : amountsOkL stock n 50
    · have hno : makeOkL ts stock rs = false := by rw [e0, hb, hb2]; rfl
      simp only [hb2] at HA
      rw [hbad hno, hno]
      clear hb hb2 e0 hbad hno
      go_enter Tryd.func33, Tryd.ntmps33
      go_wp2_with fail
      refine HV.out.mono ?_; rintro o w1 ⟨rfl, l1⟩
      go_wp2_with (go_at_call 71; refine (HA.out _ l1).mono ?_; rintro e w' ⟨rfl, rfl⟩)
      go_ret2
      exact ⟨_, rfl, own_mono (own_empty _ _ _) (L0.out.trans l1).size, (L0.out.trans l1).alloc _⟩
    · simp only [hb2] at HA
      by_cases hsn : s = n
      · subst hsn
        obtain ⟨hn6, hok⟩ := items_facts hl hb
        obtain ⟨hsl, hsf⟩ := amounts_facts hb2
        obtain rfl : s = r := by omega
        have hbe1 : ((s : Int) != (s : Int)) = false := by simp
        obtain ⟨V, hV⟩ : ∃ V, V = makeOkL ts stock rs := ⟨_, rfl⟩
        have hvv : V = (amountsOkL rs s 9999999 && (List.range s).all fun i => (List.range (gm ts i).2.1.length).all fun j => makeAt ts stock rs i j) := by rw [hV, e0, hb, hb2]; rfl
        have hgood : V = true → makeL ts stock rs = nowL ts stock rs s s 0 := fun e => by
          unfold makeL; rw [← hV, if_pos e, hl, nowL_end]
        rw [← hV] at hbad ⊢
        have HVV := Lib.hid hvv
        have HG := Lib.hid hgood
        have HBAD := Lib.hid hbad
        have HOK := Lib.hid (show ItOk ts s from hok)
        have HS := Lib.hid hsf
        have hst0 := nowL_start (ts := ts) rs hsl
        have HST0 := Lib.hid hst0
        clear hV hvv hgood hbad hok hsf hb hb2 e0 hst0
        generalize makeL ts stock rs = M at *
        obtain ⟨i0, hi0, hz0, hz1, hz2⟩ := info_parts infoInt
        go_enter Tryd.func33, Tryd.ntmps33
        go_wp2_with fail
        refine HV.out.mono ?_; rintro o w1 ⟨rfl, l1⟩
        have a0 := HCL.out _ l1
        have L1 := Lib.hid l1
        clear l1
        go_wp2_with fail
        refine (HA.out _ L1.out).mono ?_; rintro o w' ⟨rfl, rfl⟩
        go_wp2_with (at_builtin; refine wpList_append_own_at _ rfl (.tmp 30) (.tmp 31) _ rfl w1.heap.size 3 i0 (.int .i64 0) 1 8 Tryd.underlying40 hi0 hz0 hz1 hz2 rfl (by decide) _ 0 [] rfl ?hown C s e (ints stock) rfl ?c0 ?c1 ?c2 ?c3 ?c4 ?c5 ?_)
        case hown => exact own_empty _ _ _
        case c0 => rw [ints_length, hsl]; omega
        case c1 =>
          intro j u hj
          have hjn : j < s := by
            have := (List.getElem?_eq_some_iff.1 hj).1
            rw [ints_length, hsl] at this; exact this
          obtain ⟨ad', e, hc⟩ := H2.out.at_ j hjn
          injection e with e
          subst e
          rw [ints_getElem? (by omega)] at hj
          injection hj with hj
          subst hj
          exact ((L0.out.trans L1.out).alloc _).cell hc
        case c2 =>
          intro u hu
          unfold ints at hu
          rw [List.mem_map] at hu
          obtain ⟨x, _, rfl⟩ := hu
          rfl
        case c3 => unfold maxLen; omega
        case c4 => omega
        case c5 => simp
        intro v w2 ho hgrow _ _
        have hle2 : Le w1 w2 := ((Le.refl w1).alloc _).grown hgrow (fun g hg => by simp [Value.ownBlock] at hg; omega)
        rw [← HST0.out] at ho
        have HO0 := Lib.hid ho
        have L2 := Lib.hid hle2
        clear a0 ho hgrow hle2
        have hw1s := L1.out.size
        go_wp2
        go_loopw [9] (fun i wr => ∃ k : Nat, k ≤ s ∧ i = .int .i64 k ∧ Le w1 wr ∧ wr.ownsRow w1.heap.size 3 1 v s (ints (nowL ts stock rs s k 0)) ∧ AllTo (fun j => inB 0 9999999 (gi rs j)) k ∧ AllTo (fun i => (List.range (gm ts i).2.1.length).all fun j => makeAt ts stock rs i j) k) (fun i _ => s - (intOf i).toNat)
        case atStart => exact ⟨0, Nat.zero_le _, rfl, L2.out, HO0.out, AllTo.zero _, AllTo.zero _⟩
        case round =>
          obtain ⟨k, hk, rfl, hle, hown, hin, hall⟩ := hrel
          by_cases hlt : k < s
          · obtain ⟨wo, hwo⟩ : ∃ wo, wo = wr := ⟨_, rfl⟩
            subst hwo
            obtain ⟨ad, B1, m1, d1, rfl, hc1, hc2, hc3, hr⟩ := HC.out k hlt
            obtain ⟨ad3, rfl, hc6⟩ := HC3.out k hlt
            have lw := (L0.out.trans L1.out).trans hle
            have c6 := lw.cell hc6
            have c0 := HCL.out _ (L1.out.trans hle)
            cases hbk : inB 0 9999999 (gi rs k)
            · have hno : V = false := by
                rw [HVV.out, amountsOkL_bad (by rw [hl3]; exact hlt) (by have := inB_f.1 hbk; omega), Bool.false_and]
              have hM := HBAD.out hno
              subst hno
              subst hM
              clear hc1 hc2 hc3 hc6 hr
              go_wp2_with (go_at_call 62; refine (l1In_any _ _ _ _).mono ?_; rintro e w' ⟨rfl, rfl⟩)
              go_ret2
              exact ⟨_, rfl, own_mono (own_empty _ _ _) lw.size, lw.alloc _⟩
            · obtain ⟨g1, cap, rfl, hg1, hg2, hcap, _, _⟩ := own_open hown (by omega)
              have hlen := hr.len
              have hmx := hr.max
              have HR := Lib.hid (show ∀ q, q < k + 1 → 0 ≤ gi rs q ∧ gi rs q ≤ 9999999 from fun q hq => inB_t.1 ((hin.succ hbk) q hq))
              have HRW := Lib.hid (fun w' (l : Le w w') j (hj : j < m1) => (hr.le l).at_ j hj)
              have HC6 := Lib.hid (fun w' (l : Le w w') => l.cell hc6)
              have HCY := Lib.hid (fun w' (l : Le w w') => l.cell hc1)
              have HCP := Lib.hid (fun w' (l : Le w w') => l.cell hc2)
              have hi1 : (0 : Int) ≤ (k : Int) := by omega
              have hi2 : (k : Int) < (s : Int) := by omega
              have hC : decide ((k : Int) < (s : Int)) = true := by simp; omega
              have hC2 : decide (k < s) = true := by simp; omega
              have HB0 := Lib.hid hown
              have HLB := Lib.hid hle
              have HALL := Lib.hid hall
              have HIN := Lib.hid (hin.succ hbk)
              clear hc1 hc2 hc3 hc6 hr hown hle hall hin
              go_wp2_with (go_at_call 62; refine (l1In_any _ _ _ _).mono ?_; rintro e w' ⟨rfl, rfl⟩)
              clear c6 c0
              go_loopw [10] (fun i wr => ∃ j : Nat, j ≤ m1 ∧ i = .int .i64 j ∧ Le w1 wr ∧ wr.ownsRow w1.heap.size 3 1 (.slice (some ⟨g1, 0, none⟩) s cap) s (ints (nowL ts stock rs s k j)) ∧ AllTo (fun j => makeAt ts stock rs k j) j) (fun i _ => m1 - (intOf i).toNat)
              case atStart => exact ⟨0, Nat.zero_le _, rfl, HLB.out, HB0.out, AllTo.zero _⟩
              case round =>
                obtain ⟨j, hj, rfl, hle, hown, hat⟩ := hrel
                have lw2 := (L0.out.trans L1.out).trans hle
                have cp := HCP.out _ lw2
                by_cases hjm : j < m1
                · obtain ⟨ad1', rfl, hp1, hp2⟩ := HRW.out _ lw2 j hjm
                  obtain ⟨r1, r2, r3, r4⟩ := HOK.out.part hlt (j := j) (by rw [hlen]; exact hjm)
                  have hcb := nowM_b HOK.out (by omega) HS.out (show k + 1 ≤ s by omega) HR.out (show k < k + 1 by omega) (j := j) (q := ofN (gm ts k).2.1 j) (by omega) (by omega)
                  have hkr := HR.out k (by omega)
                  have hst := nowL_set (ts := ts) stock rs s k j
                  have hmk : makeAt ts stock rs k j = decide (0 ≤ nowM ts stock rs k j (ofN (gm ts k).2.1 j) - gi rs k * (gp (gm ts k).2.1 j).2) := by
                    unfold makeAt nowM
                    rw [useP_succ, if_pos rfl, decide_eq_decide]; omega
                  obtain ⟨g', cap', hv', _, hg2', _, hfz, hcl⟩ := own_open hown (by omega)
                  injection hv' with e1 e2 e3
                  injection e1 with e1
                  injection e1 with e1
                  subst e1
                  clear e2 e3
                  have d1 := hcl (ofN (gm ts k).2.1 j) (by omega)
                  unfold nowL at d1
                  rw [gi_range s _ (by omega)] at d1
                  have c6 := HC6.out _ lw2
                  have c0 := HCL.out _ (L1.out.trans hle)
                  rw [r1] at hp1
                  obtain ⟨F, hF⟩ : ∃ F, F = nowM ts stock rs k j (ofN (gm ts k).2.1 j) := ⟨_, rfl⟩
                  rw [← hF] at d1 hcb hst hmk
                  obtain ⟨mn, hmn⟩ : ∃ mn, mn = (gp (gm ts k).2.1 j).2 := ⟨_, rfl⟩
                  rw [← hmn] at hp2 hst r3 r4 hmk
                  obtain ⟨o, hoo⟩ : ∃ o, o = ofN (gm ts k).2.1 j := ⟨_, rfl⟩
                  rw [← hoo] at d1 hst hp1 r2
                  obtain ⟨P, hP⟩ : ∃ P, P = gi rs k * mn := ⟨_, rfl⟩
                  have hP0 : 0 ≤ P := by rw [hP]; exact Int.mul_nonneg hkr.1 (by omega)
                  have hP1 : P ≤ 9999999 * 6 := by rw [hP]; exact Int.mul_le_mul hkr.2 r4 (by omega) (by omega)
                  rw [← hP] at hst hmk
                  have hv1 : IntKind.i64.wrap (gi rs k * mn) = P := by rw [← hP]; exact IntWalk.i64_in _ (by omega)
                  have hv2 : IntKind.i64.wrap (F - P) = F - P := IntWalk.i64_in _ (by omega)
                  have hj1 : (0 : Int) ≤ (o : Int) := by omega
                  have hj2 : (o : Int) < (s : Int) := by omega
                  have l1 := (Le.refl wr).alloc (.cells #[.int .i64 (o : Int), .int .i64 mn] 80)
                  have k1 := Blk.new wr 80 #[.int .i64 (o : Int), .int .i64 mn]
                  have hz := hfz o
                  have ho2 := own_Le hown l1
                  obtain ⟨_, _, hv2', _, _, _, hfz2, _⟩ := own_open ho2 (by omega)
                  injection hv2' with f1 f2 f3
                  injection f1 with f1
                  injection f1 with f1
                  subst f1
                  clear f2 f3
                  have z2 := hfz2 o
                  generalize hwk : wr.alloc (.cells #[.int .i64 (o : Int), .int .i64 mn] 80) = wk at *
                  have b0' := k1.cell 0
                  have b1 := k1.cell 1
                  simp at b0' b1
                  have d1' := l1.cell d1
                  have c6' := l1.cell c6
                  have c0' := l1.cell c0
                  have h5 := own_setI ho2 (o := o) (F - P)
                  have k5 := k1.far (p := ⟨g1, o, none⟩) (show wr.heap.size ≠ g1 by omega) (.int .i64 (F - P))
                  have l5 := (hle.trans l1).setCell (p := ⟨g1, o, none⟩) hg1 (.int .i64 (F - P))
                  rw [hst] at h5
                  generalize hw5 : wk.setCell ⟨g1, o, none⟩ (.int .i64 (F - P)) = w5 at *
                  obtain ⟨_, _, hv5, _, _, _, _, hcl5⟩ := own_open h5 (by omega)
                  injection hv5 with f1 f2 f3
                  injection f1 with f1
                  injection f1 with f1
                  subst f1
                  clear f2 f3
                  have d5 := hcl5 o (by omega)
                  unfold nowL at d5
                  rw [gi_range s _ (by omega)] at d5
                  have hF5 : nowM ts stock rs k (j + 1) o = F - P := by
                    unfold nowM
                    rw [useP_succ, hoo, if_pos rfl, hF, hP, hmn]
                    unfold nowM
                    omega
                  rw [hF5] at d5
                  have p5 := k5.cell 0
                  simp at p5
                  have HO5 := Lib.hid h5
                  have HL5 := Lib.hid l5
                  have HMK := Lib.hid hmk
                  clear hcl hfz hfz2 hst hF hmn hP hoo hown ho2 hle l1 k1 r1 hcb hkr hP0 hP1 lw2 h5 l5 k5 hcl5 hF5 hmk
                  by_cases hneg : F - P < 0
                  · have hno : V = false := by
                      rw [HVV.out]
                      rw [all_bad hlt (all_bad (by rw [hlen]; exact hjm) (by rw [HMK.out]; exact decide_eq_false (by omega))), Bool.and_false]
                    have hM := HBAD.out hno
                    subst hno
                    subst hM
                    go_wp2
                    go_still_tail 18, (by kernel_rfl)
                    change wpList _ _ _ _ _ wk.drew
                    go_wp2
                    go_ret2
                    exact ⟨_, rfl, own_mono (own_empty _ _ _) (((L0.out.trans L1.out).trans HL5.out).size), (((L0.out.trans L1.out).trans HL5.out).alloc _).drew⟩
                  · have hyes : makeAt ts stock rs k j = true := by rw [HMK.out]; exact decide_eq_true (by omega)
                    go_wp2
                    go_still_tail 18, (by kernel_rfl)
                    change wpList _ _ _ _ _ wk.drew
                    go_wp2
                    go_roundw
                    case rel => exact ⟨j + 1, by omega, by go_num, HL5.out.drew, HO5.out.drew, hat.succ hyes⟩
                    case measure => simp [intOf]; omega
                · obtain rfl : j = m1 := by omega
                  have hs2 := HOK.out.rm hlt
                  have hkr := HR.out k (by omega)
                  have hcb := nowM_b HOK.out (by omega) HS.out (show k + 1 ≤ s by omega) HR.out (show k < k + 1 by omega) (j := j) (q := k) (by omega) hlt
                  have hadd := nowL_add ts stock rs s k
                  rw [hlen] at hadd
                  obtain ⟨g', cap', hv', _, hg2', _, hfz, hcl⟩ := own_open hown (by omega)
                  injection hv' with e1 e2 e3
                  injection e1 with e1
                  injection e1 with e1
                  subst e1
                  clear e2 e3
                  have d0 := hcl k hlt
                  unfold nowL at d0
                  rw [gi_range s _ hlt] at d0
                  have z0 := hfz k
                  obtain ⟨F, hF⟩ : ∃ F, F = nowM ts stock rs k j k := ⟨_, rfl⟩
                  rw [← hF] at d0 hcb hadd
                  have c6 := HC6.out _ lw2
                  have c0 := HCL.out _ (L1.out.trans hle)
                  have cy := HCY.out _ lw2
                  have hyb := (HOK.out k hlt).1
                  have hgood : ((List.range (gm ts k).2.1.length).all fun j => makeAt ts stock rs k j) = true := by rw [hlen]; exact all_good hat
                  have HGD := Lib.hid hgood
                  have HOW := Lib.hid hown
                  have HLE := Lib.hid hle
                  by_cases hy : (gm ts k).1 = 0
                  · have hR : rmI ts k = 1 := by unfold rmI; rw [if_pos hy]
                    rw [hR, Int.mul_one] at hadd
                    have HADD := Lib.hid hadd
                    have hv1 : IntKind.i64.wrap (gi rs k) = gi rs k := IntWalk.i64_in _ (by omega)
                    have hv2 : IntKind.i64.wrap (F + gi rs k) = F + gi rs k := IntWalk.i64_in _ (by omega)
                    rw [hy] at cy
                    clear hcl hfz hown hle hadd hF hcb hs2 lw2 hgood hat hy hyb hR
                    go_wp2
                    go_still_tail 20, (by kernel_rfl)
                    change wpList _ _ _ _ _ wr.drew
                    go_wp2
                    go_roundw
                    case rel =>
                      refine ⟨k + 1, by omega, by go_num, (HLE.out.setCell hg1 _).drew, ?_, HIN.out, HALL.out.succ HGD.out⟩
                      rw [← HADD.out]
                      exact (own_setI HOW.out _).drew
                    case measure => simp [intOf]; omega
                  · have hR : rmI ts k = (gm ts k).1 := by unfold rmI; rw [if_neg hy]
                    obtain ⟨Y, hY⟩ : ∃ Y, Y = (gm ts k).1 := ⟨_, rfl⟩
                    have hmx2 : (if Y < 1 then (1 : Int) else Y) = Y := if_neg (by omega)
                    rw [hR, ← hY] at hadd hs2
                    rw [← hY] at cy
                    obtain ⟨P, hP⟩ : ∃ P, P = gi rs k * Y := ⟨_, rfl⟩
                    have hP0 : 0 ≤ P := by rw [hP]; exact Int.mul_nonneg hkr.1 (by omega)
                    have hP1 : P ≤ 9999999 * 6 := by rw [hP]; exact Int.mul_le_mul hkr.2 hs2.2 (by omega) (by omega)
                    rw [← hP] at hadd
                    have HADD := Lib.hid hadd
                    have hv1 : IntKind.i64.wrap (gi rs k * Y) = P := by rw [← hP]; exact IntWalk.i64_in _ (by omega)
                    have hv2 : IntKind.i64.wrap (F + P) = F + P := IntWalk.i64_in _ (by omega)
                    clear hcl hfz hown hle hadd hF hcb hs2 lw2 hgood hat hy hyb hR hY hP hP0 hP1
                    go_wp2
                    go_still_tail 20, (by kernel_rfl)
                    change wpList _ _ _ _ _ wr.drew
                    go_wp2
                    go_roundw
                    case rel =>
                      refine ⟨k + 1, by omega, by go_num, (HLE.out.setCell hg1 _).drew, ?_, HIN.out, HALL.out.succ HGD.out⟩
                      rw [← HADD.out]
                      exact (own_setI HOW.out _).drew
                    case measure => simp [intOf]; omega
          · obtain rfl : k = s := by omega
            have hyes : V = true := by rw [HVV.out, amountsOkL_all hl3 hin]; exact all_good hall
            have hM := HG.out hyes
            subst hyes
            subst hM
            have hlw := (L0.out.trans L1.out).trans hle
            go_wp2
            go_ret2
            refine ⟨_, rfl, ?_, hlw⟩
            have hln : (nowL ts stock rs k k 0).length = k := by simp [nowL]
            rw [hln]
            exact own_mono hown (by omega)
      · have hno : makeOkL ts stock rs = false := by rw [e0, hb, hb2, amountsOkL_len (by omega)]; rfl
        rw [hbad hno, hno]
        have hb1 : ((s : Int) != (n : Int)) = true := by rw [bne_iff_ne]; omega
        clear hb hb2 e0 hbad hno
        go_enter Tryd.func33, Tryd.ntmps33
        go_wp2_with fail
        refine HV.out.mono ?_; rintro o w1 ⟨rfl, l1⟩
        have a0 := HCL.out _ l1
        go_wp2_with (go_at_call 71; refine (HA.out _ l1).mono ?_; rintro e w' ⟨rfl, rfl⟩)
        go_ret2
        exact ⟨_, rfl, own_mono (own_empty _ _ _) (L0.out.trans l1).size, (L0.out.trans l1).alloc _⟩
end Go.Proofs.YtoahjfofnaafaaaDoor
