/- Walk: FnUseFirst. -/
import Derived.Test.YteeklaplnhafoaaDoorWSame
import Derived.Test.YteeklaplnhafoaaDoorWTakeB
import Derived.Test.YteeklaplnhafoaaDoorWUseO
import Derived.Test.YteeklaplnhafoaaDoorWUseH
import Derived.Deep.RegionHeld3
import Derived.Deep.RegionWith
namespace Go.Proofs.YteeklaplnhafoaaDoor
open Go.RowKit

set_option maxRecDepth 20000 in
set_option maxHeartbeats 1000000 in
theorem sameLists_self (A B : Option Addr) (n m c d : Nat) (ts : List (List Int)) (w : World) (h : RII w A n ts) (h' : RII w B m ts) :
    Calls Tryd.prog 58 #[.slice A n c, .slice B m d] w fun e w' => e = .returned (.bool true) ∧ Le w w' := by
  have hm := h.max
  have hnm : n = m := by rw [← h.len, ← h'.len]
  subst hnm
  have HC := Lib.hid h.at_
  have HC2 := Lib.hid h'.at_
  clear h h'
  go_enter Tryd.func58, Tryd.ntmps58
  go_wp2
  go_loopw [5] (fun i wr => ∃ k : Nat, k ≤ n ∧ i = .int .i64 k ∧ (∃ q, wr = w.drewN q)) (fun i _ => n - (intOf i).toNat)
  case atStart => exact ⟨0, Nat.zero_le _, rfl, ⟨0, rfl⟩⟩
  case round =>
    obtain ⟨k, hk, rfl, ⟨q, rfl⟩⟩ := hrel
    by_cases hlt : k < n
    · obtain ⟨ad, B1, m1, d1, rfl, c1, hr1⟩ := HC.out k hlt
      obtain ⟨ad2, B2, m2, d2, rfl, c2, hr2⟩ := HC2.out k hlt
      have hq := fun q => sameInts_any B1 B2 m1 m2 d1 d2 _ _ (w.drewN q) (hr1.drewN q) (hr2.drewN q)
      have e1 : eqI (gl ts k) (gl ts k) = true := by simp [eqI]
      rw [e1] at hq
      have HQ := Lib.hid hq
      clear hr1 hr2 hq e1
      go_wp2
      go_quiet ((go_at_call 47; exact quiet_ad (HQ.out _)))
      go_wp2
      go_roundw
      case rel => exact ⟨k + 1, by omega, by go_num, ⟨_, rfl⟩⟩
      case measure => simp [intOf]; omega
    · go_wp2
      go_ret
      exact ⟨rfl, (Le.refl _).drewN q⟩

theorem uf_nil {ps : List (Int × Int)} {ws : List Int} (h : (lotsL ps && wantsL ws) = false) : useFirstL ps ws = [] := by
  unfold useFirstL; rw [h]; rfl
theorem restF_len {ps : List (Int × Int)} {ws : List Int} (h1 : lotsL ps = true) (h2 : wantsL ws = true) : ∀ j, (restF ps ws j).length = ps.length
  | 0 => rfl
  | j + 1 => by
    rw [restF_succ]; unfold takeDoR; rw [if_pos (restF_ok h1 h2 j), takeDoL_length]; exact restF_len h1 h2 j
theorem day_sum {ps : List (Int × Int)} {ws : List Int} (h1 : lotsL ps = true) (h2 : wantsL ws = true) (j : Nat) :
    sumW (gi (takeAtF ps ws j)) (takeAtF ps ws j).length = min (gi ws j) (lotsAtL (restF ps ws j) j) := by
  have hw := gi_wants h2 j
  rw [(row_sum (restF_ok h1 h2 j)).1]
  exact first_all (restF_lots h1 h2 j) hw.1 hw.2

set_option maxRecDepth 20000 in
set_option maxHeartbeats 4000000 in
theorem law_FnUseFirst (w : World) (A : Option Addr) (n c : Nat) (h : RB w A n) (hc : n ≤ c) :
    Calls Tryd.prog 15 #[.slice A n c] w fun e w' => e = .returned (.bool true) ∧ Le w w' := by
  have hm := h.max
  by_cases hn : 1048576 < n
  · go_enter Tryd.func15, Tryd.ntmps15
    go_wp2
    go_ret
    exact ⟨rfl, Le.refl _⟩
  · have HD := Lib.hid (drawUseFirst_any A n c w h hc)
    clear h
    go_enter Tryd.func15, Tryd.ntmps15
    go_wp2_with fail
    refine HD.out.mono ?_; rintro e w1 ⟨gv, cap, k, ps, gx, capx, m, xs, rfl, d1, i1, l1⟩
    have hk6 := d1.small
    have hkc := d1.kcap
    have hm7 := i1.small
    have hmc := i1.kcap
    have HR := Lib.hid d1.rp
    have HI := Lib.hid i1.ri
    have L1 := Lib.hid l1
    have HL := Lib.hid d1.len
    have HM := Lib.hid i1.len
    have D1 := Lib.hid d1
    have I1 := Lib.hid i1
    clear d1 i1 l1
    obtain ⟨L, hLd⟩ : ∃ L, useFirstL ps xs = L := ⟨_, rfl⟩
    obtain ⟨l, hll⟩ : ∃ l, L.length = l := ⟨_, rfl⟩
    have HLD := Lib.hid hLd
    have HLL := Lib.hid hll
    clear hLd hll
    have hi1 := slice_retL (implUseFirst_any _ _ _ _ cap capx _ _ _ HR.out HI.out)
    rw [HLD.out, HLL.out] at hi1
    have HI1 := Lib.hid hi1
    clear hi1
    go_wp2_with fail
    refine HI1.out.mono ?_; rintro e w2 ⟨A1, c1, f1, rfl, r1, _, l2⟩
    have HR2 := Lib.hid (HR.out.le l2)
    have HI2 := Lib.hid (HI.out.le l2)
    have M2 := Lib.hid l2
    have HX2 := Lib.hid r1
    clear l2 r1
    have hi2 := slice_retL (specUseFirst_any _ _ _ _ cap capx _ _ _ HR2.out HI2.out)
    rw [HLD.out, HLL.out] at hi2
    have HS1 := Lib.hid hi2
    clear hi2
    go_wp2_with fail
    refine HS1.out.mono ?_; rintro e w3 ⟨A2, c2, f2, rfl, r2, _, l3⟩
    have M3 := Lib.hid (M2.out.trans l3)
    have HX3 := Lib.hid (HX2.out.le l3)
    have HS := Lib.hid (sameLists_self _ _ _ _ c1 c2 _ _ (HX2.out.le l3) r2)
    clear l3 r2
    go_wp2_with fail
    refine HS.out.mono ?_; rintro e w4 ⟨rfl, l4⟩
    have M4 := Lib.hid (M3.out.trans l4)
    have HX4 := Lib.hid (HX3.out.le l4)
    have HR4 := Lib.hid (HR.out.le (M3.out.trans l4))
    have HI4 := Lib.hid (HI.out.le (M3.out.trans l4))
    clear l4
    go_wp2_with fail
    refine (specLotsValid_any _ _ _ _ _ HR4.out).mono ?_; rintro e w' ⟨rfl, rfl⟩
    obtain ⟨V, hV⟩ : ∃ V, lotsL ps = V := ⟨_, rfl⟩
    obtain ⟨U, hU⟩ : ∃ U, wantsL xs = U := ⟨_, rfl⟩
    rw [hV]
    have HU := Lib.hid hU
    have HV := Lib.hid hV
    clear hV hU
    cases V
    · have h0 := HLD.out
      rw [uf_nil (by rw [HV.out]; rfl)] at h0
      obtain rfl : l = 0 := by rw [← HLL.out, ← h0]; rfl
      clear h0
      go_wp2_with fail
      refine (alive_any w4).mono ?_; rintro e w5 ⟨rfl, l5⟩
      go_wp2
      go_ret
      exact ⟨rfl, L1.out.trans (M4.out.trans l5)⟩
    · go_wp2_with fail
      refine (specWantsValid_any _ _ _ _ _ HI4.out).mono ?_; rintro e w' ⟨rfl, rfl⟩
      rw [HU.out]
      cases U
      · have h0 := HLD.out
        rw [uf_nil (by rw [HV.out, HU.out]; rfl)] at h0
        obtain rfl : l = 0 := by rw [← HLL.out, ← h0]; rfl
        clear h0
        go_wp2_with fail
        refine (alive_any w4).mono ?_; rintro e w5 ⟨rfl, l5⟩
        go_wp2
        go_ret
        exact ⟨rfl, L1.out.trans (M4.out.trans l5)⟩
      · have hlm : l = m := by rw [← HLL.out, ← HLD.out, useFirst_len HV.out HU.out, HM.out]
        subst hlm
        have hgl : ∀ j, j < l → gl L j = takeAtF ps xs j := fun j hj => by rw [← HLD.out]; exact useFirst_gl HV.out HU.out (by rw [HM.out]; exact hj)
        have hok := useFirst_ok HV.out HU.out
        rw [HLD.out] at hok
        have HOK := Lib.hid hok
        have HG := Lib.hid hgl
        clear hok hgl
        go_wp2
        go_loopw [6, 7] (fun v i wr => ∃ (j : Nat) (Aj : Option Addr) (cj : Nat), j ≤ l ∧ i = .int .i64 j ∧ v = .slice Aj k cj ∧ RP wr Aj k (restF ps xs j) ∧ Le w4 wr) (fun _ i _ => l - (intOf i).toNat)
        case atStart => exact ⟨0, _, _, Nat.zero_le _, rfl, rfl, HR4.out, Le.refl _⟩
        case round =>
          obtain ⟨j, Aj, cj, hj, rfl, rfl, hnow, hle⟩ := hrel
          have HLe := Lib.hid hle
          have HNow := Lib.hid hnow
          clear hnow
          by_cases hlt : j < l
          · obtain ⟨ad, B1, m1, d1, rfl, k1, hw1⟩ := (HX4.out.le hle).at_ j hlt
            obtain ⟨ad2, e2, k2⟩ := (HI4.out.le hle).at_ j hlt
            injection e2 with e2
            subst e2
            clear hle
            have hds := day_sum HV.out HU.out j
            have hm1 := hw1.len
            rw [HG.out j hlt] at hw1 hm1
            have HW := Lib.hid hw1
            rw [hm1] at hds
            obtain ⟨S, hS⟩ : ∃ S, sumW (gi (takeAtF ps xs j)) m1 = S := ⟨_, rfl⟩
            obtain ⟨Z, hZ⟩ : ∃ Z, lotsAtL (restF ps xs j) j = Z := ⟨_, rfl⟩
            obtain ⟨a, ha⟩ : ∃ a, gi xs j = a := ⟨_, rfl⟩
            rw [hS, hZ, ha] at hds
            rw [ha, addr0] at k2
            have HSS := Lib.hid hS
            have HZ := Lib.hid hZ
            have hmin : (if Z < a then Z else a) = S := by rw [hds]; split <;> omega
            have hne : (S != S) = false := by simp
            clear hds hS hZ ha hm1 hw1
            go_wp2
            have SW : Le wr wr.drew := (Le.refl wr).drew
            refine wp_region_held_drew (S := fun w' => Le wr w') (by kernel_rfl) SW (fun _ => ?_)
            refine wpAnyH_take (i := 0) (v := ?_) rfl (by kernel_rfl) (by kernel_rfl) (by kernel_rfl) (fun _ _ _ h => h) (Or.inl ⟨by rfl, ?_⟩) (by assumption) ?_
            rotate_left
            · (intro w' hSw; (try dsimp only at hSw); go_simp; all_goals with_reducible rfl)
            repeat (first | simp only [Act.put] | simp only [List.setIfInBounds_toArray] | simp only [List.set_cons_succ] | simp only [List.set_cons_zero])
            refine wpAnyH_take (i := 1) (v := ?_) rfl (by kernel_rfl) (by kernel_rfl) (by kernel_rfl) (fun _ _ _ h => h) (Or.inl ⟨by rfl, ?_⟩) (by assumption) ?_
            rotate_left
            · (intro w' hSw; (try dsimp only at hSw); go_simp; all_goals with_reducible rfl)
            repeat (first | simp only [Act.put] | simp only [List.setIfInBounds_toArray] | simp only [List.set_cons_succ] | simp only [List.set_cons_zero])
            refine wpAnyH_take (i := 2) (v := ?_) rfl (by kernel_rfl) (by kernel_rfl) (by kernel_rfl) (fun _ _ _ h => h) (Or.inl ⟨by rfl, ?_⟩) (by assumption) ?_
            rotate_left
            · (intro w' hSw; (try dsimp only at hSw); go_simp; all_goals with_reducible rfl)
            repeat (first | simp only [Act.put] | simp only [List.setIfInBounds_toArray] | simp only [List.set_cons_succ] | simp only [List.set_cons_zero])
            refine wpAnyH_take (i := 3) (v := ?_) rfl (by kernel_rfl) (by kernel_rfl) (by kernel_rfl) (fun _ _ _ h => h) (Or.inl ⟨by rfl, ?_⟩) (by assumption) ?_
            rotate_left
            · (intro w' hSw; have cX := Le.cell hSw k1; (try dsimp only at hSw); go_simp; all_goals with_reducible rfl)
            repeat (first | simp only [Act.put] | simp only [List.setIfInBounds_toArray] | simp only [List.set_cons_succ] | simp only [List.set_cons_zero])
            refine wpAnyH_take (i := 5) (v := ?_) rfl (by kernel_rfl) (by kernel_rfl) (by kernel_rfl) (fun _ _ _ h => h) (Or.inl ⟨by rfl, ?_⟩) (by assumption) ?_
            rotate_left
            · (intro w' hSw; (try dsimp only at hSw); go_simp; all_goals with_reducible rfl)
            repeat (first | simp only [Act.put] | simp only [List.setIfInBounds_toArray] | simp only [List.set_cons_succ] | simp only [List.set_cons_zero])
            refine wpAnyH_take (i := 6) (v := ?_) rfl (by kernel_rfl) (by kernel_rfl) (by kernel_rfl) (fun _ _ _ h => h) (Or.inl ⟨by rfl, ?_⟩) (by assumption) ?_
            rotate_left
            · (intro w' hSw; (try dsimp only at hSw); go_simp; all_goals with_reducible rfl)
            repeat (first | simp only [Act.put] | simp only [List.setIfInBounds_toArray] | simp only [List.set_cons_succ] | simp only [List.set_cons_zero])
            refine wpAnyH_take (i := 7) (v := ?_) rfl (by kernel_rfl) (by kernel_rfl) (by kernel_rfl) (fun _ _ _ h => h) (Or.inl ⟨by rfl, ?_⟩) (by assumption) ?_
            rotate_left
            · (intro w' hSw; (try dsimp only at hSw); go_simp; all_goals with_reducible rfl)
            repeat (first | simp only [Act.put] | simp only [List.setIfInBounds_toArray] | simp only [List.set_cons_succ] | simp only [List.set_cons_zero])
            refine wpAnyH_take (i := 8) (v := ?_) rfl (by kernel_rfl) (by kernel_rfl) (by kernel_rfl) (fun _ _ _ h => h) (Or.inl ⟨by rfl, ?_⟩) (by assumption) ?_
            rotate_left
            · (intro w' hSw; have cX := Le.cell hSw k2; (try dsimp only at hSw); go_simp; all_goals with_reducible rfl)
            repeat (first | simp only [Act.put] | simp only [List.setIfInBounds_toArray] | simp only [List.set_cons_succ] | simp only [List.set_cons_zero])
            refine wpAnyH_take (i := 9) (v := ?_) rfl (by kernel_rfl) (by kernel_rfl) (by kernel_rfl) (fun _ _ _ h => h) (Or.inl ⟨by rfl, ?_⟩) (by assumption) ?_
            rotate_left
            · (intro w' hSw; (try dsimp only at hSw); go_simp; all_goals with_reducible rfl)
            repeat (first | simp only [Act.put] | simp only [List.setIfInBounds_toArray] | simp only [List.set_cons_succ] | simp only [List.set_cons_zero])
            refine wpAnyH_take (i := 10) (v := ?_) rfl (by kernel_rfl) (by kernel_rfl) (by kernel_rfl) (fun _ _ _ h => h) (Or.inl ⟨by rfl, ?_⟩) (by assumption) ?_
            rotate_left
            · (intro w' hSw; (try dsimp only at hSw); go_simp; all_goals with_reducible rfl)
            repeat (first | simp only [Act.put] | simp only [List.setIfInBounds_toArray] | simp only [List.set_cons_succ] | simp only [List.set_cons_zero])
            refine wpAnyH_ready (rs := [4]) (by kernel_rfl) (by simp) ?_
            refine AllReadyH.cons (i := 4) rfl (fun K hK => ?_) AllReadyH.nil
            · go_simp
              refine (lawSum_any _ _ _ _ _ (RI.le HW.out SW)).mono ?_; rintro e w' ⟨rfl, rfl⟩
              rw [HSS.out]
              (try go_wp2_with fail)
              refine hK.out _ _ SW (fun _ => ?_)
              clear hK K
              repeat (first | simp only [Act.put] | simp only [List.setIfInBounds_toArray] | simp only [List.set_cons_succ] | simp only [List.set_cons_zero])
              refine wpAnyH_ready (rs := [11]) (by kernel_rfl) (by simp) ?_
              refine AllReadyH.cons (i := 11) rfl (fun K hK => ?_) AllReadyH.nil
              go_simp
              refine (implLotsAt_any _ _ _ _ (j : Int) _ (RP.le HNow.out SW)).mono ?_; rintro e wL ⟨rfl, lL⟩
              rw [HZ.out]
              (try go_wp2_with fail)
              refine hK.out _ _ (Le.trans SW lL) (fun _ => ?_)
              clear hK K
              repeat (first | simp only [Act.put] | simp only [List.setIfInBounds_toArray] | simp only [List.set_cons_succ] | simp only [List.set_cons_zero])
              have SW2 := Le.trans SW lL
              refine wpAnyH_ready (rs := [12]) (by kernel_rfl) (by simp) ?_
              refine AllReadyH.cons (i := 12) rfl (fun K hK => ?_) AllReadyH.nil
              go_simp
              refine hK.out _ _ (by assumption) (fun _ => ?_)
              clear hK K
              repeat (first | simp only [Act.put] | simp only [List.setIfInBounds_toArray] | simp only [List.set_cons_succ] | simp only [List.set_cons_zero])
              refine wpAnyH_ready (rs := [13]) (by kernel_rfl) (by simp) ?_
              refine AllReadyH.cons (i := 13) rfl (fun K hK => ?_) AllReadyH.nil
              go_simp
              refine hK.out _ _ (by assumption) (fun _ => ?_)
              clear hK K
              repeat (first | simp only [Act.put] | simp only [List.setIfInBounds_toArray] | simp only [List.set_cons_succ] | simp only [List.set_cons_zero])
              refine wpAnyH_done (by kernel_rfl) ?_ _
              have H5 := Lib.hid (HLe.out.trans SW2)
              have HN5 := Lib.hid (HNow.out.le SW2)
              have HW5 := Lib.hid (HW.out.le SW2)
              have hrs := restF_len HV.out HU.out (j + 1)
              have hrs0 := restF_len HV.out HU.out j
              have htd := slice_retPB (implTakeDo_any _ _ _ _ cj d1 _ (j : Int) _ _ HN5.out HW5.out) (by rw [show takeDoR (restF ps xs j) (j : Int) (takeAtF ps xs j) = restF ps xs (j + 1) from rfl, hrs, HL.out]; omega)
              rw [show takeDoR (restF ps xs j) (j : Int) (takeAtF ps xs j) = restF ps xs (j + 1) from rfl, hrs, HL.out] at htd
              have HTD := Lib.hid htd
              clear htd hrs hrs0
              have k1' := SW2.cell k1
              clear k1 k2
              go_wp2_with fail
              refine HTD.out.mono ?_; rintro e w6 ⟨A6, c6, rfl, r6, _, l6⟩
              have R6 := Lib.hid r6
              have L6 := Lib.hid (H5.out.trans l6)
              clear r6 l6
              go_wp2
              go_roundw
              case rel => exact ⟨j + 1, A6, c6, by omega, by go_num, rfl, R6.out, L6.out⟩
              case measure => simp [intOf]; omega
          · obtain rfl : j = l := by omega
            clear hle
            go_wp2_with fail
            refine (implUseOk_any _ _ _ _ _ _ _ _ _ _ _ _ _ (HR4.out.le HLe.out) (HI4.out.le HLe.out) (HX4.out.le HLe.out)).mono ?_; rintro e w5 ⟨rfl, l5⟩
            rw [HOK.out]
            go_wp2
            go_ret
            exact ⟨rfl, L1.out.trans (M4.out.trans (HLe.out.trans l5))⟩
end Go.Proofs.YteeklaplnhafoaaDoor
