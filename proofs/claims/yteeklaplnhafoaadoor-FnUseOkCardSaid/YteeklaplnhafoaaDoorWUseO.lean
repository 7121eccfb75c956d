/- Walks: UseOk of the program and of the reference. -/
import Derived.Test.YteeklaplnhafoaaDoorWUseS
import Derived.Test.YteeklaplnhafoaaDoorWTakeC
namespace Go.Proofs.YteeklaplnhafoaaDoor
open Go.RowKit

/-- the lots that are left after k days -/
def restL (ps : List (Int × Int)) (tt : List (List Int)) : Nat → List (Int × Int)
  | 0 => ps
  | k + 1 => takeDoR (restL ps tt k) k (gl tt k)
theorem restL_succ (ps : List (Int × Int)) (tt : List (List Int)) (k : Nat) : restL ps tt (k + 1) = takeDoR (restL ps tt k) k (gl tt k) := rfl
def dayOk (ps : List (Int × Int)) (ws : List Int) (tt : List (List Int)) (k : Nat) : Bool := takeOkL (restL ps tt k) k (gl tt k) && decide (rowSum tt k ≤ gi ws k)
def useOkL (ps : List (Int × Int)) (ws : List Int) (tt : List (List Int)) : Bool := ((lotsL ps && wantsL ws) && decide (tt.length = ws.length)) && (List.range tt.length).all (dayOk ps ws tt)
theorem useOkL_f {ps : List (Int × Int)} {ws : List Int} {tt : List (List Int)} {n k : Nat} (hl : tt.length = n) (hk : k < n) (h : dayOk ps ws tt k = false) : useOkL ps ws tt = false := by
  unfold useOkL
  have : (List.range tt.length).all (dayOk ps ws tt) = false := by
    rw [← Bool.not_eq_true, List.all_eq_true]
    intro hh
    rw [hh k (List.mem_range.2 (by omega))] at h; cases h
  rw [this, Bool.and_false]
theorem useOkL_t {ps : List (Int × Int)} {ws : List Int} {tt : List (List Int)} {n : Nat} (hl : tt.length = n) (h1 : lotsL ps = true) (h2 : wantsL ws = true) (h3 : ws.length = n) (h : ∀ k, k < n → dayOk ps ws tt k = true) : useOkL ps ws tt = true := by
  unfold useOkL
  rw [h1, h2, hl, h3, Bool.true_and, Bool.true_and, decide_eq_true rfl, Bool.true_and, List.all_eq_true]
  intro k hk; exact h k (List.mem_range.1 hk)
theorem dayOk_2 {ps : List (Int × Int)} {ws : List Int} {tt : List (List Int)} {k : Nat} (h : gi ws k < rowSum tt k) : dayOk ps ws tt k = false := by
  unfold dayOk; rw [decide_eq_false (by omega), Bool.and_false]
theorem dayOk_1 {ps : List (Int × Int)} {ws : List Int} {tt : List (List Int)} {k : Nat} (h : takeOkL (restL ps tt k) k (gl tt k) = false) : dayOk ps ws tt k = false := by
  unfold dayOk; rw [h, Bool.false_and]
theorem dayOk_t {ps : List (Int × Int)} {ws : List Int} {tt : List (List Int)} {k : Nat} (h : takeOkL (restL ps tt k) k (gl tt k) = true) (h2 : rowSum tt k ≤ gi ws k) : dayOk ps ws tt k = true := by
  unfold dayOk; rw [h, Bool.true_and, decide_eq_true h2]
theorem takeDoR_small (ps : List (Int × Int)) (day : Int) (take : List Int) : (takeDoR ps day take).length ≤ 9223372036854775807 := by
  unfold takeDoR
  split
  · rename_i h
    rw [takeDoL_length]
    obtain ⟨h1, _⟩ := takeOk_facts rfl h
    have := (lots_facts rfl h1).1
    omega
  · exact Nat.zero_le _

set_option maxRecDepth 20000 in
set_option maxHeartbeats 2000000 in
theorem implUseOk_any (A B C : Option Addr) (n m r c d f : Nat) (ps : List (Int × Int)) (ws : List Int) (tt : List (List Int)) (w : World) (h : RP w A n ps) (h' : RI w B m ws) (h'' : RII w C r tt) :
    Calls Tryd.prog 23 #[.slice A n c, .slice B m d, .slice C r f] w fun e w' => e = .returned (.bool (useOkL ps ws tt)) ∧ Le w w' := by
  have hv := implLotsValid_any A n c ps w h
  have hw := fun w' (l : Le w w') => implWantsValid_any B m d ws w' (h'.le l)
  have hm := h'.max
  have hr := h''.max
  cases hb : lotsL ps
  · rw [hb] at hv
    have e0 : useOkL ps ws tt = false := by simp [useOkL, hb]
    rw [e0]
    have HV := Lib.hid hv
    clear hv hb e0 h
    go_enter Tryd.func23, Tryd.ntmps23
    go_wp2_with (go_at_call 28; refine HV.out.mono ?_; rintro e w1 ⟨rfl, l1⟩)
    go_ret
    exact ⟨rfl, l1⟩
  · rw [hb] at hv
    cases hb2 : wantsL ws
    · rw [hb2] at hw
      have e0 : useOkL ps ws tt = false := by simp [useOkL, hb2]
      rw [e0]
      have HV := Lib.hid hv
      have HW := Lib.hid hw
      clear hv hb hb2 e0 h hw
      go_enter Tryd.func23, Tryd.ntmps23
      go_wp2_with fail
      refine HV.out.mono ?_; rintro e w1 ⟨rfl, l1⟩
      go_wp2_with (go_at_call 31; refine (HW.out _ l1).mono ?_; rintro e w' ⟨rfl, rfl⟩)
      go_ret
      exact ⟨rfl, l1⟩
    · rw [hb2] at hw
      by_cases hmr : r = m
      · subst hmr
        have HV := Lib.hid hv
        have HW := Lib.hid hw
        have HB1 := Lib.hid hb
        have HB2 := Lib.hid hb2
        have HL1 := Lib.hid h'.len
        have HL2 := Lib.hid h''.len
        have HC := Lib.hid h'.at_
        have HT := Lib.hid h''.at_
        have HP := Lib.hid h
        clear hv hb hb2 h hw h' h''
        go_enter Tryd.func23, Tryd.ntmps23
        go_wp2_with fail
        refine HV.out.mono ?_; rintro e w1 ⟨rfl, l1⟩
        go_wp2_with (go_at_call 31; refine (HW.out _ l1).mono ?_; rintro e w' ⟨rfl, rfl⟩)
        have L1 := Lib.hid l1
        clear l1
        go_loopw [7, 30] (fun v i wr => ∃ k : Nat, k ≤ r ∧ i = .int .i64 k ∧ Le w wr ∧ AllTo (dayOk ps ws tt) k ∧ ∃ A' n' c', v = .slice A' n' c' ∧ RP wr A' n' (restL ps tt k)) (fun _ i _ => r - (intOf i).toNat)
        case atStart => exact ⟨0, Nat.zero_le _, rfl, L1.out, AllTo.zero _, A, n, c, rfl, HP.out.le L1.out⟩
        case round =>
          obtain ⟨k, hk, rfl, hle, hin, A', n', c', rfl, hrp⟩ := hrel
          by_cases hlt : k < r
          · obtain ⟨ad, rfl, hc1⟩ := HC.out k hlt
            obtain ⟨ad2, B2, m2, d2, rfl, hc2, hri⟩ := HT.out k hlt
            have c1 := hle.cell hc1
            have c2 := hle.cell hc2
            have hdo := slice_retPB (implTakeDo_any A' B2 n' m2 c' d2 (restL ps tt k) k (gl tt k) wr hrp (hri.le hle)) (takeDoR_small _ _ _)
            rw [← restL_succ] at hdo
            have hsum : sumW (gi (gl tt k)) m2 = rowSum tt k := by unfold rowSum; rw [hri.len]
            have hsm := fun w' (l : Le w w') => sumOf_any B2 m2 d2 (gl tt k) w' (hri.le l)
            rw [hsum] at hsm
            have HSM := Lib.hid hsm
            have HIN := Lib.hid hin
            have HLE := Lib.hid hle
            clear hc1 hc2 hri hrp hsum hsm hin hle
            cases hok : takeOkL (restL ps tt k) k (gl tt k)
            · rw [hok] at hdo
              have HDO := Lib.hid hdo
              have HF := Lib.hid (dayOk_1 (ws := ws) hok)
              clear hdo hok
              go_wp2_with fail
              refine HDO.out.mono ?_; rintro e w2 ⟨A2, c2', rfl, hp2, _, l2⟩
              have d1 := l2.cell c1
              have d2 := l2.cell c2
              have HP2 := Lib.hid hp2
              have L2 := Lib.hid l2
              clear hp2 l2 c1 c2
              go_wp2
              go_quiet (fail)
              go_wp2
              go_ret
              exact ⟨ret_bool (useOkL_f HL2.out hlt HF.out).symm, (HLE.out.trans L2.out).drewN _⟩
            · rw [hok] at hdo
              have HDO := Lib.hid hdo
              have HOK := Lib.hid hok
              clear hdo hok
              by_cases hs : gi ws k < rowSum tt k
              · have HF := Lib.hid (dayOk_2 (ps := ps) hs)
                go_wp2_with fail
                refine HDO.out.mono ?_; rintro e w2 ⟨A2, c2', rfl, hp2, _, l2⟩
                have d1 := l2.cell c1
                have d2 := l2.cell c2
                have hsm2 := fun q => HSM.out _ ((HLE.out.trans l2).drewN q)
                have HSM2 := Lib.hid hsm2
                have L2 := Lib.hid l2
                clear hp2 l2 c1 c2 hsm2
                go_wp2
                go_quiet ((go_at_call 64; exact quiet_l (HSM2.out _)))
                go_wp2
                go_ret
                exact ⟨ret_bool (useOkL_f HL2.out hlt HF.out).symm, (HLE.out.trans L2.out).drewN _⟩
              · have hs' : rowSum tt k ≤ gi ws k := by omega
                have hsd : decide (gi ws k < rowSum tt k) = false := decide_eq_false hs
                clear hs
                have HF := Lib.hid (dayOk_t (ps := ps) HOK.out hs')
                go_wp2_with fail
                refine HDO.out.mono ?_; rintro e w2 ⟨A2, c2', rfl, hp2, _, l2⟩
                have d1 := l2.cell c1
                have d2 := l2.cell c2
                have hsm2 := fun q => HSM.out _ ((HLE.out.trans l2).drewN q)
                have HSM2 := Lib.hid hsm2
                have HP2 := Lib.hid hp2
                have L2 := Lib.hid l2
                clear hp2 l2 c1 c2 hsm2
                go_wp2
                go_quiet ((go_at_call 64; exact quiet_l (HSM2.out _)))
                go_wp2
                go_roundw
                case rel => exact ⟨k + 1, by omega, by go_num, (HLE.out.trans L2.out).drewN _, HIN.out.succ HF.out, _, _, _, rfl, HP2.out.le ((Le.refl _).drewN _)⟩
                case measure => simp [intOf]; omega
          · obtain rfl : k = r := by omega
            go_wp2
            go_ret
            exact ⟨ret_bool (useOkL_t HL2.out HB1.out HB2.out HL1.out fun j hj => hin j hj).symm, hle⟩
      · have e0 : useOkL ps ws tt = false := by
          have : ¬ tt.length = ws.length := by rw [h'.len, h''.len]; exact hmr
          simp [useOkL, this]
        rw [e0]
        have hne : ((r : Int) != (m : Int)) = true := by simp; omega
        have HV := Lib.hid hv
        have HW := Lib.hid hw
        clear hv hb hb2 e0 h hw
        go_enter Tryd.func23, Tryd.ntmps23
        go_wp2_with fail
        refine HV.out.mono ?_; rintro e w1 ⟨rfl, l1⟩
        go_wp2_with (go_at_call 31; refine (HW.out _ l1).mono ?_; rintro e w' ⟨rfl, rfl⟩)
        go_ret
        exact ⟨rfl, l1⟩

set_option maxRecDepth 20000 in
set_option maxHeartbeats 2000000 in
theorem specUseOk_any (A B C : Option Addr) (n m r c d f : Nat) (ps : List (Int × Int)) (ws : List Int) (tt : List (List Int)) (w : World) (h : RP w A n ps) (h' : RI w B m ws) (h'' : RII w C r tt) :
    Calls Tryd.prog 24 #[.slice A n c, .slice B m d, .slice C r f] w fun e w' => e = .returned (.bool (useOkL ps ws tt)) ∧ Le w w' := by
  have hv := specLotsValid_any A n c ps w h
  have hw := specWantsValid_any B m d ws w h'
  have hm := h'.max
  have hr := h''.max
  cases hb : lotsL ps
  · rw [hb] at hv
    have e0 : useOkL ps ws tt = false := by simp [useOkL, hb]
    rw [e0]
    have HV := Lib.hid hv
    clear hv hb e0 h
    go_enter Tryd.func24, Tryd.ntmps24
    go_wp2_with (go_at_call 29; refine HV.out.mono ?_; rintro e w1 ⟨rfl, rfl⟩)
    go_ret
    exact ⟨rfl, Le.refl _⟩
  · rw [hb] at hv
    cases hb2 : wantsL ws
    · rw [hb2] at hw
      have e0 : useOkL ps ws tt = false := by simp [useOkL, hb2]
      rw [e0]
      have HV := Lib.hid hv
      have HW := Lib.hid hw
      clear hv hb hb2 e0 h hw
      go_enter Tryd.func24, Tryd.ntmps24
      go_wp2_with (first | (go_at_call 29; refine HV.out.mono ?_; rintro e w1 ⟨rfl, rfl⟩) | (go_at_call 32; refine HW.out.mono ?_; rintro e w1 ⟨rfl, rfl⟩))
      go_ret
      exact ⟨rfl, Le.refl _⟩
    · rw [hb2] at hw
      by_cases hmr : r = m
      · subst hmr
        have HV := Lib.hid hv
        have HW := Lib.hid hw
        have HB1 := Lib.hid hb
        have HB2 := Lib.hid hb2
        have HL1 := Lib.hid h'.len
        have HL2 := Lib.hid h''.len
        have HC := Lib.hid h'.at_
        have HT := Lib.hid h''.at_
        have HP := Lib.hid h
        clear hv hb hb2 h hw h' h''
        go_enter Tryd.func24, Tryd.ntmps24
        go_wp2_with (first | (go_at_call 29; refine HV.out.mono ?_; rintro e w1 ⟨rfl, rfl⟩) | (go_at_call 32; refine HW.out.mono ?_; rintro e w1 ⟨rfl, rfl⟩))
        go_loopw [0, 7] (fun v i wr => ∃ k : Nat, k ≤ r ∧ i = .int .i64 k ∧ Le w wr ∧ AllTo (dayOk ps ws tt) k ∧ ∃ A' n' c', v = .slice A' n' c' ∧ RP wr A' n' (restL ps tt k)) (fun _ i _ => r - (intOf i).toNat)
        case atStart => exact ⟨0, Nat.zero_le _, rfl, Le.refl _, AllTo.zero _, A, n, c, rfl, HP.out⟩
        case round =>
          obtain ⟨k, hk, rfl, hle, hin, A', n', c', rfl, hrp⟩ := hrel
          by_cases hlt : k < r
          · obtain ⟨ad, rfl, hc1⟩ := HC.out k hlt
            obtain ⟨ad2, B2, m2, d2, rfl, hc2, hri⟩ := HT.out k hlt
            have c1 := hle.cell hc1
            have c2 := hle.cell hc2
            have hdo := slice_retPB (specTakeDo_any A' B2 n' m2 c' d2 (restL ps tt k) k (gl tt k) wr hrp (hri.le hle)) (takeDoR_small _ _ _)
            rw [← restL_succ] at hdo
            have hsum : sumW (gi (gl tt k)) m2 = rowSum tt k := by unfold rowSum; rw [hri.len]
            have hsm := fun w' (l : Le w w') => l1Sum_any B2 m2 d2 (gl tt k) w' (hri.le l)
            rw [hsum] at hsm
            have HSM := Lib.hid hsm
            have HIN := Lib.hid hin
            have HLE := Lib.hid hle
            clear hc1 hc2 hri hrp hsum hsm hin hle
            cases hok : takeOkL (restL ps tt k) k (gl tt k)
            · rw [hok] at hdo
              have HDO := Lib.hid hdo
              have HF := Lib.hid (dayOk_1 (ws := ws) hok)
              clear hdo hok
              go_wp2_with fail
              refine HDO.out.mono ?_; rintro e w2 ⟨A2, c2', rfl, hp2, _, l2⟩
              have d1 := l2.cell c1
              have d2 := l2.cell c2
              have HP2 := Lib.hid hp2
              have L2 := Lib.hid l2
              clear hp2 l2 c1 c2
              go_wp2
              go_quiet (fail)
              go_wp2
              go_ret
              exact ⟨ret_bool (useOkL_f HL2.out hlt HF.out).symm, (HLE.out.trans L2.out).drewN _⟩
            · rw [hok] at hdo
              have HDO := Lib.hid hdo
              have HOK := Lib.hid hok
              clear hdo hok
              by_cases hs : gi ws k < rowSum tt k
              · have HF := Lib.hid (dayOk_2 (ps := ps) hs)
                go_wp2_with fail
                refine HDO.out.mono ?_; rintro e w2 ⟨A2, c2', rfl, hp2, _, l2⟩
                have d1 := l2.cell c1
                have d2 := l2.cell c2
                have hsm2 := fun q => HSM.out _ ((HLE.out.trans l2).drewN q)
                have HSM2 := Lib.hid hsm2
                have L2 := Lib.hid l2
                clear hp2 l2 c1 c2 hsm2
                go_wp2
                go_quiet ((go_at_call 65; exact quiet_l (HSM2.out _)))
                go_wp2
                go_ret
                exact ⟨ret_bool (useOkL_f HL2.out hlt HF.out).symm, (HLE.out.trans L2.out).drewN _⟩
              · have hs' : rowSum tt k ≤ gi ws k := by omega
                have hsd : decide (gi ws k < rowSum tt k) = false := decide_eq_false hs
                clear hs
                have HF := Lib.hid (dayOk_t (ps := ps) HOK.out hs')
                go_wp2_with fail
                refine HDO.out.mono ?_; rintro e w2 ⟨A2, c2', rfl, hp2, _, l2⟩
                have d1 := l2.cell c1
                have d2 := l2.cell c2
                have hsm2 := fun q => HSM.out _ ((HLE.out.trans l2).drewN q)
                have HSM2 := Lib.hid hsm2
                have HP2 := Lib.hid hp2
                have L2 := Lib.hid l2
                clear hp2 l2 c1 c2 hsm2
                go_wp2
                go_quiet ((go_at_call 65; exact quiet_l (HSM2.out _)))
                go_wp2
                go_roundw
                case rel => exact ⟨k + 1, by omega, by go_num, (HLE.out.trans L2.out).drewN _, HIN.out.succ HF.out, _, _, _, rfl, HP2.out.le ((Le.refl _).drewN _)⟩
                case measure => simp [intOf]; omega
          · obtain rfl : k = r := by omega
            go_wp2
            go_ret
            exact ⟨ret_bool (useOkL_t HL2.out HB1.out HB2.out HL1.out fun j hj => hin j hj).symm, hle⟩
      · have e0 : useOkL ps ws tt = false := by
          have : ¬ tt.length = ws.length := by rw [h'.len, h''.len]; exact hmr
          simp [useOkL, this]
        rw [e0]
        have hne : ((r : Int) != (m : Int)) = true := by simp; omega
        have HV := Lib.hid hv
        have HW := Lib.hid hw
        clear hv hb hb2 e0 h hw
        go_enter Tryd.func24, Tryd.ntmps24
        go_wp2_with (first | (go_at_call 29; refine HV.out.mono ?_; rintro e w1 ⟨rfl, rfl⟩) | (go_at_call 32; refine HW.out.mono ?_; rintro e w1 ⟨rfl, rfl⟩))
        go_ret
        exact ⟨rfl, Le.refl _⟩

end Go.Proofs.YteeklaplnhafoaaDoor
