/- Walks: UseBound of the program and of the reference. -/
import Derived.Test.YteeklaplnhafoaaDoorWLotA
namespace Go.Proofs.YteeklaplnhafoaaDoor
open Go.RowKit

def useArgs (ps : List (Int × Int)) (ws : List Int) : Bool := lotsL ps && wantsL ws
def useBoundL (ps : List (Int × Int)) (ws : List Int) (day : Int) : Int := if ((lotsL ps && wantsL ws) && inB 0 6 day) = true then lotsAtL ps day + sumTo (gi ws) (min day.toNat ws.length) else -1
theorem lotsAtL_b {ps : List (Int × Int)} (h : lotsL ps = true) (day : Int) : 0 ≤ lotsAtL ps day ∧ lotsAtL ps day ≤ 45 := by
  obtain ⟨h5, hf⟩ := lots_facts rfl h
  unfold lotsAtL
  rw [h, if_pos rfl]
  have := sumTo_bound (f := lotAt ps day) (c := 9) (n := ps.length) (lotAt_bound day hf)
  omega
theorem wants_sum {ws : List Int} (h : wantsL ws = true) {k : Nat} (hk : k ≤ ws.length) : 0 ≤ sumTo (gi ws) k ∧ sumTo (gi ws) k ≤ 300 := by
  obtain ⟨h6, hf⟩ := wants_facts rfl h
  have := sumTo_bound (f := gi ws) (c := 50) (n := k) fun j hj => hf j (by omega)
  omega
theorem wants_sumW {ws : List Int} (h : wantsL ws = true) {k : Nat} (hk : k ≤ ws.length) : sumW (gi ws) k = sumTo (gi ws) k := by
  obtain ⟨h6, hf⟩ := wants_facts rfl h
  exact sumW_eq 50 (fun j hj => hf j (by omega)) (by omega)
theorem gi_take (xs : List Int) {k j : Nat} (h : j < k) : gi (xs.take k) j = gi xs j := by
  unfold gi; rw [List.getD_eq_getElem?_getD, List.getD_eq_getElem?_getD, List.getElem?_take, if_pos h]

set_option maxRecDepth 20000 in
set_option maxHeartbeats 2000000 in
theorem implUseBound_any (A B : Option Addr) (n m c d : Nat) (ps : List (Int × Int)) (ws : List Int) (day : Int) (w : World) (h : RP w A n ps) (h' : RI w B m ws) (hmd : m ≤ d) :
    Calls Tryd.prog 26 #[.slice A n c, .slice B m d, .int .i64 day] w fun e w' => e = .returned (.int .i64 (useBoundL ps ws day)) ∧ Le w w' := by
  have hv := implLotsValid_any A n c ps w h
  have hw := fun w' (l : Le w w') => implWantsValid_any B m d ws w' (h'.le l)
  cases hb : lotsL ps
  · rw [hb] at hv
    have e0 : useBoundL ps ws day = -1 := by simp [useBoundL, hb]
    rw [e0]
    have HV := Lib.hid hv
    clear hv hb e0 h
    go_enter Tryd.func26, Tryd.ntmps26
    go_wp2_with (go_at_call 28; refine HV.out.mono ?_; rintro e w1 ⟨rfl, l1⟩)
    go_ret
    exact ⟨rfl, l1⟩
  · rw [hb] at hv
    cases hb2 : wantsL ws
    · rw [hb2] at hw
      have e0 : useBoundL ps ws day = -1 := by simp [useBoundL, hb2]
      rw [e0]
      have HV := Lib.hid hv
      have HW := Lib.hid hw
      clear hv hb hb2 e0 h hw
      go_enter Tryd.func26, Tryd.ntmps26
      go_wp2_with fail
      refine HV.out.mono ?_; rintro e w1 ⟨rfl, l1⟩
      go_wp2_with (go_at_call 31; refine (HW.out _ l1).mono ?_; rintro e w' ⟨rfl, rfl⟩)
      go_ret
      exact ⟨rfl, l1⟩
    · rw [hb2] at hw
      by_cases hd0 : 0 ≤ day
      · by_cases hd6 : day ≤ 6
        · obtain ⟨k, rfl⟩ : ∃ k : Nat, day = k := ⟨day.toNat, by omega⟩
          have hm := h'.max
          have hmin : ∃ q : Nat, q = min k m := ⟨_, rfl⟩
          obtain ⟨q, hq⟩ := hmin
          have hqm : q ≤ m := by omega
          have e0 : useBoundL ps ws k = lotsAtL ps k + sumTo (gi ws) q := by
            have : inB 0 6 (k : Int) = true := inB_t.2 ⟨hd0, hd6⟩
            unfold useBoundL; rw [hb, hb2, this, h'.len, Bool.true_and, Bool.true_and, if_pos rfl, hq]; rfl
          have hA := fun w' (l : Le w w') => implLotsAt_any A n c ps k w' (h.le l)
          have hs : sumW (gi (ws.take q)) q = sumTo (gi ws) q := by
            rw [sumW_congr (g := gi ws) fun j hj => gi_take ws hj, wants_sumW hb2 (by rw [h'.len]; exact hqm)]
          have hS := fun w' (l : Le w w') => sumOf_any B q d (ws.take q) w' ((h'.le l).take hqm)
          rw [hs] at hS
          obtain ⟨b1, b2⟩ := lotsAtL_b hb (k : Int)
          obtain ⟨b3, b4⟩ := wants_sum hb2 (k := q) (by rw [h'.len]; exact hqm)
          have e1 : useBoundL ps ws k = sumTo (gi ws) q + lotsAtL ps k := by rw [e0]; omega
          rw [e1]
          have HV := Lib.hid hv
          have HW := Lib.hid hw
          have HA := Lib.hid hA
          have HS := Lib.hid hS
          clear hv hb hb2 e0 e1 h hw hA hS hs h'
          by_cases hkm : k ≤ m
          · obtain rfl : q = k := by omega
            clear hq
            go_enter Tryd.func26, Tryd.ntmps26
            go_wp2_with fail
            refine HV.out.mono ?_; rintro e w1 ⟨rfl, l1⟩
            go_wp2_with (first | (go_at_call 31; refine (HW.out _ l1).mono ?_; rintro e w' ⟨rfl, rfl⟩) | (go_at_call 64; refine (HS.out _ l1).mono ?_; rintro e w' ⟨rfl, rfl⟩) | (go_at_call 21; refine (HA.out _ l1).mono ?_; rintro e w2 ⟨rfl, l2⟩))
            go_ret
            exact ⟨rfl, l1.trans l2⟩
          · obtain rfl : q = m := by omega
            clear hq
            go_enter Tryd.func26, Tryd.ntmps26
            go_wp2_with fail
            refine HV.out.mono ?_; rintro e w1 ⟨rfl, l1⟩
            go_wp2_with (first | (go_at_call 31; refine (HW.out _ l1).mono ?_; rintro e w' ⟨rfl, rfl⟩) | (go_at_call 64; refine (HS.out _ l1).mono ?_; rintro e w' ⟨rfl, rfl⟩) | (go_at_call 21; refine (HA.out _ l1).mono ?_; rintro e w2 ⟨rfl, l2⟩))
            go_ret
            exact ⟨rfl, l1.trans l2⟩
        · have e0 : useBoundL ps ws day = -1 := by
            have : inB 0 6 day = false := inB_f.2 (by omega)
            simp [useBoundL, this]
          rw [e0]
          have HV := Lib.hid hv
          have HW := Lib.hid hw
          clear hv hb hb2 e0 h hw
          go_enter Tryd.func26, Tryd.ntmps26
          go_wp2_with fail
          refine HV.out.mono ?_; rintro e w1 ⟨rfl, l1⟩
          go_wp2_with (go_at_call 31; refine (HW.out _ l1).mono ?_; rintro e w' ⟨rfl, rfl⟩)
          go_ret
          exact ⟨rfl, l1⟩
      · have e0 : useBoundL ps ws day = -1 := by
          have : inB 0 6 day = false := inB_f.2 (by omega)
          simp [useBoundL, this]
        rw [e0]
        have HV := Lib.hid hv
        have HW := Lib.hid hw
        clear hv hb hb2 e0 h hw
        go_enter Tryd.func26, Tryd.ntmps26
        go_wp2_with fail
        refine HV.out.mono ?_; rintro e w1 ⟨rfl, l1⟩
        go_wp2_with (go_at_call 31; refine (HW.out _ l1).mono ?_; rintro e w' ⟨rfl, rfl⟩)
        go_ret
        exact ⟨rfl, l1⟩

set_option maxRecDepth 20000 in
set_option maxHeartbeats 2000000 in
theorem specUseBound_any (A B : Option Addr) (n m c d : Nat) (ps : List (Int × Int)) (ws : List Int) (day : Int) (w : World) (h : RP w A n ps) (h' : RI w B m ws) :
    Calls Tryd.prog 50 #[.slice A n c, .slice B m d, .int .i64 day] w fun e w' => e = .returned (.int .i64 (useBoundL ps ws day)) ∧ w = w' := by
  have hv := specLotsValid_any A n c ps w h
  have hw := specWantsValid_any B m d ws w h'
  have hi := l1In_any day 0 6 w
  cases hb : lotsL ps
  · rw [hb] at hv
    have e0 : useBoundL ps ws day = -1 := by simp [useBoundL, hb]
    rw [e0]
    have HV := Lib.hid hv
    clear hv hb e0 h
    go_enter Tryd.func50, Tryd.ntmps50
    go_wp2_with (go_at_call 29; refine HV.out.mono ?_; rintro e w1 ⟨rfl, rfl⟩)
    go_ret
    exact ⟨rfl, rfl⟩
  · rw [hb] at hv
    cases hb2 : wantsL ws
    · rw [hb2] at hw
      have e0 : useBoundL ps ws day = -1 := by simp [useBoundL, hb2]
      rw [e0]
      have HV := Lib.hid hv
      have HW := Lib.hid hw
      clear hv hb hb2 e0 h hw
      go_enter Tryd.func50, Tryd.ntmps50
      go_wp2_with (first | (go_at_call 29; refine HV.out.mono ?_; rintro e w1 ⟨rfl, rfl⟩) | (go_at_call 32; refine HW.out.mono ?_; rintro e w1 ⟨rfl, rfl⟩))
      go_ret
      exact ⟨rfl, rfl⟩
    · rw [hb2] at hw
      cases hb3 : inB 0 6 day
      · rw [hb3] at hi
        have e0 : useBoundL ps ws day = -1 := by simp [useBoundL, hb3]
        rw [e0]
        have HV := Lib.hid hv
        have HW := Lib.hid hw
        have HI := Lib.hid hi
        clear hv hb hb2 hb3 e0 h hw hi
        go_enter Tryd.func50, Tryd.ntmps50
        go_wp2_with (first | (go_at_call 29; refine HV.out.mono ?_; rintro e w1 ⟨rfl, rfl⟩) | (go_at_call 32; refine HW.out.mono ?_; rintro e w1 ⟨rfl, rfl⟩) | (go_at_call 67; refine HI.out.mono ?_; rintro e w1 ⟨rfl, rfl⟩))
        go_ret
        exact ⟨rfl, rfl⟩
      · rw [hb3] at hi
        obtain ⟨hd0, hd6⟩ := inB_t.1 hb3
        obtain ⟨k, rfl⟩ : ∃ k : Nat, day = k := ⟨day.toNat, by omega⟩
        have hm := h'.max
        have e0 : useBoundL ps ws k = lotsAtL ps k + sumTo (gi ws) (min k m) := by
          unfold useBoundL; rw [hb, hb2, hb3, h'.len, Bool.true_and, Bool.true_and, if_pos rfl]; rfl
        have hbd : ∀ j, j ≤ m → 0 ≤ sumTo (gi ws) j ∧ sumTo (gi ws) j ≤ 300 := fun j hj => wants_sum hb2 (by rw [h'.len]; exact hj)
        have hwd : ∀ j, j < m → 0 ≤ gi ws j ∧ gi ws j ≤ 50 := fun j hj => (wants_facts h'.len hb2).2 j hj
        have hA := specLotsAt_any A n c ps k w h
        obtain ⟨b1, b2⟩ := lotsAtL_b hb (k : Int)
        have HV := Lib.hid hv
        have HW := Lib.hid hw
        have HI := Lib.hid hi
        have HA := Lib.hid hA
        have HE := Lib.hid e0
        have HB := Lib.hid hbd
        have HWD := Lib.hid hwd
        have HC := Lib.hid h'.at_
        clear hv hb hb2 hb3 e0 h hw hi hA hbd h' hwd
        go_enter Tryd.func50, Tryd.ntmps50
        go_wp2_with (first | (go_at_call 29; refine HV.out.mono ?_; rintro e w1 ⟨rfl, rfl⟩) | (go_at_call 32; refine HW.out.mono ?_; rintro e w1 ⟨rfl, rfl⟩) | (go_at_call 67; refine HI.out.mono ?_; rintro e w1 ⟨rfl, rfl⟩) | (go_at_call 34; refine HA.out.mono ?_; rintro e w1 ⟨rfl, rfl⟩))
        go_loop [7, 8] (fun v i => ∃ j : Nat, j ≤ k ∧ j ≤ m ∧ i = .int .i64 j ∧ v = .int .i64 (lotsAtL ps k + sumTo (gi ws) j)) (fun _ i => m - (intOf i).toNat)
        case atStart => exact ⟨0, Nat.zero_le _, Nat.zero_le _, rfl, by simp [sumTo]⟩
        case round =>
          obtain ⟨j, hjk, hjm, rfl, rfl⟩ := hrel
          by_cases h1 : j < k
          · by_cases h2 : j < m
            · obtain ⟨ad, rfl, hc⟩ := HC.out j h2
              obtain ⟨b3, b4⟩ := HB.out j hjm
              obtain ⟨b5, b6⟩ := HWD.out j h2
              go_wp2
              go_round
              case rel => exact ⟨j + 1, by omega, by omega, by go_num, by rw [sumTo_succ]; go_num⟩
              case measure => simp [intOf]; omega
            · obtain rfl : j = m := by omega
              go_wp2
              go_ret
              refine ⟨ret_int ?_, rfl⟩
              rw [HE.out, show min k j = j by omega]
          · obtain rfl : j = k := by omega
            go_wp2
            go_ret
            refine ⟨ret_int ?_, rfl⟩
            rw [HE.out, show min j m = j by omega]

end Go.Proofs.YteeklaplnhafoaaDoor
