/- Walk: PlanCost of the reference. -/
import Derived.Test.YtoahjfofnaafaaaDoorWCost
namespace Go.Proofs.YtoahjfofnaafaaaDoor
open Go.RowKit

set_option maxRecDepth 20000 in
set_option maxHeartbeats 2000000 in
theorem specCost_any (A B C D : Option Addr) (n m r q c d e f : Nat) (ts : List It) (ps rs ls : List Int) (w : World) (h : RM w A n ts) (h' : RI w B m ps) (h'' : RI w C r rs) (_g : RI w D q ls) :
    Calls Tryd.prog 23 #[.slice A n c, .slice B m d, .agg #[.slice C r e, .slice D q f]] w fun o w' => o = .returned (.int .i64 (planCostL ts ps rs)) ∧ Le w w' := by
  have l0 := (Le.refl w).alloc (.cells #[.slice C r e, .slice D q f] 42)
  have hv := specPrices_any A B n m c d ts ps _ (h.le l0) (h'.le l0)
  have hm := h.max
  have hmr := h''.max
  have k0 := Blk.new w 42 #[.slice C r e, .slice D q f]
  have e1 : planCostL ts ps rs = if (pricesL ts ps && amountsOkL rs n 9999999) = true then sumTo (costAt ts ps rs) n else -1 := by unfold planCostL; rw [h.len]
  rw [e1]
  have L0 := Lib.hid l0
  have K0 := Lib.hid k0
  have HC := Lib.hid h.at_
  have HC2 := Lib.hid h'.at_
  have HC3 := Lib.hid h''.at_
  have hl := h.len
  have hlp := h'.len
  have hlr := h''.len
  clear l0 k0 h h' h'' e1
  cases hb : pricesL ts ps
  · rw [hb] at hv
    have HV := Lib.hid hv
    clear hv hb
    simp only [Bool.false_and, Bool.false_eq_true, if_false]
    go_enter Tryd.func23, Tryd.ntmps23
    go_wp2_with (go_at_call 61; refine HV.out.mono ?_; rintro e w1 ⟨rfl, l1⟩)
    go_ret
    exact ⟨rfl, L0.out.trans l1⟩
  · rw [hb] at hv
    have HV := Lib.hid hv
    clear hv
    simp only [Bool.true_and]
    unfold pricesL at hb
    rw [Bool.and_eq_true, hl] at hb
    obtain ⟨hpl, hpf⟩ := amounts_facts hb.2
    obtain ⟨hn6, hf⟩ := items_facts hl hb.1
    by_cases hrn : r = n
    · obtain rfl := hrn.symm
      generalize hwa : w.alloc (.cells #[.slice C n e, .slice D q f] 42) = wa at *
      have HPF := Lib.hid hpf
      clear hb hpf hf
      obtain ⟨V, hV⟩ : ∃ V : Int, V = if amountsOkL rs n 9999999 = true then sumTo (costAt ts ps rs) n else -1 := ⟨_, rfl⟩
      rw [← hV]
      have HVV := Lib.hid hV
      clear hV
      go_enter Tryd.func23, Tryd.ntmps23
      go_wp2_with fail
      refine HV.out.mono ?_; rintro o w1 ⟨rfl, l1⟩
      have a0 := (K0.out.le l1).cell 0
      simp at a0
      have LW1 := Lib.hid l1
      clear l1
      go_wp2
      clear a0
      go_loopw [7, 8] (fun v i wr => ∃ k : Nat, k ≤ n ∧ i = .int .i64 k ∧ v = .int .i64 (sumTo (costAt ts ps rs) k) ∧ Le wa wr ∧ AllTo (fun j => inB 0 9999999 (gi rs j)) k) (fun _ i _ => n - (intOf i).toNat)
      case atStart => exact ⟨0, Nat.zero_le _, rfl, rfl, LW1.out, AllTo.zero _⟩
      case round =>
        obtain ⟨k, hk, rfl, rfl, hle, hin⟩ := hrel
        by_cases hlt : k < n
        · obtain ⟨ad, B1, m1, d1, rfl, hc1, hc2, hc3, _⟩ := HC.out k hlt
          obtain ⟨ad2, rfl, hc4⟩ := HC2.out k (by omega)
          obtain ⟨ad3, rfl, hc5⟩ := HC3.out k (by omega)
          have lw := L0.out.trans hle
          have c1 := lw.cell hc1
          have c4 := lw.cell hc4
          have c5 := lw.cell hc5
          have a0 := (K0.out.le hle).cell 0
          simp at a0
          cases hbk : inB 0 9999999 (gi rs k)
          · have hno : amountsOkL rs n 9999999 = false := amountsOkL_bad (by rw [hlr]; omega) (by have := inB_f.1 hbk; omega)
            have HNO := Lib.hid hno
            clear hno
            go_wp2_with (go_at_call 62; refine (l1In_any _ _ _ _).mono ?_; rintro e w' ⟨rfl, rfl⟩)
            go_ret
            exact ⟨ret_int (by rw [HVV.out, HNO.out]; rfl), lw⟩
          · have hrf := inB_t.1 hbk
            have hpk := HPF.out k (by omega)
            have m1' : 0 ≤ gi rs k * gi ps k := Int.mul_nonneg hrf.1 hpk.1
            have m2' : gi rs k * gi ps k ≤ 9999999 * 20 := Int.mul_le_mul hrf.2 hpk.2 hpk.1 (by decide)
            have hsb : 0 ≤ sumTo (costAt ts ps rs) k ∧ sumTo (costAt ts ps rs) k ≤ k * 199999980 := sumTo_bound fun j hj => cost_b (n := k) (fun i hi => HPF.out i (by omega)) (fun i hi => inB_t.1 (hin i hi)) j hj
            obtain ⟨s1, s2⟩ := hsb
            have hk6 : (k : Int) * 199999980 ≤ 6 * 199999980 := Int.mul_le_mul_of_nonneg_right (by omega) (by decide)
            by_cases hy : (gm ts k).1 = 0
            · have hst : sumTo (costAt ts ps rs) (k + 1) = sumTo (costAt ts ps rs) k + gi rs k * gi ps k := by
                rw [sumTo_succ]; unfold costAt; rw [if_pos hy]
              have hw1 : IntKind.i64.wrap (gi rs k * gi ps k) = gi rs k * gi ps k := IntWalk.i64_in _ (by omega)
              have hw2 : IntKind.i64.wrap (sumTo (costAt ts ps rs) k + gi rs k * gi ps k) = sumTo (costAt ts ps rs) k + gi rs k * gi ps k := IntWalk.i64_in _ (by omega)
              have HST := Lib.hid hst
              have HLE := Lib.hid hle
              clear hst hc1 hc2 hc3 hc4 hc5 lw hle
              rw [hy] at c1
              go_wp2_with (go_at_call 62; refine (l1In_any _ _ _ _).mono ?_; rintro e w' ⟨rfl, rfl⟩)
              go_quiet (fail)
              go_wp2
              go_roundw
              case rel => exact ⟨k + 1, by omega, by go_num, by rw [HST.out], HLE.out.drewN _, hin.succ hbk⟩
              case measure => simp [intOf]; omega
            · have hyf : ((gm ts k).1 == 0) = false := by simpa using hy
              have hst : sumTo (costAt ts ps rs) (k + 1) = sumTo (costAt ts ps rs) k := by
                rw [sumTo_succ]; unfold costAt; rw [if_neg hy]; omega
              have HST := Lib.hid hst
              have HLE := Lib.hid hle
              clear hst hc1 hc2 hc3 hc4 hc5 lw hle hy
              go_wp2_with (go_at_call 62; refine (l1In_any _ _ _ _).mono ?_; rintro e w' ⟨rfl, rfl⟩)
              go_roundw
              case rel => exact ⟨k + 1, by omega, by go_num, by rw [HST.out], HLE.out, hin.succ hbk⟩
              case measure => simp [intOf]; omega
        · obtain rfl : k = n := by omega
          have hyes : amountsOkL rs k 9999999 = true := by
            unfold amountsOkL
            rw [hlr, decide_eq_true rfl, Bool.true_and]
            exact all_iff_gi.2 fun j hj => hin j (by rw [hlr] at hj; exact hj)
          have HYES := Lib.hid hyes
          clear hyes hin
          go_wp2
          go_ret
          exact ⟨ret_int (by rw [HVV.out, HYES.out]; rfl), L0.out.trans hle⟩
    · have hno : amountsOkL rs n 9999999 = false := by
        unfold amountsOkL
        rw [hlr, decide_eq_false (by omega), Bool.false_and]
      rw [hno]
      simp only [Bool.false_eq_true, if_false]
      have hne : ((r : Int) != (n : Int)) = true := by rw [bne_iff_ne]; omega
      clear hno hb hpf hf
      go_enter Tryd.func23, Tryd.ntmps23
      go_wp2_with fail
      refine HV.out.mono ?_; rintro o w1 ⟨rfl, l1⟩
      have a0 := (K0.out.le l1).cell 0
      have l2 := L0.out.trans l1
      simp at a0
      clear l1
      go_wp2
      go_ret
      exact ⟨rfl, l2⟩
end Go.Proofs.YtoahjfofnaafaaaDoor
