/- Walks: PlanCost of both. -/
import Derived.Test.YtoahjfofnaafaaaDoorWPlan
namespace Go.Proofs.YtoahjfofnaafaaaDoor
open Go.RowKit

def costAt (ts : List It) (ps rs : List Int) (k : Nat) : Int := if (gm ts k).1 = 0 then gi rs k * gi ps k else 0
def planCostL (ts : List It) (ps rs : List Int) : Int := if (pricesL ts ps && amountsOkL rs ts.length 9999999) = true then sumTo (costAt ts ps rs) ts.length else -1
theorem amounts_facts {xs : List Int} {n : Nat} {g : Int} (h : amountsOkL xs (n : Int) g = true) : xs.length = n ∧ ∀ k, k < n → 0 ≤ gi xs k ∧ gi xs k ≤ g := by
  unfold amountsOkL at h
  rw [Bool.and_eq_true, all_iff_gi, decide_eq_true_eq] at h
  obtain ⟨h1, h2⟩ := h
  have h3 : xs.length = n := by omega
  exact ⟨h3, fun k hk => inB_t.1 (h2 k (by omega))⟩
theorem cost_b {ts : List It} {ps rs : List Int} {n : Nat} (hp : ∀ k, k < n → 0 ≤ gi ps k ∧ gi ps k ≤ 20) (hr : ∀ k, k < n → 0 ≤ gi rs k ∧ gi rs k ≤ 9999999) : ∀ k, k < n → 0 ≤ costAt ts ps rs k ∧ costAt ts ps rs k ≤ 199999980 := by
  intro k hk
  have h1 := hp k hk
  have h2 := hr k hk
  unfold costAt
  split
  · have h3 : 0 ≤ gi rs k * gi ps k := Int.mul_nonneg h2.1 h1.1
    have h4 : gi rs k * gi ps k ≤ 9999999 * 20 := Int.mul_le_mul h2.2 h1.2 h1.1 (by decide)
    omega
  · omega

set_option maxRecDepth 20000 in
set_option maxHeartbeats 2000000 in
theorem implCost_any (A B C D : Option Addr) (n m r q c d e f : Nat) (ts : List It) (ps rs ls : List Int) (w : World) (h : RM w A n ts) (h' : RI w B m ps) (h'' : RI w C r rs) (_g : RI w D q ls) :
    Calls Tryd.prog 22 #[.slice A n c, .slice B m d, .agg #[.slice C r e, .slice D q f]] w fun o w' => o = .returned (.int .i64 (planCostL ts ps rs)) ∧ Le w w' := by
  have l0 := (Le.refl w).alloc (.cells #[.slice C r e, .slice D q f] 42)
  have hv := implPrices_any A B n m c d ts ps _ (h.le l0) (h'.le l0)
  have ha := fun w' (l : Le w w') => amountsOk_any C r e rs n 9999999 w' (h''.le l)
  have hm := h.max
  have k0 := Blk.new w 42 #[.slice C r e, .slice D q f]
  have e1 : planCostL ts ps rs = if (pricesL ts ps && amountsOkL rs n 9999999) = true then sumTo (costAt ts ps rs) n else -1 := by unfold planCostL; rw [h.len]
  rw [e1]
  have HA := Lib.hid ha
  have L0 := Lib.hid l0
  have K0 := Lib.hid k0
  have HC := Lib.hid h.at_
  have HC2 := Lib.hid h'.at_
  have HC3 := Lib.hid h''.at_
  have hl := h.len
  have hlp := h'.len
  have hlr := h''.len
  clear ha l0 k0 h h' h'' e1
  cases hb : pricesL ts ps
  · rw [hb] at hv
    have HV := Lib.hid hv
    clear hv hb
    simp only [Bool.false_and, Bool.false_eq_true, if_false]
    go_enter Tryd.func22, Tryd.ntmps22
    go_wp2_with (go_at_call 59; refine HV.out.mono ?_; rintro e w1 ⟨rfl, l1⟩)
    go_ret
    exact ⟨rfl, L0.out.trans l1⟩
  · rw [hb] at hv
    have HV := Lib.hid hv
    clear hv
    cases hb2 : amountsOkL rs n 9999999
    · simp only [hb2] at HA
      simp only [Bool.and_false, Bool.false_eq_true, if_false]
      clear hb hb2
      go_enter Tryd.func22, Tryd.ntmps22
      go_wp2_with fail
      refine HV.out.mono ?_; rintro e w1 ⟨rfl, l1⟩
      have a0 := (K0.out.le l1).cell 0
      have l2 := L0.out.trans l1
      simp at a0
      clear l1
      go_wp2_with (go_at_call 60; refine (HA.out _ l2).mono ?_; rintro e w' ⟨rfl, rfl⟩)
      go_ret
      exact ⟨rfl, l2⟩
    · simp only [hb2] at HA
      simp only [Bool.and_true, if_true]
      obtain ⟨hrl, hrf⟩ := amounts_facts hb2
      unfold pricesL at hb
      rw [Bool.and_eq_true, hl] at hb
      obtain ⟨hpl, hpf⟩ := amounts_facts hb.2
      obtain ⟨hn6, hf⟩ := items_facts hl hb.1
      have hcb := cost_b (ts := ts) hpf hrf
      have hsb : ∀ k, k ≤ n → 0 ≤ sumTo (costAt ts ps rs) k ∧ sumTo (costAt ts ps rs) k ≤ k * 199999980 := fun k hk => sumTo_bound fun j hj => hcb j (by omega)
      have hmul : ∀ k, k < n → 0 ≤ gi rs k * gi ps k ∧ gi rs k * gi ps k ≤ 199999980 := fun k hk => by
        have h1 := hpf k hk
        have h2 := hrf k hk
        have h3 : 0 ≤ gi rs k * gi ps k := Int.mul_nonneg h2.1 h1.1
        have h4 : gi rs k * gi ps k ≤ 9999999 * 20 := Int.mul_le_mul h2.2 h1.2 h1.1 (by decide)
        omega
      have HSB := Lib.hid hsb
      have HMU := Lib.hid hmul
      clear hb hb2 hpf hrf hf hcb hsb hmul
      generalize hwa : w.alloc (.cells #[.slice C r e, .slice D q f] 42) = wa at *
      go_enter Tryd.func22, Tryd.ntmps22
      go_wp2_with fail
      refine HV.out.mono ?_; rintro o w1 ⟨rfl, l1⟩
      have a0 := (K0.out.le l1).cell 0
      have l2 := L0.out.trans l1
      simp at a0
      have LW1 := Lib.hid l1
      clear l1
      go_wp2_with (go_at_call 60; refine (HA.out _ l2).mono ?_; rintro e w' ⟨rfl, rfl⟩)
      clear a0 l2
      go_loopw [7, 24] (fun v i wr => ∃ k : Nat, k ≤ n ∧ i = .int .i64 k ∧ v = .int .i64 (sumTo (costAt ts ps rs) k) ∧ Le wa wr) (fun _ i _ => n - (intOf i).toNat)
      case atStart => exact ⟨0, Nat.zero_le _, rfl, rfl, LW1.out⟩
      case round =>
        obtain ⟨k, hk, rfl, rfl, hle⟩ := hrel
        by_cases hlt : k < n
        · obtain ⟨ad, B1, m1, d1, rfl, hc1, hc2, hc3, _⟩ := HC.out k hlt
          obtain ⟨ad2, rfl, hc4⟩ := HC2.out k (by omega)
          obtain ⟨ad3, rfl, hc5⟩ := HC3.out k (by omega)
          have lw := L0.out.trans hle
          have c1 := lw.cell hc1
          have c2 := lw.cell hc2
          have c3 := lw.cell hc3
          have c4 := lw.cell hc4
          have c5 := lw.cell hc5
          have a0 := (K0.out.le hle).cell 0
          simp at a0
          obtain ⟨m1', m2'⟩ := HMU.out k hlt
          obtain ⟨s1, s2⟩ := HSB.out k hk
          have hk6 : (k : Int) * 199999980 ≤ 6 * 199999980 := Int.mul_le_mul_of_nonneg_right (by omega) (by decide)
          by_cases hy : (gm ts k).1 = 0
          · have hst : sumTo (costAt ts ps rs) (k + 1) = sumTo (costAt ts ps rs) k + gi rs k * gi ps k := by
              rw [sumTo_succ]; unfold costAt; rw [if_pos hy]
            have hw1 : IntKind.i64.wrap (gi rs k * gi ps k) = gi rs k * gi ps k := IntWalk.i64_in _ (by omega)
            have hw2 : IntKind.i64.wrap (sumTo (costAt ts ps rs) k + gi rs k * gi ps k) = sumTo (costAt ts ps rs) k + gi rs k * gi ps k := IntWalk.i64_in _ (by omega)
            have HST := Lib.hid hst
            have HLE := Lib.hid hle
            clear hst hc1 hc2 hc3 hc4 hc5 lw hle
            rw [hy] at c1
            have l9 := (Le.refl wr).alloc (.cells #[.int .i64 0, .slice B1 m1 d1, .int .i64 (gm ts k).2.2] 26)
            have b0 := l9.cell a0
            have b4 := l9.cell c4
            have b5 := l9.cell c5
            go_wp2
            generalize hwk : wr.alloc (.cells #[.int .i64 0, .slice B1 m1 d1, .int .i64 (gm ts k).2.2] 26) = wk at *
            have hlk : Le wa wk := by rw [← hwk]; exact HLE.out.alloc _
            have HLK := Lib.hid hlk
            clear hwk hlk l9 a0 c4 c5
            go_quiet (fail)
            go_wp2
            go_roundw
            case rel => exact ⟨k + 1, by omega, by go_num, by rw [HST.out], HLK.out.drewN _⟩
            case measure => simp [intOf]; omega
          · have hyf : ((gm ts k).1 == 0) = false := by simpa using hy
            have hst : sumTo (costAt ts ps rs) (k + 1) = sumTo (costAt ts ps rs) k := by
              rw [sumTo_succ]; unfold costAt; rw [if_neg hy]; omega
            have HST := Lib.hid hst
            have HLE := Lib.hid hle
            clear hst hc1 hc2 hc3 hc4 hc5 lw hle hy
            go_wp2
            go_roundw
            case rel => exact ⟨k + 1, by omega, by go_num, by rw [HST.out], HLE.out.alloc _⟩
            case measure => simp [intOf]; omega
        · obtain rfl : k = n := by omega
          go_wp2
          go_ret
          exact ⟨rfl, L0.out.trans hle⟩
end Go.Proofs.YtoahjfofnaafaaaDoor
