/- Walk: PlanOk of the reference. -/
import Derived.Test.YtoahjfofnaafaaaDoorWLeft
namespace Go.Proofs.YtoahjfofnaafaaaDoor
open Go.RowKit

def leftB (L ls : List Int) (k : Nat) : Bool := decide (0 ≤ gi L k) && decide (gi L k = gi ls k)
theorem planOkL_eq (ts : List It) (want stock rs ls : List Int) {n : Nat} (hl : ts.length = n) :
    planOkL ts want stock rs ls = (((itemsL ts && amountsOkL want n 50) && amountsOkL stock n 50) && ((amountsOkL rs n 9999999 && decide (ls.length = n)) && (List.range n).all (leftB (leftL ts want stock rs) ls))) := by
  unfold planOkL planArgsL
  rw [hl]
  rfl
theorem all_bad {n k : Nat} {p : Nat → Bool} (hk : k < n) (h : p k = false) : (List.range n).all p = false := by
  rw [← Bool.not_eq_true, List.all_eq_true]
  intro hh
  rw [hh k (List.mem_range.2 hk)] at h; cases h
theorem all_good {n : Nat} {p : Nat → Bool} (h : AllTo p n) : (List.range n).all p = true := by
  rw [List.all_eq_true]
  intro k hk
  exact h k (List.mem_range.1 hk)
theorem amountsOkL_len {xs : List Int} {n : Nat} {g : Int} (h : xs.length ≠ n) : amountsOkL xs n g = false := by
  unfold amountsOkL
  rw [decide_eq_false (by omega), Bool.false_and]
theorem amountsOkL_all {xs : List Int} {n : Nat} {g : Int} (hl : xs.length = n) (h : AllTo (fun j => inB 0 g (gi xs j)) n) : amountsOkL xs n g = true := by
  unfold amountsOkL
  rw [decide_eq_true (by omega), Bool.true_and]
  exact all_iff_gi.2 fun j hj => h j (by omega)

set_option maxRecDepth 20000 in
set_option maxHeartbeats 4000000 in
theorem specPlanOk_any (A B C D E : Option Addr) (n m r s t c d e f g : Nat) (ts : List It) (want stock rs ls : List Int) (w : World) (h : RM w A n ts) (h1 : RI w B m want) (h2 : RI w C r stock) (h3 : RI w D s rs) (h4 : RI w E t ls) :
    Calls Tryd.prog 30 #[.slice A n c, .slice B m d, .slice C r e, .agg #[.slice D s f, .slice E t g]] w fun o w' => o = .returned (.bool (planOkL ts want stock rs ls)) ∧ Le w w' := by
  have l0 := (Le.refl w).alloc (.cells #[.slice D s f, .slice E t g] 42)
  have k0 := Blk.new w 42 #[.slice D s f, .slice E t g]
  generalize hwz : w.alloc (.cells #[.slice D s f, .slice E t g] 42) = wz at *
  have hv := specItemsValid_any A n c ts wz (h.le l0)
  have ha := fun w' (l : Le wz w') => l1Amounts_any A B n m c d want w' (h1.le (l0.trans l))
  have hb' := fun w' (l : Le wz w') => l1Amounts_any A C n r c e stock w' (h2.le (l0.trans l))
  have hl := h.len
  have hl1 := h1.len
  have hl2 := h2.len
  have hl3 := h3.len
  have hl4 := h4.len
  have hm := h.max
  have hms := h3.max
  have hmt := h4.max
  have e0 := planOkL_eq ts want stock rs ls hl
  have hcell : ∀ w', Le wz w' → w'.cell? ⟨w.heap.size, 0, none⟩ = some (.slice D s f) ∧ w'.cell? ⟨w.heap.size, 1, none⟩ = some (.slice E t g) := fun w' l => ⟨by simpa using (k0.le l).cell 0, by simpa using (k0.le l).cell 1⟩
  have HA := Lib.hid ha
  have HB := Lib.hid hb'
  have HCL := Lib.hid hcell
  have L0 := Lib.hid l0
  have HH := Lib.hid h
  have H1 := Lib.hid h1
  have H2 := Lib.hid h2
  have H3 := Lib.hid h3
  have H4 := Lib.hid h4
  have HC3 := Lib.hid h3.at_
  have HC4 := Lib.hid h4.at_
  clear ha hb' hcell k0 l0 h h1 h2 h3 h4
  rw [e0]
  cases hb : itemsL ts
  · rw [hb] at hv
    have HV := Lib.hid hv
    simp only [Bool.false_and]
    clear hv hb e0
    go_enter Tryd.func30, Tryd.ntmps30
    go_wp2_with (go_at_call 70; refine HV.out.mono ?_; rintro o w1 ⟨rfl, l1⟩)
    go_ret
    exact ⟨rfl, L0.out.trans l1⟩
  · rw [hb] at hv
    have HV := Lib.hid hv
    clear hv
    cases hb2 : amountsOkL want n 50
    · simp only [hb2] at HA
      simp only [Bool.and_false, Bool.false_and]
      clear hb hb2 e0
      go_enter Tryd.func30, Tryd.ntmps30
      go_wp2_with fail
      refine HV.out.mono ?_; rintro o w1 ⟨rfl, l1⟩
      go_wp2_with (go_at_call 71; refine (HA.out _ l1).mono ?_; rintro e w' ⟨rfl, rfl⟩)
      go_ret
      exact ⟨rfl, L0.out.trans l1⟩
    · simp only [hb2] at HA
      cases hb3 : amountsOkL stock n 50
      · simp only [hb3] at HB
        simp only [Bool.and_false, Bool.false_and]
        clear hb hb2 e0 hb3
        go_enter Tryd.func30, Tryd.ntmps30
        go_wp2_with fail
        refine HV.out.mono ?_; rintro o w1 ⟨rfl, l1⟩
        go_wp2_with fail
        refine (HA.out _ l1).mono ?_; rintro e w' ⟨rfl, rfl⟩
        go_wp2_with fail
        refine (HB.out _ l1).mono ?_; rintro e w' ⟨rfl, rfl⟩
        go_wp2
        go_ret
        exact ⟨rfl, L0.out.trans l1⟩
      · simp only [hb3] at HB
        simp only [Bool.true_and]
        have hpa : planArgsL ts want stock = true := by unfold planArgsL; rw [hl, hb, hb2, hb3]; rfl
        obtain ⟨hn6, hok, hw, hs⟩ := plan_args hl hpa
        by_cases hsn : s = n
        · subst hsn
          by_cases htn : t = s
          · have htn := htn.symm
            subst htn
            have hbe1 : ((s : Int) != (s : Int)) = false := by simp
            obtain ⟨V, hV⟩ : ∃ V, V = ((amountsOkL rs s 9999999 && decide (ls.length = s)) && (List.range s).all (leftB (leftL ts want stock rs) ls)) := ⟨_, rfl⟩
            rw [← hV]
            have HVV := Lib.hid hV
            have HOK := Lib.hid hok
            have HW := Lib.hid hw
            have HS := Lib.hid hs
            clear hV hok hw hs hpa hb hb2 hb3 e0
            go_enter Tryd.func30, Tryd.ntmps30
            go_wp2_with fail
            refine HV.out.mono ?_; rintro o w1 ⟨rfl, l1⟩
            obtain ⟨a0, a1⟩ := HCL.out _ l1
            have L1 := Lib.hid l1
            clear l1
            go_wp2_with fail
            refine (HA.out _ L1.out).mono ?_; rintro e w' ⟨rfl, rfl⟩
            go_wp2_with fail
            refine (HB.out _ L1.out).mono ?_; rintro e w' ⟨rfl, rfl⟩
            go_wp2
            go_loop [9] (fun i => ∃ k : Nat, k ≤ s ∧ i = .int .i64 k ∧ AllTo (fun j => inB 0 9999999 (gi rs j)) k) (fun i => s - (intOf i).toNat)
            case atStart => exact ⟨0, Nat.zero_le _, rfl, AllTo.zero _⟩
            case round =>
              obtain ⟨k, hk, rfl, hin⟩ := hrel
              by_cases hlt : k < s
              · obtain ⟨ad, rfl, hc⟩ := HC3.out k hlt
                have c6 := (L0.out.trans L1.out).cell hc
                cases hbk : inB 0 9999999 (gi rs k)
                · have hno : V = false := by
                    rw [HVV.out, amountsOkL_bad (by rw [hl3]; exact hlt) (by have := inB_f.1 hbk; omega), Bool.false_and, Bool.false_and]
                  subst hno
                  clear hc
                  go_wp2_with (go_at_call 62; refine (l1In_any _ _ _ _).mono ?_; rintro e w' ⟨rfl, rfl⟩)
                  go_ret
                  exact ⟨rfl, L0.out.trans L1.out⟩
                · clear hc
                  go_wp2_with (go_at_call 62; refine (l1In_any _ _ _ _).mono ?_; rintro e w' ⟨rfl, rfl⟩)
                  go_round
                  case rel => exact ⟨k + 1, by omega, by go_num, hin.succ hbk⟩
                  case measure => simp [intOf]; omega
              · obtain rfl : k = s := by omega
                have hlw := L0.out.trans L1.out
                have hrr : ∀ q, q < k → 0 ≤ gi rs q ∧ gi rs q ≤ 9999999 := fun q hq => inB_t.1 (hin q hq)
                have hleft := l1Left_any A B C D k m r k c d e f ts want stock rs w1 (HH.out.le hlw) (H1.out.le hlw) (H2.out.le hlw) (H3.out.le hlw) hn6 HOK.out ⟨by rw [← hl1]; exact HW.out.1, HW.out.2⟩ ⟨by rw [← hl2]; exact HS.out.1, HS.out.2⟩ ⟨rfl, hrr⟩
                have HLF := Lib.hid hleft
                have hv1 : V = (List.range k).all (leftB (leftL ts want stock rs) ls) := by
                  rw [HVV.out, amountsOkL_all hl3 hin, hl4]; simp
                have HV1 := Lib.hid hv1
                have hll : (leftL ts want stock rs).length = k := by rw [leftL_length, hl]
                clear hin hrr hleft hv1
                go_wp2_with (go_at_call 72; refine HLF.out.mono ?_; rintro o w2 ⟨v, rfl, ho, l2⟩; obtain ⟨A2, c2, rfl, hri⟩ := own_RI ho (by omega); rw [hll] at hri; have HRI := Lib.hid hri.at_; have L2 := Lib.hid l2; clear ho hri l2)
                generalize leftL ts want stock rs = L at *
                go_loopw [11] (fun i wr => ∃ q : Nat, q ≤ k ∧ i = .int .i64 q ∧ (∃ d, wr = w2.drewN d) ∧ AllTo (leftB L ls) q) (fun i _ => k - (intOf i).toNat)
                case atStart => exact ⟨0, Nat.zero_le _, rfl, ⟨0, rfl⟩, AllTo.zero _⟩
                case round =>
                  obtain ⟨q, hq, rfl, ⟨dd, rfl⟩, hin⟩ := hrel
                  have hlz : Le w (w2.drewN dd) := (hlw.trans L2.out).drewN dd
                  have HLZ := Lib.hid hlz
                  clear hlz
                  by_cases hlt2 : q < k
                  · obtain ⟨ad2, rfl, c7⟩ := HRI.out q hlt2
                    obtain ⟨ad4, rfl, hc8⟩ := HC4.out q hlt2
                    have c8 := (hlw.trans L2.out).cell hc8
                    obtain ⟨b0, b1⟩ := HCL.out _ (L1.out.trans L2.out)
                    have hi1 : (0 : Int) ≤ (q : Int) := by omega
                    have hi2 : (q : Int) < (k : Int) := by omega
                    by_cases hx : gi L q < 0
                    · have hno : V = false := by
                        rw [HV1.out]
                        exact all_bad hlt2 (by unfold leftB; rw [decide_eq_false (by omega), Bool.false_and])
                      have hd : decide (gi L q < 0) = true := by simpa using hx
                      subst hno
                      clear hc8 hin hx
                      go_wp2
                      go_quiet (fail)
                      go_wp2
                      go_ret
                      exact ⟨rfl, HLZ.out.drewN _⟩
                    · have hd : decide (gi L q < 0) = false := by simpa using hx
                      by_cases he : gi L q = gi ls q
                      · have hne : (gi L q != gi ls q) = false := by simp [he]
                        have hgood : leftB L ls q = true := by unfold leftB; rw [decide_eq_true (by omega), decide_eq_true he]; rfl
                        clear hc8 hx he
                        go_wp2
                        go_quiet (fail)
                        go_wp2
                        go_roundw
                        case rel => exact ⟨q + 1, by omega, by go_num, ⟨_, rfl⟩, hin.succ hgood⟩
                        case measure => simp [intOf]; omega
                      · have hne : (gi L q != gi ls q) = true := by simp [he]
                        have hno : V = false := by
                          rw [HV1.out]
                          exact all_bad hlt2 (by unfold leftB; rw [decide_eq_false he, Bool.and_false])
                        subst hno
                        clear hc8 hx he hin
                        go_wp2
                        go_quiet (fail)
                        go_wp2
                        go_ret
                        exact ⟨rfl, HLZ.out.drewN _⟩
                  · obtain rfl : q = k := by omega
                    have hyes : V = true := by rw [HV1.out]; exact all_good hin
                    subst hyes
                    clear hin
                    go_wp2
                    go_ret
                    exact ⟨rfl, HLZ.out⟩
          · have hno : ((amountsOkL rs s 9999999 && decide (ls.length = s)) && (List.range s).all (leftB (leftL ts want stock rs) ls)) = false := by
              rw [decide_eq_false (by omega), Bool.and_false, Bool.false_and]
            rw [hno]
            have hb1 : ((s : Int) != (s : Int)) = false := by simp
            have hb2' : ((t : Int) != (s : Int)) = true := by rw [bne_iff_ne]; omega
            clear hok hw hs hpa hb hb2 hb3 e0 hno
            go_enter Tryd.func30, Tryd.ntmps30
            go_wp2_with fail
            refine HV.out.mono ?_; rintro o w1 ⟨rfl, l1⟩
            obtain ⟨a0, a1⟩ := HCL.out _ l1
            go_wp2_with fail
            refine (HA.out _ l1).mono ?_; rintro e w' ⟨rfl, rfl⟩
            go_wp2_with fail
            refine (HB.out _ l1).mono ?_; rintro e w' ⟨rfl, rfl⟩
            go_wp2
            go_ret
            exact ⟨rfl, L0.out.trans l1⟩
        · have hno : ((amountsOkL rs n 9999999 && decide (ls.length = n)) && (List.range n).all (leftB (leftL ts want stock rs) ls)) = false := by
            rw [amountsOkL_len (by omega), Bool.false_and, Bool.false_and]
          rw [hno]
          have hb1 : ((s : Int) != (n : Int)) = true := by rw [bne_iff_ne]; omega
          clear hok hw hs hpa hb hb2 hb3 e0 hno
          go_enter Tryd.func30, Tryd.ntmps30
          go_wp2_with fail
          refine HV.out.mono ?_; rintro o w1 ⟨rfl, l1⟩
          obtain ⟨a0, a1⟩ := HCL.out _ l1
          go_wp2_with fail
          refine (HA.out _ l1).mono ?_; rintro e w' ⟨rfl, rfl⟩
          go_wp2_with fail
          refine (HB.out _ l1).mono ?_; rintro e w' ⟨rfl, rfl⟩
          go_wp2
          go_ret
          exact ⟨rfl, L0.out.trans l1⟩
end Go.Proofs.YtoahjfofnaafaaaDoor
