/- Walks: PricesValid of both. -/
import Derived.Test.YtoahjfofnaafaaaDoorWItW
namespace Go.Proofs.YtoahjfofnaafaaaDoor
open Go.RowKit

def pricesL (ts : List It) (ps : List Int) : Bool := itemsL ts && amountsOkL ps ts.length 20

set_option maxRecDepth 20000 in
set_option maxHeartbeats 1000000 in
theorem implPrices_any (A B : Option Addr) (n m c d : Nat) (ts : List It) (ps : List Int) (w : World) (h : RM w A n ts) (h' : RI w B m ps) :
    Calls Tryd.prog 59 #[.slice A n c, .slice B m d] w fun e w' => e = .returned (.bool (pricesL ts ps)) ∧ Le w w' := by
  have hv := implItemsValid_any A n c ts w h
  have ha := fun w' (l : Le w w') => amountsOk_any B m d ps n 20 w' (h'.le l)
  have e0 : pricesL ts ps = (itemsL ts && amountsOkL ps n 20) := by unfold pricesL; rw [h.len]
  rw [e0]
  have hm := h.max
  have HV := Lib.hid hv
  have HA := Lib.hid ha
  clear hv ha h h' e0
  cases hb : itemsL ts
  · rw [hb] at HV
    go_enter Tryd.func59, Tryd.ntmps59
    go_wp2_with (go_at_call 73; refine HV.out.mono ?_; rintro e w1 ⟨rfl, l1⟩)
    go_ret
    exact ⟨rfl, l1⟩
  · rw [hb] at HV
    go_enter Tryd.func59, Tryd.ntmps59
    go_wp2_with (first | (go_at_call 73; refine HV.out.mono ?_; rintro e w1 ⟨rfl, l1⟩) | (go_at_call 60; refine (HA.out _ l1).mono ?_; rintro e w' ⟨rfl, rfl⟩))
    go_ret
    exact ⟨rfl, l1⟩

set_option maxRecDepth 20000 in
set_option maxHeartbeats 1000000 in
theorem specPrices_any (A B : Option Addr) (n m c d : Nat) (ts : List It) (ps : List Int) (w : World) (h : RM w A n ts) (h' : RI w B m ps) :
    Calls Tryd.prog 61 #[.slice A n c, .slice B m d] w fun e w' => e = .returned (.bool (pricesL ts ps)) ∧ Le w w' := by
  have hv := specItemsValid_any A n c ts w h
  have hm := h'.max
  have hmn := h.max
  have HL := Lib.hid h.len
  have HL2 := Lib.hid h'.len
  have HV := Lib.hid hv
  have HC := Lib.hid h'.at_
  clear hv h h'
  go_enter Tryd.func61, Tryd.ntmps61
  go_wp2
  go_loop [5] (fun i => ∃ k : Nat, k ≤ m ∧ i = .int .i64 k ∧ AllTo (fun j => inB 0 20 (gi ps j)) k) (fun i => m - (intOf i).toNat)
  case atStart => exact ⟨0, Nat.zero_le _, rfl, AllTo.zero _⟩
  case round =>
    obtain ⟨k, hk, rfl, hin⟩ := hrel
    by_cases hlt : k < m
    · obtain ⟨ad, rfl, c1⟩ := HC.out k hlt
      cases hb : inB 0 20 (gi ps k)
      · have hno : pricesL ts ps = false := by
          unfold pricesL
          rw [amountsOkL_bad (by rw [HL2.out]; exact hlt) (by have := inB_f.1 hb; omega), Bool.and_false]
        have HNO := Lib.hid hno
        clear hno
        go_wp2_with (go_at_call 62; refine (l1In_any _ _ _ _).mono ?_; rintro e w' ⟨rfl, rfl⟩)
        go_ret
        exact ⟨ret_bool HNO.out.symm, Le.refl _⟩
      · go_wp2_with (go_at_call 62; refine (l1In_any _ _ _ _).mono ?_; rintro e w' ⟨rfl, rfl⟩)
        go_round
        case rel => exact ⟨k + 1, by omega, by go_num, hin.succ hb⟩
        case measure => simp [intOf]; omega
    · obtain rfl : k = m := by omega
      have e1 : pricesL ts ps = (itemsL ts && decide ((k : Int) = (n : Int))) := by
        unfold pricesL amountsOkL
        rw [all_iff_gi.2 fun j hj => hin.at_ hlt (by rw [← HL2.out]; exact hj), HL.out, HL2.out, Bool.and_true]
      have E1 := Lib.hid e1
      clear e1 hin
      cases hb : itemsL ts
      · rw [hb] at HV E1
        go_wp2_with (go_at_call 70; refine HV.out.mono ?_; rintro e w1 ⟨rfl, l1⟩)
        go_ret
        exact ⟨ret_bool (by rw [E1.out]; rfl), l1⟩
      · rw [hb] at HV E1
        go_wp2_with (go_at_call 70; refine HV.out.mono ?_; rintro e w1 ⟨rfl, l1⟩)
        go_ret
        exact ⟨ret_bool (by rw [E1.out, Bool.true_and, Bool.eq_iff_iff]; simp), l1⟩
end Go.Proofs.YtoahjfofnaafaaaDoor
