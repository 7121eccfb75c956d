/- Walks: SpansValid, OrderOk, BurnOk of the program and of the reference. -/
import Derived.Test.YtedopialmhpalaaWInt
namespace Go.Proofs.Ytedopialmhpalaa
open Go.RowKit

def spansL (xs : List Int) : Bool := decide (xs.length ≤ 6) && xs.all (inB 0 30)

set_option maxHeartbeats 400000 in
theorem implSpansValid_any (A : Option Addr) (n c : Nat) (xs : List Int) (w : World) (h : RI w A n xs) :
    Calls Try.prog 16 #[.slice A n c] w fun e w' => e = .returned (.bool (spansL xs)) ∧ w = w' := by
  have hm := h.max
  have HL := Lib.hid h.len
  by_cases hn : n ≤ 6
  · go_enter Try.func16, Try.ntmps16
    go_wp2_with (go_at_call 45; refine (amountsOk_any A n c xs _ _ _ h).mono ?_; rintro e w' ⟨rfl, rfl⟩)
    go_ret
    refine ⟨ret_bool ?_, rfl⟩
    unfold spansL amountsOkL
    rw [HL.out]
    simp [hn]
  · go_enter Try.func16, Try.ntmps16
    go_wp2
    go_ret
    refine ⟨ret_bool ?_, rfl⟩
    unfold spansL
    rw [HL.out]
    simp [hn]

set_option maxHeartbeats 400000 in
theorem specSpansValid_any (A : Option Addr) (n c : Nat) (xs : List Int) (w : World) (h : RI w A n xs) :
    Calls Try.prog 14 #[.slice A n c] w fun e w' => e = .returned (.bool (spansL xs)) ∧ w = w' := by
  have hm := h.max
  have HL := Lib.hid h.len
  have HC := Lib.hid h.at_
  clear h
  go_enter Try.func14, Try.ntmps14
  go_wp2
  go_loop [3] (fun i => ∃ k : Nat, k ≤ n ∧ i = .int .i64 k ∧ AllTo (fun j => inB 0 30 (gi xs j)) k) (fun i => n - (intOf i).toNat)
  case atStart => exact ⟨0, Nat.zero_le _, rfl, AllTo.zero _⟩
  case round =>
    obtain ⟨k, hk, rfl, hin⟩ := hrel
    by_cases hlt : k < n
    · obtain ⟨ad, rfl, hcell⟩ := HC.out k hlt
      cases hb : inB 0 30 (gi xs k)
      · go_wp2_with (go_at_call 44; refine (l1In_any _ _ _ _).mono ?_; rintro e w' ⟨rfl, rfl⟩)
        go_ret
        refine ⟨ret_bool ?_, rfl⟩
        have : xs.all (inB 0 30) = false := by
          rw [← Bool.not_eq_true, all_iff_gi]
          intro hh
          have := hh k (by rw [HL.out]; exact hlt)
          rw [hb] at this; cases this
        simp [spansL, this]
      · go_wp2_with (go_at_call 44; refine (l1In_any _ _ _ _).mono ?_; rintro e w' ⟨rfl, rfl⟩)
        go_round
        case rel => exact ⟨k + 1, by omega, by go_num, hin.succ hb⟩
        case measure => simp [intOf]; omega
    · go_wp2
      go_ret
      refine ⟨ret_bool ?_, rfl⟩
      have : xs.all (inB 0 30) = true := all_iff_gi.2 fun j hj => hin.at_ hlt (by rw [← HL.out]; exact hj)
      simp [spansL, this, HL.out]
      try omega

end Go.Proofs.Ytedopialmhpalaa
