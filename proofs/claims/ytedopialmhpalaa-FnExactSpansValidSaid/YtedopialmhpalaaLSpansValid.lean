/- FnExactSpansValid: the law's walk. -/
import Derived.Test.YtedopialmhpalaaWCookA
namespace Go.Proofs.Ytedopialmhpalaa
open Go.RowKit

theorem eqI_self (xs : List Int) : eqI xs xs = true := by simp [eqI]

set_option maxHeartbeats 400000 in
theorem law_SpansValid (w : World) (A : Option Addr) (n c : Nat) (xs : List Int) (h : RI w A n xs) (_ : W64 xs) :
    Calls Try.prog 4 #[.slice A n c] w fun e w' => e = .returned (.bool true) ∧ Le w w' := by
  have hm := h.max
  have HL := Lib.hid h.len
  by_cases hn : n ≤ 1048576
  · go_enter Try.func4, Try.ntmps4
    go_wp2_with fail
    refine (toIntS_any _ _ _ _ _ h hn).mono ?_; rintro e w1 ⟨rfl, b1, l1⟩
    go_wp2_with fail
    refine (specSpansValid_any _ _ _ _ _ (b1.RI_ HL.out hm)).mono ?_; rintro e w1' ⟨rfl, rfl⟩
    go_wp2_with fail
    refine (toIntS_any _ _ _ _ _ (h.le l1) hn).mono ?_; rintro e w2 ⟨rfl, b2, l2⟩
    go_wp2_with fail
    refine (implSpansValid_any _ _ _ _ _ (b2.RI_ HL.out hm)).mono ?_; rintro e w2' ⟨rfl, rfl⟩
    go_wp2_with fail
    refine (toIntS_any _ _ _ _ _ (h.le (l1.trans l2)) hn).mono ?_; rintro e w3 ⟨rfl, b3, l3⟩
    go_wp2_with fail
    refine (eqIntS_any _ _ _ _ _ _ _ _ _ ((b2.le l3).RI_ HL.out hm) (b3.RI_ HL.out hm)).mono ?_; rintro e w4 ⟨rfl, q, rfl⟩
    rw [eqI_self]
    go_wp2
    go_ret
    exact ⟨rfl, ((l1.trans l2).trans l3).drewN q⟩
  · go_enter Try.func4, Try.ntmps4
    go_wp2
    go_ret
    exact ⟨rfl, Le.refl _⟩
end Go.Proofs.Ytedopialmhpalaa
