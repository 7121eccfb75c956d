/- Walks: sumOf of the program (with the machine's wrap). -/
import Derived.Test.YtmemenkioejdoaaDoorWInt
import Derived.Test.YtmemenkioejdoaaDoorPPerm
namespace Go.Proofs.YtmemenkioejdoaaDoor
open Go.RowKit

/-- sums as the machine reckons them -/
def sumW (f : Nat → Int) : Nat → Int
  | 0 => 0
  | k + 1 => wrap64 (sumW f k + f k)
theorem sumW_succ (f : Nat → Int) (k : Nat) : sumW f (k + 1) = wrap64 (sumW f k + f k) := rfl
theorem sumW_congr {f g : Nat → Int} {n : Nat} (h : ∀ k, k < n → f k = g k) : sumW f n = sumW g n := by
  induction n with
  | zero => rfl
  | succ n ih => rw [sumW_succ, sumW_succ, ih (fun k hk => h k (by omega)), h n (by omega)]
theorem sumW_eq {f : Nat → Int} {n : Nat} (c : Int) (h : ∀ k, k < n → 0 ≤ f k ∧ f k ≤ c) (hn : n * c ≤ 9223372036854775807) : sumW f n = sumTo f n := by
  induction n with
  | zero => rfl
  | succ n ih =>
    have h1 := sumTo_bound (f := f) (c := c) (n := n + 1) h
    rw [sumTo_succ] at h1
    have hc : 0 ≤ c := by have := h n (by omega); omega
    have h2 : (n : Int) * c ≤ ((n + 1 : Nat) : Int) * c := Int.mul_le_mul_of_nonneg_right (by omega) hc
    rw [sumW_succ, sumTo_succ, ih (fun k hk => h k (by omega)) (by omega), IntWalk.wrap64_in _ (by omega)]

set_option maxRecDepth 20000 in
set_option maxHeartbeats 400000 in
theorem sumOf_any (A : Option Addr) (n c : Nat) (xs : List Int) (w : World) (h : RI w A n xs) :
    Calls Tryd.prog 11 #[.slice A n c] w fun e w' => e = .returned (.int .i64 (sumW (gi xs) n)) ∧ w = w' := by
  have hm := h.max
  have HC := Lib.hid h.at_
  clear h
  go_enter Tryd.func11, Tryd.ntmps11
  go_wp2
  go_loop [3, 8] (fun v i => ∃ k : Nat, k ≤ n ∧ i = .int .i64 k ∧ v = .int .i64 (sumW (gi xs) k)) (fun _ i => n - (intOf i).toNat)
  case atStart => exact ⟨0, Nat.zero_le _, rfl, rfl⟩
  case round =>
    obtain ⟨k, hk, rfl, rfl⟩ := hrel
    by_cases hlt : k < n
    · obtain ⟨ad, rfl, hcell⟩ := HC.out k hlt
      go_wp2
      go_round
      case rel => exact ⟨k + 1, by omega, by go_num, by rw [sumW_succ]⟩
      case measure => simp [intOf]; omega
    · go_wp2
      go_ret
      obtain rfl : k = n := by omega
      exact ⟨rfl, rfl⟩

end Go.Proofs.YtmemenkioejdoaaDoor
