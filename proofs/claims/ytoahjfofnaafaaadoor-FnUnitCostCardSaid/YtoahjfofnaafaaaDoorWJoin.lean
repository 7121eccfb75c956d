/- Walk: l1Join, the union of two sets. -/
import Derived.Test.YtoahjfofnaafaaaDoorWPrice
namespace Go.Proofs.YtoahjfofnaafaaaDoor
open Go.RowKit

theorem or_step (a b t : Nat) : (a ||| b) % 2 ^ (t + 1) = (a ||| b) % 2 ^ t + (if a / 2 ^ t % 2 = 1 ∨ b / 2 ^ t % 2 = 1 then 2 ^ t else 0) := by
  have h1 : (a ||| b) / 2 ^ t % 2 = if a / 2 ^ t % 2 = 1 ∨ b / 2 ^ t % 2 = 1 then 1 else 0 := by
    have h := Nat.testBit_or a b t
    rw [Nat.testBit_eq_decide_div_mod_eq, Nat.testBit_eq_decide_div_mod_eq, Nat.testBit_eq_decide_div_mod_eq] at h
    rcases Nat.mod_two_eq_zero_or_one ((a ||| b) / 2 ^ t) with e | e
    · rw [e] at h ⊢
      have h' : (decide (a / 2 ^ t % 2 = 1) || decide (b / 2 ^ t % 2 = 1)) = false := by rw [← h]; rfl
      rw [Bool.or_eq_false_iff, decide_eq_false_iff_not, decide_eq_false_iff_not] at h'
      rw [if_neg (fun q => q.elim h'.1 h'.2)]
    · rw [e] at h ⊢
      have h' : (decide (a / 2 ^ t % 2 = 1) || decide (b / 2 ^ t % 2 = 1)) = true := by rw [← h]; rfl
      rw [Bool.or_eq_true, decide_eq_true_eq, decide_eq_true_eq] at h'
      rw [if_pos h']
  rw [Nat.mod_pow_succ, h1]
  split <;> simp
theorem tmod2 (a q : Nat) (ha : a ≤ 1073741824) : (wrap64 ((a : Int) / (q : Int))).tmod 2 = ((a / q % 2 : Nat) : Int) := by
  have h1 : ((a : Int) / (q : Int)) = ((a / q : Nat) : Int) := by simp
  have h2 : a / q ≤ a := Nat.div_le_self _ _
  rw [h1]
  generalize a / q = x at *
  rw [IntWalk.wrap64_in _ (by omega), Int.tmod_eq_emod_of_nonneg (by omega)]
  omega

end Go.Proofs.YtoahjfofnaafaaaDoor
