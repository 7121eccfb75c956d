/- Walk: UsesOf of the reference. -/
import Derived.Test.YtoahjfofnaafaaaDoorWUses
namespace Go.Proofs.YtoahjfofnaafaaaDoor
open Go.RowKit

theorem or_bit {a b q : Nat} (h : a / 2 ^ q % 2 = 1) : (a ||| b) / 2 ^ q % 2 = 1 := by
  have h1 := Nat.testBit_or a b q
  rw [Nat.testBit_eq_decide_div_mod_eq, Nat.testBit_eq_decide_div_mod_eq, decide_eq_true h, Bool.true_or] at h1
  exact of_decide_eq_true h1
theorem pfN_bit {ps : List (Int × Int)} {s q : Nat} (h : s / 2 ^ q % 2 = 1) (j : Nat) : pfN ps s j / 2 ^ q % 2 = 1 := by
  induction j with
  | zero => exact h
  | succ j ih => exact or_bit ih
theorem shr_bit (s q : Nat) : ((((s : Nat) : Int)) / (2 : Int) ^ q).tmod 2 = ((s / 2 ^ q % 2 : Nat) : Int) := by
  have h1 : ((s : Nat) : Int) / (2 : Int) ^ q = ((s / 2 ^ q : Nat) : Int) := by simp
  rw [h1]
  generalize s / 2 ^ q = x
  rw [Int.tmod_eq_emod_of_nonneg (by omega)]
  omega

end Go.Proofs.YtoahjfofnaafaaaDoor
