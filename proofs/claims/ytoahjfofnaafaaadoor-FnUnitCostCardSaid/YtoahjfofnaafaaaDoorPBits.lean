/- Plain laws: 'and' and 'or' of small sets, as the machine reckons them. -/
import Derived.Test.YtoahjfofnaafaaaDoorKit
import Derived.WalkKit
import Derived.Laws.ShiftsVarLaws
namespace Go.Proofs.YtoahjfofnaafaaaDoor
open Go.RowKit

theorem ofInt_nat (a : Nat) : (BitVec.ofInt 64 (a : Int)) = BitVec.ofNat 64 a := by
  apply BitVec.eq_of_toNat_eq
  simp
theorem bits_or_nat (a b : Nat) (ha : a < 4294967296) (hb : b < 4294967296) : bits .or .i64 (a : Int) (b : Int) = ((a ||| b : Nat) : Int) := by
  have h1 : a ||| b < 2 ^ 32 := Nat.or_lt_two_pow (by omega) (by omega)
  unfold bits
  show IntKind.i64.wrap ((BitVec.ofInt 64 (a : Int) ||| BitVec.ofInt 64 (b : Int)).toNat : Int) = _
  rw [ofInt_nat, ofInt_nat, BitVec.toNat_or, BitVec.toNat_ofNat, BitVec.toNat_ofNat, Nat.mod_eq_of_lt (by omega), Nat.mod_eq_of_lt (by omega)]
  exact IntWalk.i64_in _ (by omega)
theorem bits_and_nat (a b : Nat) (ha : a < 4294967296) (hb : b < 4294967296) : bits .and .i64 (a : Int) (b : Int) = ((a &&& b : Nat) : Int) := by
  have h1 : a &&& b ≤ a := Nat.and_le_left
  unfold bits
  show IntKind.i64.wrap ((BitVec.ofInt 64 (a : Int) &&& BitVec.ofInt 64 (b : Int)).toNat : Int) = _
  rw [ofInt_nat, ofInt_nat, BitVec.toNat_and, BitVec.toNat_ofNat, BitVec.toNat_ofNat, Nat.mod_eq_of_lt (by omega), Nat.mod_eq_of_lt (by omega)]
  exact IntWalk.i64_in _ (by omega)
theorem and_bit (a k : Nat) : (a &&& 2 ^ k = 0) ↔ ¬ a / 2 ^ k % 2 = 1 := by
  have h2 : 0 < 2 ^ k := Nat.pos_of_ne_zero (by simp)
  rw [nat_bit]
  rcases Nat.mod_two_eq_zero_or_one (a / 2 ^ k) with h | h
  · simp [h]
  · simp [h]
end Go.Proofs.YtoahjfofnaafaaaDoor
