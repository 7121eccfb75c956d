/- Walks: MarksOf of both. -/
import Derived.Test.YtoahjfofnaafaaaDoorWUsesB
namespace Go.Proofs.YtoahjfofnaafaaaDoor
open Go.RowKit

theorem pfN_ltB {ps : List (Int × Int)} {s B : Nat} (hs : s < 2 ^ B) : ∀ j, (∀ t, t < j → ofN ps t < B) → pfN ps s j < 2 ^ B := by
  intro j
  induction j with
  | zero => intro _; exact hs
  | succ j ih =>
    intro h
    have h1 := ih fun t ht => h t (by omega)
    have h2 : 2 ^ ofN ps j < 2 ^ B := Nat.pow_lt_pow_right (by omega) (h j (by omega))
    exact Nat.or_lt_two_pow (n := B) h1 h2
theorem uN_ltB {ts : List It} {n index : Nat} (hi : index < n) (hf : ∀ k, k < n → ∀ j, j < (gm ts k).2.1.length → ofN (gm ts k).2.1 j < k) : ∀ d, uN ts index d < 2 ^ (index + 1) := by
  intro d
  induction d with
  | zero => exact Nat.pow_lt_pow_right (by omega) (by omega)
  | succ d ih =>
    unfold uN
    split
    · exact pfN_ltB ih _ (fun t ht => by have := hf (index - d) (by omega) t ht; omega)
    · exact ih
def mN (ts : List It) (s : Nat) : Nat → Nat
  | 0 => 0
  | j + 1 => if s / 2 ^ j % 2 = 1 then mN ts s j ||| (gm ts j).2.2.toNat else mN ts s j
theorem mN_past {ts : List It} {s B : Nat} (hs : s < 2 ^ B) : ∀ j, B ≤ j → mN ts s j = mN ts s B := by
  intro j
  induction j with
  | zero => intro h; rw [show B = 0 by omega]
  | succ j ih =>
    intro h
    by_cases e : B = j + 1
    · rw [e]
    · have h1 := ih (by omega)
      have h2 : s / 2 ^ j = 0 := Nat.div_eq_of_lt (Nat.lt_of_lt_of_le hs (Nat.pow_le_pow_right (by omega) (by omega)))
      show (if s / 2 ^ j % 2 = 1 then mN ts s j ||| (gm ts j).2.2.toNat else mN ts s j) = _
      rw [h2, if_neg (by decide), h1]
theorem mN_lt {ts : List It} {s n : Nat} (hf : ∀ k, k < n → (gm ts k).2.2.toNat < 32) : ∀ j, j ≤ n → mN ts s j < 32 := by
  intro j
  induction j with
  | zero => intro _; show 0 < 32; omega
  | succ j ih =>
    intro h
    unfold mN
    split
    · exact Nat.or_lt_two_pow (n := 5) (ih (by omega)) (hf j (by omega))
    · exact ih (by omega)
def marksOfL (ts : List It) (index : Int) : Int := if itemsL ts = true ∧ 0 ≤ index ∧ index < ts.length then (mN ts (uN ts index.toNat (index.toNat + 1)) (index.toNat + 1) : Nat) else -1

end Go.Proofs.YtoahjfofnaafaaaDoor
