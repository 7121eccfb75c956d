/- Walks: UsesOf of both. -/
import Derived.Test.YtoahjfofnaafaaaDoorWJoin
import Derived.Test.YtoahjfofnaafaaaDoorPBits
namespace Go.Proofs.YtoahjfofnaafaaaDoor
open Go.RowKit

theorem items_facts {ts : List It} {n : Nat} (hl : ts.length = n) (h : itemsL ts = true) : n ≤ 6 ∧ ∀ k, k < n → (0 ≤ (gm ts k).1 ∧ (gm ts k).1 ≤ 6) ∧ (gm ts k).2.1.length ≤ 3 ∧ (0 < (gm ts k).1 ↔ 0 < (gm ts k).2.1.length) ∧ (0 ≤ (gm ts k).2.2 ∧ (gm ts k).2.2 ≤ 31) ∧
    ∀ j, j < (gm ts k).2.1.length → (0 ≤ (gp (gm ts k).2.1 j).1 ∧ (gp (gm ts k).2.1 j).1 < k) ∧ (1 ≤ (gp (gm ts k).2.1 j).2 ∧ (gp (gm ts k).2.1 j).2 ≤ 6) ∧ (0 < j → (gp (gm ts k).2.1 (j - 1)).1 < (gp (gm ts k).2.1 j).1) := by
  unfold itemsL at h
  rw [Bool.and_eq_true, List.all_eq_true, hl, decide_eq_true_eq] at h
  refine ⟨h.1, fun k hk => ?_⟩
  have h2 := h.2 k (List.mem_range.2 hk)
  unfold itemL at h2
  simp only [Bool.and_eq_true, List.all_eq_true, List.mem_range, inB_t, decide_eq_true_eq, beq_iff_eq, decide_eq_decide] at h2
  obtain ⟨hp, ⟨⟨h3, h4⟩, h5⟩, h6⟩ := h2
  refine ⟨h3, h4, h5, h6, fun j hj => ?_⟩
  have h7 := hp j hj
  unfold partB at h7
  simp only [Bool.and_eq_true, Bool.or_eq_true, inB_t, decide_eq_true_eq] at h7
  obtain ⟨⟨q1, q2⟩, q3⟩ := h7
  exact ⟨by omega, q2, fun hj0 => by omega⟩

def ofN (ps : List (Int × Int)) (j : Nat) : Nat := (gp ps j).1.toNat
def pfN (ps : List (Int × Int)) (s : Nat) : Nat → Nat
  | 0 => s
  | j + 1 => pfN ps s j ||| 2 ^ ofN ps j
def uN (ts : List It) (index : Nat) : Nat → Nat
  | 0 => 2 ^ index
  | d + 1 => if uN ts index d / 2 ^ (index - d) % 2 = 1 then pfN (gm ts (index - d)).2.1 (uN ts index d) (gm ts (index - d)).2.1.length else uN ts index d
def usesL (ts : List It) (index : Int) : Int := if itemsL ts = true ∧ 0 ≤ index ∧ index < ts.length then (uN ts index.toNat (index.toNat + 1) : Nat) else -1

theorem pow_lt64 {k : Nat} (h : k < 6) : 2 ^ k < 64 := by
  have : 2 ^ k < 2 ^ 6 := Nat.pow_lt_pow_right (by omega) h
  exact this
theorem wrap_pow {k : Nat} (h : k < 6) : wrap64 ((2 : Int) ^ k) = ((2 ^ k : Nat) : Int) := by
  have h1 := pow_lt64 h
  have h2 : ((2 : Int) ^ k) = ((2 ^ k : Nat) : Int) := by simp
  rw [h2]
  generalize 2 ^ k = x at *
  exact IntWalk.wrap64_in _ (by omega)
theorem pfN_lt {ps : List (Int × Int)} {s : Nat} (hs : s < 64) : ∀ j, (∀ t, t < j → ofN ps t < 6) → pfN ps s j < 64 := by
  intro j
  induction j with
  | zero => intro _; exact hs
  | succ j ih =>
    intro h
    have h1 := ih fun t ht => h t (by omega)
    have h2 : 2 ^ ofN ps j < 2 ^ 6 := Nat.pow_lt_pow_right (by omega) (h j (by omega))
    exact Nat.or_lt_two_pow (n := 6) h1 h2
theorem uN_lt {ts : List It} {n index : Nat} (hn : n ≤ 6) (hi : index < n) (hf : ∀ k, k < n → ∀ j, j < (gm ts k).2.1.length → ofN (gm ts k).2.1 j < 6) : ∀ d, uN ts index d < 64 := by
  intro d
  induction d with
  | zero => exact pow_lt64 (by omega)
  | succ d ih =>
    unfold uN
    split
    · exact pfN_lt ih _ (hf _ (by omega))
    · exact ih

end Go.Proofs.YtoahjfofnaafaaaDoor
