/- Walks: FreeOf of both. -/
import Derived.Test.YtoahjfofnaafaaaDoorWMarks
import Derived.Test.YtoahjfofnaafaaaDoorWApp
import Derived.LoopN
namespace Go.Proofs.YtoahjfofnaafaaaDoor
open Go.RowKit

theorem infoIntF : (Tryd.prog.info? 3).map (fun i => (i.zero, i.size, i.bytes)) = some (some (.int .i64 0), 1, 8) := by kernel_rfl
/-- the allergens of item k -/
def mkN (ts : List It) (k : Nat) : Nat := mN ts (uN ts k (k + 1)) (k + 1)
def freesTo (ts : List It) (a : Nat) : Nat → List Int
  | 0 => []
  | k + 1 => if 0 < (gm ts k).1 ∧ mkN ts k &&& a = 0 then freesTo ts a k ++ [(k : Int)] else freesTo ts a k
def freeL (ts : List It) (avoid : Int) : List Int := if itemsL ts = true ∧ 0 ≤ avoid ∧ avoid ≤ 31 then freesTo ts avoid.toNat ts.length else []
theorem freesTo_len (ts : List It) (a : Nat) : ∀ k, (freesTo ts a k).length ≤ k := by
  intro k
  induction k with
  | zero => exact Nat.le_refl _
  | succ k ih =>
    unfold freesTo
    split
    · rw [List.length_append]; simp; omega
    · omega
theorem freeL_len {ts : List It} {avoid : Int} {n : Nat} (hl : ts.length = n) : (freeL ts avoid).length ≤ n := by
  unfold freeL
  split
  · rw [hl]; exact freesTo_len _ _ _
  · exact Nat.zero_le _
theorem marks_at {ts : List It} {n k : Nat} (hl : ts.length = n) (hk : k < n) (hb : itemsL ts = true) : marksOfL ts k = (mkN ts k : Nat) ∧ mkN ts k < 32 := by
  obtain ⟨hn6, hf⟩ := items_facts hl hb
  refine ⟨by unfold marksOfL mkN; rw [if_pos ⟨hb, by omega, by omega⟩, Int.toNat_natCast], ?_⟩
  exact mN_lt (n := n) (fun j hj => by have := (hf j hj).2.2.2.1; omega) _ (by omega)
theorem meet_32 : ∀ a, a < 32 → ∀ b, b < 32 → (a ||| b) + (a &&& b) = a + b := by decide +kernel


end Go.Proofs.YtoahjfofnaafaaaDoor
