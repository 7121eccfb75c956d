/- Walks: UseOk of the program and of the reference. -/
import Derived.Test.YtmemenkioejdoaaDoorWUseS
import Derived.Test.YtmemenkioejdoaaDoorWTakeC
namespace Go.Proofs.YtmemenkioejdoaaDoor
open Go.RowKit

/-- the lots that are left after k days -/
def restL (ps : List (Int × Int)) (tt : List (List Int)) : Nat → List (Int × Int)
  | 0 => ps
  | k + 1 => takeDoR (restL ps tt k) k (gl tt k)
theorem restL_succ (ps : List (Int × Int)) (tt : List (List Int)) (k : Nat) : restL ps tt (k + 1) = takeDoR (restL ps tt k) k (gl tt k) := rfl
def dayOk (ps : List (Int × Int)) (ws : List Int) (tt : List (List Int)) (k : Nat) : Bool := takeOkL (restL ps tt k) k (gl tt k) && decide (rowSum tt k ≤ gi ws k)
def useOkL (ps : List (Int × Int)) (ws : List Int) (tt : List (List Int)) : Bool := ((lotsL ps && wantsL ws) && decide (tt.length = ws.length)) && (List.range tt.length).all (dayOk ps ws tt)
theorem useOkL_f {ps : List (Int × Int)} {ws : List Int} {tt : List (List Int)} {n k : Nat} (hl : tt.length = n) (hk : k < n) (h : dayOk ps ws tt k = false) : useOkL ps ws tt = false := by
  unfold useOkL
  have : (List.range tt.length).all (dayOk ps ws tt) = false := by
    rw [← Bool.not_eq_true, List.all_eq_true]
    intro hh
    rw [hh k (List.mem_range.2 (by omega))] at h; cases h
  rw [this, Bool.and_false]
theorem useOkL_t {ps : List (Int × Int)} {ws : List Int} {tt : List (List Int)} {n : Nat} (hl : tt.length = n) (h1 : lotsL ps = true) (h2 : wantsL ws = true) (h3 : ws.length = n) (h : ∀ k, k < n → dayOk ps ws tt k = true) : useOkL ps ws tt = true := by
  unfold useOkL
  rw [h1, h2, hl, h3, Bool.true_and, Bool.true_and, decide_eq_true rfl, Bool.true_and, List.all_eq_true]
  intro k hk; exact h k (List.mem_range.1 hk)
theorem dayOk_2 {ps : List (Int × Int)} {ws : List Int} {tt : List (List Int)} {k : Nat} (h : gi ws k < rowSum tt k) : dayOk ps ws tt k = false := by
  unfold dayOk; rw [decide_eq_false (by omega), Bool.and_false]
theorem dayOk_1 {ps : List (Int × Int)} {ws : List Int} {tt : List (List Int)} {k : Nat} (h : takeOkL (restL ps tt k) k (gl tt k) = false) : dayOk ps ws tt k = false := by
  unfold dayOk; rw [h, Bool.false_and]
theorem dayOk_t {ps : List (Int × Int)} {ws : List Int} {tt : List (List Int)} {k : Nat} (h : takeOkL (restL ps tt k) k (gl tt k) = true) (h2 : rowSum tt k ≤ gi ws k) : dayOk ps ws tt k = true := by
  unfold dayOk; rw [h, Bool.true_and, decide_eq_true h2]
theorem takeDoR_small (ps : List (Int × Int)) (day : Int) (take : List Int) : (takeDoR ps day take).length ≤ 9223372036854775807 := by
  unfold takeDoR
  split
  · rename_i h
    rw [takeDoL_length]
    obtain ⟨h1, _⟩ := takeOk_facts rfl h
    have := (lots_facts rfl h1).1
    omega
  · exact Nat.zero_le _

end Go.Proofs.YtmemenkioejdoaaDoor
