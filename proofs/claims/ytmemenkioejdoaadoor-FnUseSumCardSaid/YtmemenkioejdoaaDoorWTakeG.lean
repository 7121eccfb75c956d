/- Walk: TakeFirst of the program. -/
import Derived.Test.YtmemenkioejdoaaDoorWTakeF
import Derived.Test.YtmemenkioejdoaaDoorWSortC
namespace Go.Proofs.YtmemenkioejdoaaDoor
open Go.RowKit

def oT (ps : List (Int × Int)) (day want : Int) (n : Nat) (ys : List Int) (q : Nat) : List Int × Int := (ys.take q).foldl (stepO ps day) (initT n want)
theorem oT_succ (ps : List (Int × Int)) (day want : Int) (n : Nat) (ys : List Int) {q : Nat} (hq : q < ys.length) : oT ps day want n ys (q + 1) = stepO ps day (oT ps day want n ys q) (gi ys q) := by
  unfold oT
  have : ys.take (q + 1) = ys.take q ++ [gi ys q] := by
    rw [List.take_add_one, gi_getElem? hq]; rfl
  rw [this, List.foldl_append]; rfl
theorem oT_all (ps : List (Int × Int)) (day want : Int) (n : Nat) (ys : List Int) (hl : ys.length = n) : oT ps day want n ys n = ys.foldl (stepO ps day) (initT n want) := by
  unfold oT; rw [List.take_of_length_le (by omega)]
theorem OkT.foldO {ps : List (Int × Int)} {n : Nat} {day : Int} (hg : ∀ k, 0 ≤ (gp ps k).1) (ys : List Int) : ∀ {s : List Int × Int}, OkT n s → OkT n (ys.foldl (stepO ps day) s) := by
  induction ys with
  | nil => intro s h; exact h
  | cons y ys ih =>
    intro s h
    refine ih ?_
    unfold stepO
    split
    · exact h
    · exact h.step (hg _)

theorem foldT_length (ps : List (Int × Int)) (ks : List Nat) : ∀ s : List Int × Int, (ks.foldl (stepT ps) s).1.length = s.1.length := by
  induction ks with
  | nil => intro s; rfl
  | cons k ks ih => intro s; rw [List.foldl_cons, ih]; simp [stepT]
theorem takeFirstL_le {ps : List (Int × Int)} {day want : Int} {n m : Nat} (hl : ps.length = n) (h : n ≤ m) : (takeFirstL ps day want).length ≤ m := by
  unfold takeFirstL
  split
  · unfold sT; rw [foldT_length]; simp [initT]; omega
  · exact Nat.zero_le _
theorem imin2 (a b : Int) : (if b < a then b else a) = min b a := by split <;> omega

end Go.Proofs.YtmemenkioejdoaaDoor
