/- Walks: UseMost, SpoilLeast, LackLeast of the program and of the reference. -/
import Derived.Test.YtmemenkioejdoaaDoorWUseH
import Derived.Test.YtmemenkioejdoaaDoorWUseB
namespace Go.Proofs.YtmemenkioejdoaaDoor
open Go.RowKit

theorem foldT_in {ps : List (Int × Int)} (hp : ∀ k, 0 ≤ (gp ps k).1 ∧ (gp ps k).1 ≤ 9) (ks : List Nat) : ∀ s : List Int × Int, (∀ j, 0 ≤ gi s.1 j ∧ gi s.1 j ≤ 9) → 0 ≤ s.2 → (∀ j, 0 ≤ gi (ks.foldl (stepT ps) s).1 j ∧ gi (ks.foldl (stepT ps) s).1 j ≤ 9) := by
  induction ks with
  | nil => intro s h _; exact h
  | cons k ks ih =>
    intro s h h2
    have hk := hp k
    refine ih _ (fun j => ?_) (by unfold stepT; simp only; omega)
    unfold stepT
    simp only
    by_cases hl : k < s.1.length
    · rw [gi_set _ _ _ _ hl]
      split
      · omega
      · exact h j
    · rw [List.set_eq_of_length_le (by omega)]; exact h j
theorem takeFirstL_in (ps : List (Int × Int)) (day want : Int) (j : Nat) : 0 ≤ gi (takeFirstL ps day want) j ∧ gi (takeFirstL ps day want) j ≤ 9 := by
  unfold takeFirstL
  split
  · rename_i h
    rw [Bool.and_eq_true] at h
    obtain ⟨_, hf⟩ := lots_facts rfl h.1
    have hw := inB_t.1 h.2
    refine foldT_in (fun k => ?_) _ _ (fun j => ?_) hw.1 j
    · by_cases hk : k < ps.length
      · exact (hf k hk).1
      · unfold gp; rw [List.getD_eq_getElem?_getD, List.getElem?_eq_none (by omega)]; simp
    · have : gi (initT ps.length want).1 j = 0 := by
        unfold gi initT; rw [List.getD_eq_getElem?_getD]
        by_cases hj : j < ps.length
        · simp [hj]
        · simp [hj]
      omega
  · have : gi [] j = 0 := rfl
    omega
theorem useFirst_sum {ps : List (Int × Int)} {ws : List Int} : 0 ≤ useSumL (useFirstL ps ws) ∧ useSumL (useFirstL ps ws) ≤ 2880 := by
  have hrow : ∀ k, k < (useFirstL ps ws).length → 0 ≤ rowSum (useFirstL ps ws) k ∧ rowSum (useFirstL ps ws) k ≤ 45 := fun k hk => by
    have h5 := useFirstL_row ps ws k hk
    have hin : ∀ j, 0 ≤ gi (gl (useFirstL ps ws) k) j ∧ gi (gl (useFirstL ps ws) k) j ≤ 9 := fun j => by
      unfold useFirstL at hk ⊢
      split
      · rename_i h
        rw [if_pos h] at hk
        rw [gl_range _ _ (by simpa using hk)]
        exact takeFirstL_in _ _ _ j
      · have : gi (gl [] k) j = 0 := rfl
        omega
    unfold rowSum
    rw [sumW_eq 9 (fun j _ => hin j) (by omega)]
    have := sumTo_bound (f := gi (gl (useFirstL ps ws) k)) (c := 9) (n := (gl (useFirstL ps ws) k).length) (fun j _ => hin j)
    omega
  have hl := useFirstL_len ps ws
  unfold useSumL
  rw [sumW_eq 45 hrow (by omega)]
  have := sumTo_bound (f := rowSum (useFirstL ps ws)) (c := 45) (n := (useFirstL ps ws).length) hrow
  omega

def useMostL (ps : List (Int × Int)) (ws : List Int) : Int := if (lotsL ps && wantsL ws) = true then useSumL (useFirstL ps ws) else -1
def spoilL (ps : List (Int × Int)) (ws : List Int) : Int := if (lotsL ps && wantsL ws) = true then lotsAtL ps 0 - useMostL ps ws else -1
def lackL (ps : List (Int × Int)) (ws : List Int) : Int := if (lotsL ps && wantsL ws) = true then sumTo (gi ws) ws.length - useMostL ps ws else -1

theorem useMost_t {ps : List (Int × Int)} {ws : List Int} (hb : lotsL ps = true) (hb2 : wantsL ws = true) : 0 ≤ useMostL ps ws ∧ useMostL ps ws ≤ 2880 := by
  unfold useMostL; rw [hb, hb2, Bool.true_and, if_pos rfl]; exact useFirst_sum
theorem useMost_f {ps : List (Int × Int)} {ws : List Int} (h : (lotsL ps && wantsL ws) = false) : useMostL ps ws = -1 := by
  unfold useMostL; rw [h]; rfl

end Go.Proofs.YtmemenkioejdoaaDoor
