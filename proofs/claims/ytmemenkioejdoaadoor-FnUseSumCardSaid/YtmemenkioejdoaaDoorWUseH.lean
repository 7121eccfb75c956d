/- Walk: UseFirst of the program. -/
import Derived.Test.YtmemenkioejdoaaDoorWUseG
namespace Go.Proofs.YtmemenkioejdoaaDoor
open Go.RowKit

/-- a contract whose result is a table of its own, as the laws use it -/
theorem OwnL.rii {w : World} {lo hi : Nat} {A : Option Addr} {n c : Nat} {h : Nat → Value} {L : List (List Int)} (o : OwnL w lo hi (.slice A n c) n h (gl L)) (hl : L.length = n) : RII w A n L := by
  obtain ⟨A', c', he, hr⟩ := o.reads hl (fun _ _ => rfl)
  injection he with e1 e2 e3
  subst e1
  exact hr
theorem OwnL.gb {w w' : World} {lo hi : Nat} {v : Value} {n : Nat} {h : Nat → Value} {ts : Nat → List Int} {row : Option Nat} (o : OwnL w lo hi v n h ts) (hg : w.grownBy w' row) (hb : ∀ g, row = some g → g < lo) : OwnL w' lo hi v n h ts :=
  o.chg (lo' := 0) (hi' := lo) (Chg.of_gb hg fun g e => ⟨Nat.zero_le _, hb g e⟩) (.inr (Nat.le_refl _))
theorem slice_retL {P : Program} {f : FuncId} {args : Array Value} {w : World} {L : List (List Int)}
    (h : Calls P f args w fun e w' => ∃ v h, e = .returned v ∧ OwnL w' w.heap.size w'.heap.size v L.length h (gl L) ∧ Le w w') :
    Calls P f args w fun e w' => ∃ A c h, e = .returned (.slice A L.length c) ∧ RII w' A L.length L ∧ OwnL w' w.heap.size w'.heap.size (.slice A L.length c) L.length h (gl L) ∧ Le w w' :=
  h.mono fun e w' ⟨v, h, he, ho, hl⟩ => by
    obtain ⟨A, c, rfl, hr⟩ := ho.reads rfl (fun _ _ => rfl)
    exact ⟨A, c, h, he, hr, ho, hl⟩
theorem useFirstL_len (ps : List (Int × Int)) (ws : List Int) : (useFirstL ps ws).length ≤ 64 := by
  unfold useFirstL
  split
  · rename_i h
    rw [Bool.and_eq_true] at h
    have := (wants_facts rfl h.2).1
    simp; omega
  · exact Nat.zero_le _
theorem useFirstL_row (ps : List (Int × Int)) (ws : List Int) : ∀ j, j < (useFirstL ps ws).length → (gl (useFirstL ps ws) j).length ≤ 5 := by
  intro j hj
  unfold useFirstL at hj ⊢
  split
  · rename_i h
    rw [if_pos h] at hj
    rw [gl_range _ _ (by simpa using hj)]
    exact takeFirstL_small _ _ _
  · rename_i h
    rw [if_neg h] at hj
    simp at hj

end Go.Proofs.YtmemenkioejdoaaDoor
