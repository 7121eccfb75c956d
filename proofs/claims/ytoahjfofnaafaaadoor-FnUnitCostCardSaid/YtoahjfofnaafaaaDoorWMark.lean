/- Results that are slices: how a law marks them and looks at them again. -/
import Derived.Test.YtoahjfofnaafaaaDoorWInt
import Derived.Maps.AppendAt
namespace Go.Proofs.YtoahjfofnaafaaaDoor
open Go.RowKit

/-- a contract whose result is a list of integers of its own, as the laws use it -/
theorem slice_ret {P : Program} {f : FuncId} {args : Array Value} {w : World} {t : TypeId} {L : List Int}
    (h : Calls P f args w fun e w' => ∃ v, e = .returned v ∧ w'.ownsRow w.heap.size t 1 v L.length (ints L) ∧ Le w w') (hm : L.length ≤ 9223372036854775807) :
    Calls P f args w fun e w' => ∃ A c, e = .returned (.slice A L.length c) ∧ RI w' A L.length L ∧ w'.ownsRow w.heap.size t 1 (.slice A L.length c) L.length (ints L) ∧ Le w w' :=
  h.mono fun e w' ⟨v, he, ho, hl⟩ => by
    obtain ⟨A, c, rfl, hr⟩ := own_RI ho hm
    exact ⟨A, c, he, hr, ho, hl⟩

theorem own_RI2 {w : World} {base : Nat} {e : TypeId} {A : Option Addr} {n c : Nat} {xs : List Int} (h : w.ownsRow base e 1 (.slice A n c) n (ints xs)) (hm : n ≤ 9223372036854775807) : RI w A n xs := by
  obtain ⟨A', c', he, hr⟩ := own_RI h hm
  injection he with e1 e2 e3
  subst e1
  exact hr
/-- an owned row while only another block, and what is new, turns -/
theorem own_gb {w w' : World} {base : Nat} {e : TypeId} {size : Nat} {v : Value} {n : Nat} {xs : List Value} {row : Option Nat} (h : w.ownsRow base e size v n xs) (hg : w.grownBy w' row) (hb : ∀ g, row = some g → g < base) : w'.ownsRow base e size v n xs := by
  refine h.kept hg ?_
  cases hv : v.ownBlock with
  | none => exact .inl rfl
  | some k =>
    refine .inr fun e => ?_
    have := (h.lt k hv).1
    have := hb k e.symm
    omega
theorem own_Le {w w' : World} {base : Nat} {e : TypeId} {size : Nat} {v : Value} {n : Nat} {xs : List Value} (h : w.ownsRow base e size v n xs) (hl : Le w w') : w'.ownsRow base e size v n xs := by
  obtain ⟨h1, h2⟩ := h
  refine ⟨h1, ?_⟩
  rcases h2 with h2 | ⟨g, cap, cur, hv, hg, hh, r⟩
  · exact Or.inl h2
  · exact Or.inr ⟨g, cap, cur, hv, hg, (Blk.le (t := e) hh hl), r⟩
/-- what the marking of an owned row does, seen from a world of before -/
theorem Le.marked {a w w' : World} {base : Nat} {e : TypeId} {size : Nat} {v : Value} {n : Nat} {xs : List Value} (h : Le a w) (ho : w.ownsRow base e size v n xs) (hb : a.heap.size ≤ base) (hg : w.grownBy w' v.ownBlock) : Le a w' :=
  h.grown hg fun k hk => by have := (ho.lt k hk).1; omega

end Go.Proofs.YtoahjfofnaafaaaDoor
