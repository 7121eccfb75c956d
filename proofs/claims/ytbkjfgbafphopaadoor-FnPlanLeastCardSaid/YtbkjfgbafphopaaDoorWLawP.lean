/- Small words for the laws on plans. -/
import Derived.Test.YtbkjfgbafphopaaDoorWLawD
import Derived.Test.YtbkjfgbafphopaaDoorWLeastI
import Derived.Test.YtbkjfgbafphopaaDoorWLeastS
import Derived.Test.YtbkjfgbafphopaaDoorPPlanB
import Derived.Test.YtbkjfgbafphopaaDoorWAlive
namespace Go.Proofs.YtbkjfgbafphopaaDoor
open Go.RowKit

theorem plan_retN {P : Program} {f : FuncId} {args : Array Value} {w : World} {t : TypeId} {L M : List Int} {b : Bool}
    (h : Calls P f args w fun e w' => ∃ v1 v2, e = .returned (.tuple #[.agg #[v1, v2], .bool b]) ∧ w'.ownsRow w.heap.size t 1 v1 L.length (ints L) ∧ w'.ownsRow w.heap.size t 1 v2 M.length (ints M) ∧ (∀ g, v1.ownBlock = some g → v2.ownBlock ≠ some g) ∧ Le w w') (hm : L.length ≤ 9223372036854775807) (hn : M.length ≤ 9223372036854775807) :
    Calls P f args w fun e w' => ∃ A c B d, e = .returned (.tuple #[.agg #[.slice A L.length c, .slice B M.length d], .bool b]) ∧ RI w' A L.length L ∧ RI w' B M.length M ∧ Le w w' :=
  h.mono fun e w' ⟨v1, v2, he, o1, o2, ha, hl⟩ => by
    obtain ⟨A, c, rfl, hr⟩ := own_RI o1 hm
    obtain ⟨B, d, rfl, hs⟩ := own_RI o2 hn
    exact ⟨A, c, B, d, he, hr, hs, hl⟩
set_option maxRecDepth 20000 in
set_option maxHeartbeats 1000000 in
theorem samePlan_self (A B A2 B2 : Option Addr) (n m c d c2 d2 : Nat) (xs ys : List Int) (w : World) (h : RI w A n xs) (g : RI w B m ys) (h' : RI w A2 n xs) (g' : RI w B2 m ys) :
    Calls Tryd.prog 48 #[.agg #[.slice A n c, .slice B m d], .agg #[.slice A2 n c2, .slice B2 m d2]] w fun e w' => e = .returned (.bool true) ∧ Le w w' := by
  have l0 : Le w ((w.alloc (.cells #[.slice A n c, .slice B m d] 58)).alloc (.cells #[.slice A2 n c2, .slice B2 m d2] 58)) := ((Le.refl w).alloc _).alloc _
  have k1 : Blk ((w.alloc (.cells #[.slice A n c, .slice B m d] 58)).alloc (.cells #[.slice A2 n c2, .slice B2 m d2] 58)) w.heap.size 58 #[.slice A n c, .slice B m d] := (Blk.new _ _ _).alloc _
  have k2 : Blk ((w.alloc (.cells #[.slice A n c, .slice B m d] 58)).alloc (.cells #[.slice A2 n c2, .slice B2 m d2] 58)) (w.heap.size + 1) 58 #[.slice A2 n c2, .slice B2 m d2] := by
    have := Blk.new (w.alloc (.cells #[.slice A n c, .slice B m d] 58)) 58 #[.slice A2 n c2, .slice B2 m d2]
    simpa using this
  have e1 : ∀ zs : List Int, eqI zs zs = true := fun zs => by simp [eqI]
  have hq1 := sameInts_any A A2 n n c c2 xs xs _ (h.le l0) (h'.le l0)
  have hq2 := fun w' (l : Le w w') => sameInts_any B B2 m m d d2 ys ys w' (g.le l) (g'.le l)
  rw [e1] at hq1
  simp only [e1] at hq2
  have HQ1 := Lib.hid hq1
  have HQ2 := Lib.hid hq2
  have K1 := Lib.hid k1
  have K2 := Lib.hid k2
  have L0 := Lib.hid l0
  clear h h' g g' hq1 hq2 k1 k2 l0 e1
  go_enter Tryd.func48, Tryd.ntmps48
  go_wp2_with fail
  refine HQ1.out.mono ?_; rintro e w1 ⟨rfl, q1, rfl⟩
  have l1 := (Le.refl ((w.alloc (.cells #[.slice A n c, .slice B m d] 58)).alloc (.cells #[.slice A2 n c2, .slice B2 m d2] 58))).drewN q1
  have a1 := (K1.out.le l1).cell 1
  have a2 := (K2.out.le l1).cell 1
  simp at a1 a2
  have L1 := Lib.hid (L0.out.trans l1)
  clear l1
  go_wp2_with fail
  refine (HQ2.out _ L1.out).mono ?_; rintro e w2 ⟨rfl, q2, rfl⟩
  go_wp2
  go_ret
  exact ⟨rfl, L0.out.drewN _⟩
end Go.Proofs.YtbkjfgbafphopaaDoor
