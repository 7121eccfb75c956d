/- Plans that are marked and looked at again; results that are a list of integers and a truth. -/
import Derived.Test.YtbkjfgbafphopaaWPlan
import Derived.Test.YtbkjfgbafphopaaWChg
namespace Go.Proofs.Ytbkjfgbafphopaa
open Go.RowKit

/-- a contract whose result is a list of integers of its own, and a truth -/
theorem slice_retIB {P : Program} {f : FuncId} {args : Array Value} {w : World} {t : TypeId} {L : List Int} {b : Value}
    (h : Calls P f args w fun e w' => ∃ v, e = .returned (.tuple #[v, b]) ∧ w'.ownsRow w.heap.size t 1 v L.length (ints L) ∧ Le w w') (hm : L.length ≤ 9223372036854775807) :
    Calls P f args w fun e w' => ∃ A c, e = .returned (.tuple #[.slice A L.length c, b]) ∧ RI w' A L.length L ∧ w'.ownsRow w.heap.size t 1 (.slice A L.length c) L.length (ints L) ∧ Le w w' :=
  h.mono fun e w' ⟨v, he, ho, hl⟩ => by
    obtain ⟨A, c, rfl, hr⟩ := own_RI ho hm
    exact ⟨A, c, he, hr, ho, hl⟩

theorem Chg.blk {lo hi : Nat} {w w' : World} {g : Nat} {t : TypeId} {cs : Array Value} (h : Blk w g t cs) (hc : Chg lo hi w w') (hb : hi ≤ g) : Blk w' g t cs := (hc.block g h.lt (.inr hb)).trans h
set_option maxHeartbeats 1000000 in
theorem markPlan_own (A : Option Addr) (n c : Nat) (B : Option Addr) (m d base hi : Nat) (xs ys : List Int) (k : Int) (w : World)
    (o1 : w.ownsRow base 3 1 (.slice A n c) n (ints xs)) (o2 : w.ownsRow base 3 1 (.slice B m d) m (ints ys))
    (hab : ∀ g, (Value.slice A n c).ownBlock = some g → (Value.slice B m d).ownBlock ≠ some g)
    (t1 : ∀ g, (Value.slice A n c).ownBlock = some g → g < hi) (t2 : ∀ g, (Value.slice B m d).ownBlock = some g → g < hi)
    (hn : n ≤ 1048576) (hm : m ≤ 1048576) (k0 : 0 ≤ k) (k1 : k ≤ 16777216) :
    Calls Try.prog 43 #[.agg #[.slice A n c, .slice B m d], .int .i64 k] w fun e w' => e = .returned (.int .i64 (k + n + m)) ∧ w'.ownsRow base 3 1 (.slice A n c) n (ints (upFrom k n)) ∧ w'.ownsRow base 3 1 (.slice B m d) m (ints (upFrom (k + n) m)) ∧ Chg base hi w w' := by
  have l0 := (Le.refl w).alloc (.cells #[.slice A n c, .slice B m d] 40)
  have q1 := markIntS_own A n c base xs k _ (own_Le o1 l0) hn k0 (by omega)
  have b0 := Blk.new w 40 #[.slice A n c, .slice B m d]
  have far1 : some w.heap.size ≠ (Value.slice A n c).ownBlock := fun e => by have := (o1.lt _ e.symm).2; omega
  have far2 : some w.heap.size ≠ (Value.slice B m d).ownBlock := fun e => by have := (o2.lt _ e.symm).2; omega
  have hk2 : k + n ≤ 1073741824 := by omega
  have hk3 : 0 ≤ k + n := by omega
  have L0 := Lib.hid l0
  have Q1 := Lib.hid q1
  have B0 := Lib.hid b0
  clear l0 q1 b0
  go_enter Try.func43, Try.ntmps43
  go_wp2_with fail
  refine Q1.out.mono ?_; rintro e w1 ⟨rfl, p1, g1⟩
  have o2' := (own_Le o2 L0.out).kept g1 (by
    cases hv : (Value.slice B m d).ownBlock with
    | none => exact .inl rfl
    | some b => exact .inr fun e => hab b e.symm hv)
  have a1 := (B0.out.grown g1 far1).cell 1
  simp at a1
  go_wp2_with fail
  refine (markIntS_own B m d base ys (k + n) _ o2' hm hk3 hk2).mono ?_; rintro e w2 ⟨rfl, p2, g2⟩
  go_wp2
  go_ret
  refine ⟨rfl, p1.kept g2 ?_, p2, ((Chg.of_le L0.out).trans (Chg.of_gb g1 fun g hg => ⟨(o1.lt g hg).1, t1 g hg⟩)).trans (Chg.of_gb g2 fun g hg => ⟨(o2.lt g hg).1, t2 g hg⟩)⟩
  cases hv : (Value.slice A n c).ownBlock with
  | none => exact .inl rfl
  | some b => exact .inr fun e => hab b hv e.symm

set_option maxHeartbeats 1000000 in
theorem heldPlan_any (A : Option Addr) (n c : Nat) (B : Option Addr) (m d : Nat) (k : Int) (w : World) (h : RI w A n (upFrom k n)) (h' : RI w B m (upFrom (k + n) m))
    (hn : n ≤ 1048576) (hm : m ≤ 1048576) (k0 : 0 ≤ k) (k1 : k ≤ 16777216) :
    Calls Try.prog 46 #[.agg #[.slice A n c, .slice B m d], .int .i64 k] w fun e w' => e = .returned (.int .i64 (k + n + m)) ∧ Le w w' := by
  have l0 := (Le.refl w).alloc (.cells #[.slice A n c, .slice B m d] 40)
  have q1 := heldIntS_any A n c k _ (h.le l0) hn k0 (by omega)
  have q2 := heldIntS_any B m d (k + n) _ (h'.le l0) hm (by omega) (by omega)
  have hk3 : 0 ≤ k + n := by omega
  have L0 := Lib.hid l0
  have Q1 := Lib.hid q1
  have Q2 := Lib.hid q2
  clear l0 q1 q2 h h'
  go_enter Try.func46, Try.ntmps46
  go_wp2_with fail
  refine Q1.out.mono ?_; rintro e w1 ⟨rfl, rfl⟩
  go_wp2_with fail
  refine Q2.out.mono ?_; rintro e w2 ⟨rfl, rfl⟩
  go_wp2
  go_ret
  exact ⟨rfl, L0.out⟩
end Go.Proofs.Ytbkjfgbafphopaa
