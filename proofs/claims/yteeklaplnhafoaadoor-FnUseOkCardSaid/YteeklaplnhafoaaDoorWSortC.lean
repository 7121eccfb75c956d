/- Walk: spoilOrder. -/
import Derived.Test.YteeklaplnhafoaaDoorWSortB
import Derived.LoopN
namespace Go.Proofs.YteeklaplnhafoaaDoor
open Go.RowKit

set_option maxRecDepth 20000 in
set_option maxHeartbeats 1000000 in
theorem insSort_0 (g c : Nat) (f : Value) (w : World) :
    Calls Tryd.prog 88 #[.slice (some ⟨g, 0, none⟩) 0 c, .int .i64 0, .int .i64 0, f] w fun e w' => e = .returned (.tuple #[]) ∧ w = w' := by
  go_enter Tryd.func88, Tryd.ntmps88
  go_wp2
  refine wp_loop_rounds 1 ?_
  rw [rounds_succ]
  go_wp2
  go_end0
  exact ⟨rfl, rfl⟩

set_option maxRecDepth 20000 in
set_option maxHeartbeats 1000000 in
theorem sortStable_of {n : Nat} (hn : n < 20) (s f : Value) (w : World) (R : Ending → World → Prop) (hs : ∃ A c, s = .slice A n c)
    (h : Calls Tryd.prog 88 #[s, .int .i64 0, .int .i64 n, f] w fun e w' => e = .returned (.tuple #[]) ∧ R e w') :
    Calls Tryd.prog 80 #[s, f] w fun e w' => e = .returned (.tuple #[]) ∧ R e w' := by
  obtain ⟨A, c, rfl⟩ := hs
  have HH := Lib.hid h
  clear h
  go_enter Tryd.func80, Tryd.ntmps80
  go_wp2
  refine wp_loop_rounds 1 ?_
  rw [rounds_succ]
  go_wp2_with (go_at_call 88; refine HH.out.mono ?_; rintro e w1 ⟨rfl, hr⟩)
  refine wp_loop_rounds 1 ?_
  rw [rounds_succ]
  go_wp2
  go_end0
  exact ⟨rfl, hr⟩

theorem Pre.none (ps : List (Int × Int)) (xs : List Int) (hl : xs.length = 0) : Pre ps xs 0 0 :=
  ⟨hl, Nat.le_refl _, fun q _ hq => absurd hq (by omega), fun q hq => absurd hq (by omega), fun q hq => absurd hq (by omega), fun q hq => absurd hq (by omega)⟩

theorem sort_any (A : Option Addr) (g n c cA Bx : Nat) (ps : List (Int × Int)) (w0 w : World) (hl0 : Le w0 w) (hg : w0.heap.size ≤ g) (hx : w0.cell? ⟨Bx, 0, none⟩ = some (.slice A n cA)) (h : RP w0 A n ps)
    (hp : ∀ k, k < n → (0 ≤ (gp ps k).1 ∧ (gp ps k).1 ≤ 9) ∧ 0 ≤ (gp ps k).2 ∧ (gp ps k).2 ≤ 5) (hn8 : n ≤ 8) (hb : BlkI w g (upFrom 0 n)) :
    Calls Tryd.prog 80 #[.slice (some ⟨g, 0, none⟩) n c, .func (.func 81) #[] #[.pointer (some ⟨Bx, 0, none⟩)]] w
      fun e w' => e = .returned (.tuple #[]) ∧ Le w0 w' ∧ ∃ ys, BlkI w' g ys ∧ Pre ps ys n n := by
  rcases Nat.eq_zero_or_pos n with rfl | hn
  · refine sortStable_of (n := 0) (by omega) _ _ w (fun _ w' => Le w0 w' ∧ ∃ ys, BlkI w' g ys ∧ Pre ps ys 0 0) ⟨_, _, rfl⟩ ?_
    refine (insSort_0 g c _ w).mono ?_
    rintro e w' ⟨rfl, rfl⟩
    exact ⟨rfl, hl0, _, hb, Pre.none _ _ (by simp [upFrom])⟩
  · refine sortStable_of (n := n) (by omega) _ _ w (fun _ w' => Le w0 w' ∧ ∃ ys, BlkI w' g ys ∧ Pre ps ys n n) ⟨_, _, rfl⟩ ?_
    exact insSort_any A g n c cA Bx ps (upFrom 0 n) w0 w hl0 hg hx h hp hn hn8 hb (Pre.zero ps _ n (upFrom_length _ _) (fun q hq => by rw [gi_upFrom _ _ _ hq]; simp) hn)

set_option maxRecDepth 20000 in
set_option maxHeartbeats 1000000 in
theorem spoilOrder_any (A : Option Addr) (n c : Nat) (ps : List (Int × Int)) (w : World) (h : RP w A n ps) (hn8 : n ≤ 8)
    (hp : ∀ k, k < n → (0 ≤ (gp ps k).1 ∧ (gp ps k).1 ≤ 9) ∧ 0 ≤ (gp ps k).2 ∧ (gp ps k).2 ≤ 5) :
    Calls Tryd.prog 72 #[.slice A n c] w fun e w' => ∃ g ys, e = .returned (.slice (some ⟨g, 0, none⟩) n n) ∧ w.heap.size ≤ g ∧ BlkI w' g ys ∧ Pre ps ys n n ∧ Le w w' := by
  have hl1 : Le w (w.alloc (.cells #[.slice A n c] 23)) := (Le.refl w).alloc _
  have hx : (w.alloc (.cells #[.slice A n c] 23)).cell? ⟨w.heap.size, 0, none⟩ = some (.slice A n c) := by
    exact (Blk.new w 23 #[.slice A n c]).cell 0
  have hs := fun w1 (l1 : Le (w.alloc (.cells #[.slice A n c] 23)) w1) (b1 : BlkI w1 (w.heap.size + 1) (upFrom 0 n)) =>
    sort_any A (w.heap.size + 1) n n c w.heap.size ps _ w1 l1 (by simp) hx (h.le hl1) hp hn8 b1
  have HS := Lib.hid hs
  have HL1 := Lib.hid hl1
  clear h hp hs hl1 hx
  go_enter Tryd.func72, Tryd.ntmps72
  go_wp2_with (first | (go_at_call 79; refine (indices_any n _ (by omega)).mono ?_; rintro e w1 ⟨rfl, b1, l1⟩) | (go_at_call 80; refine (HS.out _ l1 (by simpa using b1)).mono ?_; rintro e w2 ⟨rfl, l2, ys, b2, hpre⟩))
  go_ret
  exact ⟨_, ys, rfl, Nat.le_succ _, b2, hpre, HL1.out.trans l2⟩

end Go.Proofs.YteeklaplnhafoaaDoor
