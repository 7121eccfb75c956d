/- Walks on plans: szPlan, toPlan, eqPlan. -/
import Derived.Test.YtbkjfgbafphopaaWMarks
namespace Go.Proofs.Ytbkjfgbafphopaa
open Go.RowKit

set_option maxHeartbeats 400000 in
theorem szIntS_ok (A : Option Addr) (n c : Nat) (left : Int) (w : World) (h1 : left ≤ 1048576) (hn : (n : Int) ≤ left) :
    Calls Try.prog 55 #[.slice A n c, .int .i64 left] w fun e w' => e = .returned (.int .i64 (left - n)) ∧ w = w' := by
  go_enter Try.func55, Try.ntmps55
  go_wp2
  go_ret
  exact ⟨rfl, rfl⟩
set_option maxHeartbeats 400000 in
theorem szIntS_no (A : Option Addr) (n c : Nat) (left : Int) (w : World) (hm : n ≤ 9223372036854775807) (h0 : 0 ≤ left) (hn : left < (n : Int)) :
    Calls Try.prog 55 #[.slice A n c, .int .i64 left] w fun e w' => e = .returned (.int .i64 (-1)) ∧ w = w' := by
  go_enter Try.func55, Try.ntmps55
  go_wp2
  go_ret
  exact ⟨rfl, rfl⟩

set_option maxHeartbeats 1000000 in
theorem szPlan_ok (A : Option Addr) (n c : Nat) (B : Option Addr) (m d : Nat) (left : Int) (w : World) (h1 : left ≤ 1048576) (hn : (n : Int) + (m : Int) ≤ left) :
    Calls Try.prog 26 #[.agg #[.slice A n c, .slice B m d], .int .i64 left] w fun e w' => e = .returned (.int .i64 (left - n - m)) ∧ Le w w' := by
  have h2 : (n : Int) ≤ left := by omega
  have h3 : left - n ≤ 1048576 := by omega
  have h4 : (m : Int) ≤ left - n := by omega
  go_enter Try.func26, Try.ntmps26
  go_wp2_with fail
  refine (szIntS_ok A n c left _ h1 h2).mono ?_; rintro e w' ⟨rfl, rfl⟩
  go_wp2_with fail
  refine (szIntS_ok B m d (left - n) _ h3 h4).mono ?_; rintro e w' ⟨rfl, rfl⟩
  go_wp2
  go_ret
  exact ⟨rfl, (Le.refl _).alloc _⟩
set_option maxHeartbeats 1000000 in
theorem szPlan_no (A : Option Addr) (n c : Nat) (B : Option Addr) (m d : Nat) (left : Int) (w : World) (hnm : n ≤ 9223372036854775807) (hmm : m ≤ 9223372036854775807) (h0 : 0 ≤ left) (h1 : left ≤ 1048576) (hn : left < (n : Int) + (m : Int)) :
    Calls Try.prog 26 #[.agg #[.slice A n c, .slice B m d], .int .i64 left] w fun e w' => e = .returned (.int .i64 (-1)) ∧ Le w w' := by
  by_cases h2 : (n : Int) ≤ left
  · have h3 : 0 ≤ left - n := by omega
    have h4 : left - n < (m : Int) := by omega
    go_enter Try.func26, Try.ntmps26
    go_wp2_with fail
    refine (szIntS_ok A n c left _ h1 h2).mono ?_; rintro e w' ⟨rfl, rfl⟩
    go_wp2_with fail
    refine (szIntS_no B m d (left - n) _ hmm h3 h4).mono ?_; rintro e w' ⟨rfl, rfl⟩
    go_wp2
    go_ret
    exact ⟨rfl, (Le.refl _).alloc _⟩
  · have h3 : left < (n : Int) := by omega
    go_enter Try.func26, Try.ntmps26
    go_wp2_with (go_at_call 55; refine (szIntS_no A n c left _ hnm h0 h3).mono ?_; rintro e w' ⟨rfl, rfl⟩)
    go_ret
    exact ⟨rfl, (Le.refl _).alloc _⟩

set_option maxHeartbeats 1000000 in
theorem eqPlan_self (A : Option Addr) (n c : Nat) (B : Option Addr) (m d : Nat) (A' : Option Addr) (n' c' : Nat) (B' : Option Addr) (m' d' : Nat) (xs ys : List Int) (w : World) (h : RI w A n xs) (g : RI w B m ys) (h' : RI w A' n' xs) (g' : RI w B' m' ys) :
    Calls Try.prog 30 #[.agg #[.slice A n c, .slice B m d], .agg #[.slice A' n' c', .slice B' m' d']] w fun e w' => e = .returned (.bool true) ∧ Le w w' := by
  have l0 : Le w ((w.alloc (.cells #[.slice A n c, .slice B m d] 40)).alloc (.cells #[.slice A' n' c', .slice B' m' d'] 40)) := ((Le.refl w).alloc _).alloc _
  have hq1 := eqIntS_self A A' n n' c c' xs _ (h.le l0) (h'.le l0)
  have hq2 := fun w' (l : Le w w') => eqIntS_self B B' m m' d d' ys w' (g.le l) (g'.le l)
  have k1 : Blk ((w.alloc (.cells #[.slice A n c, .slice B m d] 40)).alloc (.cells #[.slice A' n' c', .slice B' m' d'] 40)) w.heap.size 40 #[.slice A n c, .slice B m d] := (Blk.new _ _ _).alloc _
  have k2 : Blk ((w.alloc (.cells #[.slice A n c, .slice B m d] 40)).alloc (.cells #[.slice A' n' c', .slice B' m' d'] 40)) (w.heap.size + 1) 40 #[.slice A' n' c', .slice B' m' d'] := by
    have := Blk.new (w.alloc (.cells #[.slice A n c, .slice B m d] 40)) 40 #[.slice A' n' c', .slice B' m' d']
    simpa using this
  have HQ1 := Lib.hid hq1
  have HQ2 := Lib.hid hq2
  have K1 := Lib.hid k1
  have K2 := Lib.hid k2
  have L0 := Lib.hid l0
  clear h g h' g' hq1 hq2 k1 k2 l0
  go_enter Try.func30, Try.ntmps30
  go_wp2_with fail
  refine HQ1.out.mono ?_; rintro e w1 ⟨rfl, l1⟩
  have a1 := (K1.out.le l1).cell 1
  have a2 := (K2.out.le l1).cell 1
  have l2 := L0.out.trans l1
  clear l1
  simp at a1 a2
  go_wp2_with fail
  refine (HQ2.out _ l2).mono ?_; rintro e w2 ⟨rfl, l3⟩
  go_wp2
  go_ret
  exact ⟨rfl, l2.trans l3⟩
set_option maxHeartbeats 2000000 in
theorem toPlan_any (A : Option Addr) (n c : Nat) (B : Option Addr) (m d : Nat) (xs ys : List Int) (w : World) (h : RI w A n xs) (g : RI w B m ys) (hn : n ≤ 1048576) (hm : m ≤ 1048576) :
    Calls Try.prog 28 #[.agg #[.slice A n c, .slice B m d]] w fun e w' => ∃ g1 g2, e = .returned (.agg #[.slice (some ⟨g1, 0, none⟩) n n, .slice (some ⟨g2, 0, none⟩) m m]) ∧ RI w' (some ⟨g1, 0, none⟩) n xs ∧ RI w' (some ⟨g2, 0, none⟩) m ys ∧ (w.heap.size ≤ g1 ∧ g1 < g2 ∧ g2 < w'.heap.size) ∧ (BlkI w' g1 xs ∧ BlkI w' g2 ys) ∧ Le w w' := by
  have hx : ∀ w', Le w w' → RI w' A n xs := fun w' l => h.le l
  have hy : ∀ w', Le w w' → RI w' B m ys := fun w' l => g.le l
  have hxl := h.len
  have hyl := g.len
  have HX := Lib.hid hx
  have HY := Lib.hid hy
  clear h g hx hy
  go_enter Try.func28, Try.ntmps28
  go_wp2_with fail
  refine (toIntS_any _ _ _ _ _ (HX.out _ ((((Le.refl _).alloc _).alloc _).alloc _)) hn).mono ?_; rintro e w1 ⟨rfl, b1, l1⟩
  have k1 : Blk w1 w.heap.size 37 #[.slice A n c, .slice B m d] := Blk.le (Blk.alloc (Blk.alloc (by simpa using Blk.new w _ _) _) _) l1
  have k2 : Blk w1 (w.heap.size + 1) 40 #[.slice none 0 0, .slice none 0 0] := (Blk.alloc (by simpa using Blk.new (w.alloc _) _ _) _).le l1
  have k3 : Blk w1 (w.heap.size + 1 + 1) 40 #[.slice none 0 0, .slice none 0 0] := Blk.le (by simpa using Blk.new ((w.alloc _).alloc _) _ _) l1
  have hsz : w.heap.size + 1 + 1 + 1 ≤ w1.heap.size := by have := l1.size; simp at this; omega
  have l01 : Le w w1 := ((((Le.refl w).alloc _).alloc _).alloc _).trans l1
  have hB1 : BlkI w1 (w.heap.size + 1 + 1 + 1) xs := by simpa using b1
  have a0 := k3.cell 0
  have z0 := k3.frozen 0
  have c1 := k1.cell 1
  simp at a0 c1
  have HB1 := Lib.hid hB1
  have L01 := Lib.hid l01
  have K2 := Lib.hid k2
  have K3 := Lib.hid k3
  clear b1 l1 k1 k2 k3 hB1 l01
  go_wp2_with fail
  have lw2 : Le w (w1.setCell ⟨w.heap.size + 1 + 1, 0, none⟩ (.slice (some ⟨w.heap.size + 1 + 1 + 1, 0, none⟩) n n)) := L01.out.setCell (by simp; omega) _
  refine (toIntS_any _ _ _ _ _ (HY.out _ lw2) hm).mono ?_; rintro e w2 ⟨rfl, b2, l2⟩
  have k2 := (Blk.far K2.out (p := ⟨w.heap.size + 1 + 1, 0, none⟩) (by simp) (.slice (some ⟨w.heap.size + 1 + 1 + 1, 0, none⟩) n n)).le l2
  have k3 := (K3.out.set_ 0 (.slice (some ⟨w.heap.size + 1 + 1 + 1, 0, none⟩) n n)).le l2
  have hb1 : BlkI w2 (w.heap.size + 1 + 1 + 1) xs := Blk.le (Blk.far HB1.out (p := ⟨w.heap.size + 1 + 1, 0, none⟩) (by simp) _) l2
  have hb2 : BlkI w2 w1.heap.size ys := by simpa using b2
  have a0 := k3.cell 0
  have a1 := k3.cell 1
  have z0 := k3.frozen 0
  have z1 := k3.frozen 1
  have e0 := k2.cell 0
  have e1 := k2.cell 1
  have y0 := k2.frozen 0
  have y1 := k2.frozen 1
  have hsz2 : w1.heap.size < w2.heap.size := Blk.lt hb2
  have hsz3 : w.heap.size + 1 + 1 + 1 < w1.heap.size := Blk.lt HB1.out
  have l02 : Le w w2 := lw2.trans l2
  have HB2 := Lib.hid hb2
  have HBX := Lib.hid hb1
  have L02 := Lib.hid l02
  clear b2 l2 k2 k3 hb1 hb2 l02 lw2
  simp at a0 a1 e0 e1
  go_wp2
  have f : ∀ {wr : World} {q : Nat} {zs : List Int}, BlkI wr q zs → w.heap.size + 1 + 1 < q → ∀ (a b : Nat) (u : Value), a < w.heap.size + 1 + 1 + 1 → BlkI (wr.setCell ⟨a, b, none⟩ u) q zs := fun {wr q zs} hb hq a b u ha => Blk.far hb (by show q ≠ a; omega) u
  have fl : ∀ {wr : World}, Le w wr → ∀ (a b : Nat) (u : Value), w.heap.size ≤ a → Le w (wr.setCell ⟨a, b, none⟩ u) := fun {wr} hl a b u ha => hl.setCell ha u
  have r1 := f (f (f HBX.out (by omega) (w.heap.size + 1 + 1) 1 (.slice (some ⟨w1.heap.size, 0, none⟩) m m) (by omega)) (by omega) (w.heap.size + 1) 0 (.slice (some ⟨w.heap.size + 1 + 1 + 1, 0, none⟩) n n) (by omega)) (by omega) (w.heap.size + 1) 1 (.slice (some ⟨w1.heap.size, 0, none⟩) m m) (by omega)
  have r2 := f (f (f HB2.out (by omega) (w.heap.size + 1 + 1) 1 (.slice (some ⟨w1.heap.size, 0, none⟩) m m) (by omega)) (by omega) (w.heap.size + 1) 0 (.slice (some ⟨w.heap.size + 1 + 1 + 1, 0, none⟩) n n) (by omega)) (by omega) (w.heap.size + 1) 1 (.slice (some ⟨w1.heap.size, 0, none⟩) m m) (by omega)
  refine bodyPost_ret (v := .agg #[.slice (some ⟨w.heap.size + 1 + 1 + 1, 0, none⟩) n n, .slice (some ⟨w1.heap.size, 0, none⟩) m m]) (by simp [results, Try.results28, go_sem, e0, e1]) rfl ⟨_, _, rfl, r1.RI_ hxl (by omega), r2.RI_ hyl (by omega), ⟨by omega, by omega, by simpa using hsz2⟩, ⟨r1, r2⟩, ?_⟩
  exact fl (fl (fl L02.out _ _ _ (by omega)) _ _ _ (by omega)) _ _ _ (by omega)
end Go.Proofs.Ytbkjfgbafphopaa
