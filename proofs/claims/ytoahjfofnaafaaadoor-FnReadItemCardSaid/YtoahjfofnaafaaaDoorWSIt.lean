/- Walk: sameItem of the laws. -/
import Derived.Test.YtoahjfofnaafaaaDoorWRdI
namespace Go.Proofs.YtoahjfofnaafaaaDoor
open Go.RowKit

set_option maxRecDepth 20000 in
set_option maxHeartbeats 2000000 in
theorem sameItem_self (y : Int) (A B : Option Addr) (n c d : Nat) (mk : Int) (ps : List (Int × Int)) (w : World) (h : RP w A n ps) (h' : RP w B n ps) :
    Calls Tryd.prog 14 #[.agg #[.int .i64 y, .slice A n c, .int .i64 mk], .agg #[.int .i64 y, .slice B n d, .int .i64 mk]] w fun e w' => e = .returned (.bool true) ∧ Le w w' := by
  have l0 : Le w ((w.alloc (.cells #[.int .i64 y, .slice A n c, .int .i64 mk] 26)).alloc (.cells #[.int .i64 y, .slice B n d, .int .i64 mk] 26)) := ((Le.refl w).alloc _).alloc _
  have k1 : Blk ((w.alloc (.cells #[.int .i64 y, .slice A n c, .int .i64 mk] 26)).alloc (.cells #[.int .i64 y, .slice B n d, .int .i64 mk] 26)) w.heap.size 26 #[.int .i64 y, .slice A n c, .int .i64 mk] := (Blk.new _ _ _).alloc _
  have k2 : Blk ((w.alloc (.cells #[.int .i64 y, .slice A n c, .int .i64 mk] 26)).alloc (.cells #[.int .i64 y, .slice B n d, .int .i64 mk] 26)) (w.heap.size + 1) 26 #[.int .i64 y, .slice B n d, .int .i64 mk] := by
    have := Blk.new (w.alloc (.cells #[.int .i64 y, .slice A n c, .int .i64 mk] 26)) 26 #[.int .i64 y, .slice B n d, .int .i64 mk]
    simpa using this
  have hb1 : (y != y) = false := by simp
  have hb2 : (mk != mk) = false := by simp
  have hb3 : ((n : Int) != (n : Int)) = false := by simp
  have hm := h.max
  have HR1 := Lib.hid (h.le l0).at_
  have HR2 := Lib.hid (h'.le l0).at_
  obtain ⟨wz, hwz⟩ : ∃ wz, (w.alloc (.cells #[.int .i64 y, .slice A n c, .int .i64 mk] 26)).alloc (.cells #[.int .i64 y, .slice B n d, .int .i64 mk] 26) = wz := ⟨_, rfl⟩
  rw [hwz] at l0 k1 k2 HR1 HR2
  obtain ⟨b, hbb⟩ : ∃ b, w.heap.size = b := ⟨_, rfl⟩
  rw [hbb] at k1 k2
  have L0 := Lib.hid l0
  have a0 := k1.cell 0
  have a1 := k1.cell 1
  have a2 := k1.cell 2
  have d0 := k2.cell 0
  have d1 := k2.cell 1
  have d2 := k2.cell 2
  simp at a0 a1 a2 d0 d1 d2
  clear h h' k1 k2 l0
  go_enter Tryd.func14, Tryd.ntmps14
  go_wp2
  go_loopw [5] (fun u wr => ∃ k : Nat, k ≤ n ∧ u = .int .i64 (k : Int) ∧ ∃ q, wr = wz.drewN q) (fun u _ => n - (intOf u).toNat)
  case atStart => exact ⟨0, Nat.zero_le _, rfl, 0, rfl⟩
  case round =>
    obtain ⟨k, hk, rfl, q, rfl⟩ := hrel
    have LQ := Lib.hid ((Le.refl wz).drewN q)
    by_cases hlt : k < n
    · obtain ⟨ad1, rfl, c1, c2⟩ := HR1.out k hlt
      obtain ⟨ad2, rfl, c3, c4⟩ := HR2.out k hlt
      obtain ⟨u1, hu1⟩ : ∃ u1, (gp ps k).1 = u1 := ⟨_, rfl⟩
      obtain ⟨u2, hu2⟩ : ∃ u2, (gp ps k).2 = u2 := ⟨_, rfl⟩
      rw [hu1] at c1 c3
      rw [hu2] at c2 c4
      have hb4 : (u1 == u1 && u2 == u2) = true := by simp
      have hb5 : (u1 == u1) = true := by simp
      have hb6 : (u2 == u2) = true := by simp
      clear hu1 hu2
      go_wp2
      go_quiet (fail)
      go_wp2
      go_roundw
      case rel => exact ⟨k + 1, by omega, by go_num, _, rfl⟩
      case measure => simp [intOf]; omega
    · obtain rfl : k = n := by omega
      go_wp2
      go_ret
      exact ⟨rfl, L0.out.trans LQ.out⟩
end Go.Proofs.YtoahjfofnaafaaaDoor
