/- Walk: the fixed answer of the laws (alive). -/
import Derived.Test.YtoahjfofnaafaaaDoorWText
namespace Go.Proofs.YtoahjfofnaafaaaDoor
open Go.RowKit

theorem alive_text : itemT (4, [(0, 2)], 3) = [52, 61, 48, 42, 50, 33, 51] := by
  have h : itemL (4, [(0, 2)], 3) 5 = true := by decide
  unfold itemT
  rw [if_pos h]
  show Lib.decDigits 4 ++ [61] ++ ([] ++ ([] ++ Lib.decDigits 0 ++ [42] ++ Lib.decDigits 2)) ++ [33] ++ Lib.decDigits 3 = _
  rw [Lib.decDigits_one (by decide), Lib.decDigits_one (by decide), Lib.decDigits_one (by decide), Lib.decDigits_one (by decide)]
  rfl
theorem alive_none : itemT (-1, [], 0) = [] := by
  have h : itemL (-1, [], 0) 5 = false := by decide
  unfold itemT
  rw [h]; rfl
theorem RP.nil (w : World) : RP w none 0 [] := ⟨rfl, by omega, fun k hk => absurd hk (by omega)⟩
set_option maxRecDepth 20000 in
set_option maxHeartbeats 1000000 in
theorem alive_any (w : World) : Calls Tryd.prog 15 #[] w fun e w' => e = .returned (.bool true) ∧ Le w w' := by
  have k1 := Blk.new w 80 #[.int .i64 0, .int .i64 2]
  have l1 := (Le.refl w).alloc (.cells #[.int .i64 0, .int .i64 2] 80)
  obtain ⟨wa, hwa⟩ : ∃ wa, w.alloc (.cells #[.int .i64 0, .int .i64 2] 80) = wa := ⟨_, rfl⟩
  rw [hwa] at k1 l1
  have hr : RP wa (some ⟨w.heap.size, 0, none⟩) 1 [(0, 2)] := ⟨rfl, by omega, fun k hk => by
    obtain rfl : k = 0 := by omega
    exact ⟨_, rfl, by rw [addr0]; exact k1.cell 0, by rw [addr0]; exact k1.cell 1⟩⟩
  have h1 := implItemText_any 4 _ 1 1 3 _ wa hr
  have h2 := fun w' => implItemText_any (-1) none 0 0 0 [] w' (RP.nil w')
  rw [alive_text] at h1
  simp only [alive_none] at h2
  have H1 := Lib.hid h1
  have H2 := Lib.hid h2
  have L1 := Lib.hid l1
  clear h1 h2 l1 hr k1
  go_enter Tryd.func15, Tryd.ntmps15
  go_wp2_with fail
  refine H1.out.mono ?_; rintro e w1 ⟨rfl, l2⟩
  go_wp2_with fail
  refine (H2.out _).mono ?_; rintro e w2 ⟨rfl, l3⟩
  go_wp2
  go_ret
  exact ⟨rfl, L1.out.trans (l2.trans l3)⟩
end Go.Proofs.YtoahjfofnaafaaaDoor
