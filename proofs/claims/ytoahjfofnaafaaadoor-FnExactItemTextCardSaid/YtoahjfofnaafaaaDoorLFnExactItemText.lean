/- The walk of FnExactItemText: both sides come to one text, the argument is left alone. -/
import Derived.Test.YtoahjfofnaafaaaDoorWItS
import Derived.Test.YtoahjfofnaafaaaDoorWItem
import Derived.Deep.RegionHeld3
import Derived.Test.YtoahjfofnaafaaaDoorPReg
namespace Go.Proofs.YtoahjfofnaafaaaDoor
open Go.RowKit

set_option maxRecDepth 20000 in
set_option maxHeartbeats 4000000 in
theorem law_FnExactItemText (w : World) (y : Int) (A : Option Addr) (n c : Nat) (mk : Int) (ps : List (Int × Int)) (h : RP w A n ps) :
    Calls Tryd.prog 4 #[.agg #[.int .i64 y, .slice A n c, .int .i64 mk]] w fun e w' => e = .returned (.bool true) ∧ Le w w' := by
  have l0 := (Le.refl w).alloc (.cells #[.int .i64 y, .slice A n c, .int .i64 mk] 35)
  have k0 := Blk.new w 35 #[.int .i64 y, .slice A n c, .int .i64 mk]
  obtain ⟨wz, hwz⟩ : ∃ wz, w.alloc (.cells #[.int .i64 y, .slice A n c, .int .i64 mk] 35) = wz := ⟨_, rfl⟩
  rw [hwz] at l0 k0
  have hm := h.max
  have hl := h.len
  obtain ⟨b, hbb⟩ : ∃ b, w.heap.size = b := ⟨_, rfl⟩
  rw [hbb] at k0
  have K0 := Lib.hid (fun w' (l : Le wz w') => (k0.le l))
  have HR := Lib.hid (fun w' (l : Le wz w') => h.le (l0.trans l))
  have L0 := Lib.hid l0
  have a0 := k0.cell 0
  have a1 := k0.cell 1
  have a2 := k0.cell 2
  simp at a0 a1 a2
  clear h l0 k0
  by_cases hn : 1048576 < n
  · go_enter Tryd.func4, Tryd.ntmps4
    go_wp2_with fail
    refine (szItem_no _ _ _ _ _ _ _ hm (by omega) (by omega)).mono ?_; rintro e w1 ⟨rfl, l1⟩
    go_wp2
    go_ret
    exact ⟨rfl, L0.out.trans l1⟩
  · have hz : ¬ (1048576 - (n : Int) < 0) := by omega
    go_enter Tryd.func4, Tryd.ntmps4
    go_wp2_with fail
    refine (szItem_ok _ _ _ _ _ _ _ (by omega) (by omega)).mono ?_; rintro e w1 ⟨rfl, l1⟩
    have M1 := Lib.hid l1
    clear l1 a0 a1 a2
    have a0 := (K0.out _ M1.out).cell 0
    have a1 := (K0.out _ M1.out).cell 1
    have a2 := (K0.out _ M1.out).cell 2
    simp at a0 a1 a2
    go_wp2_with fail
    refine (toItem_any _ _ _ _ _ ps _ (HR.out _ M1.out) (by omega)).mono ?_; rintro e w2 ⟨g2, rfl, _, B2, l2⟩
    have M2 := Lib.hid (M1.out.trans l2)
    have R2 := Lib.hid (Blk.RP_ B2 hl (by omega))
    clear B2 l2 a0 a1 a2
    go_wp2_with fail
    refine (specItemText_any _ _ _ _ _ ps _ R2.out).mono ?_; rintro e w3 ⟨rfl, l3⟩
    obtain ⟨S, hS⟩ : ∃ S : ByteArray, ⟨(itemT (y, ps, mk)).toArray⟩ = S := ⟨_, rfl⟩
    rw [hS]
    have HS := Lib.hid hS
    have M3 := Lib.hid (M2.out.trans l3)
    clear hS l3
    have a0 := (K0.out _ M3.out).cell 0
    have a1 := (K0.out _ M3.out).cell 1
    have a2 := (K0.out _ M3.out).cell 2
    simp at a0 a1 a2
    go_wp2_with fail
    refine (toItem_any _ _ _ _ _ ps _ (HR.out _ M3.out) (by omega)).mono ?_; rintro e w4 ⟨g4, rfl, _, B4, l4⟩
    have l4' := l4.alloc (.cells #[.int .i64 y, .slice (some ⟨g4, 0, none⟩) n n, .int .i64 mk] 26)
    have k4 := Blk.new w4 26 #[.int .i64 y, .slice (some ⟨g4, 0, none⟩) n n, .int .i64 mk]
    have r4 := (Blk.RP_ B4 hl (by omega)).le ((Le.refl w4).alloc (.cells #[.int .i64 y, .slice (some ⟨g4, 0, none⟩) n n, .int .i64 mk] 26))
    obtain ⟨w5, hw5⟩ : ∃ w5, w4.alloc (.cells #[.int .i64 y, .slice (some ⟨g4, 0, none⟩) n n, .int .i64 mk] 26) = w5 := ⟨_, rfl⟩
    rw [hw5] at l4' k4 r4
    obtain ⟨b4, hb4⟩ : ∃ b4, w4.heap.size = b4 := ⟨_, rfl⟩
    rw [hb4] at k4
    have M5 := Lib.hid (M3.out.trans l4')
    have K5 := Lib.hid (fun w' (l : Le w5 w') => k4.le l)
    have R5 := Lib.hid (fun w' (l : Le w5 w') => r4.le l)
    have c0 := k4.cell 0
    have c1 := k4.cell 1
    have c2 := k4.cell 2
    simp at c0 c1 c2
    clear B4 l4 l4' k4 r4 a0 a1 a2
    go_wp2_with fail
    refine (implItemText_any _ _ _ _ _ ps _ (R5.out _ (Le.refl _))).mono ?_; rintro e w6 ⟨rfl, l6⟩
    rw [HS.out]
    have l7 := l6.drew
    have L6 := Lib.hid l6
    clear l6 c0 c1 c2 hw5 hb4 hwz hbb
    go_wp2
    have ld := (Le.refl w6).drew
    refine wp_region_held_drew (S := fun w' => Le w6 w') (by kernel_rfl) ld (fun _ => ?_)
    refine wpAnyH_takeL (i := 0) (v := ?_) rfl (by kernel_rfl) (by kernel_rfl) (by kernel_rfl) (fun _ _ _ h => h) (Or.inl ⟨by rfl, ?_⟩) (by assumption) ?_
    rotate_left
    · (intro w' hSw; have cX := (K5.out _ (L6.out.trans hSw)); have cX0 := cX.cell 0; have cX1 := cX.cell 1; have cX2 := cX.cell 2; clear cX; simp at cX0 cX1 cX2; (try dsimp only at hSw); go_simp; all_goals with_reducible rfl)
    repeat (first | simp only [Act.put] | simp only [List.setIfInBounds_toArray] | simp only [List.set_cons_succ] | simp only [List.set_cons_zero])
    refine wpAnyH_takeL (i := 1) (v := ?_) rfl (by kernel_rfl) (by kernel_rfl) (by kernel_rfl) (fun _ _ _ h => h) (Or.inl ⟨by rfl, ?_⟩) (by assumption) ?_
    rotate_left
    · (intro w' hSw; have cX := (K0.out _ (M5.out.trans (L6.out.trans hSw))); have cX0 := cX.cell 0; have cX1 := cX.cell 1; have cX2 := cX.cell 2; clear cX; simp at cX0 cX1 cX2; (try dsimp only at hSw); go_simp; all_goals with_reducible rfl)
    repeat (first | simp only [Act.put] | simp only [List.setIfInBounds_toArray] | simp only [List.set_cons_succ] | simp only [List.set_cons_zero])
    refine wpAnyH_ready (rs := [2]) (by kernel_rfl) (by simp) ?_
    refine consL (i := 2) rfl (fun K hK => ?_) AllReadyH.nil
    go_simp
    refine (toItem_any _ _ _ _ _ ps _ (HR.out _ (M5.out.trans (L6.out.trans ld))) (by omega)).mono ?_; rintro e w7 ⟨g7, rfl, _, B7, l7⟩
    have S7 : Le w6 w7 := ld.trans l7
    have R7 := Lib.hid (Blk.RP_ B7 hl (by omega))
    clear B7
    refine hK.out _ _ S7 (fun _ => ?_)
    clear hK K
    repeat (first | simp only [Act.put] | simp only [List.setIfInBounds_toArray] | simp only [List.set_cons_succ] | simp only [List.set_cons_zero])
    refine wpAnyH_ready (rs := [3]) (by kernel_rfl) (by simp) ?_
    refine consL (i := 3) rfl (fun K hK => ?_) AllReadyH.nil
    go_simp
    refine (eqItem_self _ _ _ _ _ _ _ _ ps _ (R5.out _ (L6.out.trans S7)) R7.out).mono ?_; rintro e w8 ⟨rfl, l8⟩
    have S8 : Le w6 w8 := S7.trans l8
    refine hK.out _ _ S8 (fun _ => ?_)
    clear hK K
    repeat (first | simp only [Act.put] | simp only [List.setIfInBounds_toArray] | simp only [List.set_cons_succ] | simp only [List.set_cons_zero])
    refine wpAnyH_takeL (i := 4) (v := ?_) rfl (by kernel_rfl) (by kernel_rfl) (by kernel_rfl) (fun _ _ _ h => h) (Or.inl ⟨by rfl, ?_⟩) (by assumption) ?_
    rotate_left
    · (intro w' hSw; (try dsimp only at hSw); go_simp; all_goals with_reducible rfl)
    repeat (first | simp only [Act.put] | simp only [List.setIfInBounds_toArray] | simp only [List.set_cons_succ] | simp only [List.set_cons_zero])
    refine wpAnyH_done (by kernel_rfl) ?_ _
    go_wp2
    go_ret
    exact ⟨rfl, L0.out.trans (M5.out.trans (L6.out.trans S8))⟩
end Go.Proofs.YtoahjfofnaafaaaDoor
