/- Walks: which items are valid. -/
import Derived.Test.YtoahjfofnaafaaaDoorWItemB
namespace Go.Proofs.YtoahjfofnaafaaaDoor
open Go.RowKit

def partB (ps : List (Int × Int)) (index : Int) (k : Nat) : Bool := (inB 0 (index - 1) (gp ps k).1 && inB 1 6 (gp ps k).2) && (decide (k = 0) || decide ((gp ps (k - 1)).1 < (gp ps k).1))
def itemL (x : It) (index : Int) : Bool := (List.range x.2.1.length).all (partB x.2.1 index) && (((inB 0 6 x.1 && decide (x.2.1.length ≤ 3)) && (decide (0 < x.1) == decide (0 < x.2.1.length))) && inB 0 31 x.2.2)
theorem itemL_f {x : It} {index : Int} {k : Nat} (hk : k < x.2.1.length) (h : partB x.2.1 index k = false) : itemL x index = false := by
  unfold itemL
  have : (List.range x.2.1.length).all (partB x.2.1 index) = false := by
    rw [← Bool.not_eq_true, List.all_eq_true]
    intro hh
    rw [hh k (List.mem_range.2 hk)] at h; cases h
  rw [this, Bool.false_and]

set_option maxRecDepth 20000 in
set_option maxHeartbeats 2000000 in
theorem specItem_any (y : Int) (A : Option Addr) (n c : Nat) (mk : Int) (ps : List (Int × Int)) (index : Nat) (w : World) (h : RP w A n ps) (hi : index ≤ 9223372036854775807) :
    Calls Tryd.prog 53 #[.agg #[.int .i64 y, .slice A n c, .int .i64 mk], .int .i64 index] w fun e w' => e = .returned (.bool (itemL (y, ps, mk) index)) ∧ Le w w' := by
  have hm := h.max
  have HL := Lib.hid h.len
  have hwi : IntKind.i64.wrap ((index : Int) - 1) = (index : Int) - 1 := IntWalk.i64_in _ (by omega)
  have hr0 := h.le ((Le.refl w).alloc (.cells #[.int .i64 y, .slice A n c, .int .i64 mk] 26))
  have k0 := Blk.new w 26 #[.int .i64 y, .slice A n c, .int .i64 mk]
  have l0 := (Le.refl w).alloc (.cells #[.int .i64 y, .slice A n c, .int .i64 mk] 26)
  have HR0 := Lib.hid hr0
  have K0 := Lib.hid k0
  have L0 := Lib.hid l0
  clear hr0 k0 l0 h
  go_enter Tryd.func53, Tryd.ntmps53
  go_wp2
  generalize hw0 : w.alloc (.cells #[.int .i64 y, .slice A n c, .int .i64 mk] 26) = w0 at *
  have HC := Lib.hid HR0.out.at_
  have a0 := K0.out.cell 0
  have a1 := K0.out.cell 1
  have a2 := K0.out.cell 2
  simp at a0 a1 a2
  clear hw0 K0 HR0
  go_loopw [5] (fun i wr => ∃ k : Nat, k ≤ n ∧ i = .int .i64 k ∧ (∃ q, wr = w0.drewN q) ∧ AllTo (partB ps index) k) (fun i _ => n - (intOf i).toNat)
  case atStart => exact ⟨0, Nat.zero_le _, rfl, ⟨0, rfl⟩, AllTo.zero _⟩
  case round =>
    obtain ⟨k, hk, rfl, ⟨q, rfl⟩, hin⟩ := hrel
    by_cases hlt : k < n
    · obtain ⟨ad, rfl, c1, c2⟩ := HC.out k hlt
      cases hb1 : inB 0 ((index : Int) - 1) (gp ps k).1
      · have HF := Lib.hid (show partB ps index k = false by unfold partB; rw [hb1]; rfl)
        go_wp2
        go_quiet ((go_at_call 62; exact quiet_al (l1In_any _ _ _ _)))
        go_wp2
        go_ret
        exact ⟨ret_bool (itemL_f (x := (y, ps, mk)) (by rw [HL.out]; exact hlt) HF.out).symm, (L0.out.drewN _).drewN _⟩
      · cases hb2 : inB 1 6 (gp ps k).2
        · have HF := Lib.hid (show partB ps index k = false by unfold partB; rw [hb1, hb2]; rfl)
          go_wp2
          go_quiet ((go_at_call 62; exact quiet_al (l1In_any _ _ _ _)))
          go_wp2
          go_ret
          exact ⟨ret_bool (itemL_f (x := (y, ps, mk)) (by rw [HL.out]; exact hlt) HF.out).symm, (L0.out.drewN _).drewN _⟩
        · by_cases hk0 : k = 0
          · have HT := Lib.hid (show partB ps index k = true by unfold partB; rw [hb1, hb2]; simp [hk0])
            have hk0f : decide (0 < k) = false := by simp; omega
            clear hk0
            go_wp2
            go_quiet ((go_at_call 62; exact quiet_al (l1In_any _ _ _ _)))
            go_wp2
            go_roundw
            case rel => exact ⟨k + 1, by omega, by go_num, ⟨_, rfl⟩, hin.succ HT.out⟩
            case measure => simp [intOf]; omega
          · obtain ⟨k, rfl⟩ : ∃ j, k = j + 1 := ⟨k - 1, by omega⟩
            clear hk0
            obtain ⟨ad', e', d1, d2⟩ := HC.out k (by omega)
            injection e' with e'
            subst e'
            by_cases hc : (gp ps (k + 1)).1 ≤ (gp ps k).1
            · have HF := Lib.hid (show partB ps index (k + 1) = false by unfold partB; rw [hb1, hb2]; simp; omega)
              go_wp2
              go_quiet ((go_at_call 62; exact quiet_al (l1In_any _ _ _ _)))
              go_wp2
              go_ret
              exact ⟨ret_bool (itemL_f (x := (y, ps, mk)) (by rw [HL.out]; exact hlt) HF.out).symm, (L0.out.drewN _).drewN _⟩
            · have hcf : decide ((gp ps (k + 1)).1 ≤ (gp ps k).1) = false := decide_eq_false hc
              have HT := Lib.hid (show partB ps index (k + 1) = true by unfold partB; rw [hb1, hb2]; simp; omega)
              go_wp2
              go_quiet ((go_at_call 62; exact quiet_al (l1In_any _ _ _ _)))
              go_wp2
              go_roundw
              case rel => exact ⟨k + 1 + 1, by omega, by go_num, ⟨_, rfl⟩, hin.succ HT.out⟩
              case measure => simp [intOf]; omega
    · obtain rfl : k = n := by omega
      have hall : itemL (y, ps, mk) index = (((inB 0 6 y && decide (k ≤ 3)) && (decide (0 < y) == decide (0 < k))) && inB 0 31 mk) := by
        unfold itemL
        have : (List.range ps.length).all (partB ps index) = true := by
          rw [List.all_eq_true]
          intro j hj
          exact hin j (by have := List.mem_range.1 hj; rw [HL.out] at this; exact this)
        show ((List.range ps.length).all (partB ps index) && _) = _
        rw [this, Bool.true_and]
        show (((inB 0 6 y && decide (ps.length ≤ 3)) && (decide (0 < y) == decide (0 < ps.length))) && inB 0 31 mk) = _
        rw [HL.out]
      have HALL := Lib.hid hall
      have d0 : (w0.drewN q).cell? ⟨w.heap.size, 0, none⟩ = some (.int .i64 y) := a0
      have d1 : (w0.drewN q).cell? ⟨w.heap.size, 1, none⟩ = some (.slice A k c) := a1
      have d2 : (w0.drewN q).cell? ⟨w.heap.size, 2, none⟩ = some (.int .i64 mk) := a2
      have HLL := Lib.hid (L0.out.drewN q)
      generalize w0.drewN q = w2 at *
      clear hall hin a0 a1 a2 hlt HC L0
      go_wp2_with (go_at_call 62; refine (l1In_any _ _ _ _).mono ?_; rintro e w3 ⟨rfl, rfl⟩)
      all_goals (go_ret; refine ⟨ret_bool ?_, HLL.out⟩; rw [HALL.out]; simp_all; try omega)
end Go.Proofs.YtoahjfofnaafaaaDoor
