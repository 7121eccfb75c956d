/- Walks on slices of dishes: szDishS, toDishS, eqDishS, DishesValid of the program and of the reference. -/
import Derived.Test.YtedopialmhpalaaWInt
import Derived.StillTailTactics
namespace Go.Proofs.Ytedopialmhpalaa
open Go.RowKit

def dishB (p : Int × Int) : Bool := inB 0 30 p.1 && inB 0 30 p.2
def dishesL (ps : List (Int × Int)) : Bool := decide (ps.length ≤ 6) && ps.all dishB
theorem dishesL_bad {ps : List (Int × Int)} {k : Nat} (hk : k < ps.length) (h : dishB (gp ps k) = false) : dishesL ps = false := by
  unfold dishesL
  have : ps.all dishB = false := by
    rw [← Bool.not_eq_true, all_iff_gp]
    intro hh
    rw [hh k hk] at h; cases h
  rw [this, Bool.and_false]

set_option maxHeartbeats 1000000 in
theorem implDishesValid_any (A : Option Addr) (n c : Nat) (ps : List (Int × Int)) (w : World) (h : RP w A n ps) :
    Calls Try.prog 25 #[.slice A n c] w fun e w' => e = .returned (.bool (dishesL ps)) ∧ Le w w' := by
  have hm := h.max
  have HL := Lib.hid h.len
  have HC := Lib.hid h.at_
  clear h
  by_cases hn : n ≤ 6
  · have hne : decide ((6 : Int) < (n : Int)) = false := by simp; omega
    go_enter Try.func25, Try.ntmps25
    go_wp2
    go_loopw [10] (fun i wr => ∃ k : Nat, k ≤ n ∧ i = .int .i64 k ∧ Le w wr ∧ AllTo (fun j => dishB (gp ps j)) k) (fun i _ => n - (intOf i).toNat)
    case atStart => exact ⟨0, Nat.zero_le _, rfl, Le.refl _, AllTo.zero _⟩
    case round =>
      obtain ⟨k, hk, rfl, hle, hin⟩ := hrel
      by_cases hlt : k < n
      · obtain ⟨ad, rfl, hc1, hc2⟩ := HC.out k hlt
        have c1 := hle.cell hc1
        have c2 := hle.cell hc2
        clear hc1 hc2
        go_wp2
        all_goals first
          | (go_ret
             refine ⟨ret_bool (dishesL_bad (k := k) (by rw [HL.out]; exact hlt) ?_).symm, hle.alloc _⟩
             unfold dishB
             first
               | (rw [inB_f.2 (by omega)]; rfl)
               | (rw [show inB 0 30 (gp ps k).2 = false from inB_f.2 (by omega), Bool.and_false]))
          | (go_roundw
             case rel => exact ⟨k + 1, by omega, by go_num, hle.alloc _, hin.succ (by unfold dishB; rw [inB_t.2 (by omega), inB_t.2 (by omega)]; rfl)⟩
             case measure => simp [intOf]; omega)
      · go_wp2
        go_ret
        refine ⟨ret_bool ?_, hle⟩
        unfold dishesL
        rw [all_iff_gp.2 fun j hj => hin.at_ hlt (by rw [← HL.out]; exact hj), HL.out]
        simp [hn]
  · have hne : decide ((6 : Int) < (n : Int)) = true := by simp; omega
    go_enter Try.func25, Try.ntmps25
    go_wp2
    go_ret
    refine ⟨ret_bool ?_, Le.refl _⟩
    unfold dishesL
    rw [HL.out]
    simp [hn]

set_option maxHeartbeats 1000000 in
theorem specDishesValid_any (A : Option Addr) (n c : Nat) (ps : List (Int × Int)) (w : World) (h : RP w A n ps) :
    Calls Try.prog 23 #[.slice A n c] w fun e w' => e = .returned (.bool (dishesL ps)) ∧ w = w' := by
  have hm := h.max
  have HL := Lib.hid h.len
  have HC := Lib.hid h.at_
  clear h
  go_enter Try.func23, Try.ntmps23
  go_wp2
  go_loop [3] (fun i => ∃ k : Nat, k ≤ n ∧ i = .int .i64 k ∧ AllTo (fun j => dishB (gp ps j)) k) (fun i => n - (intOf i).toNat)
  case atStart => exact ⟨0, Nat.zero_le _, rfl, AllTo.zero _⟩
  case round =>
    obtain ⟨k, hk, rfl, hin⟩ := hrel
    by_cases hlt : k < n
    · obtain ⟨ad, rfl, c1, c2⟩ := HC.out k hlt
      cases hb : inB 0 30 (gp ps k).1
      · go_wp2_with (go_at_call 44; refine (l1In_any _ _ _ _).mono ?_; rintro e w' ⟨rfl, rfl⟩)
        go_ret
        exact ⟨ret_bool (dishesL_bad (k := k) (by rw [HL.out]; exact hlt) (by simp [dishB, hb])).symm, rfl⟩
      · cases hb2 : inB 0 30 (gp ps k).2
        · go_wp2_with (go_at_call 44; refine (l1In_any _ _ _ _).mono ?_; rintro e w' ⟨rfl, rfl⟩)
          go_ret
          exact ⟨ret_bool (dishesL_bad (k := k) (by rw [HL.out]; exact hlt) (by simp [dishB, hb2])).symm, rfl⟩
        · go_wp2_with (go_at_call 44; refine (l1In_any _ _ _ _).mono ?_; rintro e w' ⟨rfl, rfl⟩)
          go_round
          case rel => exact ⟨k + 1, by omega, by go_num, hin.succ (by simp [dishB, hb, hb2])⟩
          case measure => simp [intOf]; omega
    · go_wp2
      go_ret
      refine ⟨ret_bool ?_, rfl⟩
      unfold dishesL
      rw [all_iff_gp.2 fun j hj => hin.at_ hlt (by rw [← HL.out]; exact hj), HL.out]
      simp
      try omega

end Go.Proofs.Ytedopialmhpalaa
