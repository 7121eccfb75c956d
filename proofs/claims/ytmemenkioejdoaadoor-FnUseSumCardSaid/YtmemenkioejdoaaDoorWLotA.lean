/- Walks: LotsValid, WantsValid, l1Sum, LotsAt of the program and of the reference. -/
import Derived.Test.YtmemenkioejdoaaDoorWSum
namespace Go.Proofs.YtmemenkioejdoaaDoor
open Go.RowKit

def lotB (p : Int × Int) : Bool := inB 0 9 p.1 && inB 0 5 p.2
def lotsL (ps : List (Int × Int)) : Bool := decide (ps.length ≤ 5) && ps.all lotB
theorem lotsL_bad {ps : List (Int × Int)} {k : Nat} (hk : k < ps.length) (h : lotB (gp ps k) = false) : lotsL ps = false := by
  unfold lotsL
  have : ps.all lotB = false := by
    rw [← Bool.not_eq_true, all_iff_gp]
    intro hh
    rw [hh k hk] at h; cases h
  rw [this, Bool.and_false]
theorem lots_facts {ps : List (Int × Int)} {n : Nat} (hl : ps.length = n) (h : lotsL ps = true) : n ≤ 5 ∧ ∀ k, k < n → (0 ≤ (gp ps k).1 ∧ (gp ps k).1 ≤ 9) ∧ 0 ≤ (gp ps k).2 ∧ (gp ps k).2 ≤ 5 := by
  unfold lotsL at h
  rw [Bool.and_eq_true, all_iff_gp, hl] at h
  refine ⟨of_decide_eq_true h.1, fun k hk => ?_⟩
  have := h.2 k hk
  unfold lotB at this
  rw [Bool.and_eq_true, inB_t, inB_t] at this
  exact this

set_option maxRecDepth 20000 in
set_option maxHeartbeats 1000000 in
theorem specLotsValid_any (A : Option Addr) (n c : Nat) (ps : List (Int × Int)) (w : World) (h : RP w A n ps) :
    Calls Tryd.prog 18 #[.slice A n c] w fun e w' => e = .returned (.bool (lotsL ps)) ∧ w = w' := by
  have hm := h.max
  have HL := Lib.hid h.len
  have HC := Lib.hid h.at_
  clear h
  go_enter Tryd.func18, Tryd.ntmps18
  go_wp2
  go_loop [3] (fun i => ∃ k : Nat, k ≤ n ∧ i = .int .i64 k ∧ AllTo (fun j => lotB (gp ps j)) k) (fun i => n - (intOf i).toNat)
  case atStart => exact ⟨0, Nat.zero_le _, rfl, AllTo.zero _⟩
  case round =>
    obtain ⟨k, hk, rfl, hin⟩ := hrel
    by_cases hlt : k < n
    · obtain ⟨ad, rfl, c1, c2⟩ := HC.out k hlt
      cases hb : inB 0 9 (gp ps k).1
      · go_wp2_with (go_at_call 28; refine (l1In_any _ _ _ _).mono ?_; rintro e w' ⟨rfl, rfl⟩)
        go_ret
        exact ⟨ret_bool (lotsL_bad (k := k) (by rw [HL.out]; exact hlt) (by simp [lotB, hb])).symm, rfl⟩
      · cases hb2 : inB 0 5 (gp ps k).2
        · go_wp2_with (go_at_call 28; refine (l1In_any _ _ _ _).mono ?_; rintro e w' ⟨rfl, rfl⟩)
          go_ret
          exact ⟨ret_bool (lotsL_bad (k := k) (by rw [HL.out]; exact hlt) (by simp [lotB, hb2])).symm, rfl⟩
        · go_wp2_with (go_at_call 28; refine (l1In_any _ _ _ _).mono ?_; rintro e w' ⟨rfl, rfl⟩)
          go_round
          case rel => exact ⟨k + 1, by omega, by go_num, hin.succ (by simp [lotB, hb, hb2])⟩
          case measure => simp [intOf]; omega
    · go_wp2
      go_ret
      refine ⟨ret_bool ?_, rfl⟩
      unfold lotsL
      rw [all_iff_gp.2 fun j hj => hin.at_ hlt (by rw [← HL.out]; exact hj), HL.out]
      simp
      try omega

def wantsL (xs : List Int) : Bool := decide (xs.length ≤ 6) && xs.all (inB 0 50)
theorem wants_facts {xs : List Int} {n : Nat} (hl : xs.length = n) (h : wantsL xs = true) : n ≤ 6 ∧ ∀ k, k < n → 0 ≤ gi xs k ∧ gi xs k ≤ 50 := by
  unfold wantsL at h
  rw [Bool.and_eq_true, all_iff_gi, hl] at h
  exact ⟨of_decide_eq_true h.1, fun k hk => inB_t.1 (h.2 k hk)⟩

set_option maxRecDepth 20000 in
set_option maxHeartbeats 400000 in
theorem specWantsValid_any (A : Option Addr) (n c : Nat) (xs : List Int) (w : World) (h : RI w A n xs) :
    Calls Tryd.prog 19 #[.slice A n c] w fun e w' => e = .returned (.bool (wantsL xs)) ∧ w = w' := by
  have hm := h.max
  have HL := Lib.hid h.len
  have HC := Lib.hid h.at_
  clear h
  go_enter Tryd.func19, Tryd.ntmps19
  go_wp2
  go_loop [3] (fun i => ∃ k : Nat, k ≤ n ∧ i = .int .i64 k ∧ AllTo (fun j => inB 0 50 (gi xs j)) k) (fun i => n - (intOf i).toNat)
  case atStart => exact ⟨0, Nat.zero_le _, rfl, AllTo.zero _⟩
  case round =>
    obtain ⟨k, hk, rfl, hin⟩ := hrel
    by_cases hlt : k < n
    · obtain ⟨ad, rfl, hcell⟩ := HC.out k hlt
      cases hb : inB 0 50 (gi xs k)
      · go_wp2_with (go_at_call 28; refine (l1In_any _ _ _ _).mono ?_; rintro e w' ⟨rfl, rfl⟩)
        go_ret
        refine ⟨ret_bool ?_, rfl⟩
        have : xs.all (inB 0 50) = false := by
          rw [← Bool.not_eq_true, all_iff_gi]
          intro hh
          have := hh k (by rw [HL.out]; exact hlt)
          rw [hb] at this; cases this
        simp [wantsL, this]
      · go_wp2_with (go_at_call 28; refine (l1In_any _ _ _ _).mono ?_; rintro e w' ⟨rfl, rfl⟩)
        go_round
        case rel => exact ⟨k + 1, by omega, by go_num, hin.succ hb⟩
        case measure => simp [intOf]; omega
    · go_wp2
      go_ret
      refine ⟨ret_bool ?_, rfl⟩
      have : xs.all (inB 0 50) = true := all_iff_gi.2 fun j hj => hin.at_ hlt (by rw [← HL.out]; exact hj)
      simp [wantsL, this, HL.out]
      try omega

set_option maxRecDepth 20000 in
set_option maxHeartbeats 400000 in
theorem l1Sum_any (A : Option Addr) (n c : Nat) (xs : List Int) (w : World) (h : RI w A n xs) :
    Calls Tryd.prog 12 #[.slice A n c] w fun e w' => e = .returned (.int .i64 (sumW (gi xs) n)) ∧ w = w' := by
  have hm := h.max
  have HC := Lib.hid h.at_
  clear h
  go_enter Tryd.func12, Tryd.ntmps12
  go_wp2
  go_loop [3, 4] (fun v i => ∃ k : Nat, k ≤ n ∧ i = .int .i64 k ∧ v = .int .i64 (sumW (gi xs) k)) (fun _ i => n - (intOf i).toNat)
  case atStart => exact ⟨0, Nat.zero_le _, rfl, rfl⟩
  case round =>
    obtain ⟨k, hk, rfl, rfl⟩ := hrel
    by_cases hlt : k < n
    · obtain ⟨ad, rfl, hcell⟩ := HC.out k hlt
      go_wp2
      go_round
      case rel => exact ⟨k + 1, by omega, by go_num, by rw [sumW_succ]⟩
      case measure => simp [intOf]; omega
    · go_wp2
      go_ret
      obtain rfl : k = n := by omega
      exact ⟨rfl, rfl⟩

/-- what lot k gives on a day -/
def lotAt (ps : List (Int × Int)) (day : Int) (k : Nat) : Int := if day ≤ (gp ps k).2 then (gp ps k).1 else 0
def lotsAtL (ps : List (Int × Int)) (day : Int) : Int := if lotsL ps = true then sumTo (lotAt ps day) ps.length else -1
theorem lotAt_bound {ps : List (Int × Int)} {n : Nat} (day : Int) (h : ∀ k, k < n → (0 ≤ (gp ps k).1 ∧ (gp ps k).1 ≤ 9) ∧ 0 ≤ (gp ps k).2 ∧ (gp ps k).2 ≤ 5) : ∀ k, k < n → 0 ≤ lotAt ps day k ∧ lotAt ps day k ≤ 9 := by
  intro k hk
  have := h k hk
  unfold lotAt
  split <;> omega

end Go.Proofs.YtmemenkioejdoaaDoor
