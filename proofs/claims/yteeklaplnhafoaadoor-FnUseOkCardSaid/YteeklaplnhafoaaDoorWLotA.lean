/- Walks: LotsValid, WantsValid, l1Sum, LotsAt of the program and of the reference. -/
import Derived.Test.YteeklaplnhafoaaDoorWSum
namespace Go.Proofs.YteeklaplnhafoaaDoor
open Go.RowKit

def lotB (p : Int × Int) : Bool := inB 0 9 p.1 && inB 0 5 p.2
def lotsL (ps : List (Int × Int)) : Bool := decide (ps.length ≤ 5) && ps.all lotB
theorem lotsL_bad {ps : List (Int × Int)} {k : Nat} (hk : k < ps.length) (h : lotB (gp ps k) = false) : lotsL ps = false := by
  unfold lotsL
  have : ps.all lotB = false := by
    rw [← Bool.not_eq_true, all_iff_gp]
    intro hh
    rw [hh k hk] at h; cases h
  rw [this, Bool.and_false]
theorem lots_facts {ps : List (Int × Int)} {n : Nat} (hl : ps.length = n) (h : lotsL ps = true) : n ≤ 5 ∧ ∀ k, k < n → (0 ≤ (gp ps k).1 ∧ (gp ps k).1 ≤ 9) ∧ 0 ≤ (gp ps k).2 ∧ (gp ps k).2 ≤ 5 := by
  unfold lotsL at h
  rw [Bool.and_eq_true, all_iff_gp, hl] at h
  refine ⟨of_decide_eq_true h.1, fun k hk => ?_⟩
  have := h.2 k hk
  unfold lotB at this
  rw [Bool.and_eq_true, inB_t, inB_t] at this
  exact this

set_option maxHeartbeats 1000000 in
set_option maxRecDepth 20000 in
theorem implLotsValid_any (A : Option Addr) (n c : Nat) (ps : List (Int × Int)) (w : World) (h : RP w A n ps) :
    Calls Tryd.prog 28 #[.slice A n c] w fun e w' => e = .returned (.bool (lotsL ps)) ∧ Le w w' := by
  have hm := h.max
  have HL := Lib.hid h.len
  have HC := Lib.hid h.at_
  clear h
  by_cases hn : n ≤ 5
  · have hne : decide ((5 : Int) < (n : Int)) = false := by simp; omega
    go_enter Tryd.func28, Tryd.ntmps28
    go_wp2
    go_loopw [10] (fun i wr => ∃ k : Nat, k ≤ n ∧ i = .int .i64 k ∧ Le w wr ∧ AllTo (fun j => lotB (gp ps j)) k) (fun i _ => n - (intOf i).toNat)
    case atStart => exact ⟨0, Nat.zero_le _, rfl, Le.refl _, AllTo.zero _⟩
    case round =>
      obtain ⟨k, hk, rfl, hle, hin⟩ := hrel
      by_cases hlt : k < n
      · obtain ⟨ad, rfl, hc1, hc2⟩ := HC.out k hlt
        have c1 := hle.cell hc1
        have c2 := hle.cell hc2
        clear hc1 hc2
        go_wp2
        all_goals first
          | (go_ret
             refine ⟨ret_bool (lotsL_bad (k := k) (by rw [HL.out]; exact hlt) ?_).symm, hle.alloc _⟩
             unfold lotB
             first
               | (rw [inB_f.2 (by omega)]; rfl)
               | (rw [show inB 0 5 (gp ps k).2 = false from inB_f.2 (by omega), Bool.and_false]))
          | (go_roundw
             case rel => exact ⟨k + 1, by omega, by go_num, hle.alloc _, hin.succ (by unfold lotB; rw [inB_t.2 (by omega), inB_t.2 (by omega)]; rfl)⟩
             case measure => simp [intOf]; omega)
      · go_wp2
        go_ret
        refine ⟨ret_bool ?_, hle⟩
        unfold lotsL
        rw [all_iff_gp.2 fun j hj => hin.at_ hlt (by rw [← HL.out]; exact hj), HL.out]
        simp [hn]
  · have hne : decide ((5 : Int) < (n : Int)) = true := by simp; omega
    go_enter Tryd.func28, Tryd.ntmps28
    go_wp2
    go_ret
    refine ⟨ret_bool ?_, Le.refl _⟩
    unfold lotsL
    rw [HL.out]
    simp [hn]

set_option maxHeartbeats 1000000 in
set_option maxRecDepth 20000 in
theorem specLotsValid_any (A : Option Addr) (n c : Nat) (ps : List (Int × Int)) (w : World) (h : RP w A n ps) :
    Calls Tryd.prog 29 #[.slice A n c] w fun e w' => e = .returned (.bool (lotsL ps)) ∧ w = w' := by
  have hm := h.max
  have HL := Lib.hid h.len
  have HC := Lib.hid h.at_
  clear h
  go_enter Tryd.func29, Tryd.ntmps29
  go_wp2
  go_loop [3] (fun i => ∃ k : Nat, k ≤ n ∧ i = .int .i64 k ∧ AllTo (fun j => lotB (gp ps j)) k) (fun i => n - (intOf i).toNat)
  case atStart => exact ⟨0, Nat.zero_le _, rfl, AllTo.zero _⟩
  case round =>
    obtain ⟨k, hk, rfl, hin⟩ := hrel
    by_cases hlt : k < n
    · obtain ⟨ad, rfl, c1, c2⟩ := HC.out k hlt
      cases hb : inB 0 9 (gp ps k).1
      · go_wp2_with (go_at_call 67; refine (l1In_any _ _ _ _).mono ?_; rintro e w' ⟨rfl, rfl⟩)
        go_ret
        exact ⟨ret_bool (lotsL_bad (k := k) (by rw [HL.out]; exact hlt) (by simp [lotB, hb])).symm, rfl⟩
      · cases hb2 : inB 0 5 (gp ps k).2
        · go_wp2_with (go_at_call 67; refine (l1In_any _ _ _ _).mono ?_; rintro e w' ⟨rfl, rfl⟩)
          go_ret
          exact ⟨ret_bool (lotsL_bad (k := k) (by rw [HL.out]; exact hlt) (by simp [lotB, hb2])).symm, rfl⟩
        · go_wp2_with (go_at_call 67; refine (l1In_any _ _ _ _).mono ?_; rintro e w' ⟨rfl, rfl⟩)
          go_round
          case rel => exact ⟨k + 1, by omega, by go_num, hin.succ (by simp [lotB, hb, hb2])⟩
          case measure => simp [intOf]; omega
    · go_wp2
      go_ret
      refine ⟨ret_bool ?_, rfl⟩
      unfold lotsL
      rw [all_iff_gp.2 fun j hj => hin.at_ hlt (by rw [← HL.out]; exact hj), HL.out]
      simp
      try omega

def wantsL (xs : List Int) : Bool := decide (xs.length ≤ 6) && xs.all (inB 0 50)
theorem wants_facts {xs : List Int} {n : Nat} (hl : xs.length = n) (h : wantsL xs = true) : n ≤ 6 ∧ ∀ k, k < n → 0 ≤ gi xs k ∧ gi xs k ≤ 50 := by
  unfold wantsL at h
  rw [Bool.and_eq_true, all_iff_gi, hl] at h
  exact ⟨of_decide_eq_true h.1, fun k hk => inB_t.1 (h.2 k hk)⟩

set_option maxHeartbeats 400000 in
set_option maxRecDepth 20000 in
theorem implWantsValid_any (A : Option Addr) (n c : Nat) (xs : List Int) (w : World) (h : RI w A n xs) :
    Calls Tryd.prog 31 #[.slice A n c] w fun e w' => e = .returned (.bool (wantsL xs)) ∧ w = w' := by
  have hm := h.max
  have HL := Lib.hid h.len
  by_cases hn : n ≤ 6
  · go_enter Tryd.func31, Tryd.ntmps31
    go_wp2_with (go_at_call 69; refine (amountsOk_any A n c xs _ _ _ h).mono ?_; rintro e w' ⟨rfl, rfl⟩)
    go_ret
    refine ⟨ret_bool ?_, rfl⟩
    unfold wantsL amountsOkL
    rw [HL.out]
    simp [hn]
  · go_enter Tryd.func31, Tryd.ntmps31
    go_wp2
    go_ret
    refine ⟨ret_bool ?_, rfl⟩
    unfold wantsL
    rw [HL.out]
    simp [hn]

set_option maxHeartbeats 400000 in
set_option maxRecDepth 20000 in
theorem specWantsValid_any (A : Option Addr) (n c : Nat) (xs : List Int) (w : World) (h : RI w A n xs) :
    Calls Tryd.prog 32 #[.slice A n c] w fun e w' => e = .returned (.bool (wantsL xs)) ∧ w = w' := by
  have hm := h.max
  have HL := Lib.hid h.len
  have HC := Lib.hid h.at_
  clear h
  go_enter Tryd.func32, Tryd.ntmps32
  go_wp2
  go_loop [3] (fun i => ∃ k : Nat, k ≤ n ∧ i = .int .i64 k ∧ AllTo (fun j => inB 0 50 (gi xs j)) k) (fun i => n - (intOf i).toNat)
  case atStart => exact ⟨0, Nat.zero_le _, rfl, AllTo.zero _⟩
  case round =>
    obtain ⟨k, hk, rfl, hin⟩ := hrel
    by_cases hlt : k < n
    · obtain ⟨ad, rfl, hcell⟩ := HC.out k hlt
      cases hb : inB 0 50 (gi xs k)
      · go_wp2_with (go_at_call 67; refine (l1In_any _ _ _ _).mono ?_; rintro e w' ⟨rfl, rfl⟩)
        go_ret
        refine ⟨ret_bool ?_, rfl⟩
        have : xs.all (inB 0 50) = false := by
          rw [← Bool.not_eq_true, all_iff_gi]
          intro hh
          have := hh k (by rw [HL.out]; exact hlt)
          rw [hb] at this; cases this
        simp [wantsL, this]
      · go_wp2_with (go_at_call 67; refine (l1In_any _ _ _ _).mono ?_; rintro e w' ⟨rfl, rfl⟩)
        go_round
        case rel => exact ⟨k + 1, by omega, by go_num, hin.succ hb⟩
        case measure => simp [intOf]; omega
    · go_wp2
      go_ret
      refine ⟨ret_bool ?_, rfl⟩
      have : xs.all (inB 0 50) = true := all_iff_gi.2 fun j hj => hin.at_ hlt (by rw [← HL.out]; exact hj)
      simp [wantsL, this, HL.out]
      try omega

set_option maxHeartbeats 400000 in
set_option maxRecDepth 20000 in
theorem l1Sum_any (A : Option Addr) (n c : Nat) (xs : List Int) (w : World) (h : RI w A n xs) :
    Calls Tryd.prog 65 #[.slice A n c] w fun e w' => e = .returned (.int .i64 (sumW (gi xs) n)) ∧ w = w' := by
  have hm := h.max
  have HC := Lib.hid h.at_
  clear h
  go_enter Tryd.func65, Tryd.ntmps65
  go_wp2
  go_loop [3, 4] (fun v i => ∃ k : Nat, k ≤ n ∧ i = .int .i64 k ∧ v = .int .i64 (sumW (gi xs) k)) (fun _ i => n - (intOf i).toNat)
  case atStart => exact ⟨0, Nat.zero_le _, rfl, rfl⟩
  case round =>
    obtain ⟨k, hk, rfl, rfl⟩ := hrel
    by_cases hlt : k < n
    · obtain ⟨ad, rfl, hcell⟩ := HC.out k hlt
      go_wp2
      go_round
      case rel => exact ⟨k + 1, by omega, by go_num, by rw [sumW_succ]⟩
      case measure => simp [intOf]; omega
    · go_wp2
      go_ret
      obtain rfl : k = n := by omega
      exact ⟨rfl, rfl⟩

/-- what lot k gives on a day -/
def lotAt (ps : List (Int × Int)) (day : Int) (k : Nat) : Int := if day ≤ (gp ps k).2 then (gp ps k).1 else 0
def lotsAtL (ps : List (Int × Int)) (day : Int) : Int := if lotsL ps = true then sumTo (lotAt ps day) ps.length else -1
theorem lotAt_bound {ps : List (Int × Int)} {n : Nat} (day : Int) (h : ∀ k, k < n → (0 ≤ (gp ps k).1 ∧ (gp ps k).1 ≤ 9) ∧ 0 ≤ (gp ps k).2 ∧ (gp ps k).2 ≤ 5) : ∀ k, k < n → 0 ≤ lotAt ps day k ∧ lotAt ps day k ≤ 9 := by
  intro k hk
  have := h k hk
  unfold lotAt
  split <;> omega

set_option maxHeartbeats 1000000 in
set_option maxRecDepth 20000 in
theorem implLotsAt_any (A : Option Addr) (n c : Nat) (ps : List (Int × Int)) (day : Int) (w : World) (h : RP w A n ps) :
    Calls Tryd.prog 21 #[.slice A n c, .int .i64 day] w fun e w' => e = .returned (.int .i64 (lotsAtL ps day)) ∧ Le w w' := by
  have hv := implLotsValid_any A n c ps w h
  cases hb : lotsL ps
  · rw [hb] at hv
    have e0 : lotsAtL ps day = -1 := by simp [lotsAtL, hb]
    rw [e0]
    have HV := Lib.hid hv
    clear hv hb e0 h
    go_enter Tryd.func21, Tryd.ntmps21
    go_wp2_with (go_at_call 28; refine HV.out.mono ?_; rintro e w1 ⟨rfl, l1⟩)
    go_ret
    exact ⟨rfl, l1⟩
  · rw [hb] at hv
    obtain ⟨hn5, hf⟩ := lots_facts h.len hb
    have e0 : lotsAtL ps day = sumTo (lotAt ps day) n := by unfold lotsAtL; rw [hb, if_pos rfl, h.len]
    have hbd : ∀ k, k ≤ n → 0 ≤ sumTo (lotAt ps day) k ∧ sumTo (lotAt ps day) k ≤ 9 * k := fun k hk => by
      have := sumTo_bound (f := lotAt ps day) (c := 9) (n := k) fun j hj => lotAt_bound day hf j (by omega)
      omega
    have HV := Lib.hid hv
    have HE := Lib.hid e0
    have HF := Lib.hid hf
    have HB := Lib.hid hbd
    have HC := Lib.hid h.at_
    clear hv hb e0 h hf hbd
    go_enter Tryd.func21, Tryd.ntmps21
    go_wp2_with fail
    refine HV.out.mono ?_; rintro e w1 ⟨rfl, l1⟩
    have L1 := Lib.hid l1
    clear l1
    go_wp2
    go_loopw [5, 13] (fun v i wr => ∃ k : Nat, k ≤ n ∧ i = .int .i64 k ∧ v = .int .i64 (sumTo (lotAt ps day) k) ∧ Le w wr) (fun _ i _ => n - (intOf i).toNat)
    case atStart => exact ⟨0, Nat.zero_le _, rfl, rfl, L1.out⟩
    case round =>
      obtain ⟨k, hk, rfl, rfl, hle⟩ := hrel
      obtain ⟨b1, b2⟩ := HB.out k hk
      by_cases hlt : k < n
      · obtain ⟨ad, rfl, hc1, hc2⟩ := HC.out k hlt
        have c1 := hle.cell hc1
        have c2 := hle.cell hc2
        obtain ⟨⟨f1, f2⟩, f3, f4⟩ := HF.out k hlt
        clear hc1 hc2
        by_cases hd : day ≤ (gp ps k).2
        · have hst : sumTo (lotAt ps day) (k + 1) = sumTo (lotAt ps day) k + (gp ps k).1 := by rw [sumTo_succ, lotAt, if_pos hd]
          have HST := Lib.hid hst
          clear hst
          go_wp2
          go_roundw
          case rel => exact ⟨k + 1, by omega, by go_num, by rw [HST.out], hle.alloc _⟩
          case measure => simp [intOf]; omega
        · have hst : sumTo (lotAt ps day) (k + 1) = sumTo (lotAt ps day) k := by rw [sumTo_succ, lotAt, if_neg hd]; omega
          have HST := Lib.hid hst
          clear hst
          go_wp2
          go_roundw
          case rel => exact ⟨k + 1, by omega, by go_num, by rw [HST.out], hle.alloc _⟩
          case measure => simp [intOf]; omega
      · obtain rfl : k = n := by omega
        go_wp2
        go_ret
        exact ⟨ret_int HE.out.symm, hle⟩

set_option maxHeartbeats 1000000 in
set_option maxRecDepth 20000 in
theorem specLotsAt_any (A : Option Addr) (n c : Nat) (ps : List (Int × Int)) (day : Int) (w : World) (h : RP w A n ps) :
    Calls Tryd.prog 34 #[.slice A n c, .int .i64 day] w fun e w' => e = .returned (.int .i64 (lotsAtL ps day)) ∧ w = w' := by
  have hv := specLotsValid_any A n c ps w h
  cases hb : lotsL ps
  · rw [hb] at hv
    have e0 : lotsAtL ps day = -1 := by simp [lotsAtL, hb]
    rw [e0]
    have HV := Lib.hid hv
    clear hv hb e0 h
    go_enter Tryd.func34, Tryd.ntmps34
    go_wp2_with (go_at_call 29; refine HV.out.mono ?_; rintro e w1 ⟨rfl, rfl⟩)
    go_ret
    exact ⟨rfl, rfl⟩
  · rw [hb] at hv
    obtain ⟨hn5, hf⟩ := lots_facts h.len hb
    have e0 : lotsAtL ps day = sumTo (lotAt ps day) n := by unfold lotsAtL; rw [hb, if_pos rfl, h.len]
    have hbd : ∀ k, k ≤ n → 0 ≤ sumTo (lotAt ps day) k ∧ sumTo (lotAt ps day) k ≤ 9 * k := fun k hk => by
      have := sumTo_bound (f := lotAt ps day) (c := 9) (n := k) fun j hj => lotAt_bound day hf j (by omega)
      omega
    have HV := Lib.hid hv
    have HE := Lib.hid e0
    have HF := Lib.hid hf
    have HB := Lib.hid hbd
    have HC := Lib.hid h.at_
    clear hv hb e0 h hf hbd
    go_enter Tryd.func34, Tryd.ntmps34
    go_wp2_with (go_at_call 29; refine HV.out.mono ?_; rintro e w1 ⟨rfl, rfl⟩)
    go_loop [5, 6] (fun v i => ∃ k : Nat, k ≤ n ∧ i = .int .i64 k ∧ v = .int .i64 (sumTo (lotAt ps day) k)) (fun _ i => n - (intOf i).toNat)
    case atStart => exact ⟨0, Nat.zero_le _, rfl, rfl⟩
    case round =>
      obtain ⟨k, hk, rfl, rfl⟩ := hrel
      obtain ⟨b1, b2⟩ := HB.out k hk
      by_cases hlt : k < n
      · obtain ⟨ad, rfl, c1, c2⟩ := HC.out k hlt
        obtain ⟨⟨f1, f2⟩, f3, f4⟩ := HF.out k hlt
        by_cases hd : day ≤ (gp ps k).2
        · have hst : sumTo (lotAt ps day) (k + 1) = sumTo (lotAt ps day) k + (gp ps k).1 := by rw [sumTo_succ, lotAt, if_pos hd]
          have HST := Lib.hid hst
          clear hst
          go_wp2
          go_round
          case rel => exact ⟨k + 1, by omega, by go_num, by rw [HST.out]⟩
          case measure => simp [intOf]; omega
        · have hst : sumTo (lotAt ps day) (k + 1) = sumTo (lotAt ps day) k := by rw [sumTo_succ, lotAt, if_neg hd]; omega
          have HST := Lib.hid hst
          clear hst
          go_wp2
          go_round
          case rel => exact ⟨k + 1, by omega, by go_num, by rw [HST.out]⟩
          case measure => simp [intOf]; omega
      · obtain rfl : k = n := by omega
        go_wp2
        go_ret
        exact ⟨ret_int HE.out.symm, rfl⟩

end Go.Proofs.YteeklaplnhafoaaDoor
