/- Walks: UseSum of the program and of the reference. -/
import Derived.Test.YtmemenkioejdoaaDoorWSS
import Derived.Test.YtmemenkioejdoaaDoorWLotA
namespace Go.Proofs.YtmemenkioejdoaaDoor
open Go.RowKit

def rowSum (ts : List (List Int)) (k : Nat) : Int := sumW (gi (gl ts k)) (gl ts k).length
def useSumL (ts : List (List Int)) : Int := sumW (rowSum ts) ts.length

set_option maxRecDepth 20000 in
set_option maxHeartbeats 400000 in
theorem implUseSum_any (A : Option Addr) (n c : Nat) (ts : List (List Int)) (w : World) (h : RII w A n ts) :
    Calls Tryd.prog 5 #[.slice A n c] w fun e w' => e = .returned (.int .i64 (useSumL ts)) ∧ w = w' := by
  have hm := h.max
  have HC := Lib.hid h.at_
  have e0 : useSumL ts = sumW (rowSum ts) n := by unfold useSumL; rw [h.len]
  rw [e0]
  clear h e0
  go_enter Tryd.func5, Tryd.ntmps5
  go_wp2
  go_loop [3, 8] (fun v i => ∃ k : Nat, k ≤ n ∧ i = .int .i64 k ∧ v = .int .i64 (sumW (rowSum ts) k)) (fun _ i => n - (intOf i).toNat)
  case atStart => exact ⟨0, Nat.zero_le _, rfl, rfl⟩
  case round =>
    obtain ⟨k, hk, rfl, rfl⟩ := hrel
    by_cases hlt : k < n
    · obtain ⟨ad, B, m, d, rfl, hcell, hr⟩ := HC.out k hlt
      have hs : sumW (gi (gl ts k)) m = rowSum ts k := by unfold rowSum; rw [hr.len]
      have hq := sumOf_any B m d (gl ts k) w hr
      rw [hs] at hq
      have HQ := Lib.hid hq
      clear hr hs hq
      go_wp2_with (go_at_call 11; refine HQ.out.mono ?_; rintro e w1 ⟨rfl, rfl⟩)
      go_round
      case rel => exact ⟨k + 1, by omega, by go_num, by rw [sumW_succ]⟩
      case measure => simp [intOf]; omega
    · go_wp2
      go_ret
      obtain rfl : k = n := by omega
      exact ⟨rfl, rfl⟩

set_option maxRecDepth 20000 in
set_option maxHeartbeats 400000 in
theorem specUseSum_any (A : Option Addr) (n c : Nat) (ts : List (List Int)) (w : World) (h : RII w A n ts) :
    Calls Tryd.prog 6 #[.slice A n c] w fun e w' => e = .returned (.int .i64 (useSumL ts)) ∧ w = w' := by
  have hm := h.max
  have HC := Lib.hid h.at_
  have e0 : useSumL ts = sumW (rowSum ts) n := by unfold useSumL; rw [h.len]
  rw [e0]
  clear h e0
  go_enter Tryd.func6, Tryd.ntmps6
  go_wp2
  go_loop [3, 4] (fun v i => ∃ k : Nat, k ≤ n ∧ i = .int .i64 k ∧ v = .int .i64 (sumW (rowSum ts) k)) (fun _ i => n - (intOf i).toNat)
  case atStart => exact ⟨0, Nat.zero_le _, rfl, rfl⟩
  case round =>
    obtain ⟨k, hk, rfl, rfl⟩ := hrel
    by_cases hlt : k < n
    · obtain ⟨ad, B, m, d, rfl, hcell, hr⟩ := HC.out k hlt
      have hs : sumW (gi (gl ts k)) m = rowSum ts k := by unfold rowSum; rw [hr.len]
      have hq := l1Sum_any B m d (gl ts k) w hr
      rw [hs] at hq
      have HQ := Lib.hid hq
      clear hr hs hq
      go_wp2_with (go_at_call 12; refine HQ.out.mono ?_; rintro e w1 ⟨rfl, rfl⟩)
      go_round
      case rel => exact ⟨k + 1, by omega, by go_num, by rw [sumW_succ]⟩
      case measure => simp [intOf]; omega
    · go_wp2
      go_ret
      obtain rfl : k = n := by omega
      exact ⟨rfl, rfl⟩

end Go.Proofs.YtmemenkioejdoaaDoor
