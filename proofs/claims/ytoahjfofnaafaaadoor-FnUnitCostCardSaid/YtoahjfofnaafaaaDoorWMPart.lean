/- Walks: markPartS, heldPartS (slices of structs of two integers). -/
import Derived.Test.YtoahjfofnaafaaaDoorWUpP
import Derived.Test.YtoahjfofnaafaaaDoorWPPart
namespace Go.Proofs.YtoahjfofnaafaaaDoor
open Go.RowKit
set_option maxRecDepth 20000 in
set_option maxHeartbeats 2000000 in
theorem markPartS_own (A : Option Addr) (n c base : Nat) (ps : List (Int × Int)) (m : Int) (w : World) (h : w.ownsRow base 80 2 (.slice A n c) n (pairs ps)) (hn : n ≤ 1048576) (hm0 : 0 ≤ m) (hm1 : m ≤ 1073741824) :
    Calls Tryd.prog 75 #[.slice A n c, .int .i64 m] w fun e w' => e = .returned (.int .i64 (m + 2 * n)) ∧ w'.ownsRow base 80 2 (.slice A n c) n (pairs (upP m n)) ∧ w.grownBy w' (Value.ownBlock (.slice A n c)) := by
  rcases h.2 with ⟨hv, rfl⟩ | ⟨g, cap, cur, hv, hbg, hg, hnc, hcm, hcs, htake⟩
  · injection hv with e1 e2 e3
    subst e1; subst e3
    go_enter Tryd.func75, Tryd.ntmps75
    go_wp2
    go_loop [1, 5] (fun v i => i = .int .i64 0 ∧ v = .int .i64 m) (fun _ _ => 0)
    case atStart => exact ⟨rfl, rfl⟩
    case round =>
      obtain ⟨rfl, rfl⟩ := hrel
      go_wp2
      go_ret
      exact ⟨by simp, by simpa [upP, pairs] using World.ownsRow_nil _ _ _ _, World.grownBy.refl _ _⟩
  · injection hv with e1 e2 e3
    subst e1; subst e3
    have hblk0 : Blk w g 80 cur := hg
    have hcs' : cur.size = c * 2 := by omega
    have HCS := Lib.hid hcs'
    have HT := Lib.hid htake
    have HNC := Lib.hid hnc
    have HCM := Lib.hid hcm
    clear hg hcs hcs' htake h hcm
    go_enter Tryd.func75, Tryd.ntmps75
    go_wp2
    go_loopw [1, 5] (fun v i wr => ∃ k : Nat, k ≤ n ∧ i = .int .i64 k ∧ v = .int .i64 (m + 2 * k) ∧ w.grownBy wr (some g) ∧ ∃ cs, Blk wr g 80 cs ∧ cs.size = c * 2 ∧ ∀ j, j < k * 2 → cs[j]? = some (.int .i64 (m + (j : Nat)))) (fun _ i _ => n - (intOf i).toNat)
    case atStart => exact ⟨0, Nat.zero_le _, rfl, by simp, World.grownBy.refl _ _, _, hblk0, HCS.out, fun j hj => absurd hj (by omega)⟩
    case round =>
      obtain ⟨k, hk, rfl, rfl, hgr, cs, hblk, hsz, hin⟩ := hrel
      by_cases hlt : k < n
      · have hkc : k * 2 < cs.size := by omega
        have hkc1 : k * 2 + 1 < cs.size := by omega
        have hc1 := (hblk.cell (k * 2)).trans (Array.getElem?_eq_getElem hkc)
        have hc2 := (hblk.cell (k * 2 + 1)).trans (Array.getElem?_eq_getElem hkc1)
        have hf1 := hblk.frozen (k * 2)
        have hf2 := hblk.frozen (k * 2 + 1)
        have HS := Lib.hid hsz
        have HI := Lib.hid hin
        clear hin
        go_wp2
        go_roundw
        case rel =>
          refine ⟨k + 1, by omega, by go_num, by go_num, gb_setCell (gb_setCell hgr rfl _) rfl _, _, (hblk.set_ _ _).set_ _ _, by simp [HS.out], fun j hj => ?_⟩
          have hs := HS.out
          rw [Array.getElem?_setIfInBounds]
          by_cases e : k * 2 + 1 = j
          · subst e; rw [if_pos rfl, if_pos (by simp; omega)]; congr 2; omega
          · rw [if_neg e, Array.getElem?_setIfInBounds]
            by_cases e2 : k * 2 = j
            · subst e2; rw [if_pos rfl, if_pos (by omega)]; congr 2; omega
            · rw [if_neg e2]; exact HI.out j (by omega)
        case measure => simp [intOf]; omega
      · obtain rfl : k = n := by omega
        go_wp2
        go_ret
        have hnc' := HNC.out
        refine ⟨rfl, ⟨by rw [pairs_length, upP_length], .inr ⟨g, c, cs, rfl, hbg, hblk, HNC.out, HCM.out, by omega, ?_⟩⟩, hgr⟩
        apply List.ext_getElem?
        intro j
        by_cases hj : j < k * 2
        · rw [List.getElem?_take, if_pos hj, pairs_getElem? (by rw [upP_length]; exact hj), cellP_upP hj, Array.getElem?_toList]
          exact hin j hj
        · rw [List.getElem?_take, if_neg hj, List.getElem?_eq_none (by rw [pairs_length, upP_length]; omega)]

set_option maxRecDepth 20000 in
set_option maxHeartbeats 1000000 in
theorem heldPartS_any (A : Option Addr) (n c : Nat) (m : Int) (w : World) (h : RP w A n (upP m n)) (hn : n ≤ 1048576) (hm0 : 0 ≤ m) (hm1 : m ≤ 1073741824) :
    Calls Tryd.prog 76 #[.slice A n c, .int .i64 m] w fun e w' => e = .returned (.int .i64 (m + 2 * n)) ∧ w = w' := by
  have HC := Lib.hid h.at_
  clear h
  go_enter Tryd.func76, Tryd.ntmps76
  go_wp2
  go_loop [1, 5] (fun v i => ∃ k : Nat, k ≤ n ∧ i = .int .i64 k ∧ v = .int .i64 (m + 2 * k)) (fun _ i => n - (intOf i).toNat)
  case atStart => exact ⟨0, Nat.zero_le _, rfl, by simp⟩
  case round =>
    obtain ⟨k, hk, rfl, rfl⟩ := hrel
    by_cases hlt : k < n
    · obtain ⟨ad, rfl, hcell, hcell2⟩ := HC.out k hlt
      rw [gp_upP hlt] at hcell hcell2
      go_wp2
      go_round
      case rel => exact ⟨k + 1, by omega, by go_num, by go_num⟩
      case measure => simp [intOf]; omega
    · go_wp2
      go_ret
      obtain rfl : k = n := by omega
      exact ⟨rfl, rfl⟩

end Go.Proofs.YtoahjfofnaafaaaDoor
