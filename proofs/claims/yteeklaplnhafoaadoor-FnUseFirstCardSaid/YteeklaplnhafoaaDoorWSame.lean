/- laws.sameInts, sameLots: lists that are alike. -/
import Derived.Test.YteeklaplnhafoaaDoorMLaw
import Derived.Test.YteeklaplnhafoaaDoorWInt
namespace Go.Proofs.YteeklaplnhafoaaDoor
open Go.RowKit

set_option maxRecDepth 20000 in
set_option maxHeartbeats 400000 in
theorem sameInts_any (A B : Option Addr) (n m c d : Nat) (xs ys : List Int) (w : World) (h : RI w A n xs) (h' : RI w B m ys) :
    Calls Tryd.prog 47 #[.slice A n c, .slice B m d] w fun e w' => e = .returned (.bool (eqI xs ys)) ∧ ∃ q, w' = w.drewN q := by
  have hm := h.max
  have HL := Lib.hid h.len
  have HC := Lib.hid h.at_
  have HL2 := Lib.hid h'.len
  have HC2 := Lib.hid h'.at_
  clear h h'
  by_cases hnm : n = m
  · subst hnm
    go_enter Tryd.func47, Tryd.ntmps47
    go_wp2
    go_loopw [5] (fun i wr => ∃ k : Nat, k ≤ n ∧ i = .int .i64 k ∧ (∃ q, wr = w.drewN q) ∧ AllTo (fun j => gi xs j == gi ys j) k) (fun i _ => n - (intOf i).toNat)
    case atStart => exact ⟨0, Nat.zero_le _, rfl, ⟨0, rfl⟩, AllTo.zero _⟩
    case round =>
      obtain ⟨k, hk, rfl, ⟨q, rfl⟩, hin⟩ := hrel
      by_cases hlt : k < n
      · obtain ⟨ad, rfl, hcell⟩ := HC.out k hlt
        obtain ⟨ad2, rfl, hcell2⟩ := HC2.out k hlt
        by_cases heq : gi xs k = gi ys k
        · have hb : (gi xs k != gi ys k) = false := by simp [heq]
          have HE := Lib.hid heq
          clear heq
          go_wp2
          go_quiet (fail)
          go_wp2
          go_roundw
          case rel => exact ⟨k + 1, by omega, by go_num, ⟨_, rfl⟩, hin.succ (by simpa using HE.out)⟩
          case measure => simp [intOf]; omega
        · have hb : (gi xs k != gi ys k) = true := by simp [heq]
          have HE := Lib.hid heq
          clear heq
          go_wp2
          go_quiet (fail)
          go_wp2
          go_ret
          refine ⟨ret_bool ?_, _, World.drewN_drewN _ _ _⟩
          have : xs ≠ ys := fun e => HE.out (by rw [e])
          simp [eqI, this]
      · go_wp2
        go_ret
        refine ⟨ret_bool ?_, q, rfl⟩
        have : xs = ys := ext_gi (by rw [HL.out, HL2.out]) fun j hj => by simpa using hin.at_ hlt (by rw [← HL.out]; exact hj)
        simp [eqI, this]
  · have hne : ((n : Int) != (m : Int)) = true := by rw [bne_iff_ne]; omega
    go_enter Tryd.func47, Tryd.ntmps47
    go_wp2
    go_ret
    refine ⟨ret_bool ?_, 0, rfl⟩
    have : xs ≠ ys := fun e => hnm (by rw [← HL.out, ← HL2.out, e])
    simp [eqI, this]


set_option maxRecDepth 20000 in
set_option maxHeartbeats 1000000 in
theorem sameLots_self (A B : Option Addr) (n c d : Nat) (ps : List (Int × Int)) (w : World) (h : RP w A n ps) (h' : RP w B n ps) :
    Calls Tryd.prog 42 #[.slice A n c, .slice B n d] w fun e w' => e = .returned (.bool true) ∧ ∃ q, w' = w.drewN q := by
  have hm := h.max
  have HC := Lib.hid h.at_
  have HC2 := Lib.hid h'.at_
  clear h h'
  go_enter Tryd.func42, Tryd.ntmps42
  go_wp2
  go_loopw [5] (fun i wr => ∃ k : Nat, k ≤ n ∧ i = .int .i64 k ∧ (∃ q, wr = w.drewN q)) (fun i _ => n - (intOf i).toNat)
  case atStart => exact ⟨0, Nat.zero_le _, rfl, ⟨0, rfl⟩⟩
  case round =>
    obtain ⟨k, hk, rfl, ⟨q, rfl⟩⟩ := hrel
    by_cases hlt : k < n
    · obtain ⟨ad, rfl, c1, c2⟩ := HC.out k hlt
      obtain ⟨ad2, rfl, c3, c4⟩ := HC2.out k hlt
      obtain ⟨a, ha⟩ : ∃ a, (gp ps k).1 = a := ⟨_, rfl⟩
      obtain ⟨b, hb⟩ : ∃ b, (gp ps k).2 = b := ⟨_, rfl⟩
      rw [ha] at c1 c3
      rw [hb] at c2 c4
      have hb1 : (a != a) = false := by simp
      have hb2 : (b != b) = false := by simp
      go_wp2
      go_quiet (fail)
      go_wp2
      go_roundw
      case rel => exact ⟨k + 1, by omega, by go_num, ⟨_, rfl⟩⟩
      case measure => simp [intOf]; omega
    · go_wp2
      go_ret
      exact ⟨rfl, q, rfl⟩
end Go.Proofs.YteeklaplnhafoaaDoor
