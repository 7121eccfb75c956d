/- Walk: l1Join, the union of two sets. -/
import Derived.Test.YtbkjfgbafphopaaDoorWPrice
namespace Go.Proofs.YtbkjfgbafphopaaDoor
open Go.RowKit

theorem or_step (a b t : Nat) : (a ||| b) % 2 ^ (t + 1) = (a ||| b) % 2 ^ t + (if a / 2 ^ t % 2 = 1 ∨ b / 2 ^ t % 2 = 1 then 2 ^ t else 0) := by
  have h1 : (a ||| b) / 2 ^ t % 2 = if a / 2 ^ t % 2 = 1 ∨ b / 2 ^ t % 2 = 1 then 1 else 0 := by
    have h := Nat.testBit_or a b t
    rw [Nat.testBit_eq_decide_div_mod_eq, Nat.testBit_eq_decide_div_mod_eq, Nat.testBit_eq_decide_div_mod_eq] at h
    rcases Nat.mod_two_eq_zero_or_one ((a ||| b) / 2 ^ t) with e | e
    · rw [e] at h ⊢
      have h' : (decide (a / 2 ^ t % 2 = 1) || decide (b / 2 ^ t % 2 = 1)) = false := by rw [← h]; rfl
      rw [Bool.or_eq_false_iff, decide_eq_false_iff_not, decide_eq_false_iff_not] at h'
      rw [if_neg (fun q => q.elim h'.1 h'.2)]
    · rw [e] at h ⊢
      have h' : (decide (a / 2 ^ t % 2 = 1) || decide (b / 2 ^ t % 2 = 1)) = true := by rw [← h]; rfl
      rw [Bool.or_eq_true, decide_eq_true_eq, decide_eq_true_eq] at h'
      rw [if_pos h']
  rw [Nat.mod_pow_succ, h1]
  split <;> simp
theorem tmod2 (a q : Nat) (ha : a ≤ 1073741824) : (wrap64 ((a : Int) / (q : Int))).tmod 2 = ((a / q % 2 : Nat) : Int) := by
  have h1 : ((a : Int) / (q : Int)) = ((a / q : Nat) : Int) := by simp
  have h2 : a / q ≤ a := Nat.div_le_self _ _
  rw [h1]
  generalize a / q = x at *
  rw [IntWalk.wrap64_in _ (by omega), Int.tmod_eq_emod_of_nonneg (by omega)]
  omega

set_option maxRecDepth 20000 in
set_option maxHeartbeats 1000000 in
theorem l1Join_any (a b : Nat) (w : World) (ha : a ≤ 1073741824) (hb : b ≤ 1073741824) :
    Calls Tryd.prog 87 #[.int .i64 a, .int .i64 b] w fun e w' => e = .returned (.int .i64 ((a ||| b : Nat) : Int)) ∧ w = w' := by
  go_enter Tryd.func87, Tryd.ntmps87
  go_wp2
  go_loop [5, 6] (fun o i => ∃ t : Nat, t ≤ 40 ∧ i = .int .i64 ((2 ^ t : Nat) : Int) ∧ o = .int .i64 (((a ||| b) % 2 ^ t : Nat) : Int)) (fun _ i => 2147483648 - (intOf i).toNat)
  case atStart => exact ⟨0, Nat.zero_le _, rfl, by simp [Nat.mod_one]⟩
  case round =>
    obtain ⟨t, ht, rfl, rfl⟩ := hrel
    by_cases hlt : 2 ^ t ≤ max a b
    · have hp : 0 < 2 ^ t := Nat.pos_of_ne_zero (by simp)
      have ht30 : t ≤ 30 := by
        rcases Nat.lt_or_ge 30 t with h | h
        · have := Nat.pow_le_pow_right (n := 2) (by omega) (show 31 ≤ t from h)
          omega
        · exact h
      have hs := or_step a b t
      have hs2 : 2 ^ (t + 1) = 2 * 2 ^ t := by rw [Nat.pow_succ]; omega
      have hm := Nat.mod_lt (a ||| b) hp
      generalize hq : 2 ^ t = q at *
      have fa := tmod2 a q ha
      have fb := tmod2 b q hb
      have fw : wrap64 (((a ||| b : Nat) : Int) % (q : Int) + (q : Int)) = (((a ||| b) % q + q : Nat) : Int) := by
        have : ((a ||| b : Nat) : Int) % (q : Int) = (((a ||| b) % q : Nat) : Int) := by simp
        rw [this, IntWalk.wrap64_in _ (by omega)]; simp
      have HS2 := Lib.hid hs2
      have HM := Lib.hid hm
      have HLT := Lib.hid hlt
      have a2 : a / q % 2 = 0 ∨ a / q % 2 = 1 := by omega
      have b2 : b / q % 2 = 0 ∨ b / q % 2 = 1 := by omega
      rcases a2 with a2 | a2 <;> rcases b2 with b2 | b2
      · rw [if_neg (by omega)] at hs
        rw [a2] at fa
        rw [b2] at fb
        have HS := Lib.hid hs
        clear hs hs2 hm a2 b2
        go_wp2
        all_goals (
          go_round
          case rel => exact ⟨t + 1, by omega, by rw [HS2.out]; simp, by rw [HS.out]; simp⟩
          case measure => have := HLT.out; simp [intOf]; omega)
      all_goals (
        rw [if_pos (by omega)] at hs
        rw [a2] at fa
        rw [b2] at fb
        have HS := Lib.hid hs
        clear hs hs2 hm a2 b2
        go_wp2
        all_goals (
          go_round
          case rel => exact ⟨t + 1, by omega, by rw [HS2.out]; simp, by rw [HS.out, ← fw]⟩
          case measure => have := HLT.out; simp [intOf]; omega))
    · have hfin : (a ||| b) % 2 ^ t = a ||| b := Nat.mod_eq_of_lt (Nat.or_lt_two_pow (by omega) (by omega))
      have HF := Lib.hid hfin
      clear hfin
      generalize hq : 2 ^ t = q at *
      go_wp2
      all_goals (go_ret; exact ⟨ret_int (by rw [← HF.out]; simp), rfl⟩)
end Go.Proofs.YtbkjfgbafphopaaDoor
