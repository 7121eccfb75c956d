/- Walks: fractions: lowest, l1Gcd, eqFrac. -/
import Derived.Test.YtoahjfofnaafaaaDoorWCostB
import Derived.Test.YtoahjfofnaafaaaDoorPUnit
import Derived.BigRegion
namespace Go.Proofs.YtoahjfofnaafaaaDoor
open Go.RowKit

set_option maxRecDepth 20000 in
set_option maxHeartbeats 1000000 in
theorem l1Gcd_any (a b : Nat) (w : World) (ha : a ≤ 9223372036854775807) (hb : b ≤ 9223372036854775807) :
    Calls Tryd.prog 66 #[.int .i64 (a : Int), .int .i64 (b : Int)] w fun e w' => e = .returned (.int .i64 (Nat.gcd a b : Nat)) ∧ w = w' := by
  obtain ⟨G, hG⟩ : ∃ G : Nat, G = Nat.gcd a b := ⟨_, rfl⟩
  rw [← hG]
  go_enter Tryd.func66, Tryd.ntmps66
  go_wp2
  go_loop [0, 1] (fun x y => ∃ p q : Nat, x = .int .i64 p ∧ y = .int .i64 q ∧ p ≤ 9223372036854775807 ∧ q ≤ 9223372036854775807 ∧ G = Nat.gcd p q) (fun _ y => (intOf y).toNat)
  case atStart => exact ⟨a, b, rfl, rfl, ha, hb, hG⟩
  case round =>
    obtain ⟨p, q, rfl, rfl, hp, hq, hg⟩ := hrel
    by_cases h0 : q = 0
    · subst h0
      have hb0 : ((0 : Nat) : Int) = 0 := rfl
      rw [Nat.gcd_zero_right] at hg
      subst hg
      go_wp2
      go_ret
      exact ⟨rfl, rfl⟩
    · have hne : ((q : Int) != 0) = true := by rw [bne_iff_ne]; omega
      have hne2 : ((q : Int) == 0) = false := by rw [beq_eq_false_iff_ne]; omega
      have hlt : p % q < q := Nat.mod_lt _ (by omega)
      have hw : wrap64 ((p : Int).tmod q) = ((p % q : Nat) : Int) := by
        rw [show (p : Int).tmod q = ((p % q : Nat) : Int) from rfl]
        exact IntWalk.wrap64_in _ (by omega)
      have hg2 : G = Nat.gcd q (p % q) := by rw [hg, Nat.gcd_comm p q, Nat.gcd_rec q p, Nat.gcd_comm]
      have HW := Lib.hid hw
      have HG := Lib.hid hg2
      clear hw hg hg2 hG
      go_wp2
      go_round
      case rel => exact ⟨q, p % q, rfl, by go_num, hq, by omega, HG.out⟩
      case measure => simp [intOf]; omega
set_option maxRecDepth 20000 in
set_option maxHeartbeats 2000000 in
theorem lowest_any (a b : Nat) (w : World) (ha : a ≤ 9223372036854775807) (hb : b ≤ 9223372036854775807) (hb0 : 0 < b) :
    Calls Tryd.prog 65 #[.int .i64 (a : Int), .int .i64 (b : Int)] w fun e w' => e = .returned (.agg #[.int .i64 ((low a b).1 : Nat), .int .i64 ((low a b).2 : Nat)]) ∧ Le w w' := by
  obtain ⟨G, hG⟩ : ∃ G : Nat, G = Nat.gcd a b := ⟨_, rfl⟩
  have hG0 : 0 < G := by rw [hG]; exact Nat.gcd_pos_of_pos_right a hb0
  have e1 : (low a b).1 = a / G := by rw [hG]; rfl
  have e2 : (low a b).2 = b / G := by rw [hG]; rfl
  have ha2 : a / G ≤ a := Nat.div_le_self _ _
  have hb2 : b / G ≤ b := Nat.div_le_self _ _
  rw [e1, e2]
  have t1 : (a : Int) / G = ((a / G : Nat) : Int) := rfl
  have t2 : (b : Int) / G = ((b / G : Nat) : Int) := rfl
  generalize a / G = qa at *
  generalize b / G = qb at *
  have T1 := Lib.hid t1
  have T2 := Lib.hid t2
  have k0 := Blk.new w 49 #[.int .i64 0, .int .i64 0]
  have l0 := (Le.refl w).alloc (.cells #[.int .i64 0, .int .i64 0] 49)
  generalize hwz : w.alloc (.cells #[.int .i64 0, .int .i64 0] 49) = wz at *
  have K0 := Lib.hid k0
  have L0 := Lib.hid l0
  clear k0 l0 e1 e2 t1 t2
  go_enter Tryd.func65, Tryd.ntmps65
  go_wp2
  go_loopw [5, 6] (fun x y wr => ∃ p q d : Nat, x = .int .i64 p ∧ y = .int .i64 q ∧ p ≤ 9223372036854775807 ∧ q ≤ 9223372036854775807 ∧ G = Nat.gcd p q ∧ wr = wz.drewN d) (fun _ y _ => (intOf y).toNat)
  case atStart => exact ⟨a, b, 0, rfl, rfl, ha, hb, hG, rfl⟩
  case round =>
    obtain ⟨p, q, d, rfl, rfl, hp, hq, hg, rfl⟩ := hrel
    by_cases h0 : q = 0
    · subst h0
      rw [Nat.gcd_zero_right] at hg
      subst hg
      have a0 := (K0.out.drewN d).cell 0
      have a1 := (K0.out.drewN d).cell 1
      have z0 := (K0.out.drewN d).frozen 0
      have z1 := (K0.out.drewN d).frozen 1
      simp only [List.getElem?_toArray, List.getElem?_cons_zero, List.getElem?_cons_succ] at a0 a1
      have hne : ((G : Int) == 0) = false := by rw [beq_eq_false_iff_ne]; omega
      have hw1 : wrap64 ((a : Int) / G) = (qa : Int) := by rw [T1.out]; exact IntWalk.wrap64_in _ (by omega)
      have hw2 : wrap64 ((b : Int) / G) = (qb : Int) := by rw [T2.out]; exact IntWalk.wrap64_in _ (by omega)
      have hle : Le w (wz.drewN d) := L0.out.drewN d
      have kk := K0.out.drewN d
      generalize wz.drewN d = wk at *
      have HLE := Lib.hid hle
      have KK := Lib.hid kk
      clear hG hle kk
      go_wp2
      go_region
      go_wp2
      have b := ((KK.out.set_ 0 (.int .i64 (qa : Int))).set_ 1 (.int .i64 (qb : Int))).drew
      have e0 := b.cell 0
      have e1 := b.cell 1
      simp at e0 e1
      refine bodyPost_ret (v := .agg #[.int .i64 (qa : Int), .int .i64 (qb : Int)]) (by simp [results, Tryd.results65, go_sem, e0, e1]) rfl ⟨rfl, ((HLE.out.setCell (Nat.le_refl _) _).setCell (Nat.le_refl _) _).drew⟩
    · have hne : ((q : Int) != 0) = true := by rw [bne_iff_ne]; omega
      have hne2 : ((q : Int) == 0) = false := by rw [beq_eq_false_iff_ne]; omega
      have hlt : p % q < q := Nat.mod_lt _ (by omega)
      have hw : wrap64 ((p : Int).tmod q) = ((p % q : Nat) : Int) := by
        rw [show (p : Int).tmod q = ((p % q : Nat) : Int) from rfl]
        exact IntWalk.wrap64_in _ (by omega)
      have hg2 : G = Nat.gcd q (p % q) := by rw [hg, Nat.gcd_comm p q, Nat.gcd_rec q p, Nat.gcd_comm]
      have HW := Lib.hid hw
      have HG := Lib.hid hg2
      clear hw hg hg2 hG
      go_wp2
      go_quiet (fail)
      go_wp2
      go_roundw
      case rel => exact ⟨q, p % q, _, rfl, by go_num, hq, by omega, HG.out, World.drewN_drewN _ _ _⟩
      case measure => simp [intOf]; omega

end Go.Proofs.YtoahjfofnaafaaaDoor
