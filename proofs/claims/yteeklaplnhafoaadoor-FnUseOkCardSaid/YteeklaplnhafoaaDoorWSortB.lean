/- Walk: the library's insertion sort, at the indices of at most 8 lots. -/
import Derived.Test.YteeklaplnhafoaaDoorWSort
import Derived.BigRegion
import Derived.LoopN
namespace Go.Proofs.YteeklaplnhafoaaDoor
open Go.RowKit

theorem ints_set (xs : List Int) (j : Nat) (v : Int) : (ints xs).toArray.setIfInBounds j (.int .i64 v) = (ints (xs.set j v)).toArray := by
  apply Array.ext'
  simp [ints, List.map_set]

theorem BlkI.cell_ {w : World} {g : Nat} {xs : List Int} (h : BlkI w g xs) {j : Nat} (hj : j < xs.length) : w.cell? ⟨g, j, none⟩ = some (.int .i64 (gi xs j)) := by
  have h1 := Blk.cell h j
  rw [h1, List.getElem?_toArray, ints_getElem? hj]
theorem BlkI.set2 {w : World} {g : Nat} {xs : List Int} (h : BlkI w g xs) (i j : Nat) (u v : Int) : BlkI ((w.setCell ⟨g, i, none⟩ (.int .i64 u)).setCell ⟨g, j, none⟩ (.int .i64 v)) g ((xs.set i u).set j v) := by
  have h1 := Blk.set_ (Blk.set_ h i (.int .i64 u)) j (.int .i64 v)
  rw [ints_set, ints_set] at h1
  exact h1

set_option maxRecDepth 20000 in
set_option maxHeartbeats 4000000 in
theorem insSort_any (A : Option Addr) (g n c cA Bx : Nat) (ps : List (Int × Int)) (xs : List Int) (w0 w : World) (hl0 : Le w0 w) (hg : w0.heap.size ≤ g) (hx : w0.cell? ⟨Bx, 0, none⟩ = some (.slice A n cA)) (h : RP w0 A n ps)
    (hp : ∀ k, k < n → (0 ≤ (gp ps k).1 ∧ (gp ps k).1 ≤ 9) ∧ 0 ≤ (gp ps k).2 ∧ (gp ps k).2 ≤ 5) (hn : 1 ≤ n) (hn8 : n ≤ 8) (hb : BlkI w g xs) (hp1 : Pre ps xs n 1) :
    Calls Tryd.prog 88 #[.slice (some ⟨g, 0, none⟩) n c, .int .i64 0, .int .i64 n, .func (.func 81) #[] #[.pointer (some ⟨Bx, 0, none⟩)]] w
      fun e w' => e = .returned (.tuple #[]) ∧ Le w0 w' ∧ ∃ ys, BlkI w' g ys ∧ Pre ps ys n n := by
  have hcm := fun (a b : Nat) (ha : a < n) (hb : b < n) w' (l : Le w0 w') => cmp_any A n cA Bx ps a b w' (l.cell hx) (h.le l) ha hb hp
  have hlb : ∀ k : Nat, k < n → 0 ≤ lastOf ps k ∧ lastOf ps k ≤ 5 := fun k hk => by have := (hp k hk).2; simpa [lastOf] using this
  have HCM := Lib.hid hcm
  have HLB := Lib.hid hlb
  have HB := Lib.hid hb
  have HP1 := Lib.hid hp1
  have HL0 := Lib.hid hl0
  clear hcm hlb hb hp1 hp h hx hl0
  go_enter Tryd.func88, Tryd.ntmps88
  go_wp2
  go_loopw [8] (fun i wr => ∃ k : Nat, 1 ≤ k ∧ k ≤ n ∧ i = .int .i64 k ∧ Le w0 wr ∧ ∃ ys, BlkI wr g ys ∧ Pre ps ys n k) (fun i _ => n - (intOf i).toNat)
  case atStart => exact ⟨1, Nat.le_refl _, hn, rfl, HL0.out, xs, HB.out, HP1.out⟩
  case round =>
    obtain ⟨k, hk1, hk, rfl, hle, ys, hblk, hpre⟩ := hrel
    by_cases hlt : k < n
    · have hmid := hpre.mid hlt
      have HM := Lib.hid hmid
      have HBK := Lib.hid hblk
      have HLE := Lib.hid hle
      clear hmid hblk hle hpre
      go_wp2
      go_loopw [9] (fun j wr => ∃ q : Nat, q ≤ k ∧ j = .int .i64 q ∧ Le w0 wr ∧ ∃ zs, BlkI wr g zs ∧ Mid ps zs n k q) (fun j _ => (intOf j).toNat)
      case atStart => exact ⟨k, Nat.le_refl _, rfl, HLE.out, ys, HBK.out, HM.out⟩
      case round =>
        obtain ⟨q, hq, rfl, hle, zs, hblk, hmid⟩ := hrel
        cases q with
        | zero =>
          have HPR := Lib.hid (hmid.done fun h => absurd h (by omega))
          clear hmid
          go_wp2
          go_quiet (fail)
          go_wp2
          go_roundw
          case rel => exact ⟨k + 1, by omega, by omega, by go_num, hle.drewN _, zs, hblk, HPR.out⟩
          case measure => simp [intOf]; omega
        | succ q =>
          have hln := hmid.len
          have c1 := hblk.cell_ (j := q + 1) (by omega)
          have c2 := hblk.cell_ (j := q) (by omega)
          rw [hmid.me] at c1
          have hlo := hmid.lo q (by omega) (by omega)
          obtain ⟨b, hbq⟩ : ∃ b : Nat, gi zs q = b := ⟨(gi zs q).toNat, by omega⟩
          rw [hbq] at c2
          have hbk : b < n := by omega
          have hcm := fun m => HCM.out k b hlt hbk (wr.drewN m) (hle.drewN m)
          have HC := Lib.hid hcm
          obtain ⟨u1, u2⟩ := HLB.out k hlt
          obtain ⟨u3, u4⟩ := HLB.out b hbk
          have fz1 := hblk.frozen (q + 1)
          have fz2 := hblk.frozen q
          clear hcm hlo
          by_cases hcmp : lastOf ps k - lastOf ps b < 0
          · have HSW := Lib.hid (hmid.swap (by omega) (by omega) (by rw [show q + 1 - 1 = q from rfl, hbq]; omega))
            have HBQ := Lib.hid hbq
            have HME := Lib.hid hmid.me
            have HBK2 := Lib.hid hblk
            have HLE2 := Lib.hid hle
            clear hmid hbq hblk hle
            go_wp2
            go_quiet ((go_at_call 81; exact quiet_d (HC.out _)))
            go_wp2
            generalize hwk : wr.drewN _ = wk
            have k1 : wk.cell? ⟨g, q + 1, none⟩ = some (.int .i64 k) := by rw [← hwk]; exact c1
            have k2 : wk.cell? ⟨g, q, none⟩ = some (.int .i64 b) := by rw [← hwk]; exact c2
            have z1 : wk.frozen? ⟨g, q + 1, none⟩ = false := by rw [← hwk]; exact fz1
            have z2 : wk.frozen? ⟨g, q, none⟩ = false := by rw [← hwk]; exact fz2
            have HWK := Lib.hid hwk
            clear c1 c2 fz1 fz2 hwk
            go_region
            go_wp2
            go_roundw
            case rel =>
              refine ⟨q, by omega, by go_num, ?_, _, ?_, HSW.out⟩
              · have hl : Le w0 wk := by rw [← HWK.out]; exact HLE2.out.drewN _
                exact ((hl.setCell hg _).setCell hg _).drew
              · have hb : BlkI wk g zs := by rw [← HWK.out]; exact HBK2.out
                have := hb.set2 (q + 1) q (gi zs (q + 1 - 1)) (gi zs (q + 1))
                rw [show q + 1 - 1 = q from rfl, HBQ.out, HME.out] at this
                rw [show q + 1 - 1 = q from rfl, HBQ.out, HME.out]
                exact this
            case measure => simp [intOf]
          · have HPR := Lib.hid (hmid.done fun _ => by rw [show q + 1 - 1 = q from rfl, hbq]; omega)
            have hcf : decide (lastOf ps k - lastOf ps b < 0) = false := decide_eq_false hcmp
            have HBK2 := Lib.hid hblk
            have HLE2 := Lib.hid hle
            clear hmid hbq hcmp hblk hle
            go_wp2
            go_quiet ((go_at_call 81; exact quiet_d (HC.out _)))
            go_wp2
            go_roundw
            case rel => exact ⟨k + 1, by omega, by omega, by go_num, HLE2.out.drewN _, zs, HBK2.out, HPR.out⟩
            case measure => simp [intOf]; omega
    · obtain rfl : k = n := by omega
      go_wp2
      go_end0
      exact ⟨rfl, hle, ys, hblk, hpre⟩

end Go.Proofs.YteeklaplnhafoaaDoor
