/- Walks: eqItemS, markItemS. -/
import Derived.Test.YtbkjfgbafphopaaWItem
import Derived.Test.YtbkjfgbafphopaaWMPart
import Derived.StillTailTactics
namespace Go.Proofs.Ytbkjfgbafphopaa
open Go.RowKit

set_option maxHeartbeats 1000000 in
theorem eqItemS_self (A B : Option Addr) (n m c d : Nat) (ts : List It) (w : World) (h : RM w A n ts) (h' : RM w B m ts) :
    Calls Try.prog 17 #[.slice A n c, .slice B m d] w fun e w' => e = .returned (.bool true) ∧ Le w w' := by
  have hm := h.max
  have hnm : n = m := by rw [← h.len, ← h'.len]
  subst hnm
  have HC := Lib.hid h.at_
  have HC2 := Lib.hid h'.at_
  clear h h'
  go_enter Try.func17, Try.ntmps17
  go_wp2
  go_loopw [5] (fun i wr => ∃ k : Nat, k ≤ n ∧ i = .int .i64 k ∧ Le w wr) (fun i _ => n - (intOf i).toNat)
  case atStart => exact ⟨0, Nat.zero_le _, rfl, Le.refl _⟩
  case round =>
    obtain ⟨k, hk, rfl, hle⟩ := hrel
    by_cases hlt : k < n
    · obtain ⟨ad, B1, m1, d1, rfl, hc1, hc2, hc3, hr1⟩ := HC.out k hlt
      obtain ⟨ad2, B2, m2, d2, rfl, hc4, hc5, hc6, hr2⟩ := HC2.out k hlt
      have c1 := hle.cell hc1
      have c2 := hle.cell hc2
      have c3 := hle.cell hc3
      have c4 := hle.cell hc4
      have c5 := hle.cell hc5
      have c6 := hle.cell hc6
      have hq := eqItem_self (gm ts k).1 B1 B2 m1 m2 d1 d2 (gm ts k).2.2 _ wr.drew ((hr1.le hle).le ((Le.refl _).drew)) ((hr2.le hle).le ((Le.refl _).drew))
      have HQ := Lib.hid hq
      have HLE := Lib.hid hle
      clear hr1 hr2 hq hc1 hc2 hc3 hc4 hc5 hc6 hle
      go_wp2
      go_still_tail 8, (by kernel_rfl)
      change wpList _ _ _ _ _ wr.drew
      go_wp2_with fail
      refine HQ.out.mono ?_; rintro e w1 ⟨rfl, l1⟩
      have L1 := Lib.hid l1
      clear l1
      go_wp2
      go_roundw
      case rel => exact ⟨k + 1, by omega, by go_num, HLE.out.drew.trans L1.out⟩
      case measure => simp [intOf]; omega
    · go_wp2
      go_ret
      exact ⟨rfl, hle⟩

set_option maxHeartbeats 2000000 in
theorem markItemS_own (g n c hi : Nat) (h : Nat → Value) (ts : List It) (m : Int) (w : World) (o : OwnM w g hi n h ts) (hz : (n : Int) + totM ts n ≤ 1048576) (hm0 : 0 ≤ m) (hm1 : m ≤ 16777216) :
    Calls Try.prog 38 #[.slice (some ⟨g, 0, none⟩) n c, .int .i64 m] w fun e w' => e = .returned (.int .i64 (m + 2 * n + 2 * totM ts n)) ∧ Chg g hi w w' := by
  have h0 := totM_nonneg ts n
  obtain ⟨cs0, hblk0, hsz0, hcell0⟩ := o.blk
  have HO := Lib.hid o.rows
  have HTOP := Lib.hid o.top
  have HRT := Lib.hid o.rtop
  have HC0 := Lib.hid hcell0
  clear o hcell0
  go_enter Try.func38, Try.ntmps38
  go_wp2
  go_loopw [1, 5] (fun v i wr => ∃ k : Nat, k ≤ n ∧ i = .int .i64 k ∧ v = .int .i64 (m + 2 * k + 2 * totM ts k) ∧ Chg g hi w wr ∧ (∃ cs, Blk wr g 67 cs ∧ cs.size = n * 3 ∧ ∀ j, j < n → cs[j * 3 + 1]? = some (h j)) ∧ ∀ j, k ≤ j → j < n → wr.ownsRow (g + 1) 73 2 (h j) (gm ts j).2.1.length (pairs (gm ts j).2.1)) (fun _ i _ => n - (intOf i).toNat)
  case atStart => exact ⟨0, Nat.zero_le _, rfl, by simp [totM, sumTo], Chg.refl _ _ _, ⟨cs0, hblk0, hsz0, fun j hj => (HC0.out j hj).2.1⟩, fun j _ hj => HO.out.row j hj⟩
  case round =>
    obtain ⟨k, hk, rfl, rfl, hch, ⟨cs, hblk, hsz, hhd⟩, hrow⟩ := hrel
    by_cases hlt : k < n
    · have t1 := totM_mono ts (show k + 1 ≤ n from hlt)
      have t2 := totM_nonneg ts k
      have t3 := totM_succ ts k
      have hro := hrow k (Nat.le_refl _) hlt
      obtain ⟨B, d, hh, hr⟩ := own_RP hro (by omega)
      rw [hh] at hro
      have d0 : ∃ u, wr.cell? ⟨g, k * 3, none⟩ = some u := ⟨_, (hblk.cell (k * 3)).trans (Array.getElem?_eq_getElem (show k * 3 < cs.size by omega))⟩
      obtain ⟨u0, d0⟩ := d0
      have d1 := (hblk.cell (k * 3 + 1)).trans (hhd k hlt)
      rw [hh] at d1
      have z0 := hblk.frozen (k * 3)
      have z1 := hblk.frozen (k * 3 + 1)
      have b1 := hblk.set_ (k * 3) (.int .i64 (m + 2 * k + 2 * totM ts k))
      have ho1 := own_far hro (p := ⟨g, k * 3, none⟩) (fun e => by have := (hro.lt g e).1; omega) (.int .i64 (m + 2 * k + 2 * totM ts k))
      have hmk := markPartS_own B (gm ts k).2.1.length d (g + 1) (gm ts k).2.1 (m + 2 * k + 2 * totM ts k + 1) _ ho1 (by omega) (by omega) (by omega)
      have HMK := Lib.hid hmk
      have HROW := Lib.hid hrow
      have HCH := Lib.hid hch
      have HHD := Lib.hid hhd
      have HH := Lib.hid hh
      have HB1 := Lib.hid b1
      have t4 : totM ts k + ((gm ts k).2.1.length : Int) ≤ totM ts n := by omega
      have T3 := Lib.hid t3
      have HRO := Lib.hid hro
      have hgl := hblk.lt
      clear hmk hrow hch hhd hh b1 t3 hro hr ho1
      go_wp2_with (go_at_call 63; refine HMK.out.mono ?_; rintro e w1 ⟨rfl, o1, g1⟩; have hb2 := HB1.out.grown g1 (show some g ≠ _ from fun e => by have := (HRO.out.lt g e.symm).1; omega); have d2 : ∃ u, w1.cell? ⟨g, k * 3 + 2, none⟩ = some u := ⟨_, (hb2.cell (k * 3 + 2)).trans (Array.getElem?_eq_getElem (show k * 3 + 2 < (cs.setIfInBounds (k * 3) (.int .i64 (m + 2 * k + 2 * totM ts k))).size by simp; omega))⟩; obtain ⟨u2, d2⟩ := d2; have z2 := hb2.frozen (k * 3 + 2); have HB2 := Lib.hid hb2; clear hb2)
      go_roundw
      case rel =>
        have htop := HTOP.out
        refine ⟨k + 1, by omega, by go_num, by rw [T3.out]; exact congrArg _ (by omega), ?_, ⟨_, HB2.out.set_ _ _, by simp [hsz], fun j hj => ?_⟩, fun j hj hjn => ?_⟩
        · refine ((HCH.out.trans (Chg.set (Nat.le_refl _) htop _ _)).trans (Chg.of_gb g1 fun b hb => ⟨?_, ?_⟩)).trans (Chg.set (Nat.le_refl _) htop _ _)
          · have := (HRO.out.lt b hb).1; omega
          · exact HRT.out k hlt b (by rw [HH.out]; exact hb)
        · rw [Array.getElem?_setIfInBounds, if_neg (by omega), Array.getElem?_setIfInBounds, if_neg (by omega)]
          exact HHD.out j hj
        · have q0 := HROW.out j (by omega) hjn
          have q1 := own_far q0 (p := ⟨g, k * 3, none⟩) (fun e => by have h9 : g + 1 ≤ g := (q0.lt _ e).1; omega) (.int .i64 (m + 2 * k + 2 * totM ts k))
          have q2 := q1.kept g1 (by
            cases hv : (h j).ownBlock with
            | none => exact .inl rfl
            | some b => exact .inr fun e => HO.out.apart k j (by omega) hjn b (by rw [HH.out]; exact e.symm) hv)
          exact own_far q2 (p := ⟨g, k * 3 + 2, none⟩) (fun e => by have h9 : g + 1 ≤ g := (q0.lt _ e).1; omega) _
      case measure => simp [intOf]; omega
    · obtain rfl : k = n := by omega
      go_wp2
      go_ret
      exact ⟨rfl, hch⟩
end Go.Proofs.Ytbkjfgbafphopaa
