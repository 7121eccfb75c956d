/- Walk: FnUsesOf. -/
import Derived.Test.YtbkjfgbafphopaaDoorWLawD
import Derived.Test.YtbkjfgbafphopaaDoorPLaw1
import Derived.Test.YtbkjfgbafphopaaDoorWAlive
namespace Go.Proofs.YtbkjfgbafphopaaDoor
open Go.RowKit

theorem bit_cases (s q : Nat) : (hasB s q ∧ ((((s : Nat) : Int)) / (2 : Int) ^ q).tmod 2 = 1) ∨ (¬ hasB s q ∧ ((((s : Nat) : Int)) / (2 : Int) ^ q).tmod 2 = 0) := by
  rw [shr_bit]
  unfold hasB
  generalize s / 2 ^ q = x
  omega
theorem usesL_in {ts : List It} {i : Nat} (h : itemsL ts = true) (hi : i < ts.length) : usesL ts (i : Int) = ((usN ts i : Nat) : Int) := by
  unfold usesL usN
  rw [if_pos ⟨h, by omega, by omega⟩, Int.toNat_natCast]
theorem usN_lt {ts : List It} {n i : Nat} (hl : ts.length = n) (h : itemsL ts = true) (hi : i < n) : usN ts i < 64 := by
  obtain ⟨hn6, hf⟩ := items_facts hl h
  exact uN_lt (ts := ts) hn6 hi (fun k hk j hj => by have := ((hf k hk).2.2.2.2 j hj).1; unfold ofN; omega) _
set_option maxRecDepth 20000 in
set_option maxHeartbeats 8000000 in
theorem law_FnUsesOf (w : World) (A : Option Addr) (n c : Nat) (h : RB w A n) (hc : n ≤ c) :
    Calls Tryd.prog 7 #[.slice A n c] w fun e w' => e = .returned (.bool true) ∧ Le w w' := by
  have hm := h.max
  by_cases hn : 1048576 < n
  · go_enter Tryd.func7, Tryd.ntmps7
    go_wp2
    go_ret
    exact ⟨rfl, Le.refl _⟩
  · have HD := Lib.hid (drawUsesOf_any A n c w h hc)
    clear h
    go_enter Tryd.func7, Tryd.ntmps7
    go_wp2_with fail
    refine HD.out.mono ?_; rintro e w1 ⟨gv, cap, n2, ts, ix, rfl, d1, hix, l1⟩
    have hk7 := d1.small
    have HR := Lib.hid d1.rm
    have L1 := Lib.hid l1
    have HK := Lib.hid d1.len
    clear d1 l1
    go_wp2_with fail
    refine (implUses_any _ _ _ _ _ _ HR.out).mono ?_; rintro e w2 ⟨rfl, l2⟩
    go_wp2_with fail
    refine (specUses_any _ _ _ _ _ _ (HR.out.le l2)).mono ?_; rintro e w3 ⟨rfl, l3⟩
    have L3 := Lib.hid (l2.trans l3)
    clear l2 l3
    by_cases hok : itemsL ts = true ∧ 0 ≤ ix ∧ ix < n2
    · obtain ⟨hv, hi0, hi1⟩ := hok
      obtain ⟨i, rfl⟩ := Int.eq_ofNat_of_zero_le hi0
      have hin : i < n2 := by omega
      have HV := Lib.hid hv
      have HLW := Lib.hid (items_low HK.out hv)
      have hus : ∀ q, q < n2 → usesL ts (q : Int) = ((usN ts q : Nat) : Int) ∧ usN ts q < 64 := fun q hq => ⟨usesL_in hv (by rw [HK.out]; exact hq), usN_lt HK.out hv hq⟩
      rw [(hus i hin).1]
      have hs64 := (hus i hin).2
      have HUS := Lib.hid hus
      have HSB := Lib.hid (show ∀ q, hasB (usN ts i) q ∨ ¬ hasB (usN ts i) q from fun q => Classical.em _)
      have hself := usN_self ts i
      obtain ⟨s, hs⟩ : ∃ s, usN ts i = s := ⟨_, rfl⟩
      have HS := Lib.hid hs
      have HSF := Lib.hid hself
      rw [hs] at hs64
      rw [hs]
      clear hv hus hself hs HSB hi0 hi1 hix
      have hss : ((s : Int) != (s : Int)) = false := by simp
      have hs0 : ¬ (s : Int) < 0 := by omega
      go_wp2
      go_loopw [6] (fun v wr => ∃ q : Nat, q ≤ n2 ∧ v = .int .i64 (q : Int) ∧ Le w3 wr) (fun v _ => n2 - (intOf v).toNat)
      case atStart => exact ⟨0, Nat.zero_le _, rfl, Le.refl _⟩
      case round =>
        obtain ⟨q, hq, rfl, hle⟩ := hrel
        have HLE := Lib.hid hle
        clear hle
        by_cases hlt : q < n2
        · have hq64 := (HUS.out q hlt).2
          go_wp2_with fail
          refine (implUses_any _ _ _ _ _ _ (HR.out.le (L3.out.trans HLE.out))).mono ?_; rintro e w4 ⟨rfl, l4⟩
          rw [(HUS.out q hlt).1]
          have L4 := Lib.hid (HLE.out.trans l4)
          clear l4
          obtain ⟨o, ho⟩ : ∃ o, usN ts q = o := ⟨_, rfl⟩
          have HO := Lib.hid ho
          rw [ho] at hq64
          rw [ho]
          clear ho
          go_wp2
          go_loopw [8] (fun v wr => ∃ j : Nat, j ≤ n2 ∧ v = .int .i64 (j : Int) ∧ Le w3 wr) (fun v _ => n2 - (intOf v).toNat)
          case atStart => exact ⟨0, Nat.zero_le _, rfl, L4.out⟩
          case round =>
            obtain ⟨j, hj, rfl, hle⟩ := hrel
            by_cases hjl : j < n2
            · rcases bit_cases s q with ⟨b1, e1⟩ | ⟨b1, e1⟩
              · have hqi : ¬ (i : Int) < (q : Int) := fun h => usN_high HLW.out hin (show i < q by omega) (by rw [HS.out]; exact b1)
                rcases bit_cases o j with ⟨b2, e2⟩ | ⟨b2, e2⟩
                · rcases bit_cases s j with ⟨b3, e3⟩ | ⟨b3, e3⟩
                  · clear b1 b2 b3
                    go_wp2
                    go_roundw
                    case rel => exact ⟨j + 1, by omega, by go_num, hle⟩
                    case measure => simp [intOf]; omega
                  · exfalso
                    have := usN_sub HLW.out hin (k := q) (j := j) (by rw [HS.out]; exact b1) (by rw [HO.out]; exact b2)
                    rw [HS.out] at this
                    exact b3 this
                · clear b1 b2
                  go_wp2
                  go_roundw
                  case rel => exact ⟨j + 1, by omega, by go_num, hle⟩
                  case measure => simp [intOf]; omega
              · clear b1
                by_cases hqi : (i : Int) < (q : Int)
                · go_wp2
                  go_roundw
                  case rel => exact ⟨j + 1, by omega, by go_num, hle⟩
                  case measure => simp [intOf]; omega
                · go_wp2
                  go_roundw
                  case rel => exact ⟨j + 1, by omega, by go_num, hle⟩
                  case measure => simp [intOf]; omega
            · obtain rfl : j = n2 := by omega
              go_wp2
              go_roundw
              case rel => exact ⟨q + 1, by omega, by go_num, hle⟩
              case measure => simp [intOf]; omega
        · have e1 : ((((s : Nat) : Int)) / (2 : Int) ^ i).tmod 2 = 1 := by
            rcases bit_cases s i with ⟨_, e1⟩ | ⟨b1, _⟩
            · exact e1
            · have h9 := HSF.out; rw [HS.out] at h9; exact absurd h9 b1
          go_wp2
          go_ret
          exact ⟨rfl, L1.out.trans (L3.out.trans HLE.out)⟩
    · have hu : usesL ts ix = -1 := by
        unfold usesL; rw [if_neg (by rw [HK.out]; exact hok)]
      rw [hu]
      clear hu hok
      go_wp2_with fail
      refine (alive_any _).mono ?_; rintro e w4 ⟨rfl, l4⟩
      go_wp2
      go_ret
      exact ⟨rfl, L1.out.trans (L3.out.trans l4)⟩
end Go.Proofs.YtbkjfgbafphopaaDoor
