/- Walk: FnFreeOf. -/
import Derived.Test.YtbkjfgbafphopaaDoorLFnUsesOf
namespace Go.Proofs.YtbkjfgbafphopaaDoor
open Go.RowKit

set_option maxRecDepth 20000 in
set_option maxHeartbeats 1000000 in
theorem hasInt_any (A : Option Addr) (n c : Nat) (xs : List Int) (x : Int) (w : World) (h : RI w A n xs) :
    Calls Tryd.prog 43 #[.slice A n c, .int .i64 x] w fun e w' => e = .returned (.bool (decide (x ∈ xs))) ∧ w = w' := by
  have hm := h.max
  have HL := Lib.hid h.len
  have HC := Lib.hid h.at_
  clear h
  go_enter Tryd.func43, Tryd.ntmps43
  go_wp2
  go_loop [5] (fun v => ∃ k : Nat, k ≤ n ∧ v = .int .i64 k ∧ ∀ j, j < k → gi xs j ≠ x) (fun v => n - (intOf v).toNat)
  case atStart => exact ⟨0, Nat.zero_le _, rfl, fun j hj => absurd hj (by omega)⟩
  case round =>
    obtain ⟨k, hk, rfl, hno⟩ := hrel
    have HN := Lib.hid hno
    clear hno
    by_cases hlt : k < n
    · obtain ⟨ad, rfl, hcell⟩ := HC.out k hlt
      obtain ⟨z, hz⟩ : ∃ z, gi xs k = z := ⟨_, rfl⟩
      rw [hz] at hcell
      have HZ := Lib.hid hz
      clear hz
      by_cases hzx : z = x
      · have hb : (z == x) = true := by simp [hzx]
        have HZX := Lib.hid hzx
        clear hzx
        go_wp2
        go_ret
        refine ⟨ret_bool ?_, rfl⟩
        have : x ∈ xs := by rw [← HZX.out, ← HZ.out]; exact gi_mem (by rw [HL.out]; exact hlt)
        simp [this]
      · have hb : (z == x) = false := by simp [hzx]
        have HZX := Lib.hid hzx
        clear hzx
        go_wp2
        go_round
        case rel => exact ⟨k + 1, by omega, by go_num, fun j hj => by
          by_cases e : j = k
          · subst e; rw [HZ.out]; exact HZX.out
          · exact HN.out j (by omega)⟩
        case measure => simp [intOf]; omega
    · go_wp2
      go_ret
      refine ⟨ret_bool ?_, rfl⟩
      have : x ∉ xs := fun hx => by
        obtain ⟨j, hj, e⟩ := List.mem_iff_getElem.1 hx
        refine HN.out j (by have := HL.out; omega) ?_
        unfold gi; rw [List.getD_eq_getElem?_getD, List.getElem?_eq_getElem hj, ← e]; rfl
      simp [this]
set_option maxRecDepth 20000 in
set_option maxHeartbeats 1000000 in
theorem ascend_yes (A : Option Addr) (n c : Nat) (xs : List Int) (w : World) (h : RI w A n xs) (ha : ∀ i, i + 1 < n → gi xs i < gi xs (i + 1)) :
    Calls Tryd.prog 44 #[.slice A n c] w fun e w' => e = .returned (.bool true) ∧ ∃ q, w' = w.drewN q := by
  have hm := h.max
  have HC := Lib.hid h.at_
  have HA := Lib.hid ha
  clear h ha
  go_enter Tryd.func44, Tryd.ntmps44
  go_wp2
  go_loopw [3] (fun v wr => ∃ k : Nat, 1 ≤ k ∧ (k ≤ n ∨ k = 1) ∧ v = .int .i64 k ∧ ∃ q, wr = w.drewN q) (fun v _ => n - (intOf v).toNat)
  case atStart => exact ⟨1, Nat.le_refl _, .inr rfl, rfl, 0, rfl⟩
  case round =>
    obtain ⟨k, hk1, hk, rfl, q, rfl⟩ := hrel
    by_cases hlt : k < n
    · obtain ⟨i, hik⟩ : ∃ i, i = k - 1 := ⟨_, rfl⟩
      obtain ⟨ad, rfl, c1⟩ := HC.out i (by omega)
      obtain ⟨ad2, e2, c2⟩ := HC.out k hlt
      injection e2 with e2
      subst e2
      have hai := HA.out i (by omega)
      rw [show i + 1 = k by omega] at hai
      obtain ⟨x, hx⟩ : ∃ x, gi xs i = x := ⟨_, rfl⟩
      obtain ⟨y, hy⟩ : ∃ y, gi xs k = y := ⟨_, rfl⟩
      rw [hx] at c1 hai
      rw [hy] at c2 hai
      have hi2 : IntKind.i64.wrap ((k : Int) - 1) = (i : Int) := by rw [IntWalk.i64_in _ (by omega)]; omega
      have hi3 : (0 : Int) ≤ (i : Int) := by omega
      have hi4 : (i : Int) < (n : Int) := by omega
      have hle : ¬ y ≤ x := by omega
      clear hx hy hik
      go_wp2
      go_quiet (fail)
      go_wp2
      go_roundw
      case rel => exact ⟨k + 1, by omega, by omega, by go_num, _, rfl⟩
      case measure => simp [intOf]; omega
    · go_wp2
      go_ret
      exact ⟨rfl, q, rfl⟩
theorem slice_retN {P : Program} {f : FuncId} {args : Array Value} {w : World} {t : TypeId} {L : List Int}
    (h : Calls P f args w fun e w' => ∃ v, e = .returned v ∧ w'.ownsRow w.heap.size t 1 v L.length (ints L) ∧ Le w w') (hm : L.length ≤ 9223372036854775807) :
    Calls P f args w fun e w' => ∃ A c, e = .returned (.slice A L.length c) ∧ RI w' A L.length L ∧ Le w w' :=
  h.mono fun e w' ⟨v, he, ho, hl⟩ => by
    obtain ⟨A, c, rfl, hr⟩ := own_RI ho hm
    exact ⟨A, c, he, hr, hl⟩
set_option maxRecDepth 20000 in
set_option maxHeartbeats 16000000 in
theorem law_FnFreeOf (w : World) (A : Option Addr) (n c : Nat) (h : RB w A n) (hc : n ≤ c) :
    Calls Tryd.prog 9 #[.slice A n c] w fun e w' => e = .returned (.bool true) ∧ Le w w' := by
  have hm := h.max
  by_cases hn : 1048576 < n
  · go_enter Tryd.func9, Tryd.ntmps9
    go_wp2
    go_ret
    exact ⟨rfl, Le.refl _⟩
  · have HD := Lib.hid (drawFreeOf_any A n c w h hc)
    clear h
    go_enter Tryd.func9, Tryd.ntmps9
    go_wp2_with fail
    refine HD.out.mono ?_; rintro e w1 ⟨gv, cap, n2, ts, av, rfl, d1, hav, l1⟩
    have hk7 := d1.small
    have HR := Lib.hid d1.rm
    have L1 := Lib.hid l1
    have HK := Lib.hid d1.len
    clear d1 l1
    have hfl := freeL_len (avoid := av) HK.out
    obtain ⟨L, hL⟩ : ∃ L, freeL ts av = L := ⟨_, rfl⟩
    obtain ⟨l, hl⟩ : ∃ l, L.length = l := ⟨_, rfl⟩
    rw [hL, hl] at hfl
    have HI := Lib.hid (slice_retN (implFree_any _ _ cap _ av _ HR.out) (by rw [hL, hl]; omega))
    have HS := Lib.hid (fun w' (q : Le w1 w') => slice_retN (specFree_any _ _ cap _ av _ (HR.out.le q)) (by rw [hL, hl]; omega))
    rw [hL, hl] at HI HS
    have HLL := Lib.hid hL
    have HLN := Lib.hid hl
    clear hL hl
    go_wp2_with fail
    refine HI.out.mono ?_; rintro e w2 ⟨A2, c2, rfl, r2, l2⟩
    have HF2 := Lib.hid r2
    have M2 := Lib.hid l2
    clear r2 l2
    go_wp2_with fail
    refine (HS.out _ M2.out).mono ?_; rintro e w3 ⟨A3, c3, rfl, r3, l3⟩
    have HF3 := Lib.hid r3
    have M3 := Lib.hid (M2.out.trans l3)
    have HF23 := Lib.hid (HF2.out.le l3)
    clear r3 l3
    go_wp2_with fail
    refine (sameInts_any _ _ _ _ _ _ _ _ _ HF23.out HF3.out).mono ?_; rintro e w4 ⟨rfl, q4, rfl⟩
    rw [show eqI L L = true by simp [eqI]]
    have M4 := Lib.hid (M3.out.drewN q4)
    have HF := Lib.hid (HF23.out.drewN q4)
    obtain ⟨w4, hw4⟩ : ∃ w4, w3.drewN q4 = w4 := ⟨_, rfl⟩
    rw [hw4] at M4 HF
    rw [hw4]
    clear hw4
    go_wp2_with fail
    refine (specItemsValid_any _ _ _ _ _ (HR.out.le M4.out)).mono ?_; rintro e w5 ⟨rfl, l5⟩
    obtain ⟨V, hV⟩ : ∃ V, itemsL ts = V := ⟨_, rfl⟩
    rw [hV]
    have HV := Lib.hid hV
    have M5 := Lib.hid (M4.out.trans l5)
    have HF5 := Lib.hid (HF.out.le l5)
    clear l5 hV
    by_cases hok : V = true ∧ 0 ≤ av ∧ av ≤ 31
    · obtain ⟨rfl, ha0, ha1⟩ := hok
      obtain ⟨a, rfl⟩ := Int.eq_ofNat_of_zero_le ha0
      have ha32 : a < 32 := by omega
      have HLW := Lib.hid (items_low HK.out HV.out)
      have HMK := Lib.hid (show ∀ q, q < n2 → marksOfL ts (q : Int) = ((mkN ts q : Nat) : Int) ∧ mkN ts q < 32 from fun q hq => marks_at HK.out hq HV.out)
      have HLF := Lib.hid (show L = freesTo ts a n2 from by rw [← HLL.out]; unfold freeL; rw [if_pos ⟨HV.out, by omega, by omega⟩, Int.toNat_natCast, HK.out])
      obtain ⟨LA, hLA⟩ : ∃ LA, freeL ts 0 = LA := ⟨_, rfl⟩
      have HLA := Lib.hid (show LA = freesTo ts 0 n2 from by rw [← hLA]; unfold freeL; rw [if_pos ⟨HV.out, by omega, by omega⟩, HK.out]; rfl)
      have hfl2 := freeL_len (ts := ts) (avoid := 0) HK.out
      obtain ⟨la, hla⟩ : ∃ la, LA.length = la := ⟨_, rfl⟩
      rw [hLA, hla] at hfl2
      have HI2 := Lib.hid (slice_retN (implFree_any _ _ cap _ 0 _ (HR.out.le M5.out)) (by rw [hLA, hla]; omega))
      rw [hLA, hla] at HI2
      clear hLA hla hav
      have hb1 : ¬ (a : Int) < 0 := by omega
      have hb2 : ¬ (31 : Int) < (a : Int) := by omega
      go_wp2_with fail
      refine HI2.out.mono ?_; rintro e w7 ⟨A7, c7, rfl, r7, l7⟩
      have HAL := Lib.hid r7
      have M7 := Lib.hid (M5.out.trans l7)
      have HF7 := Lib.hid (HF5.out.le l7)
      have HR7 := Lib.hid (HR.out.le M7.out)
      clear r7 l7 HF HF5
      have HF := HF7
      clear HF7
      go_wp2
      go_loopw [7] (fun u wr => ∃ q : Nat, q ≤ n2 ∧ u = .int .i64 (q : Int) ∧ Le w7 wr) (fun u _ => n2 - (intOf u).toNat)
      case atStart => exact ⟨0, Nat.zero_le _, rfl, Le.refl _⟩
      case round =>
        obtain ⟨q, hq, rfl, hle⟩ := hrel
        have HLE0 := Lib.hid hle
        clear hle
        by_cases hlt : q < n2
        · have hq32 := (HMK.out q hlt).2
          go_wp2_with fail
          refine (implMarks_any _ _ _ _ _ _ (HR7.out.le HLE0.out)).mono ?_; rintro e w8 ⟨rfl, l8⟩
          rw [(HMK.out q hlt).1]
          have HLE := Lib.hid (HLE0.out.trans l8)
          clear l8 HLE0
          obtain ⟨y, hy⟩ : ∃ y, mkN ts q = y := ⟨_, rfl⟩
          have HYM := Lib.hid hy
          rw [hy] at hq32
          rw [hy]
          clear hy
          go_wp2
          go_loop [9, 10] (fun v u => ∃ (b : Nat) (t : Bool), b ≤ 5 ∧ u = .int .i64 (b : Int) ∧ v = .bool t ∧ (t = true ↔ ∀ z, z < b → ¬ (hasB y z ∧ hasB a z))) (fun _ u => 5 - (intOf u).toNat)
          case atStart => exact ⟨0, true, Nat.zero_le _, rfl, rfl, by simp⟩
          case round =>
            obtain ⟨b, t, hb, rfl, rfl, ht⟩ := hrel
            have HT := Lib.hid ht
            clear ht
            by_cases hb5 : b < 5
            · cases t
              · go_wp2
                go_round
                case rel => exact ⟨b + 1, false, by omega, by go_num, rfl, by
                  constructor
                  · intro h; cases h
                  · intro h; exact HT.out.2 fun z hz => h z (by omega)⟩
                case measure => simp [intOf]; omega
              · rcases bit_cases y b with ⟨b1, e1⟩ | ⟨b1, e1⟩
                · rcases bit_cases a b with ⟨b2, e2⟩ | ⟨b2, e2⟩
                  · have HB := Lib.hid (And.intro b1 b2)
                    clear b1 b2
                    go_wp2
                    go_round
                    case rel => exact ⟨b + 1, false, by omega, by go_num, rfl, by
                      constructor
                      · intro h; cases h
                      · intro h; exact absurd HB.out (h b (by omega))⟩
                    case measure => simp [intOf]; omega
                  · have HB := Lib.hid b2
                    clear b1 b2
                    go_wp2
                    go_round
                    case rel => exact ⟨b + 1, true, by omega, by go_num, rfl, by
                      refine ⟨fun _ z hz => ?_, fun _ => rfl⟩
                      by_cases e : z = b
                      · subst e; exact fun h => HB.out h.2
                      · exact HT.out.1 rfl z (by omega)⟩
                    case measure => simp [intOf]; omega
                · have HB := Lib.hid b1
                  clear b1
                  go_wp2
                  go_round
                  case rel => exact ⟨b + 1, true, by omega, by go_num, rfl, by
                    refine ⟨fun _ z hz => ?_, fun _ => rfl⟩
                    by_cases e : z = b
                    · subst e; exact fun h => HB.out h.1
                    · exact HT.out.1 rfl z (by omega)⟩
                  case measure => simp [intOf]; omega
            · obtain rfl : b = 5 := by omega
              have hmeet : t = true ↔ mkN ts q &&& a = 0 := by rw [HT.out, HYM.out]; exact (meet_bits hq32).symm
              obtain ⟨ad, B, m1, d1, ead, k0, _, _, _⟩ := HR7.out.at_ q hlt
              injection ead with ead
              subst ead
              obtain ⟨Y, hY⟩ : ∃ Y, (gm ts q).1 = Y := ⟨_, rfl⟩
              have hfm : decide ((q : Int) ∈ L) = (decide (0 < Y) && t) := by
                rw [HLF.out, ← hY]
                rw [Bool.eq_iff_iff, decide_eq_true_eq, Bool.and_eq_true, decide_eq_true_eq, free_has hlt, hmeet]
              have ham : decide ((q : Int) ∈ LA) = decide (0 < Y) := by
                rw [HLA.out, ← hY, decide_eq_decide, free_has hlt, Nat.and_zero]
                simp
              rw [hY, addr0] at k0
              clear hY hmeet
              by_cases hyp : 0 < Y
              · have hyd : decide (0 < Y) = true := decide_eq_true hyp
                rw [hyd] at hfm ham
                cases t
                · have HFM := Lib.hid hfm
                  have HAM := Lib.hid ham
                  clear hfm ham
                  go_wp2
                  have SW : Le w7 w8.drew := HLE.out.drew
                  refine wp_region_held_drew (S := fun w' => Le w7 w') (by kernel_rfl) SW (fun _ => ?_)
                  obtain ⟨wd0, hwd0⟩ : ∃ wd0, w8.drew = wd0 := ⟨_, rfl⟩
                  rw [hwd0] at SW
                  rw [hwd0]
                  clear hwd0
                  refine wpAnyH_takeL (i := 0) (v := ?_) rfl (by kernel_rfl) (by kernel_rfl) (by kernel_rfl) (fun _ _ _ h => h) (Or.inl ⟨by rfl, ?_⟩) (by assumption) ?_
                  rotate_left
                  · (intro w' hSw; (try dsimp only at hSw); go_simp; all_goals with_reducible rfl)
                  repeat (first | simp only [Act.put] | simp only [List.setIfInBounds_toArray] | simp only [List.set_cons_succ] | simp only [List.set_cons_zero])
                  refine wpAnyH_takeL (i := 1) (v := ?_) rfl (by kernel_rfl) (by kernel_rfl) (by kernel_rfl) (fun _ _ _ h => h) (Or.inl ⟨by rfl, ?_⟩) (by assumption) ?_
                  rotate_left
                  · (intro w' hSw; (try dsimp only at hSw); go_simp; all_goals with_reducible rfl)
                  repeat (first | simp only [Act.put] | simp only [List.setIfInBounds_toArray] | simp only [List.set_cons_succ] | simp only [List.set_cons_zero])
                  refine wpAnyH_takeL (i := 3) (v := ?_) rfl (by kernel_rfl) (by kernel_rfl) (by kernel_rfl) (fun _ _ _ h => h) (Or.inl ⟨by rfl, ?_⟩) (by assumption) ?_
                  rotate_left
                  · (intro w' hSw; (try dsimp only at hSw); go_simp; all_goals with_reducible rfl)
                  repeat (first | simp only [Act.put] | simp only [List.setIfInBounds_toArray] | simp only [List.set_cons_succ] | simp only [List.set_cons_zero])
                  refine wpAnyH_ready (rs := [2]) (by kernel_rfl) (by simp) ?_
                  refine consL (i := 2) rfl (fun K hK => ?_) AllReadyH.nil
                  go_simp
                  refine (hasInt_any _ _ _ _ (q : Int) _ (HF.out.le SW)).mono ?_; rintro e w' ⟨rfl, rfl⟩
                  rw [HFM.out]
                  (try go_wp2_with fail)
                  refine hK.out _ _ SW (fun _ => ?_)
                  clear hK K
                  repeat (first | simp only [Act.put] | simp only [List.setIfInBounds_toArray] | simp only [List.set_cons_succ] | simp only [List.set_cons_zero])
                  refine wpAnyH_takeL (i := 4) (v := ?_) rfl (by kernel_rfl) (by kernel_rfl) (by kernel_rfl) (fun _ _ _ h => h) (Or.inl ⟨by rfl, ?_⟩) (by assumption) ?_
                  rotate_left
                  · (intro w' hSw; (try dsimp only at hSw); go_simp; all_goals with_reducible rfl)
                  repeat (first | simp only [Act.put] | simp only [List.setIfInBounds_toArray] | simp only [List.set_cons_succ] | simp only [List.set_cons_zero])
                  refine wpAnyH_takeL (i := 5) (v := undef) rfl (by kernel_rfl) (by kernel_rfl) (by kernel_rfl) (fun _ _ _ h => h) (Or.inr ⟨by rfl, rfl⟩) (by assumption) ?_
                  repeat (first | simp only [Act.put] | simp only [List.setIfInBounds_toArray] | simp only [List.set_cons_succ] | simp only [List.set_cons_zero])
                  refine wpAnyH_takeL (i := 6) (v := undef) rfl (by kernel_rfl) (by kernel_rfl) (by kernel_rfl) (fun _ _ _ h => h) (Or.inr ⟨by rfl, rfl⟩) (by assumption) ?_
                  repeat (first | simp only [Act.put] | simp only [List.setIfInBounds_toArray] | simp only [List.set_cons_succ] | simp only [List.set_cons_zero])
                  refine wpAnyH_takeL (i := 7) (v := undef) rfl (by kernel_rfl) (by kernel_rfl) (by kernel_rfl) (fun _ _ _ h => h) (Or.inr ⟨by rfl, rfl⟩) (by assumption) ?_
                  repeat (first | simp only [Act.put] | simp only [List.setIfInBounds_toArray] | simp only [List.set_cons_succ] | simp only [List.set_cons_zero])
                  refine wpAnyH_takeL (i := 8) (v := undef) rfl (by kernel_rfl) (by kernel_rfl) (by kernel_rfl) (fun _ _ _ h => h) (Or.inr ⟨by rfl, rfl⟩) (by assumption) ?_
                  repeat (first | simp only [Act.put] | simp only [List.setIfInBounds_toArray] | simp only [List.set_cons_succ] | simp only [List.set_cons_zero])
                  refine wpAnyH_takeL (i := 9) (v := undef) rfl (by kernel_rfl) (by kernel_rfl) (by kernel_rfl) (fun _ _ _ h => h) (Or.inr ⟨by rfl, rfl⟩) (by assumption) ?_
                  repeat (first | simp only [Act.put] | simp only [List.setIfInBounds_toArray] | simp only [List.set_cons_succ] | simp only [List.set_cons_zero])
                  refine wpAnyH_takeL (i := 10) (v := undef) rfl (by kernel_rfl) (by kernel_rfl) (by kernel_rfl) (fun _ _ _ h => h) (Or.inr ⟨by rfl, rfl⟩) (by assumption) ?_
                  repeat (first | simp only [Act.put] | simp only [List.setIfInBounds_toArray] | simp only [List.set_cons_succ] | simp only [List.set_cons_zero])
                  refine wpAnyH_takeL (i := 11) (v := ?_) rfl (by kernel_rfl) (by kernel_rfl) (by kernel_rfl) (fun _ _ _ h => h) (Or.inl ⟨by rfl, ?_⟩) (by assumption) ?_
                  rotate_left
                  · (intro w' hSw; (try dsimp only at hSw); go_simp; all_goals with_reducible rfl)
                  repeat (first | simp only [Act.put] | simp only [List.setIfInBounds_toArray] | simp only [List.set_cons_succ] | simp only [List.set_cons_zero])
                  refine wpAnyH_takeL (i := 12) (v := ?_) rfl (by kernel_rfl) (by kernel_rfl) (by kernel_rfl) (fun _ _ _ h => h) (Or.inl ⟨by rfl, ?_⟩) (by assumption) ?_
                  rotate_left
                  · (intro w' hSw; (try dsimp only at hSw); go_simp; all_goals with_reducible rfl)
                  repeat (first | simp only [Act.put] | simp only [List.setIfInBounds_toArray] | simp only [List.set_cons_succ] | simp only [List.set_cons_zero])
                  refine wpAnyH_takeL (i := 13) (v := ?_) rfl (by kernel_rfl) (by kernel_rfl) (by kernel_rfl) (fun _ _ _ h => h) (Or.inl ⟨by rfl, ?_⟩) (by assumption) ?_
                  rotate_left
                  · (intro w' hSw; (try dsimp only at hSw); go_simp; all_goals with_reducible rfl)
                  repeat (first | simp only [Act.put] | simp only [List.setIfInBounds_toArray] | simp only [List.set_cons_succ] | simp only [List.set_cons_zero])
                  refine wpAnyH_takeL (i := 14) (v := ?_) rfl (by kernel_rfl) (by kernel_rfl) (by kernel_rfl) (fun _ _ _ h => h) (Or.inl ⟨by rfl, ?_⟩) (by assumption) ?_
                  rotate_left
                  · (intro w' hSw; (try dsimp only at hSw); go_simp; all_goals with_reducible rfl)
                  repeat (first | simp only [Act.put] | simp only [List.setIfInBounds_toArray] | simp only [List.set_cons_succ] | simp only [List.set_cons_zero])
                  refine wpAnyH_takeL (i := 15) (v := ?_) rfl (by kernel_rfl) (by kernel_rfl) (by kernel_rfl) (fun _ _ _ h => h) (Or.inl ⟨by rfl, ?_⟩) (by assumption) ?_
                  rotate_left
                  · (intro w' hSw; (try dsimp only at hSw); go_simp; all_goals with_reducible rfl)
                  repeat (first | simp only [Act.put] | simp only [List.setIfInBounds_toArray] | simp only [List.set_cons_succ] | simp only [List.set_cons_zero])
                  refine wpAnyH_takeL (i := 17) (v := ?_) rfl (by kernel_rfl) (by kernel_rfl) (by kernel_rfl) (fun _ _ _ h => h) (Or.inl ⟨by rfl, ?_⟩) (by assumption) ?_
                  rotate_left
                  · (intro w' hSw; (try dsimp only at hSw); go_simp; all_goals with_reducible rfl)
                  repeat (first | simp only [Act.put] | simp only [List.setIfInBounds_toArray] | simp only [List.set_cons_succ] | simp only [List.set_cons_zero])
                  refine wpAnyH_takeL (i := 18) (v := ?_) rfl (by kernel_rfl) (by kernel_rfl) (by kernel_rfl) (fun _ _ _ h => h) (Or.inl ⟨by rfl, ?_⟩) (by assumption) ?_
                  rotate_left
                  · (intro w' hSw; (try dsimp only at hSw); go_simp; all_goals with_reducible rfl)
                  repeat (first | simp only [Act.put] | simp only [List.setIfInBounds_toArray] | simp only [List.set_cons_succ] | simp only [List.set_cons_zero])
                  refine wpAnyH_takeL (i := 19) (v := ?_) rfl (by kernel_rfl) (by kernel_rfl) (by kernel_rfl) (fun _ _ _ h => h) (Or.inl ⟨by rfl, ?_⟩) (by assumption) ?_
                  rotate_left
                  · (intro w' hSw; (try dsimp only at hSw); go_simp; all_goals with_reducible rfl)
                  repeat (first | simp only [Act.put] | simp only [List.setIfInBounds_toArray] | simp only [List.set_cons_succ] | simp only [List.set_cons_zero])
                  refine wpAnyH_takeL (i := 20) (v := ?_) rfl (by kernel_rfl) (by kernel_rfl) (by kernel_rfl) (fun _ _ _ h => h) (Or.inl ⟨by rfl, ?_⟩) (by assumption) ?_
                  rotate_left
                  · (intro w' hSw; (try dsimp only at hSw); go_simp; all_goals with_reducible rfl)
                  repeat (first | simp only [Act.put] | simp only [List.setIfInBounds_toArray] | simp only [List.set_cons_succ] | simp only [List.set_cons_zero])
                  refine wpAnyH_takeL (i := 21) (v := ?_) rfl (by kernel_rfl) (by kernel_rfl) (by kernel_rfl) (fun _ _ _ h => h) (Or.inl ⟨by rfl, ?_⟩) (by assumption) ?_
                  rotate_left
                  · (intro w' hSw; have cX0 := Le.cell hSw k0; (try dsimp only at hSw); go_simp; all_goals with_reducible rfl)
                  repeat (first | simp only [Act.put] | simp only [List.setIfInBounds_toArray] | simp only [List.set_cons_succ] | simp only [List.set_cons_zero])
                  refine wpAnyH_takeL (i := 22) (v := ?_) rfl (by kernel_rfl) (by kernel_rfl) (by kernel_rfl) (fun _ _ _ h => h) (Or.inl ⟨by rfl, ?_⟩) (by assumption) ?_
                  rotate_left
                  · (intro w' hSw; (try dsimp only at hSw); go_simp; all_goals with_reducible rfl)
                  repeat (first | simp only [Act.put] | simp only [List.setIfInBounds_toArray] | simp only [List.set_cons_succ] | simp only [List.set_cons_zero])
                  refine wpAnyH_ready (rs := [16]) (by kernel_rfl) (by simp) ?_
                  refine consL (i := 16) rfl (fun K hK => ?_) AllReadyH.nil
                  go_simp
                  refine (hasInt_any _ _ _ _ (q : Int) _ (HAL.out.le SW)).mono ?_; rintro e w' ⟨rfl, rfl⟩
                  rw [HAM.out]
                  (try go_wp2_with fail)
                  refine hK.out _ _ SW (fun _ => ?_)
                  clear hK K
                  repeat (first | simp only [Act.put] | simp only [List.setIfInBounds_toArray] | simp only [List.set_cons_succ] | simp only [List.set_cons_zero])
                  refine wpAnyH_takeL (i := 23) (v := ?_) rfl (by kernel_rfl) (by kernel_rfl) (by kernel_rfl) (fun _ _ _ h => h) (Or.inl ⟨by rfl, ?_⟩) (by assumption) ?_
                  rotate_left
                  · (intro w' hSw; (try dsimp only at hSw); go_simp; all_goals with_reducible rfl)
                  repeat (first | simp only [Act.put] | simp only [List.setIfInBounds_toArray] | simp only [List.set_cons_succ] | simp only [List.set_cons_zero])
                  refine wpAnyH_takeL (i := 24) (v := ?_) rfl (by kernel_rfl) (by kernel_rfl) (by kernel_rfl) (fun _ _ _ h => h) (Or.inl ⟨by rfl, ?_⟩) (by assumption) ?_
                  rotate_left
                  · (intro w' hSw; (try dsimp only at hSw); go_simp; all_goals with_reducible rfl)
                  repeat (first | simp only [Act.put] | simp only [List.setIfInBounds_toArray] | simp only [List.set_cons_succ] | simp only [List.set_cons_zero])
                  refine wpAnyH_done (by kernel_rfl) ?_ _
                  clear k0
                  have SWq := SW
                  go_wp2
                  go_roundw
                  case rel => exact ⟨q + 1, by omega, by go_num, SWq⟩
                  case measure => simp [intOf]; omega
                · have HFM := Lib.hid hfm
                  have HAM := Lib.hid ham
                  clear hfm ham
                  go_wp2
                  have SW : Le w7 w8.drew := HLE.out.drew
                  refine wp_region_held_drew (S := fun w' => Le w7 w') (by kernel_rfl) SW (fun _ => ?_)
                  obtain ⟨wd0, hwd0⟩ : ∃ wd0, w8.drew = wd0 := ⟨_, rfl⟩
                  rw [hwd0] at SW
                  rw [hwd0]
                  clear hwd0
                  refine wpAnyH_takeL (i := 0) (v := ?_) rfl (by kernel_rfl) (by kernel_rfl) (by kernel_rfl) (fun _ _ _ h => h) (Or.inl ⟨by rfl, ?_⟩) (by assumption) ?_
                  rotate_left
                  · (intro w' hSw; (try dsimp only at hSw); go_simp; all_goals with_reducible rfl)
                  repeat (first | simp only [Act.put] | simp only [List.setIfInBounds_toArray] | simp only [List.set_cons_succ] | simp only [List.set_cons_zero])
                  refine wpAnyH_takeL (i := 1) (v := ?_) rfl (by kernel_rfl) (by kernel_rfl) (by kernel_rfl) (fun _ _ _ h => h) (Or.inl ⟨by rfl, ?_⟩) (by assumption) ?_
                  rotate_left
                  · (intro w' hSw; (try dsimp only at hSw); go_simp; all_goals with_reducible rfl)
                  repeat (first | simp only [Act.put] | simp only [List.setIfInBounds_toArray] | simp only [List.set_cons_succ] | simp only [List.set_cons_zero])
                  refine wpAnyH_takeL (i := 3) (v := ?_) rfl (by kernel_rfl) (by kernel_rfl) (by kernel_rfl) (fun _ _ _ h => h) (Or.inl ⟨by rfl, ?_⟩) (by assumption) ?_
                  rotate_left
                  · (intro w' hSw; (try dsimp only at hSw); go_simp; all_goals with_reducible rfl)
                  repeat (first | simp only [Act.put] | simp only [List.setIfInBounds_toArray] | simp only [List.set_cons_succ] | simp only [List.set_cons_zero])
                  refine wpAnyH_ready (rs := [2]) (by kernel_rfl) (by simp) ?_
                  refine consL (i := 2) rfl (fun K hK => ?_) AllReadyH.nil
                  go_simp
                  refine (hasInt_any _ _ _ _ (q : Int) _ (HF.out.le SW)).mono ?_; rintro e w' ⟨rfl, rfl⟩
                  rw [HFM.out]
                  (try go_wp2_with fail)
                  refine hK.out _ _ SW (fun _ => ?_)
                  clear hK K
                  repeat (first | simp only [Act.put] | simp only [List.setIfInBounds_toArray] | simp only [List.set_cons_succ] | simp only [List.set_cons_zero])
                  refine wpAnyH_takeL (i := 4) (v := ?_) rfl (by kernel_rfl) (by kernel_rfl) (by kernel_rfl) (fun _ _ _ h => h) (Or.inl ⟨by rfl, ?_⟩) (by assumption) ?_
                  rotate_left
                  · (intro w' hSw; (try dsimp only at hSw); go_simp; all_goals with_reducible rfl)
                  repeat (first | simp only [Act.put] | simp only [List.setIfInBounds_toArray] | simp only [List.set_cons_succ] | simp only [List.set_cons_zero])
                  refine wpAnyH_takeL (i := 5) (v := ?_) rfl (by kernel_rfl) (by kernel_rfl) (by kernel_rfl) (fun _ _ _ h => h) (Or.inl ⟨by rfl, ?_⟩) (by assumption) ?_
                  rotate_left
                  · (intro w' hSw; (try dsimp only at hSw); go_simp; all_goals with_reducible rfl)
                  repeat (first | simp only [Act.put] | simp only [List.setIfInBounds_toArray] | simp only [List.set_cons_succ] | simp only [List.set_cons_zero])
                  refine wpAnyH_takeL (i := 6) (v := ?_) rfl (by kernel_rfl) (by kernel_rfl) (by kernel_rfl) (fun _ _ _ h => h) (Or.inl ⟨by rfl, ?_⟩) (by assumption) ?_
                  rotate_left
                  · (intro w' hSw; (try dsimp only at hSw); go_simp; all_goals with_reducible rfl)
                  repeat (first | simp only [Act.put] | simp only [List.setIfInBounds_toArray] | simp only [List.set_cons_succ] | simp only [List.set_cons_zero])
                  refine wpAnyH_takeL (i := 7) (v := ?_) rfl (by kernel_rfl) (by kernel_rfl) (by kernel_rfl) (fun _ _ _ h => h) (Or.inl ⟨by rfl, ?_⟩) (by assumption) ?_
                  rotate_left
                  · (intro w' hSw; (try dsimp only at hSw); go_simp; all_goals with_reducible rfl)
                  repeat (first | simp only [Act.put] | simp only [List.setIfInBounds_toArray] | simp only [List.set_cons_succ] | simp only [List.set_cons_zero])
                  refine wpAnyH_takeL (i := 8) (v := ?_) rfl (by kernel_rfl) (by kernel_rfl) (by kernel_rfl) (fun _ _ _ h => h) (Or.inl ⟨by rfl, ?_⟩) (by assumption) ?_
                  rotate_left
                  · (intro w' hSw; (try dsimp only at hSw); go_simp; all_goals with_reducible rfl)
                  repeat (first | simp only [Act.put] | simp only [List.setIfInBounds_toArray] | simp only [List.set_cons_succ] | simp only [List.set_cons_zero])
                  refine wpAnyH_takeL (i := 9) (v := ?_) rfl (by kernel_rfl) (by kernel_rfl) (by kernel_rfl) (fun _ _ _ h => h) (Or.inl ⟨by rfl, ?_⟩) (by assumption) ?_
                  rotate_left
                  · (intro w' hSw; have cX0 := Le.cell hSw k0; (try dsimp only at hSw); go_simp; all_goals with_reducible rfl)
                  repeat (first | simp only [Act.put] | simp only [List.setIfInBounds_toArray] | simp only [List.set_cons_succ] | simp only [List.set_cons_zero])
                  refine wpAnyH_takeL (i := 10) (v := ?_) rfl (by kernel_rfl) (by kernel_rfl) (by kernel_rfl) (fun _ _ _ h => h) (Or.inl ⟨by rfl, ?_⟩) (by assumption) ?_
                  rotate_left
                  · (intro w' hSw; (try dsimp only at hSw); go_simp; all_goals with_reducible rfl)
                  repeat (first | simp only [Act.put] | simp only [List.setIfInBounds_toArray] | simp only [List.set_cons_succ] | simp only [List.set_cons_zero])
                  refine wpAnyH_takeL (i := 11) (v := ?_) rfl (by kernel_rfl) (by kernel_rfl) (by kernel_rfl) (fun _ _ _ h => h) (Or.inl ⟨by rfl, ?_⟩) (by assumption) ?_
                  rotate_left
                  · (intro w' hSw; (try dsimp only at hSw); go_simp; all_goals with_reducible rfl)
                  repeat (first | simp only [Act.put] | simp only [List.setIfInBounds_toArray] | simp only [List.set_cons_succ] | simp only [List.set_cons_zero])
                  refine wpAnyH_takeL (i := 12) (v := ?_) rfl (by kernel_rfl) (by kernel_rfl) (by kernel_rfl) (fun _ _ _ h => h) (Or.inl ⟨by rfl, ?_⟩) (by assumption) ?_
                  rotate_left
                  · (intro w' hSw; (try dsimp only at hSw); go_simp; all_goals with_reducible rfl)
                  repeat (first | simp only [Act.put] | simp only [List.setIfInBounds_toArray] | simp only [List.set_cons_succ] | simp only [List.set_cons_zero])
                  refine wpAnyH_takeL (i := 13) (v := ?_) rfl (by kernel_rfl) (by kernel_rfl) (by kernel_rfl) (fun _ _ _ h => h) (Or.inl ⟨by rfl, ?_⟩) (by assumption) ?_
                  rotate_left
                  · (intro w' hSw; (try dsimp only at hSw); go_simp; all_goals with_reducible rfl)
                  repeat (first | simp only [Act.put] | simp only [List.setIfInBounds_toArray] | simp only [List.set_cons_succ] | simp only [List.set_cons_zero])
                  refine wpAnyH_takeL (i := 14) (v := ?_) rfl (by kernel_rfl) (by kernel_rfl) (by kernel_rfl) (fun _ _ _ h => h) (Or.inl ⟨by rfl, ?_⟩) (by assumption) ?_
                  rotate_left
                  · (intro w' hSw; (try dsimp only at hSw); go_simp; all_goals with_reducible rfl)
                  repeat (first | simp only [Act.put] | simp only [List.setIfInBounds_toArray] | simp only [List.set_cons_succ] | simp only [List.set_cons_zero])
                  refine wpAnyH_takeL (i := 15) (v := ?_) rfl (by kernel_rfl) (by kernel_rfl) (by kernel_rfl) (fun _ _ _ h => h) (Or.inl ⟨by rfl, ?_⟩) (by assumption) ?_
                  rotate_left
                  · (intro w' hSw; (try dsimp only at hSw); go_simp; all_goals with_reducible rfl)
                  repeat (first | simp only [Act.put] | simp only [List.setIfInBounds_toArray] | simp only [List.set_cons_succ] | simp only [List.set_cons_zero])
                  refine wpAnyH_takeL (i := 17) (v := ?_) rfl (by kernel_rfl) (by kernel_rfl) (by kernel_rfl) (fun _ _ _ h => h) (Or.inl ⟨by rfl, ?_⟩) (by assumption) ?_
                  rotate_left
                  · (intro w' hSw; (try dsimp only at hSw); go_simp; all_goals with_reducible rfl)
                  repeat (first | simp only [Act.put] | simp only [List.setIfInBounds_toArray] | simp only [List.set_cons_succ] | simp only [List.set_cons_zero])
                  refine wpAnyH_takeL (i := 18) (v := ?_) rfl (by kernel_rfl) (by kernel_rfl) (by kernel_rfl) (fun _ _ _ h => h) (Or.inl ⟨by rfl, ?_⟩) (by assumption) ?_
                  rotate_left
                  · (intro w' hSw; (try dsimp only at hSw); go_simp; all_goals with_reducible rfl)
                  repeat (first | simp only [Act.put] | simp only [List.setIfInBounds_toArray] | simp only [List.set_cons_succ] | simp only [List.set_cons_zero])
                  refine wpAnyH_takeL (i := 19) (v := ?_) rfl (by kernel_rfl) (by kernel_rfl) (by kernel_rfl) (fun _ _ _ h => h) (Or.inl ⟨by rfl, ?_⟩) (by assumption) ?_
                  rotate_left
                  · (intro w' hSw; (try dsimp only at hSw); go_simp; all_goals with_reducible rfl)
                  repeat (first | simp only [Act.put] | simp only [List.setIfInBounds_toArray] | simp only [List.set_cons_succ] | simp only [List.set_cons_zero])
                  refine wpAnyH_takeL (i := 20) (v := ?_) rfl (by kernel_rfl) (by kernel_rfl) (by kernel_rfl) (fun _ _ _ h => h) (Or.inl ⟨by rfl, ?_⟩) (by assumption) ?_
                  rotate_left
                  · (intro w' hSw; (try dsimp only at hSw); go_simp; all_goals with_reducible rfl)
                  repeat (first | simp only [Act.put] | simp only [List.setIfInBounds_toArray] | simp only [List.set_cons_succ] | simp only [List.set_cons_zero])
                  refine wpAnyH_takeL (i := 21) (v := ?_) rfl (by kernel_rfl) (by kernel_rfl) (by kernel_rfl) (fun _ _ _ h => h) (Or.inl ⟨by rfl, ?_⟩) (by assumption) ?_
                  rotate_left
                  · (intro w' hSw; have cX0 := Le.cell hSw k0; (try dsimp only at hSw); go_simp; all_goals with_reducible rfl)
                  repeat (first | simp only [Act.put] | simp only [List.setIfInBounds_toArray] | simp only [List.set_cons_succ] | simp only [List.set_cons_zero])
                  refine wpAnyH_takeL (i := 22) (v := ?_) rfl (by kernel_rfl) (by kernel_rfl) (by kernel_rfl) (fun _ _ _ h => h) (Or.inl ⟨by rfl, ?_⟩) (by assumption) ?_
                  rotate_left
                  · (intro w' hSw; (try dsimp only at hSw); go_simp; all_goals with_reducible rfl)
                  repeat (first | simp only [Act.put] | simp only [List.setIfInBounds_toArray] | simp only [List.set_cons_succ] | simp only [List.set_cons_zero])
                  refine wpAnyH_ready (rs := [16]) (by kernel_rfl) (by simp) ?_
                  refine consL (i := 16) rfl (fun K hK => ?_) AllReadyH.nil
                  go_simp
                  refine (hasInt_any _ _ _ _ (q : Int) _ (HAL.out.le SW)).mono ?_; rintro e w' ⟨rfl, rfl⟩
                  rw [HAM.out]
                  (try go_wp2_with fail)
                  refine hK.out _ _ SW (fun _ => ?_)
                  clear hK K
                  repeat (first | simp only [Act.put] | simp only [List.setIfInBounds_toArray] | simp only [List.set_cons_succ] | simp only [List.set_cons_zero])
                  refine wpAnyH_takeL (i := 23) (v := ?_) rfl (by kernel_rfl) (by kernel_rfl) (by kernel_rfl) (fun _ _ _ h => h) (Or.inl ⟨by rfl, ?_⟩) (by assumption) ?_
                  rotate_left
                  · (intro w' hSw; (try dsimp only at hSw); go_simp; all_goals with_reducible rfl)
                  repeat (first | simp only [Act.put] | simp only [List.setIfInBounds_toArray] | simp only [List.set_cons_succ] | simp only [List.set_cons_zero])
                  refine wpAnyH_takeL (i := 24) (v := ?_) rfl (by kernel_rfl) (by kernel_rfl) (by kernel_rfl) (fun _ _ _ h => h) (Or.inl ⟨by rfl, ?_⟩) (by assumption) ?_
                  rotate_left
                  · (intro w' hSw; (try dsimp only at hSw); go_simp; all_goals with_reducible rfl)
                  repeat (first | simp only [Act.put] | simp only [List.setIfInBounds_toArray] | simp only [List.set_cons_succ] | simp only [List.set_cons_zero])
                  refine wpAnyH_done (by kernel_rfl) ?_ _
                  clear k0
                  have SWq := SW
                  go_wp2
                  go_roundw
                  case rel => exact ⟨q + 1, by omega, by go_num, SWq⟩
                  case measure => simp [intOf]; omega
              · have hyd : decide (0 < Y) = false := decide_eq_false hyp
                rw [hyd] at hfm ham
                cases t
                · have HFM := Lib.hid hfm
                  have HAM := Lib.hid ham
                  clear hfm ham
                  go_wp2
                  have SW : Le w7 w8.drew := HLE.out.drew
                  refine wp_region_held_drew (S := fun w' => Le w7 w') (by kernel_rfl) SW (fun _ => ?_)
                  obtain ⟨wd0, hwd0⟩ : ∃ wd0, w8.drew = wd0 := ⟨_, rfl⟩
                  rw [hwd0] at SW
                  rw [hwd0]
                  clear hwd0
                  refine wpAnyH_takeL (i := 0) (v := ?_) rfl (by kernel_rfl) (by kernel_rfl) (by kernel_rfl) (fun _ _ _ h => h) (Or.inl ⟨by rfl, ?_⟩) (by assumption) ?_
                  rotate_left
                  · (intro w' hSw; (try dsimp only at hSw); go_simp; all_goals with_reducible rfl)
                  repeat (first | simp only [Act.put] | simp only [List.setIfInBounds_toArray] | simp only [List.set_cons_succ] | simp only [List.set_cons_zero])
                  refine wpAnyH_takeL (i := 1) (v := ?_) rfl (by kernel_rfl) (by kernel_rfl) (by kernel_rfl) (fun _ _ _ h => h) (Or.inl ⟨by rfl, ?_⟩) (by assumption) ?_
                  rotate_left
                  · (intro w' hSw; (try dsimp only at hSw); go_simp; all_goals with_reducible rfl)
                  repeat (first | simp only [Act.put] | simp only [List.setIfInBounds_toArray] | simp only [List.set_cons_succ] | simp only [List.set_cons_zero])
                  refine wpAnyH_takeL (i := 3) (v := ?_) rfl (by kernel_rfl) (by kernel_rfl) (by kernel_rfl) (fun _ _ _ h => h) (Or.inl ⟨by rfl, ?_⟩) (by assumption) ?_
                  rotate_left
                  · (intro w' hSw; (try dsimp only at hSw); go_simp; all_goals with_reducible rfl)
                  repeat (first | simp only [Act.put] | simp only [List.setIfInBounds_toArray] | simp only [List.set_cons_succ] | simp only [List.set_cons_zero])
                  refine wpAnyH_ready (rs := [2]) (by kernel_rfl) (by simp) ?_
                  refine consL (i := 2) rfl (fun K hK => ?_) AllReadyH.nil
                  go_simp
                  refine (hasInt_any _ _ _ _ (q : Int) _ (HF.out.le SW)).mono ?_; rintro e w' ⟨rfl, rfl⟩
                  rw [HFM.out]
                  (try go_wp2_with fail)
                  refine hK.out _ _ SW (fun _ => ?_)
                  clear hK K
                  repeat (first | simp only [Act.put] | simp only [List.setIfInBounds_toArray] | simp only [List.set_cons_succ] | simp only [List.set_cons_zero])
                  refine wpAnyH_takeL (i := 4) (v := ?_) rfl (by kernel_rfl) (by kernel_rfl) (by kernel_rfl) (fun _ _ _ h => h) (Or.inl ⟨by rfl, ?_⟩) (by assumption) ?_
                  rotate_left
                  · (intro w' hSw; (try dsimp only at hSw); go_simp; all_goals with_reducible rfl)
                  repeat (first | simp only [Act.put] | simp only [List.setIfInBounds_toArray] | simp only [List.set_cons_succ] | simp only [List.set_cons_zero])
                  refine wpAnyH_takeL (i := 5) (v := undef) rfl (by kernel_rfl) (by kernel_rfl) (by kernel_rfl) (fun _ _ _ h => h) (Or.inr ⟨by rfl, rfl⟩) (by assumption) ?_
                  repeat (first | simp only [Act.put] | simp only [List.setIfInBounds_toArray] | simp only [List.set_cons_succ] | simp only [List.set_cons_zero])
                  refine wpAnyH_takeL (i := 6) (v := undef) rfl (by kernel_rfl) (by kernel_rfl) (by kernel_rfl) (fun _ _ _ h => h) (Or.inr ⟨by rfl, rfl⟩) (by assumption) ?_
                  repeat (first | simp only [Act.put] | simp only [List.setIfInBounds_toArray] | simp only [List.set_cons_succ] | simp only [List.set_cons_zero])
                  refine wpAnyH_takeL (i := 7) (v := undef) rfl (by kernel_rfl) (by kernel_rfl) (by kernel_rfl) (fun _ _ _ h => h) (Or.inr ⟨by rfl, rfl⟩) (by assumption) ?_
                  repeat (first | simp only [Act.put] | simp only [List.setIfInBounds_toArray] | simp only [List.set_cons_succ] | simp only [List.set_cons_zero])
                  refine wpAnyH_takeL (i := 8) (v := undef) rfl (by kernel_rfl) (by kernel_rfl) (by kernel_rfl) (fun _ _ _ h => h) (Or.inr ⟨by rfl, rfl⟩) (by assumption) ?_
                  repeat (first | simp only [Act.put] | simp only [List.setIfInBounds_toArray] | simp only [List.set_cons_succ] | simp only [List.set_cons_zero])
                  refine wpAnyH_takeL (i := 9) (v := undef) rfl (by kernel_rfl) (by kernel_rfl) (by kernel_rfl) (fun _ _ _ h => h) (Or.inr ⟨by rfl, rfl⟩) (by assumption) ?_
                  repeat (first | simp only [Act.put] | simp only [List.setIfInBounds_toArray] | simp only [List.set_cons_succ] | simp only [List.set_cons_zero])
                  refine wpAnyH_takeL (i := 10) (v := undef) rfl (by kernel_rfl) (by kernel_rfl) (by kernel_rfl) (fun _ _ _ h => h) (Or.inr ⟨by rfl, rfl⟩) (by assumption) ?_
                  repeat (first | simp only [Act.put] | simp only [List.setIfInBounds_toArray] | simp only [List.set_cons_succ] | simp only [List.set_cons_zero])
                  refine wpAnyH_takeL (i := 11) (v := ?_) rfl (by kernel_rfl) (by kernel_rfl) (by kernel_rfl) (fun _ _ _ h => h) (Or.inl ⟨by rfl, ?_⟩) (by assumption) ?_
                  rotate_left
                  · (intro w' hSw; (try dsimp only at hSw); go_simp; all_goals with_reducible rfl)
                  repeat (first | simp only [Act.put] | simp only [List.setIfInBounds_toArray] | simp only [List.set_cons_succ] | simp only [List.set_cons_zero])
                  refine wpAnyH_takeL (i := 12) (v := ?_) rfl (by kernel_rfl) (by kernel_rfl) (by kernel_rfl) (fun _ _ _ h => h) (Or.inl ⟨by rfl, ?_⟩) (by assumption) ?_
                  rotate_left
                  · (intro w' hSw; (try dsimp only at hSw); go_simp; all_goals with_reducible rfl)
                  repeat (first | simp only [Act.put] | simp only [List.setIfInBounds_toArray] | simp only [List.set_cons_succ] | simp only [List.set_cons_zero])
                  refine wpAnyH_takeL (i := 13) (v := ?_) rfl (by kernel_rfl) (by kernel_rfl) (by kernel_rfl) (fun _ _ _ h => h) (Or.inl ⟨by rfl, ?_⟩) (by assumption) ?_
                  rotate_left
                  · (intro w' hSw; (try dsimp only at hSw); go_simp; all_goals with_reducible rfl)
                  repeat (first | simp only [Act.put] | simp only [List.setIfInBounds_toArray] | simp only [List.set_cons_succ] | simp only [List.set_cons_zero])
                  refine wpAnyH_takeL (i := 14) (v := ?_) rfl (by kernel_rfl) (by kernel_rfl) (by kernel_rfl) (fun _ _ _ h => h) (Or.inl ⟨by rfl, ?_⟩) (by assumption) ?_
                  rotate_left
                  · (intro w' hSw; (try dsimp only at hSw); go_simp; all_goals with_reducible rfl)
                  repeat (first | simp only [Act.put] | simp only [List.setIfInBounds_toArray] | simp only [List.set_cons_succ] | simp only [List.set_cons_zero])
                  refine wpAnyH_takeL (i := 15) (v := ?_) rfl (by kernel_rfl) (by kernel_rfl) (by kernel_rfl) (fun _ _ _ h => h) (Or.inl ⟨by rfl, ?_⟩) (by assumption) ?_
                  rotate_left
                  · (intro w' hSw; (try dsimp only at hSw); go_simp; all_goals with_reducible rfl)
                  repeat (first | simp only [Act.put] | simp only [List.setIfInBounds_toArray] | simp only [List.set_cons_succ] | simp only [List.set_cons_zero])
                  refine wpAnyH_takeL (i := 17) (v := ?_) rfl (by kernel_rfl) (by kernel_rfl) (by kernel_rfl) (fun _ _ _ h => h) (Or.inl ⟨by rfl, ?_⟩) (by assumption) ?_
                  rotate_left
                  · (intro w' hSw; (try dsimp only at hSw); go_simp; all_goals with_reducible rfl)
                  repeat (first | simp only [Act.put] | simp only [List.setIfInBounds_toArray] | simp only [List.set_cons_succ] | simp only [List.set_cons_zero])
                  refine wpAnyH_takeL (i := 18) (v := ?_) rfl (by kernel_rfl) (by kernel_rfl) (by kernel_rfl) (fun _ _ _ h => h) (Or.inl ⟨by rfl, ?_⟩) (by assumption) ?_
                  rotate_left
                  · (intro w' hSw; (try dsimp only at hSw); go_simp; all_goals with_reducible rfl)
                  repeat (first | simp only [Act.put] | simp only [List.setIfInBounds_toArray] | simp only [List.set_cons_succ] | simp only [List.set_cons_zero])
                  refine wpAnyH_takeL (i := 19) (v := ?_) rfl (by kernel_rfl) (by kernel_rfl) (by kernel_rfl) (fun _ _ _ h => h) (Or.inl ⟨by rfl, ?_⟩) (by assumption) ?_
                  rotate_left
                  · (intro w' hSw; (try dsimp only at hSw); go_simp; all_goals with_reducible rfl)
                  repeat (first | simp only [Act.put] | simp only [List.setIfInBounds_toArray] | simp only [List.set_cons_succ] | simp only [List.set_cons_zero])
                  refine wpAnyH_takeL (i := 20) (v := ?_) rfl (by kernel_rfl) (by kernel_rfl) (by kernel_rfl) (fun _ _ _ h => h) (Or.inl ⟨by rfl, ?_⟩) (by assumption) ?_
                  rotate_left
                  · (intro w' hSw; (try dsimp only at hSw); go_simp; all_goals with_reducible rfl)
                  repeat (first | simp only [Act.put] | simp only [List.setIfInBounds_toArray] | simp only [List.set_cons_succ] | simp only [List.set_cons_zero])
                  refine wpAnyH_takeL (i := 21) (v := ?_) rfl (by kernel_rfl) (by kernel_rfl) (by kernel_rfl) (fun _ _ _ h => h) (Or.inl ⟨by rfl, ?_⟩) (by assumption) ?_
                  rotate_left
                  · (intro w' hSw; have cX0 := Le.cell hSw k0; (try dsimp only at hSw); go_simp; all_goals with_reducible rfl)
                  repeat (first | simp only [Act.put] | simp only [List.setIfInBounds_toArray] | simp only [List.set_cons_succ] | simp only [List.set_cons_zero])
                  refine wpAnyH_takeL (i := 22) (v := ?_) rfl (by kernel_rfl) (by kernel_rfl) (by kernel_rfl) (fun _ _ _ h => h) (Or.inl ⟨by rfl, ?_⟩) (by assumption) ?_
                  rotate_left
                  · (intro w' hSw; (try dsimp only at hSw); go_simp; all_goals with_reducible rfl)
                  repeat (first | simp only [Act.put] | simp only [List.setIfInBounds_toArray] | simp only [List.set_cons_succ] | simp only [List.set_cons_zero])
                  refine wpAnyH_ready (rs := [16]) (by kernel_rfl) (by simp) ?_
                  refine consL (i := 16) rfl (fun K hK => ?_) AllReadyH.nil
                  go_simp
                  refine (hasInt_any _ _ _ _ (q : Int) _ (HAL.out.le SW)).mono ?_; rintro e w' ⟨rfl, rfl⟩
                  rw [HAM.out]
                  (try go_wp2_with fail)
                  refine hK.out _ _ SW (fun _ => ?_)
                  clear hK K
                  repeat (first | simp only [Act.put] | simp only [List.setIfInBounds_toArray] | simp only [List.set_cons_succ] | simp only [List.set_cons_zero])
                  refine wpAnyH_takeL (i := 23) (v := ?_) rfl (by kernel_rfl) (by kernel_rfl) (by kernel_rfl) (fun _ _ _ h => h) (Or.inl ⟨by rfl, ?_⟩) (by assumption) ?_
                  rotate_left
                  · (intro w' hSw; (try dsimp only at hSw); go_simp; all_goals with_reducible rfl)
                  repeat (first | simp only [Act.put] | simp only [List.setIfInBounds_toArray] | simp only [List.set_cons_succ] | simp only [List.set_cons_zero])
                  refine wpAnyH_takeL (i := 24) (v := ?_) rfl (by kernel_rfl) (by kernel_rfl) (by kernel_rfl) (fun _ _ _ h => h) (Or.inl ⟨by rfl, ?_⟩) (by assumption) ?_
                  rotate_left
                  · (intro w' hSw; (try dsimp only at hSw); go_simp; all_goals with_reducible rfl)
                  repeat (first | simp only [Act.put] | simp only [List.setIfInBounds_toArray] | simp only [List.set_cons_succ] | simp only [List.set_cons_zero])
                  refine wpAnyH_done (by kernel_rfl) ?_ _
                  clear k0
                  have SWq := SW
                  go_wp2
                  go_roundw
                  case rel => exact ⟨q + 1, by omega, by go_num, SWq⟩
                  case measure => simp [intOf]; omega
                · have HFM := Lib.hid hfm
                  have HAM := Lib.hid ham
                  clear hfm ham
                  go_wp2
                  have SW : Le w7 w8.drew := HLE.out.drew
                  refine wp_region_held_drew (S := fun w' => Le w7 w') (by kernel_rfl) SW (fun _ => ?_)
                  obtain ⟨wd0, hwd0⟩ : ∃ wd0, w8.drew = wd0 := ⟨_, rfl⟩
                  rw [hwd0] at SW
                  rw [hwd0]
                  clear hwd0
                  refine wpAnyH_takeL (i := 0) (v := ?_) rfl (by kernel_rfl) (by kernel_rfl) (by kernel_rfl) (fun _ _ _ h => h) (Or.inl ⟨by rfl, ?_⟩) (by assumption) ?_
                  rotate_left
                  · (intro w' hSw; (try dsimp only at hSw); go_simp; all_goals with_reducible rfl)
                  repeat (first | simp only [Act.put] | simp only [List.setIfInBounds_toArray] | simp only [List.set_cons_succ] | simp only [List.set_cons_zero])
                  refine wpAnyH_takeL (i := 1) (v := ?_) rfl (by kernel_rfl) (by kernel_rfl) (by kernel_rfl) (fun _ _ _ h => h) (Or.inl ⟨by rfl, ?_⟩) (by assumption) ?_
                  rotate_left
                  · (intro w' hSw; (try dsimp only at hSw); go_simp; all_goals with_reducible rfl)
                  repeat (first | simp only [Act.put] | simp only [List.setIfInBounds_toArray] | simp only [List.set_cons_succ] | simp only [List.set_cons_zero])
                  refine wpAnyH_takeL (i := 3) (v := ?_) rfl (by kernel_rfl) (by kernel_rfl) (by kernel_rfl) (fun _ _ _ h => h) (Or.inl ⟨by rfl, ?_⟩) (by assumption) ?_
                  rotate_left
                  · (intro w' hSw; (try dsimp only at hSw); go_simp; all_goals with_reducible rfl)
                  repeat (first | simp only [Act.put] | simp only [List.setIfInBounds_toArray] | simp only [List.set_cons_succ] | simp only [List.set_cons_zero])
                  refine wpAnyH_ready (rs := [2]) (by kernel_rfl) (by simp) ?_
                  refine consL (i := 2) rfl (fun K hK => ?_) AllReadyH.nil
                  go_simp
                  refine (hasInt_any _ _ _ _ (q : Int) _ (HF.out.le SW)).mono ?_; rintro e w' ⟨rfl, rfl⟩
                  rw [HFM.out]
                  (try go_wp2_with fail)
                  refine hK.out _ _ SW (fun _ => ?_)
                  clear hK K
                  repeat (first | simp only [Act.put] | simp only [List.setIfInBounds_toArray] | simp only [List.set_cons_succ] | simp only [List.set_cons_zero])
                  refine wpAnyH_takeL (i := 4) (v := ?_) rfl (by kernel_rfl) (by kernel_rfl) (by kernel_rfl) (fun _ _ _ h => h) (Or.inl ⟨by rfl, ?_⟩) (by assumption) ?_
                  rotate_left
                  · (intro w' hSw; (try dsimp only at hSw); go_simp; all_goals with_reducible rfl)
                  repeat (first | simp only [Act.put] | simp only [List.setIfInBounds_toArray] | simp only [List.set_cons_succ] | simp only [List.set_cons_zero])
                  refine wpAnyH_takeL (i := 5) (v := ?_) rfl (by kernel_rfl) (by kernel_rfl) (by kernel_rfl) (fun _ _ _ h => h) (Or.inl ⟨by rfl, ?_⟩) (by assumption) ?_
                  rotate_left
                  · (intro w' hSw; (try dsimp only at hSw); go_simp; all_goals with_reducible rfl)
                  repeat (first | simp only [Act.put] | simp only [List.setIfInBounds_toArray] | simp only [List.set_cons_succ] | simp only [List.set_cons_zero])
                  refine wpAnyH_takeL (i := 6) (v := ?_) rfl (by kernel_rfl) (by kernel_rfl) (by kernel_rfl) (fun _ _ _ h => h) (Or.inl ⟨by rfl, ?_⟩) (by assumption) ?_
                  rotate_left
                  · (intro w' hSw; (try dsimp only at hSw); go_simp; all_goals with_reducible rfl)
                  repeat (first | simp only [Act.put] | simp only [List.setIfInBounds_toArray] | simp only [List.set_cons_succ] | simp only [List.set_cons_zero])
                  refine wpAnyH_takeL (i := 7) (v := ?_) rfl (by kernel_rfl) (by kernel_rfl) (by kernel_rfl) (fun _ _ _ h => h) (Or.inl ⟨by rfl, ?_⟩) (by assumption) ?_
                  rotate_left
                  · (intro w' hSw; (try dsimp only at hSw); go_simp; all_goals with_reducible rfl)
                  repeat (first | simp only [Act.put] | simp only [List.setIfInBounds_toArray] | simp only [List.set_cons_succ] | simp only [List.set_cons_zero])
                  refine wpAnyH_takeL (i := 8) (v := ?_) rfl (by kernel_rfl) (by kernel_rfl) (by kernel_rfl) (fun _ _ _ h => h) (Or.inl ⟨by rfl, ?_⟩) (by assumption) ?_
                  rotate_left
                  · (intro w' hSw; (try dsimp only at hSw); go_simp; all_goals with_reducible rfl)
                  repeat (first | simp only [Act.put] | simp only [List.setIfInBounds_toArray] | simp only [List.set_cons_succ] | simp only [List.set_cons_zero])
                  refine wpAnyH_takeL (i := 9) (v := ?_) rfl (by kernel_rfl) (by kernel_rfl) (by kernel_rfl) (fun _ _ _ h => h) (Or.inl ⟨by rfl, ?_⟩) (by assumption) ?_
                  rotate_left
                  · (intro w' hSw; have cX0 := Le.cell hSw k0; (try dsimp only at hSw); go_simp; all_goals with_reducible rfl)
                  repeat (first | simp only [Act.put] | simp only [List.setIfInBounds_toArray] | simp only [List.set_cons_succ] | simp only [List.set_cons_zero])
                  refine wpAnyH_takeL (i := 10) (v := ?_) rfl (by kernel_rfl) (by kernel_rfl) (by kernel_rfl) (fun _ _ _ h => h) (Or.inl ⟨by rfl, ?_⟩) (by assumption) ?_
                  rotate_left
                  · (intro w' hSw; (try dsimp only at hSw); go_simp; all_goals with_reducible rfl)
                  repeat (first | simp only [Act.put] | simp only [List.setIfInBounds_toArray] | simp only [List.set_cons_succ] | simp only [List.set_cons_zero])
                  refine wpAnyH_takeL (i := 11) (v := ?_) rfl (by kernel_rfl) (by kernel_rfl) (by kernel_rfl) (fun _ _ _ h => h) (Or.inl ⟨by rfl, ?_⟩) (by assumption) ?_
                  rotate_left
                  · (intro w' hSw; (try dsimp only at hSw); go_simp; all_goals with_reducible rfl)
                  repeat (first | simp only [Act.put] | simp only [List.setIfInBounds_toArray] | simp only [List.set_cons_succ] | simp only [List.set_cons_zero])
                  refine wpAnyH_takeL (i := 12) (v := ?_) rfl (by kernel_rfl) (by kernel_rfl) (by kernel_rfl) (fun _ _ _ h => h) (Or.inl ⟨by rfl, ?_⟩) (by assumption) ?_
                  rotate_left
                  · (intro w' hSw; (try dsimp only at hSw); go_simp; all_goals with_reducible rfl)
                  repeat (first | simp only [Act.put] | simp only [List.setIfInBounds_toArray] | simp only [List.set_cons_succ] | simp only [List.set_cons_zero])
                  refine wpAnyH_takeL (i := 13) (v := ?_) rfl (by kernel_rfl) (by kernel_rfl) (by kernel_rfl) (fun _ _ _ h => h) (Or.inl ⟨by rfl, ?_⟩) (by assumption) ?_
                  rotate_left
                  · (intro w' hSw; (try dsimp only at hSw); go_simp; all_goals with_reducible rfl)
                  repeat (first | simp only [Act.put] | simp only [List.setIfInBounds_toArray] | simp only [List.set_cons_succ] | simp only [List.set_cons_zero])
                  refine wpAnyH_takeL (i := 14) (v := ?_) rfl (by kernel_rfl) (by kernel_rfl) (by kernel_rfl) (fun _ _ _ h => h) (Or.inl ⟨by rfl, ?_⟩) (by assumption) ?_
                  rotate_left
                  · (intro w' hSw; (try dsimp only at hSw); go_simp; all_goals with_reducible rfl)
                  repeat (first | simp only [Act.put] | simp only [List.setIfInBounds_toArray] | simp only [List.set_cons_succ] | simp only [List.set_cons_zero])
                  refine wpAnyH_takeL (i := 15) (v := ?_) rfl (by kernel_rfl) (by kernel_rfl) (by kernel_rfl) (fun _ _ _ h => h) (Or.inl ⟨by rfl, ?_⟩) (by assumption) ?_
                  rotate_left
                  · (intro w' hSw; (try dsimp only at hSw); go_simp; all_goals with_reducible rfl)
                  repeat (first | simp only [Act.put] | simp only [List.setIfInBounds_toArray] | simp only [List.set_cons_succ] | simp only [List.set_cons_zero])
                  refine wpAnyH_takeL (i := 17) (v := ?_) rfl (by kernel_rfl) (by kernel_rfl) (by kernel_rfl) (fun _ _ _ h => h) (Or.inl ⟨by rfl, ?_⟩) (by assumption) ?_
                  rotate_left
                  · (intro w' hSw; (try dsimp only at hSw); go_simp; all_goals with_reducible rfl)
                  repeat (first | simp only [Act.put] | simp only [List.setIfInBounds_toArray] | simp only [List.set_cons_succ] | simp only [List.set_cons_zero])
                  refine wpAnyH_takeL (i := 18) (v := ?_) rfl (by kernel_rfl) (by kernel_rfl) (by kernel_rfl) (fun _ _ _ h => h) (Or.inl ⟨by rfl, ?_⟩) (by assumption) ?_
                  rotate_left
                  · (intro w' hSw; (try dsimp only at hSw); go_simp; all_goals with_reducible rfl)
                  repeat (first | simp only [Act.put] | simp only [List.setIfInBounds_toArray] | simp only [List.set_cons_succ] | simp only [List.set_cons_zero])
                  refine wpAnyH_takeL (i := 19) (v := ?_) rfl (by kernel_rfl) (by kernel_rfl) (by kernel_rfl) (fun _ _ _ h => h) (Or.inl ⟨by rfl, ?_⟩) (by assumption) ?_
                  rotate_left
                  · (intro w' hSw; (try dsimp only at hSw); go_simp; all_goals with_reducible rfl)
                  repeat (first | simp only [Act.put] | simp only [List.setIfInBounds_toArray] | simp only [List.set_cons_succ] | simp only [List.set_cons_zero])
                  refine wpAnyH_takeL (i := 20) (v := ?_) rfl (by kernel_rfl) (by kernel_rfl) (by kernel_rfl) (fun _ _ _ h => h) (Or.inl ⟨by rfl, ?_⟩) (by assumption) ?_
                  rotate_left
                  · (intro w' hSw; (try dsimp only at hSw); go_simp; all_goals with_reducible rfl)
                  repeat (first | simp only [Act.put] | simp only [List.setIfInBounds_toArray] | simp only [List.set_cons_succ] | simp only [List.set_cons_zero])
                  refine wpAnyH_takeL (i := 21) (v := ?_) rfl (by kernel_rfl) (by kernel_rfl) (by kernel_rfl) (fun _ _ _ h => h) (Or.inl ⟨by rfl, ?_⟩) (by assumption) ?_
                  rotate_left
                  · (intro w' hSw; have cX0 := Le.cell hSw k0; (try dsimp only at hSw); go_simp; all_goals with_reducible rfl)
                  repeat (first | simp only [Act.put] | simp only [List.setIfInBounds_toArray] | simp only [List.set_cons_succ] | simp only [List.set_cons_zero])
                  refine wpAnyH_takeL (i := 22) (v := ?_) rfl (by kernel_rfl) (by kernel_rfl) (by kernel_rfl) (fun _ _ _ h => h) (Or.inl ⟨by rfl, ?_⟩) (by assumption) ?_
                  rotate_left
                  · (intro w' hSw; (try dsimp only at hSw); go_simp; all_goals with_reducible rfl)
                  repeat (first | simp only [Act.put] | simp only [List.setIfInBounds_toArray] | simp only [List.set_cons_succ] | simp only [List.set_cons_zero])
                  refine wpAnyH_ready (rs := [16]) (by kernel_rfl) (by simp) ?_
                  refine consL (i := 16) rfl (fun K hK => ?_) AllReadyH.nil
                  go_simp
                  refine (hasInt_any _ _ _ _ (q : Int) _ (HAL.out.le SW)).mono ?_; rintro e w' ⟨rfl, rfl⟩
                  rw [HAM.out]
                  (try go_wp2_with fail)
                  refine hK.out _ _ SW (fun _ => ?_)
                  clear hK K
                  repeat (first | simp only [Act.put] | simp only [List.setIfInBounds_toArray] | simp only [List.set_cons_succ] | simp only [List.set_cons_zero])
                  refine wpAnyH_takeL (i := 23) (v := ?_) rfl (by kernel_rfl) (by kernel_rfl) (by kernel_rfl) (fun _ _ _ h => h) (Or.inl ⟨by rfl, ?_⟩) (by assumption) ?_
                  rotate_left
                  · (intro w' hSw; (try dsimp only at hSw); go_simp; all_goals with_reducible rfl)
                  repeat (first | simp only [Act.put] | simp only [List.setIfInBounds_toArray] | simp only [List.set_cons_succ] | simp only [List.set_cons_zero])
                  refine wpAnyH_takeL (i := 24) (v := ?_) rfl (by kernel_rfl) (by kernel_rfl) (by kernel_rfl) (fun _ _ _ h => h) (Or.inl ⟨by rfl, ?_⟩) (by assumption) ?_
                  rotate_left
                  · (intro w' hSw; (try dsimp only at hSw); go_simp; all_goals with_reducible rfl)
                  repeat (first | simp only [Act.put] | simp only [List.setIfInBounds_toArray] | simp only [List.set_cons_succ] | simp only [List.set_cons_zero])
                  refine wpAnyH_done (by kernel_rfl) ?_ _
                  clear k0
                  have SWq := SW
                  go_wp2
                  go_roundw
                  case rel => exact ⟨q + 1, by omega, by go_num, SWq⟩
                  case measure => simp [intOf]; omega
        · obtain rfl : q = n2 := by omega
          have hasc : ∀ i, i + 1 < l → gi L i < gi L (i + 1) := fun i hi => by
            have hl := HLN.out
            rw [HLF.out] at hl ⊢
            exact free_asc ts a q i (by omega)
          go_wp2_with fail
          refine (ascend_yes _ _ _ _ _ (HF.out.le HLE0.out) hasc).mono ?_; rintro e w8 ⟨rfl, q8, rfl⟩
          go_wp2
          go_ret
          exact ⟨rfl, L1.out.trans (M7.out.trans (HLE0.out.drewN q8))⟩
    · have hl0 : l = 0 := by
        rw [← HLN.out, ← HLL.out]
        unfold freeL
        rw [if_neg (by rw [HV.out]; exact hok)]; rfl
      subst hl0
      cases V
      · clear hok
        go_wp2_with fail
        refine (alive_any _).mono ?_; rintro e w6 ⟨rfl, l6⟩
        go_wp2
        go_ret
        exact ⟨rfl, L1.out.trans (M5.out.trans l6)⟩
      · by_cases ha0 : av < 0
        · clear hok
          go_wp2_with fail
          refine (alive_any _).mono ?_; rintro e w6 ⟨rfl, l6⟩
          go_wp2
          go_ret
          exact ⟨rfl, L1.out.trans (M5.out.trans l6)⟩
        · have ha1 : (31 : Int) < av := by
            by_cases h : 31 < av
            · exact h
            · exact absurd ⟨rfl, by omega, by omega⟩ hok
          clear hok
          go_wp2_with fail
          refine (alive_any _).mono ?_; rintro e w6 ⟨rfl, l6⟩
          go_wp2
          go_ret
          exact ⟨rfl, L1.out.trans (M5.out.trans l6)⟩
end Go.Proofs.YtbkjfgbafphopaaDoor
