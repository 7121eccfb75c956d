/- Walk: UsesOf of the reference. -/
import Derived.Test.YtbkjfgbafphopaaDoorWUses
namespace Go.Proofs.YtbkjfgbafphopaaDoor
open Go.RowKit

theorem or_bit {a b q : Nat} (h : a / 2 ^ q % 2 = 1) : (a ||| b) / 2 ^ q % 2 = 1 := by
  have h1 := Nat.testBit_or a b q
  rw [Nat.testBit_eq_decide_div_mod_eq, Nat.testBit_eq_decide_div_mod_eq, decide_eq_true h, Bool.true_or] at h1
  exact of_decide_eq_true h1
theorem pfN_bit {ps : List (Int × Int)} {s q : Nat} (h : s / 2 ^ q % 2 = 1) (j : Nat) : pfN ps s j / 2 ^ q % 2 = 1 := by
  induction j with
  | zero => exact h
  | succ j ih => exact or_bit ih
theorem shr_bit (s q : Nat) : ((((s : Nat) : Int)) / (2 : Int) ^ q).tmod 2 = ((s / 2 ^ q % 2 : Nat) : Int) := by
  have h1 : ((s : Nat) : Int) / (2 : Int) ^ q = ((s / 2 ^ q : Nat) : Int) := by simp
  rw [h1]
  generalize s / 2 ^ q = x
  rw [Int.tmod_eq_emod_of_nonneg (by omega)]
  omega

set_option maxRecDepth 20000 in
set_option maxHeartbeats 2000000 in
theorem specUses_any (A : Option Addr) (n c : Nat) (ts : List It) (index : Int) (w : World) (h : RM w A n ts) :
    Calls Tryd.prog 35 #[.slice A n c, .int .i64 index] w fun e w' => e = .returned (.int .i64 (usesL ts index)) ∧ Le w w' := by
  have hv := specItemsValid_any A n c ts w h
  have hm := h.max
  cases hb : itemsL ts
  · rw [hb] at hv
    have e0 : usesL ts index = -1 := by simp [usesL, hb]
    rw [e0]
    have HV := Lib.hid hv
    clear hv hb e0 h
    go_enter Tryd.func35, Tryd.ntmps35
    go_wp2_with (go_at_call 25; refine HV.out.mono ?_; rintro e w1 ⟨rfl, l1⟩)
    go_ret
    exact ⟨rfl, l1⟩
  · rw [hb] at hv
    by_cases hi : 0 ≤ index ∧ index < n
    · obtain ⟨k, rfl⟩ : ∃ k : Nat, index = k := ⟨index.toNat, by omega⟩
      obtain ⟨hn6, hf⟩ := items_facts h.len hb
      have e0 : usesL ts k = ((uN ts k (k + 1) : Nat) : Int) := by
        unfold usesL; rw [if_pos ⟨hb, by omega, by rw [h.len]; omega⟩]; simp
      rw [e0]
      have hkn : k < n := by omega
      have h2k : 2 ^ k < 64 := pow_lt64 (by omega)
      have hpk := wrap_pow (k := k) (by omega)
      have hul := uN_lt (ts := ts) hn6 hkn (fun k hk j hj => by have := ((hf k hk).2.2.2.2 j hj).1; unfold ofN; omega)
      have hb3 : inB 0 ((n : Int) - 1) (k : Int) = true := inB_t.2 ⟨by omega, by omega⟩
      have HU := Lib.hid hul
      have HV := Lib.hid hv
      have HF := Lib.hid hf
      have HC := Lib.hid h.at_
      have HPK := Lib.hid hpk
      clear hul h2k hv hb h hf e0 hi hpk
      go_enter Tryd.func35, Tryd.ntmps35
      go_wp2_with (first | (go_at_call 25; refine HV.out.mono ?_; rintro e w1 ⟨rfl, l1⟩) | (go_at_call 85; refine (l1In_any _ _ _ _).mono ?_; rintro e w' ⟨rfl, rfl⟩))
      have L1 := Lib.hid l1
      clear l1
      go_loopw [5, 6] (fun v i wr => ∃ m d : Nat, m + d = k + 1 ∧ i = .int .i64 ((m : Int) - 1) ∧ v = .int .i64 ((uN ts k d : Nat) : Int) ∧ Le w wr) (fun _ i _ => (intOf i + 1).toNat)
      case atStart => exact ⟨k + 1, 0, rfl, by go_num, by rw [HPK.out]; rfl, L1.out⟩
      case round =>
        obtain ⟨m, d, hmd, hiv, rfl, hle⟩ := hrel
        cases m with
        | zero =>
          subst hiv
          have hd : d = k + 1 := by omega
          go_wp2
          go_ret
          exact ⟨ret_int (by rw [hd]), hle⟩
        | succ q =>
          rw [show ((q + 1 : Nat) : Int) - 1 = (q : Int) by omega] at hiv
          subst hiv
          have hqn : q < n := by omega
          obtain ⟨ad, B, m, d', rfl, hc1, hc2, hc3, hr⟩ := HC.out q hqn
          have c2 := hle.cell hc2
          have hu := HU.out d
          have hlen := hr.len
          have hpn := (HF.out q hqn).2.2.2.2
          have hm3 : m ≤ 3 := by rw [← hlen]; exact (HF.out q hqn).2.1
          have hq6 : q < 6 := by omega
          have hkd : k - d = q := by omega
          by_cases ht : uN ts k d / 2 ^ q % 2 = 1
          · have hus : uN ts k (d + 1) = pfN (gm ts q).2.1 (uN ts k d) m := by
              show (if uN ts k d / 2 ^ (k - d) % 2 = 1 then pfN (gm ts (k - d)).2.1 (uN ts k d) (gm ts (k - d)).2.1.length else uN ts k d) = _
              rw [hkd, if_pos ht, hlen]
            have hbits : ∀ j, ((((pfN (gm ts q).2.1 (uN ts k d) j : Nat) : Int)) / (2 : Int) ^ q).tmod 2 = 1 := fun j => by
              rw [shr_bit, pfN_bit ht]; rfl
            have HBI := Lib.hid hbits
            have HUS := Lib.hid hus
            have HR := Lib.hid hr.at_
            have HPN := Lib.hid hpn
            have HLE := Lib.hid hle
            have HLN := Lib.hid hlen
            clear hus hr hpn hle ht hkd hc1 hc3 hlen c2 hbits
            go_wp2
            go_loopw [5, 7] (fun v i wr => ∃ j : Nat, j ≤ m ∧ i = .int .i64 j ∧ v = .int .i64 ((pfN (gm ts q).2.1 (uN ts k d) j : Nat) : Int) ∧ Le w wr) (fun _ i _ => m - (intOf i).toNat)
            case atStart => exact ⟨0, Nat.zero_le _, rfl, rfl, HLE.out⟩
            case round =>
              obtain ⟨j, hj, rfl, rfl, hle⟩ := hrel
              have c2 := hle.cell hc2
              have hbt := HBI.out j
              by_cases hjm : j < m
              · obtain ⟨ad2, rfl, hd1, hd2⟩ := HR.out j hjm
                have d1 := hle.cell hd1
                have d2 := hle.cell hd2
                obtain ⟨⟨o1, o2⟩, _⟩ := HPN.out j (by rw [HLN.out]; exact hjm)
                obtain ⟨o, ho⟩ : ∃ o : Nat, (gp (gm ts q).2.1 j).1 = o := ⟨(gp (gm ts q).2.1 j).1.toNat, by omega⟩
                have ho6 : o < 6 := by omega
                rw [ho] at d1 hd1
                have hpl := pfN_lt (ps := (gm ts q).2.1) hu j (fun t ht => by have := (HPN.out t (by rw [HLN.out]; omega)).1; unfold ofN; omega)
                have hjn := l1Join_any (pfN (gm ts q).2.1 (uN ts k d) j) (2 ^ o) wr (by omega) (by have := pow_lt64 ho6; omega)
                rw [← wrap_pow ho6] at hjn
                have hor : ((pfN (gm ts q).2.1 (uN ts k d) j ||| 2 ^ o : Nat) : Int) = ((pfN (gm ts q).2.1 (uN ts k d) (j + 1) : Nat) : Int) := by
                  show _ = ((pfN (gm ts q).2.1 (uN ts k d) j ||| 2 ^ ofN (gm ts q).2.1 j : Nat) : Int)
                  rw [show ofN (gm ts q).2.1 j = o by unfold ofN; omega]
                rw [hor] at hjn
                have HJN := Lib.hid hjn
                clear hd1 hd2 hor ho o1 o2 hjn
                go_wp2_with fail
                refine HJN.out.mono ?_; rintro e w' ⟨rfl, rfl⟩
                go_wp2
                go_roundw
                case rel => exact ⟨j + 1, by omega, by go_num, rfl, hle⟩
                case measure => simp [intOf]; omega
              · obtain rfl : j = m := by omega
                go_wp2
                go_roundw
                case rel => exact ⟨q, d + 1, by omega, rfl, by rw [HUS.out], hle⟩
                case measure => simp [intOf]
          · have hbit : (((((uN ts k d : Nat) : Int)) / (2 : Int) ^ q).tmod 2 == 1) = false := by
              rw [shr_bit]
              rcases Nat.mod_two_eq_zero_or_one (uN ts k d / 2 ^ q) with e | e
              · rw [e]; rfl
              · exact absurd e ht
            have hus : uN ts k (d + 1) = uN ts k d := by
              show (if uN ts k d / 2 ^ (k - d) % 2 = 1 then pfN (gm ts (k - d)).2.1 (uN ts k d) (gm ts (k - d)).2.1.length else uN ts k d) = _
              rw [hkd, if_neg ht]
            have HUS := Lib.hid hus
            have HLE := Lib.hid hle
            clear hus hr hpn ht hkd hc1 hc3 hlen c2 hle
            go_wp2
            go_loopw [5, 7] (fun v i wr => i = .int .i64 0 ∧ v = .int .i64 ((uN ts k d : Nat) : Int) ∧ Le w wr) (fun _ _ _ => 0)
            case atStart => exact ⟨rfl, rfl, HLE.out⟩
            case round =>
              obtain ⟨rfl, rfl, hle⟩ := hrel
              have c2 := hle.cell hc2
              by_cases hm0 : 0 < m
              · go_wp2
                go_roundw
                case rel => exact ⟨q, d + 1, by omega, rfl, by rw [HUS.out], hle⟩
                case measure => simp [intOf]
              · go_wp2
                go_roundw
                case rel => exact ⟨q, d + 1, by omega, rfl, by rw [HUS.out], hle⟩
                case measure => simp [intOf]
    · have e0 : usesL ts index = -1 := by
        unfold usesL; rw [if_neg]; rintro ⟨_, h1, h2⟩; rw [h.len] at h2; exact hi ⟨h1, h2⟩
      rw [e0]
      have HV := Lib.hid hv
      have hb3 : inB 0 ((n : Int) - 1) index = false := inB_f.2 (by omega)
      clear hv hb e0 h
      go_enter Tryd.func35, Tryd.ntmps35
      go_wp2_with (first | (go_at_call 25; refine HV.out.mono ?_; rintro e w1 ⟨rfl, l1⟩) | (go_at_call 85; refine (l1In_any _ _ _ _).mono ?_; rintro e w' ⟨rfl, rfl⟩))
      go_ret
      exact ⟨rfl, l1⟩
end Go.Proofs.YtbkjfgbafphopaaDoor
