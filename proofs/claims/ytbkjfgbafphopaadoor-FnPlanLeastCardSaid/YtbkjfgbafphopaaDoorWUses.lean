/- Walks: UsesOf of both. -/
import Derived.Test.YtbkjfgbafphopaaDoorWJoin
import Derived.Test.YtbkjfgbafphopaaDoorPBits
namespace Go.Proofs.YtbkjfgbafphopaaDoor
open Go.RowKit

theorem items_facts {ts : List It} {n : Nat} (hl : ts.length = n) (h : itemsL ts = true) : n ≤ 6 ∧ ∀ k, k < n → (0 ≤ (gm ts k).1 ∧ (gm ts k).1 ≤ 6) ∧ (gm ts k).2.1.length ≤ 3 ∧ (0 < (gm ts k).1 ↔ 0 < (gm ts k).2.1.length) ∧ (0 ≤ (gm ts k).2.2 ∧ (gm ts k).2.2 ≤ 31) ∧
    ∀ j, j < (gm ts k).2.1.length → (0 ≤ (gp (gm ts k).2.1 j).1 ∧ (gp (gm ts k).2.1 j).1 < k) ∧ (1 ≤ (gp (gm ts k).2.1 j).2 ∧ (gp (gm ts k).2.1 j).2 ≤ 6) ∧ (0 < j → (gp (gm ts k).2.1 (j - 1)).1 < (gp (gm ts k).2.1 j).1) := by
  unfold itemsL at h
  rw [Bool.and_eq_true, List.all_eq_true, hl, decide_eq_true_eq] at h
  refine ⟨h.1, fun k hk => ?_⟩
  have h2 := h.2 k (List.mem_range.2 hk)
  unfold itemL at h2
  simp only [Bool.and_eq_true, List.all_eq_true, List.mem_range, inB_t, decide_eq_true_eq, beq_iff_eq, decide_eq_decide] at h2
  obtain ⟨hp, ⟨⟨h3, h4⟩, h5⟩, h6⟩ := h2
  refine ⟨h3, h4, h5, h6, fun j hj => ?_⟩
  have h7 := hp j hj
  unfold partB at h7
  simp only [Bool.and_eq_true, Bool.or_eq_true, inB_t, decide_eq_true_eq] at h7
  obtain ⟨⟨q1, q2⟩, q3⟩ := h7
  exact ⟨by omega, q2, fun hj0 => by omega⟩

def ofN (ps : List (Int × Int)) (j : Nat) : Nat := (gp ps j).1.toNat
def pfN (ps : List (Int × Int)) (s : Nat) : Nat → Nat
  | 0 => s
  | j + 1 => pfN ps s j ||| 2 ^ ofN ps j
def uN (ts : List It) (index : Nat) : Nat → Nat
  | 0 => 2 ^ index
  | d + 1 => if uN ts index d / 2 ^ (index - d) % 2 = 1 then pfN (gm ts (index - d)).2.1 (uN ts index d) (gm ts (index - d)).2.1.length else uN ts index d
def usesL (ts : List It) (index : Int) : Int := if itemsL ts = true ∧ 0 ≤ index ∧ index < ts.length then (uN ts index.toNat (index.toNat + 1) : Nat) else -1

theorem pow_lt64 {k : Nat} (h : k < 6) : 2 ^ k < 64 := by
  have : 2 ^ k < 2 ^ 6 := Nat.pow_lt_pow_right (by omega) h
  exact this
theorem wrap_pow {k : Nat} (h : k < 6) : wrap64 ((2 : Int) ^ k) = ((2 ^ k : Nat) : Int) := by
  have h1 := pow_lt64 h
  have h2 : ((2 : Int) ^ k) = ((2 ^ k : Nat) : Int) := by simp
  rw [h2]
  generalize 2 ^ k = x at *
  exact IntWalk.wrap64_in _ (by omega)
theorem pfN_lt {ps : List (Int × Int)} {s : Nat} (hs : s < 64) : ∀ j, (∀ t, t < j → ofN ps t < 6) → pfN ps s j < 64 := by
  intro j
  induction j with
  | zero => intro _; exact hs
  | succ j ih =>
    intro h
    have h1 := ih fun t ht => h t (by omega)
    have h2 : 2 ^ ofN ps j < 2 ^ 6 := Nat.pow_lt_pow_right (by omega) (h j (by omega))
    exact Nat.or_lt_two_pow (n := 6) h1 h2
theorem uN_lt {ts : List It} {n index : Nat} (hn : n ≤ 6) (hi : index < n) (hf : ∀ k, k < n → ∀ j, j < (gm ts k).2.1.length → ofN (gm ts k).2.1 j < 6) : ∀ d, uN ts index d < 64 := by
  intro d
  induction d with
  | zero => exact pow_lt64 (by omega)
  | succ d ih =>
    unfold uN
    split
    · exact pfN_lt ih _ (hf _ (by omega))
    · exact ih

set_option maxRecDepth 20000 in
set_option maxHeartbeats 2000000 in
theorem implUses_any (A : Option Addr) (n c : Nat) (ts : List It) (index : Int) (w : World) (h : RM w A n ts) :
    Calls Tryd.prog 34 #[.slice A n c, .int .i64 index] w fun e w' => e = .returned (.int .i64 (usesL ts index)) ∧ Le w w' := by
  have hv := implItemsValid_any A n c ts w h
  have hm := h.max
  cases hb : itemsL ts
  · rw [hb] at hv
    have e0 : usesL ts index = -1 := by simp [usesL, hb]
    rw [e0]
    have HV := Lib.hid hv
    clear hv hb e0 h
    go_enter Tryd.func34, Tryd.ntmps34
    go_wp2_with (go_at_call 24; refine HV.out.mono ?_; rintro e w1 ⟨rfl, l1⟩)
    go_ret
    exact ⟨rfl, l1⟩
  · rw [hb] at hv
    by_cases hi : 0 ≤ index ∧ index < n
    · obtain ⟨k, rfl⟩ : ∃ k : Nat, index = k := ⟨index.toNat, by omega⟩
      obtain ⟨hn6, hf⟩ := items_facts h.len hb
      have e0 : usesL ts k = ((uN ts k (k + 1) : Nat) : Int) := by
        unfold usesL; rw [if_pos ⟨hb, by omega, by rw [h.len]; omega⟩]; simp
      rw [e0]
      have hkn : k < n := by omega
      have h2k : 2 ^ k < 64 := pow_lt64 (by omega)
      have hpk := wrap_pow (k := k) (by omega)
      have hul := uN_lt (ts := ts) hn6 hkn (fun k hk j hj => by have := ((hf k hk).2.2.2.2 j hj).1; unfold ofN; omega)
      have HU := Lib.hid hul
      clear hul h2k
      have HV := Lib.hid hv
      have HF := Lib.hid hf
      have HC := Lib.hid h.at_
      clear hv hb h hf e0 hi
      go_enter Tryd.func34, Tryd.ntmps34
      go_wp2_with (go_at_call 24; refine HV.out.mono ?_; rintro e w1 ⟨rfl, l1⟩)
      have L1 := Lib.hid l1
      clear l1
      go_loopw [5, 6] (fun v i wr => ∃ m d : Nat, m + d = k + 1 ∧ i = .int .i64 ((m : Int) - 1) ∧ v = .int .i64 ((uN ts k d : Nat) : Int) ∧ Le w wr) (fun _ i _ => (intOf i + 1).toNat)
      case atStart => exact ⟨k + 1, 0, rfl, by go_num, by rw [hpk]; rfl, L1.out⟩
      case round =>
        obtain ⟨m, d, hmd, hiv, rfl, hle⟩ := hrel
        cases m with
        | zero =>
          subst hiv
          have hd : d = k + 1 := by omega
          go_wp2
          go_ret
          exact ⟨ret_int (by rw [hd]), hle⟩
        | succ q =>
          rw [show ((q + 1 : Nat) : Int) - 1 = (q : Int) by omega] at hiv
          subst hiv
          have hqn : q < n := by omega
          obtain ⟨ad, B, m, d', rfl, hc1, hc2, hc3, hr⟩ := HC.out q hqn
          have c2 := hle.cell hc2
          have hu := HU.out d
          have hlen := hr.len
          have hpn := (HF.out q hqn).2.2.2.2
          have hm3 : m ≤ 3 := by rw [← hlen]; exact (HF.out q hqn).2.1
          have hq6 : q < 6 := by omega
          have hand : bits .and .i64 ((uN ts k d : Nat) : Int) (wrap64 ((2 : Int) ^ q)) = ((uN ts k d &&& 2 ^ q : Nat) : Int) := by
            rw [wrap_pow hq6]; exact bits_and_nat _ _ (by omega) (by have := pow_lt64 hq6; omega)
          have hkd : k - d = q := by omega
          by_cases ht : uN ts k d / 2 ^ q % 2 = 1
          · have hne : (bits .and .i64 ((uN ts k d : Nat) : Int) (wrap64 ((2 : Int) ^ q)) == 0) = false := by
              rw [hand, ← Bool.not_eq_true, beq_iff_eq]
              intro e
              exact (and_bit (uN ts k d) q).1 (by omega) ht
            have hus : uN ts k (d + 1) = pfN (gm ts q).2.1 (uN ts k d) m := by
              show (if uN ts k d / 2 ^ (k - d) % 2 = 1 then pfN (gm ts (k - d)).2.1 (uN ts k d) (gm ts (k - d)).2.1.length else uN ts k d) = _
              rw [hkd, if_pos ht, hlen]
            have HUS := Lib.hid hus
            have HR := Lib.hid hr.at_
            have HPN := Lib.hid hpn
            have HLE := Lib.hid hle
            have HLN := Lib.hid hlen
            clear hus hr hand hpn hle ht hkd hc1 hc2 hc3 hlen
            go_wp2
            go_loopw [5, 40] (fun v i wr => ∃ j : Nat, j ≤ m ∧ i = .int .i64 j ∧ v = .int .i64 ((pfN (gm ts q).2.1 (uN ts k d) j : Nat) : Int) ∧ Le w wr) (fun _ i _ => m - (intOf i).toNat)
            case atStart => exact ⟨0, Nat.zero_le _, rfl, rfl, HLE.out⟩
            case round =>
              obtain ⟨j, hj, rfl, rfl, hle⟩ := hrel
              by_cases hjm : j < m
              · obtain ⟨ad2, rfl, hd1, hd2⟩ := HR.out j hjm
                have d1 := hle.cell hd1
                have d2 := hle.cell hd2
                obtain ⟨⟨o1, o2⟩, _⟩ := HPN.out j (by rw [HLN.out]; exact hjm)
                obtain ⟨o, ho⟩ : ∃ o : Nat, (gp (gm ts q).2.1 j).1 = o := ⟨(gp (gm ts q).2.1 j).1.toNat, by omega⟩
                have ho6 : o < 6 := by omega
                rw [ho] at d1 hd1
                have hpl := pfN_lt (ps := (gm ts q).2.1) hu j (fun t ht => by have := (HPN.out t (by rw [HLN.out]; omega)).1; unfold ofN; omega)
                have hor : bits .or .i64 ((pfN (gm ts q).2.1 (uN ts k d) j : Nat) : Int) (wrap64 ((2 : Int) ^ o)) = ((pfN (gm ts q).2.1 (uN ts k d) (j + 1) : Nat) : Int) := by
                  rw [wrap_pow ho6, bits_or_nat _ _ (by omega) (by have := pow_lt64 ho6; omega)]
                  show _ = ((pfN (gm ts q).2.1 (uN ts k d) j ||| 2 ^ ofN (gm ts q).2.1 j : Nat) : Int)
                  rw [show ofN (gm ts q).2.1 j = o by unfold ofN; omega]
                have HOR := Lib.hid hor
                clear hd1 hd2 hor ho o1 o2
                go_wp2
                go_roundw
                case rel => exact ⟨j + 1, by omega, by go_num, by rw [HOR.out], hle.alloc _⟩
                case measure => simp [intOf]; omega
              · obtain rfl : j = m := by omega
                go_wp2
                go_roundw
                case rel => exact ⟨q, d + 1, by omega, rfl, by rw [HUS.out], hle⟩
                case measure => simp [intOf]
          · have hne : (bits .and .i64 ((uN ts k d : Nat) : Int) (wrap64 ((2 : Int) ^ q)) == 0) = true := by
              rw [hand, beq_iff_eq]
              have := (and_bit (uN ts k d) q).2 ht
              omega
            have hus : uN ts k (d + 1) = uN ts k d := by
              show (if uN ts k d / 2 ^ (k - d) % 2 = 1 then pfN (gm ts (k - d)).2.1 (uN ts k d) (gm ts (k - d)).2.1.length else uN ts k d) = _
              rw [hkd, if_neg ht]
            have HUS := Lib.hid hus
            clear hus hr hand hpn ht hkd hc1 hc2 hc3 hlen
            go_wp2
            go_roundw
            case rel => exact ⟨q, d + 1, by omega, rfl, by rw [HUS.out], hle⟩
            case measure => simp [intOf]
    · have e0 : usesL ts index = -1 := by
        unfold usesL; rw [if_neg]; rintro ⟨_, h1, h2⟩; rw [h.len] at h2; exact hi ⟨h1, h2⟩
      rw [e0]
      have HV := Lib.hid hv
      clear hv hb e0 h
      by_cases h0 : index < 0
      · go_enter Tryd.func34, Tryd.ntmps34
        go_wp2_with (go_at_call 24; refine HV.out.mono ?_; rintro e w1 ⟨rfl, l1⟩)
        go_ret
        exact ⟨rfl, l1⟩
      · go_enter Tryd.func34, Tryd.ntmps34
        go_wp2_with (go_at_call 24; refine HV.out.mono ?_; rintro e w1 ⟨rfl, l1⟩)
        go_ret
        exact ⟨rfl, l1⟩
end Go.Proofs.YtbkjfgbafphopaaDoor
