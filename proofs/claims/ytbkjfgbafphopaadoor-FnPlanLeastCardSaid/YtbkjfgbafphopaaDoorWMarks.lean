/- Walks: MarksOf of both. -/
import Derived.Test.YtbkjfgbafphopaaDoorWUsesB
namespace Go.Proofs.YtbkjfgbafphopaaDoor
open Go.RowKit

theorem pfN_ltB {ps : List (Int × Int)} {s B : Nat} (hs : s < 2 ^ B) : ∀ j, (∀ t, t < j → ofN ps t < B) → pfN ps s j < 2 ^ B := by
  intro j
  induction j with
  | zero => intro _; exact hs
  | succ j ih =>
    intro h
    have h1 := ih fun t ht => h t (by omega)
    have h2 : 2 ^ ofN ps j < 2 ^ B := Nat.pow_lt_pow_right (by omega) (h j (by omega))
    exact Nat.or_lt_two_pow (n := B) h1 h2
theorem uN_ltB {ts : List It} {n index : Nat} (hi : index < n) (hf : ∀ k, k < n → ∀ j, j < (gm ts k).2.1.length → ofN (gm ts k).2.1 j < k) : ∀ d, uN ts index d < 2 ^ (index + 1) := by
  intro d
  induction d with
  | zero => exact Nat.pow_lt_pow_right (by omega) (by omega)
  | succ d ih =>
    unfold uN
    split
    · exact pfN_ltB ih _ (fun t ht => by have := hf (index - d) (by omega) t ht; omega)
    · exact ih
def mN (ts : List It) (s : Nat) : Nat → Nat
  | 0 => 0
  | j + 1 => if s / 2 ^ j % 2 = 1 then mN ts s j ||| (gm ts j).2.2.toNat else mN ts s j
theorem mN_past {ts : List It} {s B : Nat} (hs : s < 2 ^ B) : ∀ j, B ≤ j → mN ts s j = mN ts s B := by
  intro j
  induction j with
  | zero => intro h; rw [show B = 0 by omega]
  | succ j ih =>
    intro h
    by_cases e : B = j + 1
    · rw [e]
    · have h1 := ih (by omega)
      have h2 : s / 2 ^ j = 0 := Nat.div_eq_of_lt (Nat.lt_of_lt_of_le hs (Nat.pow_le_pow_right (by omega) (by omega)))
      show (if s / 2 ^ j % 2 = 1 then mN ts s j ||| (gm ts j).2.2.toNat else mN ts s j) = _
      rw [h2, if_neg (by decide), h1]
theorem mN_lt {ts : List It} {s n : Nat} (hf : ∀ k, k < n → (gm ts k).2.2.toNat < 32) : ∀ j, j ≤ n → mN ts s j < 32 := by
  intro j
  induction j with
  | zero => intro _; show 0 < 32; omega
  | succ j ih =>
    intro h
    unfold mN
    split
    · exact Nat.or_lt_two_pow (n := 5) (ih (by omega)) (hf j (by omega))
    · exact ih (by omega)
def marksOfL (ts : List It) (index : Int) : Int := if itemsL ts = true ∧ 0 ≤ index ∧ index < ts.length then (mN ts (uN ts index.toNat (index.toNat + 1)) (index.toNat + 1) : Nat) else -1

set_option maxRecDepth 20000 in
set_option maxHeartbeats 2000000 in
theorem implMarks_any (A : Option Addr) (n c : Nat) (ts : List It) (index : Int) (w : World) (h : RM w A n ts) :
    Calls Tryd.prog 37 #[.slice A n c, .int .i64 index] w fun e w' => e = .returned (.int .i64 (marksOfL ts index)) ∧ Le w w' := by
  have hu := implUses_any A n c ts index w h
  have hm := h.max
  by_cases hv : itemsL ts = true ∧ 0 ≤ index ∧ index < ts.length
  · obtain ⟨hb, h0, hin⟩ := hv
    obtain ⟨k, rfl⟩ : ∃ k : Nat, index = k := ⟨index.toNat, by omega⟩
    obtain ⟨hn6, hf⟩ := items_facts h.len hb
    have hkn : k < n := by rw [h.len] at hin; omega
    have e1 : usesL ts k = ((uN ts k (k + 1) : Nat) : Int) := by unfold usesL; rw [if_pos ⟨hb, h0, hin⟩]; simp
    have hsB := uN_ltB (ts := ts) hkn (fun k hk j hj => by have := ((hf k hk).2.2.2.2 j hj).1; unfold ofN; omega) (k + 1)
    have hs64 := uN_lt (ts := ts) hn6 hkn (fun k hk j hj => by have := ((hf k hk).2.2.2.2 j hj).1; unfold ofN; omega) (k + 1)
    have e2 : marksOfL ts k = ((mN ts (uN ts k (k + 1)) n : Nat) : Int) := by
      unfold marksOfL; rw [if_pos ⟨hb, h0, hin⟩, Int.toNat_natCast, mN_past hsB n (by omega)]
    rw [e1] at hu
    rw [e2]
    have hml := mN_lt (ts := ts) (s := uN ts k (k + 1)) (n := n) (fun j hj => by have := (hf j hj).2.2.2.1; omega)
    generalize uN ts k (k + 1) = S at *
    have HU := Lib.hid hu
    have HF := Lib.hid hf
    have HC := Lib.hid h.at_
    have HM := Lib.hid hml
    clear hu hf h hml hin hb e1 e2 hsB
    go_enter Tryd.func37, Tryd.ntmps37
    go_wp2_with (go_at_call 34; refine HU.out.mono ?_; rintro e w1 ⟨rfl, l1⟩)
    have L1 := Lib.hid l1
    clear l1
    go_loopw [6, 16] (fun v i wr => ∃ j : Nat, j ≤ n ∧ i = .int .i64 j ∧ v = .int .i64 ((mN ts S j : Nat) : Int) ∧ Le w wr) (fun _ i _ => n - (intOf i).toNat)
    case atStart => exact ⟨0, Nat.zero_le _, rfl, rfl, L1.out⟩
    case round =>
      obtain ⟨j, hj, rfl, rfl, hle⟩ := hrel
      by_cases hjn : j < n
      · obtain ⟨ad, B, m, d', rfl, hc1, hc2, hc3, hr⟩ := HC.out j hjn
        have c1 := hle.cell hc1
        have c2 := hle.cell hc2
        have c3 := hle.cell hc3
        obtain ⟨mk, hmk⟩ : ∃ mk : Nat, (gm ts j).2.2 = mk := ⟨(gm ts j).2.2.toNat, by have := (HF.out j hjn).2.2.2.1; omega⟩
        have hmk32 : mk < 32 := by have := (HF.out j hjn).2.2.2.1; omega
        have hml := HM.out j hj
        rw [hmk] at c3
        have hand : bits .and .i64 ((S : Nat) : Int) (wrap64 ((2 : Int) ^ j)) = ((S &&& 2 ^ j : Nat) : Int) := by
          rw [wrap_pow (by omega)]; exact bits_and_nat _ _ (by omega) (by have := pow_lt64 (k := j) (by omega); omega)
        by_cases ht : S / 2 ^ j % 2 = 1
        · have hne : (bits .and .i64 ((S : Nat) : Int) (wrap64 ((2 : Int) ^ j)) != 0) = true := by
            rw [hand, bne_iff_ne]
            intro e
            exact (and_bit S j).1 (by omega) ht
          have hor : bits .or .i64 ((mN ts S j : Nat) : Int) (mk : Int) = ((mN ts S (j + 1) : Nat) : Int) := by
            rw [bits_or_nat _ _ (by omega) (by omega)]
            show _ = ((if S / 2 ^ j % 2 = 1 then mN ts S j ||| (gm ts j).2.2.toNat else mN ts S j : Nat) : Int)
            rw [if_pos ht, hmk, Int.toNat_natCast]
          have HOR := Lib.hid hor
          clear hc1 hc2 hc3 hr hand hor hmk ht
          go_wp2
          go_roundw
          case rel => exact ⟨j + 1, by omega, by go_num, by rw [HOR.out], hle.alloc _⟩
          case measure => simp [intOf]; omega
        · have hne : (bits .and .i64 ((S : Nat) : Int) (wrap64 ((2 : Int) ^ j)) != 0) = false := by
            rw [hand, bne_eq_false_iff_eq]
            have := (and_bit S j).2 ht
            omega
          have hus : mN ts S (j + 1) = mN ts S j := by
            show (if S / 2 ^ j % 2 = 1 then mN ts S j ||| (gm ts j).2.2.toNat else mN ts S j) = _
            rw [if_neg ht]
          have HUS := Lib.hid hus
          clear hc1 hc2 hc3 hr hand hus hmk ht
          go_wp2
          go_roundw
          case rel => exact ⟨j + 1, by omega, by go_num, by rw [HUS.out], hle.alloc _⟩
          case measure => simp [intOf]; omega
      · obtain rfl : j = n := by omega
        go_wp2
        go_ret
        exact ⟨rfl, hle⟩
  · have e1 : usesL ts index = -1 := by unfold usesL; rw [if_neg hv]
    have e2 : marksOfL ts index = -1 := by unfold marksOfL; rw [if_neg hv]
    rw [e1] at hu
    rw [e2]
    have HU := Lib.hid hu
    clear hu h e1 e2 hv
    go_enter Tryd.func37, Tryd.ntmps37
    go_wp2_with (go_at_call 34; refine HU.out.mono ?_; rintro e w1 ⟨rfl, l1⟩)
    go_ret
    exact ⟨rfl, l1⟩

set_option maxRecDepth 20000 in
set_option maxHeartbeats 2000000 in
theorem specMarks_any (A : Option Addr) (n c : Nat) (ts : List It) (index : Int) (w : World) (h : RM w A n ts) :
    Calls Tryd.prog 38 #[.slice A n c, .int .i64 index] w fun e w' => e = .returned (.int .i64 (marksOfL ts index)) ∧ Le w w' := by
  have hu := specUses_any A n c ts index w h
  have hm := h.max
  by_cases hv : itemsL ts = true ∧ 0 ≤ index ∧ index < ts.length
  · obtain ⟨hb, h0, hin⟩ := hv
    obtain ⟨k, rfl⟩ : ∃ k : Nat, index = k := ⟨index.toNat, by omega⟩
    obtain ⟨hn6, hf⟩ := items_facts h.len hb
    have hkn : k < n := by rw [h.len] at hin; omega
    have e1 : usesL ts k = ((uN ts k (k + 1) : Nat) : Int) := by unfold usesL; rw [if_pos ⟨hb, h0, hin⟩]; simp
    have hs64 := uN_lt (ts := ts) hn6 hkn (fun k hk j hj => by have := ((hf k hk).2.2.2.2 j hj).1; unfold ofN; omega) (k + 1)
    have e2 : marksOfL ts k = ((mN ts (uN ts k (k + 1)) (k + 1) : Nat) : Int) := by
      unfold marksOfL; rw [if_pos ⟨hb, h0, hin⟩, Int.toNat_natCast]
    rw [e1] at hu
    rw [e2]
    have hml := mN_lt (ts := ts) (s := uN ts k (k + 1)) (n := n) (fun j hj => by have := (hf j hj).2.2.2.1; omega)
    generalize uN ts k (k + 1) = S at *
    have HU := Lib.hid hu
    have HF := Lib.hid hf
    have HC := Lib.hid h.at_
    have HM := Lib.hid hml
    clear hu hf h hml hin hb e1 e2
    go_enter Tryd.func38, Tryd.ntmps38
    go_wp2_with (go_at_call 35; refine HU.out.mono ?_; rintro e w1 ⟨rfl, l1⟩)
    have L1 := Lib.hid l1
    clear l1
    go_loopw [6, 7] (fun v i wr => ∃ j : Nat, j ≤ k + 1 ∧ i = .int .i64 j ∧ v = .int .i64 ((mN ts S j : Nat) : Int) ∧ Le w wr) (fun _ i _ => k + 1 - (intOf i).toNat)
    case atStart => exact ⟨0, Nat.zero_le _, rfl, rfl, L1.out⟩
    case round =>
      obtain ⟨j, hj, rfl, rfl, hle⟩ := hrel
      by_cases hjk : j ≤ k
      · have hjn : j < n := by omega
        obtain ⟨ad, B, m, d', rfl, hc1, hc2, hc3, hr⟩ := HC.out j hjn
        have c3 := hle.cell hc3
        obtain ⟨mk, hmk⟩ : ∃ mk : Nat, (gm ts j).2.2 = mk := ⟨(gm ts j).2.2.toNat, by have := (HF.out j hjn).2.2.2.1; omega⟩
        have hmk32 : mk < 32 := by have := (HF.out j hjn).2.2.2.1; omega
        have hml := HM.out j (by omega)
        rw [hmk] at c3
        by_cases ht : S / 2 ^ j % 2 = 1
        · have hbit : ((((S : Nat) : Int)) / (2 : Int) ^ j).tmod 2 = 1 := by rw [shr_bit, ht]; rfl
          have hjn2 := l1Join_any (mN ts S j) mk wr (by omega) (by omega)
          have hor : ((mN ts S j ||| mk : Nat) : Int) = ((mN ts S (j + 1) : Nat) : Int) := by
            show _ = ((if S / 2 ^ j % 2 = 1 then mN ts S j ||| (gm ts j).2.2.toNat else mN ts S j : Nat) : Int)
            rw [if_pos ht, hmk, Int.toNat_natCast]
          rw [hor] at hjn2
          have HJ := Lib.hid hjn2
          clear hc1 hc2 hc3 hr hor hmk ht hjn2
          go_wp2_with (go_at_call 87; refine HJ.out.mono ?_; rintro e w' ⟨rfl, rfl⟩)
          go_roundw
          case rel => exact ⟨j + 1, by omega, by go_num, rfl, hle⟩
          case measure => simp [intOf]; omega
        · have hbit : (((((S : Nat) : Int)) / (2 : Int) ^ j).tmod 2 == 1) = false := by
            rw [shr_bit]
            rcases Nat.mod_two_eq_zero_or_one (S / 2 ^ j) with e | e
            · rw [e]; rfl
            · exact absurd e ht
          have hus : mN ts S (j + 1) = mN ts S j := by
            show (if S / 2 ^ j % 2 = 1 then mN ts S j ||| (gm ts j).2.2.toNat else mN ts S j) = _
            rw [if_neg ht]
          have HUS := Lib.hid hus
          clear hc1 hc2 hc3 hr hus hmk ht
          go_wp2
          go_roundw
          case rel => exact ⟨j + 1, by omega, by go_num, by rw [HUS.out], hle⟩
          case measure => simp [intOf]; omega
      · obtain rfl : j = k + 1 := by omega
        go_wp2
        go_ret
        exact ⟨rfl, hle⟩
  · have e1 : usesL ts index = -1 := by unfold usesL; rw [if_neg hv]
    have e2 : marksOfL ts index = -1 := by unfold marksOfL; rw [if_neg hv]
    rw [e1] at hu
    rw [e2]
    have HU := Lib.hid hu
    clear hu h e1 e2 hv
    go_enter Tryd.func38, Tryd.ntmps38
    go_wp2_with (go_at_call 35; refine HU.out.mono ?_; rintro e w1 ⟨rfl, l1⟩)
    go_ret
    exact ⟨rfl, l1⟩
end Go.Proofs.YtbkjfgbafphopaaDoor
