/- Walks: greatest, sumOf, BurnEnd of the program and of the reference. -/
import Derived.Test.YtedopialmhpalaaWCookB
namespace Go.Proofs.Ytedopialmhpalaa
open Go.RowKit

/-- the greatest of f 0 .. f (k-1), at least 0 -/
def maxTo (f : Nat → Int) : Nat → Int
  | 0 => 0
  | k + 1 => max (maxTo f k) (f k)
theorem maxTo_succ (f : Nat → Int) (k : Nat) : maxTo f (k + 1) = max (maxTo f k) (f k) := rfl
theorem maxTo_congr {f g : Nat → Int} {k : Nat} (h : ∀ j, j < k → f j = g j) : maxTo f k = maxTo g k := by
  induction k with
  | zero => rfl
  | succ k ih => rw [maxTo_succ, maxTo_succ, ih (fun j hj => h j (by omega)), h k (by omega)]

theorem vmax (a b : Int) : Value.int .i64 (if a < b then b else a) = Value.int .i64 (max a b) := congrArg _ (by split <;> omega)

set_option maxHeartbeats 400000 in
theorem greatest_any (A : Option Addr) (n c : Nat) (xs : List Int) (w : World) (h : RI w A n xs) :
    Calls Try.prog 49 #[.slice A n c] w fun e w' => e = .returned (.int .i64 (maxTo (gi xs) n)) ∧ w = w' := by
  have hm := h.max
  have HC := Lib.hid h.at_
  clear h
  go_enter Try.func49, Try.ntmps49
  go_wp2
  go_loop [3, 8] (fun v i => ∃ k : Nat, k ≤ n ∧ i = .int .i64 k ∧ v = .int .i64 (maxTo (gi xs) k)) (fun _ i => n - (intOf i).toNat)
  case atStart => exact ⟨0, Nat.zero_le _, rfl, rfl⟩
  case round =>
    obtain ⟨k, hk, rfl, rfl⟩ := hrel
    by_cases hlt : k < n
    · obtain ⟨ad, rfl, hcell⟩ := HC.out k hlt
      go_wp2
      go_round
      case rel =>
        refine ⟨k + 1, by omega, by go_num, ?_⟩
        rw [maxTo_succ]; exact vmax _ _
      case measure => simp [intOf]; omega
    · go_wp2
      go_ret
      obtain rfl : k = n := by omega
      exact ⟨rfl, rfl⟩

/-- the sum of the spans on burner b, of the first k -/
def sumIf (xs on : List Int) (b : Int) : Nat → Int
  | 0 => 0
  | k + 1 => sumIf xs on b k + (if gi on k = b then gi xs k else 0)
theorem sumIf_succ (xs on : List Int) (b : Int) (k : Nat) : sumIf xs on b (k + 1) = sumIf xs on b k + (if gi on k = b then gi xs k else 0) := rfl
theorem spans_bound {xs : List Int} (h : spansL xs = true) : xs.length ≤ 6 ∧ ∀ k, k < xs.length → 0 ≤ gi xs k ∧ gi xs k ≤ 30 := by
  unfold spansL at h
  rw [Bool.and_eq_true, all_iff_gi] at h
  exact ⟨by simpa using h.1, fun k hk => inB_t.1 (h.2 k hk)⟩
theorem sumIf_bound {xs on : List Int} (b : Int) (h : ∀ k, k < xs.length → 0 ≤ gi xs k ∧ gi xs k ≤ 30) : ∀ k, k ≤ xs.length → 0 ≤ sumIf xs on b k ∧ sumIf xs on b k ≤ 30 * k := by
  intro k
  induction k with
  | zero => intro _; simp [sumIf]
  | succ k ih =>
    intro hk
    have h1 := ih (by omega)
    have h2 := h k (by omega)
    rw [sumIf_succ]
    split <;> omega

def burnEndL (spans : List Int) (burners : Int) (on : List Int) : Int := if burnOkL spans burners on = true then maxTo (fun b => sumIf spans on b spans.length) burners.toNat else -1
theorem burnOk_parts {spans on : List Int} {burners : Int} (h : burnOkL spans burners on = true) :
    (spans.length ≤ 6 ∧ ∀ k, k < spans.length → 0 ≤ gi spans k ∧ gi spans k ≤ 30) ∧ (1 ≤ burners ∧ burners ≤ 3) ∧ on.length = spans.length ∧ ∀ k, k < on.length → 0 ≤ gi on k ∧ gi on k < burners := by
  unfold burnOkL at h
  rw [Bool.and_eq_true, Bool.and_eq_true] at h
  obtain ⟨⟨h1, h2⟩, h3⟩ := h
  unfold amountsOkL at h3
  rw [Bool.and_eq_true, all_iff_gi] at h3
  have hl : (on.length : Int) = spans.length := by simpa using h3.1
  exact ⟨spans_bound h1, inB_t.1 h2, by omega, fun k hk => by have := inB_t.1 (h3.2 k hk); omega⟩

set_option maxHeartbeats 1000000 in
theorem implBurnEnd_any (A B : Option Addr) (n m c d : Nat) (spans on : List Int) (burners : Int) (w : World) (h : RI w A n spans) (h' : RI w B m on) :
    Calls Try.prog 28 #[.slice A n c, .int .i64 burners, .slice B m d] w fun e w' => e = .returned (.int .i64 (burnEndL spans burners on)) ∧ Le w w' := by
  have hc := implBurnOk_any A B n m c d spans on burners w h h'
  cases hb : burnOkL spans burners on
  · rw [hb] at hc
    have HC := Lib.hid hc
    have HB := Lib.hid hb
    clear hc hb h h'
    go_enter Try.func28, Try.ntmps28
    go_wp2_with (go_at_call 21; refine HC.out.mono ?_; rintro e w' ⟨rfl, rfl⟩)
    go_ret
    exact ⟨ret_int (by unfold burnEndL; rw [HB.out]; rfl), Le.refl _⟩
  · rw [hb] at hc
    have HC := Lib.hid hc
    have HB := Lib.hid hb
    obtain ⟨⟨hn6, hsp⟩, ⟨hb1, hb3⟩, hlen, hon⟩ := burnOk_parts hb
    obtain ⟨bn, rfl⟩ : ∃ bn : Nat, burners = bn := ⟨burners.toNat, by omega⟩
    have HL := Lib.hid h.len
    have HL2 := Lib.hid h'.len
    have HCS := Lib.hid h.at_
    have HCO := Lib.hid h'.at_
    rw [HL.out] at hn6 hsp hlen
    rw [HL2.out] at hlen hon
    subst hlen
    have HSP := Lib.hid hsp
    have HON := Lib.hid hon
    have hs30 : ∀ b k, k ≤ m → 0 ≤ sumIf spans on b k ∧ sumIf spans on b k ≤ 30 * k := fun b k hk => sumIf_bound b (by rw [HL.out]; exact HSP.out) k (by rw [HL.out]; exact hk)
    have HS := Lib.hid hs30
    clear hc hb h h' hsp hon hs30
    have hmk := run_mk (P := Try.prog) 23 3 (.int .i64 0) 1 8 Try.underlying23 infoInt bn (by omega) (by omega)
    go_enter Try.func28, Try.ntmps28
    go_wp2_with (go_at_call 21; refine HC.out.mono ?_; rintro e w' ⟨rfl, rfl⟩)
    clear hmk
    go_loopw [19] (fun i wr => ∃ k : Nat, k ≤ m ∧ i = .int .i64 k ∧ Le w wr ∧ ∃ cs, Blk wr w.heap.size 3 cs ∧ cs.size = bn ∧ ∀ b : Nat, b < bn → cs[b]? = some (.int .i64 (sumIf spans on b k))) (fun i _ => m - (intOf i).toNat)
    case atStart =>
      refine ⟨0, Nat.zero_le _, rfl, (Le.refl _).alloc _, _, Blk.new _ _ _, by simp [made_size], fun b hb => ?_⟩
      have := made_get (.int .i64 0) bn b hb
      simpa [sumIf] using this
    case round =>
      obtain ⟨k, hk, rfl, hle, cs, hblk, hsz, hcs⟩ := hrel
      by_cases hlt : k < m
      · obtain ⟨ad, rfl, hc1⟩ := HCS.out k hlt
        obtain ⟨ad2, rfl, hc2⟩ := HCO.out k hlt
        obtain ⟨v, hv⟩ : ∃ v : Nat, gi on k = v := ⟨(gi on k).toNat, by have := HON.out k hlt; omega⟩
        have hvb : v < bn := by have := HON.out k hlt; omega
        have c1 := hle.cell hc1
        have c2 := hle.cell hc2
        rw [hv] at c2
        have c3 := (hblk.cell v).trans (hcs v hvb)
        have z3 := hblk.frozen v
        have bd := HS.out v k hk
        have bs := HSP.out k hlt
        have HV := Lib.hid hv
        have HSZ := Lib.hid hsz
        have HCC := Lib.hid hcs
        clear hc1 hc2 hv hsz hcs
        go_wp2
        go_roundw
        case rel =>
          refine ⟨k + 1, by omega, by go_num, hle.setCell (Nat.le_refl _) _, _, hblk.set_ _ _, by simp [HSZ.out], fun b hb => ?_⟩
          rw [Array.getElem?_setIfInBounds, sumIf_succ, HV.out]
          by_cases e : v = b
          · subst e; simp [HSZ.out, hb]
          · rw [if_neg e, HCC.out b hb, if_neg (by omega)]; simp
        case measure => simp [intOf]; omega
      · obtain rfl : k = m := by omega
        have hR : RI wr (some ⟨w.heap.size, 0, none⟩) bn ((List.range bn).map fun b => sumIf spans on (b : Nat) k) := by
          refine hblk.RI_ (by simp) (by omega) fun b hb => ?_
          rw [hcs b hb]
          have : gi ((List.range bn).map fun b => sumIf spans on (b : Nat) k) b = sumIf spans on b k := by
            unfold gi; rw [List.getD_eq_getElem?_getD, List.getElem?_map, List.getElem?_range hb]; rfl
          rw [this]
        have HR := Lib.hid hR
        clear hR hcs hsz
        go_wp2_with (go_at_call 49; refine (greatest_any _ _ _ _ _ HR.out).mono ?_; rintro e w' ⟨rfl, rfl⟩)
        go_ret
        refine ⟨ret_int ?_, hle⟩
        unfold burnEndL
        rw [HB.out, if_pos rfl, HL.out]
        refine maxTo_congr fun b hb => ?_
        unfold gi; rw [List.getD_eq_getElem?_getD, List.getElem?_map, List.getElem?_range hb]; rfl

set_option maxHeartbeats 1000000 in
theorem specBurnEnd_any (A B : Option Addr) (n m c d : Nat) (spans on : List Int) (burners : Int) (w : World) (h : RI w A n spans) (h' : RI w B m on) :
    Calls Try.prog 27 #[.slice A n c, .int .i64 burners, .slice B m d] w fun e w' => e = .returned (.int .i64 (burnEndL spans burners on)) ∧ w = w' := by
  have hc := specBurnOk_any A B n m c d spans on burners w h h'
  cases hb : burnOkL spans burners on
  · rw [hb] at hc
    have HC := Lib.hid hc
    have HB := Lib.hid hb
    clear hc hb h h'
    go_enter Try.func27, Try.ntmps27
    go_wp2_with (go_at_call 20; refine HC.out.mono ?_; rintro e w' ⟨rfl, rfl⟩)
    go_ret
    exact ⟨ret_int (by unfold burnEndL; rw [HB.out]; rfl), rfl⟩
  · rw [hb] at hc
    have HC := Lib.hid hc
    have HB := Lib.hid hb
    obtain ⟨⟨hn6, hsp⟩, ⟨hb1, hb3⟩, hlen, hon⟩ := burnOk_parts hb
    obtain ⟨bn, rfl⟩ : ∃ bn : Nat, burners = bn := ⟨burners.toNat, by omega⟩
    have HL := Lib.hid h.len
    have HL2 := Lib.hid h'.len
    have HCS := Lib.hid h.at_
    have HCO := Lib.hid h'.at_
    rw [HL.out] at hn6 hsp hlen
    rw [HL2.out] at hlen hon
    subst hlen
    have HSP := Lib.hid hsp
    have hs30 : ∀ b k, k ≤ m → 0 ≤ sumIf spans on b k ∧ sumIf spans on b k ≤ 30 * k := fun b k hk => sumIf_bound b (by rw [HL.out]; exact HSP.out) k (by rw [HL.out]; exact hk)
    have HS := Lib.hid hs30
    clear hc hb h h' hsp hon hs30
    go_enter Try.func27, Try.ntmps27
    go_wp2_with (go_at_call 20; refine HC.out.mono ?_; rintro e w' ⟨rfl, rfl⟩)
    go_loop [7, 8] (fun v i => ∃ b : Nat, b ≤ bn ∧ i = .int .i64 b ∧ v = .int .i64 (maxTo (fun b => sumIf spans on b m) b)) (fun _ i => bn - (intOf i).toNat)
    case atStart => exact ⟨0, Nat.zero_le _, rfl, rfl⟩
    case round =>
      obtain ⟨b, hb, rfl, rfl⟩ := hrel
      by_cases hltb : b < bn
      · go_wp2
        go_loop [9, 10] (fun v i => ∃ k : Nat, k ≤ m ∧ i = .int .i64 k ∧ v = .int .i64 (sumIf spans on b k)) (fun _ i => m - (intOf i).toNat)
        case atStart => exact ⟨0, Nat.zero_le _, rfl, rfl⟩
        case round =>
          obtain ⟨k, hk, rfl, rfl⟩ := hrel
          by_cases hlt : k < m
          · obtain ⟨ad, rfl, c1⟩ := HCS.out k hlt
            obtain ⟨ad2, rfl, c2⟩ := HCO.out k hlt
            have bd := HS.out b k hk
            have bs := HSP.out k hlt
            cases e : (gi on k == (b : Int))
            · go_wp2
              go_round
              case rel =>
                refine ⟨k + 1, by omega, by go_num, ?_⟩
                rw [sumIf_succ, if_neg (by simpa using e)]; simp
              case measure => simp [intOf]; omega
            · go_wp2
              go_round
              case rel =>
                refine ⟨k + 1, by omega, by go_num, ?_⟩
                rw [sumIf_succ, if_pos (by simpa using e)]
              case measure => simp [intOf]; omega
          · obtain rfl : k = m := by omega
            go_wp2
            go_round
            case rel =>
              refine ⟨b + 1, by omega, by go_num, ?_⟩
              rw [maxTo_succ]; exact vmax _ _
            case measure => simp [intOf]; omega
      · obtain rfl : b = bn := by omega
        go_wp2
        go_ret
        refine ⟨ret_int ?_, rfl⟩
        unfold burnEndL
        rw [HB.out, if_pos rfl, HL.out]
        rfl

end Go.Proofs.Ytedopialmhpalaa
