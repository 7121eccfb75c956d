/- Walks: TogetherWaits of the program and of the reference. -/
import Derived.Test.YtedopialmhpalaaWCookA
import Derived.Test.YtedopialmhpalaaWSum
namespace Go.Proofs.Ytedopialmhpalaa
open Go.RowKit

def togetherL (spans order : List Int) : Int := if (spansL spans && orderL order spans.length) = true then sumTo (fun k => (k : Int) * gi spans (gi order k).toNat) spans.length else -1

theorem spans_bound' {xs : List Int} (h : spansL xs = true) : xs.length ≤ 6 ∧ ∀ k, k < xs.length → 0 ≤ gi xs k ∧ gi xs k ≤ 30 := by
  unfold spansL at h
  rw [Bool.and_eq_true, all_iff_gi] at h
  exact ⟨by simpa using h.1, fun k hk => inB_t.1 (h.2 k hk)⟩
theorem order_parts {xs : List Int} {n : Nat} (h : orderL xs n = true) : xs.length = n ∧ (∀ k, k < n → 0 ≤ gi xs k ∧ gi xs k < n) ∧ ∀ j k, j < k → k < n → gi xs j ≠ gi xs k := by
  unfold orderL at h
  rw [Bool.and_eq_true, List.all_eq_true] at h
  have hl : xs.length = n := by have := h.1; simp at this; omega
  have hk : ∀ k, k < n → okAt xs n k = true := fun k hk => h.2 k (List.mem_range.2 (by omega))
  refine ⟨hl, fun k hkn => ?_, fun j k hjk hkn e => ?_⟩
  · have := hk k hkn
    unfold okAt at this
    rw [Bool.and_eq_true] at this
    have := inB_t.1 this.1
    omega
  · have := hk k hkn
    unfold okAt hasL at this
    rw [Bool.and_eq_true, Bool.not_eq_true', decide_eq_false_iff_not] at this
    refine this.2 (mem_gi.2 ⟨j, by rw [List.length_take]; omega, ?_⟩)
    rw [← e]
    unfold gi; rw [List.getD_eq_getElem?_getD, List.getD_eq_getElem?_getD, List.getElem?_take, if_pos hjk]

/-- what both sides need of an order of spans -/
theorem together_facts {spans order : List Int} (h1 : spansL spans = true) (h2 : orderL order spans.length = true) :
    spans.length ≤ 6 ∧ order.length = spans.length ∧ (∀ k, k < spans.length → ∃ v : Nat, gi order k = v ∧ v < spans.length ∧ 0 ≤ gi spans v ∧ gi spans v ≤ 30) := by
  obtain ⟨a, b⟩ := spans_bound' h1
  obtain ⟨c, d, _⟩ := order_parts h2
  refine ⟨a, c, fun k hk => ⟨(gi order k).toNat, ?_, ?_, b _ ?_⟩⟩ <;> (have := d k hk; omega)

set_option maxHeartbeats 1000000 in
theorem specTogetherWaits_any (A B : Option Addr) (n m c d : Nat) (spans order : List Int) (w : World) (h : RI w A n spans) (h' : RI w B m order) (hmd : m ≤ d) :
    Calls Try.prog 33 #[.slice A n c, .slice B m d] w fun e w' => e = .returned (.int .i64 (togetherL spans order)) ∧ ∃ q, w' = w.drewN q := by
  have hc := specSpansValid_any A n c spans w h
  have hm := h.max
  cases hs : spansL spans
  · have e0 : togetherL spans order = -1 := by simp [togetherL, hs]
    rw [hs] at hc
    rw [e0]
    have HC := Lib.hid hc
    clear hc hs e0
    go_enter Try.func33, Try.ntmps33
    go_wp2_with (go_at_call 14; refine HC.out.mono ?_; rintro e w' ⟨rfl, rfl⟩)
    go_ret
    exact ⟨rfl, 0, rfl⟩
  · rw [hs] at hc
    have HC := Lib.hid hc
    have ho := specOrderOk_any B m d order n w h' hmd
    cases hor : orderL order n
    · have e0 : togetherL spans order = -1 := by simp [togetherL, h.len, hor]
      rw [e0]
      rw [hor] at ho
      have HO := Lib.hid ho
      clear hc ho e0
      go_enter Try.func33, Try.ntmps33
      go_wp2_with (first
        | (go_at_call 14; refine HC.out.mono ?_; rintro e w' ⟨rfl, rfl⟩)
        | (go_at_call 18; refine HO.out.mono ?_; rintro e w' ⟨rfl, q, rfl⟩))
      go_ret
      exact ⟨rfl, q, rfl⟩
    · have e0 : togetherL spans order = sumTo (fun k => (k : Int) * gi spans (gi order k).toNat) n := by
        unfold togetherL; rw [hs, h.len, hor]; rfl
      have hfs := together_facts hs (by rw [h.len]; exact hor)
      rw [h.len, h'.len] at hfs
      obtain ⟨hn6, hmn, hf⟩ := hfs
      subst hmn
      rw [hor] at ho
      have HO := Lib.hid ho
      have HE := Lib.hid e0
      have HF := Lib.hid hf
      have HCS := Lib.hid h.at_
      have HCO := Lib.hid h'.at_
      have hbd : ∀ k, k ≤ m → 0 ≤ sumTo (fun k => (k : Int) * gi spans (gi order k).toNat) k ∧ sumTo (fun k => (k : Int) * gi spans (gi order k).toNat) k ≤ 1080 := fun k hk => by
        have := sumTo_bound (f := fun k => (k : Int) * gi spans (gi order k).toNat) (c := 180) (n := k) fun j hj => by
          obtain ⟨v, e, hv, h0, h30⟩ := hf j (by omega)
          rw [e, Int.toNat_natCast]
          refine ⟨Int.mul_nonneg (by omega) h0, ?_⟩
          have := Int.mul_le_mul (a := (j : Int)) (b := gi spans v) (c := 6) (d := 30) (by omega) h30 h0 (by omega)
          omega
        omega
      have HB := Lib.hid hbd
      clear hc ho e0 h h' hf hbd
      go_enter Try.func33, Try.ntmps33
      go_wp2_with (first
        | (go_at_call 14; refine HC.out.mono ?_; rintro e w' ⟨rfl, rfl⟩)
        | (go_at_call 18; refine HO.out.mono ?_; rintro e w' ⟨rfl, q, rfl⟩))
      go_loop [5, 6] (fun v i => ∃ k : Nat, k ≤ m ∧ i = .int .i64 k ∧ v = .int .i64 (sumTo (fun k => (k : Int) * gi spans (gi order k).toNat) k)) (fun _ i => m - (intOf i).toNat)
      case atStart => exact ⟨0, Nat.zero_le _, rfl, rfl⟩
      case round =>
        obtain ⟨k, hk, rfl, rfl⟩ := hrel
        obtain ⟨b1, b2⟩ := HB.out k hk
        by_cases hlt : k < m
        · obtain ⟨v, hv, hvn, v0, v30⟩ := HF.out k hlt
          obtain ⟨ad, rfl, c1⟩ := HCO.out k hlt
          obtain ⟨ad2, rfl, c2⟩ := HCS.out v hvn
          rw [hv] at c1
          have hst : sumTo (fun k => (k : Int) * gi spans (gi order k).toNat) (k + 1) = sumTo (fun k => (k : Int) * gi spans (gi order k).toNat) k + (k : Int) * gi spans v := by
            rw [sumTo_succ, hv, Int.toNat_natCast]
          have m1 : 0 ≤ (k : Int) * gi spans v := Int.mul_nonneg (by omega) v0
          have m2 : (k : Int) * gi spans v ≤ 180 := by
            have := Int.mul_le_mul (a := (k : Int)) (b := gi spans v) (c := 6) (d := 30) (by omega) v30 v0 (by omega)
            omega
          have HST := Lib.hid hst
          clear hst hv
          go_wp2
          go_round
          case rel => exact ⟨k + 1, by omega, by go_num, by rw [HST.out]⟩
          case measure => simp [intOf]; omega
        · obtain rfl : k = m := by omega
          go_wp2
          go_ret
          exact ⟨ret_int HE.out.symm, q, rfl⟩

set_option maxHeartbeats 1000000 in
theorem implTogetherWaits_any (A B : Option Addr) (n m c d : Nat) (spans order : List Int) (w : World) (h : RI w A n spans) (h' : RI w B m order) (hm2 : m ≤ 1048576) :
    Calls Try.prog 34 #[.slice A n c, .slice B m d] w fun e w' => e = .returned (.int .i64 (togetherL spans order)) ∧ Le w w' := by
  have hc := implSpansValid_any A n c spans w h
  have hm := h.max
  cases hs : spansL spans
  · have e0 : togetherL spans order = -1 := by simp [togetherL, hs]
    rw [hs] at hc
    rw [e0]
    have HC := Lib.hid hc
    clear hc hs e0
    go_enter Try.func34, Try.ntmps34
    go_wp2_with (go_at_call 16; refine HC.out.mono ?_; rintro e w' ⟨rfl, rfl⟩)
    go_ret
    exact ⟨rfl, Le.refl _⟩
  · rw [hs] at hc
    have HC := Lib.hid hc
    have ho := implOrderOk_any B m d order n w h' hm2
    cases hor : orderL order n
    · have e0 : togetherL spans order = -1 := by simp [togetherL, h.len, hor]
      rw [e0]
      rw [hor] at ho
      have HO := Lib.hid ho
      clear hc ho e0
      go_enter Try.func34, Try.ntmps34
      go_wp2_with (first
        | (go_at_call 16; refine HC.out.mono ?_; rintro e w' ⟨rfl, rfl⟩)
        | (go_at_call 19; refine HO.out.mono ?_; rintro e w1 ⟨rfl, l1⟩))
      go_ret
      exact ⟨rfl, l1⟩
    · have e0 : togetherL spans order = sumTo (fun k => (k : Int) * gi spans (gi order k).toNat) n := by
        unfold togetherL; rw [hs, h.len, hor]; rfl
      have hsb := spans_bound' hs
      rw [h.len] at hsb
      have hfs := together_facts hs (by rw [h.len]; exact hor)
      rw [h.len, h'.len] at hfs
      obtain ⟨hn6, hmn, hf⟩ := hfs
      subst hmn
      have htot : sumTo (fun k => gi spans (gi order k).toNat) m = sumTo (gi spans) m := by
        obtain ⟨_, p1, p2⟩ := order_parts hor
        refine perm_sum (gi spans) (fun k => (gi order k).toNat) m (fun k hk => by have := p1 k hk; omega) fun j k hj hk e => ?_
        rcases Nat.lt_trichotomy j k with q | q | q
        · have := p2 j k q hk; have := p1 j hj; have := p1 k hk; omega
        · exact q
        · have := p2 k j q hj; have := p1 j hj; have := p1 k hk; omega
      have hw := waits_eq (fun k => gi spans (gi order k).toNat) m
      rw [htot] at hw
      have hsw : sumW (gi spans) m = sumTo (gi spans) m := sumW_eq 30 hsb.2 (by omega)
      have htb := sumTo_bound (f := gi spans) (c := 30) (n := m) hsb.2
      have hP : ∀ k, k ≤ m → 0 ≤ sumTo (fun k => gi spans (gi order k).toNat) k ∧ sumTo (fun k => gi spans (gi order k).toNat) k ≤ 180 := fun k hk => by
        have := sumTo_bound (f := fun k => gi spans (gi order k).toNat) (c := 30) (n := k) fun j hj => by
          obtain ⟨v, e, hv, h0, h30⟩ := hf j (by omega)
          rw [e, Int.toNat_natCast]; exact ⟨h0, h30⟩
        omega
      have hW : ∀ k, k ≤ m → -1080 ≤ sumTo (fun j => sumTo (gi spans) m - sumTo (fun k => gi spans (gi order k).toNat) (j + 1)) k ∧ sumTo (fun j => sumTo (gi spans) m - sumTo (fun k => gi spans (gi order k).toNat) (j + 1)) k ≤ 1080 := fun k hk => by
        have gen : ∀ k, k ≤ m → -180 * (k : Int) ≤ sumTo (fun j => sumTo (gi spans) m - sumTo (fun k => gi spans (gi order k).toNat) (j + 1)) k ∧ sumTo (fun j => sumTo (gi spans) m - sumTo (fun k => gi spans (gi order k).toNat) (j + 1)) k ≤ 180 * (k : Int) := by
          intro k
          induction k with
          | zero => intro _; simp [sumTo]
          | succ k ih =>
            intro hk
            have h1 := ih (by omega)
            have h2 := hP (k + 1) hk
            rw [sumTo_succ (fun j => sumTo (gi spans) m - sumTo (fun k => gi spans (gi order k).toNat) (j + 1))]
            omega
        have := gen k hk
        omega
      rw [hor] at ho
      have hso := fun w' (l : Le w w') => sumOf_any A m c spans w' (h.le l)
      rw [hsw] at hso
      generalize hE : sumTo (gi spans) m = E at *
      have HSO := Lib.hid hso
      have HO := Lib.hid ho
      have HE := Lib.hid (e0.trans hw.symm)
      have HF := Lib.hid hf
      have HP := Lib.hid hP
      have HW := Lib.hid hW
      have HCS := Lib.hid h.at_
      have HCO := Lib.hid h'.at_
      clear hc ho e0 h h' hf hso hP hW hw htot hsb hsw hE
      go_enter Try.func34, Try.ntmps34
      go_wp2_with fail
      refine HC.out.mono ?_; rintro e w' ⟨rfl, rfl⟩
      go_wp2_with fail
      refine HO.out.mono ?_; rintro e w1 ⟨rfl, l1⟩
      have L1 := Lib.hid l1
      clear l1
      go_wp2_with fail
      refine (HSO.out _ L1.out).mono ?_; rintro e w' ⟨rfl, rfl⟩
      go_wp2
      go_loop [6, 7, 24] (fun v u i => ∃ k : Nat, k ≤ m ∧ i = .int .i64 k ∧ u = .int .i64 (sumTo (fun k => gi spans (gi order k).toNat) k) ∧ v = .int .i64 (sumTo (fun j => E - sumTo (fun k => gi spans (gi order k).toNat) (j + 1)) k)) (fun _ _ i => m - (intOf i).toNat)
      case atStart => exact ⟨0, Nat.zero_le _, rfl, rfl, rfl⟩
      case round =>
        obtain ⟨k, hk, rfl, rfl, rfl⟩ := hrel
        obtain ⟨b1, b2⟩ := HP.out k hk
        obtain ⟨b3, b4⟩ := HW.out k hk
        by_cases hlt : k < m
        · obtain ⟨v, hv, hvn, v0, v30⟩ := HF.out k hlt
          obtain ⟨ad, rfl, c1⟩ := HCO.out k hlt
          obtain ⟨ad2, rfl, c2⟩ := HCS.out v hvn
          rw [hv] at c1
          have d1 := L1.out.cell c1
          have d2 := L1.out.cell c2
          have hst : sumTo (fun k => gi spans (gi order k).toNat) (k + 1) = sumTo (fun k => gi spans (gi order k).toNat) k + gi spans v := by
            rw [sumTo_succ, hv, Int.toNat_natCast]
          have HST := Lib.hid hst
          clear hst hv c1 c2
          go_wp2
          go_round
          case rel => exact ⟨k + 1, by omega, by go_num, by rw [HST.out], by rw [sumTo_succ (fun j => E - sumTo (fun k => gi spans (gi order k).toNat) (j + 1)), HST.out]⟩
          case measure => simp [intOf]; omega
        · obtain rfl : k = m := by omega
          go_wp2
          go_ret
          exact ⟨ret_int HE.out.symm, L1.out⟩

end Go.Proofs.Ytedopialmhpalaa
