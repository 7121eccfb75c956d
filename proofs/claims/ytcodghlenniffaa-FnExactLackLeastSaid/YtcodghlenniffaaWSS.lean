/- Walks on tables ([][]int): szIntSS, toIntSS, eqIntSS. -/
import Derived.Test.YtcodghlenniffaaWSum
import Derived.StillTailTactics
namespace Go.Proofs.Ytcodghlenniffaa
open Go.RowKit

/-- the k-th row of a table -/
def gl (ts : List (List Int)) (k : Nat) : List Int := ts.getD k []
theorem gl_getElem? {xs : List (List Int)} {k : Nat} (h : k < xs.length) : xs[k]? = some (gl xs k) := by
  unfold gl; rw [List.getD_eq_getElem?_getD, List.getElem?_eq_getElem h]; simp
theorem ext_gl {xs ys : List (List Int)} (hl : xs.length = ys.length) (h : ∀ k, k < xs.length → gl xs k = gl ys k) : xs = ys := by
  apply List.ext_getElem?
  intro k
  by_cases hk : k < xs.length
  · rw [gl_getElem? hk, gl_getElem? (by omega), h k hk]
  · rw [List.getElem?_eq_none (by omega), List.getElem?_eq_none (by omega)]

/-- the slice value '.slice A n c' reads as this table -/
structure RII (w : World) (A : Option Addr) (n : Nat) (ts : List (List Int)) : Prop where
  len : ts.length = n
  max : n ≤ 9223372036854775807
  at_ : ∀ k, k < n → ∃ ad B m c, A = some ad ∧ w.cell? (ad.add k) = some (.slice B m c) ∧ RI w B m (gl ts k)
theorem RII.le {w w' : World} {A : Option Addr} {n : Nat} {ts : List (List Int)} (h : RII w A n ts) (hb : Le w w') : RII w' A n ts :=
  ⟨h.len, h.max, fun k hk => let ⟨ad, B, m, c, e, h1, h2⟩ := h.at_ k hk; ⟨ad, B, m, c, e, hb.cell h1, h2.le hb⟩⟩

/-- how many numbers the first k rows hold together -/
def totL (ts : List (List Int)) (k : Nat) : Int := sumTo (fun j => ((gl ts j).length : Int)) k
theorem totL_succ (ts : List (List Int)) (k : Nat) : totL ts (k + 1) = totL ts k + ((gl ts k).length : Int) := rfl
theorem totL_mono (ts : List (List Int)) {j k : Nat} (h : j ≤ k) : totL ts j ≤ totL ts k := by
  induction k with
  | zero => rw [show j = 0 by omega]; exact Int.le_refl _
  | succ k ih =>
    rcases Nat.lt_or_ge k j with h1 | h1
    · rw [show j = k + 1 by omega]; exact Int.le_refl _
    · have := ih h1; rw [totL_succ]; omega
theorem totL_nonneg (ts : List (List Int)) (k : Nat) : 0 ≤ totL ts k := by
  have := totL_mono ts (Nat.zero_le k); simpa [totL, sumTo] using this
theorem totL_one (ts : List (List Int)) {j k : Nat} (h : j < k) : ((gl ts j).length : Int) ≤ totL ts k := by
  have h1 := totL_mono ts (show j + 1 ≤ k from h)
  have h2 := totL_nonneg ts j
  rw [totL_succ] at h1; omega

set_option maxHeartbeats 400000 in
theorem szIntS_ok (A : Option Addr) (n c : Nat) (left : Int) (w : World) (h1 : left ≤ 1048576) (hn : (n : Int) ≤ left) :
    Calls Try.prog 60 #[.slice A n c, .int .i64 left] w fun e w' => e = .returned (.int .i64 (left - n)) ∧ w = w' := by
  go_enter Try.func60, Try.ntmps60
  go_wp2
  go_ret
  exact ⟨rfl, rfl⟩
set_option maxHeartbeats 400000 in
theorem szIntS_no (A : Option Addr) (n c : Nat) (left : Int) (w : World) (hm : n ≤ 9223372036854775807) (h0 : 0 ≤ left) (hn : left < (n : Int)) :
    Calls Try.prog 60 #[.slice A n c, .int .i64 left] w fun e w' => e = .returned (.int .i64 (-1)) ∧ w = w' := by
  go_enter Try.func60, Try.ntmps60
  go_wp2
  go_ret
  exact ⟨rfl, rfl⟩

set_option maxHeartbeats 1000000 in
theorem szIntSS_ok (A : Option Addr) (n c : Nat) (left : Int) (ts : List (List Int)) (w : World) (h : RII w A n ts) (h1 : left ≤ 1048576) (hz : (n : Int) + totL ts n ≤ left) :
    Calls Try.prog 25 #[.slice A n c, .int .i64 left] w fun e w' => e = .returned (.int .i64 (left - n - totL ts n)) ∧ w = w' := by
  have HC := Lib.hid h.at_
  have h0 := totL_nonneg ts n
  clear h
  go_enter Try.func25, Try.ntmps25
  go_wp2
  go_loop [1, 5] (fun v i => ∃ k : Nat, k ≤ n ∧ i = .int .i64 k ∧ v = .int .i64 (left - n - totL ts k)) (fun _ i => n - (intOf i).toNat)
  case atStart => exact ⟨0, Nat.zero_le _, rfl, by simp [totL, sumTo]⟩
  case round =>
    obtain ⟨k, hk, rfl, rfl⟩ := hrel
    by_cases hlt : k < n
    · obtain ⟨ad, B, m, d, rfl, c1, hr⟩ := HC.out k hlt
      have t1 := totL_mono ts (show k + 1 ≤ n from hlt)
      have t2 := totL_nonneg ts k
      have t3 := totL_succ ts k
      rw [hr.len] at t3
      have t4 : (m : Int) ≤ left - n - totL ts k := by omega
      have t5 : left - n - totL ts k ≤ 1048576 := by omega
      have T3 := Lib.hid t3
      clear hr t3
      go_wp2_with (go_at_call 60; refine (szIntS_ok _ _ _ _ _ t5 t4).mono ?_; rintro e w1 ⟨rfl, rfl⟩)
      go_round
      case rel => exact ⟨k + 1, by omega, by go_num, by rw [T3.out]; exact congrArg _ (by omega)⟩
      case measure => simp [intOf]; omega
    · obtain rfl : k = n := by omega
      go_wp2
      go_ret
      exact ⟨rfl, rfl⟩

set_option maxHeartbeats 1000000 in
theorem szIntSS_no (A : Option Addr) (n c : Nat) (left : Int) (ts : List (List Int)) (w : World) (h : RII w A n ts) (h0 : 0 ≤ left) (h1 : left ≤ 1048576) (hz : left < (n : Int) + totL ts n) :
    Calls Try.prog 25 #[.slice A n c, .int .i64 left] w fun e w' => e = .returned (.int .i64 (-1)) ∧ w = w' := by
  have hm := h.max
  have HC := Lib.hid h.at_
  clear h
  by_cases hn : (n : Int) ≤ left
  · go_enter Try.func25, Try.ntmps25
    go_wp2
    go_loop [1, 5] (fun v i => ∃ k : Nat, k ≤ n ∧ i = .int .i64 k ∧ v = .int .i64 (left - n - totL ts k) ∧ (n : Int) + totL ts k ≤ left) (fun _ i => n - (intOf i).toNat)
    case atStart => exact ⟨0, Nat.zero_le _, rfl, by simp [totL, sumTo], by simp [totL, sumTo]; omega⟩
    case round =>
      obtain ⟨k, hk, rfl, rfl, hz2⟩ := hrel
      by_cases hlt : k < n
      · obtain ⟨ad, B, m, d, rfl, c1, hr⟩ := HC.out k hlt
        have t2 := totL_nonneg ts k
        have t3 := totL_succ ts k
        have hmm := hr.max
        rw [hr.len] at t3
        have T3 := Lib.hid t3
        clear hr t3
        by_cases t4 : (m : Int) ≤ left - n - totL ts k
        · have t5 : left - n - totL ts k ≤ 1048576 := by omega
          go_wp2_with (go_at_call 60; refine (szIntS_ok _ _ _ _ _ t5 t4).mono ?_; rintro e w1 ⟨rfl, rfl⟩)
          go_round
          case rel => exact ⟨k + 1, by omega, by go_num, by rw [T3.out]; exact congrArg _ (by omega), by rw [T3.out]; omega⟩
          case measure => simp [intOf]; omega
        · have t5 : 0 ≤ left - n - totL ts k := by omega
          have t6 : left - n - totL ts k < (m : Int) := by omega
          go_wp2_with (go_at_call 60; refine (szIntS_no _ _ _ _ _ hmm t5 t6).mono ?_; rintro e w1 ⟨rfl, rfl⟩)
          go_ret
          exact ⟨rfl, rfl⟩
      · obtain rfl : k = n := by omega
        exfalso; omega
  · go_enter Try.func25, Try.ntmps25
    go_wp2
    go_ret
    exact ⟨rfl, rfl⟩

theorem infoRow : (Try.prog.info? 22).map (fun i => (i.zero, i.size, i.bytes)) = some (some (.slice none 0 0), 1, 24) := by kernel_rfl

/-- the cells of a table's row of rows, filled up to k -/
def FillL (wr : World) (g : Nat) (ts : List (List Int)) (cs : Array Value) (n k : Nat) : Prop :=
  cs.size = n ∧ (∀ j, j < k → ∃ h, g < h ∧ cs[j]? = some (.slice (some ⟨h, 0, none⟩) (gl ts j).length (gl ts j).length) ∧ BlkI wr h (gl ts j)) ∧
    ∀ j, k ≤ j → j < n → cs[j]? = some (.slice none 0 0)
theorem FillL.step {wr w1 : World} {g : Nat} {ts : List (List Int)} {cs : Array Value} {n k h : Nat} (hf : FillL wr g ts cs n k) (hk : k < n) (hl : Le wr w1) (hh : g < h) (hb : BlkI w1 h (gl ts k)) {m : Nat} (hm : (gl ts k).length = m) (a : Addr) (ha : a.block = g) (u : Value) :
    FillL (w1.setCell a u) g ts (cs.setIfInBounds k (.slice (some ⟨h, 0, none⟩) m m)) n (k + 1) := by
  subst hm
  obtain ⟨h1, h2, h3⟩ := hf
  refine ⟨by simp [h1], fun j hj => ?_, fun j hj hjn => ?_⟩
  · rcases Nat.lt_or_ge j k with e | e
    · obtain ⟨h', q2, q3, q4⟩ := h2 j e
      refine ⟨h', q2, ?_, Blk.far (BlkI.le q4 hl) (by omega) _⟩
      rw [Array.getElem?_setIfInBounds, if_neg (by omega)]; exact q3
    · obtain rfl : j = k := by omega
      refine ⟨h, hh, ?_, Blk.far hb (by omega) _⟩
      rw [Array.getElem?_setIfInBounds, if_pos rfl, if_pos (by omega)]
  · rw [Array.getElem?_setIfInBounds, if_neg (by omega)]; exact h3 j (by omega) hjn

set_option maxHeartbeats 1000000 in
theorem toIntSS_any (A : Option Addr) (n c : Nat) (ts : List (List Int)) (w : World) (h : RII w A n ts) (hz : (n : Int) + totL ts n ≤ 1048576) :
    Calls Try.prog 27 #[.slice A n c] w fun e w' => e = .returned (.slice (some ⟨w.heap.size, 0, none⟩) n n) ∧ RII w' (some ⟨w.heap.size, 0, none⟩) n ts ∧ True ∧ Le w w' := by
  have HL := Lib.hid h.len
  have HC := Lib.hid h.at_
  have h0 := totL_nonneg ts n
  clear h
  have hmk := run_mk (P := Try.prog) 33 22 (.slice none 0 0) 1 24 Try.underlying33 infoRow n (by omega) (by omega)
  go_enter Try.func27, Try.ntmps27
  go_wp2
  clear hmk
  go_loopw [4] (fun i wr => ∃ k : Nat, k ≤ n ∧ i = .int .i64 k ∧ Le w wr ∧ ∃ cs, Blk wr w.heap.size 22 cs ∧ FillL wr w.heap.size ts cs n k) (fun i _ => n - (intOf i).toNat)
  case atStart =>
    refine ⟨0, Nat.zero_le _, rfl, (Le.refl _).alloc _, _, Blk.new _ _ _, by simpa using made_size #[.slice none 0 0] n, fun j hj => absurd hj (by omega), fun j _ hj => made_get _ _ _ hj⟩
  case round =>
    obtain ⟨k, hk, rfl, hle, cs, hblk, hfill⟩ := hrel
    by_cases hlt : k < n
    · obtain ⟨ad, B, m, d, rfl, hc1, hr⟩ := HC.out k hlt
      have c1 := hle.cell hc1
      have ht1 := totL_one ts hlt
      rw [hr.len] at ht1
      have hmb : m ≤ 1048576 := by omega
      have HR := Lib.hid (hr.le hle)
      have HRL := Lib.hid hr.len
      have HF := Lib.hid hfill
      have HB := Lib.hid hblk
      have HLE := Lib.hid hle
      clear hc1 hr hfill hblk hle ht1
      go_wp2_with fail
      refine (toIntS_any _ _ _ _ _ HR.out hmb).mono ?_; rintro e w1 ⟨rfl, bi, l1⟩
      have b1 := HB.out.le l1
      have d1 := (b1.cell k).trans (HF.out.2.2 k (Nat.le_refl _) hlt)
      have z1 := b1.frozen k
      have B1 := Lib.hid b1
      have L1 := Lib.hid l1
      have BI := Lib.hid bi
      clear b1 l1 bi
      go_wp2
      go_roundw
      case rel =>
        have hgw := HB.out.lt
        refine ⟨k + 1, by omega, by go_num, (HLE.out.trans L1.out).setCell (Nat.le_refl _) _, _, B1.out.set_ _ _, ?_⟩
        exact HF.out.step hlt L1.out hgw BI.out HRL.out _ rfl _
      case measure => simp [intOf]; omega
    · obtain rfl : k = n := by omega
      go_wp2
      go_ret
      refine ⟨rfl, ⟨HL.out, by omega, fun j hj => ?_⟩, trivial, hle⟩
      obtain ⟨h', q2, q3, q4⟩ := hfill.2.1 j hj
      have hb := totL_one ts hj
      refine ⟨⟨w.heap.size, 0, none⟩, some ⟨h', 0, none⟩, (gl ts j).length, (gl ts j).length, rfl, ?_, q4.RI_ rfl (by omega)⟩
      rw [addr0, hblk.cell]; exact q3

set_option maxHeartbeats 1000000 in
theorem eqIntSS_self (A B : Option Addr) (n m c d : Nat) (ts : List (List Int)) (w : World) (h : RII w A n ts) (h' : RII w B m ts) :
    Calls Try.prog 29 #[.slice A n c, .slice B m d] w fun e w' => e = .returned (.bool true) ∧ Le w w' := by
  have hm := h.max
  have hnm : n = m := by rw [← h.len, ← h'.len]
  subst hnm
  have HC := Lib.hid h.at_
  have HC2 := Lib.hid h'.at_
  clear h h'
  go_enter Try.func29, Try.ntmps29
  go_wp2
  go_loopw [5] (fun i wr => ∃ k : Nat, k ≤ n ∧ i = .int .i64 k ∧ (∃ q, wr = w.drewN q)) (fun i _ => n - (intOf i).toNat)
  case atStart => exact ⟨0, Nat.zero_le _, rfl, ⟨0, rfl⟩⟩
  case round =>
    obtain ⟨k, hk, rfl, ⟨q, rfl⟩⟩ := hrel
    by_cases hlt : k < n
    · obtain ⟨ad, B1, m1, d1, rfl, c1, hr1⟩ := HC.out k hlt
      obtain ⟨ad2, B2, m2, d2, rfl, c2, hr2⟩ := HC2.out k hlt
      have hq := fun q => eqIntS_any B1 B2 m1 m2 d1 d2 _ _ (w.drewN q) (hr1.drewN q) (hr2.drewN q)
      have e1 : eqI (gl ts k) (gl ts k) = true := by simp [eqI]
      rw [e1] at hq
      have HQ := Lib.hid hq
      clear hr1 hr2 hq e1
      go_wp2
      go_quiet ((go_at_call 19; exact quiet_ad (HQ.out _)))
      go_wp2
      go_roundw
      case rel => exact ⟨k + 1, by omega, by go_num, ⟨_, rfl⟩⟩
      case measure => simp [intOf]; omega
    · go_wp2
      go_ret
      exact ⟨rfl, (Le.refl _).drewN q⟩

end Go.Proofs.Ytcodghlenniffaa
