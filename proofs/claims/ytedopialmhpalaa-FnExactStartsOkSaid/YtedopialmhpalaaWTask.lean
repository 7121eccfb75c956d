/- Walks on slices of tasks: szTaskS, toTaskS, eqTaskS. -/
import Derived.Test.YtedopialmhpalaaWSum
import Derived.StillTailTactics
namespace Go.Proofs.Ytedopialmhpalaa
open Go.RowKit

/-- the k-th task of a list -/
def gt (ts : List (Int × List Int)) (k : Nat) : Int × List Int := ts.getD k (0, [])
theorem gt_getElem? {xs : List (Int × List Int)} {k : Nat} (h : k < xs.length) : xs[k]? = some (gt xs k) := by
  unfold gt; rw [List.getD_eq_getElem?_getD, List.getElem?_eq_getElem h]; simp
theorem ext_gt {xs ys : List (Int × List Int)} (hl : xs.length = ys.length) (h : ∀ k, k < xs.length → gt xs k = gt ys k) : xs = ys := by
  apply List.ext_getElem?
  intro k
  by_cases hk : k < xs.length
  · rw [gt_getElem? hk, gt_getElem? (by omega), h k hk]
  · rw [List.getElem?_eq_none (by omega), List.getElem?_eq_none (by omega)]

/-- the slice value '.slice A n c' reads as these tasks -/
structure RT (w : World) (A : Option Addr) (n : Nat) (ts : List (Int × List Int)) : Prop where
  len : ts.length = n
  max : n ≤ 9223372036854775807
  at_ : ∀ k, k < n → ∃ ad B m c, A = some ad ∧ w.cell? (ad.add (k * 2)) = some (.int .i64 (gt ts k).1) ∧ w.cell? ⟨(ad.add (k * 2)).block, (ad.add (k * 2)).off + 1, none⟩ = some (.slice B m c) ∧ RI w B m (gt ts k).2
theorem RT.le {w w' : World} {A : Option Addr} {n : Nat} {ts : List (Int × List Int)} (h : RT w A n ts) (hb : Le w w') : RT w' A n ts :=
  ⟨h.len, h.max, fun k hk => let ⟨ad, B, m, c, e, h1, h2, h3⟩ := h.at_ k hk; ⟨ad, B, m, c, e, hb.cell h1, hb.cell h2, h3.le hb⟩⟩

/-- how many numbers the first k hold together -/
def totT (ts : List (Int × List Int)) (k : Nat) : Int := sumTo (fun j => ((gt ts j).2.length : Int)) k
theorem totT_succ (ts : List (Int × List Int)) (k : Nat) : totT ts (k + 1) = totT ts k + ((gt ts k).2.length : Int) := rfl
theorem totT_mono (ts : List (Int × List Int)) {j k : Nat} (h : j ≤ k) : totT ts j ≤ totT ts k := by
  induction k with
  | zero => rw [show j = 0 by omega]; exact Int.le_refl _
  | succ k ih =>
    rcases Nat.lt_or_ge k j with h1 | h1
    · rw [show j = k + 1 by omega]; exact Int.le_refl _
    · have := ih h1; rw [totT_succ]; omega
theorem totT_nonneg (ts : List (Int × List Int)) (k : Nat) : 0 ≤ totT ts k := by
  have := totT_mono ts (Nat.zero_le k); simpa [totT, sumTo] using this
theorem totT_one (ts : List (Int × List Int)) {j k : Nat} (h : j < k) : ((gt ts j).2.length : Int) ≤ totT ts k := by
  have h1 := totT_mono ts (show j + 1 ≤ k from h)
  have h2 := totT_nonneg ts j
  rw [totT_succ] at h1; omega
theorem sz_cases_T (ts : List (Int × List Int)) (n : Nat) : (1048576 : Int) < n + totT ts n ∨ (n ≤ 1048576 ∧ (n : Int) + totT ts n ≤ 1048576) := by
  have := totT_nonneg ts n
  omega

set_option maxHeartbeats 400000 in
theorem szIntS_ok (A : Option Addr) (n c : Nat) (left : Int) (w : World) (h1 : left ≤ 1048576) (hn : (n : Int) ≤ left) :
    Calls Try.prog 55 #[.slice A n c, .int .i64 left] w fun e w' => e = .returned (.int .i64 (left - n)) ∧ w = w' := by
  go_enter Try.func55, Try.ntmps55
  go_wp2
  go_ret
  exact ⟨rfl, rfl⟩
set_option maxHeartbeats 400000 in
theorem szIntS_no (A : Option Addr) (n c : Nat) (left : Int) (w : World) (hm : n ≤ 9223372036854775807) (h0 : 0 ≤ left) (hn : left < (n : Int)) :
    Calls Try.prog 55 #[.slice A n c, .int .i64 left] w fun e w' => e = .returned (.int .i64 (-1)) ∧ w = w' := by
  go_enter Try.func55, Try.ntmps55
  go_wp2
  go_ret
  exact ⟨rfl, rfl⟩

set_option maxHeartbeats 400000 in
theorem szTask_ok (s : Int) (A : Option Addr) (n c : Nat) (left : Int) (w : World) (h1 : left ≤ 1048576) (hn : (n : Int) ≤ left) :
    Calls Try.prog 51 #[.agg #[.int .i64 s, .slice A n c], .int .i64 left] w fun e w' => e = .returned (.int .i64 (left - n)) ∧ Le w w' := by
  go_enter Try.func51, Try.ntmps51
  go_wp2_with (go_at_call 55; refine (szIntS_ok _ _ _ _ _ h1 hn).mono ?_; rintro e w' ⟨rfl, rfl⟩)
  go_ret
  exact ⟨rfl, (Le.refl _).alloc _⟩
set_option maxHeartbeats 400000 in
theorem szTask_no (s : Int) (A : Option Addr) (n c : Nat) (left : Int) (w : World) (hm : n ≤ 9223372036854775807) (h0 : 0 ≤ left) (hn : left < (n : Int)) :
    Calls Try.prog 51 #[.agg #[.int .i64 s, .slice A n c], .int .i64 left] w fun e w' => e = .returned (.int .i64 (-1)) ∧ Le w w' := by
  go_enter Try.func51, Try.ntmps51
  go_wp2_with (go_at_call 55; refine (szIntS_no _ _ _ _ _ hm h0 hn).mono ?_; rintro e w' ⟨rfl, rfl⟩)
  go_ret
  exact ⟨rfl, (Le.refl _).alloc _⟩

set_option maxHeartbeats 1000000 in
theorem szTaskS_ok (A : Option Addr) (n c : Nat) (ts : List (Int × List Int)) (w : World) (h : RT w A n ts) (hn : n ≤ 1048576) (hz : (n : Int) + totT ts n ≤ 1048576) :
    Calls Try.prog 35 #[.slice A n c, .int .i64 1048576] w fun e w' => e = .returned (.int .i64 (1048576 - n - totT ts n)) ∧ Le w w' := by
  have HC := Lib.hid h.at_
  clear h
  go_enter Try.func35, Try.ntmps35
  go_wp2
  go_loopw [1, 5] (fun v i wr => ∃ k : Nat, k ≤ n ∧ i = .int .i64 k ∧ v = .int .i64 (1048576 - n - totT ts k) ∧ Le w wr) (fun _ i _ => n - (intOf i).toNat)
  case atStart => exact ⟨0, Nat.zero_le _, rfl, by simp [totT, sumTo], Le.refl _⟩
  case round =>
    obtain ⟨k, hk, rfl, rfl, hle⟩ := hrel
    by_cases hlt : k < n
    · obtain ⟨ad, B, m, d, rfl, c1, c2, hr⟩ := HC.out k hlt
      have d1 := hle.cell c1
      have d2 := hle.cell c2
      have t1 := totT_mono ts (show k + 1 ≤ n from hlt)
      have t2 := totT_nonneg ts k
      have t3 := totT_succ ts k
      rw [hr.len] at t3
      have t4 : (m : Int) ≤ 1048576 - n - totT ts k := by omega
      have T3 := Lib.hid t3
      have HLE := Lib.hid hle
      clear c1 c2 hr t3 hle
      go_wp2_with fail
      refine (szTask_ok _ _ _ _ _ _ (by omega) t4).mono ?_; rintro e w1 ⟨rfl, l1⟩
      have L1 := Lib.hid l1
      clear l1
      go_wp2
      go_roundw
      case rel => exact ⟨k + 1, by omega, by go_num, by rw [T3.out]; exact congrArg _ (by omega), HLE.out.trans L1.out⟩
      case measure => simp [intOf]; omega
    · obtain rfl : k = n := by omega
      go_wp2
      go_ret
      exact ⟨rfl, hle⟩

set_option maxHeartbeats 1000000 in
theorem szTaskS_no (A : Option Addr) (n c : Nat) (ts : List (Int × List Int)) (w : World) (h : RT w A n ts) (hz : 1048576 < (n : Int) + totT ts n) :
    Calls Try.prog 35 #[.slice A n c, .int .i64 1048576] w fun e w' => e = .returned (.int .i64 (-1)) ∧ Le w w' := by
  have hm := h.max
  have HC := Lib.hid h.at_
  clear h
  by_cases hn : n ≤ 1048576
  · go_enter Try.func35, Try.ntmps35
    go_wp2
    go_loopw [1, 5] (fun v i wr => ∃ k : Nat, k ≤ n ∧ i = .int .i64 k ∧ v = .int .i64 (1048576 - n - totT ts k) ∧ (n : Int) + totT ts k ≤ 1048576 ∧ Le w wr) (fun _ i _ => n - (intOf i).toNat)
    case atStart => exact ⟨0, Nat.zero_le _, rfl, by simp [totT, sumTo], by simp [totT, sumTo]; omega, Le.refl _⟩
    case round =>
      obtain ⟨k, hk, rfl, rfl, hz2, hle⟩ := hrel
      by_cases hlt : k < n
      · obtain ⟨ad, B, m, d, rfl, c1, c2, hr⟩ := HC.out k hlt
        have d1 := hle.cell c1
        have d2 := hle.cell c2
        have t2 := totT_nonneg ts k
        have t3 := totT_succ ts k
        have hmm := hr.max
        rw [hr.len] at t3
        have T3 := Lib.hid t3
        have HLE := Lib.hid hle
        clear c1 c2 hr t3 hle
        by_cases t4 : (m : Int) ≤ 1048576 - n - totT ts k
        · go_wp2_with fail
          refine (szTask_ok _ _ _ _ _ _ (by omega) t4).mono ?_; rintro e w1 ⟨rfl, l1⟩
          have L1 := Lib.hid l1
          clear l1
          go_wp2
          go_roundw
          case rel => exact ⟨k + 1, by omega, by go_num, by rw [T3.out]; exact congrArg _ (by omega), by rw [T3.out]; omega, HLE.out.trans L1.out⟩
          case measure => simp [intOf]; omega
        · go_wp2_with fail
          refine (szTask_no _ _ _ _ _ _ hmm (by omega) (by omega)).mono ?_; rintro e w1 ⟨rfl, l1⟩
          have L1 := Lib.hid l1
          clear l1
          go_wp2
          go_ret
          exact ⟨rfl, HLE.out.trans L1.out⟩
      · obtain rfl : k = n := by omega
        exfalso; omega
  · go_enter Try.func35, Try.ntmps35
    go_wp2
    go_ret
    exact ⟨rfl, Le.refl _⟩

set_option maxHeartbeats 1000000 in
theorem toTask_any (s : Int) (A : Option Addr) (n c : Nat) (xs : List Int) (w : World) (h : RI w A n xs) (hn : n ≤ 1048576) :
    Calls Try.prog 52 #[.agg #[.int .i64 s, .slice A n c]] w fun e w' => ∃ g, e = .returned (.agg #[.int .i64 s, .slice (some ⟨g, 0, none⟩) n n]) ∧ w.heap.size ≤ g ∧ BlkI w' g xs ∧ Le w w' := by
  have HR := Lib.hid h
  have hc : ∀ w', Le w w' → RI w' A n xs := fun w' l => h.le l
  have HC := Lib.hid hc
  clear h hc
  go_enter Try.func52, Try.ntmps52
  go_wp2_with fail
  refine (toIntS_any _ _ _ _ _ (HC.out _ ((((Le.refl _).alloc _).alloc _).alloc _)) hn).mono ?_; rintro e w1 ⟨rfl, b1, l1⟩
  have k2 : Blk w1 (w.heap.size + 1) 61 #[.int .i64 0, .slice none 0 0] := (Blk.alloc (by simpa using Blk.new (w.alloc _) _ _) _).le l1
  have k3 : Blk w1 (w.heap.size + 1 + 1) 61 #[.int .i64 s, .slice none 0 0] := Blk.le (by simpa using Blk.new ((w.alloc _).alloc _) _ _) l1
  have a1 := k3.cell 0
  have a2 := k3.cell 1
  have z1 := k3.frozen 0
  have z2 := k3.frozen 1
  have e1 := k2.cell 0
  have e2 := k2.cell 1
  have y1 := k2.frozen 0
  have y2 := k2.frozen 1
  have hsz : w.heap.size + 1 + 1 + 1 ≤ w1.heap.size := by have := l1.size; simp at this; omega
  have B1 := Lib.hid b1
  have L1 := Lib.hid l1
  clear b1 l1 k2 k3
  simp at a1 a2 e1 e2
  go_wp2
  have hB : BlkI w1 (w.heap.size + 1 + 1 + 1) xs := by simpa using B1.out
  refine bodyPost_ret (v := .agg #[.int .i64 s, .slice (some ⟨w.heap.size + 1 + 1 + 1, 0, none⟩) n n]) (by simp [results, Try.results52, go_sem, e1, e2]) rfl ⟨_, rfl, by omega, ?_, ?_⟩
  · exact ((Blk.far hB (by show w.heap.size + 1 + 1 + 1 ≠ w.heap.size + 1 + 1; omega) _).far (by show w.heap.size + 1 + 1 + 1 ≠ w.heap.size + 1; omega) _).far (by show w.heap.size + 1 + 1 + 1 ≠ w.heap.size + 1; omega) _
  · have l0 := ((((Le.refl w).alloc (.cells #[.int .i64 s, .slice A n c] 60)).alloc (.cells #[.int .i64 0, .slice none 0 0] 61)).alloc (.cells #[.int .i64 s, .slice none 0 0] 61)).trans L1.out
    exact ((l0.setCell (by simp; omega) _).setCell (by simp) _).setCell (by simp) _

theorem infoTask : (Try.prog.info? 61).map (fun i => (i.zero, i.size, i.bytes)) = some (some (.agg #[.int .i64 0, .slice none 0 0]), 2, 32) := by kernel_rfl

theorem made_get2' (a b : Value) (n j : Nat) (hj : j < n) : (madeCells #[a, b] n)[j]? = some (if j % 2 = 0 then a else b) := by
  have h2 : j % 2 < 2 := Nat.mod_lt _ (by omega)
  rcases Nat.lt_or_ge (j % 2) 1 with h | h
  · have : j % 2 = 0 := by omega
    simp [madeCells, hj, this]
  · have : j % 2 = 1 := by omega
    simp [madeCells, hj, this]

/-- the cells of a row of tasks, filled up to k, in a world that holds what they point to -/
def FillT (wr : World) (g : Nat) (ts : List (Int × List Int)) (cs : Array Value) (n k : Nat) : Prop :=
  cs.size = n * 2 ∧ (∀ j, j < k → cs[j * 2]? = some (.int .i64 (gt ts j).1) ∧ ∃ h, g < h ∧ cs[j * 2 + 1]? = some (.slice (some ⟨h, 0, none⟩) (gt ts j).2.length (gt ts j).2.length) ∧ BlkI wr h (gt ts j).2) ∧
    ∀ j, k ≤ j → j < n → cs[j * 2]? = some (.int .i64 0) ∧ cs[j * 2 + 1]? = some (.slice none 0 0)
theorem FillT.step {wr w1 : World} {g : Nat} {ts : List (Int × List Int)} {cs : Array Value} {n k h : Nat} (hf : FillT wr g ts cs n k) (hk : k < n) (hl : Le wr w1) (hh : g < h) (hb : BlkI w1 h (gt ts k).2) {m : Nat} (hm : (gt ts k).2.length = m) (a b : Addr) (ha : a.block = g) (hb2 : b.block = g) (u v : Value) :
    FillT ((w1.setCell a u).setCell b v) g ts ((cs.setIfInBounds (k * 2) (.int .i64 (gt ts k).1)).setIfInBounds (k * 2 + 1) (.slice (some ⟨h, 0, none⟩) m m)) n (k + 1) := by
  subst hm
  obtain ⟨h1, h2, h3⟩ := hf
  refine ⟨by simp [h1], fun j hj => ?_, fun j hj hjn => ?_⟩
  · rcases Nat.lt_or_ge j k with e | e
    · obtain ⟨q1, h', q2, q3, q4⟩ := h2 j e
      refine ⟨?_, h', q2, ?_, ?_⟩
      · rw [Array.getElem?_setIfInBounds, if_neg (by omega), Array.getElem?_setIfInBounds, if_neg (by omega)]; exact q1
      · rw [Array.getElem?_setIfInBounds, if_neg (by omega), Array.getElem?_setIfInBounds, if_neg (by omega)]; exact q3
      · exact (Blk.far (BlkI.le q4 hl) (by omega) _).far (by omega) _
    · obtain rfl : j = k := by omega
      refine ⟨?_, h, hh, ?_, (Blk.far hb (by omega) _).far (by omega) _⟩
      · rw [Array.getElem?_setIfInBounds, if_neg (by omega), Array.getElem?_setIfInBounds, if_pos rfl, if_pos (by omega)]
      · rw [Array.getElem?_setIfInBounds, if_pos rfl, if_pos (by simp; omega)]
  · obtain ⟨q1, q2⟩ := h3 j (by omega) hjn
    refine ⟨?_, ?_⟩
    · rw [Array.getElem?_setIfInBounds, if_neg (by omega), Array.getElem?_setIfInBounds, if_neg (by omega)]; exact q1
    · rw [Array.getElem?_setIfInBounds, if_neg (by omega), Array.getElem?_setIfInBounds, if_neg (by omega)]; exact q2

set_option maxHeartbeats 1000000 in
theorem toTaskS_any (A : Option Addr) (n c : Nat) (ts : List (Int × List Int)) (w : World) (h : RT w A n ts) (hn : n ≤ 1048576) (hz : (n : Int) + totT ts n ≤ 1048576) :
    Calls Try.prog 37 #[.slice A n c] w fun e w' => e = .returned (.slice (some ⟨w.heap.size, 0, none⟩) n n) ∧ RT w' (some ⟨w.heap.size, 0, none⟩) n ts ∧ True ∧ Le w w' := by
  have HL := Lib.hid h.len
  have HC := Lib.hid h.at_
  clear h
  have hmk := run_mk (P := Try.prog) 43 61 (.agg #[.int .i64 0, .slice none 0 0]) 2 32 Try.underlying43 infoTask n (by omega) (by omega)
  go_enter Try.func37, Try.ntmps37
  go_wp2
  clear hmk
  go_loopw [4] (fun i wr => ∃ k : Nat, k ≤ n ∧ i = .int .i64 k ∧ Le w wr ∧ ∃ cs, Blk wr w.heap.size 61 cs ∧ FillT wr w.heap.size ts cs n k) (fun i _ => n - (intOf i).toNat)
  case atStart =>
    refine ⟨0, Nat.zero_le _, rfl, (Le.refl _).alloc _, _, Blk.new _ _ _, made_size _ _, fun j hj => absurd hj (by omega), fun j _ hj => ⟨?_, ?_⟩⟩
    · have := made_get2' (.int .i64 0) (.slice none 0 0) (n * 2) (j * 2) (by omega)
      rw [if_pos (by omega)] at this; exact this
    · have := made_get2' (.int .i64 0) (.slice none 0 0) (n * 2) (j * 2 + 1) (by omega)
      rw [if_neg (by omega)] at this; exact this
  case round =>
    obtain ⟨k, hk, rfl, hle, cs, hblk, hfill⟩ := hrel
    by_cases hlt : k < n
    · obtain ⟨ad, B, m, d, rfl, hc1, hc2, hr⟩ := HC.out k hlt
      have c1 := hle.cell hc1
      have c2 := hle.cell hc2
      have ht1 := totT_one ts hlt
      rw [hr.len] at ht1
      have hmb : m ≤ 1048576 := by omega
      have HR := Lib.hid (hr.le hle)
      have HRL := Lib.hid hr.len
      have HF := Lib.hid hfill
      have HB := Lib.hid hblk
      have HLE := Lib.hid hle
      clear hc1 hc2 hr hfill hblk hle ht1
      go_wp2_with fail
      refine (toTask_any _ _ _ _ _ _ HR.out hmb).mono ?_; rintro e w1 ⟨g, rfl, hg, bi, l1⟩
      have b1 := HB.out.le l1
      have d1 := (b1.cell (k * 2)).trans (HF.out.2.2 k (Nat.le_refl _) hlt).1
      have d2 := (b1.cell (k * 2 + 1)).trans (HF.out.2.2 k (Nat.le_refl _) hlt).2
      have z1 := b1.frozen (k * 2)
      have z2 := b1.frozen (k * 2 + 1)
      have B1 := Lib.hid b1
      have L1 := Lib.hid l1
      have BI := Lib.hid bi
      clear b1 l1 bi
      go_wp2
      go_roundw
      case rel =>
        have hgw := HB.out.lt
        refine ⟨k + 1, by omega, by go_num, ((HLE.out.trans L1.out).setCell (Nat.le_refl _) _).setCell (Nat.le_refl _) _, _, (B1.out.set_ _ _).set_ _ _, ?_⟩
        exact HF.out.step hlt L1.out (by omega) BI.out HRL.out _ _ rfl rfl _ _
      case measure => simp [intOf]; omega
    · obtain rfl : k = n := by omega
      go_wp2
      go_ret
      refine ⟨rfl, ⟨HL.out, by omega, fun j hj => ?_⟩, trivial, hle⟩
      obtain ⟨q1, h', q2, q3, q4⟩ := hfill.2.1 j hj
      refine ⟨⟨w.heap.size, 0, none⟩, some ⟨h', 0, none⟩, (gt ts j).2.length, (gt ts j).2.length, rfl, ?_, ?_, q4.RI_ rfl (by have := totT_one ts hj; omega)⟩
      · rw [addr0, hblk.cell]; exact q1
      · rw [addr0]
        show wr.cell? ⟨w.heap.size, j * 2 + 1, none⟩ = _
        rw [hblk.cell]; exact q3

end Go.Proofs.Ytedopialmhpalaa
