/- Walks on slices of Part (structs of two integers): szPartS, toPart, toPartS, eqPart, eqPartS. -/
import Derived.Test.YtoahjfofnaafaaaDoorWInt
import Derived.StillTailTactics
namespace Go.Proofs.YtoahjfofnaafaaaDoor
open Go.RowKit

theorem infoPart : (Tryd.prog.info? 80).map (fun i => (i.zero, i.size, i.bytes)) = some (some (.agg #[.int .i64 0, .int .i64 0]), 2, 16) := by kernel_rfl

/-- the block of a list of pairs -/
def BlkPart (w : World) (g : Nat) (ps : List (Int × Int)) : Prop := Blk w g 80 (pairs ps).toArray

set_option maxRecDepth 20000 in
set_option maxHeartbeats 400000 in
theorem szPartS_ok (A : Option Addr) (n c : Nat) (left : Int) (w : World) (h1 : left ≤ 1048576) (hn : (n : Int) ≤ left) :
    Calls Tryd.prog 52 #[.slice A n c, .int .i64 left] w fun e w' => e = .returned (.int .i64 (left - n)) ∧ w = w' := by
  go_enter Tryd.func52, Tryd.ntmps52
  go_wp2
  go_ret
  exact ⟨rfl, rfl⟩
set_option maxRecDepth 20000 in
set_option maxHeartbeats 400000 in
theorem szPartS_no (A : Option Addr) (n c : Nat) (left : Int) (w : World) (hm : n ≤ 9223372036854775807) (h0 : 0 ≤ left) (hn : left < (n : Int)) :
    Calls Tryd.prog 52 #[.slice A n c, .int .i64 left] w fun e w' => e = .returned (.int .i64 (-1)) ∧ w = w' := by
  go_enter Tryd.func52, Tryd.ntmps52
  go_wp2
  go_ret
  exact ⟨rfl, rfl⟩

set_option maxRecDepth 20000 in
set_option maxHeartbeats 400000 in
theorem toPart_any (a b : Int) (w : World) :
    Calls Tryd.prog 83 #[.agg #[.int .i64 a, .int .i64 b]] w fun e w' => e = .returned (.agg #[.int .i64 a, .int .i64 b]) ∧ Le w w' := by
  go_enter Tryd.func83, Tryd.ntmps83
  go_wp2
  refine bodyPost_ret (v := .agg #[.int .i64 a, .int .i64 b]) (by simp [results, Tryd.results83, go_sem]) rfl ⟨rfl, ?_⟩
  repeat (first | exact Le.refl _ | apply Le.alloc | (refine Le.setCell ?_ (by simp; try omega) _))

set_option maxRecDepth 20000 in
set_option maxHeartbeats 1000000 in
theorem toPartS_any (A : Option Addr) (n c : Nat) (ps : List (Int × Int)) (w : World) (h : RP w A n ps) (hn : n ≤ 1048576) :
    Calls Tryd.prog 55 #[.slice A n c] w fun e w' => e = .returned (.slice (some ⟨w.heap.size, 0, none⟩) n n) ∧ RP w' (some ⟨w.heap.size, 0, none⟩) n ps ∧ BlkPart w' w.heap.size ps ∧ Le w w' := by
  have HL := Lib.hid h.len
  have HC := Lib.hid h.at_
  clear h
  have hmk := run_mk (P := Tryd.prog) 24 80 (.agg #[.int .i64 0, .int .i64 0]) 2 16 Tryd.underlying24 infoPart n (by omega) (by omega)
  go_enter Tryd.func55, Tryd.ntmps55
  go_wp2
  clear hmk
  go_loopw [4] (fun i wr => ∃ k : Nat, k ≤ n ∧ i = .int .i64 k ∧ Le w wr ∧ ∃ cs, Blk wr w.heap.size 80 cs ∧ Filled cs (n * 2) (cellP ps) (fun _ => .int .i64 0) (k * 2)) (fun i _ => n - (intOf i).toNat)
  case atStart =>
    refine ⟨0, Nat.zero_le _, rfl, (Le.refl _).alloc _, _, Blk.new _ _ _, ?_⟩
    exact Filled.start _ (made_size _ _) (fun j hj => made_get2 _ _ rfl _ j hj)
  case round =>
    obtain ⟨k, hk, rfl, hle, cs, hblk, hfill⟩ := hrel
    by_cases hlt : k < n
    · obtain ⟨ad, rfl, hc1, hc2⟩ := HC.out k hlt
      have c1 := hle.cell hc1
      have c2 := hle.cell hc2
      clear hc1 hc2
      have HF := Lib.hid hfill
      have HB := Lib.hid hblk
      have HLE := Lib.hid hle
      clear hfill hblk hle
      go_wp2_with fail
      refine (toPart_any _ _ _).mono ?_; rintro e w1 ⟨rfl, l1⟩
      have b1 := HB.out.le l1
      have d1 := (b1.cell (k * 2)).trans (HF.out.now (by omega))
      have d2 := (b1.cell (k * 2 + 1)).trans (HF.out.2.2 (k * 2 + 1) (by omega) (by omega))
      have z1 := b1.frozen (k * 2)
      have z2 := b1.frozen (k * 2 + 1)
      have B1 := Lib.hid b1
      have L1 := Lib.hid l1
      clear b1 l1
      go_wp2
      go_roundw
      case rel =>
        refine ⟨k + 1, by omega, by go_num, ((HLE.out.trans L1.out).setCell (Nat.le_refl _) _).setCell (Nat.le_refl _) _, _, (B1.out.set_ _ _).set_ _ _, ?_⟩
        rw [show (k + 1) * 2 = k * 2 + 1 + 1 by omega]
        exact (HF.out.set_ (by omega) (cellP_0 ps k).symm).set_ (by omega) (cellP_1 ps k).symm
      case measure => simp [intOf]; omega
    · go_wp2
      go_ret
      have e := hfill.toList (by omega) (pairs ps) (by rw [pairs_length, HL.out]) (fun j hj => pairs_getElem? (by rw [HL.out]; exact hj))
      subst e
      exact ⟨rfl, hblk.RP_ HL.out (by omega), hblk, hle⟩

set_option maxRecDepth 20000 in
set_option maxHeartbeats 400000 in
theorem eqPart_any (p q : Int × Int) (w : World) :
    Calls Tryd.prog 84 #[.agg #[.int .i64 p.1, .int .i64 p.2], .agg #[.int .i64 q.1, .int .i64 q.2]] w fun e w' => e = .returned (.bool (decide (p = q))) ∧ Le w w' := by
  by_cases h1 : p.1 = q.1
  · have b1 : (p.1 != q.1) = false := by simp [h1]
    by_cases h2 : p.2 = q.2
    · have b2 : (p.2 != q.2) = false := by simp [h2]
      have e : p = q := Prod.ext h1 h2
      subst e
      clear h1 h2
      go_enter Tryd.func84, Tryd.ntmps84
      go_wp2
      go_ret
      exact ⟨by simp, ((Le.refl _).alloc _).alloc _⟩
    · have b2 : (p.2 != q.2) = true := by simp [h2]
      have e : p ≠ q := fun e => h2 (by rw [e])
      have E := Lib.hid e
      clear h1 h2 e
      go_enter Tryd.func84, Tryd.ntmps84
      go_wp2
      go_ret
      exact ⟨by simp [E.out], ((Le.refl _).alloc _).alloc _⟩
  · have b1 : (p.1 != q.1) = true := by simp [h1]
    have e : p ≠ q := fun e => h1 (by rw [e])
    have E := Lib.hid e
    clear h1 e
    go_enter Tryd.func84, Tryd.ntmps84
    go_wp2
    go_ret
    exact ⟨by simp [E.out], ((Le.refl _).alloc _).alloc _⟩

set_option maxRecDepth 20000 in
set_option maxHeartbeats 1000000 in
theorem eqPartS_any (A B : Option Addr) (n m c d : Nat) (ps qs : List (Int × Int)) (w : World) (h : RP w A n ps) (h' : RP w B m qs) :
    Calls Tryd.prog 56 #[.slice A n c, .slice B m d] w fun e w' => e = .returned (.bool (decide (ps = qs))) ∧ Le w w' := by
  have hm := h.max
  have HL := Lib.hid h.len
  have HC := Lib.hid h.at_
  have HL2 := Lib.hid h'.len
  have HC2 := Lib.hid h'.at_
  clear h h'
  by_cases hnm : n = m
  · subst hnm
    go_enter Tryd.func56, Tryd.ntmps56
    go_wp2
    go_loopw [5] (fun i wr => ∃ k : Nat, k ≤ n ∧ i = .int .i64 k ∧ Le w wr ∧ AllTo (fun j => decide (gp ps j = gp qs j)) k) (fun i _ => n - (intOf i).toNat)
    case atStart => exact ⟨0, Nat.zero_le _, rfl, Le.refl _, AllTo.zero _⟩
    case round =>
      obtain ⟨k, hk, rfl, hle, hin⟩ := hrel
      by_cases hlt : k < n
      · obtain ⟨ad, rfl, hc1, hc2⟩ := HC.out k hlt
        obtain ⟨ad2, rfl, hc3, hc4⟩ := HC2.out k hlt
        have c1 := hle.cell hc1
        have c2 := hle.cell hc2
        have c3 := hle.cell hc3
        have c4 := hle.cell hc4
        clear hc1 hc2 hc3 hc4
        have HLE := Lib.hid hle
        clear hle
        cases hb : decide (gp ps k = gp qs k)
        · go_wp2
          go_still_tail 8, (by kernel_rfl)
          change wpList _ _ _ _ _ wr.drew
          go_wp2_with fail
          refine (eqPart_any _ _ _).mono ?_; rintro e w1 ⟨rfl, l1⟩
          rw [hb]
          have L1 := Lib.hid l1
          clear l1
          go_wp2
          go_ret
          refine ⟨ret_bool ?_, HLE.out.drew.trans L1.out⟩
          have : ps ≠ qs := fun e => by
            have := of_decide_eq_false hb
            exact this (by rw [e])
          simp [this]
        · go_wp2
          go_still_tail 8, (by kernel_rfl)
          change wpList _ _ _ _ _ wr.drew
          go_wp2_with fail
          refine (eqPart_any _ _ _).mono ?_; rintro e w1 ⟨rfl, l1⟩
          rw [hb]
          have L1 := Lib.hid l1
          clear l1
          go_wp2
          go_roundw
          case rel => exact ⟨k + 1, by omega, by go_num, HLE.out.drew.trans L1.out, hin.succ hb⟩
          case measure => simp [intOf]; omega
      · go_wp2
        go_ret
        refine ⟨ret_bool ?_, hle⟩
        have : ps = qs := ext_gp (by rw [HL.out, HL2.out]) fun j hj => by simpa using hin.at_ hlt (by rw [← HL.out]; exact hj)
        simp [this]
  · have hne : ((n : Int) != (m : Int)) = true := by rw [bne_iff_ne]; omega
    go_enter Tryd.func56, Tryd.ntmps56
    go_wp2
    go_ret
    refine ⟨ret_bool ?_, Le.refl _⟩
    have : ps ≠ qs := fun e => hnm (by rw [← HL.out, ← HL2.out, e])
    simp [this]

theorem eqPartS_self (A B : Option Addr) (n m c d : Nat) (ps : List (Int × Int)) (w : World) (h : RP w A n ps) (h' : RP w B m ps) :
    Calls Tryd.prog 56 #[.slice A n c, .slice B m d] w fun e w' => e = .returned (.bool true) ∧ Le w w' := by
  have := eqPartS_any A B n m c d ps ps w h h'
  rwa [show decide (ps = ps) = true by simp] at this

end Go.Proofs.YtoahjfofnaafaaaDoor
