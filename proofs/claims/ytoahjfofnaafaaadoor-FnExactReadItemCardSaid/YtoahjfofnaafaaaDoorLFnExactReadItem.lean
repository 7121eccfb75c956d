/- Walk: FnExactReadItem: both sides read one item; what is handed back is new. -/
import Derived.Test.YtoahjfofnaafaaaDoorWRdS
import Derived.Test.YtoahjfofnaafaaaDoorWMPart
import Derived.Test.YtoahjfofnaafaaaDoorWItem
namespace Go.Proofs.YtoahjfofnaafaaaDoor
open Go.RowKit

set_option maxRecDepth 20000 in
set_option maxHeartbeats 1000000 in
theorem markItem_own (y : Int) (A : Option Addr) (n c base : Nat) (mk : Int) (ps : List (Int × Int)) (m : Int) (w : World) (hn : n ≤ 1048576) (hm0 : 0 ≤ m) (hm1 : m ≤ 1073741824)
    (h : w.ownsRow base 80 2 (.slice A n c) n (pairs ps)) :
    Calls Tryd.prog 37 #[.agg #[.int .i64 y, .slice A n c, .int .i64 mk], .int .i64 m] w fun e w' => e = .returned (.int .i64 (m + 2 * n)) ∧ w'.ownsRow base 80 2 (.slice A n c) n (pairs (upP m n)) ∧ ∃ wa, Le w wa ∧ wa.grownBy w' (Value.ownBlock (.slice A n c)) := by
  have la := (Le.refl w).alloc (.cells #[.int .i64 y, .slice A n c, .int .i64 mk] 26)
  have HM := Lib.hid (markPartS_own A n c base ps m _ (own_Le h la) hn hm0 hm1)
  have LA := Lib.hid la
  clear h la
  go_enter Tryd.func37, Tryd.ntmps37
  go_wp2_with fail
  refine HM.out.mono ?_; rintro e w1 ⟨rfl, o1, g1⟩
  go_wp2
  go_ret
  exact ⟨rfl, o1, _, LA.out, g1⟩
set_option maxRecDepth 20000 in
set_option maxHeartbeats 1000000 in
theorem heldItem_any (y : Int) (A : Option Addr) (n c : Nat) (mk : Int) (m : Int) (w : World) (h : RP w A n (upP m n)) (hn : n ≤ 1048576) (hm0 : 0 ≤ m) (hm1 : m ≤ 1073741824) :
    Calls Tryd.prog 38 #[.agg #[.int .i64 y, .slice A n c, .int .i64 mk], .int .i64 m] w fun e w' => e = .returned (.int .i64 (m + 2 * n)) ∧ Le w w' := by
  have la := (Le.refl w).alloc (.cells #[.int .i64 y, .slice A n c, .int .i64 mk] 26)
  have HM := Lib.hid (heldPartS_any A n c m _ (h.le la) hn hm0 hm1)
  have LA := Lib.hid la
  have hz : ¬ m + 2 * (n : Int) < 0 := by omega
  clear h la
  go_enter Tryd.func38, Tryd.ntmps38
  go_wp2_with fail
  refine HM.out.mono ?_; rintro e w1 ⟨rfl, rfl⟩
  go_wp2
  go_ret
  exact ⟨rfl, LA.out⟩
set_option maxRecDepth 20000 in
set_option maxHeartbeats 8000000 in
theorem law_FnExactReadItem (w : World) (s : ByteArray) (hcm : CM w) :
    Calls Tryd.prog 10 #[.string s] w fun e w' => e = .returned (.bool true) ∧ Le w w' := by
  obtain ⟨l, rfl⟩ : ∃ l : Bs, s = ⟨l.toArray⟩ := ⟨s.data.toList, by simp⟩
  obtain ⟨n0, hn0⟩ : ∃ n, l.length = n := ⟨_, rfl⟩
  have hsz : (⟨l.toArray⟩ : ByteArray).size = n0 := hn0
  have HS := Lib.hid (fun (h : n0 ≤ 1048577) => specReadItem_any l (by omega) w)
  have HI := Lib.hid (fun (h : n0 ≤ 1048577) w' (q : Le w w') => implReadItem_any l (by omega) w' (hcm.le q))
  rw [← read_agree] at HS
  obtain ⟨o, ho⟩ : ∃ o, readI l = o := ⟨_, rfl⟩
  rw [ho] at HS HI
  have HO3 := Lib.hid (show (o.getD (0, [], 0)).2.1.length ≤ 3 from by
    rw [← ho]
    cases hr : readI l with
    | none => exact Nat.zero_le _
    | some x => exact (item_small (readI_some hr).1).2.2.1)
  obtain ⟨S, hS⟩ : ∃ S : ByteArray, ⟨l.toArray⟩ = S := ⟨_, rfl⟩
  rw [hS] at HS HI hsz ⊢
  clear ho hS hcm hn0
  by_cases hn : 1048576 < n0
  · have hn' : (1048576 : Int) < (n0 : Int) := by omega
    go_enter Tryd.func10, Tryd.ntmps10
    go_wp2
    go_ret
    exact ⟨rfl, Le.refl _⟩
  have hn' : ¬ (1048576 : Int) < (n0 : Int) := by omega
  go_enter Tryd.func10, Tryd.ntmps10
  go_wp2_with fail
  refine (HS.out (by omega)).mono ?_; rintro e w1 ⟨y, v, mk, ps, rfl, ho, o1, l1⟩
  obtain ⟨A, c, rfl, r1⟩ := own_RP o1 (own_max o1)
  have hn3 : ps.length ≤ 3 := by have := HO3.out; rw [ho] at this; exact this
  obtain ⟨n, hpn⟩ : ∃ n, ps.length = n := ⟨_, rfl⟩
  rw [hpn] at r1 o1 hn3 ⊢
  have la := (Le.refl w1).alloc (.cells #[.int .i64 y, .slice A n c, .int .i64 mk] 26)
  have k3 := Blk.new w1 26 #[.int .i64 y, .slice A n c, .int .i64 mk]
  obtain ⟨w2, hw2⟩ : ∃ w2, w1.alloc (.cells #[.int .i64 y, .slice A n c, .int .i64 mk] 26) = w2 := ⟨_, rfl⟩
  rw [hw2] at la k3
  obtain ⟨b3, hb3⟩ : ∃ b, w1.heap.size = b := ⟨_, rfl⟩
  rw [hb3] at k3
  have L2 := Lib.hid (l1.trans la)
  have K3 := Lib.hid (fun w' (q : Le w2 w') => k3.le q)
  have R1 := Lib.hid (fun w' (q : Le w2 w') => (r1.le la).le q)
  have HN := Lib.hid hpn
  clear l1 la k3 o1 r1
  go_wp2_with fail
  refine (HI.out (by omega) _ L2.out).mono ?_; rintro e w3 ⟨y', v', mk', ps', rfl, ho', o3, l3⟩
  clear hw2 hb3
  have he := ho.symm.trans ho'
  have HO := Lib.hid ho
  injection he with e1 e2
  injection e2 with e2 e3
  subst e1; subst e2; subst e3
  obtain ⟨A3, c3, rfl, _⟩ := own_RP o3 (own_max o3)
  rw [hpn] at o3 ⊢
  have lb := (Le.refl w3).alloc (.cells #[.int .i64 y, .slice A3 n c3, .int .i64 mk] 26)
  have k5 := Blk.new w3 26 #[.int .i64 y, .slice A3 n c3, .int .i64 mk]
  have hrow : ∀ q, (Value.slice A3 n c3).ownBlock = some q → w2.heap.size ≤ q ∧ q < w3.heap.size := fun q hq => o3.lt q hq
  obtain ⟨w4, hw4⟩ : ∃ w4, w3.alloc (.cells #[.int .i64 y, .slice A3 n c3, .int .i64 mk] 26) = w4 := ⟨_, rfl⟩
  rw [hw4] at lb k5
  obtain ⟨b5, hb5⟩ : ∃ b, w3.heap.size = b := ⟨_, rfl⟩
  rw [hb5] at k5 hrow
  have M4 := Lib.hid (l3.trans lb)
  have O4 := Lib.hid (fun w' (q : Le w4 w') => own_Le (own_Le o3 lb) q)
  have K5 := Lib.hid (fun w' (q : Le w4 w') => k5.le q)
  have HRW := Lib.hid hrow
  have a0 := (K3.out _ M4.out).cell 0
  have a1 := (K3.out _ M4.out).cell 1
  have a2 := (K3.out _ M4.out).cell 2
  have c0 := k5.cell 0
  have c1 := k5.cell 1
  have c2 := k5.cell 2
  simp at a0 a1 a2 c0 c1 c2
  have hbb : (o.isSome != o.isSome) = false := by simp
  clear ho ho' l3 lb k5 o3 hrow
  go_wp2_with fail
  refine (eqItem_self _ _ _ _ _ _ _ _ ps _ (own_RP2 (O4.out _ (Le.refl _)) (by omega)) (R1.out _ M4.out)).mono ?_; rintro e w5 ⟨rfl, l5⟩
  have N5 := Lib.hid l5
  have M5 := Lib.hid (M4.out.trans l5)
  clear l5 a0 a1 a2 c0 c1 c2 hw4 hb5
  have c0 := (K5.out _ N5.out).cell 0
  have c1 := (K5.out _ N5.out).cell 1
  have c2 := (K5.out _ N5.out).cell 2
  simp at c0 c1 c2
  go_wp2_with fail
  refine (markItem_own _ _ _ _ _ _ ps 1 _ (by omega) (by omega) (by omega) (O4.out _ N5.out)).mono ?_; rintro e w6 ⟨rfl, o6, wa, lwa, g6⟩
  have M6 := Lib.hid ((M5.out.trans lwa).grown g6 (fun q hq => (HRW.out q hq).1))
  have K6 := Lib.hid (fun w' (q : Le w6 w') => (((K5.out _ N5.out).le lwa).grown g6 (fun e => by have := (HRW.out _ e.symm).2; omega)).le q)
  have R6 := Lib.hid (fun w' (q : Le w6 w') => (own_RP2 o6 (by omega)).le q)
  clear c0 c1 c2 o6 lwa g6
  have c0 := (K6.out _ (Le.refl _)).cell 0
  have c1 := (K6.out _ (Le.refl _)).cell 1
  have c2 := (K6.out _ (Le.refl _)).cell 2
  simp at c0 c1 c2
  have hq0 : ¬ (1 + 2 * (n : Int)) < 0 := by omega
  have hqq : ((1 + 2 * (n : Int)) != (1 + 2 * (n : Int))) = false := by simp
  go_wp2_with fail
  refine (heldItem_any _ _ _ _ _ 1 _ (R6.out _ (Le.refl _)) (by omega) (by omega) (by omega)).mono ?_; rintro e w7 ⟨rfl, l7⟩
  have N7 := Lib.hid l7
  have M7 := Lib.hid (M6.out.trans l7)
  clear l7 c0 c1 c2
  go_wp2_with fail
  refine (HI.out (by omega) _ (L2.out.trans M7.out)).mono ?_; rintro e w8 ⟨y8, v8, mk8, ps8, rfl, ho8, o8, l8⟩
  have he := HO.out.symm.trans ho8
  injection he with e1 e2
  injection e2 with e2 e3
  subst e1; subst e2; subst e3
  obtain ⟨A8, c8, rfl, r8⟩ := own_RP o8 (own_max o8)
  rw [hpn] at r8 ⊢
  have lb := (Le.refl w8).alloc (.cells #[.int .i64 y, .slice A8 n c8, .int .i64 mk] 26)
  have k9 := Blk.new w8 26 #[.int .i64 y, .slice A8 n c8, .int .i64 mk]
  obtain ⟨w9, hw9⟩ : ∃ w9, w8.alloc (.cells #[.int .i64 y, .slice A8 n c8, .int .i64 mk] 26) = w9 := ⟨_, rfl⟩
  rw [hw9] at lb k9
  obtain ⟨b9, hb9⟩ : ∃ b, w8.heap.size = b := ⟨_, rfl⟩
  rw [hb9] at k9
  have N9 := Lib.hid (N7.out.trans (l8.trans lb))
  have M9 := Lib.hid (M7.out.trans (l8.trans lb))
  have R9 := Lib.hid (r8.le lb)
  have a0 := (K3.out _ M9.out).cell 0
  have a1 := (K3.out _ M9.out).cell 1
  have a2 := (K3.out _ M9.out).cell 2
  have c0 := k9.cell 0
  have c1 := k9.cell 1
  have c2 := k9.cell 2
  simp at a0 a1 a2 c0 c1 c2
  clear ho8 o8 l8 r8 lb k9
  go_wp2_with fail
  refine (eqItem_self _ _ _ _ _ _ _ _ ps _ R9.out (R1.out _ M9.out)).mono ?_; rintro e w10 ⟨rfl, l10⟩
  have N10 := Lib.hid (N9.out.trans l10)
  have M10 := Lib.hid (M9.out.trans l10)
  clear l10 a0 a1 a2 c0 c1 c2 hw9 hb9
  have c0 := (K6.out _ N10.out).cell 0
  have c1 := (K6.out _ N10.out).cell 1
  have c2 := (K6.out _ N10.out).cell 2
  simp at c0 c1 c2
  go_wp2_with fail
  refine (heldItem_any _ _ _ _ _ 1 _ (R6.out _ N10.out) (by omega) (by omega) (by omega)).mono ?_; rintro e w11 ⟨rfl, l11⟩
  go_wp2
  go_ret
  exact ⟨rfl, L2.out.trans (M10.out.trans l11)⟩
end Go.Proofs.YtoahjfofnaafaaaDoor
