/- The draws of lots and wants. -/
import Derived.Test.YteeklaplnhafoaaDoorWLaw
namespace Go.Proofs.YteeklaplnhafoaaDoor
open Go.RowKit

theorem results_tmp3 {fn : Func} {t u v : Tmp} (h : fn.results = #[.tmp t, .tmp u, .tmp v]) (tmps : Array Value) (P : Program) (w : World) :
    (results fn tmps).run P w = .ok (.tuple #[tmps.getD t undef, tmps.getD u undef, tmps.getD v undef]) w := by
  simp [results, h]

theorem DL.base {b b' : Nat} {w : World} {gv cap k : Nat} {ps : List (Int × Int)} (h : DL b w gv cap k ps) (hb : b' ≤ b) : DL b' w gv cap k ps := ⟨h.len, h.small, h.kcap, h.capm, own_mono h.own hb⟩
theorem DI.base {b b' : Nat} {w : World} {gv cap k : Nat} {xs : List Int} (h : DI b w gv cap k xs) (hb : b' ≤ b) : DI b' w gv cap k xs := ⟨h.len, h.small, h.kcap, h.capm, own_mono h.own hb⟩
set_option maxRecDepth 20000 in
set_option maxHeartbeats 1000000 in
theorem drawSpoilLeast_any (A : Option Addr) (n c : Nat) (w : World) (h : RB w A n) (hc : n ≤ c) :
    Calls Tryd.prog 16 #[.slice A n c] w fun e w' => ∃ gv cap k ps gx capx m xs, e = .returned (.tuple #[.slice (some ⟨gv, 0, none⟩) k cap, .slice (some ⟨gx, 0, none⟩) m capx]) ∧ DL w.heap.size w' gv cap k ps ∧ DI w.heap.size w' gx capx m xs ∧ Le w w' := by
  have HO := Lib.hid (open_any A n c w h hc)
  clear h
  go_enter Tryd.func16, Tryd.ntmps16
  go_wp2_with fail
  refine HO.out.mono ?_; rintro e w1 ⟨rfl, r1⟩
  have HL := Lib.hid (both_any _ _ _ _ _ _ _ r1 (by omega) (w.heap.size + 1) (Nat.le_refl _) r1.lt)
  clear r1
  go_wp2_with fail
  refine HL.out.mono ?_; rintro e w2 ⟨gv, cap, k, ps, gx, capx, m, xs, q, rfl, d2, i2, r2, _, _⟩
  have D2 := Lib.hid d2
  have I2 := Lib.hid i2
  have R2 := Lib.hid r2
  clear d2 i2 r2
  go_wp2
  go_ret2
  exact ⟨gv, cap, k, ps, gx, capx, m, xs, rfl, D2.out.base (by omega), I2.out.base (by omega), R2.out.le⟩

set_option maxRecDepth 20000 in
set_option maxHeartbeats 1000000 in
theorem drawLackLeast_any (A : Option Addr) (n c : Nat) (w : World) (h : RB w A n) (hc : n ≤ c) :
    Calls Tryd.prog 51 #[.slice A n c] w fun e w' => ∃ gv cap k ps gx capx m xs, e = .returned (.tuple #[.slice (some ⟨gv, 0, none⟩) k cap, .slice (some ⟨gx, 0, none⟩) m capx]) ∧ DL w.heap.size w' gv cap k ps ∧ DI w.heap.size w' gx capx m xs ∧ Le w w' := by
  have HO := Lib.hid (open_any A n c w h hc)
  clear h
  go_enter Tryd.func51, Tryd.ntmps51
  go_wp2_with fail
  refine HO.out.mono ?_; rintro e w1 ⟨rfl, r1⟩
  have HL := Lib.hid (both_any _ _ _ _ _ _ _ r1 (by omega) (w.heap.size + 1) (Nat.le_refl _) r1.lt)
  clear r1
  go_wp2_with fail
  refine HL.out.mono ?_; rintro e w2 ⟨gv, cap, k, ps, gx, capx, m, xs, q, rfl, d2, i2, r2, _, _⟩
  have D2 := Lib.hid d2
  have I2 := Lib.hid i2
  have R2 := Lib.hid r2
  clear d2 i2 r2
  go_wp2
  go_ret2
  exact ⟨gv, cap, k, ps, gx, capx, m, xs, rfl, D2.out.base (by omega), I2.out.base (by omega), R2.out.le⟩

set_option maxRecDepth 20000 in
set_option maxHeartbeats 1000000 in
theorem drawUseMost_any (A : Option Addr) (n c : Nat) (w : World) (h : RB w A n) (hc : n ≤ c) :
    Calls Tryd.prog 54 #[.slice A n c] w fun e w' => ∃ gv cap k ps gx capx m xs, e = .returned (.tuple #[.slice (some ⟨gv, 0, none⟩) k cap, .slice (some ⟨gx, 0, none⟩) m capx]) ∧ DL w.heap.size w' gv cap k ps ∧ DI w.heap.size w' gx capx m xs ∧ Le w w' := by
  have HO := Lib.hid (open_any A n c w h hc)
  clear h
  go_enter Tryd.func54, Tryd.ntmps54
  go_wp2_with fail
  refine HO.out.mono ?_; rintro e w1 ⟨rfl, r1⟩
  have HL := Lib.hid (both_any _ _ _ _ _ _ _ r1 (by omega) (w.heap.size + 1) (Nat.le_refl _) r1.lt)
  clear r1
  go_wp2_with fail
  refine HL.out.mono ?_; rintro e w2 ⟨gv, cap, k, ps, gx, capx, m, xs, q, rfl, d2, i2, r2, _, _⟩
  have D2 := Lib.hid d2
  have I2 := Lib.hid i2
  have R2 := Lib.hid r2
  clear d2 i2 r2
  go_wp2
  go_ret2
  exact ⟨gv, cap, k, ps, gx, capx, m, xs, rfl, D2.out.base (by omega), I2.out.base (by omega), R2.out.le⟩

set_option maxRecDepth 20000 in
set_option maxHeartbeats 1000000 in
theorem drawUseFirst_any (A : Option Addr) (n c : Nat) (w : World) (h : RB w A n) (hc : n ≤ c) :
    Calls Tryd.prog 56 #[.slice A n c] w fun e w' => ∃ gv cap k ps gx capx m xs, e = .returned (.tuple #[.slice (some ⟨gv, 0, none⟩) k cap, .slice (some ⟨gx, 0, none⟩) m capx]) ∧ DL w.heap.size w' gv cap k ps ∧ DI w.heap.size w' gx capx m xs ∧ Le w w' := by
  have HO := Lib.hid (open_any A n c w h hc)
  clear h
  go_enter Tryd.func56, Tryd.ntmps56
  go_wp2_with fail
  refine HO.out.mono ?_; rintro e w1 ⟨rfl, r1⟩
  have HL := Lib.hid (both_any _ _ _ _ _ _ _ r1 (by omega) (w.heap.size + 1) (Nat.le_refl _) r1.lt)
  clear r1
  go_wp2_with fail
  refine HL.out.mono ?_; rintro e w2 ⟨gv, cap, k, ps, gx, capx, m, xs, q, rfl, d2, i2, r2, _, _⟩
  have D2 := Lib.hid d2
  have I2 := Lib.hid i2
  have R2 := Lib.hid r2
  clear d2 i2 r2
  go_wp2
  go_ret2
  exact ⟨gv, cap, k, ps, gx, capx, m, xs, rfl, D2.out.base (by omega), I2.out.base (by omega), R2.out.le⟩

set_option maxRecDepth 20000 in
set_option maxHeartbeats 1000000 in
theorem drawUseBound_any (A : Option Addr) (n c : Nat) (w : World) (h : RB w A n) (hc : n ≤ c) :
    Calls Tryd.prog 49 #[.slice A n c] w fun e w' => ∃ gv cap k ps gx capx m xs, ∃ day : Int, e = .returned (.tuple #[.slice (some ⟨gv, 0, none⟩) k cap, .slice (some ⟨gx, 0, none⟩) m capx, .int .i64 day]) ∧ DL w.heap.size w' gv cap k ps ∧ DI w.heap.size w' gx capx m xs ∧ (-1 ≤ day ∧ day ≤ 7) ∧ Le w w' := by
  have HO := Lib.hid (open_any A n c w h hc)
  clear h
  go_enter Tryd.func49, Tryd.ntmps49
  go_wp2_with fail
  refine HO.out.mono ?_; rintro e w1 ⟨rfl, r1⟩
  have HL := Lib.hid (both_any _ _ _ _ _ _ _ r1 (by omega) (w.heap.size + 1) (Nat.le_refl _) r1.lt)
  clear r1
  go_wp2_with fail
  refine HL.out.mono ?_; rintro e w2 ⟨gv, cap, k, ps, gx, capx, m, xs, q, rfl, d2, i2, r2, q2, _⟩
  have HP := Lib.hid (pick_any _ _ _ _ _ _ _ 9 r2 (by omega) (by omega) (by omega))
  have D2 := Lib.hid d2
  have I2 := Lib.hid i2
  clear d2 i2 r2
  go_wp2_with fail
  refine HP.out.mono ?_; rintro e w3 ⟨x, rfl, hx, r3, c3⟩
  have R3 := Lib.hid r3
  have C3 := Lib.hid c3
  clear r3 c3
  go_wp2
  (try simp only [Exit.inBlock, Exit.then])
  refine bodyPost_ret (results_tmp3 rfl _ _ _) rfl ?_
  exact ⟨gv, cap, k, ps, gx, capx, m, xs, (x : Int) - 1, rfl, (D2.out.chg C3.out (Nat.le_refl _)).base (by omega), (I2.out.chg C3.out (Nat.le_refl _)).base (by omega), by omega, R3.out.le⟩

set_option maxRecDepth 20000 in
set_option maxHeartbeats 2000000 in
theorem drawTakeFirst_any (A : Option Addr) (n c : Nat) (w : World) (h : RB w A n) (hc : n ≤ c) :
    Calls Tryd.prog 45 #[.slice A n c] w fun e w' => ∃ gv cap k ps, ∃ day want : Int, e = .returned (.tuple #[.slice (some ⟨gv, 0, none⟩) k cap, .int .i64 day, .int .i64 want]) ∧ DL w.heap.size w' gv cap k ps ∧ (-1 ≤ day ∧ day ≤ 6) ∧ (-40 ≤ want ∧ want ≤ 60) ∧ Le w w' := by
  have HO := Lib.hid (open_any A n c w h hc)
  clear h
  go_enter Tryd.func45, Tryd.ntmps45
  go_wp2_with fail
  refine HO.out.mono ?_; rintro e w1 ⟨rfl, r1⟩
  have HL := Lib.hid (lots_dl _ _ _ _ _ _ _ 9 r1 (by omega) (by omega) (by omega) (w.heap.size + 1) r1.lt)
  clear r1
  go_wp2_with fail
  refine HL.out.mono ?_; rintro e w2 ⟨gv, cap, k, ps, q, rfl, d2, r2, q2, _⟩
  have HP := Lib.hid (pick_any _ _ _ _ _ _ _ 8 r2 (by omega) (by omega) (by omega))
  have D2 := Lib.hid d2
  clear d2 r2
  go_wp2_with fail
  refine HP.out.mono ?_; rintro e w3 ⟨x, rfl, hx, r3, c3⟩
  have HP3 := Lib.hid (pick_any _ _ _ _ _ _ _ 30 r3 (by omega) (by omega) (by omega))
  have C3 := Lib.hid c3
  clear r3 c3
  go_wp2_with fail
  refine HP3.out.mono ?_; rintro e w4 ⟨y, rfl, hy, r4, c4⟩
  have HP4 := Lib.hid (pick_any _ _ _ _ _ _ _ 20 r4 (by omega) (by omega) (by omega))
  have C4 := Lib.hid (C3.out.trans c4)
  clear r4 c4
  go_wp2_with fail
  refine HP4.out.mono ?_; rintro e w5 ⟨z, rfl, hz, r5, c5⟩
  have HP5 := Lib.hid (pick_any _ _ _ _ _ _ _ 20 r5 (by omega) (by omega) (by omega))
  have C5 := Lib.hid (C4.out.trans c5)
  clear r5 c5
  obtain ⟨z1, hz1, hz2⟩ : ∃ z1 : Nat, (z : Int) / 19 = (z1 : Int) ∧ z1 ≤ 1 := ⟨z / 19, by omega, by omega⟩
  go_wp2_with fail
  refine HP5.out.mono ?_; rintro e w6 ⟨u, rfl, hu, r6, c6⟩
  have R6 := Lib.hid r6
  have C6 := Lib.hid (C5.out.trans c6)
  clear r6 c6
  obtain ⟨u1, hu1, hu2⟩ : ∃ u1 : Nat, (u : Int) / 19 = (u1 : Int) ∧ u1 ≤ 1 := ⟨u / 19, by omega, by omega⟩
  go_wp2
  (try simp only [Exit.inBlock, Exit.then])
  refine bodyPost_ret (results_tmp3 rfl _ _ _) rfl ?_
  exact ⟨gv, cap, k, ps, (x : Int) - 1, (y : Int) + (z1 : Int) * 30 - (u1 : Int) * 40, rfl, (D2.out.chg C6.out (Nat.le_refl _)).base (by omega), by omega, by omega, R6.out.le⟩
end Go.Proofs.YteeklaplnhafoaaDoor
