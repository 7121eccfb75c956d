/- Walks: drawn lots, a day and how many units are taken. -/
import Derived.Test.YteeklaplnhafoaaDoorMLaw
import Derived.Test.YteeklaplnhafoaaDoorWTakeF
namespace Go.Proofs.YteeklaplnhafoaaDoor
open Go.RowKit

theorem ints_setT (xs : List Int) (o : Nat) (x : Int) : (ints xs).set o (.int .i64 x) = ints (xs.set o x) := by
  unfold ints; rw [List.map_set]

set_option maxRecDepth 20000 in
set_option maxHeartbeats 4000000 in
theorem l20Take_any (W w : World) (g : Nat) (A : Option Addr) (n c p : Nat) (h : Rd W w g A n c p) (hp : p ≤ 800000) (b : Nat) (hb1 : g + 1 ≤ b) (hb : b ≤ w.heap.size) :
    Calls Tryd.prog 71 #[.pointer (some ⟨g, 0, none⟩)] w fun e w' => ∃ gv cap k ps, ∃ day : Int, ∃ B d m T p', e = .returned (.tuple #[.slice (some ⟨gv, 0, none⟩) k cap, .int .i64 day, .slice B m d]) ∧ DL b w' gv cap k ps ∧ (-1 ≤ day ∧ day ≤ 6) ∧ m ≤ 6 ∧ w'.ownsRow b 3 1 (.slice B m d) m (ints T) ∧ Rd W w' g A n c p' ∧ p' ≤ p + 300 ∧ Chg g (g + 1) w w' := by
  obtain ⟨i0, hi0, hz0, hz1, hz2⟩ := info_parts infoInt
  have HL := Lib.hid (lots_dl W w g A n c p 9 h (by omega) (by omega) (by omega) b hb)
  clear h
  go_enter Tryd.func71, Tryd.ntmps71
  go_wp2_with fail
  refine HL.out.mono ?_; rintro e w2 ⟨gv, cap, k, ps, p2, rfl, d2, r2, q2, c2⟩
  have HP := Lib.hid (pick_any _ _ _ _ _ _ _ 8 r2 (by omega) (by omega) (by omega))
  have D2 := Lib.hid d2
  have C2 := Lib.hid c2
  clear d2 r2 c2
  go_wp2_with fail
  refine HP.out.mono ?_; rintro e w3 ⟨x, rfl, hx, r3, c3⟩
  have HP3 := Lib.hid (pick_any _ _ _ _ _ _ _ 30 r3 (by omega) (by omega) (by omega))
  have D3 := Lib.hid (D2.out.chg c3 hb1)
  have C3 := Lib.hid (C2.out.trans c3)
  clear r3 c3
  go_wp2_with fail
  refine HP3.out.mono ?_; rintro e w4 ⟨y, rfl, hy, r4, c4⟩
  have D4 := Lib.hid (D3.out.chg c4 hb1)
  have C4 := Lib.hid (C3.out.trans c4)
  have R4 := Lib.hid r4
  clear r4 c4
  obtain ⟨T0, hT⟩ : ∃ T, takeFirstL ps ((x : Int) - 1) (y : Int) = T := ⟨_, rfl⟩
  obtain ⟨m, hm2⟩ : ∃ m, T0.length = m := ⟨_, rfl⟩
  have hm5 : m ≤ 5 := by rw [← hm2, ← hT]; exact takeFirstL_small _ _ _
  have hbw : b ≤ w4.heap.size := by have := C4.out.size; omega
  go_wp2_with fail
  refine (specTakeFirst_any _ _ _ _ ((x : Int) - 1) (y : Int) _ D4.out.rp).mono ?_; rintro e w5 ⟨v, rfl, o5, l5⟩
  rw [hT, hm2] at o5
  obtain ⟨B, d, rfl, _⟩ := own_RI o5 (by omega)
  have O5 := Lib.hid o5
  have C5 := Lib.hid (Chg.of_le (lo := g) (hi := g + 1) l5)
  have R5 := Lib.hid (R4.out.more l5)
  clear o5 l5 hT hm2
  go_wp2
  go_loopw [8] (fun i wr => ∃ (k : Nat) (T : List Int) (p' : Nat), k ≤ m ∧ i = .int .i64 k ∧ wr.ownsRow w4.heap.size 3 1 (.slice B m d) m (ints T) ∧ Rd W wr g A n c p' ∧ p' ≤ p2 + 2 + 3 * k ∧ Chg g (g + 1) w4 wr) (fun i _ => m - (intOf i).toNat)
  case atStart => exact ⟨0, T0, _, Nat.zero_le _, rfl, O5.out, R5.out, by omega, C5.out⟩
  case round =>
    obtain ⟨k1, T, p', hk, rfl, oT, rT, hp', cT⟩ := hrel
    have OT := Lib.hid oT
    have CT := Lib.hid cT
    clear oT cT
    by_cases hlt : k1 < m
    · have HQ := Lib.hid (pick_any _ _ _ _ _ _ _ 4 rT (by omega) (by omega) (by omega))
      clear rT
      go_wp2_with fail
      refine HQ.out.mono ?_; rintro e w6 ⟨x6, rfl, hx6, r6, c6⟩
      have O6 := Lib.hid (Chg.own2 OT.out c6 (by omega))
      have C6 := Lib.hid (CT.out.trans c6)
      by_cases h0 : x6 = 0
      · have hz : ((x6 : Int) == 0) = true := by rw [h0]; rfl
        have HQ6 := Lib.hid (pick_any _ _ _ _ _ _ _ 6 r6 (by omega) (by omega) (by omega))
        clear r6 c6 h0
        go_wp2_with fail
        refine HQ6.out.mono ?_; rintro e w7 ⟨x7, rfl, hx7, r7, c7⟩
        have HQ7 := Lib.hid (pick_any _ _ _ _ _ _ _ 20 r7 (by omega) (by omega) (by omega))
        have O7 := Lib.hid (Chg.own2 O6.out c7 (by omega))
        have C7 := Lib.hid (C6.out.trans c7)
        clear r7 c7
        go_wp2_with fail
        refine HQ7.out.mono ?_; rintro e w8 ⟨x8, rfl, hx8, r8, c8⟩
        have o8 := Chg.own2 O7.out c8 (by omega)
        have C8 := Lib.hid (C7.out.trans c8)
        have R8 := Lib.hid r8
        clear r8 c8
        obtain ⟨z1, hz1', hz2'⟩ : ∃ z1 : Nat, (x8 : Int) / 19 = (z1 : Int) ∧ z1 ≤ 1 := ⟨x8 / 19, by omega, by omega⟩
        obtain ⟨g2, d2, e, hg2, hg3⟩ := o8.form (by omega)
        injection e with e1 e2 e3
        subst e1
        subst e3
        clear e2
        have z8 : w8.frozen? ⟨g2, k1, none⟩ = false := o8.frozenAt _
        have cc8 : w8.cell? ⟨g2, k1, none⟩ = (ints T)[k1]? := o8.cellAt _ (by omega)
        have hTl : T.length = m := by have := o8.1; rw [ints_length] at this; omega
        rw [ints_getElem? (by omega)] at cc8
        obtain ⟨ow, gw⟩ := o8.stored k1 (.int .i64 ((x7 : Int) - (z1 : Int)))
        rw [ints_setT] at ow
        have OW := Lib.hid ow
        have GW := Lib.hid gw
        clear ow gw o8
        go_wp2
        go_roundw
        case rel => exact ⟨k1 + 1, T.set k1 ((x7 : Int) - (z1 : Int)), _, by omega, by go_num, OW.out, R8.out.grown GW.out (fun q hq => by injection hq with hq; have := R8.out.lt; omega), by omega, C8.out.row GW.out (fun q hq => by injection hq with hq; omega)⟩
        case measure => simp [intOf]; omega
      · have hz : ((x6 : Int) == 0) = false := by rw [beq_eq_false_iff_ne]; omega
        have R6 := Lib.hid r6
        clear r6 c6 h0
        go_wp2
        go_roundw
        case rel => exact ⟨k1 + 1, T, _, by omega, by go_num, O6.out, R6.out, by omega, C6.out⟩
        case measure => simp [intOf]; omega
    · obtain rfl : k1 = m := by omega
      have HQ := Lib.hid (odd_any _ _ _ _ _ _ _ 14 rT (by omega) (by omega) (by omega))
      clear rT
      go_wp2_with fail
      refine HQ.out.mono ?_; rintro e w6 ⟨t6, rfl, r6, c6⟩
      have O6 := Lib.hid (Chg.own2 OT.out c6 (by omega))
      have C6 := Lib.hid (CT.out.trans c6)
      have R6 := Lib.hid r6
      clear r6 c6
      cases t6
      · go_wp2
        (try simp only [Exit.inBlock, Exit.then])
        refine bodyPost_ret (results_tmp3 rfl _ _ _) rfl ?_
        exact ⟨gv, cap, k, ps, (x : Int) - 1, B, d, k1, T, _, rfl, D4.out.chg C6.out hb1, by omega, by omega, own_mono O6.out hbw, R6.out, by omega, C4.out.trans C6.out⟩
      · go_wp2_with (at_builtin; refine wpList_append_own_g (by rfl) (some 41) rfl (.tmp 39) (.tmp 40) 24 rfl w4.heap.size 3 i0 _ 1 8 Tryd.underlying24 hi0 hz0 hz1 hz2 rfl (by decide) (.slice B k1 d) k1 (ints T) rfl (O6.out.alloc _) ⟨w6.heap.size, 0, none⟩ 1 1 [.int .i64 0] rfl rfl (cell_one' w6 _ rfl _ _) (fun u hu => by simp at hu; subst hu; rfl) (by unfold maxLen; omega) (by omega) (by have := C6.out.size; simp; omega) ?_)
        intro va wa owa ga _
        obtain ⟨g3, d3, rfl, hg3, _⟩ := owa.form (by omega)
        have OA := Lib.hid owa
        have GA := Lib.hid ga
        clear owa ga
        go_wp2
        (try simp only [Exit.inBlock, Exit.then])
        refine bodyPost_ret (results_tmp3 rfl _ _ _) rfl ?_
        have hc : Chg g (g + 1) w4 wa := (C6.out.more ((Le.refl w6).alloc _)).row GA.out (fun q hq => (O6.out.lt q hq).1)
        exact ⟨gv, cap, k, ps, (x : Int) - 1, some ⟨g3, 0, none⟩, d3, k1 + 1, T ++ [0], _, rfl, D4.out.chg hc hb1, by omega, by omega, own_mono (by rw [ints_append]; exact OA.out) hbw, (R6.out.more ((Le.refl w6).alloc _)).grown GA.out (fun q hq => by have := (O6.out.lt q hq).1; omega), by omega, C4.out.trans hc⟩

set_option maxRecDepth 20000 in
set_option maxHeartbeats 1000000 in
theorem drawTakeOk_any (A : Option Addr) (n c : Nat) (w : World) (h : RB w A n) (hc : n ≤ c) :
    Calls Tryd.prog 35 #[.slice A n c] w fun e w' => ∃ gv cap k ps, ∃ day : Int, ∃ B d m T, e = .returned (.tuple #[.slice (some ⟨gv, 0, none⟩) k cap, .int .i64 day, .slice B m d]) ∧ DL w.heap.size w' gv cap k ps ∧ (-1 ≤ day ∧ day ≤ 6) ∧ m ≤ 6 ∧ w'.ownsRow w.heap.size 3 1 (.slice B m d) m (ints T) ∧ Le w w' := by
  have HO := Lib.hid (open_any A n c w h hc)
  clear h
  go_enter Tryd.func35, Tryd.ntmps35
  go_wp2_with fail
  refine HO.out.mono ?_; rintro e w1 ⟨rfl, r1⟩
  have HL := Lib.hid (l20Take_any _ _ _ _ _ _ _ r1 (by omega) (w.heap.size + 1) (Nat.le_refl _) r1.lt)
  clear r1
  go_wp2_with fail
  refine HL.out.mono ?_; rintro e w2 ⟨gv, cap, k, ps, day, B, d, m, T, q, rfl, d2, hd, hm, o2, r2, _, _⟩
  have D2 := Lib.hid d2
  have O2 := Lib.hid o2
  have R2 := Lib.hid r2
  clear d2 o2 r2
  go_wp2
  (try simp only [Exit.inBlock, Exit.then])
  refine bodyPost_ret (results_tmp3 rfl _ _ _) rfl ?_
  exact ⟨gv, cap, k, ps, day, B, d, m, T, rfl, D2.out.base (by omega), hd, hm, own_mono O2.out (by omega), R2.out.le⟩

set_option maxRecDepth 20000 in
set_option maxHeartbeats 1000000 in
theorem drawTakeDo_any (A : Option Addr) (n c : Nat) (w : World) (h : RB w A n) (hc : n ≤ c) :
    Calls Tryd.prog 39 #[.slice A n c] w fun e w' => ∃ gv cap k ps, ∃ day : Int, ∃ B d m T, e = .returned (.tuple #[.slice (some ⟨gv, 0, none⟩) k cap, .int .i64 day, .slice B m d]) ∧ DL w.heap.size w' gv cap k ps ∧ (-1 ≤ day ∧ day ≤ 6) ∧ m ≤ 6 ∧ w'.ownsRow w.heap.size 3 1 (.slice B m d) m (ints T) ∧ Le w w' := by
  have HO := Lib.hid (open_any A n c w h hc)
  clear h
  go_enter Tryd.func39, Tryd.ntmps39
  go_wp2_with fail
  refine HO.out.mono ?_; rintro e w1 ⟨rfl, r1⟩
  have HL := Lib.hid (l20Take_any _ _ _ _ _ _ _ r1 (by omega) (w.heap.size + 1) (Nat.le_refl _) r1.lt)
  clear r1
  go_wp2_with fail
  refine HL.out.mono ?_; rintro e w2 ⟨gv, cap, k, ps, day, B, d, m, T, q, rfl, d2, hd, hm, o2, r2, _, _⟩
  have D2 := Lib.hid d2
  have O2 := Lib.hid o2
  have R2 := Lib.hid r2
  clear d2 o2 r2
  go_wp2
  (try simp only [Exit.inBlock, Exit.then])
  refine bodyPost_ret (results_tmp3 rfl _ _ _) rfl ?_
  exact ⟨gv, cap, k, ps, day, B, d, m, T, rfl, D2.out.base (by omega), hd, hm, own_mono O2.out (by omega), R2.out.le⟩
end Go.Proofs.YteeklaplnhafoaaDoor
