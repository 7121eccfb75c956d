/- Walks: what the laws of chapter 1 draw (but for plans). -/
import Derived.Test.YtoahjfofnaafaaaDoorWDrawA
namespace Go.Proofs.YtoahjfofnaafaaaDoor
open Go.RowKit

/-- drawn numbers -/
structure DN (b : Nat) (w : World) (gv cap k : Nat) (xs : List Int) : Prop where
  len : xs.length = k
  small : k ≤ 8
  kcap : k ≤ cap
  capm : cap ≤ maxLen
  own : w.ownsRow b 3 1 (.slice (some ⟨gv, 0, none⟩) k cap) k (ints xs)
theorem DN.ri {b : Nat} {w : World} {gv cap k : Nat} {xs : List Int} (h : DN b w gv cap k xs) : RI w (some ⟨gv, 0, none⟩) k xs := by
  obtain ⟨A, c, e, r⟩ := own_RI h.own (by have := h.small; omega)
  injection e with e1 _ _
  rw [e1]; exact r
theorem DN.le {b : Nat} {w w' : World} {gv cap k : Nat} {xs : List Int} (h : DN b w gv cap k xs) (hl : Le w w') : DN b w' gv cap k xs := ⟨h.len, h.small, h.kcap, h.capm, own_Le h.own hl⟩
theorem DN.chg {b lo hi : Nat} {w w' : World} {gv cap k : Nat} {xs : List Int} (h : DN b w gv cap k xs) (hc : Chg lo hi w w') (hb : hi ≤ b) : DN b w' gv cap k xs := ⟨h.len, h.small, h.kcap, h.capm, Chg.own2 h.own hc hb⟩
theorem DN.base {b b' : Nat} {w : World} {gv cap k : Nat} {xs : List Int} (h : DN b w gv cap k xs) (hb : b' ≤ b) : DN b' w gv cap k xs := ⟨h.len, h.small, h.kcap, h.capm, own_mono h.own hb⟩
/-- drawn items -/
structure DT (b : Nat) (w : World) (gv cap k : Nat) (ts : List It) : Prop where
  small : k ≤ 7
  kcap : k ≤ cap
  capm : cap ≤ maxLen
  row : ∃ h, DM b w (.slice (some ⟨gv, 0, none⟩) k cap) k h ts
theorem DT.len {b : Nat} {w : World} {gv cap k : Nat} {ts : List It} (d : DT b w gv cap k ts) : ts.length = k := let ⟨_, m⟩ := d.row; m.len
theorem DT.rm {b : Nat} {w : World} {gv cap k : Nat} {ts : List It} (d : DT b w gv cap k ts) : RM w (some ⟨gv, 0, none⟩) k ts := let ⟨_, m⟩ := d.row; (m.rm (by have := d.small; omega)).2
theorem DT.le {b : Nat} {w w' : World} {gv cap k : Nat} {ts : List It} (d : DT b w gv cap k ts) (hl : Le w w') : DT b w' gv cap k ts := ⟨d.small, d.kcap, d.capm, let ⟨h, m⟩ := d.row; ⟨h, m.le hl⟩⟩
theorem DT.chg {b lo hi : Nat} {w w' : World} {gv cap k : Nat} {ts : List It} (d : DT b w gv cap k ts) (hc : Chg lo hi w w') (hb : hi ≤ b) : DT b w' gv cap k ts := ⟨d.small, d.kcap, d.capm, let ⟨h, m⟩ := d.row; ⟨h, m.chg hc hb⟩⟩
theorem DT.base {b b' : Nat} {w : World} {gv cap k : Nat} {ts : List It} (d : DT b w gv cap k ts) (hb : b' ≤ b) : DT b' w gv cap k ts := ⟨d.small, d.kcap, d.capm, let ⟨h, m⟩ := d.row; ⟨h, m.base hb⟩⟩
theorem DT.of {b : Nat} {w : World} {gv cap k : Nat} {h : Nat → Value} {ts : List It} (hk : k ≤ 7) (m : DM b w (.slice (some ⟨gv, 0, none⟩) k cap) k h ts) : DT b w gv cap k ts := by
  obtain ⟨gv', cap', e, _, h1, h2⟩ := m.form (fun e => by cases e)
  injection e with _ _ e
  subst e
  exact ⟨hk, h1, h2, h, m⟩
theorem items_dt (W w : World) (g : Nat) (A : Option Addr) (n c p N : Nat) (h : Rd W w g A n c p) (hp : p ≤ 800000) (h1 : 1 ≤ N) (h2 : N ≤ 1000) (b : Nat) (hb : b ≤ w.heap.size) :
    Calls Tryd.prog 63 #[.pointer (some ⟨g, 0, none⟩), .int .i64 (N : Int)] w fun e w' => ∃ gv cap k ts p', e = .returned (.slice (some ⟨gv, 0, none⟩) k cap) ∧ DT b w' gv cap k ts ∧ Rd W w' g A n c p' ∧ p' ≤ p + 400 ∧ Chg g (g + 1) w w' := by
  refine (l20Items_any W w g A n c p N h hp h1 h2).mono ?_
  rintro e w' ⟨gv, cap, k, hh, ts, p', rfl, d, hk, r, hq, hc⟩
  exact ⟨gv, cap, k, ts, p', rfl, DT.of hk (d.base hb), r, hq, hc⟩
theorem numbers_dn {w' : World} {b : Nat} {gv cap : Nat} {xs : List Int} (o : w'.ownsRow b 3 1 (.slice (some ⟨gv, 0, none⟩) xs.length cap) xs.length (ints xs)) (m : xs.length ≤ 8) : DN b w' gv cap xs.length xs := by
  obtain ⟨gv', cap', e, _, h1, h2⟩ := own_formI o (fun e => by cases e)
  injection e with _ _ e
  subst e
  exact ⟨rfl, m, h1, h2, o⟩
theorem amounts_dn (W w : World) (g : Nat) (A : Option Addr) (n c p N : Nat) (B : Option Addr) (k d : Nat) (h : Rd W w g A n c p) (hp : p ≤ 800000) (h1 : 1 ≤ N) (h2 : N ≤ 1000) (hk : k ≤ 7) (b : Nat) (hb : b ≤ w.heap.size) :
    Calls Tryd.prog 74 #[.pointer (some ⟨g, 0, none⟩), .slice B k d, .int .i64 (N : Int)] w fun e w' => ∃ gx cap m xs p', e = .returned (.slice (some ⟨gx, 0, none⟩) m cap) ∧ DN b w' gx cap m xs ∧ Rd W w' g A n c p' ∧ p' ≤ p + 20 ∧ Chg g (g + 1) w w' := by
  refine (l20Amounts_any W w g A n c p N B k d h hp h1 h2 hk).mono ?_
  rintro e w' ⟨gv, cap, xs, p', rfl, o, m, r, hq, hc⟩
  exact ⟨gv, cap, xs.length, xs, p', rfl, (numbers_dn o m).base hb, r, hq, hc⟩
theorem prices_dn (W w : World) (g : Nat) (A : Option Addr) (n c p N : Nat) (B : Option Addr) (k d : Nat) (h : Rd W w g A n c p) (hp : p ≤ 800000) (h1 : 1 ≤ N) (h2 : N ≤ 1000) (hk : k ≤ 7) (b : Nat) (hb : b ≤ w.heap.size) :
    Calls Tryd.prog 58 #[.pointer (some ⟨g, 0, none⟩), .slice B k d, .int .i64 (N : Int)] w fun e w' => ∃ gx cap m xs p', e = .returned (.slice (some ⟨gx, 0, none⟩) m cap) ∧ DN b w' gx cap m xs ∧ Rd W w' g A n c p' ∧ p' ≤ p + 20 ∧ Chg g (g + 1) w w' := by
  refine (l20Prices_any W w g A n c p N B k d h hp h1 h2 hk).mono ?_
  rintro e w' ⟨gv, cap, xs, p', rfl, o, m, r, hq, hc⟩
  exact ⟨gv, cap, xs.length, xs, p', rfl, (numbers_dn o m).base hb, r, hq, hc⟩
theorem results_tmp3 {fn : Func} {t u v : Tmp} (h : fn.results = #[.tmp t, .tmp u, .tmp v]) (tmps : Array Value) (P : Program) (w : World) :
    (results fn tmps).run P w = .ok (.tuple #[tmps.getD t undef, tmps.getD u undef, tmps.getD v undef]) w := by
  simp [results, h]


set_option maxRecDepth 20000 in
set_option maxHeartbeats 2000000 in
theorem drawPlanLeast_any (A : Option Addr) (n c : Nat) (w : World) (h : RB w A n) (hc : n ≤ c) :
    Calls Tryd.prog 35 #[.slice A n c] w fun e w' => ∃ gv cap k ts gx0 cx0 m0 xs0 gx1 cx1 m1 xs1, e = .returned (.tuple #[.slice (some ⟨gv, 0, none⟩) k cap, .slice (some ⟨gx0, 0, none⟩) m0 cx0, .slice (some ⟨gx1, 0, none⟩) m1 cx1]) ∧ DT w.heap.size w' gv cap k ts ∧ DN w.heap.size w' gx0 cx0 m0 xs0 ∧ DN w.heap.size w' gx1 cx1 m1 xs1 ∧ Le w w' := by
  have HO := Lib.hid (open_any A n c w h hc)
  clear h
  go_enter Tryd.func35, Tryd.ntmps35
  go_wp2_with fail
  refine HO.out.mono ?_; rintro e w1 ⟨rfl, r1⟩
  have R1 := Lib.hid r1
  clear r1
  have HL := Lib.hid (items_dt _ _ _ _ _ _ _ 9 R1.out (by omega) (by omega) (by omega) (w.heap.size + 1) R1.out.lt)
  go_wp2_with fail
  refine HL.out.mono ?_; rintro e w2 ⟨gv, cap, k, ts, p2, rfl, d2, r2, q2, c2⟩
  have hk7 := d2.small
  have R2 := Lib.hid r2
  have D0 := Lib.hid d2
  clear r2 c2 d2 HL
  have HL := Lib.hid (amounts_dn _ _ _ _ _ _ _ 12 (some ⟨gv, 0, none⟩) k cap R2.out (by omega) (by omega) (by omega) hk7 (w.heap.size + 1) R2.out.lt)
  go_wp2_with fail
  refine HL.out.mono ?_; rintro e w3 ⟨gx0, cx0, m0, xs0, p3, rfl, d3, r3, q3, c3⟩
  have R3 := Lib.hid r3
  have D0b := Lib.hid (D0.out.chg c3 (Nat.le_refl _))
  clear D0
  have D0 := D0b
  clear D0b
  have X0 := Lib.hid d3
  clear r3 c3 d3 HL
  have HL := Lib.hid (amounts_dn _ _ _ _ _ _ _ 12 (some ⟨gv, 0, none⟩) k cap R3.out (by omega) (by omega) (by omega) hk7 (w.heap.size + 1) R3.out.lt)
  go_wp2_with fail
  refine HL.out.mono ?_; rintro e w4 ⟨gx1, cx1, m1, xs1, p4, rfl, d4, r4, q4, c4⟩
  have R4 := Lib.hid r4
  have D0b := Lib.hid (D0.out.chg c4 (Nat.le_refl _))
  clear D0
  have D0 := D0b
  clear D0b
  have X0b := Lib.hid (X0.out.chg c4 (Nat.le_refl _))
  clear X0
  have X0 := X0b
  clear X0b
  have X1 := Lib.hid d4
  clear r4 c4 d4 HL
  go_wp2
  (try simp only [Exit.inBlock, Exit.then])
  refine bodyPost_ret (results_tmp3 rfl _ _ _) rfl ?_
  exact ⟨gv, cap, k, ts, gx0, cx0, m0, xs0, gx1, cx1, m1, xs1, rfl, D0.out.base (by omega), X0.out.base (by omega), X1.out.base (by omega), R4.out.le⟩


set_option maxRecDepth 20000 in
set_option maxHeartbeats 2000000 in
theorem drawUnitCost_any (A : Option Addr) (n c : Nat) (w : World) (h : RB w A n) (hc : n ≤ c) :
    Calls Tryd.prog 24 #[.slice A n c] w fun e w' => ∃ gv cap k ts gx0 cx0 m0 xs0, ∃ ix : Int, e = .returned (.tuple #[.slice (some ⟨gv, 0, none⟩) k cap, .slice (some ⟨gx0, 0, none⟩) m0 cx0, .int .i64 ix]) ∧ DT w.heap.size w' gv cap k ts ∧ DN w.heap.size w' gx0 cx0 m0 xs0 ∧ (-9 ≤ ix ∧ ix ≤ 15) ∧ Le w w' := by
  have HO := Lib.hid (open_any A n c w h hc)
  clear h
  go_enter Tryd.func24, Tryd.ntmps24
  go_wp2_with fail
  refine HO.out.mono ?_; rintro e w1 ⟨rfl, r1⟩
  have R1 := Lib.hid r1
  clear r1
  have HL := Lib.hid (items_dt _ _ _ _ _ _ _ 9 R1.out (by omega) (by omega) (by omega) (w.heap.size + 1) R1.out.lt)
  go_wp2_with fail
  refine HL.out.mono ?_; rintro e w2 ⟨gv, cap, k, ts, p2, rfl, d2, r2, q2, c2⟩
  have hk7 := d2.small
  have R2 := Lib.hid r2
  have D0 := Lib.hid d2
  clear r2 c2 d2 HL
  have HL := Lib.hid (prices_dn _ _ _ _ _ _ _ 14 (some ⟨gv, 0, none⟩) k cap R2.out (by omega) (by omega) (by omega) hk7 (w.heap.size + 1) R2.out.lt)
  go_wp2_with fail
  refine HL.out.mono ?_; rintro e w3 ⟨gx0, cx0, m0, xs0, p3, rfl, d3, r3, q3, c3⟩
  have R3 := Lib.hid r3
  have D0b := Lib.hid (D0.out.chg c3 (Nat.le_refl _))
  clear D0
  have D0 := D0b
  clear D0b
  have X0 := Lib.hid d3
  clear r3 c3 d3 HL
  have HL := Lib.hid (l20Index_any _ _ _ _ _ _ _ (some ⟨gv, 0, none⟩) k cap R3.out (by omega) hk7)
  go_wp2_with fail
  refine HL.out.mono ?_; rintro e w4 ⟨ix, p4, rfl, hix, r4, q4, c4⟩
  have R4 := Lib.hid r4
  have D0b := Lib.hid (D0.out.chg c4 (Nat.le_refl _))
  clear D0
  have D0 := D0b
  clear D0b
  have X0b := Lib.hid (X0.out.chg c4 (Nat.le_refl _))
  clear X0
  have X0 := X0b
  clear X0b
  clear r4 c4 HL
  go_wp2
  (try simp only [Exit.inBlock, Exit.then])
  refine bodyPost_ret (results_tmp3 rfl _ _ _) rfl ?_
  exact ⟨gv, cap, k, ts, gx0, cx0, m0, xs0, ix, rfl, D0.out.base (by omega), X0.out.base (by omega), hix, R4.out.le⟩

end Go.Proofs.YtoahjfofnaafaaaDoor
