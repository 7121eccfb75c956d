/- WLaw WLaw2 WLawS, in one text. -/
import Derived.Test.YteeklaplnhafoaaDoorMDraw
import Derived.Test.YteeklaplnhafoaaDoorWAlive
import Derived.Test.YteeklaplnhafoaaDoorMPure
import Derived.Test.YteeklaplnhafoaaDoorWSum
namespace Go.Proofs.YteeklaplnhafoaaDoor
open Go.RowKit


/-- an append under a guard that says yes -/
theorem wpList_append_own_g {P : Program} {w : World} {ops : Array Oper} {rest : List Oper} {o : Oper} {a : Act} {Q : Exit → Act → World → Prop} (hw : Region.wanted o (yielded ops a.tmps) = true) (d : Option Tmp) (hd : o.dst = d) (s x : Operand) (t : TypeId)
    (ho : o.op = .call { callee := .builtin .append, args := #[s, x], argTypes := #[t, t] })
    (base : Nat) (e : TypeId) (i : TypeInfo) (z : Value) (size bytes : Nat) (ht : P.underlying t = some (.slice e)) (hi : P.info? e = some i) (hz : i.zero = some z)
    (hsize : i.size = size) (hby : i.bytes = bytes) (hzs : z.cells.size = size) (hsz : 0 < size)
    (v : Value) (n : Nat) (xs : List Value) (hs : a.eval s = v) (hown : w.ownsRow base e size v n xs)
    (ad : Addr) (m c : Nat) (news : List Value) (hx : a.eval x = .slice (some ad) m c) (hl : news.length = m * size) (hnews : ∀ j u, news[j]? = some u → w.cell? (ad.add j) = some u) (h1 : ∀ u ∈ news, u.oneCell' = true)
    (h63 : n + m ≤ maxLen) (hbytes : (n + m) * bytes ≤ 140737488355328) (hbase : base ≤ w.heap.size)
    (h : ∀ v' w', w'.ownsRow base e size v' (n + m) (xs ++ news) → w.grownBy w' v.ownBlock → (v' = .slice none 0 0 ↔ v = .slice none 0 0 ∧ m = 0) → wpList P ops Q rest (a.put d v') w') : wpList P ops Q (o :: rest) a w :=
  BigFrame.wpList_want hw fun _ hK => wp_append_own w s x t ho base e i z size bytes ht hi hz hsize hby hzs hsz v n xs hs hown ad m c news hx hl hnews h1 h63 hbytes hbase fun v' w' h2 h3 h4 => hK _ _ (by subst hd; exact h v' w' h2 h3 h4)
theorem own_cap {w : World} {base : Nat} {t : TypeId} {size n gv cap k : Nat} {xs : List Value} (o : w.ownsRow base t size (.slice (some ⟨gv, 0, none⟩) n cap) k xs) : k ≤ cap ∧ cap ≤ maxLen := by
  rcases o.2 with ⟨e, _⟩ | ⟨g', cap', cur, e, _, _, h2, h3, _⟩
  · cases e
  · injection e with _ _ e3; subst e3; exact ⟨h2, h3⟩
/-- drawn lots -/
structure DL (b : Nat) (w : World) (gv cap k : Nat) (ps : List (Int × Int)) : Prop where
  len : ps.length = k
  small : k ≤ 6
  kcap : k ≤ cap
  capm : cap ≤ maxLen
  own : w.ownsRow b 40 2 (.slice (some ⟨gv, 0, none⟩) k cap) k (pairs ps)
theorem DL.rp {b : Nat} {w : World} {gv cap k : Nat} {ps : List (Int × Int)} (h : DL b w gv cap k ps) : RP w (some ⟨gv, 0, none⟩) k ps := own_RP2 h.own (by have := h.small; omega)
theorem DL.le {b : Nat} {w w' : World} {gv cap k : Nat} {ps : List (Int × Int)} (h : DL b w gv cap k ps) (hl : Le w w') : DL b w' gv cap k ps := ⟨h.len, h.small, h.kcap, h.capm, own_Le h.own hl⟩
theorem DL.chg {b lo hi : Nat} {w w' : World} {gv cap k : Nat} {ps : List (Int × Int)} (h : DL b w gv cap k ps) (hc : Chg lo hi w w') (hb : hi ≤ b) : DL b w' gv cap k ps := ⟨h.len, h.small, h.kcap, h.capm, Chg.own2 h.own hc hb⟩
/-- drawn wants -/
structure DI (b : Nat) (w : World) (gv cap k : Nat) (xs : List Int) : Prop where
  len : xs.length = k
  small : k ≤ 7
  kcap : k ≤ cap
  capm : cap ≤ maxLen
  own : w.ownsRow b 3 1 (.slice (some ⟨gv, 0, none⟩) k cap) k (ints xs)
theorem DI.ri {b : Nat} {w : World} {gv cap k : Nat} {xs : List Int} (h : DI b w gv cap k xs) : RI w (some ⟨gv, 0, none⟩) k xs := by
  obtain ⟨A, c, e, r⟩ := own_RI h.own (by have := h.small; omega)
  injection e with e1 _ _
  rw [e1]; exact r
theorem DI.le {b : Nat} {w w' : World} {gv cap k : Nat} {xs : List Int} (h : DI b w gv cap k xs) (hl : Le w w') : DI b w' gv cap k xs := ⟨h.len, h.small, h.kcap, h.capm, own_Le h.own hl⟩
theorem DI.chg {b lo hi : Nat} {w w' : World} {gv cap k : Nat} {xs : List Int} (h : DI b w gv cap k xs) (hc : Chg lo hi w w') (hb : hi ≤ b) : DI b w' gv cap k xs := ⟨h.len, h.small, h.kcap, h.capm, Chg.own2 h.own hc hb⟩
/-- lots, drawn from a reader -/
theorem lots_dl (W w : World) (g : Nat) (A : Option Addr) (n c p N : Nat) (h : Rd W w g A n c p) (hp : p ≤ 900000) (h1 : 1 ≤ N) (h2 : N ≤ 1000) (b : Nat) (hb : b ≤ w.heap.size) :
    Calls Tryd.prog 66 #[.pointer (some ⟨g, 0, none⟩), .int .i64 (N : Int)] w fun e w' => ∃ gv cap k ps p', e = .returned (.slice (some ⟨gv, 0, none⟩) k cap) ∧ DL b w' gv cap k ps ∧ Rd W w' g A n c p' ∧ p' ≤ p + 100 ∧ Chg g (g + 1) w w' := by
  refine (l20Lots_any W w g A n c p N h hp h1 h2).mono ?_
  rintro e w' ⟨gv, cap, ps, p', rfl, o, m, r, hq, hc⟩
  exact ⟨gv, cap, ps.length, ps, p', rfl, ⟨rfl, m, (own_cap o).1, (own_cap o).2, own_mono o hb⟩, r, hq, hc⟩
theorem wants_di (W w : World) (g : Nat) (A : Option Addr) (n c p N : Nat) (h : Rd W w g A n c p) (hp : p ≤ 900000) (h1 : 1 ≤ N) (h2 : N ≤ 1000) (b : Nat) (hb : b ≤ w.heap.size) :
    Calls Tryd.prog 68 #[.pointer (some ⟨g, 0, none⟩), .int .i64 (N : Int)] w fun e w' => ∃ gv cap k xs p', e = .returned (.slice (some ⟨gv, 0, none⟩) k cap) ∧ DI b w' gv cap k xs ∧ Rd W w' g A n c p' ∧ p' ≤ p + 100 ∧ Chg g (g + 1) w w' := by
  refine (l20Wants_any W w g A n c p N h hp h1 h2).mono ?_
  rintro e w' ⟨gv, cap, ps, p', rfl, o, m, r, hq, hc⟩
  exact ⟨gv, cap, ps.length, ps, p', rfl, ⟨rfl, m, (own_cap o).1, (own_cap o).2, own_mono o hb⟩, r, hq, hc⟩

set_option maxRecDepth 20000 in
set_option maxHeartbeats 1000000 in
theorem both_any (W w : World) (g : Nat) (A : Option Addr) (n c p : Nat) (h : Rd W w g A n c p) (hp : p ≤ 800000) (b : Nat) (hb1 : g + 1 ≤ b) (hb : b ≤ w.heap.size) :
    Calls Tryd.prog 60 #[.pointer (some ⟨g, 0, none⟩)] w fun e w' => ∃ gv cap k ps gx capx m xs p', e = .returned (.tuple #[.slice (some ⟨gv, 0, none⟩) k cap, .slice (some ⟨gx, 0, none⟩) m capx]) ∧ DL b w' gv cap k ps ∧ DI b w' gx capx m xs ∧ Rd W w' g A n c p' ∧ p' ≤ p + 200 ∧ Chg g (g + 1) w w' := by
  have HL := Lib.hid (lots_dl W w g A n c p 9 h (by omega) (by omega) (by omega) b hb)
  clear h
  go_enter Tryd.func60, Tryd.ntmps60
  go_wp2_with fail
  refine HL.out.mono ?_; rintro e w2 ⟨gv, cap, k, ps, p2, rfl, d2, r2, q2, c2⟩
  have HW := Lib.hid (wants_di _ _ _ _ _ _ _ 9 r2 (by omega) (by omega) (by omega) b (by have := c2.size; omega))
  have D2 := Lib.hid d2
  have C2 := Lib.hid c2
  clear d2 c2 r2
  go_wp2_with fail
  refine HW.out.mono ?_; rintro e w3 ⟨gx, capx, m, xs, p3, rfl, d3, r3, q3, c3⟩
  have D3 := Lib.hid d3
  have C3 := Lib.hid c3
  have R3 := Lib.hid r3
  clear d3 c3 r3
  go_wp2
  go_ret2
  exact ⟨gv, cap, k, ps, gx, capx, m, xs, p3, rfl, D2.out.chg C3.out hb1, D3.out, R3.out, by omega, C2.out.trans C3.out⟩

set_option maxRecDepth 20000 in
set_option maxHeartbeats 1000000 in
theorem drawWants_any (A : Option Addr) (n c : Nat) (w : World) (h : RB w A n) (hc : n ≤ c) :
    Calls Tryd.prog 30 #[.slice A n c] w fun e w' => ∃ gx cap m xs, e = .returned (.slice (some ⟨gx, 0, none⟩) m cap) ∧ DI w.heap.size w' gx cap m xs ∧ Le w w' := by
  have HO := Lib.hid (open_any A n c w h hc)
  clear h
  go_enter Tryd.func30, Tryd.ntmps30
  go_wp2_with fail
  refine HO.out.mono ?_; rintro e w1 ⟨rfl, r1⟩
  have HL := Lib.hid (wants_di _ _ _ _ _ _ _ 2 r1 (by omega) (by omega) (by omega) w.heap.size r1.le.size)
  clear r1
  go_wp2_with fail
  refine HL.out.mono ?_; rintro e w2 ⟨gx, cap, m, xs, q, rfl, d2, r2, _, _⟩
  have D2 := Lib.hid d2
  have R2 := Lib.hid r2
  clear d2 r2
  go_wp2
  go_ret
  exact ⟨gx, cap, m, xs, rfl, D2.out, R2.out.le⟩

set_option maxRecDepth 20000 in
set_option maxHeartbeats 1000000 in
theorem drawLotsAt_any (A : Option Addr) (n c : Nat) (w : World) (h : RB w A n) (hc : n ≤ c) :
    Calls Tryd.prog 33 #[.slice A n c] w fun e w' => ∃ gv cap k ps, ∃ day : Int, e = .returned (.tuple #[.slice (some ⟨gv, 0, none⟩) k cap, .int .i64 day]) ∧ DL w.heap.size w' gv cap k ps ∧ (-1 ≤ day ∧ day ≤ 6) ∧ Le w w' := by
  have HO := Lib.hid (open_any A n c w h hc)
  clear h
  go_enter Tryd.func33, Tryd.ntmps33
  go_wp2_with fail
  refine HO.out.mono ?_; rintro e w1 ⟨rfl, r1⟩
  have HL := Lib.hid (lots_dl _ _ _ _ _ _ _ 9 r1 (by omega) (by omega) (by omega) (w.heap.size + 1) r1.lt)
  clear r1
  go_wp2_with fail
  refine HL.out.mono ?_; rintro e w2 ⟨gv, cap, k, ps, q, rfl, d2, r2, q2, _⟩
  have HP := Lib.hid (pick_any _ _ _ _ _ _ _ 8 r2 (by omega) (by omega) (by omega))
  have D2 := Lib.hid d2
  clear d2 r2
  go_wp2_with fail
  refine HP.out.mono ?_; rintro e w3 ⟨x, rfl, hx, r3, c3⟩
  have R3 := Lib.hid r3
  have C3 := Lib.hid c3
  clear r3 c3
  go_wp2
  go_ret2
  have d3 := D2.out.chg C3.out (Nat.le_refl _)
  exact ⟨gv, cap, k, ps, (x : Int) - 1, rfl, ⟨d3.len, d3.small, d3.kcap, d3.capm, own_mono d3.own (by omega)⟩, by omega, R3.out.le⟩



theorem results_tmp3 {fn : Func} {t u v : Tmp} (h : fn.results = #[.tmp t, .tmp u, .tmp v]) (tmps : Array Value) (P : Program) (w : World) :
    (results fn tmps).run P w = .ok (.tuple #[tmps.getD t undef, tmps.getD u undef, tmps.getD v undef]) w := by
  simp [results, h]

theorem DL.base {b b' : Nat} {w : World} {gv cap k : Nat} {ps : List (Int × Int)} (h : DL b w gv cap k ps) (hb : b' ≤ b) : DL b' w gv cap k ps := ⟨h.len, h.small, h.kcap, h.capm, own_mono h.own hb⟩
theorem DI.base {b b' : Nat} {w : World} {gv cap k : Nat} {xs : List Int} (h : DI b w gv cap k xs) (hb : b' ≤ b) : DI b' w gv cap k xs := ⟨h.len, h.small, h.kcap, h.capm, own_mono h.own hb⟩
set_option maxRecDepth 20000 in
set_option maxHeartbeats 1000000 in
theorem drawSpoilLeast_any (A : Option Addr) (n c : Nat) (w : World) (h : RB w A n) (hc : n ≤ c) :
    Calls Tryd.prog 16 #[.slice A n c] w fun e w' => ∃ gv cap k ps gx capx m xs, e = .returned (.tuple #[.slice (some ⟨gv, 0, none⟩) k cap, .slice (some ⟨gx, 0, none⟩) m capx]) ∧ DL w.heap.size w' gv cap k ps ∧ DI w.heap.size w' gx capx m xs ∧ Le w w' := by
  have HO := Lib.hid (open_any A n c w h hc)
  clear h
  go_enter Tryd.func16, Tryd.ntmps16
  go_wp2_with fail
  refine HO.out.mono ?_; rintro e w1 ⟨rfl, r1⟩
  have HL := Lib.hid (both_any _ _ _ _ _ _ _ r1 (by omega) (w.heap.size + 1) (Nat.le_refl _) r1.lt)
  clear r1
  go_wp2_with fail
  refine HL.out.mono ?_; rintro e w2 ⟨gv, cap, k, ps, gx, capx, m, xs, q, rfl, d2, i2, r2, _, _⟩
  have D2 := Lib.hid d2
  have I2 := Lib.hid i2
  have R2 := Lib.hid r2
  clear d2 i2 r2
  go_wp2
  go_ret2
  exact ⟨gv, cap, k, ps, gx, capx, m, xs, rfl, D2.out.base (by omega), I2.out.base (by omega), R2.out.le⟩

set_option maxRecDepth 20000 in
set_option maxHeartbeats 1000000 in
theorem drawLackLeast_any (A : Option Addr) (n c : Nat) (w : World) (h : RB w A n) (hc : n ≤ c) :
    Calls Tryd.prog 51 #[.slice A n c] w fun e w' => ∃ gv cap k ps gx capx m xs, e = .returned (.tuple #[.slice (some ⟨gv, 0, none⟩) k cap, .slice (some ⟨gx, 0, none⟩) m capx]) ∧ DL w.heap.size w' gv cap k ps ∧ DI w.heap.size w' gx capx m xs ∧ Le w w' := by
  have HO := Lib.hid (open_any A n c w h hc)
  clear h
  go_enter Tryd.func51, Tryd.ntmps51
  go_wp2_with fail
  refine HO.out.mono ?_; rintro e w1 ⟨rfl, r1⟩
  have HL := Lib.hid (both_any _ _ _ _ _ _ _ r1 (by omega) (w.heap.size + 1) (Nat.le_refl _) r1.lt)
  clear r1
  go_wp2_with fail
  refine HL.out.mono ?_; rintro e w2 ⟨gv, cap, k, ps, gx, capx, m, xs, q, rfl, d2, i2, r2, _, _⟩
  have D2 := Lib.hid d2
  have I2 := Lib.hid i2
  have R2 := Lib.hid r2
  clear d2 i2 r2
  go_wp2
  go_ret2
  exact ⟨gv, cap, k, ps, gx, capx, m, xs, rfl, D2.out.base (by omega), I2.out.base (by omega), R2.out.le⟩

set_option maxRecDepth 20000 in
set_option maxHeartbeats 1000000 in
theorem drawUseMost_any (A : Option Addr) (n c : Nat) (w : World) (h : RB w A n) (hc : n ≤ c) :
    Calls Tryd.prog 54 #[.slice A n c] w fun e w' => ∃ gv cap k ps gx capx m xs, e = .returned (.tuple #[.slice (some ⟨gv, 0, none⟩) k cap, .slice (some ⟨gx, 0, none⟩) m capx]) ∧ DL w.heap.size w' gv cap k ps ∧ DI w.heap.size w' gx capx m xs ∧ Le w w' := by
  have HO := Lib.hid (open_any A n c w h hc)
  clear h
  go_enter Tryd.func54, Tryd.ntmps54
  go_wp2_with fail
  refine HO.out.mono ?_; rintro e w1 ⟨rfl, r1⟩
  have HL := Lib.hid (both_any _ _ _ _ _ _ _ r1 (by omega) (w.heap.size + 1) (Nat.le_refl _) r1.lt)
  clear r1
  go_wp2_with fail
  refine HL.out.mono ?_; rintro e w2 ⟨gv, cap, k, ps, gx, capx, m, xs, q, rfl, d2, i2, r2, _, _⟩
  have D2 := Lib.hid d2
  have I2 := Lib.hid i2
  have R2 := Lib.hid r2
  clear d2 i2 r2
  go_wp2
  go_ret2
  exact ⟨gv, cap, k, ps, gx, capx, m, xs, rfl, D2.out.base (by omega), I2.out.base (by omega), R2.out.le⟩

set_option maxRecDepth 20000 in
set_option maxHeartbeats 1000000 in
theorem drawUseFirst_any (A : Option Addr) (n c : Nat) (w : World) (h : RB w A n) (hc : n ≤ c) :
    Calls Tryd.prog 56 #[.slice A n c] w fun e w' => ∃ gv cap k ps gx capx m xs, e = .returned (.tuple #[.slice (some ⟨gv, 0, none⟩) k cap, .slice (some ⟨gx, 0, none⟩) m capx]) ∧ DL w.heap.size w' gv cap k ps ∧ DI w.heap.size w' gx capx m xs ∧ Le w w' := by
  have HO := Lib.hid (open_any A n c w h hc)
  clear h
  go_enter Tryd.func56, Tryd.ntmps56
  go_wp2_with fail
  refine HO.out.mono ?_; rintro e w1 ⟨rfl, r1⟩
  have HL := Lib.hid (both_any _ _ _ _ _ _ _ r1 (by omega) (w.heap.size + 1) (Nat.le_refl _) r1.lt)
  clear r1
  go_wp2_with fail
  refine HL.out.mono ?_; rintro e w2 ⟨gv, cap, k, ps, gx, capx, m, xs, q, rfl, d2, i2, r2, _, _⟩
  have D2 := Lib.hid d2
  have I2 := Lib.hid i2
  have R2 := Lib.hid r2
  clear d2 i2 r2
  go_wp2
  go_ret2
  exact ⟨gv, cap, k, ps, gx, capx, m, xs, rfl, D2.out.base (by omega), I2.out.base (by omega), R2.out.le⟩

set_option maxRecDepth 20000 in
set_option maxHeartbeats 1000000 in
theorem drawUseBound_any (A : Option Addr) (n c : Nat) (w : World) (h : RB w A n) (hc : n ≤ c) :
    Calls Tryd.prog 49 #[.slice A n c] w fun e w' => ∃ gv cap k ps gx capx m xs, ∃ day : Int, e = .returned (.tuple #[.slice (some ⟨gv, 0, none⟩) k cap, .slice (some ⟨gx, 0, none⟩) m capx, .int .i64 day]) ∧ DL w.heap.size w' gv cap k ps ∧ DI w.heap.size w' gx capx m xs ∧ (-1 ≤ day ∧ day ≤ 7) ∧ Le w w' := by
  have HO := Lib.hid (open_any A n c w h hc)
  clear h
  go_enter Tryd.func49, Tryd.ntmps49
  go_wp2_with fail
  refine HO.out.mono ?_; rintro e w1 ⟨rfl, r1⟩
  have HL := Lib.hid (both_any _ _ _ _ _ _ _ r1 (by omega) (w.heap.size + 1) (Nat.le_refl _) r1.lt)
  clear r1
  go_wp2_with fail
  refine HL.out.mono ?_; rintro e w2 ⟨gv, cap, k, ps, gx, capx, m, xs, q, rfl, d2, i2, r2, q2, _⟩
  have HP := Lib.hid (pick_any _ _ _ _ _ _ _ 9 r2 (by omega) (by omega) (by omega))
  have D2 := Lib.hid d2
  have I2 := Lib.hid i2
  clear d2 i2 r2
  go_wp2_with fail
  refine HP.out.mono ?_; rintro e w3 ⟨x, rfl, hx, r3, c3⟩
  have R3 := Lib.hid r3
  have C3 := Lib.hid c3
  clear r3 c3
  go_wp2
  (try simp only [Exit.inBlock, Exit.then])
  refine bodyPost_ret (results_tmp3 rfl _ _ _) rfl ?_
  exact ⟨gv, cap, k, ps, gx, capx, m, xs, (x : Int) - 1, rfl, (D2.out.chg C3.out (Nat.le_refl _)).base (by omega), (I2.out.chg C3.out (Nat.le_refl _)).base (by omega), by omega, R3.out.le⟩

set_option maxRecDepth 20000 in
set_option maxHeartbeats 2000000 in
theorem drawTakeFirst_any (A : Option Addr) (n c : Nat) (w : World) (h : RB w A n) (hc : n ≤ c) :
    Calls Tryd.prog 45 #[.slice A n c] w fun e w' => ∃ gv cap k ps, ∃ day want : Int, e = .returned (.tuple #[.slice (some ⟨gv, 0, none⟩) k cap, .int .i64 day, .int .i64 want]) ∧ DL w.heap.size w' gv cap k ps ∧ (-1 ≤ day ∧ day ≤ 6) ∧ (-40 ≤ want ∧ want ≤ 60) ∧ Le w w' := by
  have HO := Lib.hid (open_any A n c w h hc)
  clear h
  go_enter Tryd.func45, Tryd.ntmps45
  go_wp2_with fail
  refine HO.out.mono ?_; rintro e w1 ⟨rfl, r1⟩
  have HL := Lib.hid (lots_dl _ _ _ _ _ _ _ 9 r1 (by omega) (by omega) (by omega) (w.heap.size + 1) r1.lt)
  clear r1
  go_wp2_with fail
  refine HL.out.mono ?_; rintro e w2 ⟨gv, cap, k, ps, q, rfl, d2, r2, q2, _⟩
  have HP := Lib.hid (pick_any _ _ _ _ _ _ _ 8 r2 (by omega) (by omega) (by omega))
  have D2 := Lib.hid d2
  clear d2 r2
  go_wp2_with fail
  refine HP.out.mono ?_; rintro e w3 ⟨x, rfl, hx, r3, c3⟩
  have HP3 := Lib.hid (pick_any _ _ _ _ _ _ _ 30 r3 (by omega) (by omega) (by omega))
  have C3 := Lib.hid c3
  clear r3 c3
  go_wp2_with fail
  refine HP3.out.mono ?_; rintro e w4 ⟨y, rfl, hy, r4, c4⟩
  have HP4 := Lib.hid (pick_any _ _ _ _ _ _ _ 20 r4 (by omega) (by omega) (by omega))
  have C4 := Lib.hid (C3.out.trans c4)
  clear r4 c4
  go_wp2_with fail
  refine HP4.out.mono ?_; rintro e w5 ⟨z, rfl, hz, r5, c5⟩
  have HP5 := Lib.hid (pick_any _ _ _ _ _ _ _ 20 r5 (by omega) (by omega) (by omega))
  have C5 := Lib.hid (C4.out.trans c5)
  clear r5 c5
  obtain ⟨z1, hz1, hz2⟩ : ∃ z1 : Nat, (z : Int) / 19 = (z1 : Int) ∧ z1 ≤ 1 := ⟨z / 19, by omega, by omega⟩
  go_wp2_with fail
  refine HP5.out.mono ?_; rintro e w6 ⟨u, rfl, hu, r6, c6⟩
  have R6 := Lib.hid r6
  have C6 := Lib.hid (C5.out.trans c6)
  clear r6 c6
  obtain ⟨u1, hu1, hu2⟩ : ∃ u1 : Nat, (u : Int) / 19 = (u1 : Int) ∧ u1 ≤ 1 := ⟨u / 19, by omega, by omega⟩
  go_wp2
  (try simp only [Exit.inBlock, Exit.then])
  refine bodyPost_ret (results_tmp3 rfl _ _ _) rfl ?_
  exact ⟨gv, cap, k, ps, (x : Int) - 1, (y : Int) + (z1 : Int) * 30 - (u1 : Int) * 40, rfl, (D2.out.chg C6.out (Nat.le_refl _)).base (by omega), by omega, by omega, R6.out.le⟩



set_option maxRecDepth 20000 in
set_option maxHeartbeats 400000 in
theorem lawSum_any (A : Option Addr) (n c : Nat) (xs : List Int) (w : World) (h : RI w A n xs) :
    Calls Tryd.prog 38 #[.slice A n c] w fun e w' => e = .returned (.int .i64 (sumW (gi xs) n)) ∧ w = w' := by
  have hm := h.max
  have HC := Lib.hid h.at_
  clear h
  go_enter Tryd.func38, Tryd.ntmps38
  go_wp2
  go_loop [3, 4] (fun v i => ∃ k : Nat, k ≤ n ∧ i = .int .i64 k ∧ v = .int .i64 (sumW (gi xs) k)) (fun _ i => n - (intOf i).toNat)
  case atStart => exact ⟨0, Nat.zero_le _, rfl, rfl⟩
  case round =>
    obtain ⟨k, hk, rfl, rfl⟩ := hrel
    by_cases hlt : k < n
    · obtain ⟨ad, rfl, hcell⟩ := HC.out k hlt
      go_wp2
      go_round
      case rel => exact ⟨k + 1, by omega, by go_num, by rw [sumW_succ]⟩
      case measure => simp [intOf]; omega
    · go_wp2
      go_ret
      obtain rfl : k = n := by omega
      exact ⟨rfl, rfl⟩

end Go.Proofs.YteeklaplnhafoaaDoor
