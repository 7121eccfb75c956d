/- Walks: what is drawn from the code for items: l20Item, l20Items. -/
import Derived.Test.YtoahjfofnaafaaaDoorWPick
import Derived.Test.YtoahjfofnaafaaaDoorWItV
import Derived.Test.YtoahjfofnaafaaaDoorPLast
import Derived.Deep.RegionHeld3
import Derived.Deep.AppendLies
import Derived.Deep.RegionWith
namespace Go.Proofs.YtoahjfofnaafaaaDoor
open Go.RowKit

theorem Chg.own2 {lo hi : Nat} {w w' : World} {base : Nat} {e : TypeId} {size : Nat} {v : Value} {n : Nat} {xs : List Value} (h : w.ownsRow base e size v n xs) (hc : Chg lo hi w w') (hb : hi ≤ base) : w'.ownsRow base e size v n xs :=
  Chg.own h hc fun g hg => .inr (Nat.le_trans hb (h.lt g hg).1)
theorem Chg.row {lo hi : Nat} {w w1 w2 : World} {row : Option Nat} (h : Chg lo hi w w1) (hg : w1.grownBy w2 row) (hr : ∀ k, row = some k → w.heap.size ≤ k) : Chg lo hi w w2 :=
  ⟨hg.os.trans h.os, hg.tape.trans h.tape, hg.output.trans h.output, Nat.le_trans h.size hg.size, fun k hk h2 => (hg.block k (Nat.lt_of_lt_of_le hk h.size) (fun e => by have := hr k e.symm; omega)).trans (h.block k hk h2)⟩
theorem Chg.more {lo hi : Nat} {w w1 w2 : World} (h : Chg lo hi w w1) (hl : Le w1 w2) : Chg lo hi w w2 := h.trans (Chg.of_le hl)
theorem Chg.set1 {lo hi : Nat} {w w1 : World} {b : Nat} (h : Chg lo hi w w1) (hb : w.heap.size ≤ b) (i : Nat) (u : Value) : Chg lo hi w (w1.setCell ⟨b, i, none⟩ u) :=
  h.row (gb_setCell (World.grownBy.refl _ (some b)) rfl u) fun k hk => by injection hk with hk; omega
/-- the reader, and the box of an item that is being drawn -/
structure BX (W w : World) (g : Nat) (A : Option Addr) (n c p b : Nat) (y : Int) (u : Value) (mk : Int) (wr : World) : Prop where
  rd : Rd W wr g A n c p
  chg : Chg g (g + 1) w wr
  blk : Blk wr b 26 #[.int .i64 y, u, .int .i64 mk]
  res : Blk wr w.heap.size 26 #[.int .i64 0, .slice none 0 0, .int .i64 0]
  base : w.heap.size < b
  low : g < w.heap.size
section
variable {W w wr w' : World} {g : Nat} {A : Option Addr} {n c p b : Nat} {y : Int} {u : Value} {mk : Int}
theorem BX.le (h : BX W w g A n c p b y u mk wr) (hl : Le wr w') : BX W w g A n c p b y u mk w' := ⟨h.rd.more hl, h.chg.more hl, h.blk.le hl, h.res.le hl, h.base, h.low⟩
theorem BX.grown {row : Option Nat} (h : BX W w g A n c p b y u mk wr) (hg : wr.grownBy w' row) (hr : ∀ k, row = some k → b < k) : BX W w g A n c p b y u mk w' :=
  ⟨h.rd.grown hg (fun k hk => by have := hr k hk; have := h.low; have := h.base; omega), h.chg.row hg (fun k hk => by have := hr k hk; have := h.base; omega), h.blk.grown hg (fun e => by have := hr b e.symm; omega), h.res.grown hg (fun e => by have := hr _ e.symm; have := h.base; omega), h.base, h.low⟩
theorem BX.pick (h : BX W w g A n c p b y u mk wr) (hp : p ≤ 1000000) (N : Nat) (h1 : 1 ≤ N) (h2 : N ≤ 1000000) :
    Calls Tryd.prog 41 #[.pointer (some ⟨g, 0, none⟩), .int .i64 (N : Int)] wr fun e w' => ∃ x : Nat, e = .returned (.int .i64 (x : Int)) ∧ x < N ∧ BX W w g A n c (p + 1) b y u mk w' ∧ Chg g (g + 1) wr w' :=
  (pick_any _ _ _ _ _ _ _ N h.rd hp h1 h2).mono fun _ _ ⟨x, he, hx, r, hc⟩ => ⟨x, he, hx, ⟨r, h.chg.trans hc, (hc.block b h.blk.lt (.inr (by have := h.low; have := h.base; omega))).trans h.blk, (hc.block _ h.res.lt (.inr h.low)).trans h.res, h.base, h.low⟩, hc⟩
theorem BX.odd (h : BX W w g A n c p b y u mk wr) (hp : p ≤ 1000000) (N : Nat) (h1 : 1 ≤ N) (h2 : N ≤ 1000000) :
    Calls Tryd.prog 77 #[.pointer (some ⟨g, 0, none⟩), .int .i64 (N : Int)] wr fun e w' => ∃ t : Bool, e = .returned (.bool t) ∧ BX W w g A n c (p + 1) b y u mk w' ∧ Chg g (g + 1) wr w' :=
  (odd_any _ _ _ _ _ _ _ N h.rd hp h1 h2).mono fun _ _ ⟨x, he, r, hc⟩ => ⟨x, he, ⟨r, h.chg.trans hc, (hc.block b h.blk.lt (.inr (by have := h.low; have := h.base; omega))).trans h.blk, (hc.block _ h.res.lt (.inr h.low)).trans h.res, h.base, h.low⟩, hc⟩
theorem BX.set_ (h : BX W w g A n c p b y u mk wr) (i : Nat) (v : Value) : Rd W (wr.setCell ⟨b, i, none⟩ v) g A n c p ∧ Chg g (g + 1) w (wr.setCell ⟨b, i, none⟩ v) ∧ Blk (wr.setCell ⟨b, i, none⟩ v) b 26 ((#[.int .i64 y, u, .int .i64 mk] : Array Value).setIfInBounds i v) ∧ Blk (wr.setCell ⟨b, i, none⟩ v) w.heap.size 26 #[.int .i64 0, .slice none 0 0, .int .i64 0] :=
  ⟨h.rd.grown (gb_setCell (World.grownBy.refl _ (some b)) rfl v) (fun k hk => by injection hk with hk; have := h.low; have := h.base; omega), h.chg.set1 (Nat.le_of_lt h.base) i v, h.blk.set_ i v, h.res.far (Nat.ne_of_lt h.base) v⟩
theorem BX.setY (h : BX W w g A n c p b y u mk wr) (z : Int) : BX W w g A n c p b z u mk (wr.setCell ⟨b, 0, none⟩ (.int .i64 z)) := by
  obtain ⟨h1, h2, h3, h4⟩ := h.set_ 0 (.int .i64 z); exact ⟨h1, h2, by simpa using h3, h4, h.base, h.low⟩
theorem BX.setU (h : BX W w g A n c p b y u mk wr) (v : Value) : BX W w g A n c p b y v mk (wr.setCell ⟨b, 1, none⟩ v) := by
  obtain ⟨h1, h2, h3, h4⟩ := h.set_ 1 v; exact ⟨h1, h2, by simpa using h3, h4, h.base, h.low⟩
theorem BX.setM (h : BX W w g A n c p b y u mk wr) (z : Int) : BX W w g A n c p b y u z (wr.setCell ⟨b, 2, none⟩ (.int .i64 z)) := by
  obtain ⟨h1, h2, h3, h4⟩ := h.set_ 2 (.int .i64 z); exact ⟨h1, h2, by simpa using h3, h4, h.base, h.low⟩
theorem BX.done {t : TypeId} {v : Value} {m : Nat} {xs : List Value} (h : BX W w g A n c p b y u mk wr) (o : wr.ownsRow (b + 1) t 2 v m xs) :
    Rd W (((wr.setCell ⟨w.heap.size, 0, none⟩ (.int .i64 y)).setCell ⟨w.heap.size, 1, none⟩ u).setCell ⟨w.heap.size, 2, none⟩ (.int .i64 mk)) g A n c p ∧ Chg g (g + 1) w (((wr.setCell ⟨w.heap.size, 0, none⟩ (.int .i64 y)).setCell ⟨w.heap.size, 1, none⟩ u).setCell ⟨w.heap.size, 2, none⟩ (.int .i64 mk)) ∧
    (((wr.setCell ⟨w.heap.size, 0, none⟩ (.int .i64 y)).setCell ⟨w.heap.size, 1, none⟩ u).setCell ⟨w.heap.size, 2, none⟩ (.int .i64 mk)).ownsRow w.heap.size t 2 v m xs := by
  have hg := gb_setCell (gb_setCell (gb_setCell (World.grownBy.refl wr (some w.heap.size)) (p := ⟨w.heap.size, 0, none⟩) rfl (.int .i64 y)) (p := ⟨w.heap.size, 1, none⟩) rfl u) (p := ⟨w.heap.size, 2, none⟩) rfl (.int .i64 mk)
  refine ⟨h.rd.grown hg fun k hk => by injection hk with hk; have := h.low; omega, h.chg.row hg fun k hk => by injection hk with hk; omega, ?_⟩
  have q : ∀ k, v.ownBlock = some k → b + 1 ≤ k := fun k hk => (o.lt k hk).1
  have hb := h.base
  have ne : v.ownBlock ≠ some w.heap.size := fun e => by have := q _ e; omega
  exact own_mono (own_far (own_far (own_far o (p := ⟨w.heap.size, 0, none⟩) ne (.int .i64 y)) (p := ⟨w.heap.size, 1, none⟩) ne u) (p := ⟨w.heap.size, 2, none⟩) ne (.int .i64 mk)) (by omega)
end
/-- one item, its parts in a row of the call's own; with N = 0 a valid one -/
def DrI (W w : World) (g : Nat) (A : Option Addr) (n c p index N q : Nat) (e : Ending) (w' : World) : Prop :=
  ∃ (y mk : Int) (v : Value) (ps : List (Int × Int)) (p' : Nat), e = .returned (.agg #[.int .i64 y, v, .int .i64 mk]) ∧ w'.ownsRow w.heap.size 80 2 v ps.length (pairs ps) ∧ ps.length ≤ 4 ∧ (-1 ≤ y ∧ y ≤ 7) ∧ (-1 ≤ mk ∧ mk ≤ 32) ∧ (N = 0 → itemL (y, ps, mk) index = true) ∧ Rd W w' g A n c p' ∧ p' ≤ p + q ∧ Chg g (g + 1) w w'
/-- the parts drawn so far -/
def PO (ps : List (Int × Int)) (j : Nat) : Prop := ∀ t, t < ps.length → (0 ≤ (gp ps t).1 ∧ (gp ps t).1 < j) ∧ (1 ≤ (gp ps t).2 ∧ (gp ps t).2 ≤ 6) ∧ (0 < t → (gp ps (t - 1)).1 < (gp ps t).1)
theorem PO.up {ps : List (Int × Int)} {j : Nat} (h : PO ps j) : PO ps (j + 1) := fun t ht => by have := h t ht; omega
theorem gp_app_lt {ps qs : List (Int × Int)} {k : Nat} (h : k < ps.length) : gp (ps ++ qs) k = gp ps k := by
  unfold gp; rw [List.getD_eq_getElem?_getD, List.getD_eq_getElem?_getD, List.getElem?_append_left h]
theorem gp_app_at (ps : List (Int × Int)) (q : Int × Int) : gp (ps ++ [q]) ps.length = q := by
  unfold gp; simp [List.getD_eq_getElem?_getD]
theorem PO.snoc {ps : List (Int × Int)} {j : Nat} (h : PO ps j) {q : Int} (hq : 1 ≤ q ∧ q ≤ 4) : PO (ps ++ [((j : Int), q)]) (j + 1) := by
  intro t ht
  rw [List.length_append, List.length_singleton] at ht
  by_cases e : t = ps.length
  · subst e
    rw [gp_app_at]
    refine ⟨by simp only; omega, by simp only; omega, fun h0 => ?_⟩
    rw [gp_app_lt (by omega)]
    exact (h _ (by omega)).1.2
  · rw [gp_app_lt (by omega), gp_app_lt (by omega)]
    have := h t (by omega)
    omega
theorem PO.valid {ps : List (Int × Int)} {j index m : Nat} (h : PO ps j) (hj : j ≤ index) (hl : ps.length = m) (h0 : 0 < m) (h3 : m ≤ 3) {y mk : Int} (hy : 1 ≤ y ∧ y ≤ 6) (hm : 0 ≤ mk ∧ mk ≤ 31) : itemL (y, ps, mk) (index : Int) = true := by
  unfold itemL
  simp only [Bool.and_eq_true, List.all_eq_true, List.mem_range, inB_t, decide_eq_true_eq, beq_iff_eq, decide_eq_decide]
  refine ⟨fun t ht => ?_, ⟨⟨by omega, by omega⟩, by omega⟩, hm⟩
  have := h t ht
  unfold partB
  simp only [Bool.and_eq_true, Bool.or_eq_true, inB_t, decide_eq_true_eq]
  refine ⟨⟨by omega, by omega⟩, ?_⟩
  by_cases e : t = 0
  · exact .inl e
  · exact .inr (this.2.2 (by omega))
/-- an append at a step of a region that draws its order: whatever the room -/
theorem step_append_own {P : Program} {w : World} {ops : Array Oper} {o : Oper} {a : Act} {K : Act → World → Prop} {Q : Exit → Act → World → Prop} {E : Prop} (hgd : o.guard = none) (d : Option Tmp) (hd : o.dst = d) (s x : Operand) (t : TypeId)
    (ho : o.op = .call { callee := .builtin .append, args := #[s, x], argTypes := #[t, t] })
    (base : Nat) (e : TypeId) (i : TypeInfo) (z : Value) (size bytes : Nat) (ht : P.underlying t = some (.slice e)) (hi : P.info? e = some i) (hz : i.zero = some z)
    (hsize : i.size = size) (hby : i.bytes = bytes) (hzs : z.cells.size = size) (hsz : 0 < size)
    (v : Value) (n : Nat) (xs : List Value) (hs : a.eval s = v) (hown : w.ownsRow base e size v n xs)
    (ad : Addr) (m c : Nat) (news : List Value) (hx : a.eval x = .slice (some ad) m c) (hl : news.length = m * size) (hnews : ∀ j u, news[j]? = some u → w.cell? (ad.add j) = some u) (h1 : ∀ u ∈ news, u.oneCell' = true)
    (h63 : n + m ≤ maxLen) (hbytes : (n + m) * bytes ≤ 140737488355328) (hbase : base ≤ w.heap.size)
    (h : ∀ v' w', w'.ownsRow base e size v' (n + m) (xs ++ news) → w.grownBy w' v.ownBlock → (v' = .slice none 0 0 ↔ v = .slice none 0 0 ∧ m = 0) → K (a.put d v') w') :
    if Region.wanted o (yielded ops a.tmps) = true then Oper.wp P o a w K Q else E := by
  have hw : Region.wanted o (yielded ops a.tmps) = true := by simp [Region.wanted, hgd]
  rw [if_pos hw]
  subst hd
  exact wp_append_own w s x t ho base e i z size bytes ht hi hz hsize hby hzs hsz v n xs hs hown ad m c news hx hl hnews h1 h63 hbytes hbase h
set_option maxRecDepth 20000 in
set_option maxHeartbeats 8000000 in
theorem l20Item_any (W w : World) (g : Nat) (A : Option Addr) (n c p index N : Nat) (h : Rd W w g A n c p) (hp : p ≤ 900000) (hi : index ≤ 7) (hN : N ≤ 1000) :
    Calls Tryd.prog 40 #[.pointer (some ⟨g, 0, none⟩), .int .i64 (index : Int), .int .i64 (N : Int)] w (DrI W w g A n c p index N 40) := by
  obtain ⟨i0, hi0, hz0, hz1, hz2⟩ := info_parts infoPart
  have hgw := h.lt
  have l0 := (Le.refl w).alloc (.cells #[.int .i64 0, .slice none 0 0, .int .i64 0] 26)
  have k0 := Blk.new w 26 #[.int .i64 0, .slice none 0 0, .int .i64 0]
  have HP1 := Lib.hid (pick_any W _ g A n c p 32 (h.more l0) (by omega) (by omega) (by omega))
  have C0 := Lib.hid (Chg.of_le (lo := g) (hi := g + 1) l0)
  have K0 := Lib.hid k0
  clear h l0 k0
  go_enter Tryd.func40, Tryd.ntmps40
  go_wp2_with fail
  refine HP1.out.mono ?_; rintro e w1 ⟨x1, rfl, hx1, r1, c1⟩
  have C1 := Lib.hid (C0.out.trans c1)
  have K1 := Lib.hid (show Blk w1 w.heap.size _ _ from (c1.block _ K0.out.lt (.inr hgw)).trans K0.out)
  have HP2 := Lib.hid (pick_any _ _ _ _ _ _ _ 2 r1 (by omega) (by omega) (by omega))
  clear r1 c1
  go_wp2_with fail
  refine HP2.out.mono ?_; rintro e w2 ⟨x2, rfl, hx2, r2, c2⟩
  have C2 := Lib.hid (C1.out.trans c2)
  have K2 := Lib.hid (show Blk w2 w.heap.size _ _ from (c2.block _ K1.out.lt (.inr hgw)).trans K1.out)
  have R2 := Lib.hid r2
  clear r2 c2
  obtain ⟨mk, hmk, hm⟩ : ∃ mk : Int, wrap64 ((x1 : Int) * (x2 : Int)) = mk ∧ (0 ≤ mk ∧ mk ≤ 31) := by
    refine ⟨_, rfl, ?_⟩
    rcases (show x2 = 0 ∨ x2 = 1 by omega) with rfl | rfl
    · rw [show (x1 : Int) * ((0 : Nat) : Int) = 0 by simp, IntWalk.wrap64_in _ (by omega)]; omega
    · rw [show (x1 : Int) * ((1 : Nat) : Int) = x1 by simp, IntWalk.wrap64_in _ (by omega)]; omega
  obtain ⟨b, hb⟩ : ∃ b, w2.heap.size = b := ⟨_, rfl⟩
  obtain ⟨w3, hw3⟩ : ∃ w3, w2.alloc (.cells #[.int .i64 0, .slice none 0 0, .int .i64 mk] 26) = w3 := ⟨_, rfl⟩
  have B3 := Lib.hid (show BX W w g A n c (p + 1 + 1) b 0 (.slice none 0 0) mk w3 from by
    have l3 := (Le.refl w2).alloc (.cells #[.int .i64 0, .slice none 0 0, .int .i64 mk] 26)
    have k3 := Blk.new w2 26 #[.int .i64 0, .slice none 0 0, .int .i64 mk]
    have hs := K2.out.lt
    rw [hw3] at l3 k3
    rw [hb] at k3 hs
    exact ⟨R2.out.more l3, C2.out.more l3, k3, K2.out.le l3, hs, hgw⟩)
  have O3 := Lib.hid (World.ownsRow_nil w3 (b + 1) 80 2)
  clear HP1 HP2 C0 C1 C2 K0 K1 K2 R2
  have hgb : g < b := by have h1 := B3.out.low; have h2 := B3.out.base; omega
  by_cases hix : index = 0
  · subst hix
    have HV := Lib.hid (show itemL (0, [], mk) ((0 : Nat) : Int) = true from by
      unfold itemL
      simp [inB]; omega)
    by_cases hN0 : N = 0
    · subst hN0
      go_wp2_with fail
      refine (odd_zero g _).mono ?_; rintro e w' ⟨rfl, rfl⟩
      have FN := Lib.hid (B3.out.done O3.out)
      have a0 := B3.out.blk.cell 0
      have r0 := B3.out.res.cell 0
      have z0 := B3.out.res.frozen 0
      have a1 := B3.out.blk.cell 1
      have r1 := B3.out.res.cell 1
      have z1 := B3.out.res.frozen 1
      have a2 := B3.out.blk.cell 2
      have r2 := B3.out.res.cell 2
      have z2 := B3.out.res.frozen 2
      simp at a0 a1 a2 r0 r1 r2
      go_wp2
      refine bodyPost_ret (v := .agg #[.int .i64 0, (.slice none 0 0), .int .i64 mk]) (by simp [results, Tryd.results40, go_sem, r0, r1, r2]) rfl ⟨0, mk, (.slice none 0 0), [], (p + 1 + 1), rfl, FN.out.2.2, by simp, by omega, by omega, fun _ => HV.out, FN.out.1, by omega, FN.out.2.1⟩
    · go_wp2_with fail
      refine (B3.out.odd (by omega) N (by omega) (by omega)).mono ?_; rintro e w4 ⟨tt, rfl, b4, c4⟩
      have O4 := Lib.hid (Chg.own2 O3.out c4 (by omega))
      have B4 := Lib.hid b4
      clear b4 c4
      cases tt
      · have FN := Lib.hid (B4.out.done O4.out)
        have a0 := B4.out.blk.cell 0
        have r0 := B4.out.res.cell 0
        have z0 := B4.out.res.frozen 0
        have a1 := B4.out.blk.cell 1
        have r1 := B4.out.res.cell 1
        have z1 := B4.out.res.frozen 1
        have a2 := B4.out.blk.cell 2
        have r2 := B4.out.res.cell 2
        have z2 := B4.out.res.frozen 2
        simp at a0 a1 a2 r0 r1 r2
        go_wp2
        refine bodyPost_ret (v := .agg #[.int .i64 0, (.slice none 0 0), .int .i64 mk]) (by simp [results, Tryd.results40, go_sem, r0, r1, r2]) rfl ⟨0, mk, (.slice none 0 0), [], ((p + 1 + 1) + 1), rfl, FN.out.2.2, by simp, by omega, by omega, fun h => absurd h hN0, FN.out.1, by omega, FN.out.2.1⟩
      · go_wp2_with fail
        refine (B4.out.pick (by omega) 4 (by omega) (by omega)).mono ?_; rintro e w5 ⟨x5, rfl, hx5, b5, c5⟩
        have O5 := Lib.hid (Chg.own2 O4.out c5 (by omega))
        have B5 := Lib.hid b5
        clear b5 c5
        rcases (show x5 = 0 ∨ x5 = 1 ∨ x5 = 2 ∨ x5 = 3 by omega) with rfl | rfl | rfl | rfl
        · have k6 := Blk.new w5 3 #[.int .i64 (-1), .int .i64 32]
          have l6 := (Le.refl w5).alloc (.cells #[.int .i64 (-1), .int .i64 32] 3)
          obtain ⟨w6, hw6⟩ : ∃ w6, w5.alloc (.cells #[.int .i64 (-1), .int .i64 32] 3) = w6 := ⟨_, rfl⟩
          rw [hw6] at k6 l6
          have B6 := Lib.hid (B5.out.le l6)
          have O6 := Lib.hid (own_Le O5.out l6)
          have K6 := Lib.hid k6
          have hg5 : g < w5.heap.size := B5.out.rd.lt
          clear k6 l6
          go_wp2_with fail
          refine (B6.out.pick (by omega) 2 (by omega) (by omega)).mono ?_; rintro e w7 ⟨x7, rfl, hx7, b7, c7⟩
          have k7 : Blk w7 w5.heap.size _ _ := (c7.block _ K6.out.lt (.inr hg5)).trans K6.out
          have O7 := Lib.hid (Chg.own2 O6.out c7 (by omega))
          have B7 := Lib.hid b7
          clear b7 c7 hw6
          rcases (show x7 = 0 ∨ x7 = 1 by omega) with rfl | rfl
          · have s0 := k7.cell 0
            have s1 := B7.out.blk.cell 2
            have s2 := B7.out.blk.frozen 2
            simp at s0 s1
            have B8 := Lib.hid (B7.out.setM (-1))
            have O8 := Lib.hid (own_far O7.out (p := ⟨b, 2, none⟩) (fun e => by have h9 : b + 1 ≤ b := (O7.out.lt _ e).1; omega) (.int .i64 (-1)))
            obtain ⟨w8, hw8⟩ : ∃ w8, w7.setCell ⟨b, 2, none⟩ (.int .i64 (-1)) = w8 := ⟨_, rfl⟩
            rw [hw8] at B8 O8
            clear k7
            have FN := Lib.hid (B8.out.done O8.out)
            have a0 := B8.out.blk.cell 0
            have r0 := B8.out.res.cell 0
            have z0 := B8.out.res.frozen 0
            have a1 := B8.out.blk.cell 1
            have r1 := B8.out.res.cell 1
            have z1 := B8.out.res.frozen 1
            have a2 := B8.out.blk.cell 2
            have r2 := B8.out.res.cell 2
            have z2 := B8.out.res.frozen 2
            simp at a0 a1 a2 r0 r1 r2
            go_wp2
            refine bodyPost_ret (v := .agg #[.int .i64 0, (.slice none 0 0), .int .i64 (-1)]) (by simp [results, Tryd.results40, go_sem, r0, r1, r2]) rfl ⟨0, (-1), (.slice none 0 0), [], ((p + 1 + 1) + 1 + 1 + 1), rfl, FN.out.2.2, by simp, by omega, by omega, fun h => absurd h hN0, FN.out.1, by omega, FN.out.2.1⟩
          · have s0 := k7.cell 1
            have s1 := B7.out.blk.cell 2
            have s2 := B7.out.blk.frozen 2
            simp at s0 s1
            have B8 := Lib.hid (B7.out.setM 32)
            have O8 := Lib.hid (own_far O7.out (p := ⟨b, 2, none⟩) (fun e => by have h9 : b + 1 ≤ b := (O7.out.lt _ e).1; omega) (.int .i64 32))
            obtain ⟨w8, hw8⟩ : ∃ w8, w7.setCell ⟨b, 2, none⟩ (.int .i64 32) = w8 := ⟨_, rfl⟩
            rw [hw8] at B8 O8
            clear k7
            have FN := Lib.hid (B8.out.done O8.out)
            have a0 := B8.out.blk.cell 0
            have r0 := B8.out.res.cell 0
            have z0 := B8.out.res.frozen 0
            have a1 := B8.out.blk.cell 1
            have r1 := B8.out.res.cell 1
            have z1 := B8.out.res.frozen 1
            have a2 := B8.out.blk.cell 2
            have r2 := B8.out.res.cell 2
            have z2 := B8.out.res.frozen 2
            simp at a0 a1 a2 r0 r1 r2
            go_wp2
            refine bodyPost_ret (v := .agg #[.int .i64 0, (.slice none 0 0), .int .i64 32]) (by simp [results, Tryd.results40, go_sem, r0, r1, r2]) rfl ⟨0, 32, (.slice none 0 0), [], ((p + 1 + 1) + 1 + 1 + 1), rfl, FN.out.2.2, by simp, by omega, by omega, fun h => absurd h hN0, FN.out.1, by omega, FN.out.2.1⟩
        · have k6 := Blk.new w5 3 #[.int .i64 (-1), .int .i64 7]
          have l6 := (Le.refl w5).alloc (.cells #[.int .i64 (-1), .int .i64 7] 3)
          obtain ⟨w6, hw6⟩ : ∃ w6, w5.alloc (.cells #[.int .i64 (-1), .int .i64 7] 3) = w6 := ⟨_, rfl⟩
          rw [hw6] at k6 l6
          have B6 := Lib.hid (B5.out.le l6)
          have O6 := Lib.hid (own_Le O5.out l6)
          have K6 := Lib.hid k6
          have hg5 : g < w5.heap.size := B5.out.rd.lt
          clear k6 l6
          go_wp2_with fail
          refine (B6.out.pick (by omega) 2 (by omega) (by omega)).mono ?_; rintro e w7 ⟨x7, rfl, hx7, b7, c7⟩
          have k7 : Blk w7 w5.heap.size _ _ := (c7.block _ K6.out.lt (.inr hg5)).trans K6.out
          have O7 := Lib.hid (Chg.own2 O6.out c7 (by omega))
          have B7 := Lib.hid b7
          clear b7 c7 hw6
          rcases (show x7 = 0 ∨ x7 = 1 by omega) with rfl | rfl
          · have s0 := k7.cell 0
            have s1 := B7.out.blk.cell 0
            have s2 := B7.out.blk.frozen 0
            simp at s0 s1
            have B8 := Lib.hid (B7.out.setY (-1))
            have O8 := Lib.hid (own_far O7.out (p := ⟨b, 0, none⟩) (fun e => by have h9 : b + 1 ≤ b := (O7.out.lt _ e).1; omega) (.int .i64 (-1)))
            obtain ⟨w8, hw8⟩ : ∃ w8, w7.setCell ⟨b, 0, none⟩ (.int .i64 (-1)) = w8 := ⟨_, rfl⟩
            rw [hw8] at B8 O8
            clear k7
            have FN := Lib.hid (B8.out.done O8.out)
            have a0 := B8.out.blk.cell 0
            have r0 := B8.out.res.cell 0
            have z0 := B8.out.res.frozen 0
            have a1 := B8.out.blk.cell 1
            have r1 := B8.out.res.cell 1
            have z1 := B8.out.res.frozen 1
            have a2 := B8.out.blk.cell 2
            have r2 := B8.out.res.cell 2
            have z2 := B8.out.res.frozen 2
            simp at a0 a1 a2 r0 r1 r2
            go_wp2
            refine bodyPost_ret (v := .agg #[.int .i64 (-1), (.slice none 0 0), .int .i64 mk]) (by simp [results, Tryd.results40, go_sem, r0, r1, r2]) rfl ⟨(-1), mk, (.slice none 0 0), [], ((p + 1 + 1) + 1 + 1 + 1), rfl, FN.out.2.2, by simp, by omega, by omega, fun h => absurd h hN0, FN.out.1, by omega, FN.out.2.1⟩
          · have s0 := k7.cell 1
            have s1 := B7.out.blk.cell 0
            have s2 := B7.out.blk.frozen 0
            simp at s0 s1
            have B8 := Lib.hid (B7.out.setY 7)
            have O8 := Lib.hid (own_far O7.out (p := ⟨b, 0, none⟩) (fun e => by have h9 : b + 1 ≤ b := (O7.out.lt _ e).1; omega) (.int .i64 7))
            obtain ⟨w8, hw8⟩ : ∃ w8, w7.setCell ⟨b, 0, none⟩ (.int .i64 7) = w8 := ⟨_, rfl⟩
            rw [hw8] at B8 O8
            clear k7
            have FN := Lib.hid (B8.out.done O8.out)
            have a0 := B8.out.blk.cell 0
            have r0 := B8.out.res.cell 0
            have z0 := B8.out.res.frozen 0
            have a1 := B8.out.blk.cell 1
            have r1 := B8.out.res.cell 1
            have z1 := B8.out.res.frozen 1
            have a2 := B8.out.blk.cell 2
            have r2 := B8.out.res.cell 2
            have z2 := B8.out.res.frozen 2
            simp at a0 a1 a2 r0 r1 r2
            go_wp2
            refine bodyPost_ret (v := .agg #[.int .i64 7, (.slice none 0 0), .int .i64 mk]) (by simp [results, Tryd.results40, go_sem, r0, r1, r2]) rfl ⟨7, mk, (.slice none 0 0), [], ((p + 1 + 1) + 1 + 1 + 1), rfl, FN.out.2.2, by simp, by omega, by omega, fun h => absurd h hN0, FN.out.1, by omega, FN.out.2.1⟩
        · have s1 := B5.out.blk.cell 1
          simp at s1
          go_wp2_with (at_builtin; refine wpList_append_own _ rfl _ _ 24 rfl (b + 1) 80 i0 _ 2 16 Tryd.underlying24 hi0 hz0 hz1 hz2 rfl (by decide) (.slice none 0 0) 0 (pairs []) rfl (O5.out.alloc _) ⟨w5.heap.size, 0, none⟩ 1 1 [.int .i64 0, .int .i64 1] rfl rfl (cell_two' w5 _ rfl _ _ _) (fun u hu => by simp at hu; rcases hu with rfl | rfl <;> rfl) (by unfold maxLen; omega) (by omega) (by have := B5.out.blk.lt; simp; omega) ?_)
          intro v6 w6 hown6 hgrow6 _
          obtain ⟨g6, c6, rfl⟩ : ∃ g6 c6, v6 = .slice (some ⟨g6, 0, none⟩) (0 + 1) c6 := by
            rcases hown6.2 with ⟨_, e⟩ | ⟨g', cap', cur, e, _⟩
            · omega
            · exact ⟨g', cap', e⟩
          have B6 := Lib.hid ((B5.out.le ((Le.refl w5).alloc (.cells #[.int .i64 0, .int .i64 1] 80))).grown hgrow6 (fun q hq => by have := (O5.out.lt q hq).1; omega))
          have O6 := Lib.hid (show w6.ownsRow (b + 1) 80 2 (.slice (some ⟨g6, 0, none⟩) (0 + 1) c6) ([] ++ [((0 : Int), (1 : Int))]).length (pairs ([] ++ [((0 : Int), (1 : Int))])) from by rw [pairs_snoc, List.length_append]; exact hown6)
          clear hown6 hgrow6 s1
          have s1 := B6.out.blk.cell 1
          have s2 := B6.out.blk.frozen 1
          simp at s1
          have B8 := Lib.hid (B6.out.setU (.slice (some ⟨g6, 0, none⟩) (0 + 1) c6))
          have O8 := Lib.hid (own_far O6.out (p := ⟨b, 1, none⟩) (fun e => by have h9 : b + 1 ≤ b := (O6.out.lt _ e).1; omega) (.slice (some ⟨g6, 0, none⟩) (0 + 1) c6))
          obtain ⟨w8, hw8⟩ : ∃ w8, w6.setCell ⟨b, 1, none⟩ (.slice (some ⟨g6, 0, none⟩) (0 + 1) c6) = w8 := ⟨_, rfl⟩
          rw [hw8] at B8 O8
          have FN := Lib.hid (B8.out.done O8.out)
          have a0 := B8.out.blk.cell 0
          have r0 := B8.out.res.cell 0
          have z0 := B8.out.res.frozen 0
          have a1 := B8.out.blk.cell 1
          have r1 := B8.out.res.cell 1
          have z1 := B8.out.res.frozen 1
          have a2 := B8.out.blk.cell 2
          have r2 := B8.out.res.cell 2
          have z2 := B8.out.res.frozen 2
          simp at a0 a1 a2 r0 r1 r2
          go_wp2
          refine bodyPost_ret (v := .agg #[.int .i64 0, (.slice (some ⟨g6, 0, none⟩) (0 + 1) c6), .int .i64 mk]) (by simp [results, Tryd.results40, go_sem, r0, r1, r2]) rfl ⟨0, mk, (.slice (some ⟨g6, 0, none⟩) (0 + 1) c6), ([] ++ [((0 : Int), (1 : Int))]), ((p + 1 + 1) + 1 + 1), rfl, FN.out.2.2, by simp, by omega, by omega, fun h => absurd h hN0, FN.out.1, by omega, FN.out.2.1⟩
        · have s0 := B5.out.blk.cell 0
          have t0 := B5.out.blk.frozen 0
          have s1 := B5.out.blk.cell 1
          have t1 := B5.out.blk.frozen 1
          have s2 := B5.out.blk.cell 2
          have t2 := B5.out.blk.frozen 2
          simp at s0 s1 s2
          have B8 := Lib.hid (((B5.out.setY 2).setU (.slice none 0 0)).setM 0)
          obtain ⟨w8, hw8⟩ : ∃ w8, ((w5.setCell ⟨b, 0, none⟩ (.int .i64 2)).setCell ⟨b, 1, none⟩ (.slice none 0 0)).setCell ⟨b, 2, none⟩ (.int .i64 0) = w8 := ⟨_, rfl⟩
          rw [hw8] at B8
          have O8 := Lib.hid (World.ownsRow_nil w8 (b + 1) 80 2)
          have FN := Lib.hid (B8.out.done O8.out)
          have a0 := B8.out.blk.cell 0
          have r0 := B8.out.res.cell 0
          have z0 := B8.out.res.frozen 0
          have a1 := B8.out.blk.cell 1
          have r1 := B8.out.res.cell 1
          have z1 := B8.out.res.frozen 1
          have a2 := B8.out.blk.cell 2
          have r2 := B8.out.res.cell 2
          have z2 := B8.out.res.frozen 2
          simp at a0 a1 a2 r0 r1 r2
          go_wp2
          refine bodyPost_ret (v := .agg #[.int .i64 2, (.slice none 0 0), .int .i64 0]) (by simp [results, Tryd.results40, go_sem, r0, r1, r2]) rfl ⟨2, 0, (.slice none 0 0), [], ((p + 1 + 1) + 1 + 1), rfl, FN.out.2.2, by simp, by omega, by omega, fun h => absurd h hN0, FN.out.1, by omega, FN.out.2.1⟩
  · have hix1 : (0 : Int) < (index : Int) := by omega
    go_wp2_with fail
    refine (B3.out.pick (by omega) 3 (by omega) (by omega)).mono ?_; rintro e w9 ⟨x9, rfl, hx9, b9, c9⟩
    have O9 := Lib.hid (Chg.own2 O3.out c9 (by omega))
    have B9 := Lib.hid b9
    clear b9 c9 hw3 hb
    by_cases hx90 : x9 = 0
    · subst hx90
      have HV := Lib.hid (show itemL (0, [], mk) (index : Int) = true from by
        unfold itemL
        simp [inB]; omega)
      by_cases hN0 : N = 0
      · subst hN0
        go_wp2_with fail
        refine (odd_zero g _).mono ?_; rintro e w' ⟨rfl, rfl⟩
        have FN := Lib.hid (B9.out.done O9.out)
        have a0 := B9.out.blk.cell 0
        have r0 := B9.out.res.cell 0
        have z0 := B9.out.res.frozen 0
        have a1 := B9.out.blk.cell 1
        have r1 := B9.out.res.cell 1
        have z1 := B9.out.res.frozen 1
        have a2 := B9.out.blk.cell 2
        have r2 := B9.out.res.cell 2
        have z2 := B9.out.res.frozen 2
        simp at a0 a1 a2 r0 r1 r2
        go_wp2
        refine bodyPost_ret (v := .agg #[.int .i64 0, (.slice none 0 0), .int .i64 mk]) (by simp [results, Tryd.results40, go_sem, r0, r1, r2]) rfl ⟨0, mk, (.slice none 0 0), [], (p + 1 + 1 + 1), rfl, FN.out.2.2, by simp, by omega, by omega, fun _ => HV.out, FN.out.1, by omega, FN.out.2.1⟩
      · go_wp2_with fail
        refine (B9.out.odd (by omega) N (by omega) (by omega)).mono ?_; rintro e w4 ⟨tt, rfl, b4, c4⟩
        have O4 := Lib.hid (Chg.own2 O9.out c4 (by omega))
        have B4 := Lib.hid b4
        clear b4 c4
        cases tt
        · have FN := Lib.hid (B4.out.done O4.out)
          have a0 := B4.out.blk.cell 0
          have r0 := B4.out.res.cell 0
          have z0 := B4.out.res.frozen 0
          have a1 := B4.out.blk.cell 1
          have r1 := B4.out.res.cell 1
          have z1 := B4.out.res.frozen 1
          have a2 := B4.out.blk.cell 2
          have r2 := B4.out.res.cell 2
          have z2 := B4.out.res.frozen 2
          simp at a0 a1 a2 r0 r1 r2
          go_wp2
          refine bodyPost_ret (v := .agg #[.int .i64 0, (.slice none 0 0), .int .i64 mk]) (by simp [results, Tryd.results40, go_sem, r0, r1, r2]) rfl ⟨0, mk, (.slice none 0 0), [], ((p + 1 + 1 + 1) + 1), rfl, FN.out.2.2, by simp, by omega, by omega, fun h => absurd h hN0, FN.out.1, by omega, FN.out.2.1⟩
        · go_wp2_with fail
          refine (B4.out.pick (by omega) 4 (by omega) (by omega)).mono ?_; rintro e w5 ⟨x5, rfl, hx5, b5, c5⟩
          have O5 := Lib.hid (Chg.own2 O4.out c5 (by omega))
          have B5 := Lib.hid b5
          clear b5 c5
          rcases (show x5 = 0 ∨ x5 = 1 ∨ x5 = 2 ∨ x5 = 3 by omega) with rfl | rfl | rfl | rfl
          · have k6 := Blk.new w5 3 #[.int .i64 (-1), .int .i64 32]
            have l6 := (Le.refl w5).alloc (.cells #[.int .i64 (-1), .int .i64 32] 3)
            obtain ⟨w6, hw6⟩ : ∃ w6, w5.alloc (.cells #[.int .i64 (-1), .int .i64 32] 3) = w6 := ⟨_, rfl⟩
            rw [hw6] at k6 l6
            have B6 := Lib.hid (B5.out.le l6)
            have O6 := Lib.hid (own_Le O5.out l6)
            have K6 := Lib.hid k6
            have hg5 : g < w5.heap.size := B5.out.rd.lt
            clear k6 l6
            go_wp2_with fail
            refine (B6.out.pick (by omega) 2 (by omega) (by omega)).mono ?_; rintro e w7 ⟨x7, rfl, hx7, b7, c7⟩
            have k7 : Blk w7 w5.heap.size _ _ := (c7.block _ K6.out.lt (.inr hg5)).trans K6.out
            have O7 := Lib.hid (Chg.own2 O6.out c7 (by omega))
            have B7 := Lib.hid b7
            clear b7 c7 hw6
            rcases (show x7 = 0 ∨ x7 = 1 by omega) with rfl | rfl
            · have s0 := k7.cell 0
              have s1 := B7.out.blk.cell 2
              have s2 := B7.out.blk.frozen 2
              simp at s0 s1
              have B8 := Lib.hid (B7.out.setM (-1))
              have O8 := Lib.hid (own_far O7.out (p := ⟨b, 2, none⟩) (fun e => by have h9 : b + 1 ≤ b := (O7.out.lt _ e).1; omega) (.int .i64 (-1)))
              obtain ⟨w8, hw8⟩ : ∃ w8, w7.setCell ⟨b, 2, none⟩ (.int .i64 (-1)) = w8 := ⟨_, rfl⟩
              rw [hw8] at B8 O8
              clear k7
              have FN := Lib.hid (B8.out.done O8.out)
              have a0 := B8.out.blk.cell 0
              have r0 := B8.out.res.cell 0
              have z0 := B8.out.res.frozen 0
              have a1 := B8.out.blk.cell 1
              have r1 := B8.out.res.cell 1
              have z1 := B8.out.res.frozen 1
              have a2 := B8.out.blk.cell 2
              have r2 := B8.out.res.cell 2
              have z2 := B8.out.res.frozen 2
              simp at a0 a1 a2 r0 r1 r2
              go_wp2
              refine bodyPost_ret (v := .agg #[.int .i64 0, (.slice none 0 0), .int .i64 (-1)]) (by simp [results, Tryd.results40, go_sem, r0, r1, r2]) rfl ⟨0, (-1), (.slice none 0 0), [], ((p + 1 + 1 + 1) + 1 + 1 + 1), rfl, FN.out.2.2, by simp, by omega, by omega, fun h => absurd h hN0, FN.out.1, by omega, FN.out.2.1⟩
            · have s0 := k7.cell 1
              have s1 := B7.out.blk.cell 2
              have s2 := B7.out.blk.frozen 2
              simp at s0 s1
              have B8 := Lib.hid (B7.out.setM 32)
              have O8 := Lib.hid (own_far O7.out (p := ⟨b, 2, none⟩) (fun e => by have h9 : b + 1 ≤ b := (O7.out.lt _ e).1; omega) (.int .i64 32))
              obtain ⟨w8, hw8⟩ : ∃ w8, w7.setCell ⟨b, 2, none⟩ (.int .i64 32) = w8 := ⟨_, rfl⟩
              rw [hw8] at B8 O8
              clear k7
              have FN := Lib.hid (B8.out.done O8.out)
              have a0 := B8.out.blk.cell 0
              have r0 := B8.out.res.cell 0
              have z0 := B8.out.res.frozen 0
              have a1 := B8.out.blk.cell 1
              have r1 := B8.out.res.cell 1
              have z1 := B8.out.res.frozen 1
              have a2 := B8.out.blk.cell 2
              have r2 := B8.out.res.cell 2
              have z2 := B8.out.res.frozen 2
              simp at a0 a1 a2 r0 r1 r2
              go_wp2
              refine bodyPost_ret (v := .agg #[.int .i64 0, (.slice none 0 0), .int .i64 32]) (by simp [results, Tryd.results40, go_sem, r0, r1, r2]) rfl ⟨0, 32, (.slice none 0 0), [], ((p + 1 + 1 + 1) + 1 + 1 + 1), rfl, FN.out.2.2, by simp, by omega, by omega, fun h => absurd h hN0, FN.out.1, by omega, FN.out.2.1⟩
          · have k6 := Blk.new w5 3 #[.int .i64 (-1), .int .i64 7]
            have l6 := (Le.refl w5).alloc (.cells #[.int .i64 (-1), .int .i64 7] 3)
            obtain ⟨w6, hw6⟩ : ∃ w6, w5.alloc (.cells #[.int .i64 (-1), .int .i64 7] 3) = w6 := ⟨_, rfl⟩
            rw [hw6] at k6 l6
            have B6 := Lib.hid (B5.out.le l6)
            have O6 := Lib.hid (own_Le O5.out l6)
            have K6 := Lib.hid k6
            have hg5 : g < w5.heap.size := B5.out.rd.lt
            clear k6 l6
            go_wp2_with fail
            refine (B6.out.pick (by omega) 2 (by omega) (by omega)).mono ?_; rintro e w7 ⟨x7, rfl, hx7, b7, c7⟩
            have k7 : Blk w7 w5.heap.size _ _ := (c7.block _ K6.out.lt (.inr hg5)).trans K6.out
            have O7 := Lib.hid (Chg.own2 O6.out c7 (by omega))
            have B7 := Lib.hid b7
            clear b7 c7 hw6
            rcases (show x7 = 0 ∨ x7 = 1 by omega) with rfl | rfl
            · have s0 := k7.cell 0
              have s1 := B7.out.blk.cell 0
              have s2 := B7.out.blk.frozen 0
              simp at s0 s1
              have B8 := Lib.hid (B7.out.setY (-1))
              have O8 := Lib.hid (own_far O7.out (p := ⟨b, 0, none⟩) (fun e => by have h9 : b + 1 ≤ b := (O7.out.lt _ e).1; omega) (.int .i64 (-1)))
              obtain ⟨w8, hw8⟩ : ∃ w8, w7.setCell ⟨b, 0, none⟩ (.int .i64 (-1)) = w8 := ⟨_, rfl⟩
              rw [hw8] at B8 O8
              clear k7
              have FN := Lib.hid (B8.out.done O8.out)
              have a0 := B8.out.blk.cell 0
              have r0 := B8.out.res.cell 0
              have z0 := B8.out.res.frozen 0
              have a1 := B8.out.blk.cell 1
              have r1 := B8.out.res.cell 1
              have z1 := B8.out.res.frozen 1
              have a2 := B8.out.blk.cell 2
              have r2 := B8.out.res.cell 2
              have z2 := B8.out.res.frozen 2
              simp at a0 a1 a2 r0 r1 r2
              go_wp2
              refine bodyPost_ret (v := .agg #[.int .i64 (-1), (.slice none 0 0), .int .i64 mk]) (by simp [results, Tryd.results40, go_sem, r0, r1, r2]) rfl ⟨(-1), mk, (.slice none 0 0), [], ((p + 1 + 1 + 1) + 1 + 1 + 1), rfl, FN.out.2.2, by simp, by omega, by omega, fun h => absurd h hN0, FN.out.1, by omega, FN.out.2.1⟩
            · have s0 := k7.cell 1
              have s1 := B7.out.blk.cell 0
              have s2 := B7.out.blk.frozen 0
              simp at s0 s1
              have B8 := Lib.hid (B7.out.setY 7)
              have O8 := Lib.hid (own_far O7.out (p := ⟨b, 0, none⟩) (fun e => by have h9 : b + 1 ≤ b := (O7.out.lt _ e).1; omega) (.int .i64 7))
              obtain ⟨w8, hw8⟩ : ∃ w8, w7.setCell ⟨b, 0, none⟩ (.int .i64 7) = w8 := ⟨_, rfl⟩
              rw [hw8] at B8 O8
              clear k7
              have FN := Lib.hid (B8.out.done O8.out)
              have a0 := B8.out.blk.cell 0
              have r0 := B8.out.res.cell 0
              have z0 := B8.out.res.frozen 0
              have a1 := B8.out.blk.cell 1
              have r1 := B8.out.res.cell 1
              have z1 := B8.out.res.frozen 1
              have a2 := B8.out.blk.cell 2
              have r2 := B8.out.res.cell 2
              have z2 := B8.out.res.frozen 2
              simp at a0 a1 a2 r0 r1 r2
              go_wp2
              refine bodyPost_ret (v := .agg #[.int .i64 7, (.slice none 0 0), .int .i64 mk]) (by simp [results, Tryd.results40, go_sem, r0, r1, r2]) rfl ⟨7, mk, (.slice none 0 0), [], ((p + 1 + 1 + 1) + 1 + 1 + 1), rfl, FN.out.2.2, by simp, by omega, by omega, fun h => absurd h hN0, FN.out.1, by omega, FN.out.2.1⟩
          · have s1 := B5.out.blk.cell 1
            simp at s1
            go_wp2_with (at_builtin; refine wpList_append_own _ rfl _ _ 24 rfl (b + 1) 80 i0 _ 2 16 Tryd.underlying24 hi0 hz0 hz1 hz2 rfl (by decide) (.slice none 0 0) 0 (pairs []) rfl (O5.out.alloc _) ⟨w5.heap.size, 0, none⟩ 1 1 [.int .i64 (index : Int), .int .i64 1] rfl rfl (cell_two' w5 _ rfl _ _ _) (fun u hu => by simp at hu; rcases hu with rfl | rfl <;> rfl) (by unfold maxLen; omega) (by omega) (by have := B5.out.blk.lt; simp; omega) ?_)
            intro v6 w6 hown6 hgrow6 _
            obtain ⟨g6, c6, rfl⟩ : ∃ g6 c6, v6 = .slice (some ⟨g6, 0, none⟩) (0 + 1) c6 := by
              rcases hown6.2 with ⟨_, e⟩ | ⟨g', cap', cur, e, _⟩
              · omega
              · exact ⟨g', cap', e⟩
            have B6 := Lib.hid ((B5.out.le ((Le.refl w5).alloc (.cells #[.int .i64 (index : Int), .int .i64 1] 80))).grown hgrow6 (fun q hq => by have := (O5.out.lt q hq).1; omega))
            have O6 := Lib.hid (show w6.ownsRow (b + 1) 80 2 (.slice (some ⟨g6, 0, none⟩) (0 + 1) c6) ([] ++ [(((index : Int) : Int), (1 : Int))]).length (pairs ([] ++ [(((index : Int) : Int), (1 : Int))])) from by rw [pairs_snoc, List.length_append]; exact hown6)
            clear hown6 hgrow6 s1
            have s1 := B6.out.blk.cell 1
            have s2 := B6.out.blk.frozen 1
            simp at s1
            have B8 := Lib.hid (B6.out.setU (.slice (some ⟨g6, 0, none⟩) (0 + 1) c6))
            have O8 := Lib.hid (own_far O6.out (p := ⟨b, 1, none⟩) (fun e => by have h9 : b + 1 ≤ b := (O6.out.lt _ e).1; omega) (.slice (some ⟨g6, 0, none⟩) (0 + 1) c6))
            obtain ⟨w8, hw8⟩ : ∃ w8, w6.setCell ⟨b, 1, none⟩ (.slice (some ⟨g6, 0, none⟩) (0 + 1) c6) = w8 := ⟨_, rfl⟩
            rw [hw8] at B8 O8
            have FN := Lib.hid (B8.out.done O8.out)
            have a0 := B8.out.blk.cell 0
            have r0 := B8.out.res.cell 0
            have z0 := B8.out.res.frozen 0
            have a1 := B8.out.blk.cell 1
            have r1 := B8.out.res.cell 1
            have z1 := B8.out.res.frozen 1
            have a2 := B8.out.blk.cell 2
            have r2 := B8.out.res.cell 2
            have z2 := B8.out.res.frozen 2
            simp at a0 a1 a2 r0 r1 r2
            go_wp2
            refine bodyPost_ret (v := .agg #[.int .i64 0, (.slice (some ⟨g6, 0, none⟩) (0 + 1) c6), .int .i64 mk]) (by simp [results, Tryd.results40, go_sem, r0, r1, r2]) rfl ⟨0, mk, (.slice (some ⟨g6, 0, none⟩) (0 + 1) c6), ([] ++ [(((index : Int) : Int), (1 : Int))]), ((p + 1 + 1 + 1) + 1 + 1), rfl, FN.out.2.2, by simp, by omega, by omega, fun h => absurd h hN0, FN.out.1, by omega, FN.out.2.1⟩
          · have s0 := B5.out.blk.cell 0
            have t0 := B5.out.blk.frozen 0
            have s1 := B5.out.blk.cell 1
            have t1 := B5.out.blk.frozen 1
            have s2 := B5.out.blk.cell 2
            have t2 := B5.out.blk.frozen 2
            simp at s0 s1 s2
            have B8 := Lib.hid (((B5.out.setY 2).setU (.slice none 0 0)).setM 0)
            obtain ⟨w8, hw8⟩ : ∃ w8, ((w5.setCell ⟨b, 0, none⟩ (.int .i64 2)).setCell ⟨b, 1, none⟩ (.slice none 0 0)).setCell ⟨b, 2, none⟩ (.int .i64 0) = w8 := ⟨_, rfl⟩
            rw [hw8] at B8
            have O8 := Lib.hid (World.ownsRow_nil w8 (b + 1) 80 2)
            have FN := Lib.hid (B8.out.done O8.out)
            have a0 := B8.out.blk.cell 0
            have r0 := B8.out.res.cell 0
            have z0 := B8.out.res.frozen 0
            have a1 := B8.out.blk.cell 1
            have r1 := B8.out.res.cell 1
            have z1 := B8.out.res.frozen 1
            have a2 := B8.out.blk.cell 2
            have r2 := B8.out.res.cell 2
            have z2 := B8.out.res.frozen 2
            simp at a0 a1 a2 r0 r1 r2
            go_wp2
            refine bodyPost_ret (v := .agg #[.int .i64 2, (.slice none 0 0), .int .i64 0]) (by simp [results, Tryd.results40, go_sem, r0, r1, r2]) rfl ⟨2, 0, (.slice none 0 0), [], ((p + 1 + 1 + 1) + 1 + 1), rfl, FN.out.2.2, by simp, by omega, by omega, fun h => absurd h hN0, FN.out.1, by omega, FN.out.2.1⟩
    · have hx91 : (0 : Int) < (x9 : Int) := by omega
      go_wp2_with fail
      refine (B9.out.pick (by omega) 6 (by omega) (by omega)).mono ?_; rintro e w10 ⟨x10, rfl, hx10, b10, c10⟩
      have O10 := Lib.hid (Chg.own2 O9.out c10 (by omega))
      have s0 := b10.blk.cell 0
      have s1 := b10.blk.frozen 0
      simp at s0
      have B11 := Lib.hid (b10.setY (1 + (x10 : Int)))
      have O11 := Lib.hid (own_far O10.out (p := ⟨b, 0, none⟩) (fun e => by have h9 : b + 1 ≤ b := (O10.out.lt _ e).1; omega) (.int .i64 (1 + (x10 : Int))))
      obtain ⟨w11, hw11⟩ : ∃ w11, w10.setCell ⟨b, 0, none⟩ (.int .i64 (1 + (x10 : Int))) = w11 := ⟨_, rfl⟩
      rw [hw11] at B11 O11
      clear b10 c10
      go_wp2
      clear hw11 s0 s1
      obtain ⟨y, hy, hy1⟩ : ∃ y : Int, 1 + (x10 : Int) = y ∧ (1 ≤ y ∧ y ≤ 6) := ⟨_, rfl, by omega⟩
      rw [hy] at B11
      clear hy
      go_loopw [8] (fun i wr => ∃ (j p' m cu : Nat) (Au : Option Addr) (ps : List (Int × Int)), j ≤ index ∧ i = .int .i64 (j : Int) ∧ ps.length = m ∧ m ≤ 3 ∧ (j = index → 0 < m) ∧ PO ps j ∧ p' ≤ p + 4 + 2 * j ∧ BX W w g A n c p' b y (.slice Au m cu) mk wr ∧ wr.ownsRow (b + 1) 80 2 (.slice Au m cu) m (pairs ps)) (fun i _ => index - (intOf i).toNat)
      case atStart => exact ⟨0, p + 1 + 1 + 1 + 1, 0, 0, none, [], Nat.zero_le _, rfl, rfl, Nat.zero_le _, fun h => absurd h.symm hix, fun t ht => absurd ht (by simp), by omega, B11.out, O11.out⟩
      case round =>
        obtain ⟨j, p', m, cu, Au, ps, hj, rfl, hl, hm3, hlast, hpo, hpp, bx, ox⟩ := hrel
        have HL := Lib.hid hl
        have PO1 := Lib.hid hpo
        have LA := Lib.hid hlast
        have a1 := bx.blk.cell 1
        simp at a1
        have BX1 := Lib.hid bx
        have OX1 := Lib.hid ox
        clear hl hpo hlast bx ox
        by_cases hgo : j < index ∧ m < 3
        · obtain ⟨hj1, hm1⟩ := hgo
          have hj2 : (j : Int) < (index : Int) := by omega
          have hm2 : (m : Int) < 3 := by omega
          have hj3 : decide ((j : Int) < (index : Int)) = true := decide_eq_true hj2
          have hj4 : decide (j < index) = true := decide_eq_true hj1
          have hm4 : decide ((m : Int) < 3) = true := decide_eq_true hm2
          have hm5 : decide (m < 3) = true := decide_eq_true hm1
          go_wp2_with fail
          refine (BX1.out.pick (by omega) 2 (by omega) (by omega)).mono ?_; rintro e w12 ⟨x12, rfl, hx12, b12, c12⟩
          have O12 := Lib.hid (Chg.own2 OX1.out c12 (by omega))
          have B12 := Lib.hid b12
          have s1 := b12.blk.cell 1
          have s2 := b12.blk.frozen 1
          simp at s1
          clear b12 c12
          by_cases hx0 : x12 = 0
          · subst hx0
            go_wp2_with fail
            have hHeld : (fun w' => w'.cell? ⟨b, 1, none⟩ = some (.slice Au m cu)) w12.drew := s1
            refine wp_region_last (fun w' => w'.cell? ⟨b, 1, none⟩ = some (.slice Au m cu)) 10 _ rfl (by kernel_rfl) (by kernel_rfl) ?_
            simp only [List.setIfInBounds_toArray, List.set_cons_zero, List.set_cons_succ, idle]
            refine wpAnyH_take (i := 0) (v := ?_) rfl (by kernel_rfl) (by kernel_rfl) (by kernel_rfl) (fun _ _ _ h => h) (Or.inl ⟨by rfl, ?_⟩) (by assumption) ?_
            rotate_left
            · (intro w' hSw; (try dsimp only at hSw); go_simp; all_goals with_reducible rfl)
            repeat (first | simp only [Act.put] | simp only [List.setIfInBounds_toArray] | simp only [List.set_cons_succ] | simp only [List.set_cons_zero])
            refine wpAnyH_take (i := 1) (v := ?_) rfl (by kernel_rfl) (by kernel_rfl) (by kernel_rfl) (fun _ _ _ h => h) (Or.inl ⟨by rfl, ?_⟩) (by assumption) ?_
            rotate_left
            · (intro w' hSw; (try dsimp only at hSw); go_simp; all_goals with_reducible rfl)
            repeat (first | simp only [Act.put] | simp only [List.setIfInBounds_toArray] | simp only [List.set_cons_succ] | simp only [List.set_cons_zero])
            refine wpAnyH_take (i := 2) (v := ?_) rfl (by kernel_rfl) (by kernel_rfl) (by kernel_rfl) (fun _ _ _ h => h) (Or.inl ⟨by rfl, ?_⟩) (by assumption) ?_
            rotate_left
            · (intro w' hSw; (try dsimp only at hSw); go_simp; all_goals with_reducible rfl)
            repeat (first | simp only [Act.put] | simp only [List.setIfInBounds_toArray] | simp only [List.set_cons_succ] | simp only [List.set_cons_zero])
            refine wpAnyH_take (i := 3) (v := ?_) rfl (by kernel_rfl) (by kernel_rfl) (by kernel_rfl) (fun _ _ _ h => h) (Or.inl ⟨by rfl, ?_⟩) (by assumption) ?_
            rotate_left
            · (intro w' hSw; (try dsimp only at hSw); go_simp; all_goals with_reducible rfl)
            repeat (first | simp only [Act.put] | simp only [List.setIfInBounds_toArray] | simp only [List.set_cons_succ] | simp only [List.set_cons_zero])
            refine wpAnyH_ready (rs := [4]) (by kernel_rfl) (by simp) ?_
            refine AllReadyH.cons (i := 4) rfl (fun K hK => ?_) AllReadyH.nil
            go_simp
            refine ((B12.out.le ((Le.refl w12).drew)).pick (by omega) 4 (by omega) (by omega)).mono ?_; rintro e w13 ⟨x13, rfl, hx13, b13, c13⟩
            (try go_wp2_with fail)
            have O13 := Lib.hid (Chg.own2 O12.out.drew c13 (by omega))
            have s3 := b13.blk.cell 1
            simp at s3
            have B13 := Lib.hid b13
            clear b13 c13
            obtain ⟨q13, hq13, hqb⟩ : ∃ q : Int, IntKind.i64.wrap (1 + (x13 : Int)) = q ∧ (1 ≤ q ∧ q ≤ 4) := ⟨1 + (x13 : Int), IntWalk.i64_in _ (by omega), by omega⟩
            refine hK.out _ _ s3 (fun hH4 => ?_)
            clear hK K
            repeat (first | simp only [Act.put] | simp only [List.setIfInBounds_toArray] | simp only [List.set_cons_succ] | simp only [List.set_cons_zero])
            refine wpAnyH_take (i := 5) (v := ?_) rfl (by kernel_rfl) (by kernel_rfl) (by kernel_rfl) (fun _ _ _ h => h) (Or.inl ⟨by rfl, ?_⟩) (by assumption) ?_
            rotate_left
            · (intro w' hSw; (try dsimp only at hSw); go_simp; all_goals with_reducible rfl)
            repeat (first | simp only [Act.put] | simp only [List.setIfInBounds_toArray] | simp only [List.set_cons_succ] | simp only [List.set_cons_zero])
            refine wpAnyH_take (i := 6) (v := ?_) rfl (by kernel_rfl) (by kernel_rfl) (by kernel_rfl) (fun _ _ _ h => h) (Or.inl ⟨by rfl, ?_⟩) (by assumption) ?_
            rotate_left
            · (intro w' hSw; (try dsimp only at hSw); go_simp; all_goals with_reducible rfl)
            repeat (first | simp only [Act.put] | simp only [List.setIfInBounds_toArray] | simp only [List.set_cons_succ] | simp only [List.set_cons_zero])
            refine wpAnyH_ready (rs := [7]) (by kernel_rfl) (by simp) ?_
            refine AllReadyH.cons (i := 7) rfl (fun K hK => ?_) AllReadyH.nil
            go_simp
            have s4 := ((Le.refl w13).alloc (.cells #[.int .i64 (j : Int), .int .i64 q13] 80)).cell s3
            refine hK.out _ _ s4 (fun hH5 => ?_)
            clear hK K
            repeat (first | simp only [Act.put] | simp only [List.setIfInBounds_toArray] | simp only [List.set_cons_succ] | simp only [List.set_cons_zero])
            refine wpAnyH_ready (rs := [8]) (by kernel_rfl) (by simp) ?_
            refine AllReadyH.cons (i := 8) rfl (fun K hK => ?_) AllReadyH.nil
            refine step_append_own (by rfl) (some 60) (by rfl) _ _ 24 (by rfl) (b + 1) 80 i0 _ 2 16 Tryd.underlying24 hi0 hz0 hz1 hz2 rfl (by decide) (.slice Au m cu) m (pairs ps) (by rfl) (O13.out.alloc _) ⟨w13.heap.size, 0, none⟩ 1 1 [.int .i64 (j : Int), .int .i64 q13] (by rfl) rfl (cell_two' w13 _ rfl _ _ _) (fun u hu => by simp at hu; rcases hu with rfl | rfl <;> rfl) (by unfold maxLen; omega) (by omega) (by have := B13.out.blk.lt; simp; omega) ?_
            intro v14 w14 hown14 hgrow14 _
            obtain ⟨g14, c14, rfl⟩ : ∃ g14 c14, v14 = .slice (some ⟨g14, 0, none⟩) (m + 1) c14 := by
              rcases hown14.2 with ⟨_, e⟩ | ⟨g', cap', cur, e, _⟩
              · omega
              · exact ⟨g', cap', e⟩
            have B14 := Lib.hid ((B13.out.le ((Le.refl w13).alloc (.cells #[.int .i64 (j : Int), .int .i64 q13] 80))).grown hgrow14 (fun q hq => by have := (O13.out.lt q hq).1; omega))
            have O14 := Lib.hid hown14
            have s5 := B14.out.blk.cell 1
            have s6 := B14.out.blk.frozen 1
            simp at s5
            clear hown14 hgrow14
            refine hK.out _ _ s5 (fun hH6 => ?_)
            clear hK K
            repeat (first | simp only [Act.put] | simp only [List.setIfInBounds_toArray] | simp only [List.set_cons_succ] | simp only [List.set_cons_zero])
            refine wpAnyH_take (i := 9) (v := ?_) rfl (by kernel_rfl) (by kernel_rfl) (by kernel_rfl) (fun _ _ _ h => h) (Or.inl ⟨by rfl, ?_⟩) (by assumption) ?_
            rotate_left
            · (intro w' hSw; (try dsimp only at hSw); go_simp; all_goals with_reducible rfl)
            repeat (first | simp only [Act.put] | simp only [List.setIfInBounds_toArray] | simp only [List.set_cons_succ] | simp only [List.set_cons_zero])
            refine wpAnyH_take (i := 10) (v := ?_) rfl (by kernel_rfl) (by kernel_rfl) (by kernel_rfl) (fun _ _ _ h => h) (Or.inl ⟨by rfl, ?_⟩) (by assumption) ?_
            rotate_left
            · (intro w' hSw; (try dsimp only at hSw); go_simp; all_goals with_reducible rfl)
            repeat (first | simp only [Act.put] | simp only [List.setIfInBounds_toArray] | simp only [List.set_cons_succ] | simp only [List.set_cons_zero])
            refine wpAnyH_done (by kernel_rfl) ?_ _
            clear hHeld hH4 hH5 hH6 s1 s2 s3 s4
            show Oper.wp _ _ _ _ _ _
            go_simp
            have B15 := Lib.hid (B14.out.setU (.slice (some ⟨g14, 0, none⟩) (m + 1) c14))
            have O15 := Lib.hid (own_far O14.out (p := ⟨b, 1, none⟩) (fun e => by have h9 : b + 1 ≤ b := (O14.out.lt _ e).1; omega) (.slice (some ⟨g14, 0, none⟩) (m + 1) c14))
            go_wp2
            go_roundw
            case rel =>
              refine ⟨j + 1, (p' + 1 + 1), m + 1, c14, some ⟨g14, 0, none⟩, ps ++ [((j : Int), q13)], by omega, by go_num, by rw [List.length_append, HL.out]; rfl, by omega, fun _ => by omega, PO1.out.snoc hqb, by omega, B15.out, ?_⟩
              rw [pairs_snoc]
              exact O15.out
            case measure => simp [intOf]; omega
          · have hx1 : ((x12 : Int) == 0) = false := by rw [beq_eq_false_iff_ne]; omega
            by_cases hlst : j = index - 1 ∧ m = 0
            · obtain ⟨hl1, hl2⟩ := hlst
              have hl3 : ((j : Int) == (index : Int) - 1) = true := by rw [beq_iff_eq]; omega
              have hl4 : ((m : Int) == 0) = true := by rw [beq_iff_eq]; omega
              clear hl1 hl2
              go_wp2_with fail
              have hHeld : (fun w' => w'.cell? ⟨b, 1, none⟩ = some (.slice Au m cu)) w12.drew := s1
              refine wp_region_last (fun w' => w'.cell? ⟨b, 1, none⟩ = some (.slice Au m cu)) 10 _ rfl (by kernel_rfl) (by kernel_rfl) ?_
              simp only [List.setIfInBounds_toArray, List.set_cons_zero, List.set_cons_succ, idle]
              refine wpAnyH_take (i := 0) (v := ?_) rfl (by kernel_rfl) (by kernel_rfl) (by kernel_rfl) (fun _ _ _ h => h) (Or.inl ⟨by rfl, ?_⟩) (by assumption) ?_
              rotate_left
              · (intro w' hSw; (try dsimp only at hSw); go_simp; all_goals with_reducible rfl)
              repeat (first | simp only [Act.put] | simp only [List.setIfInBounds_toArray] | simp only [List.set_cons_succ] | simp only [List.set_cons_zero])
              refine wpAnyH_take (i := 1) (v := ?_) rfl (by kernel_rfl) (by kernel_rfl) (by kernel_rfl) (fun _ _ _ h => h) (Or.inl ⟨by rfl, ?_⟩) (by assumption) ?_
              rotate_left
              · (intro w' hSw; (try dsimp only at hSw); go_simp; all_goals with_reducible rfl)
              repeat (first | simp only [Act.put] | simp only [List.setIfInBounds_toArray] | simp only [List.set_cons_succ] | simp only [List.set_cons_zero])
              refine wpAnyH_take (i := 2) (v := ?_) rfl (by kernel_rfl) (by kernel_rfl) (by kernel_rfl) (fun _ _ _ h => h) (Or.inl ⟨by rfl, ?_⟩) (by assumption) ?_
              rotate_left
              · (intro w' hSw; (try dsimp only at hSw); go_simp; all_goals with_reducible rfl)
              repeat (first | simp only [Act.put] | simp only [List.setIfInBounds_toArray] | simp only [List.set_cons_succ] | simp only [List.set_cons_zero])
              refine wpAnyH_take (i := 3) (v := ?_) rfl (by kernel_rfl) (by kernel_rfl) (by kernel_rfl) (fun _ _ _ h => h) (Or.inl ⟨by rfl, ?_⟩) (by assumption) ?_
              rotate_left
              · (intro w' hSw; (try dsimp only at hSw); go_simp; all_goals with_reducible rfl)
              repeat (first | simp only [Act.put] | simp only [List.setIfInBounds_toArray] | simp only [List.set_cons_succ] | simp only [List.set_cons_zero])
              refine wpAnyH_ready (rs := [4]) (by kernel_rfl) (by simp) ?_
              refine AllReadyH.cons (i := 4) rfl (fun K hK => ?_) AllReadyH.nil
              go_simp
              refine ((B12.out.le ((Le.refl w12).drew)).pick (by omega) 4 (by omega) (by omega)).mono ?_; rintro e w13 ⟨x13, rfl, hx13, b13, c13⟩
              (try go_wp2_with fail)
              have O13 := Lib.hid (Chg.own2 O12.out.drew c13 (by omega))
              have s3 := b13.blk.cell 1
              simp at s3
              have B13 := Lib.hid b13
              clear b13 c13
              obtain ⟨q13, hq13, hqb⟩ : ∃ q : Int, IntKind.i64.wrap (1 + (x13 : Int)) = q ∧ (1 ≤ q ∧ q ≤ 4) := ⟨1 + (x13 : Int), IntWalk.i64_in _ (by omega), by omega⟩
              refine hK.out _ _ s3 (fun hH4 => ?_)
              clear hK K
              repeat (first | simp only [Act.put] | simp only [List.setIfInBounds_toArray] | simp only [List.set_cons_succ] | simp only [List.set_cons_zero])
              refine wpAnyH_take (i := 5) (v := ?_) rfl (by kernel_rfl) (by kernel_rfl) (by kernel_rfl) (fun _ _ _ h => h) (Or.inl ⟨by rfl, ?_⟩) (by assumption) ?_
              rotate_left
              · (intro w' hSw; (try dsimp only at hSw); go_simp; all_goals with_reducible rfl)
              repeat (first | simp only [Act.put] | simp only [List.setIfInBounds_toArray] | simp only [List.set_cons_succ] | simp only [List.set_cons_zero])
              refine wpAnyH_take (i := 6) (v := ?_) rfl (by kernel_rfl) (by kernel_rfl) (by kernel_rfl) (fun _ _ _ h => h) (Or.inl ⟨by rfl, ?_⟩) (by assumption) ?_
              rotate_left
              · (intro w' hSw; (try dsimp only at hSw); go_simp; all_goals with_reducible rfl)
              repeat (first | simp only [Act.put] | simp only [List.setIfInBounds_toArray] | simp only [List.set_cons_succ] | simp only [List.set_cons_zero])
              refine wpAnyH_ready (rs := [7]) (by kernel_rfl) (by simp) ?_
              refine AllReadyH.cons (i := 7) rfl (fun K hK => ?_) AllReadyH.nil
              go_simp
              have s4 := ((Le.refl w13).alloc (.cells #[.int .i64 (j : Int), .int .i64 q13] 80)).cell s3
              refine hK.out _ _ s4 (fun hH5 => ?_)
              clear hK K
              repeat (first | simp only [Act.put] | simp only [List.setIfInBounds_toArray] | simp only [List.set_cons_succ] | simp only [List.set_cons_zero])
              refine wpAnyH_ready (rs := [8]) (by kernel_rfl) (by simp) ?_
              refine AllReadyH.cons (i := 8) rfl (fun K hK => ?_) AllReadyH.nil
              refine step_append_own (by rfl) (some 60) (by rfl) _ _ 24 (by rfl) (b + 1) 80 i0 _ 2 16 Tryd.underlying24 hi0 hz0 hz1 hz2 rfl (by decide) (.slice Au m cu) m (pairs ps) (by rfl) (O13.out.alloc _) ⟨w13.heap.size, 0, none⟩ 1 1 [.int .i64 (j : Int), .int .i64 q13] (by rfl) rfl (cell_two' w13 _ rfl _ _ _) (fun u hu => by simp at hu; rcases hu with rfl | rfl <;> rfl) (by unfold maxLen; omega) (by omega) (by have := B13.out.blk.lt; simp; omega) ?_
              intro v14 w14 hown14 hgrow14 _
              obtain ⟨g14, c14, rfl⟩ : ∃ g14 c14, v14 = .slice (some ⟨g14, 0, none⟩) (m + 1) c14 := by
                rcases hown14.2 with ⟨_, e⟩ | ⟨g', cap', cur, e, _⟩
                · omega
                · exact ⟨g', cap', e⟩
              have B14 := Lib.hid ((B13.out.le ((Le.refl w13).alloc (.cells #[.int .i64 (j : Int), .int .i64 q13] 80))).grown hgrow14 (fun q hq => by have := (O13.out.lt q hq).1; omega))
              have O14 := Lib.hid hown14
              have s5 := B14.out.blk.cell 1
              have s6 := B14.out.blk.frozen 1
              simp at s5
              clear hown14 hgrow14
              refine hK.out _ _ s5 (fun hH6 => ?_)
              clear hK K
              repeat (first | simp only [Act.put] | simp only [List.setIfInBounds_toArray] | simp only [List.set_cons_succ] | simp only [List.set_cons_zero])
              refine wpAnyH_take (i := 9) (v := ?_) rfl (by kernel_rfl) (by kernel_rfl) (by kernel_rfl) (fun _ _ _ h => h) (Or.inl ⟨by rfl, ?_⟩) (by assumption) ?_
              rotate_left
              · (intro w' hSw; (try dsimp only at hSw); go_simp; all_goals with_reducible rfl)
              repeat (first | simp only [Act.put] | simp only [List.setIfInBounds_toArray] | simp only [List.set_cons_succ] | simp only [List.set_cons_zero])
              refine wpAnyH_take (i := 10) (v := ?_) rfl (by kernel_rfl) (by kernel_rfl) (by kernel_rfl) (fun _ _ _ h => h) (Or.inl ⟨by rfl, ?_⟩) (by assumption) ?_
              rotate_left
              · (intro w' hSw; (try dsimp only at hSw); go_simp; all_goals with_reducible rfl)
              repeat (first | simp only [Act.put] | simp only [List.setIfInBounds_toArray] | simp only [List.set_cons_succ] | simp only [List.set_cons_zero])
              refine wpAnyH_done (by kernel_rfl) ?_ _
              clear hHeld hH4 hH5 hH6 s1 s2 s3 s4
              show Oper.wp _ _ _ _ _ _
              go_simp
              have B15 := Lib.hid (B14.out.setU (.slice (some ⟨g14, 0, none⟩) (m + 1) c14))
              have O15 := Lib.hid (own_far O14.out (p := ⟨b, 1, none⟩) (fun e => by have h9 : b + 1 ≤ b := (O14.out.lt _ e).1; omega) (.slice (some ⟨g14, 0, none⟩) (m + 1) c14))
              go_wp2
              go_roundw
              case rel =>
                refine ⟨j + 1, (p' + 1 + 1), m + 1, c14, some ⟨g14, 0, none⟩, ps ++ [((j : Int), q13)], by omega, by go_num, by rw [List.length_append, HL.out]; rfl, by omega, fun _ => by omega, PO1.out.snoc hqb, by omega, B15.out, ?_⟩
                rw [pairs_snoc]
                exact O15.out
              case measure => simp [intOf]; omega
            · by_cases hl1 : j = index - 1
              · have hl3 : ((j : Int) == (index : Int) - 1) = true := by rw [beq_iff_eq]; omega
                have hl4 : ((m : Int) == 0) = false := by rw [beq_eq_false_iff_ne]; omega
                have hl5 : 0 < m := by omega
                clear hl1 hlst
                go_wp2
                go_roundw
                case rel => exact ⟨j + 1, p' + 1, m, cu, Au, ps, by omega, by go_num, HL.out, by omega, fun _ => hl5, PO1.out.up, by omega, B12.out, O12.out⟩
                case measure => simp [intOf]; omega
              · have hl3 : ((j : Int) == (index : Int) - 1) = false := by rw [beq_eq_false_iff_ne]; omega
                have hl5 : j + 1 ≠ index := by omega
                clear hl1 hlst
                go_wp2
                go_roundw
                case rel => exact ⟨j + 1, p' + 1, m, cu, Au, ps, by omega, by go_num, HL.out, by omega, fun h => absurd h hl5, PO1.out.up, by omega, B12.out, O12.out⟩
                case measure => simp [intOf]; omega
        · have hm0 : 0 < m := by
            by_cases h : j = index
            · exact LA.out h
            · omega
          have HV := Lib.hid (PO1.out.valid hj HL.out hm0 hm3 hy1 hm)
          obtain rfl := HL.out
          have HL : True := trivial
          by_cases hj1 : j < index
          · have hj2 : (j : Int) < (index : Int) := by omega
            have hm2 : ¬ (ps.length : Int) < 3 := by omega
            have hj3 : decide ((j : Int) < (index : Int)) = true := decide_eq_true hj2
            have hj4 : decide (j < index) = true := decide_eq_true hj1
            have hm4 : decide ((ps.length : Int) < 3) = false := decide_eq_false hm2
            have hm5 : decide (ps.length < 3) = false := decide_eq_false (by omega)
            clear hj2 hm2
            by_cases hN0 : N = 0
            · subst hN0
              go_wp2_with fail
              refine (odd_zero g _).mono ?_; rintro e w' ⟨rfl, rfl⟩
              have FN := Lib.hid (BX1.out.done OX1.out)
              have a0 := BX1.out.blk.cell 0
              have r0 := BX1.out.res.cell 0
              have z0 := BX1.out.res.frozen 0
              have a1 := BX1.out.blk.cell 1
              have r1 := BX1.out.res.cell 1
              have z1 := BX1.out.res.frozen 1
              have a2 := BX1.out.blk.cell 2
              have r2 := BX1.out.res.cell 2
              have z2 := BX1.out.res.frozen 2
              simp at a0 a1 a2 r0 r1 r2
              go_wp2
              refine bodyPost_ret (v := .agg #[.int .i64 y, (.slice Au ps.length cu), .int .i64 mk]) (by simp [results, Tryd.results40, go_sem, r0, r1, r2]) rfl ⟨y, mk, (.slice Au ps.length cu), ps, p', rfl, FN.out.2.2, by omega, by omega, by omega, fun _ => HV.out, FN.out.1, by omega, FN.out.2.1⟩
            · go_wp2_with fail
              refine (BX1.out.odd (by omega) N (by omega) (by omega)).mono ?_; rintro e w4 ⟨tt, rfl, b4, c4⟩
              have O4 := Lib.hid (Chg.own2 OX1.out c4 (by omega))
              have B4 := Lib.hid b4
              clear b4 c4
              cases tt
              · have FN := Lib.hid (B4.out.done O4.out)
                have a0 := B4.out.blk.cell 0
                have r0 := B4.out.res.cell 0
                have z0 := B4.out.res.frozen 0
                have a1 := B4.out.blk.cell 1
                have r1 := B4.out.res.cell 1
                have z1 := B4.out.res.frozen 1
                have a2 := B4.out.blk.cell 2
                have r2 := B4.out.res.cell 2
                have z2 := B4.out.res.frozen 2
                simp at a0 a1 a2 r0 r1 r2
                go_wp2
                refine bodyPost_ret (v := .agg #[.int .i64 y, (.slice Au ps.length cu), .int .i64 mk]) (by simp [results, Tryd.results40, go_sem, r0, r1, r2]) rfl ⟨y, mk, (.slice Au ps.length cu), ps, (p' + 1), rfl, FN.out.2.2, by omega, by omega, by omega, fun h => absurd h hN0, FN.out.1, by omega, FN.out.2.1⟩
              · go_wp2_with fail
                refine (B4.out.pick (by omega) 4 (by omega) (by omega)).mono ?_; rintro e w5 ⟨x5, rfl, hx5, b5, c5⟩
                have O5 := Lib.hid (Chg.own2 O4.out c5 (by omega))
                have B5 := Lib.hid b5
                clear b5 c5
                rcases (show x5 = 0 ∨ x5 = 1 ∨ x5 = 2 ∨ x5 = 3 by omega) with rfl | rfl | rfl | rfl
                · have k6 := Blk.new w5 3 #[.int .i64 (-1), .int .i64 32]
                  have l6 := (Le.refl w5).alloc (.cells #[.int .i64 (-1), .int .i64 32] 3)
                  obtain ⟨w6, hw6⟩ : ∃ w6, w5.alloc (.cells #[.int .i64 (-1), .int .i64 32] 3) = w6 := ⟨_, rfl⟩
                  rw [hw6] at k6 l6
                  have B6 := Lib.hid (B5.out.le l6)
                  have O6 := Lib.hid (own_Le O5.out l6)
                  have K6 := Lib.hid k6
                  have hg5 : g < w5.heap.size := B5.out.rd.lt
                  clear k6 l6
                  go_wp2_with fail
                  refine (B6.out.pick (by omega) 2 (by omega) (by omega)).mono ?_; rintro e w7 ⟨x7, rfl, hx7, b7, c7⟩
                  have k7 : Blk w7 w5.heap.size _ _ := (c7.block _ K6.out.lt (.inr hg5)).trans K6.out
                  have O7 := Lib.hid (Chg.own2 O6.out c7 (by omega))
                  have B7 := Lib.hid b7
                  clear b7 c7 hw6
                  rcases (show x7 = 0 ∨ x7 = 1 by omega) with rfl | rfl
                  · have s0 := k7.cell 0
                    have s1 := B7.out.blk.cell 2
                    have s2 := B7.out.blk.frozen 2
                    simp at s0 s1
                    have B8 := Lib.hid (B7.out.setM (-1))
                    have O8 := Lib.hid (own_far O7.out (p := ⟨b, 2, none⟩) (fun e => by have h9 : b + 1 ≤ b := (O7.out.lt _ e).1; omega) (.int .i64 (-1)))
                    obtain ⟨w8, hw8⟩ : ∃ w8, w7.setCell ⟨b, 2, none⟩ (.int .i64 (-1)) = w8 := ⟨_, rfl⟩
                    rw [hw8] at B8 O8
                    clear k7
                    have FN := Lib.hid (B8.out.done O8.out)
                    have a0 := B8.out.blk.cell 0
                    have r0 := B8.out.res.cell 0
                    have z0 := B8.out.res.frozen 0
                    have a1 := B8.out.blk.cell 1
                    have r1 := B8.out.res.cell 1
                    have z1 := B8.out.res.frozen 1
                    have a2 := B8.out.blk.cell 2
                    have r2 := B8.out.res.cell 2
                    have z2 := B8.out.res.frozen 2
                    simp at a0 a1 a2 r0 r1 r2
                    go_wp2
                    refine bodyPost_ret (v := .agg #[.int .i64 y, (.slice Au ps.length cu), .int .i64 (-1)]) (by simp [results, Tryd.results40, go_sem, r0, r1, r2]) rfl ⟨y, (-1), (.slice Au ps.length cu), ps, (p' + 1 + 1 + 1), rfl, FN.out.2.2, by omega, by omega, by omega, fun h => absurd h hN0, FN.out.1, by omega, FN.out.2.1⟩
                  · have s0 := k7.cell 1
                    have s1 := B7.out.blk.cell 2
                    have s2 := B7.out.blk.frozen 2
                    simp at s0 s1
                    have B8 := Lib.hid (B7.out.setM 32)
                    have O8 := Lib.hid (own_far O7.out (p := ⟨b, 2, none⟩) (fun e => by have h9 : b + 1 ≤ b := (O7.out.lt _ e).1; omega) (.int .i64 32))
                    obtain ⟨w8, hw8⟩ : ∃ w8, w7.setCell ⟨b, 2, none⟩ (.int .i64 32) = w8 := ⟨_, rfl⟩
                    rw [hw8] at B8 O8
                    clear k7
                    have FN := Lib.hid (B8.out.done O8.out)
                    have a0 := B8.out.blk.cell 0
                    have r0 := B8.out.res.cell 0
                    have z0 := B8.out.res.frozen 0
                    have a1 := B8.out.blk.cell 1
                    have r1 := B8.out.res.cell 1
                    have z1 := B8.out.res.frozen 1
                    have a2 := B8.out.blk.cell 2
                    have r2 := B8.out.res.cell 2
                    have z2 := B8.out.res.frozen 2
                    simp at a0 a1 a2 r0 r1 r2
                    go_wp2
                    refine bodyPost_ret (v := .agg #[.int .i64 y, (.slice Au ps.length cu), .int .i64 32]) (by simp [results, Tryd.results40, go_sem, r0, r1, r2]) rfl ⟨y, 32, (.slice Au ps.length cu), ps, (p' + 1 + 1 + 1), rfl, FN.out.2.2, by omega, by omega, by omega, fun h => absurd h hN0, FN.out.1, by omega, FN.out.2.1⟩
                · have k6 := Blk.new w5 3 #[.int .i64 (-1), .int .i64 7]
                  have l6 := (Le.refl w5).alloc (.cells #[.int .i64 (-1), .int .i64 7] 3)
                  obtain ⟨w6, hw6⟩ : ∃ w6, w5.alloc (.cells #[.int .i64 (-1), .int .i64 7] 3) = w6 := ⟨_, rfl⟩
                  rw [hw6] at k6 l6
                  have B6 := Lib.hid (B5.out.le l6)
                  have O6 := Lib.hid (own_Le O5.out l6)
                  have K6 := Lib.hid k6
                  have hg5 : g < w5.heap.size := B5.out.rd.lt
                  clear k6 l6
                  go_wp2_with fail
                  refine (B6.out.pick (by omega) 2 (by omega) (by omega)).mono ?_; rintro e w7 ⟨x7, rfl, hx7, b7, c7⟩
                  have k7 : Blk w7 w5.heap.size _ _ := (c7.block _ K6.out.lt (.inr hg5)).trans K6.out
                  have O7 := Lib.hid (Chg.own2 O6.out c7 (by omega))
                  have B7 := Lib.hid b7
                  clear b7 c7 hw6
                  rcases (show x7 = 0 ∨ x7 = 1 by omega) with rfl | rfl
                  · have s0 := k7.cell 0
                    have s1 := B7.out.blk.cell 0
                    have s2 := B7.out.blk.frozen 0
                    simp at s0 s1
                    have B8 := Lib.hid (B7.out.setY (-1))
                    have O8 := Lib.hid (own_far O7.out (p := ⟨b, 0, none⟩) (fun e => by have h9 : b + 1 ≤ b := (O7.out.lt _ e).1; omega) (.int .i64 (-1)))
                    obtain ⟨w8, hw8⟩ : ∃ w8, w7.setCell ⟨b, 0, none⟩ (.int .i64 (-1)) = w8 := ⟨_, rfl⟩
                    rw [hw8] at B8 O8
                    clear k7
                    have FN := Lib.hid (B8.out.done O8.out)
                    have a0 := B8.out.blk.cell 0
                    have r0 := B8.out.res.cell 0
                    have z0 := B8.out.res.frozen 0
                    have a1 := B8.out.blk.cell 1
                    have r1 := B8.out.res.cell 1
                    have z1 := B8.out.res.frozen 1
                    have a2 := B8.out.blk.cell 2
                    have r2 := B8.out.res.cell 2
                    have z2 := B8.out.res.frozen 2
                    simp at a0 a1 a2 r0 r1 r2
                    go_wp2
                    refine bodyPost_ret (v := .agg #[.int .i64 (-1), (.slice Au ps.length cu), .int .i64 mk]) (by simp [results, Tryd.results40, go_sem, r0, r1, r2]) rfl ⟨(-1), mk, (.slice Au ps.length cu), ps, (p' + 1 + 1 + 1), rfl, FN.out.2.2, by omega, by omega, by omega, fun h => absurd h hN0, FN.out.1, by omega, FN.out.2.1⟩
                  · have s0 := k7.cell 1
                    have s1 := B7.out.blk.cell 0
                    have s2 := B7.out.blk.frozen 0
                    simp at s0 s1
                    have B8 := Lib.hid (B7.out.setY 7)
                    have O8 := Lib.hid (own_far O7.out (p := ⟨b, 0, none⟩) (fun e => by have h9 : b + 1 ≤ b := (O7.out.lt _ e).1; omega) (.int .i64 7))
                    obtain ⟨w8, hw8⟩ : ∃ w8, w7.setCell ⟨b, 0, none⟩ (.int .i64 7) = w8 := ⟨_, rfl⟩
                    rw [hw8] at B8 O8
                    clear k7
                    have FN := Lib.hid (B8.out.done O8.out)
                    have a0 := B8.out.blk.cell 0
                    have r0 := B8.out.res.cell 0
                    have z0 := B8.out.res.frozen 0
                    have a1 := B8.out.blk.cell 1
                    have r1 := B8.out.res.cell 1
                    have z1 := B8.out.res.frozen 1
                    have a2 := B8.out.blk.cell 2
                    have r2 := B8.out.res.cell 2
                    have z2 := B8.out.res.frozen 2
                    simp at a0 a1 a2 r0 r1 r2
                    go_wp2
                    refine bodyPost_ret (v := .agg #[.int .i64 7, (.slice Au ps.length cu), .int .i64 mk]) (by simp [results, Tryd.results40, go_sem, r0, r1, r2]) rfl ⟨7, mk, (.slice Au ps.length cu), ps, (p' + 1 + 1 + 1), rfl, FN.out.2.2, by omega, by omega, by omega, fun h => absurd h hN0, FN.out.1, by omega, FN.out.2.1⟩
                · have s1 := B5.out.blk.cell 1
                  simp at s1
                  go_wp2_with (at_builtin; refine wpList_append_own _ rfl _ _ 24 rfl (b + 1) 80 i0 _ 2 16 Tryd.underlying24 hi0 hz0 hz1 hz2 rfl (by decide) (.slice Au ps.length cu) ps.length (pairs ps) rfl (O5.out.alloc _) ⟨w5.heap.size, 0, none⟩ 1 1 [.int .i64 (index : Int), .int .i64 1] rfl rfl (cell_two' w5 _ rfl _ _ _) (fun u hu => by simp at hu; rcases hu with rfl | rfl <;> rfl) (by unfold maxLen; omega) (by omega) (by have := B5.out.blk.lt; simp; omega) ?_)
                  intro v6 w6 hown6 hgrow6 _
                  obtain ⟨g6, c6, rfl⟩ : ∃ g6 c6, v6 = .slice (some ⟨g6, 0, none⟩) (ps.length + 1) c6 := by
                    rcases hown6.2 with ⟨_, e⟩ | ⟨g', cap', cur, e, _⟩
                    · omega
                    · exact ⟨g', cap', e⟩
                  have B6 := Lib.hid ((B5.out.le ((Le.refl w5).alloc (.cells #[.int .i64 (index : Int), .int .i64 1] 80))).grown hgrow6 (fun q hq => by have := (O5.out.lt q hq).1; omega))
                  have O6 := Lib.hid (show w6.ownsRow (b + 1) 80 2 (.slice (some ⟨g6, 0, none⟩) (ps.length + 1) c6) (ps ++ [(((index : Int) : Int), (1 : Int))]).length (pairs (ps ++ [(((index : Int) : Int), (1 : Int))])) from by rw [pairs_snoc, List.length_append]; exact hown6)
                  clear hown6 hgrow6 s1
                  have s1 := B6.out.blk.cell 1
                  have s2 := B6.out.blk.frozen 1
                  simp at s1
                  have B8 := Lib.hid (B6.out.setU (.slice (some ⟨g6, 0, none⟩) (ps.length + 1) c6))
                  have O8 := Lib.hid (own_far O6.out (p := ⟨b, 1, none⟩) (fun e => by have h9 : b + 1 ≤ b := (O6.out.lt _ e).1; omega) (.slice (some ⟨g6, 0, none⟩) (ps.length + 1) c6))
                  obtain ⟨w8, hw8⟩ : ∃ w8, w6.setCell ⟨b, 1, none⟩ (.slice (some ⟨g6, 0, none⟩) (ps.length + 1) c6) = w8 := ⟨_, rfl⟩
                  rw [hw8] at B8 O8
                  have FN := Lib.hid (B8.out.done O8.out)
                  have a0 := B8.out.blk.cell 0
                  have r0 := B8.out.res.cell 0
                  have z0 := B8.out.res.frozen 0
                  have a1 := B8.out.blk.cell 1
                  have r1 := B8.out.res.cell 1
                  have z1 := B8.out.res.frozen 1
                  have a2 := B8.out.blk.cell 2
                  have r2 := B8.out.res.cell 2
                  have z2 := B8.out.res.frozen 2
                  simp at a0 a1 a2 r0 r1 r2
                  go_wp2
                  refine bodyPost_ret (v := .agg #[.int .i64 y, (.slice (some ⟨g6, 0, none⟩) (ps.length + 1) c6), .int .i64 mk]) (by simp [results, Tryd.results40, go_sem, r0, r1, r2]) rfl ⟨y, mk, (.slice (some ⟨g6, 0, none⟩) (ps.length + 1) c6), (ps ++ [(((index : Int) : Int), (1 : Int))]), (p' + 1 + 1), rfl, FN.out.2.2, by rw [List.length_append]; simp; omega, by omega, by omega, fun h => absurd h hN0, FN.out.1, by omega, FN.out.2.1⟩
                · have s0 := B5.out.blk.cell 0
                  have t0 := B5.out.blk.frozen 0
                  have s1 := B5.out.blk.cell 1
                  have t1 := B5.out.blk.frozen 1
                  have s2 := B5.out.blk.cell 2
                  have t2 := B5.out.blk.frozen 2
                  simp at s0 s1 s2
                  have B8 := Lib.hid (((B5.out.setY 2).setU (.slice none 0 0)).setM 0)
                  obtain ⟨w8, hw8⟩ : ∃ w8, ((w5.setCell ⟨b, 0, none⟩ (.int .i64 2)).setCell ⟨b, 1, none⟩ (.slice none 0 0)).setCell ⟨b, 2, none⟩ (.int .i64 0) = w8 := ⟨_, rfl⟩
                  rw [hw8] at B8
                  have O8 := Lib.hid (World.ownsRow_nil w8 (b + 1) 80 2)
                  have FN := Lib.hid (B8.out.done O8.out)
                  have a0 := B8.out.blk.cell 0
                  have r0 := B8.out.res.cell 0
                  have z0 := B8.out.res.frozen 0
                  have a1 := B8.out.blk.cell 1
                  have r1 := B8.out.res.cell 1
                  have z1 := B8.out.res.frozen 1
                  have a2 := B8.out.blk.cell 2
                  have r2 := B8.out.res.cell 2
                  have z2 := B8.out.res.frozen 2
                  simp at a0 a1 a2 r0 r1 r2
                  go_wp2
                  refine bodyPost_ret (v := .agg #[.int .i64 2, (.slice none 0 0), .int .i64 0]) (by simp [results, Tryd.results40, go_sem, r0, r1, r2]) rfl ⟨2, 0, (.slice none 0 0), [], (p' + 1 + 1), rfl, FN.out.2.2, by simp, by omega, by omega, fun h => absurd h hN0, FN.out.1, by omega, FN.out.2.1⟩
          · have hj2 : ¬ (j : Int) < (index : Int) := by omega
            have hj3 : decide ((j : Int) < (index : Int)) = false := decide_eq_false hj2
            have hj4 : decide (j < index) = false := decide_eq_false hj1
            clear hj2
            by_cases hN0 : N = 0
            · subst hN0
              go_wp2_with fail
              refine (odd_zero g _).mono ?_; rintro e w' ⟨rfl, rfl⟩
              have FN := Lib.hid (BX1.out.done OX1.out)
              have a0 := BX1.out.blk.cell 0
              have r0 := BX1.out.res.cell 0
              have z0 := BX1.out.res.frozen 0
              have a1 := BX1.out.blk.cell 1
              have r1 := BX1.out.res.cell 1
              have z1 := BX1.out.res.frozen 1
              have a2 := BX1.out.blk.cell 2
              have r2 := BX1.out.res.cell 2
              have z2 := BX1.out.res.frozen 2
              simp at a0 a1 a2 r0 r1 r2
              go_wp2
              refine bodyPost_ret (v := .agg #[.int .i64 y, (.slice Au ps.length cu), .int .i64 mk]) (by simp [results, Tryd.results40, go_sem, r0, r1, r2]) rfl ⟨y, mk, (.slice Au ps.length cu), ps, p', rfl, FN.out.2.2, by omega, by omega, by omega, fun _ => HV.out, FN.out.1, by omega, FN.out.2.1⟩
            · go_wp2_with fail
              refine (BX1.out.odd (by omega) N (by omega) (by omega)).mono ?_; rintro e w4 ⟨tt, rfl, b4, c4⟩
              have O4 := Lib.hid (Chg.own2 OX1.out c4 (by omega))
              have B4 := Lib.hid b4
              clear b4 c4
              cases tt
              · have FN := Lib.hid (B4.out.done O4.out)
                have a0 := B4.out.blk.cell 0
                have r0 := B4.out.res.cell 0
                have z0 := B4.out.res.frozen 0
                have a1 := B4.out.blk.cell 1
                have r1 := B4.out.res.cell 1
                have z1 := B4.out.res.frozen 1
                have a2 := B4.out.blk.cell 2
                have r2 := B4.out.res.cell 2
                have z2 := B4.out.res.frozen 2
                simp at a0 a1 a2 r0 r1 r2
                go_wp2
                refine bodyPost_ret (v := .agg #[.int .i64 y, (.slice Au ps.length cu), .int .i64 mk]) (by simp [results, Tryd.results40, go_sem, r0, r1, r2]) rfl ⟨y, mk, (.slice Au ps.length cu), ps, (p' + 1), rfl, FN.out.2.2, by omega, by omega, by omega, fun h => absurd h hN0, FN.out.1, by omega, FN.out.2.1⟩
              · go_wp2_with fail
                refine (B4.out.pick (by omega) 4 (by omega) (by omega)).mono ?_; rintro e w5 ⟨x5, rfl, hx5, b5, c5⟩
                have O5 := Lib.hid (Chg.own2 O4.out c5 (by omega))
                have B5 := Lib.hid b5
                clear b5 c5
                rcases (show x5 = 0 ∨ x5 = 1 ∨ x5 = 2 ∨ x5 = 3 by omega) with rfl | rfl | rfl | rfl
                · have k6 := Blk.new w5 3 #[.int .i64 (-1), .int .i64 32]
                  have l6 := (Le.refl w5).alloc (.cells #[.int .i64 (-1), .int .i64 32] 3)
                  obtain ⟨w6, hw6⟩ : ∃ w6, w5.alloc (.cells #[.int .i64 (-1), .int .i64 32] 3) = w6 := ⟨_, rfl⟩
                  rw [hw6] at k6 l6
                  have B6 := Lib.hid (B5.out.le l6)
                  have O6 := Lib.hid (own_Le O5.out l6)
                  have K6 := Lib.hid k6
                  have hg5 : g < w5.heap.size := B5.out.rd.lt
                  clear k6 l6
                  go_wp2_with fail
                  refine (B6.out.pick (by omega) 2 (by omega) (by omega)).mono ?_; rintro e w7 ⟨x7, rfl, hx7, b7, c7⟩
                  have k7 : Blk w7 w5.heap.size _ _ := (c7.block _ K6.out.lt (.inr hg5)).trans K6.out
                  have O7 := Lib.hid (Chg.own2 O6.out c7 (by omega))
                  have B7 := Lib.hid b7
                  clear b7 c7 hw6
                  rcases (show x7 = 0 ∨ x7 = 1 by omega) with rfl | rfl
                  · have s0 := k7.cell 0
                    have s1 := B7.out.blk.cell 2
                    have s2 := B7.out.blk.frozen 2
                    simp at s0 s1
                    have B8 := Lib.hid (B7.out.setM (-1))
                    have O8 := Lib.hid (own_far O7.out (p := ⟨b, 2, none⟩) (fun e => by have h9 : b + 1 ≤ b := (O7.out.lt _ e).1; omega) (.int .i64 (-1)))
                    obtain ⟨w8, hw8⟩ : ∃ w8, w7.setCell ⟨b, 2, none⟩ (.int .i64 (-1)) = w8 := ⟨_, rfl⟩
                    rw [hw8] at B8 O8
                    clear k7
                    have FN := Lib.hid (B8.out.done O8.out)
                    have a0 := B8.out.blk.cell 0
                    have r0 := B8.out.res.cell 0
                    have z0 := B8.out.res.frozen 0
                    have a1 := B8.out.blk.cell 1
                    have r1 := B8.out.res.cell 1
                    have z1 := B8.out.res.frozen 1
                    have a2 := B8.out.blk.cell 2
                    have r2 := B8.out.res.cell 2
                    have z2 := B8.out.res.frozen 2
                    simp at a0 a1 a2 r0 r1 r2
                    go_wp2
                    refine bodyPost_ret (v := .agg #[.int .i64 y, (.slice Au ps.length cu), .int .i64 (-1)]) (by simp [results, Tryd.results40, go_sem, r0, r1, r2]) rfl ⟨y, (-1), (.slice Au ps.length cu), ps, (p' + 1 + 1 + 1), rfl, FN.out.2.2, by omega, by omega, by omega, fun h => absurd h hN0, FN.out.1, by omega, FN.out.2.1⟩
                  · have s0 := k7.cell 1
                    have s1 := B7.out.blk.cell 2
                    have s2 := B7.out.blk.frozen 2
                    simp at s0 s1
                    have B8 := Lib.hid (B7.out.setM 32)
                    have O8 := Lib.hid (own_far O7.out (p := ⟨b, 2, none⟩) (fun e => by have h9 : b + 1 ≤ b := (O7.out.lt _ e).1; omega) (.int .i64 32))
                    obtain ⟨w8, hw8⟩ : ∃ w8, w7.setCell ⟨b, 2, none⟩ (.int .i64 32) = w8 := ⟨_, rfl⟩
                    rw [hw8] at B8 O8
                    clear k7
                    have FN := Lib.hid (B8.out.done O8.out)
                    have a0 := B8.out.blk.cell 0
                    have r0 := B8.out.res.cell 0
                    have z0 := B8.out.res.frozen 0
                    have a1 := B8.out.blk.cell 1
                    have r1 := B8.out.res.cell 1
                    have z1 := B8.out.res.frozen 1
                    have a2 := B8.out.blk.cell 2
                    have r2 := B8.out.res.cell 2
                    have z2 := B8.out.res.frozen 2
                    simp at a0 a1 a2 r0 r1 r2
                    go_wp2
                    refine bodyPost_ret (v := .agg #[.int .i64 y, (.slice Au ps.length cu), .int .i64 32]) (by simp [results, Tryd.results40, go_sem, r0, r1, r2]) rfl ⟨y, 32, (.slice Au ps.length cu), ps, (p' + 1 + 1 + 1), rfl, FN.out.2.2, by omega, by omega, by omega, fun h => absurd h hN0, FN.out.1, by omega, FN.out.2.1⟩
                · have k6 := Blk.new w5 3 #[.int .i64 (-1), .int .i64 7]
                  have l6 := (Le.refl w5).alloc (.cells #[.int .i64 (-1), .int .i64 7] 3)
                  obtain ⟨w6, hw6⟩ : ∃ w6, w5.alloc (.cells #[.int .i64 (-1), .int .i64 7] 3) = w6 := ⟨_, rfl⟩
                  rw [hw6] at k6 l6
                  have B6 := Lib.hid (B5.out.le l6)
                  have O6 := Lib.hid (own_Le O5.out l6)
                  have K6 := Lib.hid k6
                  have hg5 : g < w5.heap.size := B5.out.rd.lt
                  clear k6 l6
                  go_wp2_with fail
                  refine (B6.out.pick (by omega) 2 (by omega) (by omega)).mono ?_; rintro e w7 ⟨x7, rfl, hx7, b7, c7⟩
                  have k7 : Blk w7 w5.heap.size _ _ := (c7.block _ K6.out.lt (.inr hg5)).trans K6.out
                  have O7 := Lib.hid (Chg.own2 O6.out c7 (by omega))
                  have B7 := Lib.hid b7
                  clear b7 c7 hw6
                  rcases (show x7 = 0 ∨ x7 = 1 by omega) with rfl | rfl
                  · have s0 := k7.cell 0
                    have s1 := B7.out.blk.cell 0
                    have s2 := B7.out.blk.frozen 0
                    simp at s0 s1
                    have B8 := Lib.hid (B7.out.setY (-1))
                    have O8 := Lib.hid (own_far O7.out (p := ⟨b, 0, none⟩) (fun e => by have h9 : b + 1 ≤ b := (O7.out.lt _ e).1; omega) (.int .i64 (-1)))
                    obtain ⟨w8, hw8⟩ : ∃ w8, w7.setCell ⟨b, 0, none⟩ (.int .i64 (-1)) = w8 := ⟨_, rfl⟩
                    rw [hw8] at B8 O8
                    clear k7
                    have FN := Lib.hid (B8.out.done O8.out)
                    have a0 := B8.out.blk.cell 0
                    have r0 := B8.out.res.cell 0
                    have z0 := B8.out.res.frozen 0
                    have a1 := B8.out.blk.cell 1
                    have r1 := B8.out.res.cell 1
                    have z1 := B8.out.res.frozen 1
                    have a2 := B8.out.blk.cell 2
                    have r2 := B8.out.res.cell 2
                    have z2 := B8.out.res.frozen 2
                    simp at a0 a1 a2 r0 r1 r2
                    go_wp2
                    refine bodyPost_ret (v := .agg #[.int .i64 (-1), (.slice Au ps.length cu), .int .i64 mk]) (by simp [results, Tryd.results40, go_sem, r0, r1, r2]) rfl ⟨(-1), mk, (.slice Au ps.length cu), ps, (p' + 1 + 1 + 1), rfl, FN.out.2.2, by omega, by omega, by omega, fun h => absurd h hN0, FN.out.1, by omega, FN.out.2.1⟩
                  · have s0 := k7.cell 1
                    have s1 := B7.out.blk.cell 0
                    have s2 := B7.out.blk.frozen 0
                    simp at s0 s1
                    have B8 := Lib.hid (B7.out.setY 7)
                    have O8 := Lib.hid (own_far O7.out (p := ⟨b, 0, none⟩) (fun e => by have h9 : b + 1 ≤ b := (O7.out.lt _ e).1; omega) (.int .i64 7))
                    obtain ⟨w8, hw8⟩ : ∃ w8, w7.setCell ⟨b, 0, none⟩ (.int .i64 7) = w8 := ⟨_, rfl⟩
                    rw [hw8] at B8 O8
                    clear k7
                    have FN := Lib.hid (B8.out.done O8.out)
                    have a0 := B8.out.blk.cell 0
                    have r0 := B8.out.res.cell 0
                    have z0 := B8.out.res.frozen 0
                    have a1 := B8.out.blk.cell 1
                    have r1 := B8.out.res.cell 1
                    have z1 := B8.out.res.frozen 1
                    have a2 := B8.out.blk.cell 2
                    have r2 := B8.out.res.cell 2
                    have z2 := B8.out.res.frozen 2
                    simp at a0 a1 a2 r0 r1 r2
                    go_wp2
                    refine bodyPost_ret (v := .agg #[.int .i64 7, (.slice Au ps.length cu), .int .i64 mk]) (by simp [results, Tryd.results40, go_sem, r0, r1, r2]) rfl ⟨7, mk, (.slice Au ps.length cu), ps, (p' + 1 + 1 + 1), rfl, FN.out.2.2, by omega, by omega, by omega, fun h => absurd h hN0, FN.out.1, by omega, FN.out.2.1⟩
                · have s1 := B5.out.blk.cell 1
                  simp at s1
                  go_wp2_with (at_builtin; refine wpList_append_own _ rfl _ _ 24 rfl (b + 1) 80 i0 _ 2 16 Tryd.underlying24 hi0 hz0 hz1 hz2 rfl (by decide) (.slice Au ps.length cu) ps.length (pairs ps) rfl (O5.out.alloc _) ⟨w5.heap.size, 0, none⟩ 1 1 [.int .i64 (index : Int), .int .i64 1] rfl rfl (cell_two' w5 _ rfl _ _ _) (fun u hu => by simp at hu; rcases hu with rfl | rfl <;> rfl) (by unfold maxLen; omega) (by omega) (by have := B5.out.blk.lt; simp; omega) ?_)
                  intro v6 w6 hown6 hgrow6 _
                  obtain ⟨g6, c6, rfl⟩ : ∃ g6 c6, v6 = .slice (some ⟨g6, 0, none⟩) (ps.length + 1) c6 := by
                    rcases hown6.2 with ⟨_, e⟩ | ⟨g', cap', cur, e, _⟩
                    · omega
                    · exact ⟨g', cap', e⟩
                  have B6 := Lib.hid ((B5.out.le ((Le.refl w5).alloc (.cells #[.int .i64 (index : Int), .int .i64 1] 80))).grown hgrow6 (fun q hq => by have := (O5.out.lt q hq).1; omega))
                  have O6 := Lib.hid (show w6.ownsRow (b + 1) 80 2 (.slice (some ⟨g6, 0, none⟩) (ps.length + 1) c6) (ps ++ [(((index : Int) : Int), (1 : Int))]).length (pairs (ps ++ [(((index : Int) : Int), (1 : Int))])) from by rw [pairs_snoc, List.length_append]; exact hown6)
                  clear hown6 hgrow6 s1
                  have s1 := B6.out.blk.cell 1
                  have s2 := B6.out.blk.frozen 1
                  simp at s1
                  have B8 := Lib.hid (B6.out.setU (.slice (some ⟨g6, 0, none⟩) (ps.length + 1) c6))
                  have O8 := Lib.hid (own_far O6.out (p := ⟨b, 1, none⟩) (fun e => by have h9 : b + 1 ≤ b := (O6.out.lt _ e).1; omega) (.slice (some ⟨g6, 0, none⟩) (ps.length + 1) c6))
                  obtain ⟨w8, hw8⟩ : ∃ w8, w6.setCell ⟨b, 1, none⟩ (.slice (some ⟨g6, 0, none⟩) (ps.length + 1) c6) = w8 := ⟨_, rfl⟩
                  rw [hw8] at B8 O8
                  have FN := Lib.hid (B8.out.done O8.out)
                  have a0 := B8.out.blk.cell 0
                  have r0 := B8.out.res.cell 0
                  have z0 := B8.out.res.frozen 0
                  have a1 := B8.out.blk.cell 1
                  have r1 := B8.out.res.cell 1
                  have z1 := B8.out.res.frozen 1
                  have a2 := B8.out.blk.cell 2
                  have r2 := B8.out.res.cell 2
                  have z2 := B8.out.res.frozen 2
                  simp at a0 a1 a2 r0 r1 r2
                  go_wp2
                  refine bodyPost_ret (v := .agg #[.int .i64 y, (.slice (some ⟨g6, 0, none⟩) (ps.length + 1) c6), .int .i64 mk]) (by simp [results, Tryd.results40, go_sem, r0, r1, r2]) rfl ⟨y, mk, (.slice (some ⟨g6, 0, none⟩) (ps.length + 1) c6), (ps ++ [(((index : Int) : Int), (1 : Int))]), (p' + 1 + 1), rfl, FN.out.2.2, by rw [List.length_append]; simp; omega, by omega, by omega, fun h => absurd h hN0, FN.out.1, by omega, FN.out.2.1⟩
                · have s0 := B5.out.blk.cell 0
                  have t0 := B5.out.blk.frozen 0
                  have s1 := B5.out.blk.cell 1
                  have t1 := B5.out.blk.frozen 1
                  have s2 := B5.out.blk.cell 2
                  have t2 := B5.out.blk.frozen 2
                  simp at s0 s1 s2
                  have B8 := Lib.hid (((B5.out.setY 2).setU (.slice none 0 0)).setM 0)
                  obtain ⟨w8, hw8⟩ : ∃ w8, ((w5.setCell ⟨b, 0, none⟩ (.int .i64 2)).setCell ⟨b, 1, none⟩ (.slice none 0 0)).setCell ⟨b, 2, none⟩ (.int .i64 0) = w8 := ⟨_, rfl⟩
                  rw [hw8] at B8
                  have O8 := Lib.hid (World.ownsRow_nil w8 (b + 1) 80 2)
                  have FN := Lib.hid (B8.out.done O8.out)
                  have a0 := B8.out.blk.cell 0
                  have r0 := B8.out.res.cell 0
                  have z0 := B8.out.res.frozen 0
                  have a1 := B8.out.blk.cell 1
                  have r1 := B8.out.res.cell 1
                  have z1 := B8.out.res.frozen 1
                  have a2 := B8.out.blk.cell 2
                  have r2 := B8.out.res.cell 2
                  have z2 := B8.out.res.frozen 2
                  simp at a0 a1 a2 r0 r1 r2
                  go_wp2
                  refine bodyPost_ret (v := .agg #[.int .i64 2, (.slice none 0 0), .int .i64 0]) (by simp [results, Tryd.results40, go_sem, r0, r1, r2]) rfl ⟨2, 0, (.slice none 0 0), [], (p' + 1 + 1), rfl, FN.out.2.2, by simp, by omega, by omega, fun h => absurd h hN0, FN.out.1, by omega, FN.out.2.1⟩
end Go.Proofs.YtoahjfofnaafaaaDoor
