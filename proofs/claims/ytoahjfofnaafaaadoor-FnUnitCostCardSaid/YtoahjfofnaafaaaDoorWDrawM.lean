/- Walks: drawn lists of items: l20Items. -/
import Derived.Test.YtoahjfofnaafaaaDoorWDrawI
import Derived.Maps.AppendAt
namespace Go.Proofs.YtoahjfofnaafaaaDoor
open Go.RowKit

/-- drawn items: a row of the call's own, the parts of each in a row of the call's own -/
structure DM (b : Nat) (w : World) (v : Value) (k : Nat) (h : Nat → Value) (ts : List It) : Prop where
  len : ts.length = k
  row : ∃ xs, w.ownsRow b 26 3 v k xs ∧ ∀ j, j < k → xs[j * 3]? = some (.int .i64 (gm ts j).1) ∧ xs[j * 3 + 1]? = some (h j) ∧ xs[j * 3 + 2]? = some (.int .i64 (gm ts j).2.2)
  parts : ∀ j, j < k → w.ownsRow b 80 2 (h j) (gm ts j).2.1.length (pairs (gm ts j).2.1)
  apart : ∀ j, j < k → ∀ g, v.ownBlock = some g → (h j).ownBlock ≠ some g
  small : ∀ j, j < k → (gm ts j).2.1.length ≤ 4
section
variable {b k : Nat} {w w' : World} {v : Value} {h : Nat → Value} {ts : List It}
theorem DM.vlt (d : DM b w v k h ts) (g : Nat) (hg : v.ownBlock = some g) : b ≤ g ∧ g < w.heap.size := let ⟨_, o, _⟩ := d.row; o.lt g hg
theorem DM.chg {lo hi : Nat} (d : DM b w v k h ts) (hc : Chg lo hi w w') (hb : hi ≤ b) : DM b w' v k h ts :=
  ⟨d.len, let ⟨xs, o, hx⟩ := d.row; ⟨xs, Chg.own o hc (fun g hg => .inr (Nat.le_trans hb (o.lt g hg).1)), hx⟩, fun j hj => Chg.own (d.parts j hj) hc (fun g hg => .inr (Nat.le_trans hb ((d.parts j hj).lt g hg).1)), d.apart, d.small⟩
theorem DM.le (d : DM b w v k h ts) (hl : Le w w') : DM b w' v k h ts :=
  ⟨d.len, let ⟨xs, o, hx⟩ := d.row; ⟨xs, own_Le o hl, hx⟩, fun j hj => own_Le (d.parts j hj) hl, d.apart, d.small⟩
theorem DM.base {b' : Nat} (d : DM b w v k h ts) (hb : b' ≤ b) : DM b' w v k h ts :=
  ⟨d.len, let ⟨xs, o, hx⟩ := d.row; ⟨xs, own_mono o hb, hx⟩, fun j hj => own_mono (d.parts j hj) hb, d.apart, d.small⟩
theorem DM.nil (b : Nat) (w : World) (h : Nat → Value) (v : Value) (o : w.ownsRow b 26 3 v 0 []) : DM b w v 0 h [] :=
  ⟨rfl, ⟨[], o, fun j hj => absurd hj (by omega)⟩, fun j hj => absurd hj (by omega), fun j hj => absurd hj (by omega), fun j hj => absurd hj (by omega)⟩
theorem gm_snoc_lt {ts : List It} {x : It} {j : Nat} (h : j < ts.length) : gm (ts ++ [x]) j = gm ts j := by
  unfold gm; rw [List.getD_eq_getElem?_getD, List.getD_eq_getElem?_getD, List.getElem?_append_left h]
theorem gm_snoc_at (ts : List It) (x : It) : gm (ts ++ [x]) ts.length = x := by
  unfold gm; simp [List.getD_eq_getElem?_getD]
/-- one item more -/
theorem DM.push {b' : Nat} {u v' : Value} {y mk : Int} {ps : List (Int × Int)} {xs : List Value} (d : DM b w v k h ts) (hx : ∀ j, j < k → xs[j * 3]? = some (.int .i64 (gm ts j).1) ∧ xs[j * 3 + 1]? = some (h j) ∧ xs[j * 3 + 2]? = some (.int .i64 (gm ts j).2.2)) (hxl : xs.length = k * 3)
    (hu : w.ownsRow b 80 2 u ps.length (pairs ps)) (hul : ps.length ≤ 4) (hlo : ∀ g, u.ownBlock = some g → b' ≤ g) (hvb : ∀ g, v.ownBlock = some g → g < b')
    (hw' : w'.ownsRow b 26 3 v' (k + 1) (xs ++ [.int .i64 y, u, .int .i64 mk])) (hg : w.grownBy w' v.ownBlock) (hat : v'.ownBlock = v.ownBlock ∨ v'.ownBlock = some w.heap.size) :
    DM b w' v' (k + 1) (fun j => if j = k then u else h j) (ts ++ [(y, ps, mk)]) := by
  have hlt : ∀ j, j < k → gm (ts ++ [(y, ps, mk)]) j = gm ts j := fun j hj => gm_snoc_lt (by rw [d.len]; exact hj)
  have hat' : gm (ts ++ [(y, ps, mk)]) k = (y, ps, mk) := by have := gm_snoc_at ts (y, ps, mk); rwa [d.len] at this
  have hparts : ∀ j, j < k → w'.ownsRow b 80 2 (h j) (gm ts j).2.1.length (pairs (gm ts j).2.1) := fun j hj => (d.parts j hj).kept hg (by
    cases hv : (h j).ownBlock with
    | none => exact .inl rfl
    | some g => exact .inr fun e => d.apart j hj g e.symm hv)
  have hu' : w'.ownsRow b 80 2 u ps.length (pairs ps) := hu.kept hg (by
    cases hv : u.ownBlock with
    | none => exact .inl rfl
    | some g => exact .inr fun e => by have := hlo g hv; have := hvb g e.symm; omega)
  refine ⟨by rw [List.length_append, d.len]; rfl, ⟨_, hw', fun j hj => ?_⟩, fun j hj => ?_, fun j hj g hg' => ?_, fun j hj => ?_⟩
  · by_cases e : j = k
    · subst e
      rw [hat']
      simp only [if_true]
      refine ⟨?_, ?_, ?_⟩
      · rw [List.getElem?_append_right (by omega), hxl, Nat.sub_self]; rfl
      · rw [List.getElem?_append_right (by omega), hxl, show j * 3 + 1 - j * 3 = 1 by omega]; rfl
      · rw [List.getElem?_append_right (by omega), hxl, show j * 3 + 2 - j * 3 = 2 by omega]; rfl
    · rw [hlt j (by omega)]
      simp only [if_neg e]
      obtain ⟨h1, h2, h3⟩ := hx j (by omega)
      rw [List.getElem?_append_left (by omega), List.getElem?_append_left (by omega), List.getElem?_append_left (by omega)]
      exact ⟨h1, h2, h3⟩
  · by_cases e : j = k
    · subst e; simp only [if_true]; rw [hat']; exact hu'
    · simp only [if_neg e]; rw [hlt j (by omega)]; exact hparts j (by omega)
  · by_cases e : j = k
    · simp only [if_pos e]
      intro hc
      rcases hat with e1 | e1
      · rw [e1] at hg'; have := hlo g hc; have := hvb g hg'; omega
      · rw [e1] at hg'; injection hg' with hg'; have := (hu.lt g hc).2; omega
    · simp only [if_neg e]
      rcases hat with e1 | e1
      · rw [e1] at hg'; exact d.apart j (by omega) g hg'
      · rw [e1] at hg'; injection hg' with hg'
        intro hc; have := ((d.parts j (by omega)).lt g hc).2; omega
  · by_cases e : j = k
    · subst e; rw [hat']; exact hul
    · rw [hlt j (by omega)]; exact d.small j (by omega)
theorem DM.rm {A : Option Addr} {n c : Nat} (d : DM b w (.slice A n c) k h ts) (hk : k ≤ 1048576) : n = k ∧ RM w A k ts := by
  obtain ⟨xs, o, hx⟩ := d.row
  rcases o.2 with ⟨e, rfl⟩ | ⟨g, cap, cur, e, hb, hg, hn, hcm, hs, ht⟩
  · injection e with e1 e2 e3
    subst e1 e2
    exact ⟨rfl, d.len, by omega, fun j hj => absurd hj (by omega)⟩
  · injection e with e1 e2 e3
    subst e1 e2
    refine ⟨rfl, d.len, by omega, fun j hj => ?_⟩
    obtain ⟨h1, h2, h3⟩ := hx j hj
    obtain ⟨B, c', e, hr⟩ := own_RP (d.parts j hj) (by have := d.small j hj; omega)
    rw [e] at h2
    have q1 := o.cells (g := g) rfl _ _ h1
    have q2 := o.cells (g := g) rfl _ _ h2
    have q3 := o.cells (g := g) rfl _ _ h3
    refine ⟨_, B, _, c', rfl, q1, ?_, ?_, hr⟩
    · rw [addr0] at q2 ⊢; exact q2
    · rw [addr0] at q3 ⊢; exact q3
end
theorem cell_three' (w : World) (n : Nat) (hn : w.heap.size = n) (a b d : Value) (t : TypeId) : ∀ j u, [a, b, d][j]? = some u → (w.alloc (.cells #[a, b, d] t)).cell? ((⟨n, 0, none⟩ : Addr).add j) = some u := by
  subst hn
  intro j u hj
  rw [addr0, (Blk.new w t #[a, b, d]).cell j]
  rw [← hj]
  match j with
  | 0 => rfl
  | 1 => rfl
  | 2 => rfl
  | j + 3 => rfl
theorem DM.form {b k : Nat} {w : World} {v : Value} {h : Nat → Value} {ts : List It} (d : DM b w v k h ts) (hnn : v ≠ .slice none 0 0) : ∃ gv cap, v = .slice (some ⟨gv, 0, none⟩) k cap ∧ b ≤ gv ∧ k ≤ cap ∧ cap ≤ maxLen := by
  obtain ⟨xs, o, _⟩ := d.row
  rcases o.2 with ⟨e, _⟩ | ⟨g', cap, cur, e, h1, _, h2, h3, _⟩
  · exact absurd e hnn
  · exact ⟨g', cap, e, h1, h2, h3⟩
/-- drawn items, as a law holds them -/
def DrM (W w : World) (g : Nat) (A : Option Addr) (n c p q : Nat) (e : Ending) (w' : World) : Prop :=
  ∃ (gv cap k : Nat) (h : Nat → Value) (ts : List It) (p' : Nat), e = .returned (.slice (some ⟨gv, 0, none⟩) k cap) ∧ DM w.heap.size w' (.slice (some ⟨gv, 0, none⟩) k cap) k h ts ∧ k ≤ 7 ∧ Rd W w' g A n c p' ∧ p' ≤ p + q ∧ Chg g (g + 1) w w'
set_option maxRecDepth 20000 in
set_option maxHeartbeats 4000000 in
theorem l20Items_any (W w : World) (g : Nat) (A : Option Addr) (n c p N : Nat) (h : Rd W w g A n c p) (hp : p ≤ 800000) (h1 : 1 ≤ N) (h2 : N ≤ 1000) :
    Calls Tryd.prog 63 #[.pointer (some ⟨g, 0, none⟩), .int .i64 (N : Int)] w (DrM W w g A n c p 400) := by
  obtain ⟨i0, hi0, hz0, hz1, hz2⟩ := info_parts infoItem
  have hgw := h.lt
  have HR0 := Lib.hid (h.more ((Le.refl w).alloc (.cells #[] 26)))
  have HO0 := Lib.hid (own_empty w 26 3)
  have HC0 := Lib.hid (Chg.of_le (lo := g) (hi := g + 1) ((Le.refl w).alloc (.cells #[] 26)))
  clear h
  obtain ⟨w0, hw0⟩ : ∃ w0, w.alloc (.cells #[] 26) = w0 := ⟨_, rfl⟩
  rw [hw0] at HR0 HO0 HC0
  go_enter Tryd.func63, Tryd.ntmps63
  go_wp2_with fail
  refine (pick_any _ _ _ _ _ _ _ 7 HR0.out (by omega) (by omega) (by omega)).mono ?_; rintro e w1 ⟨x, rfl, hx, r1, g1⟩
  have HR1 := Lib.hid r1
  have HO1 := Lib.hid (Chg.own2 HO0.out g1 hgw)
  have HC1 := Lib.hid (HC0.out.trans g1)
  clear r1 g1
  go_wp2
  go_loopw [5, 6] (fun v i wr => ∃ (k m p' : Nat) (hh : Nat → Value) (ts : List It), k + m ≤ 6 ∧ i = .int .i64 (k : Int) ∧ v ≠ .slice none 0 0 ∧ DM w.heap.size wr v m hh ts ∧ Rd W wr g A n c p' ∧ p' + 40 * k ≤ p + 241 ∧ Chg g (g + 1) w wr) (fun _ i _ => (intOf i).toNat)
  case atStart => exact ⟨x, 0, p + 1, fun _ => .slice none 0 0, [], by omega, rfl, (fun e => by cases e), DM.nil _ _ _ _ HO1.out, HR1.out, by omega, HC1.out⟩
  case round =>
    obtain ⟨k, m, p', hh, ts, hkm, rfl, hnn, dm, hrd, hpp, hch⟩ := hrel
    obtain ⟨gv, cap, rfl, hgv, hcap, hcm⟩ := dm.form hnn
    have HD := Lib.hid dm
    have HCH := Lib.hid hch
    by_cases hk : 0 < k
    · have hk2 : decide ((0 : Int) < (k : Int)) = true := by simp; omega
      have HIT := Lib.hid (l20Item_any _ _ _ _ _ _ _ m 0 hrd (by omega) (by omega) (by omega))
      clear hch dm hrd hnn
      go_wp2_with fail
      refine HIT.out.mono ?_; rintro e w2 ⟨y, mk, u, ps, p2, rfl, o2, l2, _, _, _, r2, q2, c2⟩
      obtain ⟨B, cu, rfl, _⟩ := own_RP o2 (by omega)
      have HD2 := Lib.hid (HD.out.chg c2 hgw)
      have hvb := fun g' (hg' : (Value.slice (some ⟨gv, 0, none⟩) m cap).ownBlock = some g') => (HD.out.vlt g' hg').2
      have HVB := Lib.hid hvb
      have hws := HCH.out.size
      have HCH2 := Lib.hid (HCH.out.trans c2)
      have R2 := Lib.hid r2
      have O2 := Lib.hid o2
      have hs2 := c2.size
      clear r2 o2 c2 hvb
      obtain ⟨xs, ox, hx⟩ := HD2.out.row
      have OX := Lib.hid ox
      have HX := Lib.hid hx
      clear ox hx
      go_wp2_with (at_builtin; refine wpList_append_own_at _ rfl _ _ 39 rfl w.heap.size 26 i0 _ 3 40 Tryd.underlying39 hi0 hz0 hz1 hz2 rfl (by decide) _ m xs rfl (OX.out.alloc _) ⟨w2.heap.size, 0, none⟩ 1 1 [.int .i64 y, .slice B ps.length cu, .int .i64 mk] rfl rfl ?c1 ?c2 ?c3 ?c4 ?c5 ?_)
      case c1 => exact cell_three' w2 _ rfl _ _ _ _
      case c2 => intro u hu; simp at hu; rcases hu with rfl | rfl | rfl <;> rfl
      case c3 => unfold maxLen; omega
      case c4 => omega
      case c5 => simp; omega
      intro v' w4 hown' hgrow hnil hat
      have la := (Le.refl w2).alloc (.cells #[.int .i64 y, .slice B ps.length cu, .int .i64 mk] 26)
      have hp := (HD2.out.le la).push (b' := wr.heap.size) HX.out OX.out.1 (own_mono (own_Le O2.out la) (by omega)) l2 (fun g' hg' => (O2.out.lt g' hg').1) HVB.out hown' hgrow (by simpa using hat)
      have hR4 := (R2.out.more la).grown hgrow (fun q hq => by have := (OX.out.lt q hq).1; omega)
      have hC4 := (HCH2.out.more la).row hgrow (fun q hq => (OX.out.lt q hq).1)
      have HN := Lib.hid (show v' ≠ .slice none 0 0 from hnil)
      have HP := Lib.hid hp
      have HR4 := Lib.hid hR4
      have HC4 := Lib.hid hC4
      clear hown' hgrow hR4 hC4 hnil hat la hp
      go_wp2
      go_roundw
      case rel => exact ⟨k - 1, m + 1, p2, _, _, by omega, by congr 1; omega, HN.out, HP.out, HR4.out, by omega, HC4.out⟩
      case measure => simp [intOf]; omega
    · obtain rfl : k = 0 := by omega
      clear hch dm hnn
      go_wp2_with fail
      refine (odd_any _ _ _ _ _ _ _ N hrd (by omega) h1 (by omega)).mono ?_; rintro e w2 ⟨t, rfl, r2, c2⟩
      have HD2 := Lib.hid (HD.out.chg c2 hgw)
      have HC2 := Lib.hid (HCH.out.trans c2)
      have hws := HC2.out.size
      have R2 := Lib.hid r2
      clear r2 c2 hrd
      cases t
      · go_wp2
        go_ret
        exact ⟨gv, cap, m, hh, ts, p' + 1, rfl, HD2.out, by omega, R2.out, by omega, HC2.out⟩
      · go_wp2_with fail
        refine (pick_any _ _ _ _ _ _ _ 3 R2.out (by omega) (by omega) (by omega)).mono ?_; rintro e w3 ⟨x3, rfl, hx3, r3, c3⟩
        have HD3 := Lib.hid (HD2.out.chg c3 hgw)
        have HC3 := Lib.hid (HC2.out.trans c3)
        have hws3 := HC3.out.size
        have R3 := Lib.hid r3
        clear r3 c3
        by_cases hx0 : x3 = 0
        · subst hx0
          have hmk := run_mk (P := Tryd.prog) 39 26 (.agg #[.int .i64 0, .slice none 0 0, .int .i64 0]) 3 40 Tryd.underlying39 infoItem 7 (by omega) (by omega) w3
          rw [show ((7 : Nat) : Int) = 7 from rfl] at hmk
          go_wp2
          go_ret
          refine ⟨_, _, 7, fun _ => .slice none 0 0, List.replicate 7 (0, [], 0), p' + 1 + 1, rfl, ?_, by omega, R3.out.more ((Le.refl _).alloc _), by omega, HC3.out.more ((Le.refl _).alloc _)⟩
          refine ⟨rfl, ⟨_, Blk.own (size := 3) (n := 7) (cap := 7) (Blk.new _ _ _) (by omega) (Nat.le_refl _) (by unfold maxLen; omega) (made_size _ _), ?_⟩, ?_, ?_, ?_⟩
          · intro j hj
            rcases (show j = 0 ∨ j = 1 ∨ j = 2 ∨ j = 3 ∨ j = 4 ∨ j = 5 ∨ j = 6 by omega) with rfl | rfl | rfl | rfl | rfl | rfl | rfl <;> exact ⟨by kernel_rfl, by kernel_rfl, by kernel_rfl⟩
          · intro j hj
            rcases (show j = 0 ∨ j = 1 ∨ j = 2 ∨ j = 3 ∨ j = 4 ∨ j = 5 ∨ j = 6 by omega) with rfl | rfl | rfl | rfl | rfl | rfl | rfl <;> exact World.ownsRow_nil _ _ _ _
          · intro j _ g' _ e; cases e
          · intro j hj
            rcases (show j = 0 ∨ j = 1 ∨ j = 2 ∨ j = 3 ∨ j = 4 ∨ j = 5 ∨ j = 6 by omega) with rfl | rfl | rfl | rfl | rfl | rfl | rfl <;> exact Nat.zero_le _
        · have hx1 : ((x3 : Int) == 0) = false := by rw [beq_eq_false_iff_ne]; omega
          have HIT := Lib.hid (l20Item_any _ _ _ _ _ _ _ m 1 R3.out (by omega) (by omega) (by omega))
          go_wp2_with fail
          refine HIT.out.mono ?_; rintro e w4 ⟨y, mk, u, ps, p4, rfl, o4, l4, _, _, _, r4, q4, c4⟩
          obtain ⟨B, cu, rfl, _⟩ := own_RP o4 (by omega)
          have HD4 := Lib.hid (HD3.out.chg c4 hgw)
          have HVB := Lib.hid (fun g' (hg' : (Value.slice (some ⟨gv, 0, none⟩) m cap).ownBlock = some g') => (HD3.out.vlt g' hg').2)
          have HCH4 := Lib.hid (HC3.out.trans c4)
          have R4 := Lib.hid r4
          have O4 := Lib.hid o4
          have hs4 := c4.size
          clear r4 o4 c4
          obtain ⟨xs, ox, hx⟩ := HD4.out.row
          have OX := Lib.hid ox
          have HX := Lib.hid hx
          clear ox hx
          go_wp2_with (at_builtin; refine wpList_append_own_at _ rfl _ _ 39 rfl w.heap.size 26 i0 _ 3 40 Tryd.underlying39 hi0 hz0 hz1 hz2 rfl (by decide) _ m xs rfl (OX.out.alloc _) ⟨w4.heap.size, 0, none⟩ 1 1 [.int .i64 y, .slice B ps.length cu, .int .i64 mk] rfl rfl ?c1 ?c2 ?c3 ?c4 ?c5 ?_)
          case c1 => exact cell_three' w4 _ rfl _ _ _ _
          case c2 => intro u hu; simp at hu; rcases hu with rfl | rfl | rfl <;> rfl
          case c3 => unfold maxLen; omega
          case c4 => omega
          case c5 => simp; omega
          intro v' w5 hown' hgrow hnil hat
          have la := (Le.refl w4).alloc (.cells #[.int .i64 y, .slice B ps.length cu, .int .i64 mk] 26)
          have hp := (HD4.out.le la).push (b' := w3.heap.size) HX.out OX.out.1 (own_mono (own_Le O4.out la) (by omega)) l4 (fun g' hg' => (O4.out.lt g' hg').1) HVB.out hown' hgrow (by simpa using hat)
          have hR5 := (R4.out.more la).grown hgrow (fun q hq => by have := (OX.out.lt q hq).1; omega)
          have hC5 := (HCH4.out.more la).row hgrow (fun q hq => (OX.out.lt q hq).1)
          obtain ⟨g5, cap5, rfl, _, _, _⟩ := hp.form hnil
          have HP := Lib.hid hp
          have HR5 := Lib.hid hR5
          have HC5 := Lib.hid hC5
          clear hown' hgrow hR5 hC5 hnil hat la hp
          go_wp2
          go_ret
          exact ⟨g5, cap5, m + 1, _, _, p4, rfl, HP.out, by omega, HR5.out, by omega, HC5.out⟩
end Go.Proofs.YtoahjfofnaafaaaDoor
