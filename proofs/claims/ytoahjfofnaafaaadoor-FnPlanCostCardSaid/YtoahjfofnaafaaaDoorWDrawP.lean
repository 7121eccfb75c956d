/- Walks: drawn plans: l20Plan. -/
import Derived.Test.YtoahjfofnaafaaaDoorWLawP
namespace Go.Proofs.YtoahjfofnaafaaaDoor
open Go.RowKit

theorem Chg.over {lo hi lo2 hi2 : Nat} {w w1 w2 : World} (h : Chg lo hi w w1) (k : Chg lo2 hi2 w1 w2) (hl : w.heap.size ≤ lo2) : Chg lo hi w w2 :=
  ⟨k.os.trans h.os, k.tape.trans h.tape, k.output.trans h.output, Nat.le_trans h.size k.size, fun i hi h2 => (k.block i (Nat.lt_of_lt_of_le hi h.size) (.inl (Nat.lt_of_lt_of_le hi hl))).trans (h.block i hi h2)⟩
/-- the reader, and the box of a plan that is being drawn; w4: the world before the plan -/
structure PX (W w4 : World) (g : Nat) (A : Option Addr) (n c p b : Nat) (v1 v2 : Value) (r l : Nat) (R L : List Int) (wr : World) : Prop where
  rd : Rd W wr g A n c p
  chg : Chg g (g + 1) w4 wr
  blk : Blk wr b 42 #[v1, v2]
  runs : wr.ownsRow w4.heap.size 3 1 v1 r (ints R)
  left : wr.ownsRow w4.heap.size 3 1 v2 l (ints L)
  base : w4.heap.size ≤ b
  low : g < w4.heap.size
  n1 : v1.ownBlock ≠ some b
  n2 : v2.ownBlock ≠ some b
  n12 : ∀ q, v1.ownBlock = some q → v2.ownBlock ≠ some q
section
variable {W w4 wr w' : World} {g : Nat} {A : Option Addr} {n c p b : Nat} {v1 v2 : Value} {r l : Nat} {R L : List Int}
theorem PX.of_chg {p' : Nat} (h : PX W w4 g A n c p b v1 v2 r l R L wr) (hr : Rd W w' g A n c p') (hc : Chg g (g + 1) wr w') : PX W w4 g A n c p' b v1 v2 r l R L w' :=
  ⟨hr, h.chg.trans hc, (hc.block b h.blk.lt (.inr (by have := h.base; have := h.low; omega))).trans h.blk, Chg.own2 h.runs hc (by have := h.low; omega), Chg.own2 h.left hc (by have := h.low; omega), h.base, h.low, h.n1, h.n2, h.n12⟩
theorem PX.le (h : PX W w4 g A n c p b v1 v2 r l R L wr) (hl : Le wr w') : PX W w4 g A n c p b v1 v2 r l R L w' := h.of_chg (h.rd.more hl) (Chg.of_le hl)
theorem PX.pick (h : PX W w4 g A n c p b v1 v2 r l R L wr) (hp : p ≤ 1000000) (N : Nat) (h1 : 1 ≤ N) (h2 : N ≤ 1000000) :
    Calls Tryd.prog 41 #[.pointer (some ⟨g, 0, none⟩), .int .i64 (N : Int)] wr fun e w' => ∃ x : Nat, e = .returned (.int .i64 (x : Int)) ∧ x < N ∧ PX W w4 g A n c (p + 1) b v1 v2 r l R L w' ∧ Chg g (g + 1) wr w' :=
  (pick_any _ _ _ _ _ _ _ N h.rd hp h1 h2).mono fun _ _ ⟨x, he, hx, rd, hc⟩ => ⟨x, he, hx, h.of_chg rd hc, hc⟩
theorem PX.odd (h : PX W w4 g A n c p b v1 v2 r l R L wr) (hp : p ≤ 1000000) (N : Nat) (h1 : 1 ≤ N) (h2 : N ≤ 1000000) :
    Calls Tryd.prog 77 #[.pointer (some ⟨g, 0, none⟩), .int .i64 (N : Int)] wr fun e w' => ∃ t : Bool, e = .returned (.bool t) ∧ PX W w4 g A n c (p + 1) b v1 v2 r l R L w' ∧ Chg g (g + 1) wr w' :=
  (odd_any _ _ _ _ _ _ _ N h.rd hp h1 h2).mono fun _ _ ⟨x, he, rd, hc⟩ => ⟨x, he, h.of_chg rd hc, hc⟩
/-- one number of the runs is set -/
theorem PX.setR {q : Nat} {x : Int} {g1 c1 : Nat} (h : PX W w4 g A n c p b (.slice (some ⟨g1, 0, none⟩) r c1) v2 r l R L wr) : PX W w4 g A n c p b (.slice (some ⟨g1, 0, none⟩) r c1) v2 r l (R.set q x) L (wr.setCell ⟨g1, q, none⟩ (.int .i64 x)) := by
  obtain ⟨oS, gS⟩ := h.runs.stored q (.int .i64 x)
  have hg1 := (h.runs.lt g1 rfl)
  have hb : b ≠ g1 := fun e => h.n1 (by rw [e]; rfl)
  refine ⟨h.rd.grown gS (fun k hk => by have e : g1 = k := Option.some.inj hk; have := h.low; omega), h.chg.row gS (fun k hk => by have e : g1 = k := Option.some.inj hk; omega), h.blk.far (p := ⟨g1, q, none⟩) hb _, ?_, own_far h.left (p := ⟨g1, q, none⟩) (h.n12 g1 rfl) _, h.base, h.low, h.n1, h.n2, h.n12⟩
  rw [← ints_set1]; exact oS
/-- Left is set -/
theorem PX.setL {v : Value} {m : Nat} {M : List Int} (h : PX W w4 g A n c p b v1 v2 r l R L wr) (ho : wr.ownsRow w4.heap.size 3 1 v m (ints M)) (hvb : v.ownBlock ≠ some b) (hv1 : ∀ q, v1.ownBlock = some q → v.ownBlock ≠ some q) :
    PX W w4 g A n c p b v1 v r m R M (wr.setCell ⟨b, 1, none⟩ v) := by
  refine ⟨h.rd.grown (gb_setCell (World.grownBy.refl _ (some b)) rfl v) (fun k hk => by injection hk with hk; have := h.low; have := h.base; omega), h.chg.set1 h.base 1 v, ?_, own_far h.runs (p := ⟨b, 1, none⟩) h.n1 v, own_far ho (p := ⟨b, 1, none⟩) hvb v, h.base, h.low, h.n1, hvb, hv1⟩
  have := h.blk.set_ 1 v
  simpa using this
theorem PX.cellR {g1 c1 : Nat} (h : PX W w4 g A n c p b (.slice (some ⟨g1, 0, none⟩) r c1) v2 r l R L wr) {j : Nat} (hj : j < r) : wr.cell? ⟨g1, j, none⟩ = some (.int .i64 (gi R j)) ∧ wr.frozen? ⟨g1, j, none⟩ = false := by
  obtain ⟨q, cap, e, _, _, _, hf, hc⟩ := own_open h.runs (by omega)
  injection e with e1 _ _
  injection e1 with e1
  injection e1 with e1 _ _
  subst e1
  exact ⟨hc j hj, hf j⟩
theorem PX.lenR (h : PX W w4 g A n c p b v1 v2 r l R L wr) : R.length = r := by have := h.runs.1; rw [ints_length] at this; omega
end
/-- the same, when the two lists need not lie apart any more -/
structure PY (W w4 : World) (g : Nat) (A : Option Addr) (n c p b : Nat) (v1 v2 : Value) (r l : Nat) (R L : List Int) (wr : World) : Prop where
  rd : Rd W wr g A n c p
  chg : Chg g (g + 1) w4 wr
  blk : Blk wr b 42 #[v1, v2]
  runs : wr.ownsRow w4.heap.size 3 1 v1 r (ints R)
  left : wr.ownsRow w4.heap.size 3 1 v2 l (ints L)
  base : w4.heap.size ≤ b
  low : g < w4.heap.size
section
variable {W w4 wr w' : World} {g : Nat} {A : Option Addr} {n c p b : Nat} {v1 v2 : Value} {r l : Nat} {R L : List Int}
/-- Left grows by an append and is stored back -/
theorem PX.app {v : Value} {m : Nat} {M : List Int} {wa w5 : World} {A1 : Option Addr} {c1 : Nat} (h : PX W w4 g A n c p b (.slice A1 r c1) v2 r l R L wr) (la : Le wr wa) (hg : wa.grownBy w5 v2.ownBlock) (ho : w5.ownsRow w4.heap.size 3 1 v m (ints M)) (hm : 0 < m) :
    PY W w4 g A n c p b (.slice A1 r c1) v r m R M (w5.setCell ⟨b, 1, none⟩ v) := by
  have hlow := h.low
  have hbase := h.base
  have b5 : Blk w5 b 42 #[.slice A1 r c1, v2] := (h.blk.le la).grown hg (fun e => h.n2 e.symm)
  have r5 : w5.ownsRow w4.heap.size 3 1 (.slice A1 r c1) r (ints R) := (own_Le h.runs la).kept hg (by
    cases hv : (Value.slice A1 r c1).ownBlock with
    | none => exact .inl rfl
    | some q => exact .inr fun e => h.n12 q hv e.symm)
  have hvb : v.ownBlock ≠ some b := fun e => by
    have hc := ho.cells e 0 (.int .i64 (gi M 0)) (ints_getElem? (by have := ho.1; rw [ints_length] at this; omega))
    have h0 := b5.cell 0
    have hc' : w5.cell? ⟨b, 0, none⟩ = some (.int .i64 (gi M 0)) := by simpa [Addr.add] using hc
    rw [hc'] at h0
    simp at h0
  refine ⟨((h.rd.more la).grown hg (fun k hk => by have := (h.left.lt k hk).1; omega)).grown (gb_setCell (World.grownBy.refl _ (some b)) rfl v) (fun k hk => by injection hk with hk; omega),
    ((h.chg.more la).row hg (fun k hk => (h.left.lt k hk).1)).set1 h.base 1 v, ?_, own_far r5 (p := ⟨b, 1, none⟩) h.n1 v, own_far ho (p := ⟨b, 1, none⟩) hvb v, h.base, h.low⟩
  have := b5.set_ 1 v
  simpa using this
/-- Left is reckoned anew -/
theorem PX.left_new {v : Value} {m : Nat} {M : List Int} (h : PX W w4 g A n c p b v1 v2 r l R L wr) (hl : Le wr w') (ho : w'.ownsRow wr.heap.size 3 1 v m (ints M)) :
    PX W w4 g A n c p b v1 v r m R M (w'.setCell ⟨b, 1, none⟩ v) :=
  (h.le hl).setL (own_mono ho h.chg.size) (fun e => by have h1 := (ho.lt b e).1; have h2 := h.blk.lt; omega) (fun q hq e => by have h1 := (ho.lt q e).1; have h2 := (h.runs.lt q hq).2; omega)
end
theorem small_mul {a b : Nat} (ha : a < 5) (hb : b < 3) : ∃ q : Int, IntKind.i64.wrap ((a : Int) * (b : Int)) = q ∧ (0 ≤ q ∧ q ≤ 8) := by
  have h3 : 0 ≤ (a : Int) * (b : Int) ∧ (a : Int) * (b : Int) ≤ 8 := by
    rcases (show b = 0 ∨ b = 1 ∨ b = 2 by omega) with rfl | rfl | rfl <;> omega
  exact ⟨(a : Int) * (b : Int), IntWalk.i64_in _ (by omega), h3⟩
/-- a drawn plan with its items, amounts wanted, and stock -/
def DrQ (W w : World) (g : Nat) (A : Option Addr) (n c p q : Nat) (e : Ending) (w' : World) : Prop :=
  ∃ (gv cap k : Nat) (ts : List It) (gx cx m : Nat) (ws : List Int) (gy cy m2 : Nat) (ss : List Int) (v1 v2 : Value) (r l : Nat) (R L : List Int) (p' : Nat),
    e = .returned (.tuple #[.slice (some ⟨gv, 0, none⟩) k cap, .slice (some ⟨gx, 0, none⟩) m cx, .slice (some ⟨gy, 0, none⟩) m2 cy, .agg #[v1, v2]]) ∧ DT w.heap.size w' gv cap k ts ∧ DN w.heap.size w' gx cx m ws ∧ DN w.heap.size w' gy cy m2 ss ∧
    w'.ownsRow w.heap.size 3 1 v1 r (ints R) ∧ w'.ownsRow w.heap.size 3 1 v2 l (ints L) ∧ r ≤ 7 ∧ l ≤ 8 ∧ (∀ j, j < r → 0 ≤ gi R j ∧ gi R j ≤ 1000000) ∧ Rd W w' g A n c p' ∧ p' ≤ p + q ∧ Chg g (g + 1) w w'
set_option maxRecDepth 20000 in
set_option maxHeartbeats 8000000 in
theorem l20Plan_any (W w : World) (g : Nat) (A : Option Addr) (n c p : Nat) (h : Rd W w g A n c p) (hp : p ≤ 700000) :
    Calls Tryd.prog 57 #[.pointer (some ⟨g, 0, none⟩)] w (DrQ W w g A n c p 600) := by
  obtain ⟨i0, hi0, hz0, hz1, hz2⟩ := info_parts infoIntD
  have hgw := h.lt
  have k0 := Blk.new w 42 #[.slice none 0 0, .slice none 0 0]
  have l0 := (Le.refl w).alloc (.cells #[.slice none 0 0, .slice none 0 0] 42)
  have HM := Lib.hid (items_dt _ _ _ _ _ _ _ 14 (h.more l0) (by omega) (by omega) (by omega) (w.heap.size + 1) (by simp))
  have K0 := Lib.hid k0
  have C0 := Lib.hid (Chg.of_le (lo := g) (hi := g + 1) l0)
  clear h k0 l0
  go_enter Tryd.func57, Tryd.ntmps57
  go_wp2_with fail
  refine HM.out.mono ?_; rintro e w1 ⟨gv, cap, k, ts, p1, rfl, d1, r1, q1, c1⟩
  have hk7 := d1.small
  have K1 := Lib.hid (show Blk w1 w.heap.size _ _ from (c1.block _ K0.out.lt (.inr hgw)).trans K0.out)
  have C1 := Lib.hid (C0.out.trans c1)
  have D1 := Lib.hid d1
  have HA := Lib.hid (amounts_dn _ _ _ _ _ _ _ 14 (some ⟨gv, 0, none⟩) k cap r1 (by omega) (by omega) (by omega) hk7 (w.heap.size + 1) K1.out.lt)
  clear d1 r1 c1
  go_wp2_with fail
  refine HA.out.mono ?_; rintro e w2 ⟨gx, cx, m, ws, p2, rfl, d2, r2, q2, c2⟩
  have K2 := Lib.hid (show Blk w2 w.heap.size _ _ from (c2.block _ K1.out.lt (.inr hgw)).trans K1.out)
  have C2 := Lib.hid (C1.out.trans c2)
  have D2 := Lib.hid (D1.out.chg c2 (by omega))
  have X2 := Lib.hid d2
  have HB := Lib.hid (amounts_dn _ _ _ _ _ _ _ 14 (some ⟨gv, 0, none⟩) k cap r2 (by omega) (by omega) (by omega) hk7 (w.heap.size + 1) K2.out.lt)
  clear d2 r2 c2
  go_wp2_with fail
  refine HB.out.mono ?_; rintro e w4 ⟨gy, cy, m2, ss, p3, rfl, d3, r3, q3, c3⟩
  have K4 := Lib.hid (show Blk w4 w.heap.size _ _ from (c3.block _ K2.out.lt (.inr hgw)).trans K2.out)
  have C4 := Lib.hid (C2.out.trans c3)
  have D4 := Lib.hid (D2.out.chg c3 (by omega))
  have X4 := Lib.hid (X2.out.chg c3 (by omega))
  have Y4 := Lib.hid d3
  have R4 := Lib.hid r3
  clear d3 r3 c3 HA HB HM K0 K1 K2 C0 C1 C2 D1 D2 X2
  have HSP := Lib.hid (specLeast_any _ _ _ _ _ _ cap cx cy _ _ _ _ D4.out.rm X4.out.ri Y4.out.ri)
  have hdl := D4.out.len
  obtain ⟨V, hV⟩ : ∃ V, planArgsL ts ws ss = V := ⟨_, rfl⟩
  rw [hV] at HSP
  have HV := Lib.hid hV
  clear hV
  go_wp2_with fail
  refine HSP.out.mono ?_; rintro e w5 ⟨v1, v2, rfl, o1, o2, ha, l5⟩
  obtain ⟨A1, c1, rfl, _⟩ := own_RI o1 (by unfold runsR; split <;> simp [runsL_len] <;> omega)
  obtain ⟨B1, d1, rfl, _⟩ := own_RI o2 (by unfold leftR; split <;> simp [leftL_length] <;> omega)
  obtain ⟨R, hR⟩ : ∃ R, runsR ts ws ss = R := ⟨_, rfl⟩
  obtain ⟨L, hL⟩ : ∃ L, leftR ts ws ss = L := ⟨_, rfl⟩
  rw [hR] at o1 ha
  rw [hL] at o2 ha
  obtain ⟨r, hr⟩ : ∃ r, R.length = r := ⟨_, rfl⟩
  obtain ⟨l, hl⟩ : ∃ l, L.length = l := ⟨_, rfl⟩
  rw [hr] at o1 ha
  rw [hl] at o2 ha
  rw [hR, hL, hr, hl]
  have hg4 : g < w4.heap.size := R4.out.lt
  have XP := Lib.hid (show PX W w4 g A n c p3 w5.heap.size (.slice A1 r c1) (.slice B1 l d1) r l R L (w5.alloc (.cells #[.slice A1 r c1, .slice B1 l d1] 42)) from by
    have lb := (Le.refl w5).alloc (.cells #[.slice A1 r c1, .slice B1 l d1] 42)
    exact ⟨(R4.out.more l5).more lb, (Chg.of_le l5).more lb, Blk.new _ _ _, own_Le o1 lb, own_Le o2 lb, l5.size, hg4, fun e => by have := (o1.lt _ e).2; omega, fun e => by have := (o2.lt _ e).2; omega, ha⟩)
  have HRN := Lib.hid (And.intro hR hr)
  have HLN := Lib.hid (And.intro hL hl)
  clear o1 o2 ha l5 hR hL hr hl
  obtain ⟨b, hb⟩ : ∃ b, w5.heap.size = b := ⟨_, rfl⟩
  obtain ⟨w6, hw6⟩ : ∃ w6, w5.alloc (.cells #[.slice A1 r c1, .slice B1 l d1] 42) = w6 := ⟨_, rfl⟩
  rw [hb, hw6] at XP
  go_wp2_with fail
  refine (XP.out.pick (by omega) 3 (by omega) (by omega)).mono ?_; rintro e w7 ⟨x7, rfl, hx7, x7p, _⟩
  have X7 := Lib.hid x7p
  clear x7p hb hw6
  cases V
  · obtain rfl : r = 0 := by
      rw [← HRN.out.2, ← HRN.out.1]; unfold runsR; rw [HV.out]; rfl
    obtain rfl : l = 0 := by
      rw [← HLN.out.2, ← HLN.out.1]; unfold leftR; rw [HV.out]; rfl
    have a0 := X7.out.blk.cell 0
    simp at a0
    by_cases hk0 : k = 0
    · have hk1 : ((0 : Int) == (k : Int)) = true := by rw [beq_iff_eq]; omega
      have hk2 : decide ((0 : Int) < (k : Int)) = false := decide_eq_false (by omega)
      have hk3 : decide (0 < k) = false := decide_eq_false (by omega)
      clear hk0
      go_wp2_with fail
      all_goals
        refine (X7.out.odd (by omega) 14 (by omega) (by omega)).mono ?_; rintro e wt ⟨tt, rfl, xt, _⟩
        have XT := Lib.hid xt
        clear xt
        cases tt
        · have a0 := XT.out.blk.cell 0
          have a1 := XT.out.blk.cell 1
          simp at a0 a1
          have DC := Lib.hid (D4.out.chg XT.out.chg (Nat.le_of_lt (Nat.succ_lt_succ hgw)))
          have XC := Lib.hid (X4.out.chg XT.out.chg (Nat.le_of_lt (Nat.succ_lt_succ hgw)))
          have YC := Lib.hid (Y4.out.chg XT.out.chg (Nat.le_of_lt (Nat.succ_lt_succ hgw)))
          have KC := Lib.hid (show Blk _ w.heap.size _ _ from (XT.out.chg.block _ K4.out.lt (.inr hgw)).trans K4.out)
          have r0 := KC.out.cell 0
          have r1 := KC.out.cell 1
          have z0 := KC.out.frozen 0
          have z1 := KC.out.frozen 1
          simp at r0 r1
          have hwb : w.heap.size < b := by have h1 := XT.out.base; have h2 := K4.out.lt; omega
          have HX := Lib.hid XT.out
          go_wp2
          have hS : (fun w' : World => w'.cell? ⟨b, 0, none⟩ = some (.slice A1 0 c1) ∧ w'.cell? ⟨b, 1, none⟩ = some (.slice B1 0 d1)) (wt.drew) := ⟨a0, a1⟩
          refine wp_region_held_drew (S := fun w' => w'.cell? ⟨b, 0, none⟩ = some (.slice A1 0 c1) ∧ w'.cell? ⟨b, 1, none⟩ = some (.slice B1 0 d1)) (by kernel_rfl) hS (fun _ => ?_)
          refine wpAnyH_takeL (i := 0) (v := ?_) rfl (by kernel_rfl) (by kernel_rfl) (by kernel_rfl) (fun _ _ _ h => h) (Or.inl ⟨by rfl, ?_⟩) (by assumption) ?_
          rotate_left
          · (intro w' hSw; (try dsimp only at hSw); go_simp; all_goals with_reducible rfl)
          repeat (first | simp only [Act.put] | simp only [List.setIfInBounds_toArray] | simp only [List.set_cons_succ] | simp only [List.set_cons_zero])
          refine wpAnyH_takeL (i := 1) (v := ?_) rfl (by kernel_rfl) (by kernel_rfl) (by kernel_rfl) (fun _ _ _ h => h) (Or.inl ⟨by rfl, ?_⟩) (by assumption) ?_
          rotate_left
          · (intro w' hSw; (try dsimp only at hSw); go_simp; all_goals with_reducible rfl)
          repeat (first | simp only [Act.put] | simp only [List.setIfInBounds_toArray] | simp only [List.set_cons_succ] | simp only [List.set_cons_zero])
          refine wpAnyH_takeL (i := 2) (v := ?_) rfl (by kernel_rfl) (by kernel_rfl) (by kernel_rfl) (fun _ _ _ h => h) (Or.inl ⟨by rfl, ?_⟩) (by assumption) ?_
          rotate_left
          · (intro w' hSw; (try dsimp only at hSw); go_simp; all_goals with_reducible rfl)
          repeat (first | simp only [Act.put] | simp only [List.setIfInBounds_toArray] | simp only [List.set_cons_succ] | simp only [List.set_cons_zero])
          refine wpAnyH_takeL (i := 3) (v := ?_) rfl (by kernel_rfl) (by kernel_rfl) (by kernel_rfl) (fun _ _ _ h => h) (Or.inl ⟨by rfl, ?_⟩) (by assumption) ?_
          rotate_left
          · (intro w' hSw; have cX0 := hSw.1; have cX1 := hSw.2; (try dsimp only at hSw); go_simp; all_goals with_reducible rfl)
          repeat (first | simp only [Act.put] | simp only [List.setIfInBounds_toArray] | simp only [List.set_cons_succ] | simp only [List.set_cons_zero])
          refine wpAnyH_takeL (i := 4) (v := ?_) rfl (by kernel_rfl) (by kernel_rfl) (by kernel_rfl) (fun _ _ _ h => h) (Or.inl ⟨by rfl, ?_⟩) (by assumption) ?_
          rotate_left
          · (intro w' hSw; (try dsimp only at hSw); go_simp; all_goals with_reducible rfl)
          repeat (first | simp only [Act.put] | simp only [List.setIfInBounds_toArray] | simp only [List.set_cons_succ] | simp only [List.set_cons_zero])
          refine wpAnyH_takeL (i := 5) (v := ?_) rfl (by kernel_rfl) (by kernel_rfl) (by kernel_rfl) (fun _ _ _ h => h) (Or.inl ⟨by rfl, ?_⟩) (by assumption) ?_
          rotate_left
          · (intro w' hSw; (try dsimp only at hSw); go_simp; all_goals with_reducible rfl)
          repeat (first | simp only [Act.put] | simp only [List.setIfInBounds_toArray] | simp only [List.set_cons_succ] | simp only [List.set_cons_zero])
          refine wpAnyH_takeL (i := 6) (v := ?_) rfl (by kernel_rfl) (by kernel_rfl) (by kernel_rfl) (fun _ _ _ h => h) (Or.inl ⟨by rfl, ?_⟩) (by assumption) ?_
          rotate_left
          · (intro w' hSw; (try dsimp only at hSw); go_simp; all_goals with_reducible rfl)
          repeat (first | simp only [Act.put] | simp only [List.setIfInBounds_toArray] | simp only [List.set_cons_succ] | simp only [List.set_cons_zero])
          refine wpAnyH_ready (rs := [7]) (by kernel_rfl) (by simp) ?_
          refine consL (i := 7) rfl (fun K hK => ?_) AllReadyH.nil
          go_simp
          have cS : Chg w.heap.size (w.heap.size + 1) wt (((wt.drew).setCell ⟨w.heap.size, 0, none⟩ (.slice A1 0 c1)).setCell ⟨w.heap.size, 1, none⟩ (.slice B1 0 d1)) := (Chg.of_le ((Le.refl wt).drew)).trans ((Chg.set (Nat.le_refl _) (Nat.lt_succ_self _) 0 _).trans (Chg.set (Nat.le_refl _) (Nat.lt_succ_self _) 1 _))
          have CS := Lib.hid cS
          have kb := (cS.block b HX.out.blk.lt (.inr hwb)).trans HX.out.blk
          have k0' := Blk.cell kb 0
          have k1' := Blk.cell kb 1
          simp only [List.getElem?_toArray, List.getElem?_cons_zero, List.getElem?_cons_succ] at k0' k1'
          clear cS kb
          refine hK.out _ _ ⟨k0', k1'⟩ (fun _ => ?_)
          clear hK K
          repeat (first | simp only [Act.put] | simp only [List.setIfInBounds_toArray] | simp only [List.set_cons_succ] | simp only [List.set_cons_zero])
          refine wpAnyH_done (by kernel_rfl) ?_ _
          clear a0 a1 hS k0' k1'
          have h4w := K4.out.lt
          go_wp2
          refine bodyPost_ret (v := .tuple #[.slice (some ⟨gv, 0, none⟩) k cap, .slice (some ⟨gx, 0, none⟩) m cx, .slice (some ⟨gy, 0, none⟩) m2 cy, .agg #[(.slice A1 0 c1), (.slice B1 0 d1)]]) (by simp [results, Tryd.results57, go_sem, r0, r1]) rfl ?_
          refine ⟨gv, cap, k, ts, gx, cx, m, ws, gy, cy, m2, ss, (.slice A1 0 c1), (.slice B1 0 d1), 0, 0, R, L, ((p3 + 1) + 1), rfl, (DC.out.chg CS.out (Nat.le_refl _)).base (by omega), (XC.out.chg CS.out (Nat.le_refl _)).base (by omega), (YC.out.chg CS.out (Nat.le_refl _)).base (by omega), own_mono (Chg.own2 HX.out.runs CS.out h4w) (by omega), own_mono (Chg.own2 HX.out.left CS.out h4w) (by omega), by omega, by omega, fun j hj => absurd hj (by omega), ?_, by omega, ?_⟩
          · exact ⟨(CS.out.block g HX.out.rd.blk.lt (.inl hgw)).trans HX.out.rd.blk, CS.out.le HX.out.rd.le (by have := HX.out.rd.base; omega), HX.out.rd.base, HX.out.rd.bytes, HX.out.rd.small⟩
          · exact (C4.out.trans HX.out.chg).over CS.out (Nat.le_refl _)
        · have a0 := XT.out.blk.cell 0
          have a1 := XT.out.blk.cell 1
          have z1 := XT.out.blk.frozen 1
          simp at a0 a1
          have OWL := Lib.hid XT.out.left
          have hbw : b < wt.heap.size := XT.out.blk.lt
          go_wp2_with (at_builtin; refine wpList_append_own _ rfl _ _ 40 rfl w4.heap.size 3 i0 _ 1 8 Tryd.underlying40 hi0 hz0 hz1 hz2 rfl (by decide) _ 0 (ints L) rfl (OWL.out.alloc _) ⟨wt.heap.size, 0, none⟩ 1 1 [.int .i64 0] rfl rfl ?c1 ?c2 ?c3 ?c4 ?c5 ?_)
          case c1 => exact cell_one' wt _ rfl _ _
          case c2 => intro u hu; simp at hu; rcases hu with rfl; rfl
          case c3 => unfold maxLen; omega
          case c4 => omega
          case c5 => have := XT.out.chg.size; simp; omega
          intro v9 w9 hown' hgrow hnil
          obtain ⟨m9, hm9⟩ : ∃ m9, m9 = 0 + 1 := ⟨_, rfl⟩
          have hown' : w9.ownsRow w4.heap.size 3 1 v9 m9 (ints L ++ [.int .i64 0]) := by rw [hm9]; exact hown'
          have hm9b : 0 < m9 ∧ m9 ≤ 8 := by omega
          clear hm9
          obtain ⟨g9, c9, rfl, _⟩ := own_formI hown' (by first | exact hnil | exact fun e => by have := (hnil.1 e).2; omega)
          have la := (Le.refl wt).alloc (.cells #[.int .i64 0] 3)
          have Y9 := Lib.hid (XT.out.app la hgrow (M := L ++ [0]) (by rw [ints_snoc]; exact hown') (by have := hm9b.1; omega))
          have k9 : Blk w9 b 42 #[(.slice A1 0 c1), (.slice B1 0 d1)] := (XT.out.blk.le la).grown hgrow (fun e => XT.out.n2 e.symm)
          have a0 := k9.cell 0
          have a1 := k9.cell 1
          have z1 := k9.frozen 1
          simp at a0 a1
          clear hown' hgrow hnil la k9
          go_wp2
          obtain ⟨wu, hwu⟩ : ∃ wu, w9.setCell ⟨b, 1, none⟩ (.slice (some ⟨g9, 0, none⟩) m9 c9) = wu := ⟨_, rfl⟩
          rw [hwu] at Y9
          rw [hwu]
          clear hwu a0 a1 z1
          have a0 := Y9.out.blk.cell 0
          have a1 := Y9.out.blk.cell 1
          simp at a0 a1
          have DC := Lib.hid (D4.out.chg Y9.out.chg (Nat.le_of_lt (Nat.succ_lt_succ hgw)))
          have XC := Lib.hid (X4.out.chg Y9.out.chg (Nat.le_of_lt (Nat.succ_lt_succ hgw)))
          have YC := Lib.hid (Y4.out.chg Y9.out.chg (Nat.le_of_lt (Nat.succ_lt_succ hgw)))
          have KC := Lib.hid (show Blk _ w.heap.size _ _ from (Y9.out.chg.block _ K4.out.lt (.inr hgw)).trans K4.out)
          have r0 := KC.out.cell 0
          have r1 := KC.out.cell 1
          have z0 := KC.out.frozen 0
          have z1 := KC.out.frozen 1
          simp at r0 r1
          have hwb : w.heap.size < b := by have h1 := Y9.out.base; have h2 := K4.out.lt; omega
          have HX := Lib.hid Y9.out
          have hS : (fun w' : World => w'.cell? ⟨b, 0, none⟩ = some (.slice A1 0 c1) ∧ w'.cell? ⟨b, 1, none⟩ = some (.slice (some ⟨g9, 0, none⟩) m9 c9)) (wu.drew) := ⟨a0, a1⟩
          refine wp_region_held_drew (S := fun w' => w'.cell? ⟨b, 0, none⟩ = some (.slice A1 0 c1) ∧ w'.cell? ⟨b, 1, none⟩ = some (.slice (some ⟨g9, 0, none⟩) m9 c9)) (by kernel_rfl) hS (fun _ => ?_)
          refine wpAnyH_takeL (i := 0) (v := ?_) rfl (by kernel_rfl) (by kernel_rfl) (by kernel_rfl) (fun _ _ _ h => h) (Or.inl ⟨by rfl, ?_⟩) (by assumption) ?_
          rotate_left
          · (intro w' hSw; (try dsimp only at hSw); go_simp; all_goals with_reducible rfl)
          repeat (first | simp only [Act.put] | simp only [List.setIfInBounds_toArray] | simp only [List.set_cons_succ] | simp only [List.set_cons_zero])
          refine wpAnyH_takeL (i := 1) (v := ?_) rfl (by kernel_rfl) (by kernel_rfl) (by kernel_rfl) (fun _ _ _ h => h) (Or.inl ⟨by rfl, ?_⟩) (by assumption) ?_
          rotate_left
          · (intro w' hSw; (try dsimp only at hSw); go_simp; all_goals with_reducible rfl)
          repeat (first | simp only [Act.put] | simp only [List.setIfInBounds_toArray] | simp only [List.set_cons_succ] | simp only [List.set_cons_zero])
          refine wpAnyH_takeL (i := 2) (v := ?_) rfl (by kernel_rfl) (by kernel_rfl) (by kernel_rfl) (fun _ _ _ h => h) (Or.inl ⟨by rfl, ?_⟩) (by assumption) ?_
          rotate_left
          · (intro w' hSw; (try dsimp only at hSw); go_simp; all_goals with_reducible rfl)
          repeat (first | simp only [Act.put] | simp only [List.setIfInBounds_toArray] | simp only [List.set_cons_succ] | simp only [List.set_cons_zero])
          refine wpAnyH_takeL (i := 3) (v := ?_) rfl (by kernel_rfl) (by kernel_rfl) (by kernel_rfl) (fun _ _ _ h => h) (Or.inl ⟨by rfl, ?_⟩) (by assumption) ?_
          rotate_left
          · (intro w' hSw; have cX0 := hSw.1; have cX1 := hSw.2; (try dsimp only at hSw); go_simp; all_goals with_reducible rfl)
          repeat (first | simp only [Act.put] | simp only [List.setIfInBounds_toArray] | simp only [List.set_cons_succ] | simp only [List.set_cons_zero])
          refine wpAnyH_takeL (i := 4) (v := ?_) rfl (by kernel_rfl) (by kernel_rfl) (by kernel_rfl) (fun _ _ _ h => h) (Or.inl ⟨by rfl, ?_⟩) (by assumption) ?_
          rotate_left
          · (intro w' hSw; (try dsimp only at hSw); go_simp; all_goals with_reducible rfl)
          repeat (first | simp only [Act.put] | simp only [List.setIfInBounds_toArray] | simp only [List.set_cons_succ] | simp only [List.set_cons_zero])
          refine wpAnyH_takeL (i := 5) (v := ?_) rfl (by kernel_rfl) (by kernel_rfl) (by kernel_rfl) (fun _ _ _ h => h) (Or.inl ⟨by rfl, ?_⟩) (by assumption) ?_
          rotate_left
          · (intro w' hSw; (try dsimp only at hSw); go_simp; all_goals with_reducible rfl)
          repeat (first | simp only [Act.put] | simp only [List.setIfInBounds_toArray] | simp only [List.set_cons_succ] | simp only [List.set_cons_zero])
          refine wpAnyH_takeL (i := 6) (v := ?_) rfl (by kernel_rfl) (by kernel_rfl) (by kernel_rfl) (fun _ _ _ h => h) (Or.inl ⟨by rfl, ?_⟩) (by assumption) ?_
          rotate_left
          · (intro w' hSw; (try dsimp only at hSw); go_simp; all_goals with_reducible rfl)
          repeat (first | simp only [Act.put] | simp only [List.setIfInBounds_toArray] | simp only [List.set_cons_succ] | simp only [List.set_cons_zero])
          refine wpAnyH_ready (rs := [7]) (by kernel_rfl) (by simp) ?_
          refine consL (i := 7) rfl (fun K hK => ?_) AllReadyH.nil
          go_simp
          have cS : Chg w.heap.size (w.heap.size + 1) wu (((wu.drew).setCell ⟨w.heap.size, 0, none⟩ (.slice A1 0 c1)).setCell ⟨w.heap.size, 1, none⟩ (.slice (some ⟨g9, 0, none⟩) m9 c9)) := (Chg.of_le ((Le.refl wu).drew)).trans ((Chg.set (Nat.le_refl _) (Nat.lt_succ_self _) 0 _).trans (Chg.set (Nat.le_refl _) (Nat.lt_succ_self _) 1 _))
          have CS := Lib.hid cS
          have kb := (cS.block b HX.out.blk.lt (.inr hwb)).trans HX.out.blk
          have k0' := Blk.cell kb 0
          have k1' := Blk.cell kb 1
          simp only [List.getElem?_toArray, List.getElem?_cons_zero, List.getElem?_cons_succ] at k0' k1'
          clear cS kb
          refine hK.out _ _ ⟨k0', k1'⟩ (fun _ => ?_)
          clear hK K
          repeat (first | simp only [Act.put] | simp only [List.setIfInBounds_toArray] | simp only [List.set_cons_succ] | simp only [List.set_cons_zero])
          refine wpAnyH_done (by kernel_rfl) ?_ _
          clear a0 a1 hS k0' k1'
          have h4w := K4.out.lt
          go_wp2
          refine bodyPost_ret (v := .tuple #[.slice (some ⟨gv, 0, none⟩) k cap, .slice (some ⟨gx, 0, none⟩) m cx, .slice (some ⟨gy, 0, none⟩) m2 cy, .agg #[(.slice A1 0 c1), (.slice (some ⟨g9, 0, none⟩) m9 c9)]]) (by simp [results, Tryd.results57, go_sem, r0, r1]) rfl ?_
          refine ⟨gv, cap, k, ts, gx, cx, m, ws, gy, cy, m2, ss, (.slice A1 0 c1), (.slice (some ⟨g9, 0, none⟩) m9 c9), 0, m9, R, (L ++ [0]), ((p3 + 1) + 1), rfl, (DC.out.chg CS.out (Nat.le_refl _)).base (by omega), (XC.out.chg CS.out (Nat.le_refl _)).base (by omega), (YC.out.chg CS.out (Nat.le_refl _)).base (by omega), own_mono (Chg.own2 HX.out.runs CS.out h4w) (by omega), own_mono (Chg.own2 HX.out.left CS.out h4w) (by omega), by omega, by omega, fun j hj => absurd hj (by omega), ?_, by omega, ?_⟩
          · exact ⟨(CS.out.block g HX.out.rd.blk.lt (.inl hgw)).trans HX.out.rd.blk, CS.out.le HX.out.rd.le (by have := HX.out.rd.base; omega), HX.out.rd.base, HX.out.rd.bytes, HX.out.rd.small⟩
          · exact (C4.out.trans HX.out.chg).over CS.out (Nat.le_refl _)
    · have hk1 : ((0 : Int) == (k : Int)) = false := by rw [beq_eq_false_iff_ne]; omega
      go_wp2_with fail
      all_goals
        refine (X7.out.odd (by omega) 14 (by omega) (by omega)).mono ?_; rintro e wt ⟨tt, rfl, xt, _⟩
        have XT := Lib.hid xt
        clear xt
        cases tt
        · have a0 := XT.out.blk.cell 0
          have a1 := XT.out.blk.cell 1
          simp at a0 a1
          have DC := Lib.hid (D4.out.chg XT.out.chg (Nat.le_of_lt (Nat.succ_lt_succ hgw)))
          have XC := Lib.hid (X4.out.chg XT.out.chg (Nat.le_of_lt (Nat.succ_lt_succ hgw)))
          have YC := Lib.hid (Y4.out.chg XT.out.chg (Nat.le_of_lt (Nat.succ_lt_succ hgw)))
          have KC := Lib.hid (show Blk _ w.heap.size _ _ from (XT.out.chg.block _ K4.out.lt (.inr hgw)).trans K4.out)
          have r0 := KC.out.cell 0
          have r1 := KC.out.cell 1
          have z0 := KC.out.frozen 0
          have z1 := KC.out.frozen 1
          simp at r0 r1
          have hwb : w.heap.size < b := by have h1 := XT.out.base; have h2 := K4.out.lt; omega
          have HX := Lib.hid XT.out
          go_wp2
          have hS : (fun w' : World => w'.cell? ⟨b, 0, none⟩ = some (.slice A1 0 c1) ∧ w'.cell? ⟨b, 1, none⟩ = some (.slice B1 0 d1)) (wt.drew) := ⟨a0, a1⟩
          refine wp_region_held_drew (S := fun w' => w'.cell? ⟨b, 0, none⟩ = some (.slice A1 0 c1) ∧ w'.cell? ⟨b, 1, none⟩ = some (.slice B1 0 d1)) (by kernel_rfl) hS (fun _ => ?_)
          refine wpAnyH_takeL (i := 0) (v := ?_) rfl (by kernel_rfl) (by kernel_rfl) (by kernel_rfl) (fun _ _ _ h => h) (Or.inl ⟨by rfl, ?_⟩) (by assumption) ?_
          rotate_left
          · (intro w' hSw; (try dsimp only at hSw); go_simp; all_goals with_reducible rfl)
          repeat (first | simp only [Act.put] | simp only [List.setIfInBounds_toArray] | simp only [List.set_cons_succ] | simp only [List.set_cons_zero])
          refine wpAnyH_takeL (i := 1) (v := ?_) rfl (by kernel_rfl) (by kernel_rfl) (by kernel_rfl) (fun _ _ _ h => h) (Or.inl ⟨by rfl, ?_⟩) (by assumption) ?_
          rotate_left
          · (intro w' hSw; (try dsimp only at hSw); go_simp; all_goals with_reducible rfl)
          repeat (first | simp only [Act.put] | simp only [List.setIfInBounds_toArray] | simp only [List.set_cons_succ] | simp only [List.set_cons_zero])
          refine wpAnyH_takeL (i := 2) (v := ?_) rfl (by kernel_rfl) (by kernel_rfl) (by kernel_rfl) (fun _ _ _ h => h) (Or.inl ⟨by rfl, ?_⟩) (by assumption) ?_
          rotate_left
          · (intro w' hSw; (try dsimp only at hSw); go_simp; all_goals with_reducible rfl)
          repeat (first | simp only [Act.put] | simp only [List.setIfInBounds_toArray] | simp only [List.set_cons_succ] | simp only [List.set_cons_zero])
          refine wpAnyH_takeL (i := 3) (v := ?_) rfl (by kernel_rfl) (by kernel_rfl) (by kernel_rfl) (fun _ _ _ h => h) (Or.inl ⟨by rfl, ?_⟩) (by assumption) ?_
          rotate_left
          · (intro w' hSw; have cX0 := hSw.1; have cX1 := hSw.2; (try dsimp only at hSw); go_simp; all_goals with_reducible rfl)
          repeat (first | simp only [Act.put] | simp only [List.setIfInBounds_toArray] | simp only [List.set_cons_succ] | simp only [List.set_cons_zero])
          refine wpAnyH_takeL (i := 4) (v := ?_) rfl (by kernel_rfl) (by kernel_rfl) (by kernel_rfl) (fun _ _ _ h => h) (Or.inl ⟨by rfl, ?_⟩) (by assumption) ?_
          rotate_left
          · (intro w' hSw; (try dsimp only at hSw); go_simp; all_goals with_reducible rfl)
          repeat (first | simp only [Act.put] | simp only [List.setIfInBounds_toArray] | simp only [List.set_cons_succ] | simp only [List.set_cons_zero])
          refine wpAnyH_takeL (i := 5) (v := ?_) rfl (by kernel_rfl) (by kernel_rfl) (by kernel_rfl) (fun _ _ _ h => h) (Or.inl ⟨by rfl, ?_⟩) (by assumption) ?_
          rotate_left
          · (intro w' hSw; (try dsimp only at hSw); go_simp; all_goals with_reducible rfl)
          repeat (first | simp only [Act.put] | simp only [List.setIfInBounds_toArray] | simp only [List.set_cons_succ] | simp only [List.set_cons_zero])
          refine wpAnyH_takeL (i := 6) (v := ?_) rfl (by kernel_rfl) (by kernel_rfl) (by kernel_rfl) (fun _ _ _ h => h) (Or.inl ⟨by rfl, ?_⟩) (by assumption) ?_
          rotate_left
          · (intro w' hSw; (try dsimp only at hSw); go_simp; all_goals with_reducible rfl)
          repeat (first | simp only [Act.put] | simp only [List.setIfInBounds_toArray] | simp only [List.set_cons_succ] | simp only [List.set_cons_zero])
          refine wpAnyH_ready (rs := [7]) (by kernel_rfl) (by simp) ?_
          refine consL (i := 7) rfl (fun K hK => ?_) AllReadyH.nil
          go_simp
          have cS : Chg w.heap.size (w.heap.size + 1) wt (((wt.drew).setCell ⟨w.heap.size, 0, none⟩ (.slice A1 0 c1)).setCell ⟨w.heap.size, 1, none⟩ (.slice B1 0 d1)) := (Chg.of_le ((Le.refl wt).drew)).trans ((Chg.set (Nat.le_refl _) (Nat.lt_succ_self _) 0 _).trans (Chg.set (Nat.le_refl _) (Nat.lt_succ_self _) 1 _))
          have CS := Lib.hid cS
          have kb := (cS.block b HX.out.blk.lt (.inr hwb)).trans HX.out.blk
          have k0' := Blk.cell kb 0
          have k1' := Blk.cell kb 1
          simp only [List.getElem?_toArray, List.getElem?_cons_zero, List.getElem?_cons_succ] at k0' k1'
          clear cS kb
          refine hK.out _ _ ⟨k0', k1'⟩ (fun _ => ?_)
          clear hK K
          repeat (first | simp only [Act.put] | simp only [List.setIfInBounds_toArray] | simp only [List.set_cons_succ] | simp only [List.set_cons_zero])
          refine wpAnyH_done (by kernel_rfl) ?_ _
          clear a0 a1 hS k0' k1'
          have h4w := K4.out.lt
          go_wp2
          refine bodyPost_ret (v := .tuple #[.slice (some ⟨gv, 0, none⟩) k cap, .slice (some ⟨gx, 0, none⟩) m cx, .slice (some ⟨gy, 0, none⟩) m2 cy, .agg #[(.slice A1 0 c1), (.slice B1 0 d1)]]) (by simp [results, Tryd.results57, go_sem, r0, r1]) rfl ?_
          refine ⟨gv, cap, k, ts, gx, cx, m, ws, gy, cy, m2, ss, (.slice A1 0 c1), (.slice B1 0 d1), 0, 0, R, L, ((p3 + 1) + 1), rfl, (DC.out.chg CS.out (Nat.le_refl _)).base (by omega), (XC.out.chg CS.out (Nat.le_refl _)).base (by omega), (YC.out.chg CS.out (Nat.le_refl _)).base (by omega), own_mono (Chg.own2 HX.out.runs CS.out h4w) (by omega), own_mono (Chg.own2 HX.out.left CS.out h4w) (by omega), by omega, by omega, fun j hj => absurd hj (by omega), ?_, by omega, ?_⟩
          · exact ⟨(CS.out.block g HX.out.rd.blk.lt (.inl hgw)).trans HX.out.rd.blk, CS.out.le HX.out.rd.le (by have := HX.out.rd.base; omega), HX.out.rd.base, HX.out.rd.bytes, HX.out.rd.small⟩
          · exact (C4.out.trans HX.out.chg).over CS.out (Nat.le_refl _)
        · have a0 := XT.out.blk.cell 0
          have a1 := XT.out.blk.cell 1
          have z1 := XT.out.blk.frozen 1
          simp at a0 a1
          have OWL := Lib.hid XT.out.left
          have hbw : b < wt.heap.size := XT.out.blk.lt
          go_wp2_with (at_builtin; refine wpList_append_own _ rfl _ _ 40 rfl w4.heap.size 3 i0 _ 1 8 Tryd.underlying40 hi0 hz0 hz1 hz2 rfl (by decide) _ 0 (ints L) rfl (OWL.out.alloc _) ⟨wt.heap.size, 0, none⟩ 1 1 [.int .i64 0] rfl rfl ?c1 ?c2 ?c3 ?c4 ?c5 ?_)
          case c1 => exact cell_one' wt _ rfl _ _
          case c2 => intro u hu; simp at hu; rcases hu with rfl; rfl
          case c3 => unfold maxLen; omega
          case c4 => omega
          case c5 => have := XT.out.chg.size; simp; omega
          intro v9 w9 hown' hgrow hnil
          obtain ⟨m9, hm9⟩ : ∃ m9, m9 = 0 + 1 := ⟨_, rfl⟩
          have hown' : w9.ownsRow w4.heap.size 3 1 v9 m9 (ints L ++ [.int .i64 0]) := by rw [hm9]; exact hown'
          have hm9b : 0 < m9 ∧ m9 ≤ 8 := by omega
          clear hm9
          obtain ⟨g9, c9, rfl, _⟩ := own_formI hown' (by first | exact hnil | exact fun e => by have := (hnil.1 e).2; omega)
          have la := (Le.refl wt).alloc (.cells #[.int .i64 0] 3)
          have Y9 := Lib.hid (XT.out.app la hgrow (M := L ++ [0]) (by rw [ints_snoc]; exact hown') (by have := hm9b.1; omega))
          have k9 : Blk w9 b 42 #[(.slice A1 0 c1), (.slice B1 0 d1)] := (XT.out.blk.le la).grown hgrow (fun e => XT.out.n2 e.symm)
          have a0 := k9.cell 0
          have a1 := k9.cell 1
          have z1 := k9.frozen 1
          simp at a0 a1
          clear hown' hgrow hnil la k9
          go_wp2
          obtain ⟨wu, hwu⟩ : ∃ wu, w9.setCell ⟨b, 1, none⟩ (.slice (some ⟨g9, 0, none⟩) m9 c9) = wu := ⟨_, rfl⟩
          rw [hwu] at Y9
          rw [hwu]
          clear hwu a0 a1 z1
          have a0 := Y9.out.blk.cell 0
          have a1 := Y9.out.blk.cell 1
          simp at a0 a1
          have DC := Lib.hid (D4.out.chg Y9.out.chg (Nat.le_of_lt (Nat.succ_lt_succ hgw)))
          have XC := Lib.hid (X4.out.chg Y9.out.chg (Nat.le_of_lt (Nat.succ_lt_succ hgw)))
          have YC := Lib.hid (Y4.out.chg Y9.out.chg (Nat.le_of_lt (Nat.succ_lt_succ hgw)))
          have KC := Lib.hid (show Blk _ w.heap.size _ _ from (Y9.out.chg.block _ K4.out.lt (.inr hgw)).trans K4.out)
          have r0 := KC.out.cell 0
          have r1 := KC.out.cell 1
          have z0 := KC.out.frozen 0
          have z1 := KC.out.frozen 1
          simp at r0 r1
          have hwb : w.heap.size < b := by have h1 := Y9.out.base; have h2 := K4.out.lt; omega
          have HX := Lib.hid Y9.out
          have hS : (fun w' : World => w'.cell? ⟨b, 0, none⟩ = some (.slice A1 0 c1) ∧ w'.cell? ⟨b, 1, none⟩ = some (.slice (some ⟨g9, 0, none⟩) m9 c9)) (wu.drew) := ⟨a0, a1⟩
          refine wp_region_held_drew (S := fun w' => w'.cell? ⟨b, 0, none⟩ = some (.slice A1 0 c1) ∧ w'.cell? ⟨b, 1, none⟩ = some (.slice (some ⟨g9, 0, none⟩) m9 c9)) (by kernel_rfl) hS (fun _ => ?_)
          refine wpAnyH_takeL (i := 0) (v := ?_) rfl (by kernel_rfl) (by kernel_rfl) (by kernel_rfl) (fun _ _ _ h => h) (Or.inl ⟨by rfl, ?_⟩) (by assumption) ?_
          rotate_left
          · (intro w' hSw; (try dsimp only at hSw); go_simp; all_goals with_reducible rfl)
          repeat (first | simp only [Act.put] | simp only [List.setIfInBounds_toArray] | simp only [List.set_cons_succ] | simp only [List.set_cons_zero])
          refine wpAnyH_takeL (i := 1) (v := ?_) rfl (by kernel_rfl) (by kernel_rfl) (by kernel_rfl) (fun _ _ _ h => h) (Or.inl ⟨by rfl, ?_⟩) (by assumption) ?_
          rotate_left
          · (intro w' hSw; (try dsimp only at hSw); go_simp; all_goals with_reducible rfl)
          repeat (first | simp only [Act.put] | simp only [List.setIfInBounds_toArray] | simp only [List.set_cons_succ] | simp only [List.set_cons_zero])
          refine wpAnyH_takeL (i := 2) (v := ?_) rfl (by kernel_rfl) (by kernel_rfl) (by kernel_rfl) (fun _ _ _ h => h) (Or.inl ⟨by rfl, ?_⟩) (by assumption) ?_
          rotate_left
          · (intro w' hSw; (try dsimp only at hSw); go_simp; all_goals with_reducible rfl)
          repeat (first | simp only [Act.put] | simp only [List.setIfInBounds_toArray] | simp only [List.set_cons_succ] | simp only [List.set_cons_zero])
          refine wpAnyH_takeL (i := 3) (v := ?_) rfl (by kernel_rfl) (by kernel_rfl) (by kernel_rfl) (fun _ _ _ h => h) (Or.inl ⟨by rfl, ?_⟩) (by assumption) ?_
          rotate_left
          · (intro w' hSw; have cX0 := hSw.1; have cX1 := hSw.2; (try dsimp only at hSw); go_simp; all_goals with_reducible rfl)
          repeat (first | simp only [Act.put] | simp only [List.setIfInBounds_toArray] | simp only [List.set_cons_succ] | simp only [List.set_cons_zero])
          refine wpAnyH_takeL (i := 4) (v := ?_) rfl (by kernel_rfl) (by kernel_rfl) (by kernel_rfl) (fun _ _ _ h => h) (Or.inl ⟨by rfl, ?_⟩) (by assumption) ?_
          rotate_left
          · (intro w' hSw; (try dsimp only at hSw); go_simp; all_goals with_reducible rfl)
          repeat (first | simp only [Act.put] | simp only [List.setIfInBounds_toArray] | simp only [List.set_cons_succ] | simp only [List.set_cons_zero])
          refine wpAnyH_takeL (i := 5) (v := ?_) rfl (by kernel_rfl) (by kernel_rfl) (by kernel_rfl) (fun _ _ _ h => h) (Or.inl ⟨by rfl, ?_⟩) (by assumption) ?_
          rotate_left
          · (intro w' hSw; (try dsimp only at hSw); go_simp; all_goals with_reducible rfl)
          repeat (first | simp only [Act.put] | simp only [List.setIfInBounds_toArray] | simp only [List.set_cons_succ] | simp only [List.set_cons_zero])
          refine wpAnyH_takeL (i := 6) (v := ?_) rfl (by kernel_rfl) (by kernel_rfl) (by kernel_rfl) (fun _ _ _ h => h) (Or.inl ⟨by rfl, ?_⟩) (by assumption) ?_
          rotate_left
          · (intro w' hSw; (try dsimp only at hSw); go_simp; all_goals with_reducible rfl)
          repeat (first | simp only [Act.put] | simp only [List.setIfInBounds_toArray] | simp only [List.set_cons_succ] | simp only [List.set_cons_zero])
          refine wpAnyH_ready (rs := [7]) (by kernel_rfl) (by simp) ?_
          refine consL (i := 7) rfl (fun K hK => ?_) AllReadyH.nil
          go_simp
          have cS : Chg w.heap.size (w.heap.size + 1) wu (((wu.drew).setCell ⟨w.heap.size, 0, none⟩ (.slice A1 0 c1)).setCell ⟨w.heap.size, 1, none⟩ (.slice (some ⟨g9, 0, none⟩) m9 c9)) := (Chg.of_le ((Le.refl wu).drew)).trans ((Chg.set (Nat.le_refl _) (Nat.lt_succ_self _) 0 _).trans (Chg.set (Nat.le_refl _) (Nat.lt_succ_self _) 1 _))
          have CS := Lib.hid cS
          have kb := (cS.block b HX.out.blk.lt (.inr hwb)).trans HX.out.blk
          have k0' := Blk.cell kb 0
          have k1' := Blk.cell kb 1
          simp only [List.getElem?_toArray, List.getElem?_cons_zero, List.getElem?_cons_succ] at k0' k1'
          clear cS kb
          refine hK.out _ _ ⟨k0', k1'⟩ (fun _ => ?_)
          clear hK K
          repeat (first | simp only [Act.put] | simp only [List.setIfInBounds_toArray] | simp only [List.set_cons_succ] | simp only [List.set_cons_zero])
          refine wpAnyH_done (by kernel_rfl) ?_ _
          clear a0 a1 hS k0' k1'
          have h4w := K4.out.lt
          go_wp2
          refine bodyPost_ret (v := .tuple #[.slice (some ⟨gv, 0, none⟩) k cap, .slice (some ⟨gx, 0, none⟩) m cx, .slice (some ⟨gy, 0, none⟩) m2 cy, .agg #[(.slice A1 0 c1), (.slice (some ⟨g9, 0, none⟩) m9 c9)]]) (by simp [results, Tryd.results57, go_sem, r0, r1]) rfl ?_
          refine ⟨gv, cap, k, ts, gx, cx, m, ws, gy, cy, m2, ss, (.slice A1 0 c1), (.slice (some ⟨g9, 0, none⟩) m9 c9), 0, m9, R, (L ++ [0]), ((p3 + 1) + 1), rfl, (DC.out.chg CS.out (Nat.le_refl _)).base (by omega), (XC.out.chg CS.out (Nat.le_refl _)).base (by omega), (YC.out.chg CS.out (Nat.le_refl _)).base (by omega), own_mono (Chg.own2 HX.out.runs CS.out h4w) (by omega), own_mono (Chg.own2 HX.out.left CS.out h4w) (by omega), by omega, by omega, fun j hj => absurd hj (by omega), ?_, by omega, ?_⟩
          · exact ⟨(CS.out.block g HX.out.rd.blk.lt (.inl hgw)).trans HX.out.rd.blk, CS.out.le HX.out.rd.le (by have := HX.out.rd.base; omega), HX.out.rd.base, HX.out.rd.bytes, HX.out.rd.small⟩
          · exact (C4.out.trans HX.out.chg).over CS.out (Nat.le_refl _)
  · have hpa := plan_args hdl HV.out
    obtain ⟨hk6, hok, ⟨hm, hwb⟩, ⟨hm2, hsb⟩⟩ := hpa
    obtain rfl : k = m := by rw [← hm, X4.out.len]
    obtain rfl : k = m2 := by rw [← hm2, Y4.out.len]
    obtain rfl : k = r := by rw [← HRN.out.2, ← HRN.out.1]; unfold runsR; rw [if_pos HV.out, runsL_len, hdl]
    obtain rfl : k = l := by rw [← HLN.out.2, ← HLN.out.1]; unfold leftR; rw [if_pos HV.out, leftL_length, hdl]
    have FA := Lib.hid (And.intro hk6 (And.intro hok (And.intro hwb hsb)))
    have HRB := Lib.hid (show ∀ q, q < k → 0 ≤ gi R q ∧ gi R q ≤ 840350 from fun q hq => by
      have := runsL_b hdl hk6 hok hwb hsb hq
      rw [← HRN.out.1]; unfold runsR; rw [if_pos HV.out]; exact this)
    clear hok hwb hsb hm hm2
    have a0 := X7.out.blk.cell 0
    simp at a0
    have hkk : ((k : Int) == (k : Int)) = true := by simp
    by_cases hk0 : k = 0
    · have hk2 : decide ((0 : Int) < (k : Int)) = false := decide_eq_false (by omega)
      have hk3 : decide (0 < k) = false := decide_eq_false (by omega)
      clear hk0
      go_wp2_with fail
      all_goals
        refine (X7.out.odd (by omega) 14 (by omega) (by omega)).mono ?_; rintro e wt ⟨tt, rfl, xt, _⟩
        have XT := Lib.hid xt
        clear xt
        cases tt
        · have a0 := XT.out.blk.cell 0
          have a1 := XT.out.blk.cell 1
          simp at a0 a1
          have DC := Lib.hid (D4.out.chg XT.out.chg (Nat.le_of_lt (Nat.succ_lt_succ hgw)))
          have XC := Lib.hid (X4.out.chg XT.out.chg (Nat.le_of_lt (Nat.succ_lt_succ hgw)))
          have YC := Lib.hid (Y4.out.chg XT.out.chg (Nat.le_of_lt (Nat.succ_lt_succ hgw)))
          have KC := Lib.hid (show Blk _ w.heap.size _ _ from (XT.out.chg.block _ K4.out.lt (.inr hgw)).trans K4.out)
          have r0 := KC.out.cell 0
          have r1 := KC.out.cell 1
          have z0 := KC.out.frozen 0
          have z1 := KC.out.frozen 1
          simp at r0 r1
          have hwb : w.heap.size < b := by have h1 := XT.out.base; have h2 := K4.out.lt; omega
          have HX := Lib.hid XT.out
          go_wp2
          have hS : (fun w' : World => w'.cell? ⟨b, 0, none⟩ = some (.slice A1 k c1) ∧ w'.cell? ⟨b, 1, none⟩ = some (.slice B1 k d1)) (wt.drew) := ⟨a0, a1⟩
          refine wp_region_held_drew (S := fun w' => w'.cell? ⟨b, 0, none⟩ = some (.slice A1 k c1) ∧ w'.cell? ⟨b, 1, none⟩ = some (.slice B1 k d1)) (by kernel_rfl) hS (fun _ => ?_)
          refine wpAnyH_takeL (i := 0) (v := ?_) rfl (by kernel_rfl) (by kernel_rfl) (by kernel_rfl) (fun _ _ _ h => h) (Or.inl ⟨by rfl, ?_⟩) (by assumption) ?_
          rotate_left
          · (intro w' hSw; (try dsimp only at hSw); go_simp; all_goals with_reducible rfl)
          repeat (first | simp only [Act.put] | simp only [List.setIfInBounds_toArray] | simp only [List.set_cons_succ] | simp only [List.set_cons_zero])
          refine wpAnyH_takeL (i := 1) (v := ?_) rfl (by kernel_rfl) (by kernel_rfl) (by kernel_rfl) (fun _ _ _ h => h) (Or.inl ⟨by rfl, ?_⟩) (by assumption) ?_
          rotate_left
          · (intro w' hSw; (try dsimp only at hSw); go_simp; all_goals with_reducible rfl)
          repeat (first | simp only [Act.put] | simp only [List.setIfInBounds_toArray] | simp only [List.set_cons_succ] | simp only [List.set_cons_zero])
          refine wpAnyH_takeL (i := 2) (v := ?_) rfl (by kernel_rfl) (by kernel_rfl) (by kernel_rfl) (fun _ _ _ h => h) (Or.inl ⟨by rfl, ?_⟩) (by assumption) ?_
          rotate_left
          · (intro w' hSw; (try dsimp only at hSw); go_simp; all_goals with_reducible rfl)
          repeat (first | simp only [Act.put] | simp only [List.setIfInBounds_toArray] | simp only [List.set_cons_succ] | simp only [List.set_cons_zero])
          refine wpAnyH_takeL (i := 3) (v := ?_) rfl (by kernel_rfl) (by kernel_rfl) (by kernel_rfl) (fun _ _ _ h => h) (Or.inl ⟨by rfl, ?_⟩) (by assumption) ?_
          rotate_left
          · (intro w' hSw; have cX0 := hSw.1; have cX1 := hSw.2; (try dsimp only at hSw); go_simp; all_goals with_reducible rfl)
          repeat (first | simp only [Act.put] | simp only [List.setIfInBounds_toArray] | simp only [List.set_cons_succ] | simp only [List.set_cons_zero])
          refine wpAnyH_takeL (i := 4) (v := ?_) rfl (by kernel_rfl) (by kernel_rfl) (by kernel_rfl) (fun _ _ _ h => h) (Or.inl ⟨by rfl, ?_⟩) (by assumption) ?_
          rotate_left
          · (intro w' hSw; (try dsimp only at hSw); go_simp; all_goals with_reducible rfl)
          repeat (first | simp only [Act.put] | simp only [List.setIfInBounds_toArray] | simp only [List.set_cons_succ] | simp only [List.set_cons_zero])
          refine wpAnyH_takeL (i := 5) (v := ?_) rfl (by kernel_rfl) (by kernel_rfl) (by kernel_rfl) (fun _ _ _ h => h) (Or.inl ⟨by rfl, ?_⟩) (by assumption) ?_
          rotate_left
          · (intro w' hSw; (try dsimp only at hSw); go_simp; all_goals with_reducible rfl)
          repeat (first | simp only [Act.put] | simp only [List.setIfInBounds_toArray] | simp only [List.set_cons_succ] | simp only [List.set_cons_zero])
          refine wpAnyH_takeL (i := 6) (v := ?_) rfl (by kernel_rfl) (by kernel_rfl) (by kernel_rfl) (fun _ _ _ h => h) (Or.inl ⟨by rfl, ?_⟩) (by assumption) ?_
          rotate_left
          · (intro w' hSw; (try dsimp only at hSw); go_simp; all_goals with_reducible rfl)
          repeat (first | simp only [Act.put] | simp only [List.setIfInBounds_toArray] | simp only [List.set_cons_succ] | simp only [List.set_cons_zero])
          refine wpAnyH_ready (rs := [7]) (by kernel_rfl) (by simp) ?_
          refine consL (i := 7) rfl (fun K hK => ?_) AllReadyH.nil
          go_simp
          have cS : Chg w.heap.size (w.heap.size + 1) wt (((wt.drew).setCell ⟨w.heap.size, 0, none⟩ (.slice A1 k c1)).setCell ⟨w.heap.size, 1, none⟩ (.slice B1 k d1)) := (Chg.of_le ((Le.refl wt).drew)).trans ((Chg.set (Nat.le_refl _) (Nat.lt_succ_self _) 0 _).trans (Chg.set (Nat.le_refl _) (Nat.lt_succ_self _) 1 _))
          have CS := Lib.hid cS
          have kb := (cS.block b HX.out.blk.lt (.inr hwb)).trans HX.out.blk
          have k0' := Blk.cell kb 0
          have k1' := Blk.cell kb 1
          simp only [List.getElem?_toArray, List.getElem?_cons_zero, List.getElem?_cons_succ] at k0' k1'
          clear cS kb
          refine hK.out _ _ ⟨k0', k1'⟩ (fun _ => ?_)
          clear hK K
          repeat (first | simp only [Act.put] | simp only [List.setIfInBounds_toArray] | simp only [List.set_cons_succ] | simp only [List.set_cons_zero])
          refine wpAnyH_done (by kernel_rfl) ?_ _
          clear a0 a1 hS k0' k1'
          have h4w := K4.out.lt
          go_wp2
          refine bodyPost_ret (v := .tuple #[.slice (some ⟨gv, 0, none⟩) k cap, .slice (some ⟨gx, 0, none⟩) k cx, .slice (some ⟨gy, 0, none⟩) k cy, .agg #[(.slice A1 k c1), (.slice B1 k d1)]]) (by simp [results, Tryd.results57, go_sem, r0, r1]) rfl ?_
          refine ⟨gv, cap, k, ts, gx, cx, k, ws, gy, cy, k, ss, (.slice A1 k c1), (.slice B1 k d1), k, k, R, L, ((p3 + 1) + 1), rfl, (DC.out.chg CS.out (Nat.le_refl _)).base (by omega), (XC.out.chg CS.out (Nat.le_refl _)).base (by omega), (YC.out.chg CS.out (Nat.le_refl _)).base (by omega), own_mono (Chg.own2 HX.out.runs CS.out h4w) (by omega), own_mono (Chg.own2 HX.out.left CS.out h4w) (by omega), by omega, by omega, fun j hj => by have := HRB.out j hj; omega, ?_, by omega, ?_⟩
          · exact ⟨(CS.out.block g HX.out.rd.blk.lt (.inl hgw)).trans HX.out.rd.blk, CS.out.le HX.out.rd.le (by have := HX.out.rd.base; omega), HX.out.rd.base, HX.out.rd.bytes, HX.out.rd.small⟩
          · exact (C4.out.trans HX.out.chg).over CS.out (Nat.le_refl _)
        · have a0 := XT.out.blk.cell 0
          have a1 := XT.out.blk.cell 1
          have z1 := XT.out.blk.frozen 1
          simp at a0 a1
          have OWL := Lib.hid XT.out.left
          have hbw : b < wt.heap.size := XT.out.blk.lt
          go_wp2_with (at_builtin; refine wpList_append_own _ rfl _ _ 40 rfl w4.heap.size 3 i0 _ 1 8 Tryd.underlying40 hi0 hz0 hz1 hz2 rfl (by decide) _ k (ints L) rfl (OWL.out.alloc _) ⟨wt.heap.size, 0, none⟩ 1 1 [.int .i64 0] rfl rfl ?c1 ?c2 ?c3 ?c4 ?c5 ?_)
          case c1 => exact cell_one' wt _ rfl _ _
          case c2 => intro u hu; simp at hu; rcases hu with rfl; rfl
          case c3 => unfold maxLen; omega
          case c4 => omega
          case c5 => have := XT.out.chg.size; simp; omega
          intro v9 w9 hown' hgrow hnil
          obtain ⟨m9, hm9⟩ : ∃ m9, m9 = k + 1 := ⟨_, rfl⟩
          have hown' : w9.ownsRow w4.heap.size 3 1 v9 m9 (ints L ++ [.int .i64 0]) := by rw [hm9]; exact hown'
          have hm9b : 0 < m9 ∧ m9 ≤ 8 := by omega
          clear hm9
          obtain ⟨g9, c9, rfl, _⟩ := own_formI hown' (by first | exact hnil | exact fun e => by have := (hnil.1 e).2; omega)
          have la := (Le.refl wt).alloc (.cells #[.int .i64 0] 3)
          have Y9 := Lib.hid (XT.out.app la hgrow (M := L ++ [0]) (by rw [ints_snoc]; exact hown') (by have := hm9b.1; omega))
          have k9 : Blk w9 b 42 #[(.slice A1 k c1), (.slice B1 k d1)] := (XT.out.blk.le la).grown hgrow (fun e => XT.out.n2 e.symm)
          have a0 := k9.cell 0
          have a1 := k9.cell 1
          have z1 := k9.frozen 1
          simp at a0 a1
          clear hown' hgrow hnil la k9
          go_wp2
          obtain ⟨wu, hwu⟩ : ∃ wu, w9.setCell ⟨b, 1, none⟩ (.slice (some ⟨g9, 0, none⟩) m9 c9) = wu := ⟨_, rfl⟩
          rw [hwu] at Y9
          rw [hwu]
          clear hwu a0 a1 z1
          have a0 := Y9.out.blk.cell 0
          have a1 := Y9.out.blk.cell 1
          simp at a0 a1
          have DC := Lib.hid (D4.out.chg Y9.out.chg (Nat.le_of_lt (Nat.succ_lt_succ hgw)))
          have XC := Lib.hid (X4.out.chg Y9.out.chg (Nat.le_of_lt (Nat.succ_lt_succ hgw)))
          have YC := Lib.hid (Y4.out.chg Y9.out.chg (Nat.le_of_lt (Nat.succ_lt_succ hgw)))
          have KC := Lib.hid (show Blk _ w.heap.size _ _ from (Y9.out.chg.block _ K4.out.lt (.inr hgw)).trans K4.out)
          have r0 := KC.out.cell 0
          have r1 := KC.out.cell 1
          have z0 := KC.out.frozen 0
          have z1 := KC.out.frozen 1
          simp at r0 r1
          have hwb : w.heap.size < b := by have h1 := Y9.out.base; have h2 := K4.out.lt; omega
          have HX := Lib.hid Y9.out
          have hS : (fun w' : World => w'.cell? ⟨b, 0, none⟩ = some (.slice A1 k c1) ∧ w'.cell? ⟨b, 1, none⟩ = some (.slice (some ⟨g9, 0, none⟩) m9 c9)) (wu.drew) := ⟨a0, a1⟩
          refine wp_region_held_drew (S := fun w' => w'.cell? ⟨b, 0, none⟩ = some (.slice A1 k c1) ∧ w'.cell? ⟨b, 1, none⟩ = some (.slice (some ⟨g9, 0, none⟩) m9 c9)) (by kernel_rfl) hS (fun _ => ?_)
          refine wpAnyH_takeL (i := 0) (v := ?_) rfl (by kernel_rfl) (by kernel_rfl) (by kernel_rfl) (fun _ _ _ h => h) (Or.inl ⟨by rfl, ?_⟩) (by assumption) ?_
          rotate_left
          · (intro w' hSw; (try dsimp only at hSw); go_simp; all_goals with_reducible rfl)
          repeat (first | simp only [Act.put] | simp only [List.setIfInBounds_toArray] | simp only [List.set_cons_succ] | simp only [List.set_cons_zero])
          refine wpAnyH_takeL (i := 1) (v := ?_) rfl (by kernel_rfl) (by kernel_rfl) (by kernel_rfl) (fun _ _ _ h => h) (Or.inl ⟨by rfl, ?_⟩) (by assumption) ?_
          rotate_left
          · (intro w' hSw; (try dsimp only at hSw); go_simp; all_goals with_reducible rfl)
          repeat (first | simp only [Act.put] | simp only [List.setIfInBounds_toArray] | simp only [List.set_cons_succ] | simp only [List.set_cons_zero])
          refine wpAnyH_takeL (i := 2) (v := ?_) rfl (by kernel_rfl) (by kernel_rfl) (by kernel_rfl) (fun _ _ _ h => h) (Or.inl ⟨by rfl, ?_⟩) (by assumption) ?_
          rotate_left
          · (intro w' hSw; (try dsimp only at hSw); go_simp; all_goals with_reducible rfl)
          repeat (first | simp only [Act.put] | simp only [List.setIfInBounds_toArray] | simp only [List.set_cons_succ] | simp only [List.set_cons_zero])
          refine wpAnyH_takeL (i := 3) (v := ?_) rfl (by kernel_rfl) (by kernel_rfl) (by kernel_rfl) (fun _ _ _ h => h) (Or.inl ⟨by rfl, ?_⟩) (by assumption) ?_
          rotate_left
          · (intro w' hSw; have cX0 := hSw.1; have cX1 := hSw.2; (try dsimp only at hSw); go_simp; all_goals with_reducible rfl)
          repeat (first | simp only [Act.put] | simp only [List.setIfInBounds_toArray] | simp only [List.set_cons_succ] | simp only [List.set_cons_zero])
          refine wpAnyH_takeL (i := 4) (v := ?_) rfl (by kernel_rfl) (by kernel_rfl) (by kernel_rfl) (fun _ _ _ h => h) (Or.inl ⟨by rfl, ?_⟩) (by assumption) ?_
          rotate_left
          · (intro w' hSw; (try dsimp only at hSw); go_simp; all_goals with_reducible rfl)
          repeat (first | simp only [Act.put] | simp only [List.setIfInBounds_toArray] | simp only [List.set_cons_succ] | simp only [List.set_cons_zero])
          refine wpAnyH_takeL (i := 5) (v := ?_) rfl (by kernel_rfl) (by kernel_rfl) (by kernel_rfl) (fun _ _ _ h => h) (Or.inl ⟨by rfl, ?_⟩) (by assumption) ?_
          rotate_left
          · (intro w' hSw; (try dsimp only at hSw); go_simp; all_goals with_reducible rfl)
          repeat (first | simp only [Act.put] | simp only [List.setIfInBounds_toArray] | simp only [List.set_cons_succ] | simp only [List.set_cons_zero])
          refine wpAnyH_takeL (i := 6) (v := ?_) rfl (by kernel_rfl) (by kernel_rfl) (by kernel_rfl) (fun _ _ _ h => h) (Or.inl ⟨by rfl, ?_⟩) (by assumption) ?_
          rotate_left
          · (intro w' hSw; (try dsimp only at hSw); go_simp; all_goals with_reducible rfl)
          repeat (first | simp only [Act.put] | simp only [List.setIfInBounds_toArray] | simp only [List.set_cons_succ] | simp only [List.set_cons_zero])
          refine wpAnyH_ready (rs := [7]) (by kernel_rfl) (by simp) ?_
          refine consL (i := 7) rfl (fun K hK => ?_) AllReadyH.nil
          go_simp
          have cS : Chg w.heap.size (w.heap.size + 1) wu (((wu.drew).setCell ⟨w.heap.size, 0, none⟩ (.slice A1 k c1)).setCell ⟨w.heap.size, 1, none⟩ (.slice (some ⟨g9, 0, none⟩) m9 c9)) := (Chg.of_le ((Le.refl wu).drew)).trans ((Chg.set (Nat.le_refl _) (Nat.lt_succ_self _) 0 _).trans (Chg.set (Nat.le_refl _) (Nat.lt_succ_self _) 1 _))
          have CS := Lib.hid cS
          have kb := (cS.block b HX.out.blk.lt (.inr hwb)).trans HX.out.blk
          have k0' := Blk.cell kb 0
          have k1' := Blk.cell kb 1
          simp only [List.getElem?_toArray, List.getElem?_cons_zero, List.getElem?_cons_succ] at k0' k1'
          clear cS kb
          refine hK.out _ _ ⟨k0', k1'⟩ (fun _ => ?_)
          clear hK K
          repeat (first | simp only [Act.put] | simp only [List.setIfInBounds_toArray] | simp only [List.set_cons_succ] | simp only [List.set_cons_zero])
          refine wpAnyH_done (by kernel_rfl) ?_ _
          clear a0 a1 hS k0' k1'
          have h4w := K4.out.lt
          go_wp2
          refine bodyPost_ret (v := .tuple #[.slice (some ⟨gv, 0, none⟩) k cap, .slice (some ⟨gx, 0, none⟩) k cx, .slice (some ⟨gy, 0, none⟩) k cy, .agg #[(.slice A1 k c1), (.slice (some ⟨g9, 0, none⟩) m9 c9)]]) (by simp [results, Tryd.results57, go_sem, r0, r1]) rfl ?_
          refine ⟨gv, cap, k, ts, gx, cx, k, ws, gy, cy, k, ss, (.slice A1 k c1), (.slice (some ⟨g9, 0, none⟩) m9 c9), k, m9, R, (L ++ [0]), ((p3 + 1) + 1), rfl, (DC.out.chg CS.out (Nat.le_refl _)).base (by omega), (XC.out.chg CS.out (Nat.le_refl _)).base (by omega), (YC.out.chg CS.out (Nat.le_refl _)).base (by omega), own_mono (Chg.own2 HX.out.runs CS.out h4w) (by omega), own_mono (Chg.own2 HX.out.left CS.out h4w) (by omega), by omega, by omega, fun j hj => by have := HRB.out j hj; omega, ?_, by omega, ?_⟩
          · exact ⟨(CS.out.block g HX.out.rd.blk.lt (.inl hgw)).trans HX.out.rd.blk, CS.out.le HX.out.rd.le (by have := HX.out.rd.base; omega), HX.out.rd.base, HX.out.rd.bytes, HX.out.rd.small⟩
          · exact (C4.out.trans HX.out.chg).over CS.out (Nat.le_refl _)
    · have hk2 : decide ((0 : Int) < (k : Int)) = true := decide_eq_true (by omega)
      have hk3 : decide (0 < k) = true := decide_eq_true (by omega)
      obtain ⟨g1, rfl⟩ : ∃ g1, A1 = some ⟨g1, 0, none⟩ := by
        obtain ⟨q, cp, e, _⟩ := own_open X7.out.runs (by omega)
        injection e with e1 _ _
        exact ⟨q, e1⟩
      by_cases hx0 : x7 = 0
      · have hxd : decide ((0 : Int) < (x7 : Int)) = false := decide_eq_false (by omega)
        have hxd2 : decide (0 < x7) = false := decide_eq_false (by omega)
        go_wp2_with fail
        all_goals
          refine (X7.out.odd (by omega) 14 (by omega) (by omega)).mono ?_; rintro e wt ⟨tt, rfl, xt, _⟩
          have XT := Lib.hid xt
          clear xt
          cases tt
          · have a0 := XT.out.blk.cell 0
            have a1 := XT.out.blk.cell 1
            simp at a0 a1
            have DC := Lib.hid (D4.out.chg XT.out.chg (Nat.le_of_lt (Nat.succ_lt_succ hgw)))
            have XC := Lib.hid (X4.out.chg XT.out.chg (Nat.le_of_lt (Nat.succ_lt_succ hgw)))
            have YC := Lib.hid (Y4.out.chg XT.out.chg (Nat.le_of_lt (Nat.succ_lt_succ hgw)))
            have KC := Lib.hid (show Blk _ w.heap.size _ _ from (XT.out.chg.block _ K4.out.lt (.inr hgw)).trans K4.out)
            have r0 := KC.out.cell 0
            have r1 := KC.out.cell 1
            have z0 := KC.out.frozen 0
            have z1 := KC.out.frozen 1
            simp at r0 r1
            have hwb : w.heap.size < b := by have h1 := XT.out.base; have h2 := K4.out.lt; omega
            have HX := Lib.hid XT.out
            go_wp2
            have hS : (fun w' : World => w'.cell? ⟨b, 0, none⟩ = some (.slice (some ⟨g1, 0, none⟩) k c1) ∧ w'.cell? ⟨b, 1, none⟩ = some (.slice B1 k d1)) (wt.drew) := ⟨a0, a1⟩
            refine wp_region_held_drew (S := fun w' => w'.cell? ⟨b, 0, none⟩ = some (.slice (some ⟨g1, 0, none⟩) k c1) ∧ w'.cell? ⟨b, 1, none⟩ = some (.slice B1 k d1)) (by kernel_rfl) hS (fun _ => ?_)
            refine wpAnyH_takeL (i := 0) (v := ?_) rfl (by kernel_rfl) (by kernel_rfl) (by kernel_rfl) (fun _ _ _ h => h) (Or.inl ⟨by rfl, ?_⟩) (by assumption) ?_
            rotate_left
            · (intro w' hSw; (try dsimp only at hSw); go_simp; all_goals with_reducible rfl)
            repeat (first | simp only [Act.put] | simp only [List.setIfInBounds_toArray] | simp only [List.set_cons_succ] | simp only [List.set_cons_zero])
            refine wpAnyH_takeL (i := 1) (v := ?_) rfl (by kernel_rfl) (by kernel_rfl) (by kernel_rfl) (fun _ _ _ h => h) (Or.inl ⟨by rfl, ?_⟩) (by assumption) ?_
            rotate_left
            · (intro w' hSw; (try dsimp only at hSw); go_simp; all_goals with_reducible rfl)
            repeat (first | simp only [Act.put] | simp only [List.setIfInBounds_toArray] | simp only [List.set_cons_succ] | simp only [List.set_cons_zero])
            refine wpAnyH_takeL (i := 2) (v := ?_) rfl (by kernel_rfl) (by kernel_rfl) (by kernel_rfl) (fun _ _ _ h => h) (Or.inl ⟨by rfl, ?_⟩) (by assumption) ?_
            rotate_left
            · (intro w' hSw; (try dsimp only at hSw); go_simp; all_goals with_reducible rfl)
            repeat (first | simp only [Act.put] | simp only [List.setIfInBounds_toArray] | simp only [List.set_cons_succ] | simp only [List.set_cons_zero])
            refine wpAnyH_takeL (i := 3) (v := ?_) rfl (by kernel_rfl) (by kernel_rfl) (by kernel_rfl) (fun _ _ _ h => h) (Or.inl ⟨by rfl, ?_⟩) (by assumption) ?_
            rotate_left
            · (intro w' hSw; have cX0 := hSw.1; have cX1 := hSw.2; (try dsimp only at hSw); go_simp; all_goals with_reducible rfl)
            repeat (first | simp only [Act.put] | simp only [List.setIfInBounds_toArray] | simp only [List.set_cons_succ] | simp only [List.set_cons_zero])
            refine wpAnyH_takeL (i := 4) (v := ?_) rfl (by kernel_rfl) (by kernel_rfl) (by kernel_rfl) (fun _ _ _ h => h) (Or.inl ⟨by rfl, ?_⟩) (by assumption) ?_
            rotate_left
            · (intro w' hSw; (try dsimp only at hSw); go_simp; all_goals with_reducible rfl)
            repeat (first | simp only [Act.put] | simp only [List.setIfInBounds_toArray] | simp only [List.set_cons_succ] | simp only [List.set_cons_zero])
            refine wpAnyH_takeL (i := 5) (v := ?_) rfl (by kernel_rfl) (by kernel_rfl) (by kernel_rfl) (fun _ _ _ h => h) (Or.inl ⟨by rfl, ?_⟩) (by assumption) ?_
            rotate_left
            · (intro w' hSw; (try dsimp only at hSw); go_simp; all_goals with_reducible rfl)
            repeat (first | simp only [Act.put] | simp only [List.setIfInBounds_toArray] | simp only [List.set_cons_succ] | simp only [List.set_cons_zero])
            refine wpAnyH_takeL (i := 6) (v := ?_) rfl (by kernel_rfl) (by kernel_rfl) (by kernel_rfl) (fun _ _ _ h => h) (Or.inl ⟨by rfl, ?_⟩) (by assumption) ?_
            rotate_left
            · (intro w' hSw; (try dsimp only at hSw); go_simp; all_goals with_reducible rfl)
            repeat (first | simp only [Act.put] | simp only [List.setIfInBounds_toArray] | simp only [List.set_cons_succ] | simp only [List.set_cons_zero])
            refine wpAnyH_ready (rs := [7]) (by kernel_rfl) (by simp) ?_
            refine consL (i := 7) rfl (fun K hK => ?_) AllReadyH.nil
            go_simp
            have cS : Chg w.heap.size (w.heap.size + 1) wt (((wt.drew).setCell ⟨w.heap.size, 0, none⟩ (.slice (some ⟨g1, 0, none⟩) k c1)).setCell ⟨w.heap.size, 1, none⟩ (.slice B1 k d1)) := (Chg.of_le ((Le.refl wt).drew)).trans ((Chg.set (Nat.le_refl _) (Nat.lt_succ_self _) 0 _).trans (Chg.set (Nat.le_refl _) (Nat.lt_succ_self _) 1 _))
            have CS := Lib.hid cS
            have kb := (cS.block b HX.out.blk.lt (.inr hwb)).trans HX.out.blk
            have k0' := Blk.cell kb 0
            have k1' := Blk.cell kb 1
            simp only [List.getElem?_toArray, List.getElem?_cons_zero, List.getElem?_cons_succ] at k0' k1'
            clear cS kb
            refine hK.out _ _ ⟨k0', k1'⟩ (fun _ => ?_)
            clear hK K
            repeat (first | simp only [Act.put] | simp only [List.setIfInBounds_toArray] | simp only [List.set_cons_succ] | simp only [List.set_cons_zero])
            refine wpAnyH_done (by kernel_rfl) ?_ _
            clear a0 a1 hS k0' k1'
            have h4w := K4.out.lt
            go_wp2
            refine bodyPost_ret (v := .tuple #[.slice (some ⟨gv, 0, none⟩) k cap, .slice (some ⟨gx, 0, none⟩) k cx, .slice (some ⟨gy, 0, none⟩) k cy, .agg #[(.slice (some ⟨g1, 0, none⟩) k c1), (.slice B1 k d1)]]) (by simp [results, Tryd.results57, go_sem, r0, r1]) rfl ?_
            refine ⟨gv, cap, k, ts, gx, cx, k, ws, gy, cy, k, ss, (.slice (some ⟨g1, 0, none⟩) k c1), (.slice B1 k d1), k, k, R, L, ((p3 + 1) + 1), rfl, (DC.out.chg CS.out (Nat.le_refl _)).base (by omega), (XC.out.chg CS.out (Nat.le_refl _)).base (by omega), (YC.out.chg CS.out (Nat.le_refl _)).base (by omega), own_mono (Chg.own2 HX.out.runs CS.out h4w) (by omega), own_mono (Chg.own2 HX.out.left CS.out h4w) (by omega), by omega, by omega, fun j hj => by have := HRB.out j hj; omega, ?_, by omega, ?_⟩
            · exact ⟨(CS.out.block g HX.out.rd.blk.lt (.inl hgw)).trans HX.out.rd.blk, CS.out.le HX.out.rd.le (by have := HX.out.rd.base; omega), HX.out.rd.base, HX.out.rd.bytes, HX.out.rd.small⟩
            · exact (C4.out.trans HX.out.chg).over CS.out (Nat.le_refl _)
          · have a0 := XT.out.blk.cell 0
            have a1 := XT.out.blk.cell 1
            have z1 := XT.out.blk.frozen 1
            simp at a0 a1
            have OWL := Lib.hid XT.out.left
            have hbw : b < wt.heap.size := XT.out.blk.lt
            go_wp2_with (at_builtin; refine wpList_append_own _ rfl _ _ 40 rfl w4.heap.size 3 i0 _ 1 8 Tryd.underlying40 hi0 hz0 hz1 hz2 rfl (by decide) _ k (ints L) rfl (OWL.out.alloc _) ⟨wt.heap.size, 0, none⟩ 1 1 [.int .i64 0] rfl rfl ?c1 ?c2 ?c3 ?c4 ?c5 ?_)
            case c1 => exact cell_one' wt _ rfl _ _
            case c2 => intro u hu; simp at hu; rcases hu with rfl; rfl
            case c3 => unfold maxLen; omega
            case c4 => omega
            case c5 => have := XT.out.chg.size; simp; omega
            intro v9 w9 hown' hgrow hnil
            obtain ⟨m9, hm9⟩ : ∃ m9, m9 = k + 1 := ⟨_, rfl⟩
            have hown' : w9.ownsRow w4.heap.size 3 1 v9 m9 (ints L ++ [.int .i64 0]) := by rw [hm9]; exact hown'
            have hm9b : 0 < m9 ∧ m9 ≤ 8 := by omega
            clear hm9
            obtain ⟨g9, c9, rfl, _⟩ := own_formI hown' (by first | exact hnil | exact fun e => by have := (hnil.1 e).2; omega)
            have la := (Le.refl wt).alloc (.cells #[.int .i64 0] 3)
            have Y9 := Lib.hid (XT.out.app la hgrow (M := L ++ [0]) (by rw [ints_snoc]; exact hown') (by have := hm9b.1; omega))
            have k9 : Blk w9 b 42 #[(.slice (some ⟨g1, 0, none⟩) k c1), (.slice B1 k d1)] := (XT.out.blk.le la).grown hgrow (fun e => XT.out.n2 e.symm)
            have a0 := k9.cell 0
            have a1 := k9.cell 1
            have z1 := k9.frozen 1
            simp at a0 a1
            clear hown' hgrow hnil la k9
            go_wp2
            obtain ⟨wu, hwu⟩ : ∃ wu, w9.setCell ⟨b, 1, none⟩ (.slice (some ⟨g9, 0, none⟩) m9 c9) = wu := ⟨_, rfl⟩
            rw [hwu] at Y9
            rw [hwu]
            clear hwu a0 a1 z1
            have a0 := Y9.out.blk.cell 0
            have a1 := Y9.out.blk.cell 1
            simp at a0 a1
            have DC := Lib.hid (D4.out.chg Y9.out.chg (Nat.le_of_lt (Nat.succ_lt_succ hgw)))
            have XC := Lib.hid (X4.out.chg Y9.out.chg (Nat.le_of_lt (Nat.succ_lt_succ hgw)))
            have YC := Lib.hid (Y4.out.chg Y9.out.chg (Nat.le_of_lt (Nat.succ_lt_succ hgw)))
            have KC := Lib.hid (show Blk _ w.heap.size _ _ from (Y9.out.chg.block _ K4.out.lt (.inr hgw)).trans K4.out)
            have r0 := KC.out.cell 0
            have r1 := KC.out.cell 1
            have z0 := KC.out.frozen 0
            have z1 := KC.out.frozen 1
            simp at r0 r1
            have hwb : w.heap.size < b := by have h1 := Y9.out.base; have h2 := K4.out.lt; omega
            have HX := Lib.hid Y9.out
            have hS : (fun w' : World => w'.cell? ⟨b, 0, none⟩ = some (.slice (some ⟨g1, 0, none⟩) k c1) ∧ w'.cell? ⟨b, 1, none⟩ = some (.slice (some ⟨g9, 0, none⟩) m9 c9)) (wu.drew) := ⟨a0, a1⟩
            refine wp_region_held_drew (S := fun w' => w'.cell? ⟨b, 0, none⟩ = some (.slice (some ⟨g1, 0, none⟩) k c1) ∧ w'.cell? ⟨b, 1, none⟩ = some (.slice (some ⟨g9, 0, none⟩) m9 c9)) (by kernel_rfl) hS (fun _ => ?_)
            refine wpAnyH_takeL (i := 0) (v := ?_) rfl (by kernel_rfl) (by kernel_rfl) (by kernel_rfl) (fun _ _ _ h => h) (Or.inl ⟨by rfl, ?_⟩) (by assumption) ?_
            rotate_left
            · (intro w' hSw; (try dsimp only at hSw); go_simp; all_goals with_reducible rfl)
            repeat (first | simp only [Act.put] | simp only [List.setIfInBounds_toArray] | simp only [List.set_cons_succ] | simp only [List.set_cons_zero])
            refine wpAnyH_takeL (i := 1) (v := ?_) rfl (by kernel_rfl) (by kernel_rfl) (by kernel_rfl) (fun _ _ _ h => h) (Or.inl ⟨by rfl, ?_⟩) (by assumption) ?_
            rotate_left
            · (intro w' hSw; (try dsimp only at hSw); go_simp; all_goals with_reducible rfl)
            repeat (first | simp only [Act.put] | simp only [List.setIfInBounds_toArray] | simp only [List.set_cons_succ] | simp only [List.set_cons_zero])
            refine wpAnyH_takeL (i := 2) (v := ?_) rfl (by kernel_rfl) (by kernel_rfl) (by kernel_rfl) (fun _ _ _ h => h) (Or.inl ⟨by rfl, ?_⟩) (by assumption) ?_
            rotate_left
            · (intro w' hSw; (try dsimp only at hSw); go_simp; all_goals with_reducible rfl)
            repeat (first | simp only [Act.put] | simp only [List.setIfInBounds_toArray] | simp only [List.set_cons_succ] | simp only [List.set_cons_zero])
            refine wpAnyH_takeL (i := 3) (v := ?_) rfl (by kernel_rfl) (by kernel_rfl) (by kernel_rfl) (fun _ _ _ h => h) (Or.inl ⟨by rfl, ?_⟩) (by assumption) ?_
            rotate_left
            · (intro w' hSw; have cX0 := hSw.1; have cX1 := hSw.2; (try dsimp only at hSw); go_simp; all_goals with_reducible rfl)
            repeat (first | simp only [Act.put] | simp only [List.setIfInBounds_toArray] | simp only [List.set_cons_succ] | simp only [List.set_cons_zero])
            refine wpAnyH_takeL (i := 4) (v := ?_) rfl (by kernel_rfl) (by kernel_rfl) (by kernel_rfl) (fun _ _ _ h => h) (Or.inl ⟨by rfl, ?_⟩) (by assumption) ?_
            rotate_left
            · (intro w' hSw; (try dsimp only at hSw); go_simp; all_goals with_reducible rfl)
            repeat (first | simp only [Act.put] | simp only [List.setIfInBounds_toArray] | simp only [List.set_cons_succ] | simp only [List.set_cons_zero])
            refine wpAnyH_takeL (i := 5) (v := ?_) rfl (by kernel_rfl) (by kernel_rfl) (by kernel_rfl) (fun _ _ _ h => h) (Or.inl ⟨by rfl, ?_⟩) (by assumption) ?_
            rotate_left
            · (intro w' hSw; (try dsimp only at hSw); go_simp; all_goals with_reducible rfl)
            repeat (first | simp only [Act.put] | simp only [List.setIfInBounds_toArray] | simp only [List.set_cons_succ] | simp only [List.set_cons_zero])
            refine wpAnyH_takeL (i := 6) (v := ?_) rfl (by kernel_rfl) (by kernel_rfl) (by kernel_rfl) (fun _ _ _ h => h) (Or.inl ⟨by rfl, ?_⟩) (by assumption) ?_
            rotate_left
            · (intro w' hSw; (try dsimp only at hSw); go_simp; all_goals with_reducible rfl)
            repeat (first | simp only [Act.put] | simp only [List.setIfInBounds_toArray] | simp only [List.set_cons_succ] | simp only [List.set_cons_zero])
            refine wpAnyH_ready (rs := [7]) (by kernel_rfl) (by simp) ?_
            refine consL (i := 7) rfl (fun K hK => ?_) AllReadyH.nil
            go_simp
            have cS : Chg w.heap.size (w.heap.size + 1) wu (((wu.drew).setCell ⟨w.heap.size, 0, none⟩ (.slice (some ⟨g1, 0, none⟩) k c1)).setCell ⟨w.heap.size, 1, none⟩ (.slice (some ⟨g9, 0, none⟩) m9 c9)) := (Chg.of_le ((Le.refl wu).drew)).trans ((Chg.set (Nat.le_refl _) (Nat.lt_succ_self _) 0 _).trans (Chg.set (Nat.le_refl _) (Nat.lt_succ_self _) 1 _))
            have CS := Lib.hid cS
            have kb := (cS.block b HX.out.blk.lt (.inr hwb)).trans HX.out.blk
            have k0' := Blk.cell kb 0
            have k1' := Blk.cell kb 1
            simp only [List.getElem?_toArray, List.getElem?_cons_zero, List.getElem?_cons_succ] at k0' k1'
            clear cS kb
            refine hK.out _ _ ⟨k0', k1'⟩ (fun _ => ?_)
            clear hK K
            repeat (first | simp only [Act.put] | simp only [List.setIfInBounds_toArray] | simp only [List.set_cons_succ] | simp only [List.set_cons_zero])
            refine wpAnyH_done (by kernel_rfl) ?_ _
            clear a0 a1 hS k0' k1'
            have h4w := K4.out.lt
            go_wp2
            refine bodyPost_ret (v := .tuple #[.slice (some ⟨gv, 0, none⟩) k cap, .slice (some ⟨gx, 0, none⟩) k cx, .slice (some ⟨gy, 0, none⟩) k cy, .agg #[(.slice (some ⟨g1, 0, none⟩) k c1), (.slice (some ⟨g9, 0, none⟩) m9 c9)]]) (by simp [results, Tryd.results57, go_sem, r0, r1]) rfl ?_
            refine ⟨gv, cap, k, ts, gx, cx, k, ws, gy, cy, k, ss, (.slice (some ⟨g1, 0, none⟩) k c1), (.slice (some ⟨g9, 0, none⟩) m9 c9), k, m9, R, (L ++ [0]), ((p3 + 1) + 1), rfl, (DC.out.chg CS.out (Nat.le_refl _)).base (by omega), (XC.out.chg CS.out (Nat.le_refl _)).base (by omega), (YC.out.chg CS.out (Nat.le_refl _)).base (by omega), own_mono (Chg.own2 HX.out.runs CS.out h4w) (by omega), own_mono (Chg.own2 HX.out.left CS.out h4w) (by omega), by omega, by omega, fun j hj => by have := HRB.out j hj; omega, ?_, by omega, ?_⟩
            · exact ⟨(CS.out.block g HX.out.rd.blk.lt (.inl hgw)).trans HX.out.rd.blk, CS.out.le HX.out.rd.le (by have := HX.out.rd.base; omega), HX.out.rd.base, HX.out.rd.bytes, HX.out.rd.small⟩
            · exact (C4.out.trans HX.out.chg).over CS.out (Nat.le_refl _)
      · have hxd : decide ((0 : Int) < (x7 : Int)) = true := decide_eq_true (by omega)
        have hxd2 : decide (0 < x7) = true := decide_eq_true (by omega)
        go_wp2
        clear a0 hxd hxd2 hkk
        go_loopw [11] (fun i wr => ∃ (j pos : Nat) (R2 : List Int), j ≤ k ∧ i = .int .i64 (j : Int) ∧ pos ≤ p3 + 1 + 2 * j ∧ (∀ q, q < k → 0 ≤ gi R2 q ∧ gi R2 q ≤ if q < j then 840358 else 840350) ∧ PX W w4 g A n c pos b (.slice (some ⟨g1, 0, none⟩) k c1) (.slice B1 k d1) k k R2 L wr) (fun i _ => k - (intOf i).toNat)
        case atStart => exact ⟨0, p3 + 1, R, Nat.zero_le _, rfl, by omega, fun q hq => by rw [if_neg (Nat.not_lt_zero q)]; exact HRB.out q hq, X7.out⟩
        case round =>
          obtain ⟨j, pos, R2, hj, rfl, hpos, hR2, hx⟩ := hrel
          have RX := Lib.hid hx
          have HR2 := Lib.hid hR2
          clear hx hR2
          by_cases hlt : j < k
          · have s0 := RX.out.blk.cell 0
            have s1 := (RX.out.cellR hlt).1
            have s2 := (RX.out.cellR hlt).2
            simp at s0
            obtain ⟨x, hx⟩ : ∃ x, gi R2 j = x := ⟨_, rfl⟩
            have hxb := HR2.out j hlt
            rw [if_neg (Nat.lt_irrefl j)] at hxb
            rw [hx] at s1 hxb
            have HXE := Lib.hid hx
            clear hx
            have hjk : (j : Int) < (k : Int) := by omega
            go_wp2
            have hHeld : (fun w' : World => w'.cell? ⟨b, 0, none⟩ = some (.slice (some ⟨g1, 0, none⟩) k c1) ∧ w'.cell? ⟨g1, j, none⟩ = some (.int .i64 x)) wr.drew := ⟨s0, s1⟩
            refine wp_region_last (fun w' : World => w'.cell? ⟨b, 0, none⟩ = some (.slice (some ⟨g1, 0, none⟩) k c1) ∧ w'.cell? ⟨g1, j, none⟩ = some (.int .i64 x)) 15 _ rfl (by kernel_rfl) (by kernel_rfl) ?_
            simp only [List.setIfInBounds_toArray, List.set_cons_zero, List.set_cons_succ, idle]
            refine wpAnyH_takeL (i := 0) (v := ?_) rfl (by kernel_rfl) (by kernel_rfl) (by kernel_rfl) (fun _ _ _ h => h) (Or.inl ⟨by rfl, ?_⟩) (by assumption) ?_
            rotate_left
            · (intro w' hSw; (try dsimp only at hSw); go_simp; all_goals with_reducible rfl)
            repeat (first | simp only [Act.put] | simp only [List.setIfInBounds_toArray] | simp only [List.set_cons_succ] | simp only [List.set_cons_zero])
            refine wpAnyH_takeL (i := 1) (v := ?_) rfl (by kernel_rfl) (by kernel_rfl) (by kernel_rfl) (fun _ _ _ h => h) (Or.inl ⟨by rfl, ?_⟩) (by assumption) ?_
            rotate_left
            · (intro w' hSw; have cX0 := hSw.1; have cX1 := hSw.2; (try dsimp only at hSw); go_simp; all_goals with_reducible rfl)
            repeat (first | simp only [Act.put] | simp only [List.setIfInBounds_toArray] | simp only [List.set_cons_succ] | simp only [List.set_cons_zero])
            refine wpAnyH_takeL (i := 2) (v := ?_) rfl (by kernel_rfl) (by kernel_rfl) (by kernel_rfl) (fun _ _ _ h => h) (Or.inl ⟨by rfl, ?_⟩) (by assumption) ?_
            rotate_left
            · (intro w' hSw; (try dsimp only at hSw); go_simp; all_goals with_reducible rfl)
            repeat (first | simp only [Act.put] | simp only [List.setIfInBounds_toArray] | simp only [List.set_cons_succ] | simp only [List.set_cons_zero])
            refine wpAnyH_takeL (i := 3) (v := ?_) rfl (by kernel_rfl) (by kernel_rfl) (by kernel_rfl) (fun _ _ _ h => h) (Or.inl ⟨by rfl, ?_⟩) (by assumption) ?_
            rotate_left
            · (intro w' hSw; (try dsimp only at hSw); go_simp; all_goals with_reducible rfl)
            repeat (first | simp only [Act.put] | simp only [List.setIfInBounds_toArray] | simp only [List.set_cons_succ] | simp only [List.set_cons_zero])
            refine wpAnyH_takeL (i := 4) (v := ?_) rfl (by kernel_rfl) (by kernel_rfl) (by kernel_rfl) (fun _ _ _ h => h) (Or.inl ⟨by rfl, ?_⟩) (by assumption) ?_
            rotate_left
            · (intro w' hSw; have cX0 := hSw.1; have cX1 := hSw.2; (try dsimp only at hSw); go_simp; all_goals with_reducible rfl)
            repeat (first | simp only [Act.put] | simp only [List.setIfInBounds_toArray] | simp only [List.set_cons_succ] | simp only [List.set_cons_zero])
            refine wpAnyH_takeL (i := 5) (v := ?_) rfl (by kernel_rfl) (by kernel_rfl) (by kernel_rfl) (fun _ _ _ h => h) (Or.inl ⟨by rfl, ?_⟩) (by assumption) ?_
            rotate_left
            · (intro w' hSw; (try dsimp only at hSw); go_simp; all_goals with_reducible rfl)
            repeat (first | simp only [Act.put] | simp only [List.setIfInBounds_toArray] | simp only [List.set_cons_succ] | simp only [List.set_cons_zero])
            refine wpAnyH_takeL (i := 6) (v := ?_) rfl (by kernel_rfl) (by kernel_rfl) (by kernel_rfl) (fun _ _ _ h => h) (Or.inl ⟨by rfl, ?_⟩) (by assumption) ?_
            rotate_left
            · (intro w' hSw; (try dsimp only at hSw); go_simp; all_goals with_reducible rfl)
            repeat (first | simp only [Act.put] | simp only [List.setIfInBounds_toArray] | simp only [List.set_cons_succ] | simp only [List.set_cons_zero])
            refine wpAnyH_takeL (i := 7) (v := ?_) rfl (by kernel_rfl) (by kernel_rfl) (by kernel_rfl) (fun _ _ _ h => h) (Or.inl ⟨by rfl, ?_⟩) (by assumption) ?_
            rotate_left
            · (intro w' hSw; have cX0 := hSw.1; have cX1 := hSw.2; (try dsimp only at hSw); go_simp; all_goals with_reducible rfl)
            repeat (first | simp only [Act.put] | simp only [List.setIfInBounds_toArray] | simp only [List.set_cons_succ] | simp only [List.set_cons_zero])
            refine wpAnyH_takeL (i := 8) (v := ?_) rfl (by kernel_rfl) (by kernel_rfl) (by kernel_rfl) (fun _ _ _ h => h) (Or.inl ⟨by rfl, ?_⟩) (by assumption) ?_
            rotate_left
            · (intro w' hSw; (try dsimp only at hSw); go_simp; all_goals with_reducible rfl)
            repeat (first | simp only [Act.put] | simp only [List.setIfInBounds_toArray] | simp only [List.set_cons_succ] | simp only [List.set_cons_zero])
            refine wpAnyH_takeL (i := 10) (v := ?_) rfl (by kernel_rfl) (by kernel_rfl) (by kernel_rfl) (fun _ _ _ h => h) (Or.inl ⟨by rfl, ?_⟩) (by assumption) ?_
            rotate_left
            · (intro w' hSw; (try dsimp only at hSw); go_simp; all_goals with_reducible rfl)
            repeat (first | simp only [Act.put] | simp only [List.setIfInBounds_toArray] | simp only [List.set_cons_succ] | simp only [List.set_cons_zero])
            refine wpAnyH_ready (rs := [9]) (by kernel_rfl) (by simp) ?_
            refine consL (i := 9) rfl (fun K hK => ?_) AllReadyH.nil
            go_simp
            refine ((RX.out.le ((Le.refl wr).drew)).pick (by omega) 5 (by omega) (by omega)).mono ?_; rintro e w13 ⟨x13, rfl, hx13, b13, c13⟩
            (try go_wp2_with fail)
            have B13 := Lib.hid b13
            clear b13 c13
            have t0 := B13.out.blk.cell 0
            have t1 := (B13.out.cellR hlt).1
            have t2 := (B13.out.cellR hlt).2
            simp at t0
            rw [HXE.out] at t1
            refine hK.out _ _ ⟨t0, t1⟩ (fun hH4 => ?_)
            clear hK K
            repeat (first | simp only [Act.put] | simp only [List.setIfInBounds_toArray] | simp only [List.set_cons_succ] | simp only [List.set_cons_zero])
            refine wpAnyH_ready (rs := [11]) (by kernel_rfl) (by simp) ?_
            refine consL (i := 11) rfl (fun K hK => ?_) AllReadyH.nil
            go_simp
            refine (B13.out.pick (by omega) 3 (by omega) (by omega)).mono ?_; rintro e w14 ⟨x14, rfl, hx14, b14, c14⟩
            (try go_wp2_with fail)
            have B14 := Lib.hid b14
            clear b14 c14
            have r0 := B14.out.blk.cell 0
            have r1 := (B14.out.cellR hlt).1
            have r2 := (B14.out.cellR hlt).2
            simp at r0
            rw [HXE.out] at r1
            obtain ⟨q, hq1, hqb⟩ := small_mul hx13 hx14
            refine hK.out _ _ ⟨r0, r1⟩ (fun hH5 => ?_)
            clear hK K
            repeat (first | simp only [Act.put] | simp only [List.setIfInBounds_toArray] | simp only [List.set_cons_succ] | simp only [List.set_cons_zero])
            refine wpAnyH_takeL (i := 12) (v := ?_) rfl (by kernel_rfl) (by kernel_rfl) (by kernel_rfl) (fun _ _ _ h => h) (Or.inl ⟨by rfl, ?_⟩) (by assumption) ?_
            rotate_left
            · (intro w' hSw; (try dsimp only at hSw); go_simp; all_goals with_reducible rfl)
            repeat (first | simp only [Act.put] | simp only [List.setIfInBounds_toArray] | simp only [List.set_cons_succ] | simp only [List.set_cons_zero])
            clear hq1
            refine wpAnyH_takeL (i := 13) (v := ?_) rfl (by kernel_rfl) (by kernel_rfl) (by kernel_rfl) (fun _ _ _ h => h) (Or.inl ⟨by rfl, ?_⟩) (by assumption) ?_
            rotate_left
            · (intro w' hSw; (try dsimp only at hSw); go_simp; all_goals with_reducible rfl)
            repeat (first | simp only [Act.put] | simp only [List.setIfInBounds_toArray] | simp only [List.set_cons_succ] | simp only [List.set_cons_zero])
            refine wpAnyH_takeL (i := 14) (v := ?_) rfl (by kernel_rfl) (by kernel_rfl) (by kernel_rfl) (fun _ _ _ h => h) (Or.inl ⟨by rfl, ?_⟩) (by assumption) ?_
            rotate_left
            · (intro w' hSw; (try dsimp only at hSw); go_simp; all_goals with_reducible rfl)
            repeat (first | simp only [Act.put] | simp only [List.setIfInBounds_toArray] | simp only [List.set_cons_succ] | simp only [List.set_cons_zero])
            refine wpAnyH_takeL (i := 15) (v := ?_) rfl (by kernel_rfl) (by kernel_rfl) (by kernel_rfl) (fun _ _ _ h => h) (Or.inl ⟨by rfl, ?_⟩) (by assumption) ?_
            rotate_left
            · (intro w' hSw; (try dsimp only at hSw); go_simp; all_goals with_reducible rfl)
            repeat (first | simp only [Act.put] | simp only [List.setIfInBounds_toArray] | simp only [List.set_cons_succ] | simp only [List.set_cons_zero])
            refine wpAnyH_done (by kernel_rfl) ?_ _
            clear hHeld hH4 hH5 s0 s1 s2 t0 t1 t2
            show Oper.wp _ _ _ _ _ _
            go_simp
            have B15 := Lib.hid (B14.out.setR (q := j) (x := x + q))
            have hlr := RX.out.lenR
            go_wp2
            go_roundw
            case rel =>
              refine ⟨j + 1, pos + 1 + 1, R2.set j (x + q), by omega, by go_num, by omega, fun q' hq' => ?_, B15.out⟩
              rw [gi_set1 (by omega)]
              have h1 := HR2.out q' hq'
              by_cases e : q' = j
              · rw [if_pos e, if_pos (by omega)]; omega
              · rw [if_neg e]
                by_cases e2 : q' < j
                · rw [if_pos e2] at h1; rw [if_pos (by omega)]; exact h1
                · rw [if_neg e2] at h1; rw [if_neg (by omega)]; exact h1
            case measure => simp [intOf]; omega
          · obtain rfl : k = j := by omega
            have RB21 := Lib.hid (show ∀ q, q < k → 0 ≤ gi R2 q ∧ gi R2 q ≤ 840358 from fun q hq => by have := HR2.out q hq; rw [if_pos hq] at this; exact this)
            have a0 := RX.out.blk.cell 0
            simp at a0
            have HLL := Lib.hid (l1Left_any _ _ _ _ _ _ _ _ cap cx cy c1 ts ws ss R2 wr (D4.out.chg RX.out.chg (Nat.le_of_lt (Nat.succ_lt_succ hgw))).rm (X4.out.chg RX.out.chg (Nat.le_of_lt (Nat.succ_lt_succ hgw))).ri (Y4.out.chg RX.out.chg (Nat.le_of_lt (Nat.succ_lt_succ hgw))).ri (own_RI2 RX.out.runs (by omega)) FA.out.1 FA.out.2.1 ⟨rfl, FA.out.2.2.1⟩ ⟨rfl, FA.out.2.2.2⟩ ⟨rfl, fun q hq => by have := RB21.out q hq; omega⟩)
            go_wp2_with fail
            refine HLL.out.mono ?_; rintro e w21 ⟨v21, rfl, o21, l21⟩
            rw [show (leftL ts ws ss R2).length = k from by rw [leftL_length, hdl]] at o21
            obtain ⟨g21, c21, rfl, _⟩ := own_open o21 (by omega)
            have a1 := (RX.out.blk.le l21).cell 1
            have z1 := (RX.out.blk.le l21).frozen 1
            simp at a1
            have P21 := Lib.hid (RX.out.left_new l21 o21)
            obtain ⟨w21b, hw21b⟩ : ∃ x, w21.setCell ⟨b, 1, none⟩ (.slice (some ⟨g21, 0, none⟩) k c21) = x := ⟨_, rfl⟩
            rw [hw21b] at P21
            clear o21 l21 a0 HLL
            go_wp2_with fail
            refine (P21.out.pick (by omega) 3 (by omega) (by omega)).mono ?_; rintro e w23 ⟨x23, rfl, hx23, p23, _⟩
            have P23 := Lib.hid p23
            clear p23 hw21b
            by_cases hx3 : x23 = 0
            · have hx3' : ((x23 : Int) == 0) = true := by rw [beq_iff_eq]; omega
              clear hx3
              go_wp2_with fail
              refine (P23.out.pick (by omega) k (by omega) (by omega)).mono ?_; rintro e w24 ⟨x24, rfl, hx24, p24, _⟩
              have P24 := Lib.hid p24
              clear p24
              have s0 := P24.out.blk.cell 0
              have s1 := (P24.out.cellR hx24).1
              have s2 := (P24.out.cellR hx24).2
              simp at s0
              obtain ⟨x, hx⟩ : ∃ x, gi R2 x24 = x := ⟨_, rfl⟩
              have hxb := RB21.out x24 hx24
              rw [hx] at s1 hxb
              clear hx
              have hjk : (x24 : Int) < (k : Int) := by omega
              obtain ⟨z, hz, hzb⟩ : ∃ z : Int, max (x - 1) 0 = z ∧ (0 ≤ z ∧ z ≤ 840358) := ⟨_, rfl, by rw [Int.max_def]; split <;> omega⟩
              go_wp2
              have hHeld : (fun w' : World => w'.cell? ⟨b, 0, none⟩ = some (.slice (some ⟨g1, 0, none⟩) k c1) ∧ w'.cell? ⟨g1, x24, none⟩ = some (.int .i64 x)) w24.drew := ⟨s0, s1⟩
              refine wp_region_last (fun w' : World => w'.cell? ⟨b, 0, none⟩ = some (.slice (some ⟨g1, 0, none⟩) k c1) ∧ w'.cell? ⟨g1, x24, none⟩ = some (.int .i64 x)) 11 _ rfl (by kernel_rfl) (by kernel_rfl) ?_
              simp only [List.setIfInBounds_toArray, List.set_cons_zero, List.set_cons_succ, idle]
              refine wpAnyH_takeL (i := 0) (v := ?_) rfl (by kernel_rfl) (by kernel_rfl) (by kernel_rfl) (fun _ _ _ h => h) (Or.inl ⟨by rfl, ?_⟩) (by assumption) ?_
              rotate_left
              · (intro w' hSw; (try dsimp only at hSw); go_simp; all_goals with_reducible rfl)
              repeat (first | simp only [Act.put] | simp only [List.setIfInBounds_toArray] | simp only [List.set_cons_succ] | simp only [List.set_cons_zero])
              refine wpAnyH_takeL (i := 1) (v := ?_) rfl (by kernel_rfl) (by kernel_rfl) (by kernel_rfl) (fun _ _ _ h => h) (Or.inl ⟨by rfl, ?_⟩) (by assumption) ?_
              rotate_left
              · (intro w' hSw; have cX0 := hSw.1; have cX1 := hSw.2; (try dsimp only at hSw); go_simp; all_goals with_reducible rfl)
              repeat (first | simp only [Act.put] | simp only [List.setIfInBounds_toArray] | simp only [List.set_cons_succ] | simp only [List.set_cons_zero])
              refine wpAnyH_takeL (i := 2) (v := ?_) rfl (by kernel_rfl) (by kernel_rfl) (by kernel_rfl) (fun _ _ _ h => h) (Or.inl ⟨by rfl, ?_⟩) (by assumption) ?_
              rotate_left
              · (intro w' hSw; (try dsimp only at hSw); go_simp; all_goals with_reducible rfl)
              repeat (first | simp only [Act.put] | simp only [List.setIfInBounds_toArray] | simp only [List.set_cons_succ] | simp only [List.set_cons_zero])
              refine wpAnyH_takeL (i := 3) (v := ?_) rfl (by kernel_rfl) (by kernel_rfl) (by kernel_rfl) (fun _ _ _ h => h) (Or.inl ⟨by rfl, ?_⟩) (by assumption) ?_
              rotate_left
              · (intro w' hSw; (try dsimp only at hSw); go_simp; all_goals with_reducible rfl)
              repeat (first | simp only [Act.put] | simp only [List.setIfInBounds_toArray] | simp only [List.set_cons_succ] | simp only [List.set_cons_zero])
              refine wpAnyH_takeL (i := 4) (v := ?_) rfl (by kernel_rfl) (by kernel_rfl) (by kernel_rfl) (fun _ _ _ h => h) (Or.inl ⟨by rfl, ?_⟩) (by assumption) ?_
              rotate_left
              · (intro w' hSw; have cX0 := hSw.1; have cX1 := hSw.2; (try dsimp only at hSw); go_simp; all_goals with_reducible rfl)
              repeat (first | simp only [Act.put] | simp only [List.setIfInBounds_toArray] | simp only [List.set_cons_succ] | simp only [List.set_cons_zero])
              refine wpAnyH_takeL (i := 5) (v := ?_) rfl (by kernel_rfl) (by kernel_rfl) (by kernel_rfl) (fun _ _ _ h => h) (Or.inl ⟨by rfl, ?_⟩) (by assumption) ?_
              rotate_left
              · (intro w' hSw; (try dsimp only at hSw); go_simp; all_goals with_reducible rfl)
              repeat (first | simp only [Act.put] | simp only [List.setIfInBounds_toArray] | simp only [List.set_cons_succ] | simp only [List.set_cons_zero])
              refine wpAnyH_takeL (i := 6) (v := ?_) rfl (by kernel_rfl) (by kernel_rfl) (by kernel_rfl) (fun _ _ _ h => h) (Or.inl ⟨by rfl, ?_⟩) (by assumption) ?_
              rotate_left
              · (intro w' hSw; (try dsimp only at hSw); go_simp; all_goals with_reducible rfl)
              repeat (first | simp only [Act.put] | simp only [List.setIfInBounds_toArray] | simp only [List.set_cons_succ] | simp only [List.set_cons_zero])
              refine wpAnyH_takeL (i := 7) (v := ?_) rfl (by kernel_rfl) (by kernel_rfl) (by kernel_rfl) (fun _ _ _ h => h) (Or.inl ⟨by rfl, ?_⟩) (by assumption) ?_
              rotate_left
              · (intro w' hSw; have cX0 := hSw.1; have cX1 := hSw.2; (try dsimp only at hSw); go_simp; all_goals with_reducible rfl)
              repeat (first | simp only [Act.put] | simp only [List.setIfInBounds_toArray] | simp only [List.set_cons_succ] | simp only [List.set_cons_zero])
              refine wpAnyH_takeL (i := 8) (v := ?_) rfl (by kernel_rfl) (by kernel_rfl) (by kernel_rfl) (fun _ _ _ h => h) (Or.inl ⟨by rfl, ?_⟩) (by assumption) ?_
              rotate_left
              · (intro w' hSw; (try dsimp only at hSw); go_simp; all_goals with_reducible rfl)
              repeat (first | simp only [Act.put] | simp only [List.setIfInBounds_toArray] | simp only [List.set_cons_succ] | simp only [List.set_cons_zero])
              refine wpAnyH_takeL (i := 9) (v := ?_) rfl (by kernel_rfl) (by kernel_rfl) (by kernel_rfl) (fun _ _ _ h => h) (Or.inl ⟨by rfl, ?_⟩) (by assumption) ?_
              rotate_left
              · (intro w' hSw; (try dsimp only at hSw); go_simp; all_goals with_reducible rfl)
              repeat (first | simp only [Act.put] | simp only [List.setIfInBounds_toArray] | simp only [List.set_cons_succ] | simp only [List.set_cons_zero])
              refine wpAnyH_takeL (i := 10) (v := ?_) rfl (by kernel_rfl) (by kernel_rfl) (by kernel_rfl) (fun _ _ _ h => h) (Or.inl ⟨by rfl, ?_⟩) (by assumption) ?_
              rotate_left
              · (intro w' hSw; (try dsimp only at hSw); go_simp; all_goals with_reducible rfl)
              repeat (first | simp only [Act.put] | simp only [List.setIfInBounds_toArray] | simp only [List.set_cons_succ] | simp only [List.set_cons_zero])
              refine wpAnyH_takeL (i := 11) (v := ?_) rfl (by kernel_rfl) (by kernel_rfl) (by kernel_rfl) (fun _ _ _ h => h) (Or.inl ⟨by rfl, ?_⟩) (by assumption) ?_
              rotate_left
              · (intro w' hSw; (try dsimp only at hSw); go_simp; all_goals with_reducible rfl)
              repeat (first | simp only [Act.put] | simp only [List.setIfInBounds_toArray] | simp only [List.set_cons_succ] | simp only [List.set_cons_zero])
              refine wpAnyH_done (by kernel_rfl) ?_ _
              clear hHeld
              show Oper.wp _ _ _ _ _ _
              go_simp
              have P25 := Lib.hid ((P24.out.setR (q := x24) (x := z)).le ((Le.refl _).drew))
              have hlr := P24.out.lenR
              have RB31 := Lib.hid (show ∀ q, q < k → 0 ≤ gi (R2.set x24 z) q ∧ gi (R2.set x24 z) q ≤ 840358 from fun q hq => by
                rw [gi_set1 (by omega)]
                have h1 := RB21.out q hq
                by_cases e : q = x24
                · rw [if_pos e]; exact hzb
                · rw [if_neg e]; exact h1)
              obtain ⟨w25, hw25⟩ : ∃ w25, (w24.setCell ⟨g1, x24, none⟩ (.int .i64 z)).drew = w25 := ⟨_, rfl⟩
              rw [hw25] at P25
              obtain ⟨R3, hR3⟩ : ∃ R3, R2.set x24 z = R3 := ⟨_, rfl⟩
              rw [hR3] at P25 RB31
              clear s0 s1 s2 hR3
              have a0 := P25.out.blk.cell 0
              simp at a0
              have HLL := Lib.hid (l1Left_any _ _ _ _ _ _ _ _ cap cx cy c1 ts ws ss R3 w25 (D4.out.chg P25.out.chg (Nat.le_of_lt (Nat.succ_lt_succ hgw))).rm (X4.out.chg P25.out.chg (Nat.le_of_lt (Nat.succ_lt_succ hgw))).ri (Y4.out.chg P25.out.chg (Nat.le_of_lt (Nat.succ_lt_succ hgw))).ri (own_RI2 P25.out.runs (by omega)) FA.out.1 FA.out.2.1 ⟨rfl, FA.out.2.2.1⟩ ⟨rfl, FA.out.2.2.2⟩ ⟨rfl, fun q hq => by have := RB31.out q hq; omega⟩)
              go_wp2_with fail
              refine HLL.out.mono ?_; rintro e w31 ⟨v31, rfl, o31, l31⟩
              rw [show (leftL ts ws ss R3).length = k from by rw [leftL_length, hdl]] at o31
              obtain ⟨g31, c31, rfl, _⟩ := own_open o31 (by omega)
              have a1 := (P25.out.blk.le l31).cell 1
              have z1 := (P25.out.blk.le l31).frozen 1
              simp at a1
              have P31 := Lib.hid (P25.out.left_new l31 o31)
              obtain ⟨w31b, hw31b⟩ : ∃ x, w31.setCell ⟨b, 1, none⟩ (.slice (some ⟨g31, 0, none⟩) k c31) = x := ⟨_, rfl⟩
              rw [hw31b] at P31
              clear o31 l31 a0 HLL
              clear hw25
              go_wp2_with fail
              all_goals
                refine (P31.out.odd (by omega) 14 (by omega) (by omega)).mono ?_; rintro e wt ⟨tt, rfl, xt, _⟩
                have XT := Lib.hid xt
                clear xt
                cases tt
                · have a0 := XT.out.blk.cell 0
                  have a1 := XT.out.blk.cell 1
                  simp at a0 a1
                  have DC := Lib.hid (D4.out.chg XT.out.chg (Nat.le_of_lt (Nat.succ_lt_succ hgw)))
                  have XC := Lib.hid (X4.out.chg XT.out.chg (Nat.le_of_lt (Nat.succ_lt_succ hgw)))
                  have YC := Lib.hid (Y4.out.chg XT.out.chg (Nat.le_of_lt (Nat.succ_lt_succ hgw)))
                  have KC := Lib.hid (show Blk _ w.heap.size _ _ from (XT.out.chg.block _ K4.out.lt (.inr hgw)).trans K4.out)
                  have r0 := KC.out.cell 0
                  have r1 := KC.out.cell 1
                  have z0 := KC.out.frozen 0
                  have z1 := KC.out.frozen 1
                  simp at r0 r1
                  have hwb : w.heap.size < b := by have h1 := XT.out.base; have h2 := K4.out.lt; omega
                  have HX := Lib.hid XT.out
                  go_wp2
                  have hS : (fun w' : World => w'.cell? ⟨b, 0, none⟩ = some (.slice (some ⟨g1, 0, none⟩) k c1) ∧ w'.cell? ⟨b, 1, none⟩ = some (.slice (some ⟨g31, 0, none⟩) k c31)) (wt.drew) := ⟨a0, a1⟩
                  refine wp_region_held_drew (S := fun w' => w'.cell? ⟨b, 0, none⟩ = some (.slice (some ⟨g1, 0, none⟩) k c1) ∧ w'.cell? ⟨b, 1, none⟩ = some (.slice (some ⟨g31, 0, none⟩) k c31)) (by kernel_rfl) hS (fun _ => ?_)
                  refine wpAnyH_takeL (i := 0) (v := ?_) rfl (by kernel_rfl) (by kernel_rfl) (by kernel_rfl) (fun _ _ _ h => h) (Or.inl ⟨by rfl, ?_⟩) (by assumption) ?_
                  rotate_left
                  · (intro w' hSw; (try dsimp only at hSw); go_simp; all_goals with_reducible rfl)
                  repeat (first | simp only [Act.put] | simp only [List.setIfInBounds_toArray] | simp only [List.set_cons_succ] | simp only [List.set_cons_zero])
                  refine wpAnyH_takeL (i := 1) (v := ?_) rfl (by kernel_rfl) (by kernel_rfl) (by kernel_rfl) (fun _ _ _ h => h) (Or.inl ⟨by rfl, ?_⟩) (by assumption) ?_
                  rotate_left
                  · (intro w' hSw; (try dsimp only at hSw); go_simp; all_goals with_reducible rfl)
                  repeat (first | simp only [Act.put] | simp only [List.setIfInBounds_toArray] | simp only [List.set_cons_succ] | simp only [List.set_cons_zero])
                  refine wpAnyH_takeL (i := 2) (v := ?_) rfl (by kernel_rfl) (by kernel_rfl) (by kernel_rfl) (fun _ _ _ h => h) (Or.inl ⟨by rfl, ?_⟩) (by assumption) ?_
                  rotate_left
                  · (intro w' hSw; (try dsimp only at hSw); go_simp; all_goals with_reducible rfl)
                  repeat (first | simp only [Act.put] | simp only [List.setIfInBounds_toArray] | simp only [List.set_cons_succ] | simp only [List.set_cons_zero])
                  refine wpAnyH_takeL (i := 3) (v := ?_) rfl (by kernel_rfl) (by kernel_rfl) (by kernel_rfl) (fun _ _ _ h => h) (Or.inl ⟨by rfl, ?_⟩) (by assumption) ?_
                  rotate_left
                  · (intro w' hSw; have cX0 := hSw.1; have cX1 := hSw.2; (try dsimp only at hSw); go_simp; all_goals with_reducible rfl)
                  repeat (first | simp only [Act.put] | simp only [List.setIfInBounds_toArray] | simp only [List.set_cons_succ] | simp only [List.set_cons_zero])
                  refine wpAnyH_takeL (i := 4) (v := ?_) rfl (by kernel_rfl) (by kernel_rfl) (by kernel_rfl) (fun _ _ _ h => h) (Or.inl ⟨by rfl, ?_⟩) (by assumption) ?_
                  rotate_left
                  · (intro w' hSw; (try dsimp only at hSw); go_simp; all_goals with_reducible rfl)
                  repeat (first | simp only [Act.put] | simp only [List.setIfInBounds_toArray] | simp only [List.set_cons_succ] | simp only [List.set_cons_zero])
                  refine wpAnyH_takeL (i := 5) (v := ?_) rfl (by kernel_rfl) (by kernel_rfl) (by kernel_rfl) (fun _ _ _ h => h) (Or.inl ⟨by rfl, ?_⟩) (by assumption) ?_
                  rotate_left
                  · (intro w' hSw; (try dsimp only at hSw); go_simp; all_goals with_reducible rfl)
                  repeat (first | simp only [Act.put] | simp only [List.setIfInBounds_toArray] | simp only [List.set_cons_succ] | simp only [List.set_cons_zero])
                  refine wpAnyH_takeL (i := 6) (v := ?_) rfl (by kernel_rfl) (by kernel_rfl) (by kernel_rfl) (fun _ _ _ h => h) (Or.inl ⟨by rfl, ?_⟩) (by assumption) ?_
                  rotate_left
                  · (intro w' hSw; (try dsimp only at hSw); go_simp; all_goals with_reducible rfl)
                  repeat (first | simp only [Act.put] | simp only [List.setIfInBounds_toArray] | simp only [List.set_cons_succ] | simp only [List.set_cons_zero])
                  refine wpAnyH_ready (rs := [7]) (by kernel_rfl) (by simp) ?_
                  refine consL (i := 7) rfl (fun K hK => ?_) AllReadyH.nil
                  go_simp
                  have cS : Chg w.heap.size (w.heap.size + 1) wt (((wt.drew).setCell ⟨w.heap.size, 0, none⟩ (.slice (some ⟨g1, 0, none⟩) k c1)).setCell ⟨w.heap.size, 1, none⟩ (.slice (some ⟨g31, 0, none⟩) k c31)) := (Chg.of_le ((Le.refl wt).drew)).trans ((Chg.set (Nat.le_refl _) (Nat.lt_succ_self _) 0 _).trans (Chg.set (Nat.le_refl _) (Nat.lt_succ_self _) 1 _))
                  have CS := Lib.hid cS
                  have kb := (cS.block b HX.out.blk.lt (.inr hwb)).trans HX.out.blk
                  have k0' := Blk.cell kb 0
                  have k1' := Blk.cell kb 1
                  simp only [List.getElem?_toArray, List.getElem?_cons_zero, List.getElem?_cons_succ] at k0' k1'
                  clear cS kb
                  refine hK.out _ _ ⟨k0', k1'⟩ (fun _ => ?_)
                  clear hK K
                  repeat (first | simp only [Act.put] | simp only [List.setIfInBounds_toArray] | simp only [List.set_cons_succ] | simp only [List.set_cons_zero])
                  refine wpAnyH_done (by kernel_rfl) ?_ _
                  clear a0 a1 hS k0' k1'
                  have h4w := K4.out.lt
                  go_wp2
                  refine bodyPost_ret (v := .tuple #[.slice (some ⟨gv, 0, none⟩) k cap, .slice (some ⟨gx, 0, none⟩) k cx, .slice (some ⟨gy, 0, none⟩) k cy, .agg #[(.slice (some ⟨g1, 0, none⟩) k c1), (.slice (some ⟨g31, 0, none⟩) k c31)]]) (by simp [results, Tryd.results57, go_sem, r0, r1]) rfl ?_
                  refine ⟨gv, cap, k, ts, gx, cx, k, ws, gy, cy, k, ss, (.slice (some ⟨g1, 0, none⟩) k c1), (.slice (some ⟨g31, 0, none⟩) k c31), k, k, R3, (leftL ts ws ss R3), ((pos + 1 + 1) + 1), rfl, (DC.out.chg CS.out (Nat.le_refl _)).base (by omega), (XC.out.chg CS.out (Nat.le_refl _)).base (by omega), (YC.out.chg CS.out (Nat.le_refl _)).base (by omega), own_mono (Chg.own2 HX.out.runs CS.out h4w) (by omega), own_mono (Chg.own2 HX.out.left CS.out h4w) (by omega), by omega, by omega, fun j hj => by have := RB31.out j hj; omega, ?_, by omega, ?_⟩
                  · exact ⟨(CS.out.block g HX.out.rd.blk.lt (.inl hgw)).trans HX.out.rd.blk, CS.out.le HX.out.rd.le (by have := HX.out.rd.base; omega), HX.out.rd.base, HX.out.rd.bytes, HX.out.rd.small⟩
                  · exact (C4.out.trans HX.out.chg).over CS.out (Nat.le_refl _)
                · have a0 := XT.out.blk.cell 0
                  have a1 := XT.out.blk.cell 1
                  have z1 := XT.out.blk.frozen 1
                  simp at a0 a1
                  have OWL := Lib.hid XT.out.left
                  have hbw : b < wt.heap.size := XT.out.blk.lt
                  go_wp2_with (at_builtin; refine wpList_append_own _ rfl _ _ 40 rfl w4.heap.size 3 i0 _ 1 8 Tryd.underlying40 hi0 hz0 hz1 hz2 rfl (by decide) _ k (ints (leftL ts ws ss R3)) rfl (OWL.out.alloc _) ⟨wt.heap.size, 0, none⟩ 1 1 [.int .i64 0] rfl rfl ?c1 ?c2 ?c3 ?c4 ?c5 ?_)
                  case c1 => exact cell_one' wt _ rfl _ _
                  case c2 => intro u hu; simp at hu; rcases hu with rfl; rfl
                  case c3 => unfold maxLen; omega
                  case c4 => omega
                  case c5 => have := XT.out.chg.size; simp; omega
                  intro v9 w9 hown' hgrow hnil
                  obtain ⟨m9, hm9⟩ : ∃ m9, m9 = k + 1 := ⟨_, rfl⟩
                  have hown' : w9.ownsRow w4.heap.size 3 1 v9 m9 (ints (leftL ts ws ss R3) ++ [.int .i64 0]) := by rw [hm9]; exact hown'
                  have hm9b : 0 < m9 ∧ m9 ≤ 8 := by omega
                  clear hm9
                  obtain ⟨g9, c9, rfl, _⟩ := own_formI hown' (by first | exact hnil | exact fun e => by have := (hnil.1 e).2; omega)
                  have la := (Le.refl wt).alloc (.cells #[.int .i64 0] 3)
                  have Y9 := Lib.hid (XT.out.app la hgrow (M := (leftL ts ws ss R3) ++ [0]) (by rw [ints_snoc]; exact hown') (by have := hm9b.1; omega))
                  have k9 : Blk w9 b 42 #[(.slice (some ⟨g1, 0, none⟩) k c1), (.slice (some ⟨g31, 0, none⟩) k c31)] := (XT.out.blk.le la).grown hgrow (fun e => XT.out.n2 e.symm)
                  have a0 := k9.cell 0
                  have a1 := k9.cell 1
                  have z1 := k9.frozen 1
                  simp at a0 a1
                  clear hown' hgrow hnil la k9
                  go_wp2
                  obtain ⟨wu, hwu⟩ : ∃ wu, w9.setCell ⟨b, 1, none⟩ (.slice (some ⟨g9, 0, none⟩) m9 c9) = wu := ⟨_, rfl⟩
                  rw [hwu] at Y9
                  rw [hwu]
                  clear hwu a0 a1 z1
                  have a0 := Y9.out.blk.cell 0
                  have a1 := Y9.out.blk.cell 1
                  simp at a0 a1
                  have DC := Lib.hid (D4.out.chg Y9.out.chg (Nat.le_of_lt (Nat.succ_lt_succ hgw)))
                  have XC := Lib.hid (X4.out.chg Y9.out.chg (Nat.le_of_lt (Nat.succ_lt_succ hgw)))
                  have YC := Lib.hid (Y4.out.chg Y9.out.chg (Nat.le_of_lt (Nat.succ_lt_succ hgw)))
                  have KC := Lib.hid (show Blk _ w.heap.size _ _ from (Y9.out.chg.block _ K4.out.lt (.inr hgw)).trans K4.out)
                  have r0 := KC.out.cell 0
                  have r1 := KC.out.cell 1
                  have z0 := KC.out.frozen 0
                  have z1 := KC.out.frozen 1
                  simp at r0 r1
                  have hwb : w.heap.size < b := by have h1 := Y9.out.base; have h2 := K4.out.lt; omega
                  have HX := Lib.hid Y9.out
                  have hS : (fun w' : World => w'.cell? ⟨b, 0, none⟩ = some (.slice (some ⟨g1, 0, none⟩) k c1) ∧ w'.cell? ⟨b, 1, none⟩ = some (.slice (some ⟨g9, 0, none⟩) m9 c9)) (wu.drew) := ⟨a0, a1⟩
                  refine wp_region_held_drew (S := fun w' => w'.cell? ⟨b, 0, none⟩ = some (.slice (some ⟨g1, 0, none⟩) k c1) ∧ w'.cell? ⟨b, 1, none⟩ = some (.slice (some ⟨g9, 0, none⟩) m9 c9)) (by kernel_rfl) hS (fun _ => ?_)
                  refine wpAnyH_takeL (i := 0) (v := ?_) rfl (by kernel_rfl) (by kernel_rfl) (by kernel_rfl) (fun _ _ _ h => h) (Or.inl ⟨by rfl, ?_⟩) (by assumption) ?_
                  rotate_left
                  · (intro w' hSw; (try dsimp only at hSw); go_simp; all_goals with_reducible rfl)
                  repeat (first | simp only [Act.put] | simp only [List.setIfInBounds_toArray] | simp only [List.set_cons_succ] | simp only [List.set_cons_zero])
                  refine wpAnyH_takeL (i := 1) (v := ?_) rfl (by kernel_rfl) (by kernel_rfl) (by kernel_rfl) (fun _ _ _ h => h) (Or.inl ⟨by rfl, ?_⟩) (by assumption) ?_
                  rotate_left
                  · (intro w' hSw; (try dsimp only at hSw); go_simp; all_goals with_reducible rfl)
                  repeat (first | simp only [Act.put] | simp only [List.setIfInBounds_toArray] | simp only [List.set_cons_succ] | simp only [List.set_cons_zero])
                  refine wpAnyH_takeL (i := 2) (v := ?_) rfl (by kernel_rfl) (by kernel_rfl) (by kernel_rfl) (fun _ _ _ h => h) (Or.inl ⟨by rfl, ?_⟩) (by assumption) ?_
                  rotate_left
                  · (intro w' hSw; (try dsimp only at hSw); go_simp; all_goals with_reducible rfl)
                  repeat (first | simp only [Act.put] | simp only [List.setIfInBounds_toArray] | simp only [List.set_cons_succ] | simp only [List.set_cons_zero])
                  refine wpAnyH_takeL (i := 3) (v := ?_) rfl (by kernel_rfl) (by kernel_rfl) (by kernel_rfl) (fun _ _ _ h => h) (Or.inl ⟨by rfl, ?_⟩) (by assumption) ?_
                  rotate_left
                  · (intro w' hSw; have cX0 := hSw.1; have cX1 := hSw.2; (try dsimp only at hSw); go_simp; all_goals with_reducible rfl)
                  repeat (first | simp only [Act.put] | simp only [List.setIfInBounds_toArray] | simp only [List.set_cons_succ] | simp only [List.set_cons_zero])
                  refine wpAnyH_takeL (i := 4) (v := ?_) rfl (by kernel_rfl) (by kernel_rfl) (by kernel_rfl) (fun _ _ _ h => h) (Or.inl ⟨by rfl, ?_⟩) (by assumption) ?_
                  rotate_left
                  · (intro w' hSw; (try dsimp only at hSw); go_simp; all_goals with_reducible rfl)
                  repeat (first | simp only [Act.put] | simp only [List.setIfInBounds_toArray] | simp only [List.set_cons_succ] | simp only [List.set_cons_zero])
                  refine wpAnyH_takeL (i := 5) (v := ?_) rfl (by kernel_rfl) (by kernel_rfl) (by kernel_rfl) (fun _ _ _ h => h) (Or.inl ⟨by rfl, ?_⟩) (by assumption) ?_
                  rotate_left
                  · (intro w' hSw; (try dsimp only at hSw); go_simp; all_goals with_reducible rfl)
                  repeat (first | simp only [Act.put] | simp only [List.setIfInBounds_toArray] | simp only [List.set_cons_succ] | simp only [List.set_cons_zero])
                  refine wpAnyH_takeL (i := 6) (v := ?_) rfl (by kernel_rfl) (by kernel_rfl) (by kernel_rfl) (fun _ _ _ h => h) (Or.inl ⟨by rfl, ?_⟩) (by assumption) ?_
                  rotate_left
                  · (intro w' hSw; (try dsimp only at hSw); go_simp; all_goals with_reducible rfl)
                  repeat (first | simp only [Act.put] | simp only [List.setIfInBounds_toArray] | simp only [List.set_cons_succ] | simp only [List.set_cons_zero])
                  refine wpAnyH_ready (rs := [7]) (by kernel_rfl) (by simp) ?_
                  refine consL (i := 7) rfl (fun K hK => ?_) AllReadyH.nil
                  go_simp
                  have cS : Chg w.heap.size (w.heap.size + 1) wu (((wu.drew).setCell ⟨w.heap.size, 0, none⟩ (.slice (some ⟨g1, 0, none⟩) k c1)).setCell ⟨w.heap.size, 1, none⟩ (.slice (some ⟨g9, 0, none⟩) m9 c9)) := (Chg.of_le ((Le.refl wu).drew)).trans ((Chg.set (Nat.le_refl _) (Nat.lt_succ_self _) 0 _).trans (Chg.set (Nat.le_refl _) (Nat.lt_succ_self _) 1 _))
                  have CS := Lib.hid cS
                  have kb := (cS.block b HX.out.blk.lt (.inr hwb)).trans HX.out.blk
                  have k0' := Blk.cell kb 0
                  have k1' := Blk.cell kb 1
                  simp only [List.getElem?_toArray, List.getElem?_cons_zero, List.getElem?_cons_succ] at k0' k1'
                  clear cS kb
                  refine hK.out _ _ ⟨k0', k1'⟩ (fun _ => ?_)
                  clear hK K
                  repeat (first | simp only [Act.put] | simp only [List.setIfInBounds_toArray] | simp only [List.set_cons_succ] | simp only [List.set_cons_zero])
                  refine wpAnyH_done (by kernel_rfl) ?_ _
                  clear a0 a1 hS k0' k1'
                  have h4w := K4.out.lt
                  go_wp2
                  refine bodyPost_ret (v := .tuple #[.slice (some ⟨gv, 0, none⟩) k cap, .slice (some ⟨gx, 0, none⟩) k cx, .slice (some ⟨gy, 0, none⟩) k cy, .agg #[(.slice (some ⟨g1, 0, none⟩) k c1), (.slice (some ⟨g9, 0, none⟩) m9 c9)]]) (by simp [results, Tryd.results57, go_sem, r0, r1]) rfl ?_
                  refine ⟨gv, cap, k, ts, gx, cx, k, ws, gy, cy, k, ss, (.slice (some ⟨g1, 0, none⟩) k c1), (.slice (some ⟨g9, 0, none⟩) m9 c9), k, m9, R3, ((leftL ts ws ss R3) ++ [0]), ((pos + 1 + 1) + 1), rfl, (DC.out.chg CS.out (Nat.le_refl _)).base (by omega), (XC.out.chg CS.out (Nat.le_refl _)).base (by omega), (YC.out.chg CS.out (Nat.le_refl _)).base (by omega), own_mono (Chg.own2 HX.out.runs CS.out h4w) (by omega), own_mono (Chg.own2 HX.out.left CS.out h4w) (by omega), by omega, by omega, fun j hj => by have := RB31.out j hj; omega, ?_, by omega, ?_⟩
                  · exact ⟨(CS.out.block g HX.out.rd.blk.lt (.inl hgw)).trans HX.out.rd.blk, CS.out.le HX.out.rd.le (by have := HX.out.rd.base; omega), HX.out.rd.base, HX.out.rd.bytes, HX.out.rd.small⟩
                  · exact (C4.out.trans HX.out.chg).over CS.out (Nat.le_refl _)
            · have hx3' : ((x23 : Int) == 0) = false := by rw [beq_eq_false_iff_ne]; omega
              go_wp2_with fail
              all_goals
                refine (P23.out.odd (by omega) 14 (by omega) (by omega)).mono ?_; rintro e wt ⟨tt, rfl, xt, _⟩
                have XT := Lib.hid xt
                clear xt
                cases tt
                · have a0 := XT.out.blk.cell 0
                  have a1 := XT.out.blk.cell 1
                  simp at a0 a1
                  have DC := Lib.hid (D4.out.chg XT.out.chg (Nat.le_of_lt (Nat.succ_lt_succ hgw)))
                  have XC := Lib.hid (X4.out.chg XT.out.chg (Nat.le_of_lt (Nat.succ_lt_succ hgw)))
                  have YC := Lib.hid (Y4.out.chg XT.out.chg (Nat.le_of_lt (Nat.succ_lt_succ hgw)))
                  have KC := Lib.hid (show Blk _ w.heap.size _ _ from (XT.out.chg.block _ K4.out.lt (.inr hgw)).trans K4.out)
                  have r0 := KC.out.cell 0
                  have r1 := KC.out.cell 1
                  have z0 := KC.out.frozen 0
                  have z1 := KC.out.frozen 1
                  simp at r0 r1
                  have hwb : w.heap.size < b := by have h1 := XT.out.base; have h2 := K4.out.lt; omega
                  have HX := Lib.hid XT.out
                  go_wp2
                  have hS : (fun w' : World => w'.cell? ⟨b, 0, none⟩ = some (.slice (some ⟨g1, 0, none⟩) k c1) ∧ w'.cell? ⟨b, 1, none⟩ = some (.slice (some ⟨g21, 0, none⟩) k c21)) (wt.drew) := ⟨a0, a1⟩
                  refine wp_region_held_drew (S := fun w' => w'.cell? ⟨b, 0, none⟩ = some (.slice (some ⟨g1, 0, none⟩) k c1) ∧ w'.cell? ⟨b, 1, none⟩ = some (.slice (some ⟨g21, 0, none⟩) k c21)) (by kernel_rfl) hS (fun _ => ?_)
                  refine wpAnyH_takeL (i := 0) (v := ?_) rfl (by kernel_rfl) (by kernel_rfl) (by kernel_rfl) (fun _ _ _ h => h) (Or.inl ⟨by rfl, ?_⟩) (by assumption) ?_
                  rotate_left
                  · (intro w' hSw; (try dsimp only at hSw); go_simp; all_goals with_reducible rfl)
                  repeat (first | simp only [Act.put] | simp only [List.setIfInBounds_toArray] | simp only [List.set_cons_succ] | simp only [List.set_cons_zero])
                  refine wpAnyH_takeL (i := 1) (v := ?_) rfl (by kernel_rfl) (by kernel_rfl) (by kernel_rfl) (fun _ _ _ h => h) (Or.inl ⟨by rfl, ?_⟩) (by assumption) ?_
                  rotate_left
                  · (intro w' hSw; (try dsimp only at hSw); go_simp; all_goals with_reducible rfl)
                  repeat (first | simp only [Act.put] | simp only [List.setIfInBounds_toArray] | simp only [List.set_cons_succ] | simp only [List.set_cons_zero])
                  refine wpAnyH_takeL (i := 2) (v := ?_) rfl (by kernel_rfl) (by kernel_rfl) (by kernel_rfl) (fun _ _ _ h => h) (Or.inl ⟨by rfl, ?_⟩) (by assumption) ?_
                  rotate_left
                  · (intro w' hSw; (try dsimp only at hSw); go_simp; all_goals with_reducible rfl)
                  repeat (first | simp only [Act.put] | simp only [List.setIfInBounds_toArray] | simp only [List.set_cons_succ] | simp only [List.set_cons_zero])
                  refine wpAnyH_takeL (i := 3) (v := ?_) rfl (by kernel_rfl) (by kernel_rfl) (by kernel_rfl) (fun _ _ _ h => h) (Or.inl ⟨by rfl, ?_⟩) (by assumption) ?_
                  rotate_left
                  · (intro w' hSw; have cX0 := hSw.1; have cX1 := hSw.2; (try dsimp only at hSw); go_simp; all_goals with_reducible rfl)
                  repeat (first | simp only [Act.put] | simp only [List.setIfInBounds_toArray] | simp only [List.set_cons_succ] | simp only [List.set_cons_zero])
                  refine wpAnyH_takeL (i := 4) (v := ?_) rfl (by kernel_rfl) (by kernel_rfl) (by kernel_rfl) (fun _ _ _ h => h) (Or.inl ⟨by rfl, ?_⟩) (by assumption) ?_
                  rotate_left
                  · (intro w' hSw; (try dsimp only at hSw); go_simp; all_goals with_reducible rfl)
                  repeat (first | simp only [Act.put] | simp only [List.setIfInBounds_toArray] | simp only [List.set_cons_succ] | simp only [List.set_cons_zero])
                  refine wpAnyH_takeL (i := 5) (v := ?_) rfl (by kernel_rfl) (by kernel_rfl) (by kernel_rfl) (fun _ _ _ h => h) (Or.inl ⟨by rfl, ?_⟩) (by assumption) ?_
                  rotate_left
                  · (intro w' hSw; (try dsimp only at hSw); go_simp; all_goals with_reducible rfl)
                  repeat (first | simp only [Act.put] | simp only [List.setIfInBounds_toArray] | simp only [List.set_cons_succ] | simp only [List.set_cons_zero])
                  refine wpAnyH_takeL (i := 6) (v := ?_) rfl (by kernel_rfl) (by kernel_rfl) (by kernel_rfl) (fun _ _ _ h => h) (Or.inl ⟨by rfl, ?_⟩) (by assumption) ?_
                  rotate_left
                  · (intro w' hSw; (try dsimp only at hSw); go_simp; all_goals with_reducible rfl)
                  repeat (first | simp only [Act.put] | simp only [List.setIfInBounds_toArray] | simp only [List.set_cons_succ] | simp only [List.set_cons_zero])
                  refine wpAnyH_ready (rs := [7]) (by kernel_rfl) (by simp) ?_
                  refine consL (i := 7) rfl (fun K hK => ?_) AllReadyH.nil
                  go_simp
                  have cS : Chg w.heap.size (w.heap.size + 1) wt (((wt.drew).setCell ⟨w.heap.size, 0, none⟩ (.slice (some ⟨g1, 0, none⟩) k c1)).setCell ⟨w.heap.size, 1, none⟩ (.slice (some ⟨g21, 0, none⟩) k c21)) := (Chg.of_le ((Le.refl wt).drew)).trans ((Chg.set (Nat.le_refl _) (Nat.lt_succ_self _) 0 _).trans (Chg.set (Nat.le_refl _) (Nat.lt_succ_self _) 1 _))
                  have CS := Lib.hid cS
                  have kb := (cS.block b HX.out.blk.lt (.inr hwb)).trans HX.out.blk
                  have k0' := Blk.cell kb 0
                  have k1' := Blk.cell kb 1
                  simp only [List.getElem?_toArray, List.getElem?_cons_zero, List.getElem?_cons_succ] at k0' k1'
                  clear cS kb
                  refine hK.out _ _ ⟨k0', k1'⟩ (fun _ => ?_)
                  clear hK K
                  repeat (first | simp only [Act.put] | simp only [List.setIfInBounds_toArray] | simp only [List.set_cons_succ] | simp only [List.set_cons_zero])
                  refine wpAnyH_done (by kernel_rfl) ?_ _
                  clear a0 a1 hS k0' k1'
                  have h4w := K4.out.lt
                  go_wp2
                  refine bodyPost_ret (v := .tuple #[.slice (some ⟨gv, 0, none⟩) k cap, .slice (some ⟨gx, 0, none⟩) k cx, .slice (some ⟨gy, 0, none⟩) k cy, .agg #[(.slice (some ⟨g1, 0, none⟩) k c1), (.slice (some ⟨g21, 0, none⟩) k c21)]]) (by simp [results, Tryd.results57, go_sem, r0, r1]) rfl ?_
                  refine ⟨gv, cap, k, ts, gx, cx, k, ws, gy, cy, k, ss, (.slice (some ⟨g1, 0, none⟩) k c1), (.slice (some ⟨g21, 0, none⟩) k c21), k, k, R2, (leftL ts ws ss R2), ((pos + 1) + 1), rfl, (DC.out.chg CS.out (Nat.le_refl _)).base (by omega), (XC.out.chg CS.out (Nat.le_refl _)).base (by omega), (YC.out.chg CS.out (Nat.le_refl _)).base (by omega), own_mono (Chg.own2 HX.out.runs CS.out h4w) (by omega), own_mono (Chg.own2 HX.out.left CS.out h4w) (by omega), by omega, by omega, fun j hj => by have := RB21.out j hj; omega, ?_, by omega, ?_⟩
                  · exact ⟨(CS.out.block g HX.out.rd.blk.lt (.inl hgw)).trans HX.out.rd.blk, CS.out.le HX.out.rd.le (by have := HX.out.rd.base; omega), HX.out.rd.base, HX.out.rd.bytes, HX.out.rd.small⟩
                  · exact (C4.out.trans HX.out.chg).over CS.out (Nat.le_refl _)
                · have a0 := XT.out.blk.cell 0
                  have a1 := XT.out.blk.cell 1
                  have z1 := XT.out.blk.frozen 1
                  simp at a0 a1
                  have OWL := Lib.hid XT.out.left
                  have hbw : b < wt.heap.size := XT.out.blk.lt
                  go_wp2_with (at_builtin; refine wpList_append_own _ rfl _ _ 40 rfl w4.heap.size 3 i0 _ 1 8 Tryd.underlying40 hi0 hz0 hz1 hz2 rfl (by decide) _ k (ints (leftL ts ws ss R2)) rfl (OWL.out.alloc _) ⟨wt.heap.size, 0, none⟩ 1 1 [.int .i64 0] rfl rfl ?c1 ?c2 ?c3 ?c4 ?c5 ?_)
                  case c1 => exact cell_one' wt _ rfl _ _
                  case c2 => intro u hu; simp at hu; rcases hu with rfl; rfl
                  case c3 => unfold maxLen; omega
                  case c4 => omega
                  case c5 => have := XT.out.chg.size; simp; omega
                  intro v9 w9 hown' hgrow hnil
                  obtain ⟨m9, hm9⟩ : ∃ m9, m9 = k + 1 := ⟨_, rfl⟩
                  have hown' : w9.ownsRow w4.heap.size 3 1 v9 m9 (ints (leftL ts ws ss R2) ++ [.int .i64 0]) := by rw [hm9]; exact hown'
                  have hm9b : 0 < m9 ∧ m9 ≤ 8 := by omega
                  clear hm9
                  obtain ⟨g9, c9, rfl, _⟩ := own_formI hown' (by first | exact hnil | exact fun e => by have := (hnil.1 e).2; omega)
                  have la := (Le.refl wt).alloc (.cells #[.int .i64 0] 3)
                  have Y9 := Lib.hid (XT.out.app la hgrow (M := (leftL ts ws ss R2) ++ [0]) (by rw [ints_snoc]; exact hown') (by have := hm9b.1; omega))
                  have k9 : Blk w9 b 42 #[(.slice (some ⟨g1, 0, none⟩) k c1), (.slice (some ⟨g21, 0, none⟩) k c21)] := (XT.out.blk.le la).grown hgrow (fun e => XT.out.n2 e.symm)
                  have a0 := k9.cell 0
                  have a1 := k9.cell 1
                  have z1 := k9.frozen 1
                  simp at a0 a1
                  clear hown' hgrow hnil la k9
                  go_wp2
                  obtain ⟨wu, hwu⟩ : ∃ wu, w9.setCell ⟨b, 1, none⟩ (.slice (some ⟨g9, 0, none⟩) m9 c9) = wu := ⟨_, rfl⟩
                  rw [hwu] at Y9
                  rw [hwu]
                  clear hwu a0 a1 z1
                  have a0 := Y9.out.blk.cell 0
                  have a1 := Y9.out.blk.cell 1
                  simp at a0 a1
                  have DC := Lib.hid (D4.out.chg Y9.out.chg (Nat.le_of_lt (Nat.succ_lt_succ hgw)))
                  have XC := Lib.hid (X4.out.chg Y9.out.chg (Nat.le_of_lt (Nat.succ_lt_succ hgw)))
                  have YC := Lib.hid (Y4.out.chg Y9.out.chg (Nat.le_of_lt (Nat.succ_lt_succ hgw)))
                  have KC := Lib.hid (show Blk _ w.heap.size _ _ from (Y9.out.chg.block _ K4.out.lt (.inr hgw)).trans K4.out)
                  have r0 := KC.out.cell 0
                  have r1 := KC.out.cell 1
                  have z0 := KC.out.frozen 0
                  have z1 := KC.out.frozen 1
                  simp at r0 r1
                  have hwb : w.heap.size < b := by have h1 := Y9.out.base; have h2 := K4.out.lt; omega
                  have HX := Lib.hid Y9.out
                  have hS : (fun w' : World => w'.cell? ⟨b, 0, none⟩ = some (.slice (some ⟨g1, 0, none⟩) k c1) ∧ w'.cell? ⟨b, 1, none⟩ = some (.slice (some ⟨g9, 0, none⟩) m9 c9)) (wu.drew) := ⟨a0, a1⟩
                  refine wp_region_held_drew (S := fun w' => w'.cell? ⟨b, 0, none⟩ = some (.slice (some ⟨g1, 0, none⟩) k c1) ∧ w'.cell? ⟨b, 1, none⟩ = some (.slice (some ⟨g9, 0, none⟩) m9 c9)) (by kernel_rfl) hS (fun _ => ?_)
                  refine wpAnyH_takeL (i := 0) (v := ?_) rfl (by kernel_rfl) (by kernel_rfl) (by kernel_rfl) (fun _ _ _ h => h) (Or.inl ⟨by rfl, ?_⟩) (by assumption) ?_
                  rotate_left
                  · (intro w' hSw; (try dsimp only at hSw); go_simp; all_goals with_reducible rfl)
                  repeat (first | simp only [Act.put] | simp only [List.setIfInBounds_toArray] | simp only [List.set_cons_succ] | simp only [List.set_cons_zero])
                  refine wpAnyH_takeL (i := 1) (v := ?_) rfl (by kernel_rfl) (by kernel_rfl) (by kernel_rfl) (fun _ _ _ h => h) (Or.inl ⟨by rfl, ?_⟩) (by assumption) ?_
                  rotate_left
                  · (intro w' hSw; (try dsimp only at hSw); go_simp; all_goals with_reducible rfl)
                  repeat (first | simp only [Act.put] | simp only [List.setIfInBounds_toArray] | simp only [List.set_cons_succ] | simp only [List.set_cons_zero])
                  refine wpAnyH_takeL (i := 2) (v := ?_) rfl (by kernel_rfl) (by kernel_rfl) (by kernel_rfl) (fun _ _ _ h => h) (Or.inl ⟨by rfl, ?_⟩) (by assumption) ?_
                  rotate_left
                  · (intro w' hSw; (try dsimp only at hSw); go_simp; all_goals with_reducible rfl)
                  repeat (first | simp only [Act.put] | simp only [List.setIfInBounds_toArray] | simp only [List.set_cons_succ] | simp only [List.set_cons_zero])
                  refine wpAnyH_takeL (i := 3) (v := ?_) rfl (by kernel_rfl) (by kernel_rfl) (by kernel_rfl) (fun _ _ _ h => h) (Or.inl ⟨by rfl, ?_⟩) (by assumption) ?_
                  rotate_left
                  · (intro w' hSw; have cX0 := hSw.1; have cX1 := hSw.2; (try dsimp only at hSw); go_simp; all_goals with_reducible rfl)
                  repeat (first | simp only [Act.put] | simp only [List.setIfInBounds_toArray] | simp only [List.set_cons_succ] | simp only [List.set_cons_zero])
                  refine wpAnyH_takeL (i := 4) (v := ?_) rfl (by kernel_rfl) (by kernel_rfl) (by kernel_rfl) (fun _ _ _ h => h) (Or.inl ⟨by rfl, ?_⟩) (by assumption) ?_
                  rotate_left
                  · (intro w' hSw; (try dsimp only at hSw); go_simp; all_goals with_reducible rfl)
                  repeat (first | simp only [Act.put] | simp only [List.setIfInBounds_toArray] | simp only [List.set_cons_succ] | simp only [List.set_cons_zero])
                  refine wpAnyH_takeL (i := 5) (v := ?_) rfl (by kernel_rfl) (by kernel_rfl) (by kernel_rfl) (fun _ _ _ h => h) (Or.inl ⟨by rfl, ?_⟩) (by assumption) ?_
                  rotate_left
                  · (intro w' hSw; (try dsimp only at hSw); go_simp; all_goals with_reducible rfl)
                  repeat (first | simp only [Act.put] | simp only [List.setIfInBounds_toArray] | simp only [List.set_cons_succ] | simp only [List.set_cons_zero])
                  refine wpAnyH_takeL (i := 6) (v := ?_) rfl (by kernel_rfl) (by kernel_rfl) (by kernel_rfl) (fun _ _ _ h => h) (Or.inl ⟨by rfl, ?_⟩) (by assumption) ?_
                  rotate_left
                  · (intro w' hSw; (try dsimp only at hSw); go_simp; all_goals with_reducible rfl)
                  repeat (first | simp only [Act.put] | simp only [List.setIfInBounds_toArray] | simp only [List.set_cons_succ] | simp only [List.set_cons_zero])
                  refine wpAnyH_ready (rs := [7]) (by kernel_rfl) (by simp) ?_
                  refine consL (i := 7) rfl (fun K hK => ?_) AllReadyH.nil
                  go_simp
                  have cS : Chg w.heap.size (w.heap.size + 1) wu (((wu.drew).setCell ⟨w.heap.size, 0, none⟩ (.slice (some ⟨g1, 0, none⟩) k c1)).setCell ⟨w.heap.size, 1, none⟩ (.slice (some ⟨g9, 0, none⟩) m9 c9)) := (Chg.of_le ((Le.refl wu).drew)).trans ((Chg.set (Nat.le_refl _) (Nat.lt_succ_self _) 0 _).trans (Chg.set (Nat.le_refl _) (Nat.lt_succ_self _) 1 _))
                  have CS := Lib.hid cS
                  have kb := (cS.block b HX.out.blk.lt (.inr hwb)).trans HX.out.blk
                  have k0' := Blk.cell kb 0
                  have k1' := Blk.cell kb 1
                  simp only [List.getElem?_toArray, List.getElem?_cons_zero, List.getElem?_cons_succ] at k0' k1'
                  clear cS kb
                  refine hK.out _ _ ⟨k0', k1'⟩ (fun _ => ?_)
                  clear hK K
                  repeat (first | simp only [Act.put] | simp only [List.setIfInBounds_toArray] | simp only [List.set_cons_succ] | simp only [List.set_cons_zero])
                  refine wpAnyH_done (by kernel_rfl) ?_ _
                  clear a0 a1 hS k0' k1'
                  have h4w := K4.out.lt
                  go_wp2
                  refine bodyPost_ret (v := .tuple #[.slice (some ⟨gv, 0, none⟩) k cap, .slice (some ⟨gx, 0, none⟩) k cx, .slice (some ⟨gy, 0, none⟩) k cy, .agg #[(.slice (some ⟨g1, 0, none⟩) k c1), (.slice (some ⟨g9, 0, none⟩) m9 c9)]]) (by simp [results, Tryd.results57, go_sem, r0, r1]) rfl ?_
                  refine ⟨gv, cap, k, ts, gx, cx, k, ws, gy, cy, k, ss, (.slice (some ⟨g1, 0, none⟩) k c1), (.slice (some ⟨g9, 0, none⟩) m9 c9), k, m9, R2, ((leftL ts ws ss R2) ++ [0]), ((pos + 1) + 1), rfl, (DC.out.chg CS.out (Nat.le_refl _)).base (by omega), (XC.out.chg CS.out (Nat.le_refl _)).base (by omega), (YC.out.chg CS.out (Nat.le_refl _)).base (by omega), own_mono (Chg.own2 HX.out.runs CS.out h4w) (by omega), own_mono (Chg.own2 HX.out.left CS.out h4w) (by omega), by omega, by omega, fun j hj => by have := RB21.out j hj; omega, ?_, by omega, ?_⟩
                  · exact ⟨(CS.out.block g HX.out.rd.blk.lt (.inl hgw)).trans HX.out.rd.blk, CS.out.le HX.out.rd.le (by have := HX.out.rd.base; omega), HX.out.rd.base, HX.out.rd.bytes, HX.out.rd.small⟩
                  · exact (C4.out.trans HX.out.chg).over CS.out (Nat.le_refl _)
end Go.Proofs.YtoahjfofnaafaaaDoor
