/- WDrawL WDrawW, in one text. -/
import Derived.Test.YtmemenkioejdoaaDoorWPick
import Derived.Test.YtmemenkioejdoaaDoorWPLot
import Derived.Test.YtmemenkioejdoaaDoorWApp
import Derived.Test.YtmemenkioejdoaaDoorWUpP
import Derived.Deep.RegionHeld3
import Derived.Deep.AppendLies
import Derived.Deep.RegionWith
import Derived.Deep.CutRange
namespace Go.Proofs.YtmemenkioejdoaaDoor
open Go.RowKit


theorem Chg.own2 {lo hi : Nat} {w w' : World} {base : Nat} {e : TypeId} {size : Nat} {v : Value} {n : Nat} {xs : List Value} (h : w.ownsRow base e size v n xs) (hc : Chg lo hi w w') (hb : hi ≤ base) : w'.ownsRow base e size v n xs :=
  Chg.own h hc fun g hg => .inr (Nat.le_trans hb (h.lt g hg).1)
/-- an append at a step of a region that draws its order: whatever the room -/
theorem step_append_own {P : Program} {w : World} {ops : Array Oper} {o : Oper} {a : Act} {K : Act → World → Prop} {Q : Exit → Act → World → Prop} {E : Prop} (hgd : o.guard = none) (d : Option Tmp) (hd : o.dst = d) (s x : Operand) (t : TypeId)
    (ho : o.op = .call { callee := .builtin .append, args := #[s, x], argTypes := #[t, t] })
    (base : Nat) (e : TypeId) (i : TypeInfo) (z : Value) (size bytes : Nat) (ht : P.underlying t = some (.slice e)) (hi : P.info? e = some i) (hz : i.zero = some z)
    (hsize : i.size = size) (hby : i.bytes = bytes) (hzs : z.cells.size = size) (hsz : 0 < size)
    (v : Value) (n : Nat) (xs : List Value) (hs : a.eval s = v) (hown : w.ownsRow base e size v n xs)
    (ad : Addr) (m c : Nat) (news : List Value) (hx : a.eval x = .slice (some ad) m c) (hl : news.length = m * size) (hnews : ∀ j u, news[j]? = some u → w.cell? (ad.add j) = some u) (h1 : ∀ u ∈ news, u.oneCell' = true)
    (h63 : n + m ≤ maxLen) (hbytes : (n + m) * bytes ≤ 140737488355328) (hbase : base ≤ w.heap.size)
    (h : ∀ v' w', w'.ownsRow base e size v' (n + m) (xs ++ news) → w.grownBy w' v.ownBlock → (v' = .slice none 0 0 ↔ v = .slice none 0 0 ∧ m = 0) → K (a.put d v') w') :
    if Region.wanted o (yielded ops a.tmps) = true then Oper.wp P o a w K Q else E := by
  have hw : Region.wanted o (yielded ops a.tmps) = true := by simp [Region.wanted, hgd]
  rw [if_pos hw]
  subst hd
  exact wp_append_own w s x t ho base e i z size bytes ht hi hz hsize hby hzs hsz v n xs hs hown ad m c news hx hl hnews h1 h63 hbytes hbase h
theorem addrK (g o k : Nat) : (⟨g, o, none⟩ : Addr).add k = ⟨g, o + k, none⟩ := by unfold Addr.add; split <;> simp_all
theorem own_one2 (w : World) (base : Nat) (h : base ≤ w.heap.size) (t : TypeId) (a b : Int) : (w.alloc (.cells #[.int .i64 a, .int .i64 b] t)).ownsRow base t 2 (.slice (some ⟨w.heap.size, 0, none⟩) 1 1) 1 [.int .i64 a, .int .i64 b] := by
  have := Blk.own (size := 2) (n := 1) (cap := 1) (Blk.new w t #[.int .i64 a, .int .i64 b]) h (Nat.le_refl _) (by unfold maxLen; omega) rfl
  simpa using this
theorem pairs_cons (q : Int × Int) (ps : List (Int × Int)) : pairs (q :: ps) = [.int .i64 q.1, .int .i64 q.2] ++ pairs ps := by
  apply List.ext_getElem?
  intro j
  rcases Nat.lt_or_ge j ((q :: ps).length * 2) with h | h
  · rw [pairs_getElem? h]
    match j, h with
    | 0, _ => rfl
    | 1, _ => rfl
    | j + 2, h =>
      have h' : j < ps.length * 2 := by simp at h; omega
      show some (cellP (q :: ps) (j + 2)) = (pairs ps)[j]?
      rw [pairs_getElem? h']
      unfold cellP
      rw [show (j + 2) % 2 = j % 2 by omega, show (j + 2) / 2 = j / 2 + 1 by omega]
      rfl
  · rw [List.getElem?_eq_none (by rw [pairs_length]; exact h), List.getElem?_eq_none (by rw [List.length_append, pairs_length]; simp at h ⊢; omega)]
theorem pairs_one (ps : List (Int × Int)) : ∀ u ∈ pairs ps, u.oneCell' = true := by
  intro u hu
  obtain ⟨j, hj⟩ := List.mem_iff_getElem?.1 hu
  have hl := (List.getElem?_eq_some_iff.1 hj).1
  rw [pairs_length] at hl
  rw [pairs_getElem? hl] at hj
  injection hj with hj
  subst hj
  unfold cellP
  split <;> rfl
theorem pairs_drop (ps : List (Int × Int)) (k : Nat) : pairs (ps.drop k) = (pairs ps).drop (k * 2) := by
  apply List.ext_getElem?
  intro j
  rw [List.getElem?_drop]
  rcases Nat.lt_or_ge j ((ps.length - k) * 2) with h | h
  · rw [pairs_getElem? (by rw [List.length_drop]; exact h), pairs_getElem? (by omega)]
    unfold cellP
    have e : gp (ps.drop k) (j / 2) = gp ps ((k * 2 + j) / 2) := by
      unfold gp
      rw [List.getD_eq_getElem?_getD, List.getD_eq_getElem?_getD, List.getElem?_drop, show (k * 2 + j) / 2 = k + j / 2 by omega]
    rw [e, show (k * 2 + j) % 2 = j % 2 by omega]
  · rw [List.getElem?_eq_none (by rw [pairs_length, List.length_drop]; omega), List.getElem?_eq_none (by rw [pairs_length]; omega)]
theorem Chg.row {lo hi : Nat} {w w1 w2 : World} {row : Option Nat} (h : Chg lo hi w w1) (hg : w1.grownBy w2 row) (hr : ∀ k, row = some k → w.heap.size ≤ k) : Chg lo hi w w2 :=
  ⟨hg.os.trans h.os, hg.tape.trans h.tape, hg.output.trans h.output, Nat.le_trans h.size hg.size, fun k hk h2 => (hg.block k (Nat.lt_of_lt_of_le hk h.size) (fun e => by have := hr k e.symm; omega)).trans (h.block k hk h2)⟩
theorem Chg.more {lo hi : Nat} {w w1 w2 : World} (h : Chg lo hi w w1) (hl : Le w1 w2) : Chg lo hi w w2 := h.trans (Chg.of_le hl)
/-- some short list of pairs, of the call's own; only the reader's position has turned -/
def DrP (W w : World) (g : Nat) (A : Option Addr) (n c p : Nat) (t : TypeId) (m q : Nat) (e : Ending) (w' : World) : Prop :=
  ∃ (gv cap : Nat) (ps : List (Int × Int)) (p' : Nat), e = .returned (.slice (some ⟨gv, 0, none⟩) ps.length cap) ∧ w'.ownsRow w.heap.size t 2 (.slice (some ⟨gv, 0, none⟩) ps.length cap) ps.length (pairs ps) ∧ ps.length ≤ m ∧ Rd W w' g A n c p' ∧ p' ≤ p + q ∧ Chg g (g + 1) w w'

set_option maxRecDepth 20000 in
set_option maxHeartbeats 4000000 in
theorem l20Lots_any (W w : World) (g : Nat) (A : Option Addr) (n c p N : Nat) (h : Rd W w g A n c p) (hp : p ≤ 900000) (h1 : 1 ≤ N) (h2 : N ≤ 1000) :
    Calls Tryd.prog 14 #[.pointer (some ⟨g, 0, none⟩), .int .i64 (N : Int)] w (DrP W w g A n c p 44 6 100) := by
  obtain ⟨i0, hi0, hz0, hz1, hz2⟩ := info_parts infoLot
  have hgw := h.lt
  have HR0 := Lib.hid (h.more ((Le.refl w).alloc (.cells #[] 44)))
  have hO0 := own_empty w 44 2
  have HO0 := Lib.hid hO0
  have HC0 := Lib.hid (Chg.of_le (lo := g) (hi := g + 1) ((Le.refl w).alloc (.cells #[] 44)))
  clear h hO0
  obtain ⟨w0, hw0⟩ : ∃ w0, w.alloc (.cells #[] 44) = w0 := ⟨_, rfl⟩
  rw [hw0] at HR0 HO0 HC0
  go_enter Tryd.func14, Tryd.ntmps14
  go_wp2_with fail
  refine (pick_any _ _ _ _ _ _ _ 6 HR0.out (by omega) (by omega) (by omega)).mono ?_; rintro e w1 ⟨x, rfl, hx, r1, g1⟩
  have HR1 := Lib.hid r1
  have HO1 := Lib.hid (Chg.own2 HO0.out g1 hgw)
  have HC1 := Lib.hid (HC0.out.trans g1)
  clear r1 g1
  go_wp2
  go_loopw [5, 6] (fun v i wr => ∃ (k m p' : Nat) (ps : List (Int × Int)), k + m ≤ 5 ∧ i = .int .i64 (k : Int) ∧ ps.length = m ∧ v ≠ .slice none 0 0 ∧ wr.ownsRow w.heap.size 44 2 v m (pairs ps) ∧ Rd W wr g A n c p' ∧ p' + 2 * k ≤ p + 11 ∧ Chg g (g + 1) w wr) (fun _ i _ => (intOf i).toNat)
  case atStart => exact ⟨x, 0, p + 1, [], by omega, rfl, rfl, (fun e => by cases e), HO1.out, HR1.out, by omega, HC1.out⟩
  case round =>
    obtain ⟨k, m, p', ps, hkm, rfl, hpl, hnn, hown, hrd, hpp, hch⟩ := hrel
    by_cases hk : 0 < k
    · have HO := Lib.hid hown
      have HCH := Lib.hid hch
      have hk2 : decide ((0 : Int) < (k : Int)) = true := by simp; omega
      have HPL := Lib.hid hpl
      clear hown hch hpl hnn
      go_wp2_with fail
      refine (pick_any _ _ _ _ _ _ _ 10 hrd (by omega) (by omega) (by omega)).mono ?_; rintro e w2 ⟨y, rfl, hy, r2, g2⟩
      go_wp2_with fail
      refine (pick_any _ _ _ _ _ _ _ 6 r2 (by omega) (by omega) (by omega)).mono ?_; rintro e w3 ⟨z, rfl, hz, r3, g3⟩
      have hO3 := Chg.own2 (Chg.own2 HO.out g2 hgw) g3 hgw
      have hC3 := (HCH.out.trans g2).trans g3
      have hs3 := hC3.size
      clear r2 g2 g3 hrd
      have HR3 := Lib.hid r3
      have HC3 := Lib.hid hC3
      clear r3 hC3
      go_wp2_with (at_builtin; refine wpList_append_own _ rfl _ _ 30 rfl w.heap.size 44 i0 _ 2 16 Tryd.underlying30 hi0 hz0 hz1 hz2 rfl (by decide) _ m (pairs ps) rfl (hO3.alloc _) ⟨w3.heap.size, 0, none⟩ 1 1 [.int .i64 (y : Int), .int .i64 (z : Int)] rfl rfl ?c1 ?c2 ?c3 ?c4 ?c5 ?_)
      case c1 => exact cell_two' w3 _ rfl _ _ _
      case c2 => intro u hu; simp at hu; rcases hu with rfl | rfl <;> rfl
      case c3 => unfold maxLen; omega
      case c4 => omega
      case c5 => simp; omega
      intro v' w4 hown' hgrow hnil
      have hnn' : v' ≠ .slice none 0 0 := hnil
      have HNN := Lib.hid hnn'
      have hR4 := (HR3.out.more ((Le.refl w3).alloc (.cells #[.int .i64 (y : Int), .int .i64 (z : Int)] 44))).grown hgrow (fun q hq => by have := (hO3.lt q hq).1; omega)
      have hC4 := (HC3.out.more ((Le.refl w3).alloc (.cells #[.int .i64 (y : Int), .int .i64 (z : Int)] 44))).row hgrow (fun q hq => (hO3.lt q hq).1)
      have HO4 := Lib.hid hown'
      have HR4 := Lib.hid hR4
      have HC4 := Lib.hid hC4
      clear hown' hgrow hR4 hC4 hO3 hnil hnn'
      go_wp2
      go_roundw
      case rel =>
        refine ⟨k - 1, m + 1, p' + 1 + 1, ps ++ [((y : Int), (z : Int))], by omega, by congr 1; omega, by rw [List.length_append, HPL.out]; rfl, HNN.out, ?_, HR4.out, by omega, HC4.out⟩
        rw [pairs_snoc]
        exact HO4.out
      case measure => simp [intOf]; omega
    · obtain rfl : k = 0 := by omega
      obtain ⟨gv, cap, rfl, hgv, hcap⟩ : ∃ gv cap, u5 = .slice (some ⟨gv, 0, none⟩) m cap ∧ w.heap.size ≤ gv ∧ m ≤ cap := by
        rcases hown.2 with ⟨e, _⟩ | ⟨g', cap, cur, e, h1, _, h2, _⟩
        · exact absurd e hnn
        · exact ⟨g', cap, e, h1, h2⟩
      clear hnn
      have HO := Lib.hid hown
      have HC := Lib.hid hch
      have HPL := Lib.hid hpl
      clear hown hch hpl
      go_wp2_with fail
      refine (odd_any _ _ _ _ _ _ _ N hrd (by omega) h1 (by omega)).mono ?_; rintro e w2 ⟨t, rfl, r2, g2⟩
      cases t
      · go_wp2
        go_ret
        exact ⟨gv, cap, ps, p' + 1, by rw [HPL.out]; rfl, by rw [HPL.out]; exact Chg.own2 HO.out g2 hgw, by rw [HPL.out]; omega, r2, by omega, HC.out.trans g2⟩
      · have HO2 := Lib.hid (Chg.own2 HO.out g2 hgw)
        have HC2 := Lib.hid (HC.out.trans g2)
        clear g2 hrd
        have hmk := run_mk (P := Tryd.prog) 30 44 (.agg #[.int .i64 0, .int .i64 0]) 2 16 Tryd.underlying30 infoLot 6 (by omega) (by omega)
        have HMK := Lib.hid hmk
        clear hmk
        go_wp2_with fail
        refine (pick_any _ _ _ _ _ _ _ 3 r2 (by omega) (by omega) (by omega)).mono ?_; rintro e w3 ⟨y, rfl, hy, r3, g3⟩
        have HO3 := Lib.hid (Chg.own2 HO2.out g3 hgw)
        have HC3 := Lib.hid (HC2.out.trans g3)
        have HR3 := Lib.hid r3
        have hs3 := HC3.out.size
        clear g3 r2 r3
        rcases (show y = 0 ∨ y = 1 ∨ y = 2 by omega) with rfl | rfl | rfl
        · have hmk := HMK.out w3
          rw [show ((6 : Nat) : Int) = 6 from rfl] at hmk
          go_wp2
          go_ret
          refine ⟨_, _, List.replicate 6 (0, 0), p' + 1 + 1, rfl, ?_, by simp, HR3.out.more ((Le.refl _).alloc _), by omega, HC3.out.more ((Le.refl _).alloc _)⟩
          have e : madeCells #[Value.int .i64 0, Value.int .i64 0] 12 = (pairs (List.replicate 6 (0, 0))).toArray := by kernel_rfl
          rw [e]
          exact Blk.ownP (n := 6) (Blk.new _ _ _) (by omega) rfl (by omega)
        · have HMB := Lib.hid HMK
          clear HMK
          obtain ⟨mn, hmn, hmnm⟩ : ∃ mn : Nat, (if (m : Int) < 1 then (m : Int) else 1) = (mn : Int) ∧ mn ≤ m := by
            by_cases e : (m : Int) < 1
            · exact ⟨m, by rw [if_pos e], Nat.le_refl _⟩
            · exact ⟨1, by rw [if_neg e]; rfl, by omega⟩
          have hmn0 : (0 : Int) ≤ (mn : Int) := by omega
          have hmn1 : (mn : Int) ≤ (m : Int) := by omega
          obtain ⟨ad2, had2⟩ : ∃ ad2 : Addr, (if cap = mn then some (⟨gv, 0, none⟩ : Addr) else some ⟨gv, mn * 2, none⟩) = some ad2 := by split <;> exact ⟨_, rfl⟩
          have hnews : ∀ w' : World, w'.ownsRow w.heap.size 44 2 (.slice (some ⟨gv, 0, none⟩) m cap) m (pairs ps) → ∀ j u, (pairs (ps.drop mn))[j]? = some u → w'.cell? (ad2.add j) = some u := by
            intro w' ho j u hj
            rw [pairs_drop, List.getElem?_drop] at hj
            have hc := ho.cells (g := gv) rfl _ u hj
            have hjl := (List.getElem?_eq_some_iff.1 hj).1
            rw [pairs_length, HPL.out] at hjl
            by_cases e : cap = mn
            · omega
            · rw [if_neg e] at had2
              injection had2 with had2
              subst had2
              rw [addr0] at hc
              rw [addrK]
              exact hc
          have hnl : (pairs (ps.drop mn)).length = (m - mn) * 2 := by rw [pairs_length, List.length_drop, HPL.out]
          have hn1 : ∀ u ∈ pairs (ps.drop mn), u.oneCell' = true := pairs_one _
          have NC := Lib.hid hnews
          have NL := Lib.hid hnl
          have N1 := Lib.hid hn1
          clear hnews hnl hn1
          go_wp2
          refine wp_region_held_drew (S := fun _ => True) (by kernel_rfl) trivial (fun _ => ?_)
          refine wpAnyH_take (i := 1) (v := ?_) rfl (by kernel_rfl) (by kernel_rfl) (by kernel_rfl) (fun _ _ _ h => h) (Or.inl ⟨by rfl, ?_⟩) (by assumption) ?_
          rotate_left
          · (intro w' hSw; (try dsimp only at hSw); go_simp; all_goals with_reducible rfl)
          repeat (first | simp only [Act.put] | simp only [List.setIfInBounds_toArray] | simp only [List.set_cons_succ] | simp only [List.set_cons_zero])
          refine wpAnyH_take (i := 7) (v := ?_) rfl (by kernel_rfl) (by kernel_rfl) (by kernel_rfl) (fun _ _ _ h => h) (Or.inl ⟨by rfl, ?_⟩) (by assumption) ?_
          rotate_left
          · (intro w' hSw; (try dsimp only at hSw); go_simp; all_goals with_reducible rfl)
          repeat (first | simp only [Act.put] | simp only [List.setIfInBounds_toArray] | simp only [List.set_cons_succ] | simp only [List.set_cons_zero])
          refine wpAnyH_take (i := 8) (v := ?_) rfl (by kernel_rfl) (by kernel_rfl) (by kernel_rfl) (fun _ _ _ h => h) (Or.inl ⟨by rfl, ?_⟩) (by assumption) ?_
          rotate_left
          · (intro w' hSw; (try dsimp only at hSw); go_simp; all_goals with_reducible rfl)
          repeat (first | simp only [Act.put] | simp only [List.setIfInBounds_toArray] | simp only [List.set_cons_succ] | simp only [List.set_cons_zero])
          refine wpAnyH_take (i := 9) (v := ?_) rfl (by kernel_rfl) (by kernel_rfl) (by kernel_rfl) (fun _ _ _ h => h) (Or.inl ⟨by rfl, ?_⟩) (by assumption) ?_
          rotate_left
          · (intro w' hSw; (try dsimp only at hSw); go_simp; all_goals with_reducible rfl)
          repeat (first | simp only [Act.put] | simp only [List.setIfInBounds_toArray] | simp only [List.set_cons_succ] | simp only [List.set_cons_zero])
          refine wpAnyH_take (i := 10) (v := ?_) rfl (by kernel_rfl) (by kernel_rfl) (by kernel_rfl) (fun _ _ _ h => h) (Or.inl ⟨by rfl, ?_⟩) (by assumption) ?_
          rotate_left
          · (intro w' hSw; (try dsimp only at hSw); go_simp; all_goals with_reducible rfl)
          repeat (first | simp only [Act.put] | simp only [List.setIfInBounds_toArray] | simp only [List.set_cons_succ] | simp only [List.set_cons_zero])
          refine wpAnyH_take (i := 11) (v := ?_) rfl (by kernel_rfl) (by kernel_rfl) (by kernel_rfl) (fun _ _ _ h => h) (Or.inl ⟨by rfl, ?_⟩) (by assumption) ?_
          rotate_left
          · (intro w' hSw; (try dsimp only at hSw); go_simp; all_goals with_reducible rfl)
          repeat (first | simp only [Act.put] | simp only [List.setIfInBounds_toArray] | simp only [List.set_cons_succ] | simp only [List.set_cons_zero])
          clear had2
          refine wpAnyH_ready (rs := [0, 2]) (by kernel_rfl) (by simp) ?_
          refine AllReadyH.cons (i := 0) rfl (fun K hK => ?_) ?_
          · go_simp
            refine hK.out _ _ trivial (fun _ => ?_)
            clear hK K
            repeat (first | simp only [Act.put] | simp only [List.setIfInBounds_toArray] | simp only [List.set_cons_succ] | simp only [List.set_cons_zero])
            refine wpAnyH_ready (rs := [2]) (by kernel_rfl) (by simp) ?_
            refine AllReadyH.cons (i := 2) rfl (fun K hK => ?_) AllReadyH.nil
            go_simp
            refine (pick_any _ _ _ _ _ _ _ 2 (HR3.out.more (((Le.refl w3).alloc _).drew)) (by omega) (by omega) (by omega)).mono ?_; rintro e w4 ⟨x, rfl, hx, hrY, g4⟩
            (try go_wp2_with fail)
            refine hK.out _ _ trivial (fun _ => ?_)
            clear hK K
            repeat (first | simp only [Act.put] | simp only [List.setIfInBounds_toArray] | simp only [List.set_cons_succ] | simp only [List.set_cons_zero])
            have hoY := Chg.own2 ((HO3.out.alloc (.cells #[.int .i64 (-1), .int .i64 10] 3)).drew) g4 hgw
            have hcY := (HC3.out.more (((Le.refl w3).alloc (.cells #[.int .i64 (-1), .int .i64 10] 3)).drew)).trans g4
            have hbY : Blk w4 w3.heap.size 3 #[.int .i64 (-1), .int .i64 10] := (g4.block _ (by simp) (.inr (by have := HR3.out.lt; omega))).trans (Blk.new w3 3 #[.int .i64 (-1), .int .i64 10])
            obtain ⟨z, hz⟩ : ∃ z : Int, (#[Value.int .i64 (-1), .int .i64 10] : Array Value)[x]? = some (.int .i64 z) := by
              match x, hx with
              | 0, _ => exact ⟨_, rfl⟩
              | 1, _ => exact ⟨_, rfl⟩
            have b0 := (hbY.cell x).trans hz
            clear g4 hbY
            have HOY := Lib.hid hoY
            have HCY := Lib.hid hcY
            have HRY := Lib.hid hrY
            clear hoY hcY hrY hz
            have hx1 : (0 : Int) ≤ (x : Int) := by omega
            have hx2 : (x : Int) < 2 := by omega
            refine wpAnyH_take (i := 3) (v := ?_) rfl (by kernel_rfl) (by kernel_rfl) (by kernel_rfl) (fun _ _ _ h => h) (Or.inl ⟨by rfl, ?_⟩) (by assumption) ?_
            rotate_left
            · (intro w' hSw; (try dsimp only at hSw); go_simp; all_goals with_reducible rfl)
            repeat (first | simp only [Act.put] | simp only [List.setIfInBounds_toArray] | simp only [List.set_cons_succ] | simp only [List.set_cons_zero])
            refine wpAnyH_ready (rs := [4]) (by kernel_rfl) (by simp) ?_
            refine AllReadyH.cons (i := 4) rfl (fun K hK => ?_) AllReadyH.nil
            go_simp
            refine hK.out _ _ trivial (fun _ => ?_)
            clear hK K
            repeat (first | simp only [Act.put] | simp only [List.setIfInBounds_toArray] | simp only [List.set_cons_succ] | simp only [List.set_cons_zero])
            refine wpAnyH_take (i := 5) (v := ?_) rfl (by kernel_rfl) (by kernel_rfl) (by kernel_rfl) (fun _ _ _ h => h) (Or.inl ⟨by rfl, ?_⟩) (by assumption) ?_
            rotate_left
            · (intro w' hSw; (try dsimp only at hSw); go_simp; all_goals with_reducible rfl)
            repeat (first | simp only [Act.put] | simp only [List.setIfInBounds_toArray] | simp only [List.set_cons_succ] | simp only [List.set_cons_zero])
            refine wpAnyH_ready (rs := [6]) (by kernel_rfl) (by simp) ?_
            refine AllReadyH.cons (i := 6) rfl (fun K hK => ?_) AllReadyH.nil
            go_simp
            refine hK.out _ _ trivial (fun _ => ?_)
            clear hK K
            repeat (first | simp only [Act.put] | simp only [List.setIfInBounds_toArray] | simp only [List.set_cons_succ] | simp only [List.set_cons_zero])
            refine wpAnyH_ready (rs := [12]) (by kernel_rfl) (by simp) ?_
            refine AllReadyH.cons (i := 12) rfl (fun K hK => ?_) AllReadyH.nil
            have hsY := HCY.out.size
            refine step_append_own (by rfl) (some 57) (by rfl) _ _ 30 (by rfl) w.heap.size 44 i0 _ 2 16 Tryd.underlying30 hi0 hz0 hz1 hz2 rfl (by decide) (.slice (some ⟨w4.heap.size, 0, none⟩) 1 1) 1 [.int .i64 z, .int .i64 0] (by rfl) (own_one2 w4 _ (by omega) _ _ _) ad2 (m - mn) (cap - mn) (pairs (ps.drop mn)) (by rfl) NL.out (NC.out _ (HOY.out.alloc _)) N1.out (by unfold maxLen; omega) (by omega) (by simp; omega) ?_
            intro v' w5 hown' hgrow _
            refine hK.out _ _ trivial (fun _ => ?_)
            clear hK K
            repeat (first | simp only [Act.put] | simp only [List.setIfInBounds_toArray] | simp only [List.set_cons_succ] | simp only [List.set_cons_zero])
            refine wpAnyH_ready (rs := [13]) (by kernel_rfl) (by simp) ?_
            refine AllReadyH.cons (i := 13) rfl (fun K hK => ?_) AllReadyH.nil
            go_simp
            refine hK.out _ _ trivial (fun _ => ?_)
            clear hK K
            repeat (first | simp only [Act.put] | simp only [List.setIfInBounds_toArray] | simp only [List.set_cons_succ] | simp only [List.set_cons_zero])
            refine wpAnyH_done (by kernel_rfl) ?_ _
            have HW5 := Lib.hid hown'
            have HG5 := Lib.hid hgrow
            clear hown' hgrow
            go_wp2
            go_ret
            obtain ⟨g5, c5, rfl⟩ : ∃ g5 c5, v' = .slice (some ⟨g5, 0, none⟩) (1 + (m - mn)) c5 := by
              rcases HW5.out.2 with ⟨_, e⟩ | ⟨g', cap', cur, e, _⟩
              · omega
              · exact ⟨g', cap', e⟩
            have e : ((z, 0) :: ps.drop mn).length = 1 + (m - mn) := by rw [List.length_cons, List.length_drop, HPL.out]; omega
            refine ⟨g5, c5, (z, 0) :: ps.drop mn, p' + 1 + 1 + 1, by rw [e]; rfl, ?_, ?_, (HRY.out.more ((Le.refl w4).alloc _)).grown HG5.out (fun q hq => by simp [Value.ownBlock] at hq; have := HR3.out.lt; omega), by omega, (HCY.out.more ((Le.refl w4).alloc _)).row HG5.out (fun q hq => by simp [Value.ownBlock] at hq; omega)⟩
            · rw [e, pairs_cons]
              exact HW5.out
            · rw [e]; omega
          · refine AllReadyH.cons (i := 2) rfl (fun K hK => ?_) AllReadyH.nil
            go_simp
            refine (pick_any _ _ _ _ _ _ _ 2 (HR3.out.more ((Le.refl w3).drew)) (by omega) (by omega) (by omega)).mono ?_; rintro e w4 ⟨x, rfl, hx, hr4, g4⟩
            (try go_wp2_with fail)
            refine hK.out _ _ trivial (fun _ => ?_)
            clear hK K
            repeat (first | simp only [Act.put] | simp only [List.setIfInBounds_toArray] | simp only [List.set_cons_succ] | simp only [List.set_cons_zero])
            refine wpAnyH_ready (rs := [0]) (by kernel_rfl) (by simp) ?_
            refine AllReadyH.cons (i := 0) rfl (fun K hK => ?_) AllReadyH.nil
            go_simp
            refine hK.out _ _ trivial (fun _ => ?_)
            clear hK K
            repeat (first | simp only [Act.put] | simp only [List.setIfInBounds_toArray] | simp only [List.set_cons_succ] | simp only [List.set_cons_zero])
            have hoY := (Chg.own2 HO3.out.drew g4 hgw).alloc (.cells #[.int .i64 (-1), .int .i64 10] 3)
            have hcY := ((HC3.out.more ((Le.refl w3).drew)).trans g4).more ((Le.refl w4).alloc (.cells #[.int .i64 (-1), .int .i64 10] 3))
            have hrY := hr4.more ((Le.refl w4).alloc (.cells #[.int .i64 (-1), .int .i64 10] 3))
            have hbY := Blk.new w4 3 #[.int .i64 (-1), .int .i64 10]
            obtain ⟨wY, hwY⟩ : ∃ wY, w4.alloc (.cells #[.int .i64 (-1), .int .i64 10] 3) = wY := ⟨_, rfl⟩
            rw [hwY] at hoY hcY hrY hbY
            rw [hwY]
            obtain ⟨z, hz⟩ : ∃ z : Int, (#[Value.int .i64 (-1), .int .i64 10] : Array Value)[x]? = some (.int .i64 z) := by
              match x, hx with
              | 0, _ => exact ⟨_, rfl⟩
              | 1, _ => exact ⟨_, rfl⟩
            have b0 := (hbY.cell x).trans hz
            clear g4 hbY hr4 hwY
            have HOY := Lib.hid hoY
            have HCY := Lib.hid hcY
            have HRY := Lib.hid hrY
            clear hoY hcY hrY hz
            have hx1 : (0 : Int) ≤ (x : Int) := by omega
            have hx2 : (x : Int) < 2 := by omega
            refine wpAnyH_take (i := 3) (v := ?_) rfl (by kernel_rfl) (by kernel_rfl) (by kernel_rfl) (fun _ _ _ h => h) (Or.inl ⟨by rfl, ?_⟩) (by assumption) ?_
            rotate_left
            · (intro w' hSw; (try dsimp only at hSw); go_simp; all_goals with_reducible rfl)
            repeat (first | simp only [Act.put] | simp only [List.setIfInBounds_toArray] | simp only [List.set_cons_succ] | simp only [List.set_cons_zero])
            refine wpAnyH_ready (rs := [4]) (by kernel_rfl) (by simp) ?_
            refine AllReadyH.cons (i := 4) rfl (fun K hK => ?_) AllReadyH.nil
            go_simp
            refine hK.out _ _ trivial (fun _ => ?_)
            clear hK K
            repeat (first | simp only [Act.put] | simp only [List.setIfInBounds_toArray] | simp only [List.set_cons_succ] | simp only [List.set_cons_zero])
            refine wpAnyH_take (i := 5) (v := ?_) rfl (by kernel_rfl) (by kernel_rfl) (by kernel_rfl) (fun _ _ _ h => h) (Or.inl ⟨by rfl, ?_⟩) (by assumption) ?_
            rotate_left
            · (intro w' hSw; (try dsimp only at hSw); go_simp; all_goals with_reducible rfl)
            repeat (first | simp only [Act.put] | simp only [List.setIfInBounds_toArray] | simp only [List.set_cons_succ] | simp only [List.set_cons_zero])
            refine wpAnyH_ready (rs := [6]) (by kernel_rfl) (by simp) ?_
            refine AllReadyH.cons (i := 6) rfl (fun K hK => ?_) AllReadyH.nil
            go_simp
            refine hK.out _ _ trivial (fun _ => ?_)
            clear hK K
            repeat (first | simp only [Act.put] | simp only [List.setIfInBounds_toArray] | simp only [List.set_cons_succ] | simp only [List.set_cons_zero])
            refine wpAnyH_ready (rs := [12]) (by kernel_rfl) (by simp) ?_
            refine AllReadyH.cons (i := 12) rfl (fun K hK => ?_) AllReadyH.nil
            have hsY := HCY.out.size
            refine step_append_own (by rfl) (some 57) (by rfl) _ _ 30 (by rfl) w.heap.size 44 i0 _ 2 16 Tryd.underlying30 hi0 hz0 hz1 hz2 rfl (by decide) (.slice (some ⟨wY.heap.size, 0, none⟩) 1 1) 1 [.int .i64 z, .int .i64 0] (by rfl) (own_one2 wY _ (by omega) _ _ _) ad2 (m - mn) (cap - mn) (pairs (ps.drop mn)) (by rfl) NL.out (NC.out _ (HOY.out.alloc _)) N1.out (by unfold maxLen; omega) (by omega) (by simp; omega) ?_
            intro v' w5 hown' hgrow _
            refine hK.out _ _ trivial (fun _ => ?_)
            clear hK K
            repeat (first | simp only [Act.put] | simp only [List.setIfInBounds_toArray] | simp only [List.set_cons_succ] | simp only [List.set_cons_zero])
            refine wpAnyH_ready (rs := [13]) (by kernel_rfl) (by simp) ?_
            refine AllReadyH.cons (i := 13) rfl (fun K hK => ?_) AllReadyH.nil
            go_simp
            refine hK.out _ _ trivial (fun _ => ?_)
            clear hK K
            repeat (first | simp only [Act.put] | simp only [List.setIfInBounds_toArray] | simp only [List.set_cons_succ] | simp only [List.set_cons_zero])
            refine wpAnyH_done (by kernel_rfl) ?_ _
            have HW5 := Lib.hid hown'
            have HG5 := Lib.hid hgrow
            clear hown' hgrow
            go_wp2
            go_ret
            obtain ⟨g5, c5, rfl⟩ : ∃ g5 c5, v' = .slice (some ⟨g5, 0, none⟩) (1 + (m - mn)) c5 := by
              rcases HW5.out.2 with ⟨_, e⟩ | ⟨g', cap', cur, e, _⟩
              · omega
              · exact ⟨g', cap', e⟩
            have e : ((z, 0) :: ps.drop mn).length = 1 + (m - mn) := by rw [List.length_cons, List.length_drop, HPL.out]; omega
            refine ⟨g5, c5, (z, 0) :: ps.drop mn, p' + 1 + 1 + 1, by rw [e]; rfl, ?_, ?_, (HRY.out.more ((Le.refl wY).alloc _)).grown HG5.out (fun q hq => by simp [Value.ownBlock] at hq; have := HR3.out.lt; omega), by omega, (HCY.out.more ((Le.refl wY).alloc _)).row HG5.out (fun q hq => by simp [Value.ownBlock] at hq; omega)⟩
            · rw [e, pairs_cons]
              exact HW5.out
            · rw [e]; omega
        · have HMB := Lib.hid HMK
          clear HMK
          obtain ⟨mn, hmn, hmnm⟩ : ∃ mn : Nat, (if (m : Int) < 1 then (m : Int) else 1) = (mn : Int) ∧ mn ≤ m := by
            by_cases e : (m : Int) < 1
            · exact ⟨m, by rw [if_pos e], Nat.le_refl _⟩
            · exact ⟨1, by rw [if_neg e]; rfl, by omega⟩
          have hmn0 : (0 : Int) ≤ (mn : Int) := by omega
          have hmn1 : (mn : Int) ≤ (m : Int) := by omega
          obtain ⟨ad2, had2⟩ : ∃ ad2 : Addr, (if cap = mn then some (⟨gv, 0, none⟩ : Addr) else some ⟨gv, mn * 2, none⟩) = some ad2 := by split <;> exact ⟨_, rfl⟩
          have hnews : ∀ w' : World, w'.ownsRow w.heap.size 44 2 (.slice (some ⟨gv, 0, none⟩) m cap) m (pairs ps) → ∀ j u, (pairs (ps.drop mn))[j]? = some u → w'.cell? (ad2.add j) = some u := by
            intro w' ho j u hj
            rw [pairs_drop, List.getElem?_drop] at hj
            have hc := ho.cells (g := gv) rfl _ u hj
            have hjl := (List.getElem?_eq_some_iff.1 hj).1
            rw [pairs_length, HPL.out] at hjl
            by_cases e : cap = mn
            · omega
            · rw [if_neg e] at had2
              injection had2 with had2
              subst had2
              rw [addr0] at hc
              rw [addrK]
              exact hc
          have hnl : (pairs (ps.drop mn)).length = (m - mn) * 2 := by rw [pairs_length, List.length_drop, HPL.out]
          have hn1 : ∀ u ∈ pairs (ps.drop mn), u.oneCell' = true := pairs_one _
          have NC := Lib.hid hnews
          have NL := Lib.hid hnl
          have N1 := Lib.hid hn1
          clear hnews hnl hn1
          go_wp2
          refine wp_region_held_drew (S := fun _ => True) (by kernel_rfl) trivial (fun _ => ?_)
          refine wpAnyH_take (i := 1) (v := ?_) rfl (by kernel_rfl) (by kernel_rfl) (by kernel_rfl) (fun _ _ _ h => h) (Or.inl ⟨by rfl, ?_⟩) (by assumption) ?_
          rotate_left
          · (intro w' hSw; (try dsimp only at hSw); go_simp; all_goals with_reducible rfl)
          repeat (first | simp only [Act.put] | simp only [List.setIfInBounds_toArray] | simp only [List.set_cons_succ] | simp only [List.set_cons_zero])
          refine wpAnyH_take (i := 7) (v := ?_) rfl (by kernel_rfl) (by kernel_rfl) (by kernel_rfl) (fun _ _ _ h => h) (Or.inl ⟨by rfl, ?_⟩) (by assumption) ?_
          rotate_left
          · (intro w' hSw; (try dsimp only at hSw); go_simp; all_goals with_reducible rfl)
          repeat (first | simp only [Act.put] | simp only [List.setIfInBounds_toArray] | simp only [List.set_cons_succ] | simp only [List.set_cons_zero])
          refine wpAnyH_take (i := 8) (v := ?_) rfl (by kernel_rfl) (by kernel_rfl) (by kernel_rfl) (fun _ _ _ h => h) (Or.inl ⟨by rfl, ?_⟩) (by assumption) ?_
          rotate_left
          · (intro w' hSw; (try dsimp only at hSw); go_simp; all_goals with_reducible rfl)
          repeat (first | simp only [Act.put] | simp only [List.setIfInBounds_toArray] | simp only [List.set_cons_succ] | simp only [List.set_cons_zero])
          refine wpAnyH_take (i := 9) (v := ?_) rfl (by kernel_rfl) (by kernel_rfl) (by kernel_rfl) (fun _ _ _ h => h) (Or.inl ⟨by rfl, ?_⟩) (by assumption) ?_
          rotate_left
          · (intro w' hSw; (try dsimp only at hSw); go_simp; all_goals with_reducible rfl)
          repeat (first | simp only [Act.put] | simp only [List.setIfInBounds_toArray] | simp only [List.set_cons_succ] | simp only [List.set_cons_zero])
          refine wpAnyH_take (i := 10) (v := ?_) rfl (by kernel_rfl) (by kernel_rfl) (by kernel_rfl) (fun _ _ _ h => h) (Or.inl ⟨by rfl, ?_⟩) (by assumption) ?_
          rotate_left
          · (intro w' hSw; (try dsimp only at hSw); go_simp; all_goals with_reducible rfl)
          repeat (first | simp only [Act.put] | simp only [List.setIfInBounds_toArray] | simp only [List.set_cons_succ] | simp only [List.set_cons_zero])
          refine wpAnyH_take (i := 11) (v := ?_) rfl (by kernel_rfl) (by kernel_rfl) (by kernel_rfl) (fun _ _ _ h => h) (Or.inl ⟨by rfl, ?_⟩) (by assumption) ?_
          rotate_left
          · (intro w' hSw; (try dsimp only at hSw); go_simp; all_goals with_reducible rfl)
          repeat (first | simp only [Act.put] | simp only [List.setIfInBounds_toArray] | simp only [List.set_cons_succ] | simp only [List.set_cons_zero])
          clear had2
          refine wpAnyH_ready (rs := [0, 2]) (by kernel_rfl) (by simp) ?_
          refine AllReadyH.cons (i := 0) rfl (fun K hK => ?_) ?_
          · go_simp
            refine hK.out _ _ trivial (fun _ => ?_)
            clear hK K
            repeat (first | simp only [Act.put] | simp only [List.setIfInBounds_toArray] | simp only [List.set_cons_succ] | simp only [List.set_cons_zero])
            refine wpAnyH_ready (rs := [2]) (by kernel_rfl) (by simp) ?_
            refine AllReadyH.cons (i := 2) rfl (fun K hK => ?_) AllReadyH.nil
            go_simp
            refine (pick_any _ _ _ _ _ _ _ 2 (HR3.out.more (((Le.refl w3).alloc _).drew)) (by omega) (by omega) (by omega)).mono ?_; rintro e w4 ⟨x, rfl, hx, hrY, g4⟩
            (try go_wp2_with fail)
            refine hK.out _ _ trivial (fun _ => ?_)
            clear hK K
            repeat (first | simp only [Act.put] | simp only [List.setIfInBounds_toArray] | simp only [List.set_cons_succ] | simp only [List.set_cons_zero])
            have hoY := Chg.own2 ((HO3.out.alloc (.cells #[.int .i64 (-1), .int .i64 6] 3)).drew) g4 hgw
            have hcY := (HC3.out.more (((Le.refl w3).alloc (.cells #[.int .i64 (-1), .int .i64 6] 3)).drew)).trans g4
            have hbY : Blk w4 w3.heap.size 3 #[.int .i64 (-1), .int .i64 6] := (g4.block _ (by simp) (.inr (by have := HR3.out.lt; omega))).trans (Blk.new w3 3 #[.int .i64 (-1), .int .i64 6])
            obtain ⟨z, hz⟩ : ∃ z : Int, (#[Value.int .i64 (-1), .int .i64 6] : Array Value)[x]? = some (.int .i64 z) := by
              match x, hx with
              | 0, _ => exact ⟨_, rfl⟩
              | 1, _ => exact ⟨_, rfl⟩
            have b0 := (hbY.cell x).trans hz
            clear g4 hbY
            have HOY := Lib.hid hoY
            have HCY := Lib.hid hcY
            have HRY := Lib.hid hrY
            clear hoY hcY hrY hz
            have hx1 : (0 : Int) ≤ (x : Int) := by omega
            have hx2 : (x : Int) < 2 := by omega
            refine wpAnyH_take (i := 3) (v := ?_) rfl (by kernel_rfl) (by kernel_rfl) (by kernel_rfl) (fun _ _ _ h => h) (Or.inl ⟨by rfl, ?_⟩) (by assumption) ?_
            rotate_left
            · (intro w' hSw; (try dsimp only at hSw); go_simp; all_goals with_reducible rfl)
            repeat (first | simp only [Act.put] | simp only [List.setIfInBounds_toArray] | simp only [List.set_cons_succ] | simp only [List.set_cons_zero])
            refine wpAnyH_ready (rs := [4]) (by kernel_rfl) (by simp) ?_
            refine AllReadyH.cons (i := 4) rfl (fun K hK => ?_) AllReadyH.nil
            go_simp
            refine hK.out _ _ trivial (fun _ => ?_)
            clear hK K
            repeat (first | simp only [Act.put] | simp only [List.setIfInBounds_toArray] | simp only [List.set_cons_succ] | simp only [List.set_cons_zero])
            refine wpAnyH_take (i := 5) (v := ?_) rfl (by kernel_rfl) (by kernel_rfl) (by kernel_rfl) (fun _ _ _ h => h) (Or.inl ⟨by rfl, ?_⟩) (by assumption) ?_
            rotate_left
            · (intro w' hSw; (try dsimp only at hSw); go_simp; all_goals with_reducible rfl)
            repeat (first | simp only [Act.put] | simp only [List.setIfInBounds_toArray] | simp only [List.set_cons_succ] | simp only [List.set_cons_zero])
            refine wpAnyH_ready (rs := [6]) (by kernel_rfl) (by simp) ?_
            refine AllReadyH.cons (i := 6) rfl (fun K hK => ?_) AllReadyH.nil
            go_simp
            refine hK.out _ _ trivial (fun _ => ?_)
            clear hK K
            repeat (first | simp only [Act.put] | simp only [List.setIfInBounds_toArray] | simp only [List.set_cons_succ] | simp only [List.set_cons_zero])
            refine wpAnyH_ready (rs := [12]) (by kernel_rfl) (by simp) ?_
            refine AllReadyH.cons (i := 12) rfl (fun K hK => ?_) AllReadyH.nil
            have hsY := HCY.out.size
            refine step_append_own (by rfl) (some 39) (by rfl) _ _ 30 (by rfl) w.heap.size 44 i0 _ 2 16 Tryd.underlying30 hi0 hz0 hz1 hz2 rfl (by decide) (.slice (some ⟨w4.heap.size, 0, none⟩) 1 1) 1 [.int .i64 0, .int .i64 z] (by rfl) (own_one2 w4 _ (by omega) _ _ _) ad2 (m - mn) (cap - mn) (pairs (ps.drop mn)) (by rfl) NL.out (NC.out _ (HOY.out.alloc _)) N1.out (by unfold maxLen; omega) (by omega) (by simp; omega) ?_
            intro v' w5 hown' hgrow _
            refine hK.out _ _ trivial (fun _ => ?_)
            clear hK K
            repeat (first | simp only [Act.put] | simp only [List.setIfInBounds_toArray] | simp only [List.set_cons_succ] | simp only [List.set_cons_zero])
            refine wpAnyH_ready (rs := [13]) (by kernel_rfl) (by simp) ?_
            refine AllReadyH.cons (i := 13) rfl (fun K hK => ?_) AllReadyH.nil
            go_simp
            refine hK.out _ _ trivial (fun _ => ?_)
            clear hK K
            repeat (first | simp only [Act.put] | simp only [List.setIfInBounds_toArray] | simp only [List.set_cons_succ] | simp only [List.set_cons_zero])
            refine wpAnyH_done (by kernel_rfl) ?_ _
            have HW5 := Lib.hid hown'
            have HG5 := Lib.hid hgrow
            clear hown' hgrow
            go_wp2
            go_ret
            obtain ⟨g5, c5, rfl⟩ : ∃ g5 c5, v' = .slice (some ⟨g5, 0, none⟩) (1 + (m - mn)) c5 := by
              rcases HW5.out.2 with ⟨_, e⟩ | ⟨g', cap', cur, e, _⟩
              · omega
              · exact ⟨g', cap', e⟩
            have e : ((0, z) :: ps.drop mn).length = 1 + (m - mn) := by rw [List.length_cons, List.length_drop, HPL.out]; omega
            refine ⟨g5, c5, (0, z) :: ps.drop mn, p' + 1 + 1 + 1, by rw [e]; rfl, ?_, ?_, (HRY.out.more ((Le.refl w4).alloc _)).grown HG5.out (fun q hq => by simp [Value.ownBlock] at hq; have := HR3.out.lt; omega), by omega, (HCY.out.more ((Le.refl w4).alloc _)).row HG5.out (fun q hq => by simp [Value.ownBlock] at hq; omega)⟩
            · rw [e, pairs_cons]
              exact HW5.out
            · rw [e]; omega
          · refine AllReadyH.cons (i := 2) rfl (fun K hK => ?_) AllReadyH.nil
            go_simp
            refine (pick_any _ _ _ _ _ _ _ 2 (HR3.out.more ((Le.refl w3).drew)) (by omega) (by omega) (by omega)).mono ?_; rintro e w4 ⟨x, rfl, hx, hr4, g4⟩
            (try go_wp2_with fail)
            refine hK.out _ _ trivial (fun _ => ?_)
            clear hK K
            repeat (first | simp only [Act.put] | simp only [List.setIfInBounds_toArray] | simp only [List.set_cons_succ] | simp only [List.set_cons_zero])
            refine wpAnyH_ready (rs := [0]) (by kernel_rfl) (by simp) ?_
            refine AllReadyH.cons (i := 0) rfl (fun K hK => ?_) AllReadyH.nil
            go_simp
            refine hK.out _ _ trivial (fun _ => ?_)
            clear hK K
            repeat (first | simp only [Act.put] | simp only [List.setIfInBounds_toArray] | simp only [List.set_cons_succ] | simp only [List.set_cons_zero])
            have hoY := (Chg.own2 HO3.out.drew g4 hgw).alloc (.cells #[.int .i64 (-1), .int .i64 6] 3)
            have hcY := ((HC3.out.more ((Le.refl w3).drew)).trans g4).more ((Le.refl w4).alloc (.cells #[.int .i64 (-1), .int .i64 6] 3))
            have hrY := hr4.more ((Le.refl w4).alloc (.cells #[.int .i64 (-1), .int .i64 6] 3))
            have hbY := Blk.new w4 3 #[.int .i64 (-1), .int .i64 6]
            obtain ⟨wY, hwY⟩ : ∃ wY, w4.alloc (.cells #[.int .i64 (-1), .int .i64 6] 3) = wY := ⟨_, rfl⟩
            rw [hwY] at hoY hcY hrY hbY
            rw [hwY]
            obtain ⟨z, hz⟩ : ∃ z : Int, (#[Value.int .i64 (-1), .int .i64 6] : Array Value)[x]? = some (.int .i64 z) := by
              match x, hx with
              | 0, _ => exact ⟨_, rfl⟩
              | 1, _ => exact ⟨_, rfl⟩
            have b0 := (hbY.cell x).trans hz
            clear g4 hbY hr4 hwY
            have HOY := Lib.hid hoY
            have HCY := Lib.hid hcY
            have HRY := Lib.hid hrY
            clear hoY hcY hrY hz
            have hx1 : (0 : Int) ≤ (x : Int) := by omega
            have hx2 : (x : Int) < 2 := by omega
            refine wpAnyH_take (i := 3) (v := ?_) rfl (by kernel_rfl) (by kernel_rfl) (by kernel_rfl) (fun _ _ _ h => h) (Or.inl ⟨by rfl, ?_⟩) (by assumption) ?_
            rotate_left
            · (intro w' hSw; (try dsimp only at hSw); go_simp; all_goals with_reducible rfl)
            repeat (first | simp only [Act.put] | simp only [List.setIfInBounds_toArray] | simp only [List.set_cons_succ] | simp only [List.set_cons_zero])
            refine wpAnyH_ready (rs := [4]) (by kernel_rfl) (by simp) ?_
            refine AllReadyH.cons (i := 4) rfl (fun K hK => ?_) AllReadyH.nil
            go_simp
            refine hK.out _ _ trivial (fun _ => ?_)
            clear hK K
            repeat (first | simp only [Act.put] | simp only [List.setIfInBounds_toArray] | simp only [List.set_cons_succ] | simp only [List.set_cons_zero])
            refine wpAnyH_take (i := 5) (v := ?_) rfl (by kernel_rfl) (by kernel_rfl) (by kernel_rfl) (fun _ _ _ h => h) (Or.inl ⟨by rfl, ?_⟩) (by assumption) ?_
            rotate_left
            · (intro w' hSw; (try dsimp only at hSw); go_simp; all_goals with_reducible rfl)
            repeat (first | simp only [Act.put] | simp only [List.setIfInBounds_toArray] | simp only [List.set_cons_succ] | simp only [List.set_cons_zero])
            refine wpAnyH_ready (rs := [6]) (by kernel_rfl) (by simp) ?_
            refine AllReadyH.cons (i := 6) rfl (fun K hK => ?_) AllReadyH.nil
            go_simp
            refine hK.out _ _ trivial (fun _ => ?_)
            clear hK K
            repeat (first | simp only [Act.put] | simp only [List.setIfInBounds_toArray] | simp only [List.set_cons_succ] | simp only [List.set_cons_zero])
            refine wpAnyH_ready (rs := [12]) (by kernel_rfl) (by simp) ?_
            refine AllReadyH.cons (i := 12) rfl (fun K hK => ?_) AllReadyH.nil
            have hsY := HCY.out.size
            refine step_append_own (by rfl) (some 39) (by rfl) _ _ 30 (by rfl) w.heap.size 44 i0 _ 2 16 Tryd.underlying30 hi0 hz0 hz1 hz2 rfl (by decide) (.slice (some ⟨wY.heap.size, 0, none⟩) 1 1) 1 [.int .i64 0, .int .i64 z] (by rfl) (own_one2 wY _ (by omega) _ _ _) ad2 (m - mn) (cap - mn) (pairs (ps.drop mn)) (by rfl) NL.out (NC.out _ (HOY.out.alloc _)) N1.out (by unfold maxLen; omega) (by omega) (by simp; omega) ?_
            intro v' w5 hown' hgrow _
            refine hK.out _ _ trivial (fun _ => ?_)
            clear hK K
            repeat (first | simp only [Act.put] | simp only [List.setIfInBounds_toArray] | simp only [List.set_cons_succ] | simp only [List.set_cons_zero])
            refine wpAnyH_ready (rs := [13]) (by kernel_rfl) (by simp) ?_
            refine AllReadyH.cons (i := 13) rfl (fun K hK => ?_) AllReadyH.nil
            go_simp
            refine hK.out _ _ trivial (fun _ => ?_)
            clear hK K
            repeat (first | simp only [Act.put] | simp only [List.setIfInBounds_toArray] | simp only [List.set_cons_succ] | simp only [List.set_cons_zero])
            refine wpAnyH_done (by kernel_rfl) ?_ _
            have HW5 := Lib.hid hown'
            have HG5 := Lib.hid hgrow
            clear hown' hgrow
            go_wp2
            go_ret
            obtain ⟨g5, c5, rfl⟩ : ∃ g5 c5, v' = .slice (some ⟨g5, 0, none⟩) (1 + (m - mn)) c5 := by
              rcases HW5.out.2 with ⟨_, e⟩ | ⟨g', cap', cur, e, _⟩
              · omega
              · exact ⟨g', cap', e⟩
            have e : ((0, z) :: ps.drop mn).length = 1 + (m - mn) := by rw [List.length_cons, List.length_drop, HPL.out]; omega
            refine ⟨g5, c5, (0, z) :: ps.drop mn, p' + 1 + 1 + 1, by rw [e]; rfl, ?_, ?_, (HRY.out.more ((Le.refl wY).alloc _)).grown HG5.out (fun q hq => by simp [Value.ownBlock] at hq; have := HR3.out.lt; omega), by omega, (HCY.out.more ((Le.refl wY).alloc _)).row HG5.out (fun q hq => by simp [Value.ownBlock] at hq; omega)⟩
            · rw [e, pairs_cons]
              exact HW5.out
            · rw [e]; omega



/-- some short list of numbers, of the call's own; only the reader's position has turned -/
def DrI (W w : World) (g : Nat) (A : Option Addr) (n c p : Nat) (t : TypeId) (m q : Nat) (e : Ending) (w' : World) : Prop :=
  ∃ (gv cap : Nat) (ps : List Int) (p' : Nat), e = .returned (.slice (some ⟨gv, 0, none⟩) ps.length cap) ∧ w'.ownsRow w.heap.size t 1 (.slice (some ⟨gv, 0, none⟩) ps.length cap) ps.length (ints ps) ∧ ps.length ≤ m ∧ Rd W w' g A n c p' ∧ p' ≤ p + q ∧ Chg g (g + 1) w w'
theorem own_one1 (w : World) (base : Nat) (h : base ≤ w.heap.size) (t : TypeId) (a : Int) : (w.alloc (.cells #[.int .i64 a] t)).ownsRow base t 1 (.slice (some ⟨w.heap.size, 0, none⟩) 1 1) 1 [.int .i64 a] := by
  have := Blk.own (size := 1) (n := 1) (cap := 1) (Blk.new w t #[.int .i64 a]) h (Nat.le_refl _) (by unfold maxLen; omega) rfl
  simpa using this
theorem ints_one (ps : List Int) : ∀ u ∈ ints ps, u.oneCell' = true := by
  intro u hu
  unfold ints at hu
  rw [List.mem_map] at hu
  obtain ⟨x, _, rfl⟩ := hu
  rfl
theorem ints_drop (ps : List Int) (k : Nat) : ints (ps.drop k) = (ints ps).drop k := by simp [ints]
set_option maxRecDepth 20000 in
set_option maxHeartbeats 4000000 in
theorem l20Wants_any (W w : World) (g : Nat) (A : Option Addr) (n c p N : Nat) (h : Rd W w g A n c p) (hp : p ≤ 900000) (h1 : 1 ≤ N) (h2 : N ≤ 1000) :
    Calls Tryd.prog 15 #[.pointer (some ⟨g, 0, none⟩), .int .i64 (N : Int)] w (DrI W w g A n c p 3 7 100) := by
  obtain ⟨i0, hi0, hz0, hz1, hz2⟩ := info_parts infoInt
  have hgw := h.lt
  have HR0 := Lib.hid (h.more ((Le.refl w).alloc (.cells #[] 3)))
  have hO0 := own_empty w 3 1
  have HO0 := Lib.hid hO0
  have HC0 := Lib.hid (Chg.of_le (lo := g) (hi := g + 1) ((Le.refl w).alloc (.cells #[] 3)))
  clear h hO0
  obtain ⟨w0, hw0⟩ : ∃ w0, w.alloc (.cells #[] 3) = w0 := ⟨_, rfl⟩
  rw [hw0] at HR0 HO0 HC0
  go_enter Tryd.func15, Tryd.ntmps15
  go_wp2_with fail
  refine (pick_any _ _ _ _ _ _ _ 7 HR0.out (by omega) (by omega) (by omega)).mono ?_; rintro e w1 ⟨x, rfl, hx, r1, g1⟩
  have HR1 := Lib.hid r1
  have HO1 := Lib.hid (Chg.own2 HO0.out g1 hgw)
  have HC1 := Lib.hid (HC0.out.trans g1)
  clear r1 g1
  go_wp2
  go_loopw [5, 6] (fun v i wr => ∃ (k m p' : Nat) (ps : List Int), k + m ≤ 6 ∧ i = .int .i64 (k : Int) ∧ ps.length = m ∧ v ≠ .slice none 0 0 ∧ wr.ownsRow w.heap.size 3 1 v m (ints ps) ∧ Rd W wr g A n c p' ∧ p' + 2 * k ≤ p + 13 ∧ Chg g (g + 1) w wr) (fun _ i _ => (intOf i).toNat)
  case atStart => exact ⟨x, 0, p + 1, [], by omega, rfl, rfl, (fun e => by cases e), HO1.out, HR1.out, by omega, HC1.out⟩
  case round =>
    obtain ⟨k, m, p', ps, hkm, rfl, hpl, hnn, hown, hrd, hpp, hch⟩ := hrel
    by_cases hk : 0 < k
    · have HO := Lib.hid hown
      have HCH := Lib.hid hch
      have hk2 : decide ((0 : Int) < (k : Int)) = true := by simp; omega
      have HPL := Lib.hid hpl
      clear hown hch hpl hnn
      go_wp2_with fail
      refine (pick_any _ _ _ _ _ _ _ 9 hrd (by omega) (by omega) (by omega)).mono ?_; rintro e w3 ⟨y, rfl, hy, r3, g3⟩
      have hO3 := Chg.own2 HO.out g3 hgw
      have hC3 := HCH.out.trans g3
      have hs3 := hC3.size
      clear g3 hrd
      have HR3 := Lib.hid r3
      have HC3 := Lib.hid hC3
      clear r3 hC3
      go_wp2_with (at_builtin; refine wpList_append_own _ rfl _ _ 27 rfl w.heap.size 3 i0 _ 1 8 Tryd.underlying27 hi0 hz0 hz1 hz2 rfl (by decide) _ m (ints ps) rfl (hO3.alloc _) ⟨w3.heap.size, 0, none⟩ 1 1 [.int .i64 (y : Int)] rfl rfl ?c1 ?c2 ?c3 ?c4 ?c5 ?_)
      case c1 => exact cell_one' w3 _ rfl _ _
      case c2 => intro u hu; simp at hu; subst hu; rfl
      case c3 => unfold maxLen; omega
      case c4 => omega
      case c5 => simp; omega
      intro v' w4 hown' hgrow hnil
      have hnn' : v' ≠ .slice none 0 0 := hnil
      have HNN := Lib.hid hnn'
      have hR4 := (HR3.out.more ((Le.refl w3).alloc (.cells #[.int .i64 (y : Int)] 3))).grown hgrow (fun q hq => by have := (hO3.lt q hq).1; omega)
      have hC4 := (HC3.out.more ((Le.refl w3).alloc (.cells #[.int .i64 (y : Int)] 3))).row hgrow (fun q hq => (hO3.lt q hq).1)
      have HO4 := Lib.hid hown'
      have HR4 := Lib.hid hR4
      have HC4 := Lib.hid hC4
      clear hown' hgrow hR4 hC4 hO3 hnil hnn'
      go_wp2
      go_roundw
      case rel =>
        refine ⟨k - 1, m + 1, p' + 1, ps ++ [(y : Int)], by omega, by congr 1; omega, by rw [List.length_append, HPL.out]; rfl, HNN.out, ?_, HR4.out, by omega, HC4.out⟩
        rw [ints_append]
        exact HO4.out
      case measure => simp [intOf]; omega
    · obtain rfl : k = 0 := by omega
      obtain ⟨gv, cap, rfl, hgv, hcap⟩ : ∃ gv cap, u5 = .slice (some ⟨gv, 0, none⟩) m cap ∧ w.heap.size ≤ gv ∧ m ≤ cap := by
        rcases hown.2 with ⟨e, _⟩ | ⟨g', cap, cur, e, h1, _, h2, _⟩
        · exact absurd e hnn
        · exact ⟨g', cap, e, h1, h2⟩
      clear hnn
      have HO := Lib.hid hown
      have HC := Lib.hid hch
      have HPL := Lib.hid hpl
      clear hown hch hpl
      go_wp2_with fail
      refine (odd_any _ _ _ _ _ _ _ N hrd (by omega) h1 (by omega)).mono ?_; rintro e w2 ⟨t, rfl, r2, g2⟩
      cases t
      · go_wp2
        go_ret
        exact ⟨gv, cap, ps, p' + 1, by rw [HPL.out]; rfl, by rw [HPL.out]; exact Chg.own2 HO.out g2 hgw, by rw [HPL.out]; omega, r2, by omega, HC.out.trans g2⟩
      · have HO2 := Lib.hid (Chg.own2 HO.out g2 hgw)
        have HC2 := Lib.hid (HC.out.trans g2)
        clear g2 hrd
        have hmk := run_mk (P := Tryd.prog) 27 3 (.int .i64 0) 1 8 Tryd.underlying27 infoInt 7 (by omega) (by omega)
        have HMK := Lib.hid hmk
        clear hmk
        go_wp2_with fail
        refine (pick_any _ _ _ _ _ _ _ 2 r2 (by omega) (by omega) (by omega)).mono ?_; rintro e w3 ⟨y, rfl, hy, r3, g3⟩
        have HO3 := Lib.hid (Chg.own2 HO2.out g3 hgw)
        have HC3 := Lib.hid (HC2.out.trans g3)
        have HR3 := Lib.hid r3
        have hs3 := HC3.out.size
        clear g3 r2 r3
        rcases (show y = 0 ∨ y = 1 by omega) with rfl | rfl
        · have hmk := HMK.out w3
          rw [show ((7 : Nat) : Int) = 7 from rfl] at hmk
          go_wp2
          go_ret
          refine ⟨_, _, List.replicate 7 0, p' + 1 + 1, rfl, ?_, by simp, HR3.out.more ((Le.refl _).alloc _), by omega, HC3.out.more ((Le.refl _).alloc _)⟩
          have e : madeCells #[Value.int .i64 0] 7 = (ints (List.replicate 7 0)).toArray := by kernel_rfl
          rw [e]
          exact Blk.ownI (n := 7) (Blk.new _ _ _) (by omega) rfl (by omega)
        · have HMB := Lib.hid HMK
          clear HMK
          obtain ⟨mn, hmn, hmnm⟩ : ∃ mn : Nat, (if (m : Int) < 1 then (m : Int) else 1) = (mn : Int) ∧ mn ≤ m := by
            by_cases e : (m : Int) < 1
            · exact ⟨m, by rw [if_pos e], Nat.le_refl _⟩
            · exact ⟨1, by rw [if_neg e]; rfl, by omega⟩
          have hmn0 : (0 : Int) ≤ (mn : Int) := by omega
          have hmn1 : (mn : Int) ≤ (m : Int) := by omega
          obtain ⟨ad2, had2⟩ : ∃ ad2 : Addr, (if cap = mn then some (⟨gv, 0, none⟩ : Addr) else some ⟨gv, mn, none⟩) = some ad2 := by split <;> exact ⟨_, rfl⟩
          have hnews : ∀ w' : World, w'.ownsRow w.heap.size 3 1 (.slice (some ⟨gv, 0, none⟩) m cap) m (ints ps) → ∀ j u, (ints (ps.drop mn))[j]? = some u → w'.cell? (ad2.add j) = some u := by
            intro w' ho j u hj
            rw [ints_drop, List.getElem?_drop] at hj
            have hc := ho.cells (g := gv) rfl _ u hj
            have hjl := (List.getElem?_eq_some_iff.1 hj).1
            rw [ints_length, HPL.out] at hjl
            by_cases e : cap = mn
            · omega
            · rw [if_neg e] at had2
              injection had2 with had2
              subst had2
              rw [addr0] at hc
              rw [addrK]
              exact hc
          have hnl : (ints (ps.drop mn)).length = (m - mn) * 1 := by rw [ints_length, List.length_drop, HPL.out]; omega
          have hn1 : ∀ u ∈ ints (ps.drop mn), u.oneCell' = true := ints_one _
          have NC := Lib.hid hnews
          have NL := Lib.hid hnl
          have N1 := Lib.hid hn1
          clear hnews hnl hn1
          go_wp2
          refine wp_region_held_drew (S := fun _ => True) (by kernel_rfl) trivial (fun _ => ?_)
          refine wpAnyH_take (i := 1) (v := ?_) rfl (by kernel_rfl) (by kernel_rfl) (by kernel_rfl) (fun _ _ _ h => h) (Or.inl ⟨by rfl, ?_⟩) (by assumption) ?_
          rotate_left
          · (intro w' hSw; (try dsimp only at hSw); go_simp; all_goals with_reducible rfl)
          repeat (first | simp only [Act.put] | simp only [List.setIfInBounds_toArray] | simp only [List.set_cons_succ] | simp only [List.set_cons_zero])
          refine wpAnyH_take (i := 6) (v := ?_) rfl (by kernel_rfl) (by kernel_rfl) (by kernel_rfl) (fun _ _ _ h => h) (Or.inl ⟨by rfl, ?_⟩) (by assumption) ?_
          rotate_left
          · (intro w' hSw; (try dsimp only at hSw); go_simp; all_goals with_reducible rfl)
          repeat (first | simp only [Act.put] | simp only [List.setIfInBounds_toArray] | simp only [List.set_cons_succ] | simp only [List.set_cons_zero])
          refine wpAnyH_take (i := 7) (v := ?_) rfl (by kernel_rfl) (by kernel_rfl) (by kernel_rfl) (fun _ _ _ h => h) (Or.inl ⟨by rfl, ?_⟩) (by assumption) ?_
          rotate_left
          · (intro w' hSw; (try dsimp only at hSw); go_simp; all_goals with_reducible rfl)
          repeat (first | simp only [Act.put] | simp only [List.setIfInBounds_toArray] | simp only [List.set_cons_succ] | simp only [List.set_cons_zero])
          refine wpAnyH_take (i := 8) (v := ?_) rfl (by kernel_rfl) (by kernel_rfl) (by kernel_rfl) (fun _ _ _ h => h) (Or.inl ⟨by rfl, ?_⟩) (by assumption) ?_
          rotate_left
          · (intro w' hSw; (try dsimp only at hSw); go_simp; all_goals with_reducible rfl)
          repeat (first | simp only [Act.put] | simp only [List.setIfInBounds_toArray] | simp only [List.set_cons_succ] | simp only [List.set_cons_zero])
          refine wpAnyH_take (i := 9) (v := ?_) rfl (by kernel_rfl) (by kernel_rfl) (by kernel_rfl) (fun _ _ _ h => h) (Or.inl ⟨by rfl, ?_⟩) (by assumption) ?_
          rotate_left
          · (intro w' hSw; (try dsimp only at hSw); go_simp; all_goals with_reducible rfl)
          repeat (first | simp only [Act.put] | simp only [List.setIfInBounds_toArray] | simp only [List.set_cons_succ] | simp only [List.set_cons_zero])
          refine wpAnyH_take (i := 10) (v := ?_) rfl (by kernel_rfl) (by kernel_rfl) (by kernel_rfl) (fun _ _ _ h => h) (Or.inl ⟨by rfl, ?_⟩) (by assumption) ?_
          rotate_left
          · (intro w' hSw; (try dsimp only at hSw); go_simp; all_goals with_reducible rfl)
          repeat (first | simp only [Act.put] | simp only [List.setIfInBounds_toArray] | simp only [List.set_cons_succ] | simp only [List.set_cons_zero])
          clear had2
          refine wpAnyH_ready (rs := [0, 2]) (by kernel_rfl) (by simp) ?_
          refine AllReadyH.cons (i := 0) rfl (fun K hK => ?_) ?_
          · go_simp
            refine hK.out _ _ trivial (fun _ => ?_)
            clear hK K
            repeat (first | simp only [Act.put] | simp only [List.setIfInBounds_toArray] | simp only [List.set_cons_succ] | simp only [List.set_cons_zero])
            refine wpAnyH_ready (rs := [2]) (by kernel_rfl) (by simp) ?_
            refine AllReadyH.cons (i := 2) rfl (fun K hK => ?_) AllReadyH.nil
            go_simp
            refine (pick_any _ _ _ _ _ _ _ 2 (HR3.out.more (((Le.refl w3).alloc _).drew)) (by omega) (by omega) (by omega)).mono ?_; rintro e w4 ⟨x, rfl, hx, hrY, g4⟩
            (try go_wp2_with fail)
            refine hK.out _ _ trivial (fun _ => ?_)
            clear hK K
            repeat (first | simp only [Act.put] | simp only [List.setIfInBounds_toArray] | simp only [List.set_cons_succ] | simp only [List.set_cons_zero])
            have hoY := Chg.own2 ((HO3.out.alloc (.cells #[.int .i64 (-1), .int .i64 51] 3)).drew) g4 hgw
            have hcY := (HC3.out.more (((Le.refl w3).alloc (.cells #[.int .i64 (-1), .int .i64 51] 3)).drew)).trans g4
            have hbY : Blk w4 w3.heap.size 3 #[.int .i64 (-1), .int .i64 51] := (g4.block _ (by simp) (.inr (by have := HR3.out.lt; omega))).trans (Blk.new w3 3 #[.int .i64 (-1), .int .i64 51])
            obtain ⟨z, hz⟩ : ∃ z : Int, (#[Value.int .i64 (-1), .int .i64 51] : Array Value)[x]? = some (.int .i64 z) := by
              match x, hx with
              | 0, _ => exact ⟨_, rfl⟩
              | 1, _ => exact ⟨_, rfl⟩
            have b0 := (hbY.cell x).trans hz
            clear g4 hbY
            have HOY := Lib.hid hoY
            have HCY := Lib.hid hcY
            have HRY := Lib.hid hrY
            clear hoY hcY hrY hz
            have hx1 : (0 : Int) ≤ (x : Int) := by omega
            have hx2 : (x : Int) < 2 := by omega
            refine wpAnyH_take (i := 3) (v := ?_) rfl (by kernel_rfl) (by kernel_rfl) (by kernel_rfl) (fun _ _ _ h => h) (Or.inl ⟨by rfl, ?_⟩) (by assumption) ?_
            rotate_left
            · (intro w' hSw; (try dsimp only at hSw); go_simp; all_goals with_reducible rfl)
            repeat (first | simp only [Act.put] | simp only [List.setIfInBounds_toArray] | simp only [List.set_cons_succ] | simp only [List.set_cons_zero])
            refine wpAnyH_ready (rs := [4]) (by kernel_rfl) (by simp) ?_
            refine AllReadyH.cons (i := 4) rfl (fun K hK => ?_) AllReadyH.nil
            go_simp
            refine hK.out _ _ trivial (fun _ => ?_)
            clear hK K
            repeat (first | simp only [Act.put] | simp only [List.setIfInBounds_toArray] | simp only [List.set_cons_succ] | simp only [List.set_cons_zero])
            refine wpAnyH_ready (rs := [5]) (by kernel_rfl) (by simp) ?_
            refine AllReadyH.cons (i := 5) rfl (fun K hK => ?_) AllReadyH.nil
            go_simp
            refine hK.out _ _ trivial (fun _ => ?_)
            clear hK K
            repeat (first | simp only [Act.put] | simp only [List.setIfInBounds_toArray] | simp only [List.set_cons_succ] | simp only [List.set_cons_zero])
            refine wpAnyH_ready (rs := [11]) (by kernel_rfl) (by simp) ?_
            refine AllReadyH.cons (i := 11) rfl (fun K hK => ?_) AllReadyH.nil
            have hsY := HCY.out.size
            refine step_append_own (by rfl) (some 37) (by rfl) _ _ 27 (by rfl) w.heap.size 3 i0 _ 1 8 Tryd.underlying27 hi0 hz0 hz1 hz2 rfl (by decide) (.slice (some ⟨w4.heap.size, 0, none⟩) 1 1) 1 [.int .i64 z] (by rfl) (own_one1 w4 _ (by omega) _ _) ad2 (m - mn) (cap - mn) (ints (ps.drop mn)) (by rfl) NL.out (NC.out _ (HOY.out.alloc _)) N1.out (by unfold maxLen; omega) (by omega) (by simp; omega) ?_
            intro v' w5 hown' hgrow _
            refine hK.out _ _ trivial (fun _ => ?_)
            clear hK K
            repeat (first | simp only [Act.put] | simp only [List.setIfInBounds_toArray] | simp only [List.set_cons_succ] | simp only [List.set_cons_zero])
            refine wpAnyH_ready (rs := [12]) (by kernel_rfl) (by simp) ?_
            refine AllReadyH.cons (i := 12) rfl (fun K hK => ?_) AllReadyH.nil
            go_simp
            refine hK.out _ _ trivial (fun _ => ?_)
            clear hK K
            repeat (first | simp only [Act.put] | simp only [List.setIfInBounds_toArray] | simp only [List.set_cons_succ] | simp only [List.set_cons_zero])
            refine wpAnyH_done (by kernel_rfl) ?_ _
            have HW5 := Lib.hid hown'
            have HG5 := Lib.hid hgrow
            clear hown' hgrow
            go_wp2
            go_ret
            obtain ⟨g5, c5, rfl⟩ : ∃ g5 c5, v' = .slice (some ⟨g5, 0, none⟩) (1 + (m - mn)) c5 := by
              rcases HW5.out.2 with ⟨_, e⟩ | ⟨g', cap', cur, e, _⟩
              · omega
              · exact ⟨g', cap', e⟩
            have e : (z :: ps.drop mn).length = 1 + (m - mn) := by rw [List.length_cons, List.length_drop, HPL.out]; omega
            refine ⟨g5, c5, z :: ps.drop mn, p' + 1 + 1 + 1, by rw [e]; rfl, ?_, ?_, (HRY.out.more ((Le.refl w4).alloc _)).grown HG5.out (fun q hq => by simp [Value.ownBlock] at hq; have := HR3.out.lt; omega), by omega, (HCY.out.more ((Le.refl w4).alloc _)).row HG5.out (fun q hq => by simp [Value.ownBlock] at hq; omega)⟩
            · rw [e]
              exact HW5.out
            · rw [e]; omega
          · refine AllReadyH.cons (i := 2) rfl (fun K hK => ?_) AllReadyH.nil
            go_simp
            refine (pick_any _ _ _ _ _ _ _ 2 (HR3.out.more ((Le.refl w3).drew)) (by omega) (by omega) (by omega)).mono ?_; rintro e w4 ⟨x, rfl, hx, hr4, g4⟩
            (try go_wp2_with fail)
            refine hK.out _ _ trivial (fun _ => ?_)
            clear hK K
            repeat (first | simp only [Act.put] | simp only [List.setIfInBounds_toArray] | simp only [List.set_cons_succ] | simp only [List.set_cons_zero])
            refine wpAnyH_ready (rs := [0]) (by kernel_rfl) (by simp) ?_
            refine AllReadyH.cons (i := 0) rfl (fun K hK => ?_) AllReadyH.nil
            go_simp
            refine hK.out _ _ trivial (fun _ => ?_)
            clear hK K
            repeat (first | simp only [Act.put] | simp only [List.setIfInBounds_toArray] | simp only [List.set_cons_succ] | simp only [List.set_cons_zero])
            have hoY := (Chg.own2 HO3.out.drew g4 hgw).alloc (.cells #[.int .i64 (-1), .int .i64 51] 3)
            have hcY := ((HC3.out.more ((Le.refl w3).drew)).trans g4).more ((Le.refl w4).alloc (.cells #[.int .i64 (-1), .int .i64 51] 3))
            have hrY := hr4.more ((Le.refl w4).alloc (.cells #[.int .i64 (-1), .int .i64 51] 3))
            have hbY := Blk.new w4 3 #[.int .i64 (-1), .int .i64 51]
            obtain ⟨wY, hwY⟩ : ∃ wY, w4.alloc (.cells #[.int .i64 (-1), .int .i64 51] 3) = wY := ⟨_, rfl⟩
            rw [hwY] at hoY hcY hrY hbY
            rw [hwY]
            obtain ⟨z, hz⟩ : ∃ z : Int, (#[Value.int .i64 (-1), .int .i64 51] : Array Value)[x]? = some (.int .i64 z) := by
              match x, hx with
              | 0, _ => exact ⟨_, rfl⟩
              | 1, _ => exact ⟨_, rfl⟩
            have b0 := (hbY.cell x).trans hz
            clear g4 hbY hr4 hwY
            have HOY := Lib.hid hoY
            have HCY := Lib.hid hcY
            have HRY := Lib.hid hrY
            clear hoY hcY hrY hz
            have hx1 : (0 : Int) ≤ (x : Int) := by omega
            have hx2 : (x : Int) < 2 := by omega
            refine wpAnyH_take (i := 3) (v := ?_) rfl (by kernel_rfl) (by kernel_rfl) (by kernel_rfl) (fun _ _ _ h => h) (Or.inl ⟨by rfl, ?_⟩) (by assumption) ?_
            rotate_left
            · (intro w' hSw; (try dsimp only at hSw); go_simp; all_goals with_reducible rfl)
            repeat (first | simp only [Act.put] | simp only [List.setIfInBounds_toArray] | simp only [List.set_cons_succ] | simp only [List.set_cons_zero])
            refine wpAnyH_ready (rs := [4]) (by kernel_rfl) (by simp) ?_
            refine AllReadyH.cons (i := 4) rfl (fun K hK => ?_) AllReadyH.nil
            go_simp
            refine hK.out _ _ trivial (fun _ => ?_)
            clear hK K
            repeat (first | simp only [Act.put] | simp only [List.setIfInBounds_toArray] | simp only [List.set_cons_succ] | simp only [List.set_cons_zero])
            refine wpAnyH_ready (rs := [5]) (by kernel_rfl) (by simp) ?_
            refine AllReadyH.cons (i := 5) rfl (fun K hK => ?_) AllReadyH.nil
            go_simp
            refine hK.out _ _ trivial (fun _ => ?_)
            clear hK K
            repeat (first | simp only [Act.put] | simp only [List.setIfInBounds_toArray] | simp only [List.set_cons_succ] | simp only [List.set_cons_zero])
            refine wpAnyH_ready (rs := [11]) (by kernel_rfl) (by simp) ?_
            refine AllReadyH.cons (i := 11) rfl (fun K hK => ?_) AllReadyH.nil
            have hsY := HCY.out.size
            refine step_append_own (by rfl) (some 37) (by rfl) _ _ 27 (by rfl) w.heap.size 3 i0 _ 1 8 Tryd.underlying27 hi0 hz0 hz1 hz2 rfl (by decide) (.slice (some ⟨wY.heap.size, 0, none⟩) 1 1) 1 [.int .i64 z] (by rfl) (own_one1 wY _ (by omega) _ _) ad2 (m - mn) (cap - mn) (ints (ps.drop mn)) (by rfl) NL.out (NC.out _ (HOY.out.alloc _)) N1.out (by unfold maxLen; omega) (by omega) (by simp; omega) ?_
            intro v' w5 hown' hgrow _
            refine hK.out _ _ trivial (fun _ => ?_)
            clear hK K
            repeat (first | simp only [Act.put] | simp only [List.setIfInBounds_toArray] | simp only [List.set_cons_succ] | simp only [List.set_cons_zero])
            refine wpAnyH_ready (rs := [12]) (by kernel_rfl) (by simp) ?_
            refine AllReadyH.cons (i := 12) rfl (fun K hK => ?_) AllReadyH.nil
            go_simp
            refine hK.out _ _ trivial (fun _ => ?_)
            clear hK K
            repeat (first | simp only [Act.put] | simp only [List.setIfInBounds_toArray] | simp only [List.set_cons_succ] | simp only [List.set_cons_zero])
            refine wpAnyH_done (by kernel_rfl) ?_ _
            have HW5 := Lib.hid hown'
            have HG5 := Lib.hid hgrow
            clear hown' hgrow
            go_wp2
            go_ret
            obtain ⟨g5, c5, rfl⟩ : ∃ g5 c5, v' = .slice (some ⟨g5, 0, none⟩) (1 + (m - mn)) c5 := by
              rcases HW5.out.2 with ⟨_, e⟩ | ⟨g', cap', cur, e, _⟩
              · omega
              · exact ⟨g', cap', e⟩
            have e : (z :: ps.drop mn).length = 1 + (m - mn) := by rw [List.length_cons, List.length_drop, HPL.out]; omega
            refine ⟨g5, c5, z :: ps.drop mn, p' + 1 + 1 + 1, by rw [e]; rfl, ?_, ?_, (HRY.out.more ((Le.refl wY).alloc _)).grown HG5.out (fun q hq => by simp [Value.ownBlock] at hq; have := HR3.out.lt; omega), by omega, (HCY.out.more ((Le.refl wY).alloc _)).row HG5.out (fun q hq => by simp [Value.ownBlock] at hq; omega)⟩
            · rw [e]
              exact HW5.out
            · rw [e]; omega
end Go.Proofs.YtmemenkioejdoaaDoor
