/- Walks: drawn amounts, prices and indices. -/
import Derived.Test.YtoahjfofnaafaaaDoorWDrawM
namespace Go.Proofs.YtoahjfofnaafaaaDoor
open Go.RowKit

theorem infoIntD : (Tryd.prog.info? 3).map (fun i => (i.zero, i.size, i.bytes)) = some (some (.int .i64 0), 1, 8) := by kernel_rfl
/-- a short list of numbers, of the call's own -/
def DrA (W w : World) (g : Nat) (A : Option Addr) (n c p m q : Nat) (e : Ending) (w' : World) : Prop :=
  ∃ (gv cap : Nat) (xs : List Int) (p' : Nat), e = .returned (.slice (some ⟨gv, 0, none⟩) xs.length cap) ∧ w'.ownsRow w.heap.size 3 1 (.slice (some ⟨gv, 0, none⟩) xs.length cap) xs.length (ints xs) ∧ xs.length ≤ m ∧ Rd W w' g A n c p' ∧ p' ≤ p + q ∧ Chg g (g + 1) w w'
theorem ints_snoc (xs : List Int) (x : Int) : ints (xs ++ [x]) = ints xs ++ [.int .i64 x] := by simp [ints]
theorem ints_set1 (xs : List Int) (o : Nat) (x : Int) : (ints xs).set o (.int .i64 x) = ints (xs.set o x) := by
  unfold ints; rw [List.map_set]
theorem own_formI {w : World} {b : Nat} {t : TypeId} {v : Value} {m : Nat} {xs : List Value} (o : w.ownsRow b t 1 v m xs) (hnn : v ≠ .slice none 0 0) : ∃ gv cap, v = .slice (some ⟨gv, 0, none⟩) m cap ∧ b ≤ gv ∧ m ≤ cap ∧ cap ≤ maxLen := by
  rcases o.2 with ⟨e, _⟩ | ⟨g', cap, cur, e, h1, _, h2, h3, _⟩
  · exact absurd e hnn
  · exact ⟨g', cap, e, h1, h2, h3⟩
set_option maxRecDepth 20000 in
set_option maxHeartbeats 4000000 in
theorem l20Amounts_any (W w : World) (g : Nat) (A : Option Addr) (n c p N : Nat) (B : Option Addr) (k d : Nat) (h : Rd W w g A n c p) (hp : p ≤ 800000) (h1 : 1 ≤ N) (h2 : N ≤ 1000) (hk : k ≤ 7) :
    Calls Tryd.prog 74 #[.pointer (some ⟨g, 0, none⟩), .slice B k d, .int .i64 (N : Int)] w (DrA W w g A n c p 8 20) := by
  obtain ⟨i0, hi0, hz0, hz1, hz2⟩ := info_parts infoIntD
  have hgw := h.lt
  have HR0 := Lib.hid (h.more ((Le.refl w).alloc (.cells #[] 3)))
  have HO0 := Lib.hid (own_empty w 3 1)
  have HC0 := Lib.hid (Chg.of_le (lo := g) (hi := g + 1) ((Le.refl w).alloc (.cells #[] 3)))
  clear h
  obtain ⟨w0, hw0⟩ : ∃ w0, w.alloc (.cells #[] 3) = w0 := ⟨_, rfl⟩
  rw [hw0] at HR0 HO0 HC0
  go_enter Tryd.func74, Tryd.ntmps74
  go_wp2
  go_loopw [7, 8] (fun v i wr => ∃ (m p' : Nat) (xs : List Int), m ≤ k ∧ i = .int .i64 (m : Int) ∧ v ≠ .slice none 0 0 ∧ wr.ownsRow w.heap.size 3 1 v m (ints xs) ∧ Rd W wr g A n c p' ∧ p' ≤ p + 2 * m ∧ Chg g (g + 1) w wr) (fun _ i _ => k - (intOf i).toNat)
  case atStart => exact ⟨0, p, [], Nat.zero_le _, rfl, (fun e => by cases e), HO0.out, HR0.out, by omega, HC0.out⟩
  case round =>
    obtain ⟨m, p', xs, hmk, rfl, hnn, hown, hrd, hpp, hch⟩ := hrel
    obtain ⟨gv, cap, rfl, hgv, hcap, hcm⟩ := own_formI hown hnn
    have HO := Lib.hid hown
    have HCH := Lib.hid hch
    clear hown hch hnn
    by_cases hlt : m < k
    · go_wp2_with fail
      refine (pick_any _ _ _ _ _ _ _ 12 hrd (by omega) (by omega) (by omega)).mono ?_; rintro e w2 ⟨x2, rfl, hx2, r2, c2⟩
      have HO2 := Lib.hid (Chg.own2 HO.out c2 hgw)
      have HC2 := Lib.hid (HCH.out.trans c2)
      have R2 := Lib.hid r2
      clear r2 c2 hrd
      go_wp2_with fail
      refine (pick_any _ _ _ _ _ _ _ 3 R2.out (by omega) (by omega) (by omega)).mono ?_; rintro e w3 ⟨x3, rfl, hx3, r3, c3⟩
      have HO3 := Lib.hid (Chg.own2 HO2.out c3 hgw)
      have HC3 := Lib.hid (HC2.out.trans c3)
      have R3 := Lib.hid r3
      clear r3 c3
      obtain ⟨z, hz⟩ : ∃ z : Int, wrap64 ((x2 : Int) * (x3 : Int)) = z := ⟨_, rfl⟩
      go_wp2_with (at_builtin; refine wpList_append_own _ rfl _ _ 40 rfl w.heap.size 3 i0 _ 1 8 Tryd.underlying40 hi0 hz0 hz1 hz2 rfl (by decide) _ m (ints xs) rfl (HO3.out.alloc _) ⟨w3.heap.size, 0, none⟩ 1 1 [.int .i64 z] rfl rfl ?c1 ?c2 ?c3 ?c4 ?c5 ?_)
      case c1 => exact cell_one' w3 _ rfl _ _
      case c2 => intro u hu; simp at hu; rcases hu with rfl; rfl
      case c3 => unfold maxLen; omega
      case c4 => omega
      case c5 => have := HC3.out.size; simp; omega
      intro v' w4 hown' hgrow hnil
      have la := (Le.refl w3).alloc (.cells #[.int .i64 z] 3)
      have hR4 := (R3.out.more la).grown hgrow (fun q hq => by have := (HO3.out.lt q hq).1; omega)
      have hC4 := (HC3.out.more la).row hgrow (fun q hq => (HO3.out.lt q hq).1)
      have HN := Lib.hid (show v' ≠ .slice none 0 0 from hnil)
      have HO4 := Lib.hid hown'
      have HR4 := Lib.hid hR4
      have HC4 := Lib.hid hC4
      clear hown' hgrow hR4 hC4 hnil la
      go_wp2
      go_roundw
      case rel =>
        refine ⟨m + 1, p' + 1 + 1, xs ++ [z], by omega, by go_num, HN.out, ?_, HR4.out, by omega, HC4.out⟩
        rw [ints_snoc]
        exact HO4.out
      case measure => simp [intOf]; omega
    · obtain rfl : m = k := by omega
      have HL := Lib.hid (show xs.length = m from by have := HO.out.1; rw [ints_length] at this; omega)
      go_wp2_with fail
      refine (odd_any _ _ _ _ _ _ _ N hrd (by omega) h1 (by omega)).mono ?_; rintro e w2 ⟨t, rfl, r2, c2⟩
      have HO2 := Lib.hid (Chg.own2 HO.out c2 hgw)
      have HC2 := Lib.hid (HCH.out.trans c2)
      have R2 := Lib.hid r2
      clear r2 c2 hrd
      cases t
      · go_wp2
        go_ret
        exact ⟨gv, cap, xs, p' + 1, by rw [HL.out]; rfl, by rw [HL.out]; exact HO2.out, by rw [HL.out]; omega, R2.out, by omega, HC2.out⟩
      · by_cases hm0 : m = 0
        · have hm1 : decide ((0 : Int) < (m : Int)) = false := decide_eq_false (by omega)
          have hm2 : decide (0 < m) = false := decide_eq_false (by omega)
          have HM0 := Lib.hid hm0
          clear hm0
          go_wp2_with (at_builtin; refine wpList_append_own _ rfl _ _ 40 rfl w.heap.size 3 i0 _ 1 8 Tryd.underlying40 hi0 hz0 hz1 hz2 rfl (by decide) _ m (ints xs) rfl (HO2.out.alloc _) ⟨w2.heap.size, 0, none⟩ 1 1 [.int .i64 1] rfl rfl ?c1 ?c2 ?c3 ?c4 ?c5 ?_)
          case c1 => exact cell_one' w2 _ rfl _ _
          case c2 => intro u hu; simp at hu; rcases hu with rfl; rfl
          case c3 => unfold maxLen; omega
          case c4 => omega
          case c5 => have := HC2.out.size; simp; omega
          intro v' w4 hown' hgrow hnil
          have la := (Le.refl w2).alloc (.cells #[.int .i64 1] 3)
          have hR4 := (R2.out.more la).grown hgrow (fun q hq => by have := (HO2.out.lt q hq).1; omega)
          have hC4 := (HC2.out.more la).row hgrow (fun q hq => (HO2.out.lt q hq).1)
          have HN := Lib.hid (show v' ≠ .slice none 0 0 from hnil)
          have HO4 := Lib.hid hown'
          have HR4 := Lib.hid hR4
          have HC4 := Lib.hid hC4
          clear hown' hgrow hR4 hC4 hnil la
          obtain ⟨g4, cap4, rfl, _, _, _⟩ := own_formI HO4.out HN.out
          go_wp2
          go_ret
          refine ⟨g4, cap4, xs ++ [1], p' + 1, by rw [List.length_append, HL.out]; rfl, ?_, by rw [List.length_append, HL.out]; simp; omega, HR4.out, by omega, HC4.out⟩
          rw [List.length_append, HL.out, ints_snoc]
          exact HO4.out
        · have hm1 : decide ((0 : Int) < (m : Int)) = true := decide_eq_true (by omega)
          have hm2 : decide (0 < m) = true := decide_eq_true (by omega)
          go_wp2_with fail
          refine (pick_any _ _ _ _ _ _ _ 2 R2.out (by omega) (by omega) (by omega)).mono ?_; rintro e w3 ⟨x3, rfl, hx3, r3, c3⟩
          have HO3 := Lib.hid (Chg.own2 HO2.out c3 hgw)
          have HC3 := Lib.hid (HC2.out.trans c3)
          have R3 := Lib.hid r3
          clear r3 c3
          by_cases hx0 : x3 = 0
          · subst hx0
            have k6 := Blk.new w3 3 #[.int .i64 (-1), .int .i64 51]
            have l6 := (Le.refl w3).alloc (.cells #[.int .i64 (-1), .int .i64 51] 3)
            obtain ⟨w6, hw6⟩ : ∃ w6, w3.alloc (.cells #[.int .i64 (-1), .int .i64 51] 3) = w6 := ⟨_, rfl⟩
            rw [hw6] at k6 l6
            have HO6 := Lib.hid (own_Le HO3.out l6)
            have HC6 := Lib.hid (HC3.out.more l6)
            have R6 := Lib.hid (R3.out.more l6)
            have K6 := Lib.hid k6
            have hg3 : g < w3.heap.size := R3.out.lt
            clear k6 l6
            go_wp2_with fail
            refine (pick_any _ _ _ _ _ _ _ 2 R6.out (by omega) (by omega) (by omega)).mono ?_; rintro e w7 ⟨x7, rfl, hx7, r7, c7⟩
            have k7 : Blk w7 w3.heap.size _ _ := (c7.block _ K6.out.lt (.inr hg3)).trans K6.out
            have HO7 := Lib.hid (Chg.own2 HO6.out c7 hgw)
            have HC7 := Lib.hid (HC6.out.trans c7)
            have R7 := Lib.hid r7
            clear r7 c7 hw6
            have b1 := HO7.out.cellAt 0 (by omega)
            have z1 := HO7.out.frozenAt 0
            rw [ints_getElem? (by rw [HL.out]; omega)] at b1
            rcases (show x7 = 0 ∨ x7 = 1 by omega) with rfl | rfl
            · have s0 := k7.cell 0
              simp at s0
              obtain ⟨oS, gS⟩ := HO7.out.stored 0 (.int .i64 (-1))
              have OS := Lib.hid oS
              have RS := Lib.hid (R7.out.grown gS (fun q' hq' => by have : gv = q' := Option.some.inj hq'; omega))
              have CS := Lib.hid (HC7.out.row gS (fun q' hq' => by have : gv = q' := Option.some.inj hq'; omega))
              clear oS gS k7
              go_wp2
              go_ret
              refine ⟨gv, cap, xs.set 0 (-1), p' + 1 + 1 + 1, by rw [List.length_set, HL.out]; rfl, ?_, by rw [List.length_set, HL.out]; omega, RS.out, by omega, CS.out⟩
              rw [List.length_set, HL.out, ← ints_set1]
              exact OS.out
            · have s0 := k7.cell 1
              simp at s0
              obtain ⟨oS, gS⟩ := HO7.out.stored 0 (.int .i64 51)
              have OS := Lib.hid oS
              have RS := Lib.hid (R7.out.grown gS (fun q' hq' => by have : gv = q' := Option.some.inj hq'; omega))
              have CS := Lib.hid (HC7.out.row gS (fun q' hq' => by have : gv = q' := Option.some.inj hq'; omega))
              clear oS gS k7
              go_wp2
              go_ret
              refine ⟨gv, cap, xs.set 0 51, p' + 1 + 1 + 1, by rw [List.length_set, HL.out]; rfl, ?_, by rw [List.length_set, HL.out]; omega, RS.out, by omega, CS.out⟩
              rw [List.length_set, HL.out, ← ints_set1]
              exact OS.out
          · have hx1 : ((x3 : Int) == 0) = false := by rw [beq_eq_false_iff_ne]; omega
            go_wp2_with (at_builtin; refine wpList_append_own _ rfl _ _ 40 rfl w.heap.size 3 i0 _ 1 8 Tryd.underlying40 hi0 hz0 hz1 hz2 rfl (by decide) _ m (ints xs) rfl (HO3.out.alloc _) ⟨w3.heap.size, 0, none⟩ 1 1 [.int .i64 1] rfl rfl ?c1 ?c2 ?c3 ?c4 ?c5 ?_)
            case c1 => exact cell_one' w3 _ rfl _ _
            case c2 => intro u hu; simp at hu; rcases hu with rfl; rfl
            case c3 => unfold maxLen; omega
            case c4 => omega
            case c5 => have := HC3.out.size; simp; omega
            intro v' w4 hown' hgrow hnil
            have la := (Le.refl w3).alloc (.cells #[.int .i64 1] 3)
            have hR4 := (R3.out.more la).grown hgrow (fun q hq => by have := (HO3.out.lt q hq).1; omega)
            have hC4 := (HC3.out.more la).row hgrow (fun q hq => (HO3.out.lt q hq).1)
            have HN := Lib.hid (show v' ≠ .slice none 0 0 from hnil)
            have HO4 := Lib.hid hown'
            have HR4 := Lib.hid hR4
            have HC4 := Lib.hid hC4
            clear hown' hgrow hR4 hC4 hnil la
            obtain ⟨g4, cap4, rfl, _, _, _⟩ := own_formI HO4.out HN.out
            go_wp2
            go_ret
            refine ⟨g4, cap4, xs ++ [1], p' + 1 + 1, by rw [List.length_append, HL.out]; rfl, ?_, by rw [List.length_append, HL.out]; simp; omega, HR4.out, by omega, HC4.out⟩
            rw [List.length_append, HL.out, ints_snoc]
            exact HO4.out
set_option maxRecDepth 20000 in
set_option maxHeartbeats 4000000 in
theorem l20Prices_any (W w : World) (g : Nat) (A : Option Addr) (n c p N : Nat) (B : Option Addr) (k d : Nat) (h : Rd W w g A n c p) (hp : p ≤ 800000) (h1 : 1 ≤ N) (h2 : N ≤ 1000) (hk : k ≤ 7) :
    Calls Tryd.prog 58 #[.pointer (some ⟨g, 0, none⟩), .slice B k d, .int .i64 (N : Int)] w (DrA W w g A n c p 8 20) := by
  obtain ⟨i0, hi0, hz0, hz1, hz2⟩ := info_parts infoIntD
  have hgw := h.lt
  have HR0 := Lib.hid (h.more ((Le.refl w).alloc (.cells #[] 3)))
  have HO0 := Lib.hid (own_empty w 3 1)
  have HC0 := Lib.hid (Chg.of_le (lo := g) (hi := g + 1) ((Le.refl w).alloc (.cells #[] 3)))
  clear h
  obtain ⟨w0, hw0⟩ : ∃ w0, w.alloc (.cells #[] 3) = w0 := ⟨_, rfl⟩
  rw [hw0] at HR0 HO0 HC0
  go_enter Tryd.func58, Tryd.ntmps58
  go_wp2
  go_loopw [7, 8] (fun v i wr => ∃ (m p' : Nat) (xs : List Int), m ≤ k ∧ i = .int .i64 (m : Int) ∧ v ≠ .slice none 0 0 ∧ wr.ownsRow w.heap.size 3 1 v m (ints xs) ∧ Rd W wr g A n c p' ∧ p' ≤ p + 2 * m ∧ Chg g (g + 1) w wr) (fun _ i _ => k - (intOf i).toNat)
  case atStart => exact ⟨0, p, [], Nat.zero_le _, rfl, (fun e => by cases e), HO0.out, HR0.out, by omega, HC0.out⟩
  case round =>
    obtain ⟨m, p', xs, hmk, rfl, hnn, hown, hrd, hpp, hch⟩ := hrel
    obtain ⟨gv, cap, rfl, hgv, hcap, hcm⟩ := own_formI hown hnn
    have HO := Lib.hid hown
    have HCH := Lib.hid hch
    clear hown hch hnn
    by_cases hlt : m < k
    · go_wp2_with fail
      refine (pick_any _ _ _ _ _ _ _ 21 hrd (by omega) (by omega) (by omega)).mono ?_; rintro e w3 ⟨x2, rfl, hx2, r2, c2⟩
      have HO3 := Lib.hid (Chg.own2 HO.out c2 hgw)
      have HC3 := Lib.hid (HCH.out.trans c2)
      have R3 := Lib.hid r2
      clear r2 c2 hrd
      go_wp2_with (at_builtin; refine wpList_append_own _ rfl _ _ 40 rfl w.heap.size 3 i0 _ 1 8 Tryd.underlying40 hi0 hz0 hz1 hz2 rfl (by decide) _ m (ints xs) rfl (HO3.out.alloc _) ⟨w3.heap.size, 0, none⟩ 1 1 [.int .i64 (x2 : Int)] rfl rfl ?c1 ?c2 ?c3 ?c4 ?c5 ?_)
      case c1 => exact cell_one' w3 _ rfl _ _
      case c2 => intro u hu; simp at hu; rcases hu with rfl; rfl
      case c3 => unfold maxLen; omega
      case c4 => omega
      case c5 => have := HC3.out.size; simp; omega
      intro v' w4 hown' hgrow hnil
      have la := (Le.refl w3).alloc (.cells #[.int .i64 (x2 : Int)] 3)
      have hR4 := (R3.out.more la).grown hgrow (fun q hq => by have := (HO3.out.lt q hq).1; omega)
      have hC4 := (HC3.out.more la).row hgrow (fun q hq => (HO3.out.lt q hq).1)
      have HN := Lib.hid (show v' ≠ .slice none 0 0 from hnil)
      have HO4 := Lib.hid hown'
      have HR4 := Lib.hid hR4
      have HC4 := Lib.hid hC4
      clear hown' hgrow hR4 hC4 hnil la
      go_wp2
      go_roundw
      case rel =>
        refine ⟨m + 1, p' + 1, xs ++ [(x2 : Int)], by omega, by go_num, HN.out, ?_, HR4.out, by omega, HC4.out⟩
        rw [ints_snoc]
        exact HO4.out
      case measure => simp [intOf]; omega
    · obtain rfl : m = k := by omega
      have HL := Lib.hid (show xs.length = m from by have := HO.out.1; rw [ints_length] at this; omega)
      go_wp2_with fail
      refine (odd_any _ _ _ _ _ _ _ N hrd (by omega) h1 (by omega)).mono ?_; rintro e w2 ⟨t, rfl, r2, c2⟩
      have HO2 := Lib.hid (Chg.own2 HO.out c2 hgw)
      have HC2 := Lib.hid (HCH.out.trans c2)
      have R2 := Lib.hid r2
      clear r2 c2 hrd
      cases t
      · go_wp2
        go_ret
        exact ⟨gv, cap, xs, p' + 1, by rw [HL.out]; rfl, by rw [HL.out]; exact HO2.out, by rw [HL.out]; omega, R2.out, by omega, HC2.out⟩
      · by_cases hm0 : m = 0
        · have hm1 : decide ((0 : Int) < (m : Int)) = false := decide_eq_false (by omega)
          have hm2 : decide (0 < m) = false := decide_eq_false (by omega)
          have HM0 := Lib.hid hm0
          clear hm0
          go_wp2_with (at_builtin; refine wpList_append_own _ rfl _ _ 40 rfl w.heap.size 3 i0 _ 1 8 Tryd.underlying40 hi0 hz0 hz1 hz2 rfl (by decide) _ m (ints xs) rfl (HO2.out.alloc _) ⟨w2.heap.size, 0, none⟩ 1 1 [.int .i64 1] rfl rfl ?c1 ?c2 ?c3 ?c4 ?c5 ?_)
          case c1 => exact cell_one' w2 _ rfl _ _
          case c2 => intro u hu; simp at hu; rcases hu with rfl; rfl
          case c3 => unfold maxLen; omega
          case c4 => omega
          case c5 => have := HC2.out.size; simp; omega
          intro v' w4 hown' hgrow hnil
          have la := (Le.refl w2).alloc (.cells #[.int .i64 1] 3)
          have hR4 := (R2.out.more la).grown hgrow (fun q hq => by have := (HO2.out.lt q hq).1; omega)
          have hC4 := (HC2.out.more la).row hgrow (fun q hq => (HO2.out.lt q hq).1)
          have HN := Lib.hid (show v' ≠ .slice none 0 0 from hnil)
          have HO4 := Lib.hid hown'
          have HR4 := Lib.hid hR4
          have HC4 := Lib.hid hC4
          clear hown' hgrow hR4 hC4 hnil la
          obtain ⟨g4, cap4, rfl, _, _, _⟩ := own_formI HO4.out HN.out
          go_wp2
          go_ret
          refine ⟨g4, cap4, xs ++ [1], p' + 1, by rw [List.length_append, HL.out]; rfl, ?_, by rw [List.length_append, HL.out]; simp; omega, HR4.out, by omega, HC4.out⟩
          rw [List.length_append, HL.out, ints_snoc]
          exact HO4.out
        · have hm1 : decide ((0 : Int) < (m : Int)) = true := decide_eq_true (by omega)
          have hm2 : decide (0 < m) = true := decide_eq_true (by omega)
          go_wp2_with fail
          refine (pick_any _ _ _ _ _ _ _ 2 R2.out (by omega) (by omega) (by omega)).mono ?_; rintro e w3 ⟨x3, rfl, hx3, r3, c3⟩
          have HO3 := Lib.hid (Chg.own2 HO2.out c3 hgw)
          have HC3 := Lib.hid (HC2.out.trans c3)
          have R3 := Lib.hid r3
          clear r3 c3
          by_cases hx0 : x3 = 0
          · subst hx0
            have k6 := Blk.new w3 3 #[.int .i64 (-1), .int .i64 21]
            have l6 := (Le.refl w3).alloc (.cells #[.int .i64 (-1), .int .i64 21] 3)
            obtain ⟨w6, hw6⟩ : ∃ w6, w3.alloc (.cells #[.int .i64 (-1), .int .i64 21] 3) = w6 := ⟨_, rfl⟩
            rw [hw6] at k6 l6
            have HO6 := Lib.hid (own_Le HO3.out l6)
            have HC6 := Lib.hid (HC3.out.more l6)
            have R6 := Lib.hid (R3.out.more l6)
            have K6 := Lib.hid k6
            have hg3 : g < w3.heap.size := R3.out.lt
            clear k6 l6
            go_wp2_with fail
            refine (pick_any _ _ _ _ _ _ _ 2 R6.out (by omega) (by omega) (by omega)).mono ?_; rintro e w7 ⟨x7, rfl, hx7, r7, c7⟩
            have k7 : Blk w7 w3.heap.size _ _ := (c7.block _ K6.out.lt (.inr hg3)).trans K6.out
            have HO7 := Lib.hid (Chg.own2 HO6.out c7 hgw)
            have HC7 := Lib.hid (HC6.out.trans c7)
            have R7 := Lib.hid r7
            clear r7 c7 hw6
            have b1 := HO7.out.cellAt 0 (by omega)
            have z1 := HO7.out.frozenAt 0
            rw [ints_getElem? (by rw [HL.out]; omega)] at b1
            rcases (show x7 = 0 ∨ x7 = 1 by omega) with rfl | rfl
            · have s0 := k7.cell 0
              simp at s0
              obtain ⟨oS, gS⟩ := HO7.out.stored 0 (.int .i64 (-1))
              have OS := Lib.hid oS
              have RS := Lib.hid (R7.out.grown gS (fun q' hq' => by have : gv = q' := Option.some.inj hq'; omega))
              have CS := Lib.hid (HC7.out.row gS (fun q' hq' => by have : gv = q' := Option.some.inj hq'; omega))
              clear oS gS k7
              go_wp2
              go_ret
              refine ⟨gv, cap, xs.set 0 (-1), p' + 1 + 1 + 1, by rw [List.length_set, HL.out]; rfl, ?_, by rw [List.length_set, HL.out]; omega, RS.out, by omega, CS.out⟩
              rw [List.length_set, HL.out, ← ints_set1]
              exact OS.out
            · have s0 := k7.cell 1
              simp at s0
              obtain ⟨oS, gS⟩ := HO7.out.stored 0 (.int .i64 21)
              have OS := Lib.hid oS
              have RS := Lib.hid (R7.out.grown gS (fun q' hq' => by have : gv = q' := Option.some.inj hq'; omega))
              have CS := Lib.hid (HC7.out.row gS (fun q' hq' => by have : gv = q' := Option.some.inj hq'; omega))
              clear oS gS k7
              go_wp2
              go_ret
              refine ⟨gv, cap, xs.set 0 21, p' + 1 + 1 + 1, by rw [List.length_set, HL.out]; rfl, ?_, by rw [List.length_set, HL.out]; omega, RS.out, by omega, CS.out⟩
              rw [List.length_set, HL.out, ← ints_set1]
              exact OS.out
          · have hx1 : ((x3 : Int) == 0) = false := by rw [beq_eq_false_iff_ne]; omega
            go_wp2_with (at_builtin; refine wpList_append_own _ rfl _ _ 40 rfl w.heap.size 3 i0 _ 1 8 Tryd.underlying40 hi0 hz0 hz1 hz2 rfl (by decide) _ m (ints xs) rfl (HO3.out.alloc _) ⟨w3.heap.size, 0, none⟩ 1 1 [.int .i64 1] rfl rfl ?c1 ?c2 ?c3 ?c4 ?c5 ?_)
            case c1 => exact cell_one' w3 _ rfl _ _
            case c2 => intro u hu; simp at hu; rcases hu with rfl; rfl
            case c3 => unfold maxLen; omega
            case c4 => omega
            case c5 => have := HC3.out.size; simp; omega
            intro v' w4 hown' hgrow hnil
            have la := (Le.refl w3).alloc (.cells #[.int .i64 1] 3)
            have hR4 := (R3.out.more la).grown hgrow (fun q hq => by have := (HO3.out.lt q hq).1; omega)
            have hC4 := (HC3.out.more la).row hgrow (fun q hq => (HO3.out.lt q hq).1)
            have HN := Lib.hid (show v' ≠ .slice none 0 0 from hnil)
            have HO4 := Lib.hid hown'
            have HR4 := Lib.hid hR4
            have HC4 := Lib.hid hC4
            clear hown' hgrow hR4 hC4 hnil la
            obtain ⟨g4, cap4, rfl, _, _, _⟩ := own_formI HO4.out HN.out
            go_wp2
            go_ret
            refine ⟨g4, cap4, xs ++ [1], p' + 1 + 1, by rw [List.length_append, HL.out]; rfl, ?_, by rw [List.length_append, HL.out]; simp; omega, HR4.out, by omega, HC4.out⟩
            rw [List.length_append, HL.out, ints_snoc]
            exact HO4.out
set_option maxRecDepth 20000 in
set_option maxHeartbeats 2000000 in
theorem l20Index_any (W w : World) (g : Nat) (A : Option Addr) (n c p : Nat) (B : Option Addr) (k d : Nat) (h : Rd W w g A n c p) (hp : p ≤ 800000) (hk : k ≤ 7) :
    Calls Tryd.prog 64 #[.pointer (some ⟨g, 0, none⟩), .slice B k d] w fun e w' => ∃ (i : Int) (p' : Nat), e = .returned (.int .i64 i) ∧ (-9 ≤ i ∧ i ≤ 15) ∧ Rd W w' g A n c p' ∧ p' ≤ p + 3 ∧ Chg g (g + 1) w w' := by
  obtain ⟨M, hM, hM1⟩ : ∃ M : Nat, (if (k : Int) < 1 then 1 else (k : Int)) = (M : Int) ∧ (1 ≤ M ∧ M ≤ 7) := ⟨max k 1, by split <;> omega, by omega⟩
  have HP := Lib.hid (pick_any _ _ _ _ _ _ _ M h (by omega) (by omega) (by omega))
  clear h
  go_enter Tryd.func64, Tryd.ntmps64
  go_wp2_with fail
  refine HP.out.mono ?_; rintro e w1 ⟨x1, rfl, hx1, r1, c1⟩
  have C1 := Lib.hid c1
  have HP2 := Lib.hid (pick_any _ _ _ _ _ _ _ 30 r1 (by omega) (by omega) (by omega))
  clear r1 c1
  go_wp2_with fail
  refine HP2.out.mono ?_; rintro e w2 ⟨x2, rfl, hx2, r2, c2⟩
  have C2 := Lib.hid (C1.out.trans c2)
  have HP3 := Lib.hid (pick_any _ _ _ _ _ _ _ 30 r2 (by omega) (by omega) (by omega))
  clear r2 c2
  obtain ⟨z1, hz1, hz2⟩ : ∃ z1 : Nat, (x2 : Int) / 29 = (z1 : Int) ∧ z1 ≤ 1 := ⟨x2 / 29, by omega, by omega⟩
  go_wp2_with fail
  refine HP3.out.mono ?_; rintro e w3 ⟨x3, rfl, hx3, r3, c3⟩
  have C3 := Lib.hid (C2.out.trans c3)
  have R3 := Lib.hid r3
  clear r3 c3
  obtain ⟨u1, hu1, hu2⟩ : ∃ u1 : Nat, (x3 : Int) / 29 = (u1 : Int) ∧ u1 ≤ 1 := ⟨x3 / 29, by omega, by omega⟩
  go_wp2
  go_ret
  exact ⟨(x1 : Int) + (z1 : Int) * 8 - (u1 : Int) * 9, _, rfl, by omega, R3.out, by omega, C3.out⟩
end Go.Proofs.YtoahjfofnaafaaaDoor
