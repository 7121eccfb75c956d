/- Walk: FnMarksOf. -/
import Derived.Test.YtbkjfgbafphopaaDoorLFnUsesOf
namespace Go.Proofs.YtbkjfgbafphopaaDoor
open Go.RowKit

set_option maxRecDepth 20000 in
set_option maxHeartbeats 16000000 in
theorem law_FnMarksOf (w : World) (A : Option Addr) (n c : Nat) (h : RB w A n) (hc : n ≤ c) :
    Calls Tryd.prog 8 #[.slice A n c] w fun e w' => e = .returned (.bool true) ∧ Le w w' := by
  have hm := h.max
  by_cases hn : 1048576 < n
  · go_enter Tryd.func8, Tryd.ntmps8
    go_wp2
    go_ret
    exact ⟨rfl, Le.refl _⟩
  · have HD := Lib.hid (drawMarksOf_any A n c w h hc)
    clear h
    obtain ⟨i0, hi0, hz0, hz1, hz2⟩ := info_parts infoItem
    go_enter Tryd.func8, Tryd.ntmps8
    go_wp2_with fail
    refine HD.out.mono ?_; rintro e w1 ⟨gv, cap, n2, ts, ix, rfl, d1, hix, l1⟩
    have hk7 := d1.small
    have HR := Lib.hid d1.rm
    have L1 := Lib.hid l1
    have HK := Lib.hid d1.len
    clear d1 l1
    go_wp2_with fail
    refine (implMarks_any _ _ _ _ _ _ HR.out).mono ?_; rintro e w2 ⟨rfl, l2⟩
    go_wp2_with fail
    refine (specMarks_any _ _ _ _ _ _ (HR.out.le l2)).mono ?_; rintro e w3 ⟨rfl, l3⟩
    have L3 := Lib.hid (l2.trans l3)
    clear l2 l3
    by_cases hok : itemsL ts = true ∧ 0 ≤ ix ∧ ix < n2
    · obtain ⟨hv, hi0', hi1⟩ := hok
      obtain ⟨i, rfl⟩ := Int.eq_ofNat_of_zero_le hi0'
      have hin : i < n2 := by omega
      have HV := Lib.hid hv
      have HLW := Lib.hid (items_low HK.out hv)
      have hmk : ∀ q, q < n2 → marksOfL ts (q : Int) = ((mkN ts q : Nat) : Int) ∧ mkN ts q < 32 := fun q hq => marks_at HK.out hq hv
      have hus := usesL_in hv (show i < ts.length by rw [HK.out]; exact hin)
      have HUS := Lib.hid hus
      have hs64 := usN_lt HK.out hv hin
      have HCM := Lib.hid (clean_marks hv (show i < ts.length by rw [HK.out]; exact hin))
      rw [(hmk i hin).1]
      have hx32 := (hmk i hin).2
      have HMK := Lib.hid hmk
      obtain ⟨x, hx⟩ : ∃ x, mkN ts i = x := ⟨_, rfl⟩
      have HX0 := Lib.hid hx
      rw [hx] at hx32
      rw [hx]
      clear hv hmk hx hi0' hi1 hix hus
      have hss : ((x : Int) != (x : Int)) = false := by simp
      have hs0 : ¬ (x : Int) < 0 := by omega
      go_wp2_with fail
      refine (implUses_any _ _ _ _ _ _ (HR.out.le L3.out)).mono ?_; rintro e w4 ⟨rfl, l4⟩
      rw [HUS.out]
      have L4 := Lib.hid (L3.out.trans l4)
      clear l4
      obtain ⟨s, hs⟩ : ∃ s, usN ts i = s := ⟨_, rfl⟩
      have HS := Lib.hid hs
      rw [hs] at hs64
      rw [hs]
      clear hs
      have HR4 := Lib.hid (HR.out.le L4.out)
      have O4 := Lib.hid (own_empty w4 26 3)
      go_wp2
      go_loopw [7, 8] (fun v u wr => ∃ (q : Nat) (xs : List Value), q ≤ n2 ∧ u = .int .i64 (q : Int) ∧ v ≠ .slice none 0 0 ∧ wr.ownsRow w4.heap.size 26 3 v q xs ∧ (∀ j, j < q → ∃ B m c, xs[j * 3]? = some (.int .i64 (gm ts j).1) ∧ xs[j * 3 + 1]? = some (.slice B m c) ∧ xs[j * 3 + 2]? = some (.int .i64 0) ∧ RP w4 B m (gm ts j).2.1) ∧ Le w4 wr) (fun _ u _ => n2 - (intOf u).toNat)
      case atStart => exact ⟨0, [], Nat.zero_le _, rfl, (fun e => by cases e), O4.out, fun j hj => absurd hj (by omega), (Le.refl _).alloc _⟩
      case round =>
        obtain ⟨q, xs, hq, rfl, hnn, hown, hcl, hle⟩ := hrel
        have HLE := Lib.hid hle
        have HX := Lib.hid hcl
        have HXL := Lib.hid hown.1
        obtain ⟨gc, cc, rfl, hgc1, hgc2, hgc3⟩ : ∃ gc cc, u7 = .slice (some ⟨gc, 0, none⟩) q cc ∧ w4.heap.size ≤ gc ∧ q ≤ cc ∧ cc ≤ maxLen := by
          rcases hown.2 with ⟨e, _⟩ | ⟨g', cap', cur, e, h1, _, h2, h3, _⟩
          · exact absurd e hnn
          · exact ⟨g', cap', e, h1, h2, h3⟩
        have OX := Lib.hid hown
        clear hle hcl hown hnn
        by_cases hlt : q < n2
        · have hq32 := (HMK.out q hlt).2
          go_wp2_with fail
          refine (implMarks_any _ _ _ _ _ _ (HR4.out.le HLE.out)).mono ?_; rintro e w5 ⟨rfl, l5⟩
          rw [(HMK.out q hlt).1]
          have HLE5 := Lib.hid (HLE.out.trans l5)
          have OX5 := Lib.hid (own_Le OX.out l5)
          clear l5
          obtain ⟨y, hy⟩ : ∃ y, mkN ts q = y := ⟨_, rfl⟩
          have HYM := Lib.hid hy
          rw [hy] at hq32
          rw [hy]
          clear hy
          clear HLE OX
          go_wp2
          go_loop [10] (fun u => ∃ b : Nat, b ≤ 5 ∧ u = .int .i64 (b : Int)) (fun u => 5 - (intOf u).toNat)
          case atStart => exact ⟨0, Nat.zero_le _, rfl⟩
          case round =>
            obtain ⟨b, hb, rfl⟩ := hrel
            by_cases hb5 : b < 5
            · rcases bit_cases s q with ⟨b1, e1⟩ | ⟨b1, e1⟩
              · rcases bit_cases y b with ⟨b2, e2⟩ | ⟨b2, e2⟩
                · rcases bit_cases x b with ⟨b3, e3⟩ | ⟨b3, e3⟩
                  · clear b1 b2 b3
                    go_wp2
                    go_round
                    case rel => exact ⟨b + 1, by omega, by go_num⟩
                    case measure => simp [intOf]; omega
                  · exfalso
                    have := mkN_sub HLW.out hin (k := q) (b := b) (by rw [show usN ts i = s from HS.out]; exact b1) (by rw [HYM.out]; exact b2)
                    rw [HX0.out] at this
                    exact b3 this
                · clear b1 b2
                  go_wp2
                  go_round
                  case rel => exact ⟨b + 1, by omega, by go_num⟩
                  case measure => simp [intOf]; omega
              · clear b1
                go_wp2
                go_round
                case rel => exact ⟨b + 1, by omega, by go_num⟩
                case measure => simp [intOf]; omega
            · obtain rfl : b = 5 := by omega
              obtain ⟨ad, B, m1, d1, ead, k0, k1, _, rq⟩ := HR4.out.at_ q hlt
              injection ead with ead
              subst ead
              obtain ⟨Y, hY⟩ : ∃ Y, (gm ts q).1 = Y := ⟨_, rfl⟩
              rw [hY, addr0] at k0
              rw [addr0] at k1
              simp only at k1
              have HY := Lib.hid hY
              have HRQ := Lib.hid rq
              clear hY rq
              go_wp2
              have O0 := Lib.hid (own_drew OX5.out)
              have SW : Le w4 w5.drew := HLE5.out.drew
              refine wp_region_held_drew (S := fun w' => Le w4 w') (by kernel_rfl) SW (fun _ => ?_)
              obtain ⟨wd0, hwd0⟩ : ∃ wd0, w5.drew = wd0 := ⟨_, rfl⟩
              rw [hwd0] at SW O0
              rw [hwd0]
              clear hwd0
              refine wpAnyH_takeL (i := 0) (v := ?_) rfl (by kernel_rfl) (by kernel_rfl) (by kernel_rfl) (fun _ _ _ h => h) (Or.inl ⟨by rfl, ?_⟩) (by assumption) ?_
              rotate_left
              · (intro w' hSw; (try dsimp only at hSw); go_simp; all_goals with_reducible rfl)
              repeat (first | simp only [Act.put] | simp only [List.setIfInBounds_toArray] | simp only [List.set_cons_succ] | simp only [List.set_cons_zero])
              refine wpAnyH_takeL (i := 1) (v := ?_) rfl (by kernel_rfl) (by kernel_rfl) (by kernel_rfl) (fun _ _ _ h => h) (Or.inl ⟨by rfl, ?_⟩) (by assumption) ?_
              rotate_left
              · (intro w' hSw; (try dsimp only at hSw); go_simp; all_goals with_reducible rfl)
              repeat (first | simp only [Act.put] | simp only [List.setIfInBounds_toArray] | simp only [List.set_cons_succ] | simp only [List.set_cons_zero])
              refine wpAnyH_takeL (i := 2) (v := ?_) rfl (by kernel_rfl) (by kernel_rfl) (by kernel_rfl) (fun _ _ _ h => h) (Or.inl ⟨by rfl, ?_⟩) (by assumption) ?_
              rotate_left
              · (intro w' hSw; (try dsimp only at hSw); go_simp; all_goals with_reducible rfl)
              repeat (first | simp only [Act.put] | simp only [List.setIfInBounds_toArray] | simp only [List.set_cons_succ] | simp only [List.set_cons_zero])
              refine wpAnyH_takeL (i := 3) (v := ?_) rfl (by kernel_rfl) (by kernel_rfl) (by kernel_rfl) (fun _ _ _ h => h) (Or.inl ⟨by rfl, ?_⟩) (by assumption) ?_
              rotate_left
              · (intro w' hSw; (try dsimp only at hSw); go_simp; all_goals with_reducible rfl)
              repeat (first | simp only [Act.put] | simp only [List.setIfInBounds_toArray] | simp only [List.set_cons_succ] | simp only [List.set_cons_zero])
              refine wpAnyH_takeL (i := 4) (v := ?_) rfl (by kernel_rfl) (by kernel_rfl) (by kernel_rfl) (fun _ _ _ h => h) (Or.inl ⟨by rfl, ?_⟩) (by assumption) ?_
              rotate_left
              · (intro w' hSw; (try dsimp only at hSw); go_simp; all_goals with_reducible rfl)
              repeat (first | simp only [Act.put] | simp only [List.setIfInBounds_toArray] | simp only [List.set_cons_succ] | simp only [List.set_cons_zero])
              refine wpAnyH_takeL (i := 5) (v := ?_) rfl (by kernel_rfl) (by kernel_rfl) (by kernel_rfl) (fun _ _ _ h => h) (Or.inl ⟨by rfl, ?_⟩) (by assumption) ?_
              rotate_left
              · (intro w' hSw; have cX0 := Le.cell hSw k0; (try dsimp only at hSw); go_simp; all_goals with_reducible rfl)
              repeat (first | simp only [Act.put] | simp only [List.setIfInBounds_toArray] | simp only [List.set_cons_succ] | simp only [List.set_cons_zero])
              refine wpAnyH_takeL (i := 6) (v := ?_) rfl (by kernel_rfl) (by kernel_rfl) (by kernel_rfl) (fun _ _ _ h => h) (Or.inl ⟨by rfl, ?_⟩) (by assumption) ?_
              rotate_left
              · (intro w' hSw; (try dsimp only at hSw); go_simp; all_goals with_reducible rfl)
              repeat (first | simp only [Act.put] | simp only [List.setIfInBounds_toArray] | simp only [List.set_cons_succ] | simp only [List.set_cons_zero])
              refine wpAnyH_takeL (i := 7) (v := ?_) rfl (by kernel_rfl) (by kernel_rfl) (by kernel_rfl) (fun _ _ _ h => h) (Or.inl ⟨by rfl, ?_⟩) (by assumption) ?_
              rotate_left
              · (intro w' hSw; (try dsimp only at hSw); go_simp; all_goals with_reducible rfl)
              repeat (first | simp only [Act.put] | simp only [List.setIfInBounds_toArray] | simp only [List.set_cons_succ] | simp only [List.set_cons_zero])
              refine wpAnyH_takeL (i := 8) (v := ?_) rfl (by kernel_rfl) (by kernel_rfl) (by kernel_rfl) (fun _ _ _ h => h) (Or.inl ⟨by rfl, ?_⟩) (by assumption) ?_
              rotate_left
              · (intro w' hSw; (try dsimp only at hSw); go_simp; all_goals with_reducible rfl)
              repeat (first | simp only [Act.put] | simp only [List.setIfInBounds_toArray] | simp only [List.set_cons_succ] | simp only [List.set_cons_zero])
              refine wpAnyH_takeL (i := 9) (v := ?_) rfl (by kernel_rfl) (by kernel_rfl) (by kernel_rfl) (fun _ _ _ h => h) (Or.inl ⟨by rfl, ?_⟩) (by assumption) ?_
              rotate_left
              · (intro w' hSw; (try dsimp only at hSw); go_simp; all_goals with_reducible rfl)
              repeat (first | simp only [Act.put] | simp only [List.setIfInBounds_toArray] | simp only [List.set_cons_succ] | simp only [List.set_cons_zero])
              refine wpAnyH_takeL (i := 10) (v := ?_) rfl (by kernel_rfl) (by kernel_rfl) (by kernel_rfl) (fun _ _ _ h => h) (Or.inl ⟨by rfl, ?_⟩) (by assumption) ?_
              rotate_left
              · (intro w' hSw; have cX1 := Le.cell hSw k1; (try dsimp only at hSw); go_simp; all_goals with_reducible rfl)
              repeat (first | simp only [Act.put] | simp only [List.setIfInBounds_toArray] | simp only [List.set_cons_succ] | simp only [List.set_cons_zero])
              refine wpAnyH_takeL (i := 11) (v := ?_) rfl (by kernel_rfl) (by kernel_rfl) (by kernel_rfl) (fun _ _ _ h => h) (Or.inl ⟨by rfl, ?_⟩) (by assumption) ?_
              rotate_left
              · (intro w' hSw; (try dsimp only at hSw); go_simp; all_goals with_reducible rfl)
              repeat (first | simp only [Act.put] | simp only [List.setIfInBounds_toArray] | simp only [List.set_cons_succ] | simp only [List.set_cons_zero])
              refine wpAnyH_ready (rs := [12]) (by kernel_rfl) (by simp) ?_
              refine consL (i := 12) rfl (fun K hK => ?_) AllReadyH.nil
              go_simp
              have SW1 := SW.alloc (.cells #[.int .i64 Y, .slice B m1 d1, .int .i64 0] 26)
              refine hK.out _ _ SW1 (fun _ => ?_)
              clear hK K
              repeat (first | simp only [Act.put] | simp only [List.setIfInBounds_toArray] | simp only [List.set_cons_succ] | simp only [List.set_cons_zero])
              refine wpAnyH_ready (rs := [13]) (by kernel_rfl) (by simp) ?_
              refine consL (i := 13) rfl (fun K hK => ?_) AllReadyH.nil
              refine step_append_own (by rfl) (some 83) (by rfl) _ _ 33 (by rfl) w4.heap.size 26 i0 _ 3 40 Tryd.underlying33 hi0 hz0 hz1 hz2 rfl (by decide) (.slice (some ⟨gc, 0, none⟩) q cc) q xs (by rfl) (O0.out.alloc _) ⟨wd0.heap.size, 0, none⟩ 1 1 [.int .i64 Y, .slice B m1 d1, .int .i64 0] (by rfl) rfl (cell_three' wd0 _ rfl _ _ _ _) (fun u hu => by simp at hu; rcases hu with rfl | rfl | rfl <;> rfl) (by unfold maxLen; omega) (by omega) (by have := SW1.size; omega) ?_
              intro v' w6 hown' hgrow hnil
              have SW6 : Le w4 w6 := SW1.grown hgrow (fun g' hg' => (O0.out.lt g' hg').1)
              have HN := Lib.hid (show v' ≠ .slice none 0 0 from fun e => by cases (hnil.1 e).1)
              have HO := Lib.hid hown'
              clear hown' hgrow hnil
              refine hK.out _ _ SW6 (fun _ => ?_)
              clear hK K
              repeat (first | simp only [Act.put] | simp only [List.setIfInBounds_toArray] | simp only [List.set_cons_succ] | simp only [List.set_cons_zero])
              refine wpAnyH_takeL (i := 14) (v := ?_) rfl (by kernel_rfl) (by kernel_rfl) (by kernel_rfl) (fun _ _ _ h => h) (Or.inl ⟨by rfl, ?_⟩) (by assumption) ?_
              rotate_left
              · (intro w' hSw; (try dsimp only at hSw); go_simp; all_goals with_reducible rfl)
              repeat (first | simp only [Act.put] | simp only [List.setIfInBounds_toArray] | simp only [List.set_cons_succ] | simp only [List.set_cons_zero])
              refine wpAnyH_done (by kernel_rfl) ?_ _
              clear k0 k1
              go_wp2
              go_roundw
              case rel =>
                refine ⟨q + 1, _, by omega, by go_num, HN.out, HO.out, fun j hj => ?_, SW6⟩
                by_cases e : j = q
                · subst e
                  refine ⟨B, m1, d1, ?_, ?_, ?_, HRQ.out⟩
                  · rw [List.getElem?_append_right (by have := HXL.out; omega), HXL.out, Nat.sub_self, HY.out]; rfl
                  · rw [List.getElem?_append_right (by have := HXL.out; omega), HXL.out, show j * 3 + 1 - j * 3 = 1 by omega]; rfl
                  · rw [List.getElem?_append_right (by have := HXL.out; omega), HXL.out, show j * 3 + 2 - j * 3 = 2 by omega]; rfl
                · obtain ⟨B', m', c', h1, h2, h3, r⟩ := HX.out j (by omega)
                  have hxl := HXL.out
                  refine ⟨B', m', c', ?_, ?_, ?_, r⟩
                  · rw [List.getElem?_append_left (by omega)]; exact h1
                  · rw [List.getElem?_append_left (by omega)]; exact h2
                  · rw [List.getElem?_append_left (by omega)]; exact h3
              case measure => simp [intOf]; omega
        · obtain rfl : q = n2 := by omega
          obtain ⟨Ab, cb, eb, rb⟩ := RM.of_row OX.out (ts := cleanL ts) (by rw [clean_len, HK.out]) (by omega) (fun j hj => by
            obtain ⟨B, m, c', h1, h2, h3, r⟩ := HX.out j hj
            rw [clean_gm]
            exact ⟨B, m, c', h1, h2, h3, r.le HLE.out⟩)
          injection eb with eb _ _
          subst eb
          have RBQ := Lib.hid rb
          have hx31 : (x : Int) ≤ 31 := by omega
          clear rb
          go_wp2_with fail
          refine (implMarks_any _ _ _ _ _ _ RBQ.out).mono ?_; rintro e w5 ⟨rfl, l5⟩
          rw [HCM.out]
          go_wp2
          go_ret
          exact ⟨rfl, L1.out.trans (L4.out.trans (HLE.out.trans l5))⟩
    · have hu : marksOfL ts ix = -1 := by
        unfold marksOfL; rw [if_neg (by rw [HK.out]; exact hok)]
      rw [hu]
      clear hu hok
      go_wp2_with fail
      refine (alive_any _).mono ?_; rintro e w4 ⟨rfl, l4⟩
      go_wp2
      go_ret
      exact ⟨rfl, L1.out.trans (L3.out.trans l4)⟩
end Go.Proofs.YtbkjfgbafphopaaDoor
