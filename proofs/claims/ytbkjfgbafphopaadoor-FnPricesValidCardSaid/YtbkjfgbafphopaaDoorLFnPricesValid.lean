/- Walk: FnPricesValid. -/
import Derived.Test.YtbkjfgbafphopaaDoorWLawD
import Derived.Test.YtbkjfgbafphopaaDoorPPlanB
import Derived.Test.YtbkjfgbafphopaaDoorWAlive
namespace Go.Proofs.YtbkjfgbafphopaaDoor
open Go.RowKit

set_option maxRecDepth 20000 in
set_option maxHeartbeats 8000000 in
theorem law_FnPricesValid (w : World) (A : Option Addr) (n c : Nat) (h : RB w A n) (hc : n ≤ c) :
    Calls Tryd.prog 6 #[.slice A n c] w fun e w' => e = .returned (.bool true) ∧ Le w w' := by
  have hm := h.max
  by_cases hn : 1048576 < n
  · go_enter Tryd.func6, Tryd.ntmps6
    go_wp2
    go_ret
    exact ⟨rfl, Le.refl _⟩
  · have HD := Lib.hid (drawPricesValid_any A n c w h hc)
    clear h
    obtain ⟨i0, hi0, hz0, hz1, hz2⟩ := info_parts infoIntD
    go_enter Tryd.func6, Tryd.ntmps6
    go_wp2_with fail
    refine HD.out.mono ?_; rintro e w1 ⟨gv, cap, k, ts, gx, cx, m, xs, rfl, d1, x1, l1⟩
    have hk7 := d1.small
    have hm8 := x1.small
    have hmc := x1.kcap
    have hcm := x1.capm
    have X1 := Lib.hid x1
    have HR := Lib.hid d1.rm
    have HX := Lib.hid x1.ri
    have L1 := Lib.hid l1
    have HK := Lib.hid d1.len
    clear d1 x1 l1
    go_wp2_with fail
    refine (implPrices_any _ _ _ _ _ _ _ _ _ HR.out HX.out).mono ?_; rintro e w2 ⟨rfl, l2⟩
    go_wp2_with fail
    refine (specPrices_any _ _ _ _ _ _ _ _ _ (HR.out.le l2) (HX.out.le l2)).mono ?_; rintro e w3 ⟨rfl, l3⟩
    obtain ⟨V, hV⟩ : ∃ V, pricesL ts xs = V := ⟨_, rfl⟩
    rw [hV]
    have hbb : (V != V) = false := by simp
    have L3 := Lib.hid (l2.trans l3)
    have HV := Lib.hid hV
    clear l2 l3 hV
    obtain ⟨U, hU⟩ : ∃ U, itemsL ts = U := ⟨_, rfl⟩
    have HU := Lib.hid hU
    have HZ := Lib.hid (show pricesL ts (List.replicate k 0) = U from by have := prices_zero ts; rw [HK.out] at this; rw [this, hU])
    have hUU : (U == U) = true := by simp
    clear hU
    have hmk := run_mk (P := Tryd.prog) 44 3 (.int .i64 0) 1 8 Tryd.underlying44 infoIntD k (by omega) (by omega) w3
    simp only [Nat.mul_one] at hmk
    have HM := Lib.hid (made_RI w3 k (by omega))
    have LM := Lib.hid ((Le.refl w3).alloc (.cells (madeCells #[.int .i64 0] k) 3))
    go_wp2_with fail
    refine (implPrices_any _ _ _ _ _ _ _ _ _ (HR.out.le (L3.out.trans LM.out)) HM.out).mono ?_; rintro e w4 ⟨rfl, l4⟩
    rw [HZ.out]
    have L4 := Lib.hid (L3.out.trans (LM.out.trans l4))
    clear l4 hmk
    go_wp2_with fail
    refine (implItemsValid_any _ _ _ _ _ (HR.out.le L4.out)).mono ?_; rintro e w5 ⟨rfl, l5⟩
    rw [HU.out]
    have L5 := Lib.hid (L4.out.trans l5)
    clear l5
    cases V
    · go_wp2_with fail
      refine (alive_any _).mono ?_; rintro e w6 ⟨rfl, l6⟩
      go_wp2
      go_ret
      exact ⟨rfl, L1.out.trans (L5.out.trans l6)⟩
    · have X5 := Lib.hid (X1.out.le L5.out)
      have HMO := Lib.hid (show pricesL ts (xs ++ [0]) = false from prices_more HV.out)
      go_wp2_with (at_builtin; refine wpList_append_own_g (by rfl) (some 37) rfl _ _ 44 rfl w5.heap.size 3 i0 _ 1 8 Tryd.underlying44 hi0 hz0 hz1 hz2 rfl (by decide) (.slice (some ⟨w5.heap.size, 0, none⟩) 0 0) 0 [] rfl (own_empty _ _ _) ⟨gx, 0, none⟩ m cx (ints xs) rfl (by rw [ints_length, X5.out.len]; omega) (fun j u hj => (own_Le X5.out.own ((Le.refl w5).alloc _)).cells (g := gx) rfl j u hj) (ints_one1 _) (by unfold maxLen; omega) (by omega) (by simp) ?_)
      intro va wa owa ga _
      have la : Le w5 wa := ((Le.refl w5).alloc _).grown ga (fun q hq => by simp [Value.ownBlock] at hq; omega)
      have HWA := Lib.hid owa
      have LA := Lib.hid la
      clear owa ga la
      go_wp2_with (at_builtin; refine wpList_append_own_g (by rfl) (some 39) rfl _ _ 44 rfl w5.heap.size 3 i0 _ 1 8 Tryd.underlying44 hi0 hz0 hz1 hz2 rfl (by decide) va (0 + m) ([] ++ ints xs) rfl (HWA.out.alloc _) ⟨wa.heap.size, 0, none⟩ 1 1 [.int .i64 0] rfl rfl (cell_one' wa _ rfl _ _) (fun u hu => by simp at hu; rcases hu with rfl; rfl) (by unfold maxLen; omega) (by omega) (by have := LA.out.size; simp; omega) ?_)
      intro vb wb owb gb _
      have lb : Le w5 wb := (LA.out.alloc _).grown gb (fun q hq => (HWA.out.lt q hq).1)
      rw [List.nil_append, Nat.zero_add, ← ints_snoc] at owb
      obtain ⟨B, d, rfl, hri⟩ := own_RI owb (by omega)
      have HRI := Lib.hid hri
      have LB := Lib.hid lb
      clear owb gb lb hri
      go_wp2_with fail
      refine (implPrices_any _ _ _ _ _ _ _ _ _ (HR.out.le (L5.out.trans LB.out)) HRI.out).mono ?_; rintro e w6 ⟨rfl, l6⟩
      rw [HMO.out]
      go_wp2_with fail
      refine (alive_any _).mono ?_; rintro e w7 ⟨rfl, l7⟩
      go_wp2
      go_ret
      exact ⟨rfl, L1.out.trans (L5.out.trans (LB.out.trans (l6.trans l7)))⟩
end Go.Proofs.YtbkjfgbafphopaaDoor
