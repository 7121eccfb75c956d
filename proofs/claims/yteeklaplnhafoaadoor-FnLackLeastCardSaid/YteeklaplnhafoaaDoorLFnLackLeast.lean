/- Walk: FnLackLeast. -/
import Derived.Test.YteeklaplnhafoaaDoorWLaw2
import Derived.Test.YteeklaplnhafoaaDoorWMost
namespace Go.Proofs.YteeklaplnhafoaaDoor
open Go.RowKit

theorem lack_bad {ps : List (Int × Int)} {ws : List Int} (h : lackL ps ws < 0) : lackL ps ws = -1 := by
  obtain ⟨V, hV⟩ : ∃ V, (lotsL ps && wantsL ws) = V := ⟨_, rfl⟩
  cases V
  · exact lack_f hV
  · rw [Bool.and_eq_true] at hV
    have := lack_t hV.1 hV.2
    omega
theorem lack_good {ps : List (Int × Int)} {ws : List Int} (h : ¬ lackL ps ws < 0) : lotsL ps = true ∧ wantsL ws = true := by
  obtain ⟨V, hV⟩ : ∃ V, (lotsL ps && wantsL ws) = V := ⟨_, rfl⟩
  cases V
  · exact absurd (by rw [lack_f hV]; decide) h
  · rwa [Bool.and_eq_true] at hV

set_option maxRecDepth 20000 in
set_option maxHeartbeats 4000000 in
theorem law_FnLackLeast (w : World) (A : Option Addr) (n c : Nat) (h : RB w A n) (hc : n ≤ c) :
    Calls Tryd.prog 13 #[.slice A n c] w fun e w' => e = .returned (.bool true) ∧ Le w w' := by
  have hm := h.max
  by_cases hn : 1048576 < n
  · go_enter Tryd.func13, Tryd.ntmps13
    go_wp2
    go_ret
    exact ⟨rfl, Le.refl _⟩
  · have HD := Lib.hid (drawLackLeast_any A n c w h hc)
    clear h
    obtain ⟨i0, hi0, hz0, hz1, hz2⟩ := info_parts infoLot
    go_enter Tryd.func13, Tryd.ntmps13
    go_wp2_with fail
    refine HD.out.mono ?_; rintro e w1 ⟨gv, cap, k, ps, gx, capx, m, xs, rfl, d1, i1, l1⟩
    have hk6 := d1.small
    have hkc := d1.kcap
    have hm7 := i1.small
    have hmc := i1.kcap
    have HR := Lib.hid d1.rp
    have HI := Lib.hid i1.ri
    have L1 := Lib.hid l1
    have HL := Lib.hid d1.len
    have HM := Lib.hid i1.len
    have D1 := Lib.hid d1
    have I1 := Lib.hid i1
    clear d1 i1 l1
    go_wp2_with fail
    refine (implLack_any _ _ _ _ _ _ _ _ _ HR.out HI.out).mono ?_; rintro e w2 ⟨rfl, l2⟩
    have HR2 := Lib.hid (HR.out.le l2)
    have HI2 := Lib.hid (HI.out.le l2)
    have L2 := Lib.hid (L1.out.trans l2)
    have M2 := Lib.hid l2
    clear l2
    go_wp2_with fail
    refine (specLack_any _ _ _ _ _ _ _ _ _ HR2.out HI2.out).mono ?_; rintro e w3 ⟨rfl, l3⟩
    have HR3 := Lib.hid (HR2.out.le l3)
    have HI3 := Lib.hid (HI2.out.le l3)
    have L3 := Lib.hid (L2.out.trans l3)
    have M3 := Lib.hid (M2.out.trans l3)
    clear l3
    obtain ⟨V, hV⟩ : ∃ V, lackL ps xs = V := ⟨_, rfl⟩
    rw [hV]
    have HV := Lib.hid hV
    clear hV
    by_cases hv0 : V < 0
    · have hv := lack_bad (ps := ps) (ws := xs) (by rw [HV.out]; exact hv0)
      rw [HV.out] at hv
      subst hv
      go_wp2_with fail
      refine (alive_any w3).mono ?_; rintro e w4 ⟨rfl, l4⟩
      go_wp2
      go_ret
      exact ⟨rfl, L3.out.trans l4⟩
    · obtain ⟨hb1, hb2⟩ := lack_good (ps := ps) (ws := xs) (by rw [HV.out]; exact hv0)
      have HF := Lib.hid (fun h3 => lack_fresh hb1 hb2 h3)
      clear hb1 hb2
      rw [HV.out] at HF
      go_wp2_with (at_builtin; refine wpList_append_own_g (by rfl) (some 32) rfl (.tmp 30) (.tmp 31) 23 rfl w3.heap.size 40 i0 _ 2 16 Tryd.underlying23 hi0 hz0 hz1 hz2 rfl (by decide) (.slice (some ⟨w3.heap.size, 0, none⟩) 0 0) 0 [] rfl (own_empty _ _ _) ⟨gv, 0, none⟩ k cap (pairs ps) rfl (by rw [pairs_length, HL.out]) (fun j u hj => (own_Le D1.out.own (M3.out.trans ((Le.refl w3).alloc _))).cells (g := gv) rfl j u hj) (pairs_one _) (by unfold maxLen; omega) (by omega) (by simp) ?_)
      intro va wa owa ga _
      have la : Le w3 wa := ((Le.refl w3).alloc _).grown ga (fun q hq => by simp [Value.ownBlock] at hq; omega)
      have HWA := Lib.hid owa
      have LA := Lib.hid la
      clear owa ga la
      go_wp2_with (at_builtin; refine wpList_append_own_g (by rfl) (some 36) rfl (.tmp 32) (.tmp 35) 23 rfl w3.heap.size 40 i0 _ 2 16 Tryd.underlying23 hi0 hz0 hz1 hz2 rfl (by decide) va (0 + k) ([] ++ pairs ps) rfl (HWA.out.alloc _) ⟨wa.heap.size, 0, none⟩ 1 1 [.int .i64 V, .int .i64 5] rfl rfl (cell_two' wa _ rfl _ _ _) (fun u hu => by simp at hu; rcases hu with rfl | rfl <;> rfl) (by unfold maxLen; omega) (by omega) (by have := LA.out.size; simp; omega) ?_)
      intro vb wb owb gb _
      have lb : Le w3 wb := (LA.out.alloc _).grown gb (fun q hq => (HWA.out.lt q hq).1)
      have owb : wb.ownsRow w3.heap.size 40 2 vb (k + 1) (pairs (ps ++ [(V, 5)])) := by
        rw [pairs_snoc, Nat.zero_add, List.nil_append] at *
        exact owb
      obtain ⟨B, d, rfl, hrp⟩ := own_RP owb (by omega)
      have HRP := Lib.hid hrp
      have LB := Lib.hid lb
      have HIB := Lib.hid (HI3.out.le lb)
      clear owb gb lb hrp
      go_wp2_with fail
      refine (implLotsValid_any _ _ _ _ _ HRP.out).mono ?_; rintro e w5 ⟨rfl, l5⟩
      obtain ⟨U, hU⟩ : ∃ U, lotsL (ps ++ [(V, 5)]) = U := ⟨_, rfl⟩
      rw [hU]
      cases U
      · go_wp2
        go_ret
        exact ⟨rfl, L3.out.trans (LB.out.trans l5)⟩
      · have hf := HF.out hU
        have HF2 := Lib.hid hf
        have HRP5 := Lib.hid (HRP.out.le l5)
        have HI5 := Lib.hid (HIB.out.le l5)
        have L5 := Lib.hid (L3.out.trans (LB.out.trans l5))
        clear hf hU l5
        go_wp2_with fail
        refine (implLack_any _ _ _ _ _ _ _ _ _ HRP5.out HI5.out).mono ?_; rintro e w6 ⟨rfl, l6⟩
        rw [HF2.out]
        go_wp2
        go_ret
        exact ⟨rfl, L5.out.trans l6⟩
end Go.Proofs.YteeklaplnhafoaaDoor
