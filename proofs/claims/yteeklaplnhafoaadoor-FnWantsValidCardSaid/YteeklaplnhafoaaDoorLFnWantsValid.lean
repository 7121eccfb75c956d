/- Walk: FnWantsValid. -/
import Derived.Test.YteeklaplnhafoaaDoorWLaw
namespace Go.Proofs.YteeklaplnhafoaaDoor
open Go.RowKit

theorem ints_repl (n : Nat) : (ints (List.replicate n 0)).toArray = madeCells #[.int .i64 0] n := by
  apply Array.ext
  · simp [ints, madeCells]
  · intro i h1 h2
    simp [ints, madeCells, Nat.mod_one]

set_option maxRecDepth 20000 in
set_option maxHeartbeats 4000000 in
theorem law_FnWantsValid (w : World) (A : Option Addr) (n c : Nat) (h : RB w A n) (hc : n ≤ c) :
    Calls Tryd.prog 6 #[.slice A n c] w fun e w' => e = .returned (.bool true) ∧ Le w w' := by
  have hm := h.max
  by_cases hn : 1048576 < n
  · go_enter Tryd.func6, Tryd.ntmps6
    go_wp2
    go_ret
    exact ⟨rfl, Le.refl _⟩
  · have HD := Lib.hid (drawWants_any A n c w h hc)
    clear h
    obtain ⟨i0, hi0, hz0, hz1, hz2⟩ := info_parts infoInt
    go_enter Tryd.func6, Tryd.ntmps6
    go_wp2_with fail
    refine HD.out.mono ?_; rintro e w1 ⟨gv, cap, k, xs, rfl, d1, l1⟩
    have hk7 := d1.small
    have hkc := d1.kcap
    have hr := d1.ri
    have D1 := Lib.hid d1
    have HR := Lib.hid hr
    have L1 := Lib.hid l1
    clear d1 hr l1
    go_wp2_with fail
    refine (implWantsValid_any _ _ _ _ _ HR.out).mono ?_; rintro e w' ⟨rfl, rfl⟩
    go_wp2_with fail
    refine (specWantsValid_any _ _ _ _ _ HR.out).mono ?_; rintro e w' ⟨rfl, rfl⟩
    obtain ⟨V, hV⟩ : ∃ V, wantsL xs = V := ⟨_, rfl⟩
    rw [hV]
    have hbb : (V != V) = false := by simp
    have HV := Lib.hid hV
    clear hV
    cases V
    · go_wp2_with (at_builtin; refine wpList_append_own_g (by rfl) (some 27) rfl (.tmp 25) (.tmp 26) 24 rfl w1.heap.size 3 i0 _ 1 8 Tryd.underlying24 hi0 hz0 hz1 hz2 rfl (by decide) (.slice (some ⟨w1.heap.size, 0, none⟩) 1 1) 1 [.int .i64 (-1)] rfl (own_one1 w1 _ (Nat.le_refl _) _ _) ⟨gv, 0, none⟩ k cap (ints xs) rfl (by rw [ints_length, D1.out.len]; omega) (fun j u hj => (own_Le D1.out.own ((Le.refl w1).alloc _)).cells (g := gv) rfl j u hj) (ints_one _) (by unfold maxLen; omega) (by omega) (by simp) ?_)
      intro va wa owa ga _
      have la : Le w1 wa := ((Le.refl w1).alloc _).grown ga (fun q hq => by simp [Value.ownBlock] at hq; omega)
      obtain ⟨B, d, rfl, hri⟩ := own_RI (xs := [-1] ++ xs) (n := 1 + k) owa (by omega)
      have HRI := Lib.hid hri
      have LA := Lib.hid la
      clear owa ga la hri
      go_wp2_with fail
      refine (implWantsValid_any _ _ _ _ _ HRI.out).mono ?_; rintro e w' ⟨rfl, rfl⟩
      rw [wants_neg]
      go_wp2_with fail
      refine (alive_any wa).mono ?_; rintro e w7 ⟨rfl, l7⟩
      go_wp2
      go_ret
      exact ⟨rfl, L1.out.trans (LA.out.trans l7)⟩
    · have hmk := run_mk (P := Tryd.prog) 24 3 (.int .i64 0) 1 8 Tryd.underlying24 infoInt k (by omega) (by omega)
      obtain ⟨wz, hwz⟩ : ∃ wz, w1.alloc (.cells (madeCells #[.int .i64 0] k) 3) = wz := ⟨_, rfl⟩
      have lz : Le w1 wz := by rw [← hwz]; exact (Le.refl w1).alloc _
      have bz : BlkI wz w1.heap.size (List.replicate k 0) := by
        rw [← hwz]; unfold BlkI; rw [ints_repl]; exact Blk.new _ _ _
      have rz := BlkI.RI_ bz (n := k) (by simp) (by omega)
      have LZ := Lib.hid lz
      have RZ := Lib.hid rz
      have WZ := Lib.hid (wants_zeros HV.out D1.out.len)
      clear lz bz rz
      go_wp2_with fail
      refine (implWantsValid_any _ _ _ _ _ RZ.out).mono ?_; rintro e w' ⟨rfl, rfl⟩
      rw [WZ.out]
      clear hmk hwz
      go_wp2_with (at_builtin; refine wpList_append_own_g (by rfl) (some 27) rfl (.tmp 25) (.tmp 26) 24 rfl wz.heap.size 3 i0 _ 1 8 Tryd.underlying24 hi0 hz0 hz1 hz2 rfl (by decide) (.slice (some ⟨wz.heap.size, 0, none⟩) 1 1) 1 [.int .i64 (-1)] rfl (own_one1 wz _ (Nat.le_refl _) _ _) ⟨gv, 0, none⟩ k cap (ints xs) rfl (by rw [ints_length, D1.out.len]; omega) (fun j u hj => (own_Le D1.out.own (LZ.out.trans ((Le.refl wz).alloc _))).cells (g := gv) rfl j u hj) (ints_one _) (by unfold maxLen; omega) (by omega) (by simp) ?_)
      intro va wa owa ga _
      have la : Le wz wa := ((Le.refl wz).alloc _).grown ga (fun q hq => by simp [Value.ownBlock] at hq; omega)
      obtain ⟨B, d, rfl, hri⟩ := own_RI (xs := [-1] ++ xs) (n := 1 + k) owa (by omega)
      have HRI := Lib.hid hri
      have LA := Lib.hid la
      clear owa ga la hri
      go_wp2_with fail
      refine (implWantsValid_any _ _ _ _ _ HRI.out).mono ?_; rintro e w' ⟨rfl, rfl⟩
      rw [wants_neg]
      go_wp2_with fail
      refine (alive_any wa).mono ?_; rintro e w7 ⟨rfl, l7⟩
      go_wp2
      go_ret
      exact ⟨rfl, L1.out.trans (LZ.out.trans (LA.out.trans l7))⟩
end Go.Proofs.YteeklaplnhafoaaDoor
