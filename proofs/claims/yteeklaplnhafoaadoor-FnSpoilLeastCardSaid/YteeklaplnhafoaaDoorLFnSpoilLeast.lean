/- Walk: FnSpoilLeast. -/
import Derived.Test.YteeklaplnhafoaaDoorMLaw
import Derived.Test.YteeklaplnhafoaaDoorWMost
namespace Go.Proofs.YteeklaplnhafoaaDoor
open Go.RowKit

theorem spoil_bad {ps : List (Int × Int)} {ws : List Int} (h : spoilL ps ws < 0) : spoilL ps ws = -1 := by
  obtain ⟨V, hV⟩ : ∃ V, (lotsL ps && wantsL ws) = V := ⟨_, rfl⟩
  cases V
  · exact spoil_f hV
  · rw [Bool.and_eq_true] at hV
    have := spoil_t hV.1 hV.2
    omega
theorem spoil_good {ps : List (Int × Int)} {ws : List Int} (h : ¬ spoilL ps ws < 0) : lotsL ps = true ∧ wantsL ws = true := by
  obtain ⟨V, hV⟩ : ∃ V, (lotsL ps && wantsL ws) = V := ⟨_, rfl⟩
  cases V
  · exact absurd (by rw [spoil_f hV]; decide) h
  · rwa [Bool.and_eq_true] at hV
theorem ints_at (xs : List Int) {j : Nat} (hj : j < xs.length) : (ints xs)[j]? = some (.int .i64 (gi xs j)) := ints_getElem? hj
theorem ints_setL (xs : List Int) (o : Nat) (x : Int) : (ints xs).set o (.int .i64 x) = ints (xs.set o x) := by
  unfold ints; rw [List.map_set]

set_option maxRecDepth 20000 in
set_option maxHeartbeats 4000000 in
theorem law_FnSpoilLeast (w : World) (A : Option Addr) (n c : Nat) (h : RB w A n) (hc : n ≤ c) :
    Calls Tryd.prog 3 #[.slice A n c] w fun e w' => e = .returned (.bool true) ∧ Le w w' := by
  have hm := h.max
  by_cases hn : 1048576 < n
  · go_enter Tryd.func3, Tryd.ntmps3
    go_wp2
    go_ret
    exact ⟨rfl, Le.refl _⟩
  · have HD := Lib.hid (drawSpoilLeast_any A n c w h hc)
    clear h
    obtain ⟨i0, hi0, hz0, hz1, hz2⟩ := info_parts infoInt
    go_enter Tryd.func3, Tryd.ntmps3
    go_wp2_with fail
    refine HD.out.mono ?_; rintro e w1 ⟨gv, cap, k, ps, gx, capx, m, xs, rfl, d1, i1, l1⟩
    have hk6 := d1.small
    have hkc := d1.kcap
    have hm7 := i1.small
    have hmc := i1.kcap
    have HR := Lib.hid d1.rp
    have HI := Lib.hid i1.ri
    have L1 := Lib.hid l1
    have HL := Lib.hid d1.len
    have HM := Lib.hid i1.len
    have D1 := Lib.hid d1
    have I1 := Lib.hid i1
    clear d1 i1 l1
    go_wp2_with fail
    refine (implSpoil_any _ _ _ _ _ _ _ _ _ HR.out HI.out).mono ?_; rintro e w2 ⟨rfl, l2⟩
    have HR2 := Lib.hid (HR.out.le l2)
    have HI2 := Lib.hid (HI.out.le l2)
    have M2 := Lib.hid l2
    clear l2
    go_wp2_with fail
    refine (specSpoil_any _ _ _ _ _ _ _ _ _ HR2.out HI2.out).mono ?_; rintro e w3 ⟨rfl, l3⟩
    have M3 := Lib.hid (M2.out.trans l3)
    clear l3
    obtain ⟨V, hV⟩ : ∃ V, spoilL ps xs = V := ⟨_, rfl⟩
    rw [hV]
    have HV := Lib.hid hV
    clear hV
    by_cases hv0 : V < 0
    · have hv := spoil_bad (ps := ps) (ws := xs) (by rw [HV.out]; exact hv0)
      rw [HV.out] at hv
      subst hv
      go_wp2_with fail
      refine (alive_any w3).mono ?_; rintro e w4 ⟨rfl, l4⟩
      go_wp2
      go_ret
      exact ⟨rfl, L1.out.trans (M3.out.trans l4)⟩
    · obtain ⟨hb1, hb2⟩ := spoil_good (ps := ps) (ws := xs) (by rw [HV.out]; exact hv0)
      obtain ⟨hsum, hV0, hV9⟩ := spoil_t hb1 hb2
      obtain ⟨hU0, hU9⟩ := useMost_t hb1 hb2
      rw [HV.out] at hsum hV0 hV9
      obtain ⟨U, hU⟩ : ∃ U, useMostL ps xs = U := ⟨_, rfl⟩
      rw [hU] at hsum hU0 hU9
      have HU := Lib.hid hU
      have HSUM := Lib.hid hsum
      have HF := Lib.hid (wants_facts HM.out hb2).2
      have HMR := Lib.hid (fun (j : Nat) (hj : j < m) => spoil_more hb1 hb2 (k := j) (by rw [HM.out]; exact hj))
      rw [HV.out] at HMR
      clear hb1 hb2 hU hsum
      go_wp2
      go_loopw [6] (fun i wr => ∃ j : Nat, j ≤ m ∧ i = .int .i64 j ∧ Le w1 wr) (fun i _ => m - (intOf i).toNat)
      case atStart => exact ⟨0, Nat.zero_le _, rfl, M3.out⟩
      case round =>
        rename_i wr
        obtain ⟨j, hj, rfl, hle2⟩ := hrel
        have H2 := Lib.hid hle2
        clear hle2
        by_cases hlt2 : j < m
        · obtain ⟨a, ha⟩ : ∃ a, gi xs j = a := ⟨_, rfl⟩
          obtain ⟨ha0, ha9⟩ := HF.out j hlt2
          have hmr := HMR.out j hlt2
          have p1 := ints_at xs (j := j) (by rw [HM.out]; exact hlt2)
          have pset := ints_setL xs j (a + 1)
          rw [ha] at ha0 ha9 hmr p1
          have P1 := Lib.hid p1
          have PS := Lib.hid pset
          have MR := Lib.hid hmr
          clear ha hmr p1 pset
          go_wp2_with (at_builtin; refine wpList_append_own_g (by rfl) (some 40) rfl (.tmp 38) (.tmp 39) 24 rfl wr.heap.size 3 i0 _ 1 8 Tryd.underlying24 hi0 hz0 hz1 hz2 rfl (by decide) (.slice (some ⟨wr.heap.size, 0, none⟩) 0 0) 0 [] rfl (own_empty _ _ _) ⟨gx, 0, none⟩ m capx (ints xs) rfl (by rw [ints_length, HM.out]; omega) (fun j u hj => (own_Le I1.out.own (H2.out.trans ((Le.refl wr).alloc _))).cells (g := gx) rfl j u hj) (ints_one _) (by unfold maxLen; omega) (by omega) (by simp) ?_)
          intro va wa owa ga _
          have la : Le wr wa := ((Le.refl wr).alloc _).grown ga (fun q hq => by simp [Value.ownBlock] at hq; omega)
          rw [Nat.zero_add, List.nil_append] at owa
          obtain ⟨g2, d, rfl, _, _⟩ := owa.form (by omega)
          have hg2 := owa.lt g2 rfl
          have c1 : wa.cell? ⟨g2, j, none⟩ = some (.int .i64 a) := by rw [owa.cellAt _ (by omega)]; exact P1.out
          have z1 : wa.frozen? ⟨g2, j, none⟩ = false := owa.frozenAt _
          obtain ⟨owb, gb⟩ := owa.stored j (.int .i64 (a + 1))
          rw [PS.out] at owb
          obtain ⟨wb, hwb⟩ : ∃ wb, wa.setCell ⟨g2, j, none⟩ (.int .i64 (a + 1)) = wb := ⟨_, rfl⟩
          rw [hwb] at owb gb
          have lb : Le wr wb := la.grown gb (fun q hq => by injection hq with hq; omega)
          have c2 : wb.cell? ⟨g2, j, none⟩ = some (.int .i64 (a + 1)) := by
            rw [owb.cellAt _ (by omega), ← PS.out, List.getElem?_set_self]
            rw [ints_length, HM.out]; omega
          obtain ⟨B', d', e', hri⟩ := own_RI owb (by omega)
          injection e' with e1 e2 e3
          subst e1
          have HRI := Lib.hid hri
          have LB := Lib.hid (H2.out.trans lb)
          have HRB := Lib.hid (HR.out.le (H2.out.trans lb))
          clear owa ga la owb gb lb hri hg2 e3 e2
          go_wp2_with fail
          refine (implSpoil_any _ _ _ _ _ _ _ _ _ HRB.out HRI.out).mono ?_; rintro e w5 ⟨rfl, l5⟩
          have c3 := l5.cell c2
          have L5 := Lib.hid (LB.out.trans l5)
          obtain ⟨Y, hY⟩ : ∃ Y, spoilL ps (xs.set j (a + 1)) = Y := ⟨_, rfl⟩
          rw [hY]
          have hYd : a + 1 ≤ 50 → Y = V ∨ Y = V - 1 := by rw [← hY]; exact MR.out
          clear hY c1 z1 c2 l5 hwb
          by_cases h9 : a + 1 ≤ 50
          · rcases hYd h9 with rfl | rfl
            · have hbb : (Y != Y) = false := by simp
              go_wp2
              go_roundw
              case rel => exact ⟨j + 1, by omega, by go_num, L5.out⟩
              case measure => simp [intOf]; omega
            · clear hYd
              have hbb : (V - 1 != V) = true := by rw [bne_iff_ne]; omega
              have hbb2 : (V - 1 != V - 1) = false := by simp
              go_wp2
              go_roundw
              case rel => exact ⟨j + 1, by omega, by go_num, L5.out⟩
              case measure => simp [intOf]; omega
          · clear hYd
            go_wp2
            go_roundw
            case rel => exact ⟨j + 1, by omega, by go_num, L5.out⟩
            case measure => simp [intOf]; omega
        · obtain rfl : j = m := by omega
          go_wp2_with fail
          refine (implUseMost_any _ _ _ _ _ _ _ _ _ (HR.out.le H2.out) (HI.out.le H2.out)).mono ?_; rintro e w5 ⟨rfl, l5⟩
          rw [HU.out]
          have L5 := Lib.hid (H2.out.trans l5)
          have HR5 := Lib.hid (HR.out.le (H2.out.trans l5))
          clear l5
          go_wp2_with fail
          refine (implLotsAt_any _ _ _ _ 0 _ HR5.out).mono ?_; rintro e w6 ⟨rfl, l6⟩
          rw [← HSUM.out]
          go_wp2
          go_ret
          exact ⟨rfl, L1.out.trans (L5.out.trans l6)⟩
end Go.Proofs.YteeklaplnhafoaaDoor
