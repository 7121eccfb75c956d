/- Walk: FnUseMost. -/
import Derived.Test.YteeklaplnhafoaaDoorMLaw
import Derived.Test.YteeklaplnhafoaaDoorWMost
namespace Go.Proofs.YteeklaplnhafoaaDoor
open Go.RowKit

theorem most_bad {ps : List (Int × Int)} {ws : List Int} (h : useMostL ps ws < 0) : useMostL ps ws = -1 := by
  obtain ⟨V, hV⟩ : ∃ V, (lotsL ps && wantsL ws) = V := ⟨_, rfl⟩
  cases V
  · exact useMost_f hV
  · rw [Bool.and_eq_true] at hV
    have := useMost_t hV.1 hV.2
    omega
theorem most_good {ps : List (Int × Int)} {ws : List Int} (h : ¬ useMostL ps ws < 0) : lotsL ps = true ∧ wantsL ws = true := by
  obtain ⟨V, hV⟩ : ∃ V, (lotsL ps && wantsL ws) = V := ⟨_, rfl⟩
  cases V
  · exact absurd (by rw [useMost_f hV]; decide) h
  · rwa [Bool.and_eq_true] at hV
theorem pairs_at (ps : List (Int × Int)) {j : Nat} (hj : j < ps.length) : (pairs ps)[j * 2]? = some (.int .i64 (gp ps j).1) ∧ (pairs ps)[j * 2 + 1]? = some (.int .i64 (gp ps j).2) := by
  induction ps generalizing j with
  | nil => simp at hj
  | cons q ps ih =>
    rw [pairs_cons]
    cases j with
    | zero => exact ⟨rfl, rfl⟩
    | succ j =>
      have := ih (j := j) (by simpa using hj)
      rw [show (j + 1) * 2 = j * 2 + 2 by omega]
      exact this
theorem pairs_set1 (ps : List (Int × Int)) {j : Nat} (hj : j < ps.length) (v : Int) : (pairs ps).set (j * 2) (.int .i64 v) = pairs (ps.set j (v, (gp ps j).2)) := by
  induction ps generalizing j with
  | nil => simp at hj
  | cons q ps ih =>
    cases j with
    | zero => rw [pairs_cons, List.set_cons_zero, pairs_cons]; rfl
    | succ j =>
      have := ih (j := j) (by simpa using hj)
      rw [List.set_cons_succ, pairs_cons, pairs_cons, show (j + 1) * 2 = j * 2 + 1 + 1 by omega]
      show _ :: _ :: (pairs ps).set (j * 2) _ = _
      rw [this]; rfl

set_option maxRecDepth 20000 in
set_option maxHeartbeats 4000000 in
theorem law_FnUseMost (w : World) (A : Option Addr) (n c : Nat) (h : RB w A n) (hc : n ≤ c) :
    Calls Tryd.prog 14 #[.slice A n c] w fun e w' => e = .returned (.bool true) ∧ Le w w' := by
  have hm := h.max
  by_cases hn : 1048576 < n
  · go_enter Tryd.func14, Tryd.ntmps14
    go_wp2
    go_ret
    exact ⟨rfl, Le.refl _⟩
  · have HD := Lib.hid (drawUseMost_any A n c w h hc)
    clear h
    obtain ⟨i0, hi0, hz0, hz1, hz2⟩ := info_parts infoLot
    go_enter Tryd.func14, Tryd.ntmps14
    go_wp2_with fail
    refine HD.out.mono ?_; rintro e w1 ⟨gv, cap, k, ps, gx, capx, m, xs, rfl, d1, i1, l1⟩
    have hk6 := d1.small
    have hkc := d1.kcap
    have hm7 := i1.small
    have hmc := i1.kcap
    have HR := Lib.hid d1.rp
    have HI := Lib.hid i1.ri
    have L1 := Lib.hid l1
    have HL := Lib.hid d1.len
    have HM := Lib.hid i1.len
    have D1 := Lib.hid d1
    have I1 := Lib.hid i1
    clear d1 i1 l1
    go_wp2_with fail
    refine (implUseMost_any _ _ _ _ _ _ _ _ _ HR.out HI.out).mono ?_; rintro e w2 ⟨rfl, l2⟩
    have HR2 := Lib.hid (HR.out.le l2)
    have HI2 := Lib.hid (HI.out.le l2)
    have M2 := Lib.hid l2
    clear l2
    go_wp2_with fail
    refine (specUseMost_any _ _ _ _ _ _ _ _ _ HR2.out HI2.out).mono ?_; rintro e w3 ⟨rfl, l3⟩
    have M3 := Lib.hid (M2.out.trans l3)
    clear l3
    obtain ⟨V, hV⟩ : ∃ V, useMostL ps xs = V := ⟨_, rfl⟩
    rw [hV]
    have HV := Lib.hid hV
    clear hV
    by_cases hv0 : V < 0
    · have hv := most_bad (ps := ps) (ws := xs) (by rw [HV.out]; exact hv0)
      rw [HV.out] at hv
      subst hv
      go_wp2_with fail
      refine (alive_any w3).mono ?_; rintro e w4 ⟨rfl, l4⟩
      go_wp2
      go_ret
      exact ⟨rfl, L1.out.trans (M3.out.trans l4)⟩
    · obtain ⟨hb1, hb2⟩ := most_good (ps := ps) (ws := xs) (by rw [HV.out]; exact hv0)
      have hVb := useMost_t hb1 hb2
      rw [HV.out] at hVb
      obtain ⟨hV0, hV9⟩ := hVb
      have HB := Lib.hid (fun t ht => useBound_bnd hb1 hb2 (t := t) ht)
      have HMM := Lib.hid (most_min hb1 hb2)
      rw [HV.out] at HMM
      have hf := (lots_facts HL.out hb1).2
      have HF := Lib.hid hf
      have HMR := Lib.hid (fun (j : Nat) (hj : j < k) => most_more hb1 hb2 (k := j) (by rw [HL.out]; exact hj))
      rw [HV.out] at HMR
      clear hb1 hb2 hf
      go_wp2_with fail
      refine (implUseBound_any _ _ _ _ _ _ _ _ 0 _ (HR.out.le M3.out) (HI.out.le M3.out) hmc).mono ?_; rintro e w4 ⟨rfl, l4⟩
      rw [show useBoundL ps xs 0 = minB ps xs 0 from HB.out 0 (by omega)]
      have M4 := Lib.hid (M3.out.trans l4)
      clear l4
      go_wp2
      go_loopw [6, 7] (fun v i wr => ∃ j : Nat, (1 ≤ j ∧ j ≤ 7) ∧ i = .int .i64 j ∧ v = .int .i64 (minB ps xs (j - 1)) ∧ Le w1 wr) (fun _ i _ => 7 - (intOf i).toNat)
      case atStart => exact ⟨1, by omega, rfl, rfl, M4.out⟩
      case round =>
        obtain ⟨j, ⟨hj1, hj7⟩, rfl, rfl, hle⟩ := hrel
        have HLe := Lib.hid hle
        clear hle
        by_cases hlt : j ≤ 6
        · go_wp2_with fail
          refine (implUseBound_any _ _ _ _ _ _ _ _ (j : Int) _ (HR.out.le HLe.out) (HI.out.le HLe.out) hmc).mono ?_; rintro e w5 ⟨rfl, l5⟩
          rw [HB.out j hlt]
          obtain ⟨B, hB⟩ : ∃ B, bnd ps xs j = B := ⟨_, rfl⟩
          obtain ⟨M, hM⟩ : ∃ M, minB ps xs (j - 1) = M := ⟨_, rfl⟩
          have hstep : minB ps xs j = min M B := by
            obtain ⟨i, rfl⟩ : ∃ i, j = i + 1 := ⟨j - 1, by omega⟩
            rw [← hB, ← hM]; rfl
          have hmin : (if B < M then B else M) = min M B := by split <;> omega
          rw [hB, hM]
          have HST := Lib.hid hstep
          have L5 := Lib.hid (HLe.out.trans l5)
          clear hB hM hstep l5
          go_wp2
          go_roundw
          case rel => exact ⟨j + 1, by omega, by go_num, by rw [show j + 1 - 1 = j by omega, HST.out], L5.out⟩
          case measure => simp [intOf]; omega
        · obtain rfl : j = 7 := by omega
          rw [show (7 : Nat) - 1 = 6 from rfl, HMM.out, show ((7 : Nat) : Int) = 7 from rfl]
          go_wp2
          go_loopw [8] (fun i wr => ∃ j : Nat, j ≤ k ∧ i = .int .i64 j ∧ Le w1 wr) (fun i _ => k - (intOf i).toNat)
          case atStart => exact ⟨0, Nat.zero_le _, rfl, HLe.out⟩
          case round =>
            rename_i wr
            obtain ⟨j, hj, rfl, hle2⟩ := hrel
            have H2 := Lib.hid hle2
            clear hle2
            by_cases hlt2 : j < k
            · obtain ⟨⟨a, b⟩, hq⟩ : ∃ q, gp ps j = q := ⟨_, rfl⟩
              obtain ⟨⟨ha0, ha9⟩, hb0, hb5⟩ := HF.out j hlt2
              have hmr := HMR.out j hlt2
              obtain ⟨p1, p2⟩ := pairs_at ps (j := j) (by rw [HL.out]; exact hlt2)
              have pset := pairs_set1 ps (j := j) (by rw [HL.out]; exact hlt2) (a + 1)
              rw [hq] at ha0 ha9 hb0 hb5 hmr p1 p2 pset
              simp only at ha0 ha9 hb0 hb5 hmr p1 p2 pset
              have P1 := Lib.hid p1
              have PS := Lib.hid pset
              have MR := Lib.hid hmr
              clear hq hmr p1 p2 pset
              go_wp2_with (at_builtin; refine wpList_append_own_g (by rfl) (some 55) rfl (.tmp 53) (.tmp 54) 23 rfl wr.heap.size 40 i0 _ 2 16 Tryd.underlying23 hi0 hz0 hz1 hz2 rfl (by decide) (.slice (some ⟨wr.heap.size, 0, none⟩) 0 0) 0 [] rfl (own_empty _ _ _) ⟨gv, 0, none⟩ k cap (pairs ps) rfl (by rw [pairs_length, HL.out]) (fun j u hj => (own_Le D1.out.own (H2.out.trans ((Le.refl wr).alloc _))).cells (g := gv) rfl j u hj) (pairs_one _) (by unfold maxLen; omega) (by omega) (by simp) ?_)
              intro va wa owa ga _
              have la : Le wr wa := ((Le.refl wr).alloc _).grown ga (fun q hq => by simp [Value.ownBlock] at hq; omega)
              rw [Nat.zero_add, List.nil_append] at owa
              obtain ⟨g2, d, rfl, _, _⟩ := owa.form (by omega)
              have hg2 := owa.lt g2 rfl
              have c1 : wa.cell? ⟨g2, j * 2, none⟩ = some (.int .i64 a) := by rw [owa.cellAt _ (by omega)]; exact P1.out
              have z1 : wa.frozen? ⟨g2, j * 2, none⟩ = false := owa.frozenAt _
              obtain ⟨owb, gb⟩ := owa.stored (j * 2) (.int .i64 (a + 1))
              rw [PS.out] at owb
              obtain ⟨wb, hwb⟩ : ∃ wb, wa.setCell ⟨g2, j * 2, none⟩ (.int .i64 (a + 1)) = wb := ⟨_, rfl⟩
              rw [hwb] at owb gb
              have lb : Le wr wb := la.grown gb (fun q hq => by injection hq with hq; omega)
              have c2 : wb.cell? ⟨g2, j * 2, none⟩ = some (.int .i64 (a + 1)) := by
                rw [owb.cellAt _ (by omega), ← PS.out, List.getElem?_set_self]
                rw [pairs_length, HL.out]; omega
              have hrp := own_RP2 owb (by omega)
              have HRP := Lib.hid hrp
              have LB := Lib.hid (H2.out.trans lb)
              have HIB := Lib.hid (HI.out.le (H2.out.trans lb))
              clear owa ga la owb gb lb hrp hg2
              go_wp2_with fail
              refine (implUseMost_any _ _ _ _ _ _ _ _ _ HRP.out HIB.out).mono ?_; rintro e w5 ⟨rfl, l5⟩
              have c3 := l5.cell c2
              have L5 := Lib.hid (LB.out.trans l5)
              obtain ⟨Y, hY⟩ : ∃ Y, useMostL (ps.set j (a + 1, b)) xs = Y := ⟨_, rfl⟩
              rw [hY]
              have hYd : a + 1 ≤ 9 → Y = V ∨ Y = V + 1 := by rw [← hY]; exact MR.out
              clear hY c1 z1 c2 l5 hwb
              by_cases h9 : a + 1 ≤ 9
              · rcases hYd h9 with rfl | rfl
                · have hbb : (Y != Y) = false := by simp
                  go_wp2
                  go_roundw
                  case rel => exact ⟨j + 1, by omega, by go_num, L5.out⟩
                  case measure => simp [intOf]; omega
                · clear hYd
                  have hbb : (V + 1 != V) = true := by rw [bne_iff_ne]; omega
                  have hbb2 : (V + 1 != V + 1) = false := by simp
                  go_wp2
                  go_roundw
                  case rel => exact ⟨j + 1, by omega, by go_num, L5.out⟩
                  case measure => simp [intOf]; omega
              · clear hYd
                go_wp2
                go_roundw
                case rel => exact ⟨j + 1, by omega, by go_num, L5.out⟩
                case measure => simp [intOf]; omega
            · obtain rfl : j = k := by omega
              go_wp2
              go_ret
              exact ⟨rfl, L1.out.trans H2.out⟩
end Go.Proofs.YteeklaplnhafoaaDoor
