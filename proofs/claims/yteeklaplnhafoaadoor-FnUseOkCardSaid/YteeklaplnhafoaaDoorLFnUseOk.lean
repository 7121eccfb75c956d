/- Walk: FnUseOk. -/
import Derived.Test.YteeklaplnhafoaaDoorWDrawU
import Derived.Test.YteeklaplnhafoaaDoorWUseO
import Derived.Test.YteeklaplnhafoaaDoorWMost
namespace Go.Proofs.YteeklaplnhafoaaDoor
open Go.RowKit

set_option maxRecDepth 20000 in
set_option maxHeartbeats 1000000 in
theorem drawUseOk_any (A : Option Addr) (n c : Nat) (w : World) (h : RB w A n) (hc : n ≤ c) :
    Calls Tryd.prog 22 #[.slice A n c] w fun e w' => ∃ gv cap k ps gx capx m xs C r cc tt, e = .returned (.tuple #[.slice (some ⟨gv, 0, none⟩) k cap, .slice (some ⟨gx, 0, none⟩) m capx, .slice C r cc]) ∧ DL w.heap.size w' gv cap k ps ∧ DI w.heap.size w' gx capx m xs ∧ RII w' C r tt ∧ (r ≤ 64 ∧ r ≤ cc) ∧ Le w w' := by
  have HO := Lib.hid (open_any A n c w h hc)
  clear h
  go_enter Tryd.func22, Tryd.ntmps22
  go_wp2_with fail
  refine HO.out.mono ?_; rintro e w1 ⟨rfl, r1⟩
  have HL := Lib.hid (l20Use_any _ _ _ _ _ _ _ r1 (by omega) (w.heap.size + 1) (Nat.le_refl _) r1.lt)
  clear r1
  go_wp2_with fail
  refine HL.out.mono ?_; rintro e w2 ⟨gv, cap, k, ps, gx, capx, m, xs, C, r, cc, tt, q, rfl, d2, i2, t2, h64, hcc, r2, _, _⟩
  have D2 := Lib.hid d2
  have I2 := Lib.hid i2
  have T2 := Lib.hid t2
  have R2 := Lib.hid r2
  clear d2 i2 t2 r2
  go_wp2
  (try simp only [Exit.inBlock, Exit.then])
  refine bodyPost_ret (results_tmp3 rfl _ _ _) rfl ?_
  exact ⟨gv, cap, k, ps, gx, capx, m, xs, C, r, cc, tt, rfl, D2.out.base (by omega), I2.out.base (by omega), T2.out, ⟨h64, hcc⟩, R2.out.le⟩

set_option maxRecDepth 20000 in
set_option maxHeartbeats 4000000 in
theorem law_FnUseOk (w : World) (A : Option Addr) (n c : Nat) (h : RB w A n) (hc : n ≤ c) :
    Calls Tryd.prog 4 #[.slice A n c] w fun e w' => e = .returned (.bool true) ∧ Le w w' := by
  have hm := h.max
  by_cases hn : 1048576 < n
  · go_enter Tryd.func4, Tryd.ntmps4
    go_wp2
    go_ret
    exact ⟨rfl, Le.refl _⟩
  · have HD := Lib.hid (drawUseOk_any A n c w h hc)
    clear h
    go_enter Tryd.func4, Tryd.ntmps4
    go_wp2_with fail
    refine HD.out.mono ?_; rintro e w1 ⟨gv, cap, k, ps, gx, capx, m, xs, C, r, cc, tt, rfl, d1, i1, t1, ⟨hr64, hrc⟩, l1⟩
    have hk6 := d1.small
    have hkc := d1.kcap
    have hm7 := i1.small
    have hmc := i1.kcap
    have HR := Lib.hid d1.rp
    have HI := Lib.hid i1.ri
    have L1 := Lib.hid l1
    have HL := Lib.hid d1.len
    have HM := Lib.hid i1.len
    have D1 := Lib.hid d1
    have I1 := Lib.hid i1
    have HT := Lib.hid t1
    clear d1 i1 l1 t1
    obtain ⟨V, hV⟩ : ∃ V, useOkL ps xs tt = V := ⟨_, rfl⟩
    have HV := Lib.hid hV
    clear hV
    go_wp2_with fail
    refine (implUseOk_any _ _ _ _ _ _ _ _ _ _ _ _ _ HR.out HI.out HT.out).mono ?_; rintro e w2 ⟨rfl, l2⟩
    rw [HV.out]
    have M2 := Lib.hid l2
    clear l2
    go_wp2_with fail
    refine (specUseOk_any _ _ _ _ _ _ _ _ _ _ _ _ _ (HR.out.le M2.out) (HI.out.le M2.out) (HT.out.le M2.out)).mono ?_; rintro e w3 ⟨rfl, l3⟩
    rw [HV.out]
    have M3 := Lib.hid (M2.out.trans l3)
    clear l3
    have hbb : (V != V) = false := by simp
    cases V
    · go_wp2_with fail
      refine (alive_any w3).mono ?_; rintro e w4 ⟨rfl, l4⟩
      go_wp2
      go_ret
      exact ⟨rfl, L1.out.trans (M3.out.trans l4)⟩
    · obtain ⟨h1, h2, _, _⟩ := useOk_facts HV.out
      obtain ⟨_, t, ht6, hmt⟩ := most_least h1 h2
      have hub := fun t => use_bound HV.out t
      have hB : ∀ j : Nat, j ≤ 6 → useSumL tt ≤ useBoundL ps xs j := fun j hj => by rw [useBound_bnd h1 h2 hj]; exact (hub j).1
      have hM : useSumL tt ≤ useMostL ps xs := by rw [hmt]; exact (hub t).1
      have HB := Lib.hid hB
      have HMM := Lib.hid hM
      clear hB hM hub h1 h2 hmt
      obtain ⟨S, hS⟩ : ∃ S, useSumL tt = S := ⟨_, rfl⟩
      rw [hS] at HB HMM
      have HS := Lib.hid hS
      clear hS
      go_wp2_with fail
      refine (implUseSum_any _ _ _ _ _ (HT.out.le M3.out)).mono ?_; rintro e w' ⟨rfl, rfl⟩
      rw [HS.out]
      go_wp2
      go_loopw [8] (fun i wr => ∃ j : Nat, j ≤ 7 ∧ i = .int .i64 j ∧ Le w1 wr) (fun i _ => 7 - (intOf i).toNat)
      case atStart => exact ⟨0, by omega, rfl, M3.out⟩
      case round =>
        obtain ⟨j, hj, rfl, hle⟩ := hrel
        have H2 := Lib.hid hle
        clear hle
        by_cases hlt : j ≤ 6
        · have hbj := HB.out j hlt
          obtain ⟨Z, hZ⟩ : ∃ Z, useBoundL ps xs (j : Int) = Z := ⟨_, rfl⟩
          rw [hZ] at hbj
          have hdz : decide (Z < S) = false := decide_eq_false (by omega)
          have HZ := Lib.hid hZ
          clear hZ
          go_wp2_with fail
          refine (implUseBound_any _ _ _ _ _ _ _ _ (j : Int) _ (HR.out.le H2.out) (HI.out.le H2.out) hmc).mono ?_; rintro e w5 ⟨rfl, l5⟩
          rw [HZ.out]
          have L5 := Lib.hid (H2.out.trans l5)
          clear l5
          go_wp2
          go_roundw
          case rel => exact ⟨j + 1, by omega, by go_num, L5.out⟩
          case measure => simp [intOf]; omega
        · go_wp2_with fail
          refine (implUseMost_any _ _ _ _ _ _ _ _ _ (HR.out.le H2.out) (HI.out.le H2.out)).mono ?_; rintro e w5 ⟨rfl, l5⟩
          have hd : decide (S ≤ useMostL ps xs) = true := decide_eq_true HMM.out
          go_wp2
          go_ret
          exact ⟨rfl, L1.out.trans (H2.out.trans l5)⟩
end Go.Proofs.YteeklaplnhafoaaDoor
