/- Walks: UseMost, SpoilLeast, LackLeast of the program and of the reference. -/
import Derived.Test.YteeklaplnhafoaaDoorWUseH
import Derived.Test.YteeklaplnhafoaaDoorWUseB
namespace Go.Proofs.YteeklaplnhafoaaDoor
open Go.RowKit

theorem foldT_in {ps : List (Int × Int)} (hp : ∀ k, 0 ≤ (gp ps k).1 ∧ (gp ps k).1 ≤ 9) (ks : List Nat) : ∀ s : List Int × Int, (∀ j, 0 ≤ gi s.1 j ∧ gi s.1 j ≤ 9) → 0 ≤ s.2 → (∀ j, 0 ≤ gi (ks.foldl (stepT ps) s).1 j ∧ gi (ks.foldl (stepT ps) s).1 j ≤ 9) := by
  induction ks with
  | nil => intro s h _; exact h
  | cons k ks ih =>
    intro s h h2
    have hk := hp k
    refine ih _ (fun j => ?_) (by unfold stepT; simp only; omega)
    unfold stepT
    simp only
    by_cases hl : k < s.1.length
    · rw [gi_set _ _ _ _ hl]
      split
      · omega
      · exact h j
    · rw [List.set_eq_of_length_le (by omega)]; exact h j
theorem takeFirstL_in (ps : List (Int × Int)) (day want : Int) (j : Nat) : 0 ≤ gi (takeFirstL ps day want) j ∧ gi (takeFirstL ps day want) j ≤ 9 := by
  unfold takeFirstL
  split
  · rename_i h
    rw [Bool.and_eq_true] at h
    obtain ⟨_, hf⟩ := lots_facts rfl h.1
    have hw := inB_t.1 h.2
    refine foldT_in (fun k => ?_) _ _ (fun j => ?_) hw.1 j
    · by_cases hk : k < ps.length
      · exact (hf k hk).1
      · unfold gp; rw [List.getD_eq_getElem?_getD, List.getElem?_eq_none (by omega)]; simp
    · have : gi (initT ps.length want).1 j = 0 := by
        unfold gi initT; rw [List.getD_eq_getElem?_getD]
        by_cases hj : j < ps.length
        · simp [hj]
        · simp [hj]
      omega
  · have : gi [] j = 0 := rfl
    omega
theorem useFirst_sum {ps : List (Int × Int)} {ws : List Int} : 0 ≤ useSumL (useFirstL ps ws) ∧ useSumL (useFirstL ps ws) ≤ 2880 := by
  have hrow : ∀ k, k < (useFirstL ps ws).length → 0 ≤ rowSum (useFirstL ps ws) k ∧ rowSum (useFirstL ps ws) k ≤ 45 := fun k hk => by
    have h5 := useFirstL_row ps ws k hk
    have hin : ∀ j, 0 ≤ gi (gl (useFirstL ps ws) k) j ∧ gi (gl (useFirstL ps ws) k) j ≤ 9 := fun j => by
      unfold useFirstL at hk ⊢
      split
      · rename_i h
        rw [if_pos h] at hk
        rw [gl_range _ _ (by simpa using hk)]
        exact takeFirstL_in _ _ _ j
      · have : gi (gl [] k) j = 0 := rfl
        omega
    unfold rowSum
    rw [sumW_eq 9 (fun j _ => hin j) (by omega)]
    have := sumTo_bound (f := gi (gl (useFirstL ps ws) k)) (c := 9) (n := (gl (useFirstL ps ws) k).length) (fun j _ => hin j)
    omega
  have hl := useFirstL_len ps ws
  unfold useSumL
  rw [sumW_eq 45 hrow (by omega)]
  have := sumTo_bound (f := rowSum (useFirstL ps ws)) (c := 45) (n := (useFirstL ps ws).length) hrow
  omega

def useMostL (ps : List (Int × Int)) (ws : List Int) : Int := if (lotsL ps && wantsL ws) = true then useSumL (useFirstL ps ws) else -1
def spoilL (ps : List (Int × Int)) (ws : List Int) : Int := if (lotsL ps && wantsL ws) = true then lotsAtL ps 0 - useMostL ps ws else -1
def lackL (ps : List (Int × Int)) (ws : List Int) : Int := if (lotsL ps && wantsL ws) = true then sumTo (gi ws) ws.length - useMostL ps ws else -1

set_option maxRecDepth 20000 in
set_option maxHeartbeats 1000000 in
theorem implUseMost_any (A B : Option Addr) (n m c d : Nat) (ps : List (Int × Int)) (ws : List Int) (w : World) (h : RP w A n ps) (h' : RI w B m ws) :
    Calls Tryd.prog 20 #[.slice A n c, .slice B m d] w fun e w' => e = .returned (.int .i64 (useMostL ps ws)) ∧ Le w w' := by
  have hv := implLotsValid_any A n c ps w h
  have hw := fun w' (l : Le w w') => implWantsValid_any B m d ws w' (h'.le l)
  have hu := fun w' (l : Le w w') => slice_retL (implUseFirst_any A B n m c d ps ws w' (h.le l) (h'.le l))
  have hs := fun A2 c2 w' (r : RII w' A2 (useFirstL ps ws).length (useFirstL ps ws)) => implUseSum_any A2 _ c2 _ w' r
  have HV := Lib.hid hv
  have HW := Lib.hid hw
  have HU := Lib.hid hu
  have HS := Lib.hid hs
  clear hv hw h h' hu hs
  unfold useMostL
  cases hb : lotsL ps
  · rw [hb] at HV
    simp only [Bool.false_and, Bool.false_eq_true, if_false]
    go_enter Tryd.func20, Tryd.ntmps20
    go_wp2_with (go_at_call 28; refine HV.out.mono ?_; rintro e w1 ⟨rfl, l1⟩)
    go_ret
    exact ⟨rfl, l1⟩
  · rw [hb] at HV
    cases hb2 : wantsL ws
    · simp only [hb2] at HW
      simp only [Bool.and_false, Bool.false_eq_true, if_false]
      go_enter Tryd.func20, Tryd.ntmps20
      go_wp2_with (first | (go_at_call 28; refine HV.out.mono ?_; rintro e w1 ⟨rfl, l1⟩) | (go_at_call 31; refine (HW.out _ l1).mono ?_; rintro e w' ⟨rfl, rfl⟩))
      go_ret
      exact ⟨rfl, l1⟩
    · simp only [hb2] at HW
      simp only [Bool.and_true, if_true]
      go_enter Tryd.func20, Tryd.ntmps20
      go_wp2_with (first | (go_at_call 28; refine HV.out.mono ?_; rintro e w1 ⟨rfl, l1⟩) | (go_at_call 31; refine (HW.out _ l1).mono ?_; rintro e w' ⟨rfl, rfl⟩) | (go_at_call 57; refine (HU.out _ l1).mono ?_; rintro e w2 ⟨A2, c2, hh2, rfl, r2, o2, l2⟩) | (go_at_call 25; refine (HS.out A2 c2 _ r2).mono ?_; rintro e w' ⟨rfl, rfl⟩))
      go_ret
      exact ⟨rfl, l1.trans l2⟩

set_option maxRecDepth 20000 in
set_option maxHeartbeats 1000000 in
theorem specUseMost_any (A B : Option Addr) (n m c d : Nat) (ps : List (Int × Int)) (ws : List Int) (w : World) (h : RP w A n ps) (h' : RI w B m ws) :
    Calls Tryd.prog 55 #[.slice A n c, .slice B m d] w fun e w' => e = .returned (.int .i64 (useMostL ps ws)) ∧ Le w w' := by
  have hv := specLotsValid_any A n c ps w h
  have hw := specWantsValid_any B m d ws w h'
  have hu := slice_retL (specUseFirst_any A B n m c d ps ws w h h')
  have hs := fun A2 c2 w' (r : RII w' A2 (useFirstL ps ws).length (useFirstL ps ws)) => specUseSum_any A2 _ c2 _ w' r
  have HV := Lib.hid hv
  have HW := Lib.hid hw
  have HU := Lib.hid hu
  have HS := Lib.hid hs
  clear hv hw h h' hu hs
  unfold useMostL
  cases hb : lotsL ps
  · rw [hb] at HV
    simp only [Bool.false_and, Bool.false_eq_true, if_false]
    go_enter Tryd.func55, Tryd.ntmps55
    go_wp2_with (go_at_call 29; refine HV.out.mono ?_; rintro e w1 ⟨rfl, rfl⟩)
    go_ret
    exact ⟨rfl, Le.refl _⟩
  · rw [hb] at HV
    cases hb2 : wantsL ws
    · rw [hb2] at HW
      simp only [Bool.and_false, Bool.false_eq_true, if_false]
      go_enter Tryd.func55, Tryd.ntmps55
      go_wp2_with (first | (go_at_call 29; refine HV.out.mono ?_; rintro e w1 ⟨rfl, rfl⟩) | (go_at_call 32; refine HW.out.mono ?_; rintro e w' ⟨rfl, rfl⟩))
      go_ret
      exact ⟨rfl, Le.refl _⟩
    · rw [hb2] at HW
      simp only [Bool.and_true, if_true]
      go_enter Tryd.func55, Tryd.ntmps55
      go_wp2_with (first | (go_at_call 29; refine HV.out.mono ?_; rintro e w1 ⟨rfl, rfl⟩) | (go_at_call 32; refine HW.out.mono ?_; rintro e w' ⟨rfl, rfl⟩) | (go_at_call 59; refine HU.out.mono ?_; rintro e w2 ⟨A2, c2, hh2, rfl, r2, o2, l2⟩) | (go_at_call 44; refine (HS.out A2 c2 _ r2).mono ?_; rintro e w' ⟨rfl, rfl⟩))
      go_ret
      exact ⟨rfl, l2⟩

theorem useMost_t {ps : List (Int × Int)} {ws : List Int} (hb : lotsL ps = true) (hb2 : wantsL ws = true) : 0 ≤ useMostL ps ws ∧ useMostL ps ws ≤ 2880 := by
  unfold useMostL; rw [hb, hb2, Bool.true_and, if_pos rfl]; exact useFirst_sum
theorem useMost_f {ps : List (Int × Int)} {ws : List Int} (h : (lotsL ps && wantsL ws) = false) : useMostL ps ws = -1 := by
  unfold useMostL; rw [h]; rfl

set_option maxRecDepth 20000 in
set_option maxHeartbeats 1000000 in
theorem implSpoil_any (A B : Option Addr) (n m c d : Nat) (ps : List (Int × Int)) (ws : List Int) (w : World) (h : RP w A n ps) (h' : RI w B m ws) :
    Calls Tryd.prog 17 #[.slice A n c, .slice B m d] w fun e w' => e = .returned (.int .i64 (spoilL ps ws)) ∧ Le w w' := by
  have hv := implLotsValid_any A n c ps w h
  have hw := fun w' (l : Le w w') => implWantsValid_any B m d ws w' (h'.le l)
  have hu := fun w' (l : Le w w') => implUseMost_any A B n m c d ps ws w' (h.le l) (h'.le l)
  have hs := fun w' (l : Le w w') => implLotsAt_any A n c ps 0 w' (h.le l)
  have HV := Lib.hid hv
  have HW := Lib.hid hw
  have HU := Lib.hid hu
  have HS := Lib.hid hs
  clear hv hw h h' hu hs
  unfold spoilL
  cases hb : lotsL ps
  · rw [hb] at HV
    simp only [Bool.false_and, Bool.false_eq_true, if_false]
    go_enter Tryd.func17, Tryd.ntmps17
    go_wp2_with (go_at_call 28; refine HV.out.mono ?_; rintro e w1 ⟨rfl, l1⟩)
    go_ret
    exact ⟨rfl, l1⟩
  · rw [hb] at HV
    cases hb2 : wantsL ws
    · simp only [hb2] at HW
      simp only [Bool.and_false, Bool.false_eq_true, if_false]
      go_enter Tryd.func17, Tryd.ntmps17
      go_wp2_with (first | (go_at_call 28; refine HV.out.mono ?_; rintro e w1 ⟨rfl, l1⟩) | (go_at_call 31; refine (HW.out _ l1).mono ?_; rintro e w' ⟨rfl, rfl⟩))
      go_ret
      exact ⟨rfl, l1⟩
    · simp only [hb2] at HW
      simp only [Bool.and_true, if_true]
      obtain ⟨u1, u2⟩ := useMost_t hb hb2
      obtain ⟨v1, v2⟩ := lotsAtL_b hb 0
      clear hb hb2
      go_enter Tryd.func17, Tryd.ntmps17
      go_wp2_with (first | (go_at_call 28; refine HV.out.mono ?_; rintro e w1 ⟨rfl, l1⟩) | (go_at_call 31; refine (HW.out _ l1).mono ?_; rintro e w' ⟨rfl, rfl⟩) | (go_at_call 21; refine (HS.out _ l1).mono ?_; rintro e w2 ⟨rfl, l2⟩) | (go_at_call 20; refine (HU.out _ (l1.trans l2)).mono ?_; rintro e w3 ⟨rfl, l3⟩))
      go_ret
      exact ⟨rfl, (l1.trans l2).trans l3⟩

set_option maxRecDepth 20000 in
set_option maxHeartbeats 1000000 in
theorem implLack_any (A B : Option Addr) (n m c d : Nat) (ps : List (Int × Int)) (ws : List Int) (w : World) (h : RP w A n ps) (h' : RI w B m ws) :
    Calls Tryd.prog 52 #[.slice A n c, .slice B m d] w fun e w' => e = .returned (.int .i64 (lackL ps ws)) ∧ Le w w' := by
  have hv := implLotsValid_any A n c ps w h
  have hw := fun w' (l : Le w w') => implWantsValid_any B m d ws w' (h'.le l)
  have hu := fun w' (l : Le w w') => implUseMost_any A B n m c d ps ws w' (h.le l) (h'.le l)
  have hs := fun w' (l : Le w w') => sumOf_any B m d ws w' (h'.le l)
  have hml := h'.len
  have HV := Lib.hid hv
  have HW := Lib.hid hw
  have HU := Lib.hid hu
  clear hv hw h h' hu
  unfold lackL
  cases hb : lotsL ps
  · rw [hb] at HV
    clear hs
    simp only [Bool.false_and, Bool.false_eq_true, if_false]
    go_enter Tryd.func52, Tryd.ntmps52
    go_wp2_with (go_at_call 28; refine HV.out.mono ?_; rintro e w1 ⟨rfl, l1⟩)
    go_ret
    exact ⟨rfl, l1⟩
  · rw [hb] at HV
    cases hb2 : wantsL ws
    · simp only [hb2] at HW
      clear hs
      simp only [Bool.and_false, Bool.false_eq_true, if_false]
      go_enter Tryd.func52, Tryd.ntmps52
      go_wp2_with (first | (go_at_call 28; refine HV.out.mono ?_; rintro e w1 ⟨rfl, l1⟩) | (go_at_call 31; refine (HW.out _ l1).mono ?_; rintro e w' ⟨rfl, rfl⟩))
      go_ret
      exact ⟨rfl, l1⟩
    · simp only [hb2] at HW
      simp only [Bool.and_true, if_true]
      rw [wants_sumW hb2 (by omega)] at hs
      rw [hml]
      have HS := Lib.hid hs
      obtain ⟨u1, u2⟩ := useMost_t hb hb2
      obtain ⟨v1, v2⟩ := wants_sum hb2 (k := m) (by omega)
      clear hb hb2 hs
      go_enter Tryd.func52, Tryd.ntmps52
      go_wp2_with (first | (go_at_call 28; refine HV.out.mono ?_; rintro e w1 ⟨rfl, l1⟩) | (go_at_call 31; refine (HW.out _ l1).mono ?_; rintro e w' ⟨rfl, rfl⟩) | (go_at_call 64; refine (HS.out _ l1).mono ?_; rintro e w' ⟨rfl, rfl⟩) | (go_at_call 20; refine (HU.out _ l1).mono ?_; rintro e w3 ⟨rfl, l3⟩))
      go_ret
      exact ⟨rfl, l1.trans l3⟩

set_option maxRecDepth 20000 in
set_option maxHeartbeats 1000000 in
theorem specSpoil_any (A B : Option Addr) (n m c d : Nat) (ps : List (Int × Int)) (ws : List Int) (w : World) (h : RP w A n ps) (h' : RI w B m ws) :
    Calls Tryd.prog 18 #[.slice A n c, .slice B m d] w fun e w' => e = .returned (.int .i64 (spoilL ps ws)) ∧ Le w w' := by
  have hu := fun w' (l : Le w w') => specUseMost_any A B n m c d ps ws w' (h.le l) (h'.le l)
  have hs := fun w' (l : Le w w') => specLotsAt_any A n c ps 0 w' (h.le l)
  have HU := Lib.hid hu
  have HS := Lib.hid hs
  clear h h' hu hs
  unfold spoilL
  cases hb : (lotsL ps && wantsL ws)
  · simp only [Bool.false_eq_true, if_false]
    simp only [useMost_f hb] at HU
    go_enter Tryd.func18, Tryd.ntmps18
    go_wp2_with (go_at_call 55; refine (HU.out _ (Le.refl _)).mono ?_; rintro e w1 ⟨rfl, l1⟩)
    go_ret
    exact ⟨rfl, l1⟩
  · simp only [if_true]
    rw [Bool.and_eq_true] at hb
    obtain ⟨u1, u2⟩ := useMost_t hb.1 hb.2
    obtain ⟨v1, v2⟩ := lotsAtL_b hb.1 0
    clear hb
    go_enter Tryd.func18, Tryd.ntmps18
    go_wp2_with fail
    refine (HU.out _ (Le.refl _)).mono ?_; rintro e w1 ⟨rfl, l1⟩
    go_wp2_with (first | (go_at_call 34; refine (HS.out _ l1).mono ?_; rintro e w' ⟨rfl, rfl⟩) | (go_at_call 55; refine (HU.out _ l1).mono ?_; rintro e w3 ⟨rfl, l3⟩))
    go_ret
    exact ⟨rfl, l1.trans l3⟩

set_option maxRecDepth 20000 in
set_option maxHeartbeats 1000000 in
theorem specLack_any (A B : Option Addr) (n m c d : Nat) (ps : List (Int × Int)) (ws : List Int) (w : World) (h : RP w A n ps) (h' : RI w B m ws) :
    Calls Tryd.prog 53 #[.slice A n c, .slice B m d] w fun e w' => e = .returned (.int .i64 (lackL ps ws)) ∧ Le w w' := by
  have hu := fun w' (l : Le w w') => specUseMost_any A B n m c d ps ws w' (h.le l) (h'.le l)
  have hs := fun w' (l : Le w w') => l1Sum_any B m d ws w' (h'.le l)
  have hml := h'.len
  have HU := Lib.hid hu
  clear h h' hu
  unfold lackL
  cases hb : (lotsL ps && wantsL ws)
  · simp only [Bool.false_eq_true, if_false]
    simp only [useMost_f hb] at HU
    clear hs
    go_enter Tryd.func53, Tryd.ntmps53
    go_wp2_with (go_at_call 55; refine (HU.out _ (Le.refl _)).mono ?_; rintro e w1 ⟨rfl, l1⟩)
    go_ret
    exact ⟨rfl, l1⟩
  · simp only [if_true]
    rw [Bool.and_eq_true] at hb
    rw [wants_sumW hb.2 (by omega)] at hs
    rw [hml]
    have HS := Lib.hid hs
    obtain ⟨u1, u2⟩ := useMost_t hb.1 hb.2
    obtain ⟨v1, v2⟩ := wants_sum hb.2 (k := m) (by omega)
    clear hb hs
    go_enter Tryd.func53, Tryd.ntmps53
    go_wp2_with fail
    refine (HU.out _ (Le.refl _)).mono ?_; rintro e w1 ⟨rfl, l1⟩
    go_wp2_with (first | (go_at_call 65; refine (HS.out _ l1).mono ?_; rintro e w' ⟨rfl, rfl⟩) | (go_at_call 55; refine (HU.out _ l1).mono ?_; rintro e w3 ⟨rfl, l3⟩))
    go_ret
    exact ⟨rfl, l1.trans l3⟩

end Go.Proofs.YteeklaplnhafoaaDoor
