/- Walks: FreeOf of both. -/
import Derived.Test.YtbkjfgbafphopaaDoorWMarks
import Derived.Test.YtbkjfgbafphopaaDoorWApp
import Derived.LoopN
namespace Go.Proofs.YtbkjfgbafphopaaDoor
open Go.RowKit

theorem infoIntF : (Tryd.prog.info? 3).map (fun i => (i.zero, i.size, i.bytes)) = some (some (.int .i64 0), 1, 8) := by kernel_rfl
/-- the allergens of item k -/
def mkN (ts : List It) (k : Nat) : Nat := mN ts (uN ts k (k + 1)) (k + 1)
def freesTo (ts : List It) (a : Nat) : Nat → List Int
  | 0 => []
  | k + 1 => if 0 < (gm ts k).1 ∧ mkN ts k &&& a = 0 then freesTo ts a k ++ [(k : Int)] else freesTo ts a k
def freeL (ts : List It) (avoid : Int) : List Int := if itemsL ts = true ∧ 0 ≤ avoid ∧ avoid ≤ 31 then freesTo ts avoid.toNat ts.length else []
theorem freesTo_len (ts : List It) (a : Nat) : ∀ k, (freesTo ts a k).length ≤ k := by
  intro k
  induction k with
  | zero => exact Nat.le_refl _
  | succ k ih =>
    unfold freesTo
    split
    · rw [List.length_append]; simp; omega
    · omega
theorem freeL_len {ts : List It} {avoid : Int} {n : Nat} (hl : ts.length = n) : (freeL ts avoid).length ≤ n := by
  unfold freeL
  split
  · rw [hl]; exact freesTo_len _ _ _
  · exact Nat.zero_le _
theorem marks_at {ts : List It} {n k : Nat} (hl : ts.length = n) (hk : k < n) (hb : itemsL ts = true) : marksOfL ts k = (mkN ts k : Nat) ∧ mkN ts k < 32 := by
  obtain ⟨hn6, hf⟩ := items_facts hl hb
  refine ⟨by unfold marksOfL mkN; rw [if_pos ⟨hb, by omega, by omega⟩, Int.toNat_natCast], ?_⟩
  exact mN_lt (n := n) (fun j hj => by have := (hf j hj).2.2.2.1; omega) _ (by omega)
theorem meet_32 : ∀ a, a < 32 → ∀ b, b < 32 → (a ||| b) + (a &&& b) = a + b := by decide +kernel

set_option maxRecDepth 20000 in
set_option maxHeartbeats 400000 in
theorem l1Meet_any (a b : Nat) (w : World) (ha : a < 32) (hb : b < 32) :
    Calls Tryd.prog 88 #[.int .i64 (a : Int), .int .i64 (b : Int)] w fun e w' => e = .returned (.int .i64 ((a &&& b : Nat) : Int)) ∧ w = w' := by
  have hj := l1Join_any a b w (by omega) (by omega)
  have hm := meet_32 a ha b hb
  have HJ := Lib.hid hj
  generalize a ||| b = x at *
  generalize a &&& b = y at *
  clear hj
  go_enter Tryd.func88, Tryd.ntmps88
  go_wp2_with (go_at_call 87; refine HJ.out.mono ?_; rintro e w' ⟨rfl, rfl⟩)
  go_ret
  exact ⟨ret_int (by omega), rfl⟩

set_option maxRecDepth 20000 in
set_option maxHeartbeats 2000000 in
theorem implFree_any (A : Option Addr) (n c : Nat) (ts : List It) (avoid : Int) (w : World) (h : RM w A n ts) :
    Calls Tryd.prog 40 #[.slice A n c, .int .i64 avoid] w fun e w' => ∃ v, e = .returned v ∧ w'.ownsRow w.heap.size 3 1 v (freeL ts avoid).length (ints (freeL ts avoid)) ∧ Le w w' := by
  have hv := implItemsValid_any A n c ts w h
  have hm := h.max
  have hl := h.len
  by_cases hok : itemsL ts = true ∧ 0 ≤ avoid ∧ avoid ≤ 31
  · obtain ⟨hb, h0, h31⟩ := hok
    obtain ⟨a, rfl⟩ : ∃ a : Nat, avoid = a := ⟨avoid.toNat, by omega⟩
    have e0 : freeL ts a = freesTo ts a n := by unfold freeL; rw [if_pos ⟨hb, h0, h31⟩, hl, Int.toNat_natCast]
    rw [e0]
    rw [hb] at hv
    have hmk := fun (k : Nat) (hk : k < n) => marks_at hl hk hb
    have hmc := fun (k : Nat) (hk : k < n) w' (l : Le w w') => implMarks_any A n c ts k w' (h.le l)
    have HMK := Lib.hid hmk
    have HMC := Lib.hid hmc
    have HC := Lib.hid h.at_
    have HV := Lib.hid hv
    have hn6 := (items_facts hl hb).1
    clear hv hb h hmk hmc e0
    obtain ⟨i0, hi0, hz0, hz1, hz2⟩ := info_parts infoIntF
    go_enter Tryd.func40, Tryd.ntmps40
    go_wp2_with (go_at_call 24; refine HV.out.mono ?_; rintro e w1 ⟨rfl, l1⟩)
    have L1 := Lib.hid l1
    clear l1
    go_loopw [5, 21] (fun v i wr => ∃ k : Nat, k ≤ n ∧ i = .int .i64 k ∧ Le w wr ∧ wr.ownsRow w.heap.size 3 1 v (freesTo ts a k).length (ints (freesTo ts a k))) (fun _ i _ => n - (intOf i).toNat)
    case atStart => exact ⟨0, Nat.zero_le _, rfl, L1.out, World.ownsRow_nil _ _ _ _⟩
    case round =>
      obtain ⟨k, hk, rfl, hle, hown⟩ := hrel
      by_cases hlt : k < n
      · obtain ⟨ad, B, m, d', rfl, hc1, hc2, hc3, hr⟩ := HC.out k hlt
        have c1 := hle.cell hc1
        have c2 := hle.cell hc2
        have c3 := hle.cell hc3
        have hfl := freesTo_len ts a k
        obtain ⟨hS1, hS2⟩ := HMK.out k hlt
        have HO := Lib.hid hown
        have HLE := Lib.hid hle
        by_cases hy : 0 < (gm ts k).1
        · have hmc := HMC.out k hlt _ (hle.alloc (.cells #[.int .i64 (gm ts k).1, .slice B m d', .int .i64 (gm ts k).2.2] 26))
          rw [hS1] at hmc
          have hand : bits .and .i64 ((mkN ts k : Nat) : Int) ((a : Nat) : Int) = ((mkN ts k &&& a : Nat) : Int) := bits_and_nat _ _ (by omega) (by omega)
          have HM := Lib.hid hmc
          by_cases hz : mkN ts k &&& a = 0
          · have hst : freesTo ts a (k + 1) = freesTo ts a k ++ [(k : Int)] := by
              show (if 0 < (gm ts k).1 ∧ mkN ts k &&& a = 0 then _ else _) = _
              rw [if_pos ⟨hy, hz⟩]
            have hne : (bits .and .i64 ((mkN ts k : Nat) : Int) ((a : Nat) : Int) == 0) = true := by rw [hand, hz]; rfl
            have HST := Lib.hid hst
            clear hc1 hc2 hc3 hr hown hle hmc hand hz hst hS1
            go_wp2_with (first
              | (go_at_call 37; refine HM.out.mono ?_; rintro e w2 ⟨rfl, l2⟩)
              | (at_builtin; refine wpList_append_own_at _ rfl (.tmp 37) (.tmp 39) _ rfl w.heap.size 3 i0 (.int .i64 0) 1 8 Tryd.underlying44 hi0 hz0 hz1 hz2 rfl (by decide) _ (freesTo ts a k).length (ints (freesTo ts a k)) rfl ?hown ⟨w2.heap.size, 0, none⟩ 1 1 [.int .i64 (k : Int)] rfl rfl ?c1 ?c2 ?c3 ?c4 ?c5 ?_))
            case hown => exact own_Le HO.out ((((Le.refl _).alloc _).trans l2).alloc _)
            case c1 => exact cell_one' _ _ rfl _ _
            case c2 => intro u hu; simp at hu; rcases hu with rfl; rfl
            case c3 => unfold maxLen; omega
            case c4 => omega
            case c5 => have h1 := HLE.out.size; have h2 := l2.size; simp at h2; simp; omega
            intro v' w3 hown' hgrow _ hat
            have hle3 : Le w w3 := (((HLE.out.alloc _).trans l2).alloc _).grown hgrow fun g hg => (HO.out.lt g hg).1
            have HL3 := Lib.hid hle3
            have HO3 := Lib.hid hown'
            clear hle3 hown' hgrow hat l2
            go_wp2
            go_roundw
            case rel =>
              refine ⟨k + 1, by omega, by go_num, HL3.out, ?_⟩
              rw [HST.out, ints_append, List.length_append]
              exact HO3.out
            case measure => simp [intOf]; omega
          · have hst : freesTo ts a (k + 1) = freesTo ts a k := by
              show (if 0 < (gm ts k).1 ∧ mkN ts k &&& a = 0 then _ else _) = _
              rw [if_neg (fun e => hz e.2)]
            have hne : (bits .and .i64 ((mkN ts k : Nat) : Int) ((a : Nat) : Int) == 0) = false := by rw [hand, beq_eq_false_iff_ne]; omega
            have HST := Lib.hid hst
            clear hc1 hc2 hc3 hr hown hle hmc hand hz hst hS1
            go_wp2_with (go_at_call 37; refine HM.out.mono ?_; rintro e w2 ⟨rfl, l2⟩)
            go_roundw
            case rel => exact ⟨k + 1, by omega, by go_num, (HLE.out.alloc _).trans l2, by rw [HST.out]; exact own_Le HO.out (((Le.refl _).alloc _).trans l2)⟩
            case measure => simp [intOf]; omega
        · have hst : freesTo ts a (k + 1) = freesTo ts a k := by
            show (if 0 < (gm ts k).1 ∧ mkN ts k &&& a = 0 then _ else _) = _
            rw [if_neg (fun e => hy e.1)]
          have HST := Lib.hid hst
          clear hc1 hc2 hc3 hr hown hle hst hS1
          go_wp2
          go_roundw
          case rel => exact ⟨k + 1, by omega, by go_num, HLE.out.alloc _, by rw [HST.out]; exact HO.out.alloc _⟩
          case measure => simp [intOf]; omega
      · obtain rfl : k = n := by omega
        go_wp2
        go_ret
        exact ⟨_, rfl, hown, hle⟩
  · have e0 : freeL ts avoid = [] := by unfold freeL; rw [if_neg hok]
    rw [e0]
    cases hb : itemsL ts
    · rw [hb] at hv
      have HV := Lib.hid hv
      clear hv hb hok h e0
      go_enter Tryd.func40, Tryd.ntmps40
      go_wp2_with (go_at_call 24; refine HV.out.mono ?_; rintro e w1 ⟨rfl, l1⟩)
      go_ret
      exact ⟨_, rfl, World.ownsRow_nil _ _ _ _, l1⟩
    · rw [hb] at hv
      have HV := Lib.hid hv
      have hbad : avoid < 0 ∨ 31 < avoid := by
        rw [hb] at hok
        simp only [true_and] at hok
        omega
      clear hv hb hok h e0
      rcases hbad with hbad | hbad
      · go_enter Tryd.func40, Tryd.ntmps40
        go_wp2_with (go_at_call 24; refine HV.out.mono ?_; rintro e w1 ⟨rfl, l1⟩)
        go_ret
        exact ⟨_, rfl, World.ownsRow_nil _ _ _ _, l1⟩
      · go_enter Tryd.func40, Tryd.ntmps40
        go_wp2_with (go_at_call 24; refine HV.out.mono ?_; rintro e w1 ⟨rfl, l1⟩)
        go_ret
        exact ⟨_, rfl, World.ownsRow_nil _ _ _ _, l1⟩

set_option maxRecDepth 20000 in
set_option maxHeartbeats 2000000 in
theorem specFree_any (A : Option Addr) (n c : Nat) (ts : List It) (avoid : Int) (w : World) (h : RM w A n ts) :
    Calls Tryd.prog 42 #[.slice A n c, .int .i64 avoid] w fun e w' => ∃ v, e = .returned v ∧ w'.ownsRow w.heap.size 3 1 v (freeL ts avoid).length (ints (freeL ts avoid)) ∧ Le w w' := by
  have hv := fun w' (l : Le w w') => specItemsValid_any A n c ts w' (h.le l)
  have hm := h.max
  have hl := h.len
  by_cases hok : itemsL ts = true ∧ 0 ≤ avoid ∧ avoid ≤ 31
  · obtain ⟨hb, h0, h31⟩ := hok
    obtain ⟨a, rfl⟩ : ∃ a : Nat, avoid = a := ⟨avoid.toNat, by omega⟩
    have e0 : freeL ts a = freesTo ts a n := by unfold freeL; rw [if_pos ⟨hb, h0, h31⟩, hl, Int.toNat_natCast]
    rw [e0]
    rw [hb] at hv
    have hin : ∀ w', Calls Tryd.prog 85 #[.int .i64 (a : Int), .int .i64 0, .int .i64 31] w' fun e w'' => e = .returned (.bool true) ∧ w' = w'' := fun w' => by
      have := l1In_any (a : Int) 0 31 w'
      rwa [inB_t.2 ⟨h0, h31⟩] at this
    have hmk := fun (k : Nat) (hk : k < n) => marks_at hl hk hb
    have hmc := fun (k : Nat) (hk : k < n) w' (l : Le w w') => specMarks_any A n c ts k w' (h.le l)
    have hme := fun (k : Nat) (hk : k < n) w' => l1Meet_any (mkN ts k) a w' (marks_at hl hk hb).2 (by omega)
    have HMK := Lib.hid hmk
    have HMC := Lib.hid hmc
    have HME := Lib.hid hme
    have HIN := Lib.hid hin
    have HC := Lib.hid h.at_
    have HV := Lib.hid hv
    have hn6 := (items_facts hl hb).1
    clear hv hb h hmk hmc e0 hme hin
    obtain ⟨i0, hi0, hz0, hz1, hz2⟩ := info_parts infoIntF
    go_enter Tryd.func42, Tryd.ntmps42
    go_wp2
    go_loopw [5, 6] (fun v i wr => ∃ k : Nat, k ≤ n ∧ i = .int .i64 k ∧ Le w wr ∧ wr.ownsRow w.heap.size 3 1 v (freesTo ts a k).length (ints (freesTo ts a k))) (fun _ i _ => n - (intOf i).toNat)
    case atStart => exact ⟨0, Nat.zero_le _, rfl, (Le.refl _).alloc _, own_empty _ _ _⟩
    case round =>
      obtain ⟨k, hk, rfl, hle, hown⟩ := hrel
      by_cases hlt : k < n
      · obtain ⟨ad, B, m, d', rfl, hc1, hc2, hc3, hr⟩ := HC.out k hlt
        have hfl := freesTo_len ts a k
        obtain ⟨hS1, hS2⟩ := HMK.out k hlt
        have hvk := HV.out _ hle
        have HVK := Lib.hid hvk
        have HO := Lib.hid hown
        have HLE := Lib.hid hle
        have hcy := fun w' (l : Le wr w') => (hle.trans l).cell hc1
        have HCY := Lib.hid hcy
        clear hvk hcy
        by_cases hy : 0 < (gm ts k).1
        · have hmc := fun w' (l : Le wr w') => HMC.out k hlt _ (hle.trans l)
          rw [hS1] at hmc
          have HM := Lib.hid hmc
          by_cases hz : mkN ts k &&& a = 0
          · have hst : freesTo ts a (k + 1) = freesTo ts a k ++ [(k : Int)] := by
              show (if 0 < (gm ts k).1 ∧ mkN ts k &&& a = 0 then _ else _) = _
              rw [if_pos ⟨hy, hz⟩]
            have hme := HME.out k hlt
            rw [hz] at hme
            have HMT := Lib.hid hme
            have HST := Lib.hid hst
            clear hc1 hc2 hc3 hr hown hle hmc hz hst hS1 hme
            go_wp2_with (first
              | (go_at_call 25; refine HVK.out.mono ?_; rintro e w1 ⟨rfl, l1⟩; have cy := HCY.out _ l1)
              | (go_at_call 85; refine (HIN.out _).mono ?_; rintro e w' ⟨rfl, rfl⟩)
              | (go_at_call 38; refine (HM.out _ l1).mono ?_; rintro e w2 ⟨rfl, l2⟩)
              | (go_at_call 88; refine (HMT.out _).mono ?_; rintro e w' ⟨rfl, rfl⟩)
              | (at_builtin; refine wpList_append_own_at _ rfl (.tmp 36) (.tmp 38) _ rfl w.heap.size 3 i0 (.int .i64 0) 1 8 Tryd.underlying44 hi0 hz0 hz1 hz2 rfl (by decide) _ (freesTo ts a k).length (ints (freesTo ts a k)) rfl ?hown ⟨w2.heap.size, 0, none⟩ 1 1 [.int .i64 (k : Int)] rfl rfl ?c1 ?c2 ?c3 ?c4 ?c5 ?_))
            case hown => exact own_Le HO.out ((l1.trans l2).alloc _)
            case c1 => exact cell_one' _ _ rfl _ _
            case c2 => intro u hu; simp at hu; rcases hu with rfl; rfl
            case c3 => unfold maxLen; omega
            case c4 => omega
            case c5 => have h1 := HLE.out.size; have h2 := l1.size; have h3 := l2.size; simp; omega
            intro v' w3 hown' hgrow _ hat
            have hle3 : Le w w3 := ((HLE.out.trans (l1.trans l2)).alloc _).grown hgrow fun g hg => (HO.out.lt g hg).1
            have HL3 := Lib.hid hle3
            have HO3 := Lib.hid hown'
            clear hle3 hown' hgrow hat l2
            go_wp2
            go_roundw
            case rel =>
              refine ⟨k + 1, by omega, by go_num, HL3.out, ?_⟩
              rw [HST.out, ints_append, List.length_append]
              exact HO3.out
            case measure => simp [intOf]; omega
          · have hst : freesTo ts a (k + 1) = freesTo ts a k := by
              show (if 0 < (gm ts k).1 ∧ mkN ts k &&& a = 0 then _ else _) = _
              rw [if_neg (fun e => hz e.2)]
            have hme := HME.out k hlt
            obtain ⟨x, hx⟩ : ∃ x : Nat, x = mkN ts k &&& a := ⟨_, rfl⟩
            rw [← hx] at hme hz
            have hx0 : x ≠ 0 := hz
            have HMT := Lib.hid hme
            have HST := Lib.hid hst
            clear hc1 hc2 hc3 hr hown hle hmc hz hst hS1 hme hx
            go_wp2_with (first
              | (go_at_call 25; refine HVK.out.mono ?_; rintro e w1 ⟨rfl, l1⟩; have cy := HCY.out _ l1)
              | (go_at_call 85; refine (HIN.out _).mono ?_; rintro e w' ⟨rfl, rfl⟩)
              | (go_at_call 38; refine (HM.out _ l1).mono ?_; rintro e w2 ⟨rfl, l2⟩)
              | (go_at_call 88; refine (HMT.out _).mono ?_; rintro e w' ⟨rfl, rfl⟩))
            go_roundw
            case rel => exact ⟨k + 1, by omega, by go_num, HLE.out.trans (l1.trans l2), by rw [HST.out]; exact own_Le HO.out (l1.trans l2)⟩
            case measure => simp [intOf]; omega
        · have hst : freesTo ts a (k + 1) = freesTo ts a k := by
            show (if 0 < (gm ts k).1 ∧ mkN ts k &&& a = 0 then _ else _) = _
            rw [if_neg (fun e => hy e.1)]
          have HST := Lib.hid hst
          clear hc1 hc2 hc3 hr hown hle hst hS1
          go_wp2_with (first
            | (go_at_call 25; refine HVK.out.mono ?_; rintro e w1 ⟨rfl, l1⟩; have cy := HCY.out _ l1)
            | (go_at_call 85; refine (HIN.out _).mono ?_; rintro e w' ⟨rfl, rfl⟩))
          go_roundw
          case rel => exact ⟨k + 1, by omega, by go_num, HLE.out.trans l1, by rw [HST.out]; exact own_Le HO.out l1⟩
          case measure => simp [intOf]; omega
      · obtain rfl : k = n := by omega
        go_wp2
        go_ret
        exact ⟨_, rfl, hown, hle⟩
  · have e0 : freeL ts avoid = [] := by unfold freeL; rw [if_neg hok]
    rw [e0]
    by_cases hn0 : n = 0
    · subst hn0
      clear hv hok h e0
      go_enter Tryd.func42, Tryd.ntmps42
      go_wp2
      refine wp_loop_rounds 1 ?_
      rw [rounds_succ]
      go_wp2
      go_ret
      exact ⟨_, rfl, own_empty _ _ _, (Le.refl _).alloc _⟩
    · have hn1 : 0 < n := by omega
      have hv0 := hv _ ((Le.refl w).alloc (.cells #[] 3))
      cases hb : itemsL ts
      · rw [hb] at hv0
        have HV := Lib.hid hv0
        clear hv hv0 hb hok h e0
        go_enter Tryd.func42, Tryd.ntmps42
        go_wp2
        refine wp_loop_rounds 1 ?_
        rw [rounds_succ]
        go_wp2_with (go_at_call 25; refine HV.out.mono ?_; rintro e w1 ⟨rfl, l1⟩)
        go_ret
        exact ⟨_, rfl, own_Le (own_empty _ _ _) l1, ((Le.refl _).alloc _).trans l1⟩
      · rw [hb] at hv0
        have HV := Lib.hid hv0
        have hbad : inB 0 31 avoid = false := by
          rw [hb] at hok
          simp only [true_and] at hok
          exact inB_f.2 (by omega)
        have hin : ∀ w', Calls Tryd.prog 85 #[.int .i64 avoid, .int .i64 0, .int .i64 31] w' fun e w'' => e = .returned (.bool false) ∧ w' = w'' := fun w' => by
          have := l1In_any avoid 0 31 w'
          rwa [hbad] at this
        have HIN := Lib.hid hin
        clear hv hv0 hb hok h e0 hbad hin
        go_enter Tryd.func42, Tryd.ntmps42
        go_wp2
        refine wp_loop_rounds 1 ?_
        rw [rounds_succ]
        go_wp2_with (first
          | (go_at_call 25; refine HV.out.mono ?_; rintro e w1 ⟨rfl, l1⟩)
          | (go_at_call 85; refine (HIN.out _).mono ?_; rintro e w' ⟨rfl, rfl⟩))
        go_ret
        exact ⟨_, rfl, own_Le (own_empty _ _ _) l1, ((Le.refl _).alloc _).trans l1⟩
end Go.Proofs.YtbkjfgbafphopaaDoor
