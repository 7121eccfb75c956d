/- Walks: partsValid, itemValid of the program; ItemsValid of both. -/
import Derived.Test.YtoahjfofnaafaaaDoorWItV
namespace Go.Proofs.YtoahjfofnaafaaaDoor
open Go.RowKit

/-- of the part before the k-th, -1 if there is none -/
def befI (ps : List (Int × Int)) (k : Nat) : Int := if k = 0 then -1 else (gp ps (k - 1)).1
def partI (ps : List (Int × Int)) (index : Int) (k : Nat) : Bool := (decide (befI ps k < (gp ps k).1) && decide ((gp ps k).1 < index)) && (decide (1 ≤ (gp ps k).2) && decide ((gp ps k).2 ≤ 6))
def partsI (ps : List (Int × Int)) (index : Int) : Bool := decide (1 ≤ ps.length ∧ ps.length ≤ 3) && (List.range ps.length).all (partI ps index)
theorem partsI_f {ps : List (Int × Int)} {index : Int} {k : Nat} (hk : k < ps.length) (h : partI ps index k = false) : partsI ps index = false := by
  unfold partsI
  have : (List.range ps.length).all (partI ps index) = false := by
    rw [← Bool.not_eq_true, List.all_eq_true]
    intro hh
    rw [hh k (List.mem_range.2 hk)] at h; cases h
  rw [this, Bool.and_false]

set_option maxRecDepth 20000 in
set_option maxHeartbeats 2000000 in
theorem partsValid_any (A : Option Addr) (n c : Nat) (ps : List (Int × Int)) (index : Int) (w : World) (h : RP w A n ps) :
    Calls Tryd.prog 80 #[.slice A n c, .int .i64 index] w fun e w' => e = .returned (.bool (partsI ps index)) ∧ Le w w' := by
  have hm := h.max
  have HL := Lib.hid h.len
  have HC := Lib.hid h.at_
  clear h
  by_cases hn : 1 ≤ n ∧ n ≤ 3
  · obtain ⟨h1, h3⟩ := hn
    go_enter Tryd.func80, Tryd.ntmps80
    go_wp2
    go_loopw [5, 18] (fun v i wr => ∃ k : Nat, k ≤ n ∧ i = .int .i64 k ∧ v = .int .i64 (befI ps k) ∧ Le w wr ∧ AllTo (partI ps index) k) (fun _ i _ => n - (intOf i).toNat)
    case atStart => exact ⟨0, Nat.zero_le _, rfl, rfl, Le.refl _, AllTo.zero _⟩
    case round =>
      obtain ⟨k, hk, rfl, rfl, hle, hin⟩ := hrel
      by_cases hlt : k < n
      · obtain ⟨ad, rfl, hc1, hc2⟩ := HC.out k hlt
        have c1 := hle.cell hc1
        have c2 := hle.cell hc2
        have hb : befI ps (k + 1) = (gp ps k).1 := by simp [befI]
        have HB := Lib.hid hb
        have HLE := Lib.hid hle
        have HIN := Lib.hid hin
        clear hc1 hc2 hb hle hin
        go_wp2
        all_goals first
          | (go_ret
             refine ⟨ret_bool (partsI_f (k := k) (by rw [HL.out]; exact hlt) ?_).symm, HLE.out.alloc _⟩
             rw [← Bool.not_eq_true]
             unfold partI
             simp only [Bool.and_eq_true, decide_eq_true_eq]
             omega)
          | (go_roundw
             case rel =>
               refine ⟨k + 1, by omega, by go_num, by rw [HB.out], HLE.out.alloc _, HIN.out.succ ?_⟩
               unfold partI
               simp only [Bool.and_eq_true, decide_eq_true_eq]
               omega
             case measure => simp [intOf]; omega)
      · obtain rfl : k = n := by omega
        go_wp2
        go_ret
        refine ⟨ret_bool ?_, hle⟩
        unfold partsI
        rw [HL.out, decide_eq_true ⟨h1, h3⟩, Bool.true_and, Eq.comm, List.all_eq_true]
        exact fun j hj => hin j (List.mem_range.1 hj)
  · have e0 : partsI ps index = false := by
      unfold partsI; rw [HL.out, decide_eq_false hn]; rfl
    rw [e0]
    clear HL HC
    by_cases h1 : n < 1
    · go_enter Tryd.func80, Tryd.ntmps80
      go_wp2
      go_ret
      exact ⟨rfl, Le.refl _⟩
    · go_enter Tryd.func80, Tryd.ntmps80
      go_wp2
      go_ret
      exact ⟨rfl, Le.refl _⟩

/-- both ways to say it are one -/
theorem part_one (ps : List (Int × Int)) (index : Int) (h : ∀ k, k < ps.length → partB ps index k = true) : ∀ k, k < ps.length → partI ps index k = true := by
  intro k hk
  have h1 := h k hk
  unfold partB at h1
  unfold partI befI
  simp only [Bool.and_eq_true, Bool.or_eq_true, inB_t, decide_eq_true_eq] at h1 ⊢
  split <;> omega
theorem part_two (ps : List (Int × Int)) (index : Int) (h : ∀ k, k < ps.length → partI ps index k = true) : ∀ k, k < ps.length → partB ps index k = true ∧ 0 ≤ (gp ps k).1 := by
  intro k
  induction k with
  | zero =>
    intro hk
    have h1 := h 0 hk
    unfold partI befI at h1
    unfold partB
    simp only [if_true, Bool.and_eq_true, Bool.or_eq_true, inB_t, decide_eq_true_eq] at h1 ⊢
    refine ⟨?_, by omega⟩
    simp only [true_or, and_true]
    omega
  | succ k ih =>
    intro hk
    have h1 := h (k + 1) hk
    have h2 := (ih (by omega)).2
    unfold partI befI at h1
    unfold partB
    rw [if_neg (by omega), show k + 1 - 1 = k from rfl] at h1
    rw [show k + 1 - 1 = k from rfl]
    simp only [Bool.and_eq_true, Bool.or_eq_true, inB_t, decide_eq_true_eq] at h1 ⊢
    omega
def itemI (x : It) (index : Int) : Bool := inB 0 31 x.2.2 && (if x.1 = 0 then decide (x.2.1.length = 0) else inB 1 6 x.1 && partsI x.2.1 index)
theorem itemI_eq (x : It) (index : Int) : itemI x index = itemL x index := by
  rw [Bool.eq_iff_iff]
  unfold itemI itemL partsI
  simp only [Bool.and_eq_true, List.all_eq_true, List.mem_range, inB_t, decide_eq_true_eq, beq_iff_eq, decide_eq_decide]
  constructor
  · rintro ⟨hm, hy⟩
    split at hy
    · rename_i h0
      rw [decide_eq_true_eq] at hy
      exact ⟨fun k hk => by omega, ⟨⟨⟨by omega, by omega⟩, by omega⟩, hm⟩⟩
    · simp only [Bool.and_eq_true, List.all_eq_true, List.mem_range, inB_t, decide_eq_true_eq] at hy
      obtain ⟨h1, h2, h3⟩ := hy
      exact ⟨fun k hk => (part_two _ _ h3 k hk).1, ⟨⟨⟨by omega, by omega⟩, by omega⟩, hm⟩⟩
  · rintro ⟨h1, ⟨⟨h2, h3⟩, h4⟩, h5⟩
    refine ⟨h5, ?_⟩
    split
    · rename_i h0
      rw [decide_eq_true_eq]; omega
    · simp only [Bool.and_eq_true, List.all_eq_true, List.mem_range, inB_t, decide_eq_true_eq]
      exact ⟨by omega, by omega, part_one _ _ h1⟩

set_option maxRecDepth 20000 in
set_option maxHeartbeats 2000000 in
theorem implItem_any (y : Int) (A : Option Addr) (n c : Nat) (mk : Int) (ps : List (Int × Int)) (index : Int) (w : World) (h : RP w A n ps) :
    Calls Tryd.prog 47 #[.agg #[.int .i64 y, .slice A n c, .int .i64 mk], .int .i64 index] w fun e w' => e = .returned (.bool (itemL (y, ps, mk) index)) ∧ Le w w' := by
  rw [← itemI_eq]
  have hm := h.max
  have HL := Lib.hid h.len
  have hp := partsValid_any A n c ps index _ (h.le ((Le.refl w).alloc (.cells #[.int .i64 y, .slice A n c, .int .i64 mk] 26)))
  have l0 := (Le.refl w).alloc (.cells #[.int .i64 y, .slice A n c, .int .i64 mk] 26)
  have HP := Lib.hid hp
  have L0 := Lib.hid l0
  clear h hp l0
  have hI : itemI (y, ps, mk) index = (inB 0 31 mk && (if y = 0 then decide (n = 0) else inB 1 6 y && partsI ps index)) := by
    unfold itemI; simp only; rw [HL.out]
  rw [hI]
  by_cases h1 : 0 ≤ mk ∧ mk ≤ 31
  · obtain ⟨h1, h2⟩ := h1
    rw [inB_t.2 ⟨h1, h2⟩, Bool.true_and]
    by_cases h3 : y = 0
    · rw [if_pos h3]
      go_enter Tryd.func47, Tryd.ntmps47
      go_wp2
      go_ret
      refine ⟨?_, (Le.refl _).alloc _⟩
      exact ret_bool (a := ((n : Int) == 0)) (by rw [Bool.eq_iff_iff]; simp)
    · rw [if_neg h3]
      have h3f : (y == 0) = false := by simpa using h3
      by_cases h4 : 1 ≤ y ∧ y ≤ 6
      · obtain ⟨h4, h5⟩ := h4
        rw [inB_t.2 ⟨h4, h5⟩, Bool.true_and]
        go_enter Tryd.func47, Tryd.ntmps47
        go_wp2_with (go_at_call 80; refine HP.out.mono ?_; rintro e w1 ⟨rfl, l1⟩)
        go_ret
        exact ⟨rfl, L0.out.trans l1⟩
      · rw [show inB 1 6 y = false from inB_f.2 (by omega), Bool.false_and]
        by_cases h5 : y < 1
        · go_enter Tryd.func47, Tryd.ntmps47
          go_wp2
          go_ret
          exact ⟨rfl, L0.out⟩
        · go_enter Tryd.func47, Tryd.ntmps47
          go_wp2
          go_ret
          exact ⟨rfl, L0.out⟩
  · rw [show inB 0 31 mk = false from inB_f.2 (by omega), Bool.false_and]
    by_cases h5 : mk < 0
    · go_enter Tryd.func47, Tryd.ntmps47
      go_wp2
      go_ret
      exact ⟨rfl, L0.out⟩
    · go_enter Tryd.func47, Tryd.ntmps47
      go_wp2
      go_ret
      exact ⟨rfl, L0.out⟩
def itemsL (ts : List It) : Bool := decide (ts.length ≤ 6) && (List.range ts.length).all fun k => itemL (gm ts k) k
theorem itemsL_f {ts : List It} {k : Nat} (hk : k < ts.length) (h : itemL (gm ts k) k = false) : itemsL ts = false := by
  unfold itemsL
  have : ((List.range ts.length).all fun k => itemL (gm ts k) k) = false := by
    rw [← Bool.not_eq_true, List.all_eq_true]
    intro hh
    rw [hh k (List.mem_range.2 hk)] at h; cases h
  rw [this, Bool.and_false]

set_option maxRecDepth 20000 in
set_option maxHeartbeats 1000000 in
theorem specItemsValid_any (A : Option Addr) (n c : Nat) (ts : List It) (w : World) (h : RM w A n ts) :
    Calls Tryd.prog 70 #[.slice A n c] w fun e w' => e = .returned (.bool (itemsL ts)) ∧ Le w w' := by
  have hm := h.max
  have HL := Lib.hid h.len
  have HC := Lib.hid h.at_
  clear h
  go_enter Tryd.func70, Tryd.ntmps70
  go_wp2
  go_loopw [3] (fun i wr => ∃ k : Nat, k ≤ n ∧ i = .int .i64 k ∧ Le w wr ∧ AllTo (fun j => itemL (gm ts j) j) k) (fun i _ => n - (intOf i).toNat)
  case atStart => exact ⟨0, Nat.zero_le _, rfl, Le.refl _, AllTo.zero _⟩
  case round =>
    obtain ⟨k, hk, rfl, hle, hin⟩ := hrel
    by_cases hlt : k < n
    · obtain ⟨ad, B, m, d, rfl, hc1, hc2, hc3, hr⟩ := HC.out k hlt
      have c1 := hle.cell hc1
      have c2 := hle.cell hc2
      have c3 := hle.cell hc3
      have hq := specItem_any (gm ts k).1 B m d (gm ts k).2.2 (gm ts k).2.1 k wr (hr.le hle) (by omega)
      cases hb : itemL (gm ts k) k
      · rw [show ((gm ts k).1, (gm ts k).2.1, (gm ts k).2.2) = gm ts k from rfl, hb] at hq
        have HQ := Lib.hid hq
        have HB := Lib.hid hb
        clear hq hb hc1 hc2 hc3 hr
        go_wp2_with (go_at_call 53; refine HQ.out.mono ?_; rintro e w1 ⟨rfl, l1⟩)
        go_ret
        exact ⟨ret_bool (itemsL_f (by rw [HL.out]; exact hlt) HB.out).symm, hle.trans l1⟩
      · rw [show ((gm ts k).1, (gm ts k).2.1, (gm ts k).2.2) = gm ts k from rfl, hb] at hq
        have HQ := Lib.hid hq
        have HB := Lib.hid hb
        clear hq hb hc1 hc2 hc3 hr
        go_wp2_with (go_at_call 53; refine HQ.out.mono ?_; rintro e w1 ⟨rfl, l1⟩)
        go_roundw
        case rel => exact ⟨k + 1, by omega, by go_num, hle.trans l1, hin.succ HB.out⟩
        case measure => simp [intOf]; omega
    · obtain rfl : k = n := by omega
      have hall : itemsL ts = decide (k ≤ 6) := by
        unfold itemsL
        have : ((List.range ts.length).all fun k => itemL (gm ts k) k) = true := by
          rw [List.all_eq_true]
          intro j hj
          exact hin j (by have := List.mem_range.1 hj; rw [HL.out] at this; exact this)
        rw [this, HL.out, Bool.and_true]
      have HALL := Lib.hid hall
      clear hall hin
      go_wp2
      go_ret
      refine ⟨ret_bool ?_, hle⟩
      rw [HALL.out]
      simp
      try omega

set_option maxRecDepth 20000 in
set_option maxHeartbeats 1000000 in
theorem implItemsValid_any (A : Option Addr) (n c : Nat) (ts : List It) (w : World) (h : RM w A n ts) :
    Calls Tryd.prog 73 #[.slice A n c] w fun e w' => e = .returned (.bool (itemsL ts)) ∧ Le w w' := by
  have hm := h.max
  have HL := Lib.hid h.len
  have HC := Lib.hid h.at_
  clear h
  by_cases hn : n ≤ 6
  · have hne : decide ((6 : Int) < (n : Int)) = false := by simp; omega
    go_enter Tryd.func73, Tryd.ntmps73
    go_wp2
    go_loopw [10] (fun i wr => ∃ k : Nat, k ≤ n ∧ i = .int .i64 k ∧ Le w wr ∧ AllTo (fun j => itemL (gm ts j) j) k) (fun i _ => n - (intOf i).toNat)
    case atStart => exact ⟨0, Nat.zero_le _, rfl, Le.refl _, AllTo.zero _⟩
    case round =>
      obtain ⟨k, hk, rfl, hle, hin⟩ := hrel
      by_cases hlt : k < n
      · obtain ⟨ad, B, m, d, rfl, hc1, hc2, hc3, hr⟩ := HC.out k hlt
        have c1 := hle.cell hc1
        have c2 := hle.cell hc2
        have c3 := hle.cell hc3
        have l2 := hle.alloc (.cells #[.int .i64 (gm ts k).1, .slice B m d, .int .i64 (gm ts k).2.2] 26)
        have hq := implItem_any (gm ts k).1 B m d (gm ts k).2.2 (gm ts k).2.1 k _ (hr.le l2)
        cases hb : itemL (gm ts k) k
        · rw [show ((gm ts k).1, (gm ts k).2.1, (gm ts k).2.2) = gm ts k from rfl, hb] at hq
          have HQ := Lib.hid hq
          have HB := Lib.hid hb
          clear hq hb hc1 hc2 hc3 hr
          go_wp2_with (go_at_call 47; refine HQ.out.mono ?_; rintro e w1 ⟨rfl, l1⟩)
          go_ret
          exact ⟨ret_bool (itemsL_f (by rw [HL.out]; exact hlt) HB.out).symm, l2.trans l1⟩
        · rw [show ((gm ts k).1, (gm ts k).2.1, (gm ts k).2.2) = gm ts k from rfl, hb] at hq
          have HQ := Lib.hid hq
          have HB := Lib.hid hb
          clear hq hb hc1 hc2 hc3 hr
          go_wp2_with (go_at_call 47; refine HQ.out.mono ?_; rintro e w1 ⟨rfl, l1⟩)
          go_roundw
          case rel => exact ⟨k + 1, by omega, by go_num, l2.trans l1, hin.succ HB.out⟩
          case measure => simp [intOf]; omega
      · obtain rfl : k = n := by omega
        go_wp2
        go_ret
        refine ⟨ret_bool ?_, hle⟩
        unfold itemsL
        rw [HL.out, decide_eq_true hn, Bool.true_and, Eq.comm, List.all_eq_true]
        exact fun j hj => hin j (List.mem_range.1 hj)
  · have hne : decide ((6 : Int) < (n : Int)) = true := by simp; omega
    go_enter Tryd.func73, Tryd.ntmps73
    go_wp2
    go_ret
    refine ⟨ret_bool ?_, Le.refl _⟩
    unfold itemsL
    rw [HL.out, decide_eq_false hn]; rfl

end Go.Proofs.YtoahjfofnaafaaaDoor
