/- Walks: eqTaskS; TasksValid of the program and of the reference. -/
import Derived.Test.YtedopialmhpalaaWTask
namespace Go.Proofs.Ytedopialmhpalaa
open Go.RowKit

set_option maxHeartbeats 400000 in
theorem eqTask_self (s : Int) (A B : Option Addr) (n m c d : Nat) (xs : List Int) (w : World) (h : RI w A n xs) (h' : RI w B m xs) :
    Calls Try.prog 53 #[.agg #[.int .i64 s, .slice A n c], .agg #[.int .i64 s, .slice B m d]] w fun e w' => e = .returned (.bool true) ∧ Le w w' := by
  have hc : ∀ w', Le w w' → RI w' A n xs ∧ RI w' B m xs := fun w' l => ⟨h.le l, h'.le l⟩
  have HC := Lib.hid hc
  clear h h' hc
  go_enter Try.func53, Try.ntmps53
  go_wp2_with fail
  refine (eqIntS_self _ _ _ _ _ _ _ _ (HC.out _ (((Le.refl _).alloc _).alloc _)).1 (HC.out _ (((Le.refl _).alloc _).alloc _)).2).mono ?_; rintro e w1 ⟨rfl, l1⟩
  have L1 := Lib.hid ((((Le.refl w).alloc (.cells #[.int .i64 s, .slice A n c] 61)).alloc (.cells #[.int .i64 s, .slice B m d] 61)).trans l1)
  clear l1
  go_wp2
  go_ret
  exact ⟨rfl, L1.out⟩

set_option maxHeartbeats 1000000 in
theorem eqTaskS_self (A B : Option Addr) (n m c d : Nat) (ts : List (Int × List Int)) (w : World) (h : RT w A n ts) (h' : RT w B m ts) :
    Calls Try.prog 39 #[.slice A n c, .slice B m d] w fun e w' => e = .returned (.bool true) ∧ Le w w' := by
  have hm := h.max
  have hnm : n = m := by rw [← h.len, h'.len]
  subst hnm
  have HC := Lib.hid h.at_
  have HC2 := Lib.hid h'.at_
  clear h h'
  go_enter Try.func39, Try.ntmps39
  go_wp2
  go_loopw [5] (fun i wr => ∃ k : Nat, k ≤ n ∧ i = .int .i64 k ∧ Le w wr) (fun i _ => n - (intOf i).toNat)
  case atStart => exact ⟨0, Nat.zero_le _, rfl, Le.refl _⟩
  case round =>
    obtain ⟨k, hk, rfl, hle⟩ := hrel
    by_cases hlt : k < n
    · obtain ⟨ad, B1, m1, d1, rfl, hc1, hc2, hr1⟩ := HC.out k hlt
      obtain ⟨ad2, B2, m2, d2, rfl, hc3, hc4, hr2⟩ := HC2.out k hlt
      have c1 := hle.cell hc1
      have c2 := hle.cell hc2
      have c3 := hle.cell hc3
      have c4 := hle.cell hc4
      have R1 := Lib.hid (hr1.le hle.drew)
      have R2 := Lib.hid (hr2.le hle.drew)
      have HLE := Lib.hid hle
      clear hle hc1 hc2 hc3 hc4 hr1 hr2
      go_wp2
      go_still_tail 8, (by kernel_rfl)
      change wpList _ _ _ _ _ wr.drew
      go_wp2_with fail
      refine (eqTask_self _ _ _ _ _ _ _ _ _ R1.out R2.out).mono ?_; rintro e w1 ⟨rfl, l1⟩
      have L1 := Lib.hid l1
      clear l1
      go_wp2
      go_roundw
      case rel => exact ⟨k + 1, by omega, by go_num, HLE.out.drew.trans L1.out⟩
      case measure => simp [intOf]; omega
    · go_wp2
      go_ret
      exact ⟨rfl, hle⟩

/-- the number before the j-th one, -1 before the first -/
def prev (xs : List Int) : Nat → Int
  | 0 => -1
  | j + 1 => gi xs j
def aOk (xs : List Int) (i : Int) (j : Nat) : Bool := decide (prev xs j < gi xs j) && decide (gi xs j < i)
def sOk (xs : List Int) (i : Int) (j : Nat) : Bool := inB 0 (i - 1) (gi xs j) && decide (prev xs j < gi xs j)
theorem aOk_t {xs : List Int} {i : Int} {j : Nat} : aOk xs i j = true ↔ prev xs j < gi xs j ∧ gi xs j < i := by
  unfold aOk; rw [Bool.and_eq_true, decide_eq_true_eq, decide_eq_true_eq]
theorem aOk_pos {xs : List Int} {i : Int} {k : Nat} (h : ∀ j, j < k → aOk xs i j = true) : ∀ j, j < k → 0 ≤ gi xs j := by
  intro j
  induction j with
  | zero =>
    intro hj
    have e : (-1 : Int) < gi xs 0 := (aOk_t.1 (h 0 hj)).1
    omega
  | succ j ih =>
    intro hj
    have h1 := ih (by omega)
    have e : gi xs j < gi xs (j + 1) := (aOk_t.1 (h (j + 1) hj)).1
    omega
theorem sOk_iff {xs : List Int} {i : Int} {n : Nat} : (∀ j, j < n → sOk xs i j = true) ↔ (∀ j, j < n → aOk xs i j = true) := by
  constructor
  · intro h j hj
    have := h j hj
    unfold sOk at this
    rw [Bool.and_eq_true, inB_t] at this
    simp [aOk] at this ⊢; omega
  · intro h j hj
    have h1 := aOk_pos h j hj
    have := h j hj
    unfold sOk
    rw [Bool.and_eq_true, inB_t]
    simp [aOk] at this ⊢; omega
def afterOk (xs : List Int) (i : Int) : Bool := (List.range xs.length).all (aOk xs i)
theorem afterOk_t {xs : List Int} {i : Int} {n : Nat} (hl : xs.length = n) : afterOk xs i = true ↔ ∀ j, j < n → aOk xs i j = true := by
  unfold afterOk; rw [List.all_eq_true, hl]
  exact ⟨fun h j hj => h j (List.mem_range.2 hj), fun h j hj => h j (List.mem_range.1 hj)⟩
theorem afterOk_f {xs : List Int} {i : Int} {n j : Nat} (hl : xs.length = n) (hj : j < n) (h : aOk xs i j = false) : afterOk xs i = false := by
  rw [← Bool.not_eq_true, afterOk_t hl]; intro hh; rw [hh j hj] at h; cases h
theorem afterOk_fs {xs : List Int} {i : Int} {n j : Nat} (hl : xs.length = n) (hj : j < n) (h : sOk xs i j = false) : afterOk xs i = false := by
  rw [← Bool.not_eq_true, afterOk_t hl, ← sOk_iff]; intro hh; rw [hh j hj] at h; cases h
def taskOk (ts : List (Int × List Int)) (i : Nat) : Bool := inB 0 30 (gt ts i).1 && afterOk (gt ts i).2 i
def tasksL (ts : List (Int × List Int)) : Bool := decide (ts.length ≤ 7) && (List.range ts.length).all (taskOk ts)
theorem tasksL_bad {ts : List (Int × List Int)} {n k : Nat} (hl : ts.length = n) (hk : k < n) (h : taskOk ts k = false) : tasksL ts = false := by
  unfold tasksL
  have : (List.range ts.length).all (taskOk ts) = false := by
    rw [← Bool.not_eq_true, List.all_eq_true]
    intro hh
    rw [hh k (List.mem_range.2 (by omega))] at h; cases h
  rw [this, Bool.and_false]
theorem tasksL_all {ts : List (Int × List Int)} {n : Nat} (hl : ts.length = n) (h : ∀ k, k < n → taskOk ts k = true) : tasksL ts = decide (n ≤ 7) := by
  unfold tasksL
  have : (List.range ts.length).all (taskOk ts) = true := by
    rw [List.all_eq_true]; intro k hk; exact h k (by have := List.mem_range.1 hk; omega)
  rw [this, Bool.and_true, hl]

set_option maxHeartbeats 2000000 in
theorem implTasksValid_any (A : Option Addr) (n c : Nat) (ts : List (Int × List Int)) (w : World) (h : RT w A n ts) :
    Calls Try.prog 38 #[.slice A n c] w fun e w' => e = .returned (.bool (tasksL ts)) ∧ Le w w' := by
  have hm := h.max
  have HL := Lib.hid h.len
  have HC := Lib.hid h.at_
  clear h
  by_cases hn : n ≤ 7
  · have hne : decide ((7 : Int) < (n : Int)) = false := by simp; omega
    go_enter Try.func38, Try.ntmps38
    go_wp2
    go_loopw [13] (fun i wr => ∃ k : Nat, k ≤ n ∧ i = .int .i64 k ∧ Le w wr ∧ AllTo (taskOk ts) k) (fun i _ => n - (intOf i).toNat)
    case atStart => exact ⟨0, Nat.zero_le _, rfl, Le.refl _, AllTo.zero _⟩
    case round =>
      obtain ⟨k, hk, rfl, hle, hin⟩ := hrel
      by_cases hlt : k < n
      · obtain ⟨ad, B, m, d, rfl, hc1, hc2, hr⟩ := HC.out k hlt
        have c1 := hle.cell hc1
        have c2 := hle.cell hc2
        have hmm := hr.max
        have HR := Lib.hid (hr.le (hle.alloc (.cells #[.int .i64 (gt ts k).1, .slice B m d] 61)))
        have HLE := Lib.hid hle
        clear hc1 hc2 hr hle
        cases hsp : inB 0 30 (gt ts k).1
        · have hbad := tasksL_bad HL.out hlt (show taskOk ts k = false by simp [taskOk, hsp])
          have HB := Lib.hid hbad
          clear hbad
          have hsp' := inB_f.1 hsp
          by_cases h0 : (gt ts k).1 < 0
          · go_wp2
            go_ret
            exact ⟨ret_bool HB.out.symm, HLE.out.alloc _⟩
          · have h30 : 30 < (gt ts k).1 := by omega
            go_wp2
            go_ret
            exact ⟨ret_bool HB.out.symm, HLE.out.alloc _⟩
        · obtain ⟨s0, s30⟩ := inB_t.1 hsp
          go_wp2
          go_loop [5, 29] (fun b j => ∃ q : Nat, q ≤ m ∧ j = .int .i64 q ∧ b = .int .i64 (prev (gt ts k).2 q) ∧ AllTo (aOk (gt ts k).2 k) q) (fun _ j => m - (intOf j).toNat)
          case atStart => exact ⟨0, Nat.zero_le _, rfl, rfl, AllTo.zero _⟩
          case round =>
            obtain ⟨q, hq, rfl, rfl, hin2⟩ := hrel
            have HI2 := Lib.hid hin2
            clear hin2
            by_cases hltq : q < m
            · obtain ⟨ad2, rfl, e1⟩ := HR.out.at_ q hltq
              by_cases g1 : prev (gt ts k).2 q < gi (gt ts k).2 q
              · by_cases g2 : gi (gt ts k).2 q < k
                · go_wp2
                  go_round
                  case rel => exact ⟨q + 1, by omega, by go_num, rfl, HI2.out.succ (by simp [aOk, g1, g2])⟩
                  case measure => simp [intOf]; omega
                · go_wp2
                  go_ret
                  exact ⟨ret_bool (tasksL_bad HL.out hlt (by
                    unfold taskOk
                    rw [afterOk_f HR.out.len hltq (by simp [aOk]; omega), Bool.and_false])).symm, HLE.out.alloc _⟩
              · go_wp2
                go_ret
                exact ⟨ret_bool (tasksL_bad HL.out hlt (by
                  unfold taskOk
                  rw [afterOk_f HR.out.len hltq (by simp [aOk]; omega), Bool.and_false])).symm, HLE.out.alloc _⟩
            · obtain rfl : q = m := by omega
              go_wp2
              go_roundw
              case rel =>
                refine ⟨k + 1, by omega, by go_num, HLE.out.alloc _, hin.succ ?_⟩
                unfold taskOk
                rw [hsp, (afterOk_t HR.out.len).2 HI2.out]; rfl
              case measure => simp [intOf]; omega
      · go_wp2
        go_ret
        refine ⟨ret_bool ?_, hle⟩
        rw [tasksL_all HL.out fun j hj => hin.at_ hlt hj]
        simp [hn]
  · have hne : decide ((7 : Int) < (n : Int)) = true := by simp; omega
    go_enter Try.func38, Try.ntmps38
    go_wp2
    go_ret
    refine ⟨ret_bool ?_, Le.refl _⟩
    unfold tasksL
    rw [HL.out]
    simp [hn]

set_option maxHeartbeats 2000000 in
theorem specTasksValid_any (A : Option Addr) (n c : Nat) (ts : List (Int × List Int)) (w : World) (h : RT w A n ts) :
    Calls Try.prog 36 #[.slice A n c] w fun e w' => e = .returned (.bool (tasksL ts)) ∧ ∃ q, w' = w.drewN q := by
  have hm := h.max
  have HL := Lib.hid h.len
  have HC := Lib.hid h.at_
  clear h
  go_enter Try.func36, Try.ntmps36
  go_wp2
  go_loopw [3] (fun i wr => ∃ k : Nat, k ≤ n ∧ i = .int .i64 k ∧ (∃ q, wr = w.drewN q) ∧ AllTo (taskOk ts) k) (fun i _ => n - (intOf i).toNat)
  case atStart => exact ⟨0, Nat.zero_le _, rfl, ⟨0, rfl⟩, AllTo.zero _⟩
  case round =>
    obtain ⟨k, hk, rfl, ⟨q0, rfl⟩, hin⟩ := hrel
    by_cases hlt : k < n
    · obtain ⟨ad, B, m, d, rfl, c1, c2, hr⟩ := HC.out k hlt
      have hmm := hr.max
      have HR := Lib.hid hr
      clear hr
      go_wp2
      go_loopw [4] (fun j ws => ∃ j' : Nat, j' ≤ m ∧ j = .int .i64 j' ∧ (∃ q, ws = w.drewN q) ∧ AllTo (sOk (gt ts k).2 k) j') (fun j _ => m - (intOf j).toNat)
      case atStart => exact ⟨0, Nat.zero_le _, rfl, ⟨_, rfl⟩, AllTo.zero _⟩
      case round =>
        obtain ⟨j, hj, rfl, ⟨q1, rfl⟩, hin2⟩ := hrel
        have HI2 := Lib.hid hin2
        clear hin2
        by_cases hltj : j < m
        · obtain ⟨ad2, rfl, e1⟩ := HR.out.at_ j hltj
          cases hb : inB 0 ((k : Int) - 1) (gi (gt ts k).2 j)
          · go_wp2
            go_quiet ((go_at_call 44; exact quiet_al (l1In_any _ _ _ _)))
            go_wp2
            go_ret
            exact ⟨ret_bool (tasksL_bad HL.out hlt (by
                  unfold taskOk
                  rw [afterOk_fs HR.out.len hltj (by simp [sOk, hb]), Bool.and_false])).symm, _, World.drewN_drewN _ _ _⟩
          · rcases Nat.eq_zero_or_pos j with hj0 | hj0
            · have hdZ : decide ((0 : Int) < (j : Int)) = false := by simp; omega
              have hdN : decide (0 < j) = false := by simp; omega
              have hok : sOk (gt ts k).2 k j = true := by
                subst hj0
                unfold sOk
                rw [hb, Bool.true_and, decide_eq_true_eq]
                have := inB_t.1 hb
                show (-1 : Int) < _
                omega
              have HOK := Lib.hid hok
              clear hj0 hok
              go_wp2
              go_quiet ((go_at_call 44; exact quiet_al (l1In_any _ _ _ _)))
              go_wp2
              go_roundw
              case rel => exact ⟨j + 1, by omega, by go_num, ⟨_, rfl⟩, HI2.out.succ HOK.out⟩
              case measure => simp [intOf]; omega
            · obtain ⟨p, rfl⟩ : ∃ p, j = p + 1 := ⟨j - 1, by omega⟩
              obtain ⟨ad3, he3, e3⟩ := HR.out.at_ p (by omega)
              injection he3 with he3
              subst he3
              have hdZ : (0 : Int) < (p : Int) + 1 := by omega
              have hw1 : IntKind.i64.wrap (p : Int) = p := IntWalk.i64_in _ (by omega)
              rw [Addr.add_succ'] at e1
              by_cases hcmp : gi (gt ts k).2 p < gi (gt ts k).2 (p + 1)
              · have hd : decide (gi (gt ts k).2 (p + 1) ≤ gi (gt ts k).2 p) = false := by simp; omega
                have hok : sOk (gt ts k).2 k (p + 1) = true := by
                  unfold sOk
                  rw [hb, Bool.true_and, decide_eq_true_eq]
                  exact hcmp
                have HOK := Lib.hid hok
                clear hcmp hok hj0
                go_wp2
                go_quiet ((go_at_call 44; exact quiet_al (l1In_any _ _ _ _)))
                go_wp2
                go_roundw
                case rel => exact ⟨p + 1 + 1, by omega, by go_num, ⟨_, rfl⟩, HI2.out.succ HOK.out⟩
                case measure => simp [intOf]; omega
              · have hd : gi (gt ts k).2 (p + 1) ≤ gi (gt ts k).2 p := by omega
                have hno : sOk (gt ts k).2 k (p + 1) = false := by
                  unfold sOk
                  rw [hb, Bool.true_and, decide_eq_false_iff_not]
                  show ¬ gi (gt ts k).2 p < _
                  omega
                have HNO := Lib.hid hno
                clear hcmp hno hj0
                go_wp2
                go_quiet ((go_at_call 44; exact quiet_al (l1In_any _ _ _ _)))
                go_wp2
                go_ret
                exact ⟨ret_bool (tasksL_bad HL.out hlt (by
                  unfold taskOk
                  rw [afterOk_fs HR.out.len hltj HNO.out, Bool.and_false])).symm, _, World.drewN_drewN _ _ _⟩
        · obtain rfl : j = m := by omega
          have HOK := Lib.hid ((afterOk_t HR.out.len).2 (sOk_iff.1 HI2.out))
          cases hsp : inB 0 30 (gt ts k).1
          · go_wp2_with (go_at_call 44; refine (l1In_any _ _ _ _).mono ?_; rintro e w' ⟨rfl, rfl⟩)
            go_ret
            exact ⟨ret_bool (tasksL_bad HL.out hlt (by simp [taskOk, hsp])).symm, _, rfl⟩
          · go_wp2_with (go_at_call 44; refine (l1In_any _ _ _ _).mono ?_; rintro e w' ⟨rfl, rfl⟩)
            go_roundw
            case rel => exact ⟨k + 1, by omega, by go_num, ⟨_, rfl⟩, hin.succ (by simp [taskOk, hsp, HOK.out])⟩
            case measure => simp [intOf]; omega
    · go_wp2
      go_ret
      refine ⟨ret_bool ?_, q0, rfl⟩
      rw [tasksL_all HL.out fun j hj => hin.at_ hlt hj]
      by_cases e : n ≤ 7
      · simp [e]; omega
      · simp [e]; omega

end Go.Proofs.Ytedopialmhpalaa
