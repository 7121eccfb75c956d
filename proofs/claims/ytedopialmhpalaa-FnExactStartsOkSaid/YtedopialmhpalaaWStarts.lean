/- Walks: StartsOk of the program and of the reference. -/
import Derived.Test.YtedopialmhpalaaWTaskV
namespace Go.Proofs.Ytedopialmhpalaa
open Go.RowKit

def stAt (ts : List (Int × List Int)) (starts : List Int) (i j : Nat) : Bool := decide (gi starts (gi (gt ts i).2 j).toNat + (gt ts (gi (gt ts i).2 j).toNat).1 ≤ gi starts i)
def stOk (ts : List (Int × List Int)) (starts : List Int) (i : Nat) : Bool := (List.range (gt ts i).2.length).all (stAt ts starts i)
def startsL (ts : List (Int × List Int)) (starts : List Int) : Bool := (tasksL ts && amountsOkL starts ts.length 9999) && (List.range ts.length).all (stOk ts starts)
theorem stOk_f {ts : List (Int × List Int)} {starts : List Int} {i j m : Nat} (hl : (gt ts i).2.length = m) (hj : j < m) (h : stAt ts starts i j = false) : stOk ts starts i = false := by
  unfold stOk
  rw [← Bool.not_eq_true, List.all_eq_true]
  intro hh
  rw [hh j (List.mem_range.2 (by omega))] at h; cases h
theorem stOk_t {ts : List (Int × List Int)} {starts : List Int} {i m : Nat} (hl : (gt ts i).2.length = m) (h : ∀ j, j < m → stAt ts starts i j = true) : stOk ts starts i = true := by
  unfold stOk
  rw [List.all_eq_true]; intro j hj; exact h j (by have := List.mem_range.1 hj; omega)
theorem startsL_f {ts : List (Int × List Int)} {starts : List Int} {i n : Nat} (hl : ts.length = n) (hi : i < n) (h : stOk ts starts i = false) : startsL ts starts = false := by
  unfold startsL
  have : (List.range ts.length).all (stOk ts starts) = false := by
    rw [← Bool.not_eq_true, List.all_eq_true]
    intro hh
    rw [hh i (List.mem_range.2 (by omega))] at h; cases h
  rw [this, Bool.and_false]
theorem startsL_t {ts : List (Int × List Int)} {starts : List Int} {n : Nat} (hl : ts.length = n) (h1 : tasksL ts = true) (h2 : amountsOkL starts n 9999 = true) (h : ∀ i, i < n → stOk ts starts i = true) : startsL ts starts = true := by
  unfold startsL
  rw [h1, hl, h2, Bool.true_and, Bool.true_and, List.all_eq_true]
  intro k hk; exact h k (List.mem_range.1 hk)
theorem tasks_facts {ts : List (Int × List Int)} {n : Nat} (hl : ts.length = n) (h : tasksL ts = true) : n ≤ 7 ∧ ∀ i, i < n → (0 ≤ (gt ts i).1 ∧ (gt ts i).1 ≤ 30) ∧ ∀ j, j < (gt ts i).2.length → ∃ v : Nat, gi (gt ts i).2 j = v ∧ v < i := by
  unfold tasksL at h
  rw [Bool.and_eq_true, List.all_eq_true] at h
  obtain ⟨h1, h2⟩ := h
  refine ⟨by have := of_decide_eq_true h1; omega, fun i hi => ?_⟩
  have ht := h2 i (List.mem_range.2 (by omega))
  unfold taskOk at ht
  rw [Bool.and_eq_true] at ht
  obtain ⟨t1, t2⟩ := ht
  refine ⟨inB_t.1 t1, fun j hj => ?_⟩
  have ha := (afterOk_t rfl).1 t2
  have hp := aOk_pos ha j hj
  have hq := (aOk_t.1 (ha j hj)).2
  exact ⟨(gi (gt ts i).2 j).toNat, by omega, by omega⟩

set_option maxHeartbeats 2000000 in
theorem implStartsOk_any (A B : Option Addr) (n m c d : Nat) (ts : List (Int × List Int)) (starts : List Int) (w : World) (h : RT w A n ts) (h' : RI w B m starts) :
    Calls Try.prog 43 #[.slice A n c, .slice B m d] w fun e w' => e = .returned (.bool (startsL ts starts)) ∧ Le w w' := by
  have hm := h.max
  have ht := implTasksValid_any A n c ts w h
  cases hs : tasksL ts
  · have e0 : startsL ts starts = false := by simp [startsL, hs]
    rw [hs] at ht
    rw [e0]
    have HT := Lib.hid ht
    clear ht hs e0
    go_enter Try.func43, Try.ntmps43
    go_wp2_with (go_at_call 38; refine HT.out.mono ?_; rintro e w1 ⟨rfl, l1⟩)
    go_ret
    exact ⟨rfl, l1⟩
  · rw [hs] at ht
    have HT := Lib.hid ht
    have HSV := Lib.hid hs
    have ha : ∀ w1, Le w w1 → _ := fun w1 l => amountsOk_any B m d starts n 9999 w1 (h'.le l)
    cases hb : amountsOkL starts n 9999
    · have e0 : startsL ts starts = false := by simp [startsL, h.len, hb]
      rw [hb] at ha
      rw [e0]
      have HA := Lib.hid ha
      clear ht hs e0 ha hb
      go_enter Try.func43, Try.ntmps43
      go_wp2_with fail
      refine HT.out.mono ?_; rintro e w1 ⟨rfl, l1⟩
      have L1 := Lib.hid l1
      clear l1
      go_wp2_with fail
      refine (HA.out _ L1.out).mono ?_; rintro e w' ⟨rfl, rfl⟩
      go_wp2
      go_ret
      exact ⟨rfl, L1.out⟩
    · obtain ⟨hn7, hf⟩ := tasks_facts h.len hs
      have hsb : m = n ∧ ∀ k, k < n → 0 ≤ gi starts k ∧ gi starts k ≤ 9999 := by
        have hb' := hb
        unfold amountsOkL at hb'
        rw [Bool.and_eq_true, all_iff_gi, h'.len] at hb'
        have e : m = n := by have := of_decide_eq_true hb'.1; omega
        exact ⟨e, fun k hk => inB_t.1 (hb'.2 k (by omega))⟩
      obtain ⟨rfl, hsb⟩ := hsb
      rw [hb] at ha
      have HA := Lib.hid ha
      have HB := Lib.hid hb
      have HL := Lib.hid h.len
      have HF := Lib.hid hf
      have HSB := Lib.hid hsb
      have HC := Lib.hid h.at_
      have HC2 := Lib.hid h'.at_
      clear ht hs ha hb hf hsb h h'
      go_enter Try.func43, Try.ntmps43
      go_wp2_with fail
      refine HT.out.mono ?_; rintro e w1 ⟨rfl, l1⟩
      have L1 := Lib.hid l1
      clear l1
      go_wp2_with fail
      refine (HA.out _ L1.out).mono ?_; rintro e w' ⟨rfl, rfl⟩
      go_wp2
      go_loopw [21] (fun i wr => ∃ k : Nat, k ≤ m ∧ i = .int .i64 k ∧ Le w wr ∧ AllTo (stOk ts starts) k) (fun i _ => m - (intOf i).toNat)
      case atStart => exact ⟨0, Nat.zero_le _, rfl, L1.out, AllTo.zero _⟩
      case round =>
        obtain ⟨k, hk, rfl, hle, hin⟩ := hrel
        by_cases hlt : k < m
        · obtain ⟨ad, B1, m1, d1, rfl, hc1, hc2, hr⟩ := HC.out k hlt
          obtain ⟨ad2, rfl, hc3⟩ := HC2.out k hlt
          have c1 := hle.cell hc1
          have c2 := hle.cell hc2
          obtain ⟨sk0, sk1⟩ := HSB.out k hlt
          have hmm := hr.max
          have HLE := Lib.hid (hle.alloc (.cells #[.int .i64 (gt ts k).1, .slice B1 m1 d1] 61))
          have HR := Lib.hid (hr.le HLE.out)
          have c3 := HLE.out.cell hc3
          clear hc1 hc2 hc3 hr
          have hle2 := hle
          clear hle
          have HLE0 := Lib.hid hle2
          clear hle2
          go_wp2
          go_loopw [29] (fun j ws => ∃ q : Nat, q ≤ m1 ∧ j = .int .i64 q ∧ (∃ z, ws = (wr.alloc (.cells #[.int .i64 (gt ts k).1, .slice B1 m1 d1] 61)).drewN z) ∧ AllTo (stAt ts starts k) q) (fun j _ => m1 - (intOf j).toNat)
          case atStart => exact ⟨0, Nat.zero_le _, rfl, ⟨0, rfl⟩, AllTo.zero _⟩
          case round =>
            obtain ⟨q, hq, rfl, ⟨z, rfl⟩, hin2⟩ := hrel
            have HI2 := Lib.hid hin2
            clear hin2
            by_cases hltq : q < m1
            · obtain ⟨ad3, rfl, e1⟩ := HR.out.at_ q hltq
              obtain ⟨v, hv, hvk⟩ := (HF.out k hlt).2 q (by rw [HR.out.len]; exact hltq)
              obtain ⟨ad4, B4, m4, d4, he4, f1, f2, _⟩ := HC.out v (by omega)
              injection he4 with he4
              subst he4
              obtain ⟨ad5, he5, f3⟩ := HC2.out v (by omega)
              injection he5 with he5
              subst he5
              obtain ⟨s0, s1⟩ := HSB.out v (by omega)
              obtain ⟨⟨p0, p1⟩, _⟩ := HF.out v (by omega)
              rw [hv] at e1
              have g1 := HLE.out.cell f1
              have g3 := HLE.out.cell f3
              have hw : IntKind.i64.wrap (gi starts v + (gt ts v).1) = gi starts v + (gt ts v).1 := IntWalk.i64_in _ (by omega)
              have hat : stAt ts starts k q = decide (gi starts v + (gt ts v).1 ≤ gi starts k) := by unfold stAt; rw [hv, Int.toNat_natCast]
              have HAT := Lib.hid hat
              clear f1 f2 f3 hv hat

              by_cases hcmp : gi starts v + (gt ts v).1 ≤ gi starts k
              · have hd : decide (gi starts k < gi starts v + (gt ts v).1) = false := by simp; omega
                go_wp2
                go_quiet (fail)
                go_wp2
                go_roundw
                case rel => exact ⟨q + 1, by omega, by go_num, ⟨_, rfl⟩, HI2.out.succ (by rw [HAT.out]; simpa using hcmp)⟩
                case measure => simp [intOf]; omega
              · have hd : gi starts k < gi starts v + (gt ts v).1 := by omega
                go_wp2
                go_quiet (fail)
                go_wp2
                go_ret
                exact ⟨ret_bool (startsL_f HL.out hlt (stOk_f HR.out.len hltq (by rw [HAT.out]; simp; omega))).symm, (HLE.out.drewN _).drewN _⟩
            · obtain rfl : q = m1 := by omega
              go_wp2
              go_roundw
              case rel => exact ⟨k + 1, by omega, by go_num, HLE.out.drewN z, hin.succ (stOk_t HR.out.len HI2.out)⟩
              case measure => simp [intOf]; omega
        · obtain rfl : k = m := by omega
          go_wp2
          go_ret
          exact ⟨ret_bool (startsL_t HL.out HSV.out HB.out hin).symm, hle⟩

theorem amounts_t {xs : List Int} {n : Nat} {g : Int} (hl : xs.length = n) (h : ∀ k, k < n → inB 0 g (gi xs k) = true) : amountsOkL xs n g = true := by
  unfold amountsOkL
  rw [Bool.and_eq_true, all_iff_gi, hl]
  exact ⟨by simp, h⟩

set_option maxHeartbeats 2000000 in
theorem specStartsOk_any (A B : Option Addr) (n m c d : Nat) (ts : List (Int × List Int)) (starts : List Int) (w : World) (h : RT w A n ts) (h' : RI w B m starts) :
    Calls Try.prog 42 #[.slice A n c, .slice B m d] w fun e w' => e = .returned (.bool (startsL ts starts)) ∧ ∃ q, w' = w.drewN q := by
  have hm := h.max
  have hm2 := h'.max
  have ht := specTasksValid_any A n c ts w h
  cases hs : tasksL ts
  · have e0 : startsL ts starts = false := by simp [startsL, hs]
    rw [hs] at ht
    rw [e0]
    have HT := Lib.hid ht
    clear ht hs e0
    go_enter Try.func42, Try.ntmps42
    go_wp2_with (go_at_call 36; refine HT.out.mono ?_; rintro e w1 ⟨rfl, q, rfl⟩)
    go_ret
    exact ⟨rfl, q, rfl⟩
  · rw [hs] at ht
    have HT := Lib.hid ht
    have HSV := Lib.hid hs
    by_cases hmn : m = n
    · subst hmn
      obtain ⟨hn7, hf⟩ := tasks_facts h.len hs
      have HL := Lib.hid h.len
      have HL2 := Lib.hid h'.len
      have HF := Lib.hid hf
      have HC := Lib.hid h.at_
      have HC2 := Lib.hid h'.at_
      clear ht hs hf h h'
      go_enter Try.func42, Try.ntmps42
      go_wp2_with (go_at_call 36; refine HT.out.mono ?_; rintro e w1 ⟨rfl, q, rfl⟩)
      go_loopw [5] (fun i wr => ∃ k : Nat, k ≤ m ∧ i = .int .i64 k ∧ (∃ z, wr = w.drewN z) ∧ AllTo (stOk ts starts) k ∧ AllTo (fun j => inB 0 9999 (gi starts j)) k) (fun i _ => m - (intOf i).toNat)
      case atStart => exact ⟨0, Nat.zero_le _, rfl, ⟨_, rfl⟩, AllTo.zero _, AllTo.zero _⟩
      case round =>
        obtain ⟨k, hk, rfl, ⟨z, rfl⟩, hin, hin1⟩ := hrel
        by_cases hlt : k < m
        · obtain ⟨ad, B1, m1, d1, rfl, c1, c2, hr⟩ := HC.out k hlt
          obtain ⟨ad2, rfl, c3⟩ := HC2.out k hlt
          have hmm := hr.max
          have HR := Lib.hid hr
          clear hr
          cases hb : inB 0 9999 (gi starts k)
          · go_wp2_with (go_at_call 44; refine (l1In_any _ _ _ _).mono ?_; rintro e w' ⟨rfl, rfl⟩)
            go_ret
            refine ⟨ret_bool ?_, _, rfl⟩
            unfold startsL
            rw [amountsOkL_bad (k := k) (by rw [HL2.out]; exact hlt) (inB_f.1 hb)]
            simp
          · obtain ⟨sk0, sk1⟩ := inB_t.1 hb
            go_wp2_with (go_at_call 44; refine (l1In_any _ _ _ _).mono ?_; rintro e w' ⟨rfl, rfl⟩)
            go_loopw [6] (fun j ws => ∃ q : Nat, q ≤ m1 ∧ j = .int .i64 q ∧ (∃ z, ws = w.drewN z) ∧ AllTo (stAt ts starts k) q) (fun j _ => m1 - (intOf j).toNat)
            case atStart => exact ⟨0, Nat.zero_le _, rfl, ⟨_, rfl⟩, AllTo.zero _⟩
            case round =>
              obtain ⟨q, hq, rfl, ⟨z, rfl⟩, hin2⟩ := hrel
              have HI2 := Lib.hid hin2
              clear hin2
              by_cases hltq : q < m1
              · obtain ⟨ad3, rfl, e1⟩ := HR.out.at_ q hltq
                obtain ⟨v, hv, hvk⟩ := (HF.out k hlt).2 q (by rw [HR.out.len]; exact hltq)
                obtain ⟨ad4, B4, m4, d4, he4, f1, f2, _⟩ := HC.out v (by omega)
                injection he4 with he4
                subst he4
                obtain ⟨ad5, he5, f3⟩ := HC2.out v (by omega)
                injection he5 with he5
                subst he5
                obtain ⟨s0, s1⟩ := inB_t.1 (hin1 v hvk)
                obtain ⟨⟨p0, p1⟩, _⟩ := HF.out v (by omega)
                rw [hv] at e1
                have hw : IntKind.i64.wrap (gi starts v + (gt ts v).1) = gi starts v + (gt ts v).1 := IntWalk.i64_in _ (by omega)
                have hat : stAt ts starts k q = decide (gi starts v + (gt ts v).1 ≤ gi starts k) := by unfold stAt; rw [hv, Int.toNat_natCast]
                have HAT := Lib.hid hat
                clear f2 hv hat
                by_cases hcmp : gi starts v + (gt ts v).1 ≤ gi starts k
                · have hd : decide (gi starts k < gi starts v + (gt ts v).1) = false := by simp; omega
                  go_wp2
                  go_quiet (fail)
                  go_wp2
                  go_roundw
                  case rel => exact ⟨q + 1, by omega, by go_num, ⟨_, rfl⟩, HI2.out.succ (by rw [HAT.out]; simpa using hcmp)⟩
                  case measure => simp [intOf]; omega
                · have hd : gi starts k < gi starts v + (gt ts v).1 := by omega
                  go_wp2
                  go_quiet (fail)
                  go_wp2
                  go_ret
                  exact ⟨ret_bool (startsL_f HL.out hlt (stOk_f HR.out.len hltq (by rw [HAT.out]; simp; omega))).symm, _, World.drewN_drewN _ _ _⟩
              · obtain rfl : q = m1 := by omega
                go_wp2
                go_roundw
                case rel => exact ⟨k + 1, by omega, by go_num, ⟨_, rfl⟩, hin.succ (stOk_t HR.out.len HI2.out), hin1.succ hb⟩
                case measure => simp [intOf]; omega
        · obtain rfl : k = m := by omega
          go_wp2
          go_ret
          exact ⟨ret_bool (startsL_t HL.out HSV.out (amounts_t HL2.out hin1) hin).symm, _, rfl⟩
    · have hne : ((m : Int) != (n : Int)) = true := by rw [bne_iff_ne]; omega
      have e0 : startsL ts starts = false := by
        unfold startsL amountsOkL
        rw [h.len, h'.len]
        simp; intro _ e; exact absurd e (by omega)
      rw [e0]
      clear ht hs e0
      go_enter Try.func42, Try.ntmps42
      go_wp2_with (go_at_call 36; refine HT.out.mono ?_; rintro e w1 ⟨rfl, q, rfl⟩)
      go_ret
      exact ⟨rfl, q, rfl⟩

end Go.Proofs.Ytedopialmhpalaa
