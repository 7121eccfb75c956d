/- Walks: BurnOk, BurnEnd of the program and of the reference. -/
import Derived.Test.YtedopialmhpalaaWCookA
namespace Go.Proofs.Ytedopialmhpalaa
open Go.RowKit

def burnOkL (spans : List Int) (burners : Int) (on : List Int) : Bool := (spansL spans && inB 1 3 burners) && amountsOkL on spans.length (burners - 1)

set_option maxHeartbeats 400000 in
theorem implBurnOk_any (A B : Option Addr) (n m c d : Nat) (spans on : List Int) (burners : Int) (w : World) (h : RI w A n spans) (h' : RI w B m on) :
    Calls Try.prog 21 #[.slice A n c, .int .i64 burners, .slice B m d] w fun e w' => e = .returned (.bool (burnOkL spans burners on)) ∧ w = w' := by
  have hm := h.max
  have HL := Lib.hid h.len
  cases hs : spansL spans
  · have HS := Lib.hid hs
    have hc := implSpansValid_any A n c spans w h
    rw [hs] at hc
    have HC := Lib.hid hc
    clear hc hs
    go_enter Try.func21, Try.ntmps21
    go_wp2_with (go_at_call 16; refine HC.out.mono ?_; rintro e w' ⟨rfl, rfl⟩)
    go_ret
    exact ⟨ret_bool (by simp [burnOkL, HS.out]), rfl⟩
  · have HS := Lib.hid hs
    have hc := implSpansValid_any A n c spans w h
    rw [hs] at hc
    have HC := Lib.hid hc
    clear hc hs
    by_cases h1 : burners < 1
    · have e1 : inB 1 3 burners = false := inB_f.2 (.inl h1)
      have E1 := Lib.hid e1
      clear e1
      go_enter Try.func21, Try.ntmps21
      go_wp2_with (go_at_call 16; refine HC.out.mono ?_; rintro e w' ⟨rfl, rfl⟩)
      go_ret
      exact ⟨ret_bool (by simp [burnOkL, E1.out]), rfl⟩
    · by_cases h2 : 3 < burners
      · have e1 : inB 1 3 burners = false := inB_f.2 (.inr h2)
        have E1 := Lib.hid e1
        clear e1
        go_enter Try.func21, Try.ntmps21
        go_wp2_with (go_at_call 16; refine HC.out.mono ?_; rintro e w' ⟨rfl, rfl⟩)
        go_ret
        exact ⟨ret_bool (by simp [burnOkL, E1.out]), rfl⟩
      · have e1 : inB 1 3 burners = true := inB_t.2 ⟨by omega, by omega⟩
        have E1 := Lib.hid e1
        clear e1
        go_enter Try.func21, Try.ntmps21
        go_wp2_with (first
          | (go_at_call 16; refine HC.out.mono ?_; rintro e w' ⟨rfl, rfl⟩)
          | (go_at_call 45; refine (amountsOk_any _ _ _ on _ _ _ h').mono ?_; rintro e w' ⟨rfl, rfl⟩))
        go_ret
        exact ⟨ret_bool (by simp [burnOkL, E1.out, HS.out, HL.out]), rfl⟩

/-- the reference: first every place, then the rest -/
theorem burnOkL_bad {spans on : List Int} {burners m' : Int} {k : Nat} (hm' : wrap64 (burners - 1) = m') (hk : k < on.length) (h : inB 0 m' (gi on k) = false) : burnOkL spans burners on = false := by
  unfold burnOkL
  cases hi : inB 1 3 burners
  · simp
  · have hb := inB_t.1 hi
    rw [IntWalk.wrap64_in _ (by omega)] at hm'
    subst hm'
    rw [amountsOkL_bad hk (by have := inB_f.1 h; omega), Bool.and_false]

set_option maxHeartbeats 1000000 in
theorem specBurnOk_any (A B : Option Addr) (n m c d : Nat) (spans on : List Int) (burners : Int) (w : World) (h : RI w A n spans) (h' : RI w B m on) :
    Calls Try.prog 20 #[.slice A n c, .int .i64 burners, .slice B m d] w fun e w' => e = .returned (.bool (burnOkL spans burners on)) ∧ w = w' := by
  have hm := h.max
  have hm2 := h'.max
  have HL := Lib.hid h.len
  have HL2 := Lib.hid h'.len
  have HC := Lib.hid h'.at_
  have HR := Lib.hid h
  clear h h'
  obtain ⟨m', hm'⟩ : ∃ m', wrap64 (burners - 1) = m' := ⟨_, rfl⟩
  have HM := Lib.hid hm'
  go_enter Try.func20, Try.ntmps20
  go_wp2
  go_loop [7] (fun i => ∃ k : Nat, k ≤ m ∧ i = .int .i64 k ∧ AllTo (fun j => inB 0 m' (gi on j)) k) (fun i => m - (intOf i).toNat)
  case atStart => exact ⟨0, Nat.zero_le _, rfl, AllTo.zero _⟩
  case round =>
    obtain ⟨k, hk, rfl, hin⟩ := hrel
    by_cases hlt : k < m
    · obtain ⟨ad, rfl, hcell⟩ := HC.out k hlt
      cases hb : inB 0 m' (gi on k)
      · go_wp2_with (go_at_call 44; refine (l1In_any _ _ _ _).mono ?_; rintro e w' ⟨rfl, rfl⟩)
        go_ret
        exact ⟨ret_bool (burnOkL_bad HM.out (by rw [HL2.out]; exact hlt) hb).symm, rfl⟩
      · go_wp2_with (go_at_call 44; refine (l1In_any _ _ _ _).mono ?_; rintro e w' ⟨rfl, rfl⟩)
        go_round
        case rel => exact ⟨k + 1, by omega, by go_num, hin.succ hb⟩
        case measure => simp [intOf]; omega
    · have HA : Hid (inB 1 3 burners = true → amountsOkL on spans.length (burners - 1) = decide ((m : Int) = n)) := fun hi => by
        have hb := inB_t.1 hi
        have hmm := HM.out
        rw [IntWalk.wrap64_in _ (by omega)] at hmm
        unfold amountsOkL
        rw [HL.out, HL2.out, all_iff_gi.2 fun j hj => by rw [hmm]; exact hin.at_ hlt (by rw [← HL2.out]; exact hj)]
        simp
      clear hin
      cases hs : spansL spans
      · have hc := specSpansValid_any A n c spans w HR.out
        rw [hs] at hc
        have HC2 := Lib.hid hc
        have HS := Lib.hid hs
        clear hc hs
        go_wp2_with (go_at_call 14; refine HC2.out.mono ?_; rintro e w' ⟨rfl, rfl⟩)
        go_ret
        exact ⟨ret_bool (by simp [burnOkL, HS.out]), rfl⟩
      · have hc := specSpansValid_any A n c spans w HR.out
        rw [hs] at hc
        have HC2 := Lib.hid hc
        have HS := Lib.hid hs
        clear hc hs
        cases hi : inB 1 3 burners
        · go_wp2_with (first | (go_at_call 14; refine HC2.out.mono ?_; rintro e w' ⟨rfl, rfl⟩) | (go_at_call 44; refine (l1In_any _ _ _ _).mono ?_; rintro e w' ⟨rfl, rfl⟩))
          go_ret
          exact ⟨ret_bool (by simp [burnOkL, hi]), rfl⟩
        · go_wp2_with (first | (go_at_call 14; refine HC2.out.mono ?_; rintro e w' ⟨rfl, rfl⟩) | (go_at_call 44; refine (l1In_any _ _ _ _).mono ?_; rintro e w' ⟨rfl, rfl⟩))
          go_ret
          refine ⟨ret_bool ?_, rfl⟩
          unfold burnOkL
          rw [HA.out hi, HS.out, hi]
          by_cases e : (m : Int) = n <;> simp [e]

end Go.Proofs.Ytedopialmhpalaa
