/- The walk of FnExactTasksValid: both sides come to one value, the arguments are left alone. -/
import Derived.Test.YtedopialmhpalaaWTaskV
namespace Go.Proofs.Ytedopialmhpalaa
open Go.RowKit

set_option maxHeartbeats 1000000 in
theorem law_TasksValid (w : World) (A0 : Option Addr) (n0 c0 : Nat) (xs0 : List (Int × List Int)) (h0 : RT w A0 n0 xs0) :
    Calls Try.prog 11 #[.slice A0 n0 c0] w fun e w' => e = .returned (.bool true) ∧ Le w w' := by
  have hm0 := h0.max
  rcases sz_cases_T xs0 n0 with hb0 | ⟨hn0, hz0⟩
  · go_enter Try.func11, Try.ntmps11
    go_wp2_with fail
    refine (szTaskS_no _ _ _ _ _ h0 hb0).mono ?_; rintro e w' ⟨rfl, l'⟩
    go_wp2
    go_ret
    exact ⟨rfl, l'⟩
  go_enter Try.func11, Try.ntmps11
  go_wp2_with fail
  refine (szTaskS_ok _ _ _ _ _ h0 hn0 hz0).mono ?_; rintro e w1 ⟨rfl, l1⟩
  go_wp2_with fail
  refine (toTaskS_any _ _ _ _ _ (h0.le l1) hn0 hz0).mono ?_; rintro e w2 ⟨rfl, r0a, _, l2⟩
  go_wp2_with fail
  refine (le_of_drew (specTasksValid_any _ _ _ _ _ r0a)).mono ?_; rintro e w3 ⟨rfl, l3⟩
  go_wp2_with fail
  refine (toTaskS_any _ _ _ _ _ (h0.le ((l1.trans l2).trans l3)) hn0 hz0).mono ?_; rintro e w4 ⟨rfl, r0b, _, l4⟩
  go_wp2_with fail
  refine (implTasksValid_any _ _ _ _ _ r0b).mono ?_; rintro e w5 ⟨rfl, l5⟩
  go_wp2_with fail
  refine (toTaskS_any _ _ _ _ _ (h0.le ((((l1.trans l2).trans l3).trans l4).trans l5)) hn0 hz0).mono ?_; rintro e w6 ⟨rfl, r0c, _, l6⟩
  go_wp2_with fail
  refine (eqTaskS_self _ _ _ _ _ _ _ _ (r0b.le (l5.trans l6)) r0c).mono ?_; rintro e w7 ⟨rfl, l7⟩
  go_wp2
  go_ret
  exact ⟨rfl, ((((((l1.trans l2).trans l3).trans l4).trans l5).trans l6).trans l7)⟩

end Go.Proofs.Ytedopialmhpalaa
