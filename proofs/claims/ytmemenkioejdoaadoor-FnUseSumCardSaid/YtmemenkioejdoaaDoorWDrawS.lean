/- Drawn tables, and the plain law of FnUseSum. -/
import Derived.Test.YtmemenkioejdoaaDoorWDrawU
namespace Go.Proofs.YtmemenkioejdoaaDoor
open Go.RowKit

set_option maxRecDepth 20000 in
set_option maxHeartbeats 1000000 in
theorem drawUseSum_any (A : Option Addr) (n c : Nat) (w : World) (h : RB w A n) (hc : n ≤ c) :
    Calls Tryd.prog 4 #[.slice A n c] w fun e w' => ∃ C r cc tt, e = .returned (.slice C r cc) ∧ RII w' C r tt ∧ (r ≤ 64 ∧ r ≤ cc) ∧ Le w w' := by
  have HO := Lib.hid (open_any A n c w h hc)
  clear h
  go_enter Tryd.func4, Tryd.ntmps4
  go_wp2_with fail
  refine HO.out.mono ?_; rintro e w1 ⟨rfl, r1⟩
  have HL := Lib.hid (l20Use_any _ _ _ _ _ _ _ r1 (by omega) (w.heap.size + 1) (Nat.le_refl _) r1.lt)
  clear r1
  go_wp2_with fail
  refine HL.out.mono ?_; rintro e w2 ⟨gv, cap, k, ps, gx, capx, m, xs, C, r, cc, tt, q, rfl, d2, i2, t2, h64, hcc, r2, _, _⟩
  have T2 := Lib.hid t2
  have R2 := Lib.hid r2
  clear d2 i2 t2 r2
  go_wp2
  go_ret
  exact ⟨C, r, cc, tt, rfl, T2.out, ⟨h64, hcc⟩, R2.out.le⟩
theorem wrap_step (a b : Int) : wrap64 (wrap64 a + b) = wrap64 (a + b) := by
  unfold wrap64; omega
theorem wrap_sub (a b : Int) : wrap64 (wrap64 a - b) = wrap64 (a - b) := by
  unfold wrap64; omega
theorem sumW_wrap (f : Nat → Int) (n : Nat) : sumW f n = wrap64 (sumTo f n) := by
  induction n with
  | zero => show (0 : Int) = wrap64 0; unfold wrap64; omega
  | succ n ih => rw [sumW_succ, sumTo_succ, ih, wrap_step]
theorem sumTo_tail (f : Nat → Int) (n : Nat) : sumTo f (n + 1) = f 0 + sumTo (fun k => f (k + 1)) n := by
  induction n with
  | zero => show 0 + f 0 = f 0 + 0; omega
  | succ n ih => rw [sumTo_succ, ih, sumTo_succ]; omega
theorem use_less {tt : List (List Int)} (h : 0 < tt.length) : useSumL (tt.drop 1) = wrap64 (useSumL tt - rowSum tt 0) := by
  obtain ⟨t, ts, rfl⟩ : ∃ t ts, tt = t :: ts := by
    cases tt with
    | nil => simp at h
    | cons t ts => exact ⟨t, ts, rfl⟩
  unfold useSumL
  rw [show (t :: ts).drop 1 = ts from rfl, sumW_wrap, sumW_wrap, wrap_sub, List.length_cons, sumTo_tail]
  congr 1
  rw [show (fun k => rowSum (t :: ts) (k + 1)) = rowSum ts from rfl]
  omega
end Go.Proofs.YtmemenkioejdoaaDoor
