/- Walks: indices, spoilOrder with its test, and the library's insertion sort that it goes by (at most 8 lots). -/
import Derived.Test.YteeklaplnhafoaaDoorPSort
import Derived.Test.YteeklaplnhafoaaDoorWLotA
import Derived.Test.YteeklaplnhafoaaDoorWMark
import Derived.StillTailTactics
namespace Go.Proofs.YteeklaplnhafoaaDoor
open Go.RowKit

set_option maxRecDepth 20000 in
set_option maxHeartbeats 400000 in
theorem indices_any (n : Nat) (w : World) (hn : n ≤ 1048576) :
    Calls Tryd.prog 79 #[.int .i64 n] w fun e w' => e = .returned (.slice (some ⟨w.heap.size, 0, none⟩) n n) ∧ BlkI w' w.heap.size (upFrom 0 n) ∧ Le w w' := by
  have hmk := run_mk (P := Tryd.prog) 24 3 (.int .i64 0) 1 8 Tryd.underlying24 infoInt n (by omega) (by omega)
  go_enter Tryd.func79, Tryd.ntmps79
  go_wp2
  clear hmk
  go_loopw [9] (fun i wr => ∃ k : Nat, k ≤ n ∧ i = .int .i64 k ∧ Le w wr ∧ ∃ cs, Blk wr w.heap.size 3 cs ∧ Filled cs n (fun j => .int .i64 (j : Nat)) (fun _ => .int .i64 0) k) (fun i _ => n - (intOf i).toNat)
  case atStart => exact ⟨0, Nat.zero_le _, rfl, (Le.refl _).alloc _, _, Blk.new _ _ _, by simpa using Filled.made n _ _⟩
  case round =>
    obtain ⟨k, hk, rfl, hle, cs, hblk, hfill⟩ := hrel
    by_cases hlt : k < n
    · have hc2 := (hblk.cell k).trans (hfill.now hlt)
      have hfz := hblk.frozen k
      have HF := Lib.hid hfill
      clear hfill
      go_wp2
      go_roundw
      case rel => exact ⟨k + 1, by omega, by go_num, hle.setCell (Nat.le_refl _) _, _, hblk.set_ _ _, HF.out.set_ hlt rfl⟩
      case measure => simp [intOf]; omega
    · go_wp2
      go_ret
      refine ⟨rfl, ?_, hle⟩
      have e := hfill.toList hlt (ints (upFrom 0 n)) (by rw [ints_length, upFrom_length]) (fun j hj => by rw [ints_getElem? (by rw [upFrom_length]; exact hj), gi_upFrom _ _ _ hj]; simp)
      subst e
      exact hblk

set_option maxRecDepth 20000 in
/-- the test of spoilOrder, at two indices -/
theorem cmp_any (A : Option Addr) (n c Bx : Nat) (ps : List (Int × Int)) (a b : Nat) (w : World) (hx : w.cell? ⟨Bx, 0, none⟩ = some (.slice A n c)) (h : RP w A n ps) (ha : a < n) (hb : b < n)
    (hp : ∀ k, k < n → (0 ≤ (gp ps k).1 ∧ (gp ps k).1 ≤ 9) ∧ 0 ≤ (gp ps k).2 ∧ (gp ps k).2 ≤ 5) :
    Calls Tryd.prog 81 #[.int .i64 a, .int .i64 b, .pointer (some ⟨Bx, 0, none⟩)] w fun e w' => e = .returned (.int .i64 (lastOf ps a - lastOf ps b)) ∧ ∃ q, w' = w.drewN q := by
  obtain ⟨ad, rfl, c1, c2⟩ := h.at_ a ha
  obtain ⟨ad', e', d1, d2⟩ := h.at_ b hb
  injection e' with e'
  subst e'
  obtain ⟨_, f1, f2⟩ := hp a ha
  obtain ⟨_, g1, g2⟩ := hp b hb
  have hm := h.max
  have e1 : lastOf ps a = (gp ps a).2 := by simp [lastOf]
  have e2 : lastOf ps b = (gp ps b).2 := by simp [lastOf]
  rw [e1, e2]
  have hw : IntKind.i64.wrap ((gp ps a).2 - (gp ps b).2) = (gp ps a).2 - (gp ps b).2 := IntWalk.i64_in _ (by omega)
  clear h hp e1 e2
  go_enter Tryd.func81, Tryd.ntmps81
  go_wp2
  go_quiet (fail)
  go_wp2
  go_ret
  exact ⟨rfl, _, rfl⟩

end Go.Proofs.YteeklaplnhafoaaDoor
