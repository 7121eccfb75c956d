/- Walks: planArguments, l1Amounts, runMakes, copyInts, l1Left. -/
import Derived.Test.YtoahjfofnaafaaaDoorPPlan
import Derived.Test.YtoahjfofnaafaaaDoorWApp
import Derived.Deep.RegionHeld3
import Derived.Deep.AppendLies
import Derived.Laws.CopyOwn
namespace Go.Proofs.YtoahjfofnaafaaaDoor
open Go.RowKit

set_option maxRecDepth 20000 in
set_option maxHeartbeats 1000000 in
theorem planArgs_any (A B C : Option Addr) (n m r c d f : Nat) (ts : List It) (want stock : List Int) (w : World) (h : RM w A n ts) (h' : RI w B m want) (h'' : RI w C r stock) :
    Calls Tryd.prog 67 #[.slice A n c, .slice B m d, .slice C r f] w fun e w' => e = .returned (.bool (planArgsL ts want stock)) ∧ Le w w' := by
  have hv := implItemsValid_any A n c ts w h
  have ha := fun w' (l : Le w w') => amountsOk_any B m d want n 50 w' (h'.le l)
  have hb' := fun w' (l : Le w w') => amountsOk_any C r f stock n 50 w' (h''.le l)
  have e0 : planArgsL ts want stock = (itemsL ts && amountsOkL want n 50 && amountsOkL stock n 50) := by unfold planArgsL; rw [h.len]
  rw [e0]
  have hm := h.max
  have HV := Lib.hid hv
  have HA := Lib.hid ha
  have HB := Lib.hid hb'
  clear hv ha h h' h'' e0 hb'
  cases hb : itemsL ts
  · rw [hb] at HV
    go_enter Tryd.func67, Tryd.ntmps67
    go_wp2_with (go_at_call 73; refine HV.out.mono ?_; rintro e w1 ⟨rfl, l1⟩)
    go_ret
    exact ⟨rfl, l1⟩
  · rw [hb] at HV
    cases hb2 : amountsOkL want n 50
    · simp only [hb2] at HA
      go_enter Tryd.func67, Tryd.ntmps67
      go_wp2_with fail
      refine HV.out.mono ?_; rintro e w1 ⟨rfl, l1⟩
      go_wp2_with (go_at_call 60; refine (HA.out _ l1).mono ?_; rintro e w' ⟨rfl, rfl⟩)
      go_ret
      exact ⟨rfl, l1⟩
    · simp only [hb2] at HA
      go_enter Tryd.func67, Tryd.ntmps67
      go_wp2_with fail
      refine HV.out.mono ?_; rintro e w1 ⟨rfl, l1⟩
      go_wp2_with fail
      refine (HA.out _ l1).mono ?_; rintro e w' ⟨rfl, rfl⟩
      go_wp2_with fail
      refine (HB.out _ l1).mono ?_; rintro e w' ⟨rfl, rfl⟩
      go_wp2
      go_ret
      exact ⟨rfl, l1⟩

set_option maxRecDepth 20000 in
set_option maxHeartbeats 1000000 in
theorem l1Amounts_any (A B : Option Addr) (n m c d : Nat) (ps : List Int) (w : World) (h' : RI w B m ps) :
    Calls Tryd.prog 71 #[.slice A n c, .slice B m d] w fun e w' => e = .returned (.bool (amountsOkL ps n 50)) ∧ w = w' := by
  have hm := h'.max
  have HL2 := Lib.hid h'.len
  have HC := Lib.hid h'.at_
  clear h'
  go_enter Tryd.func71, Tryd.ntmps71
  go_wp2
  go_loop [5] (fun i => ∃ k : Nat, k ≤ m ∧ i = .int .i64 k ∧ AllTo (fun j => inB 0 50 (gi ps j)) k) (fun i => m - (intOf i).toNat)
  case atStart => exact ⟨0, Nat.zero_le _, rfl, AllTo.zero _⟩
  case round =>
    obtain ⟨k, hk, rfl, hin⟩ := hrel
    by_cases hlt : k < m
    · obtain ⟨ad, rfl, c1⟩ := HC.out k hlt
      cases hb : inB 0 50 (gi ps k)
      · have hno : amountsOkL ps n 50 = false := amountsOkL_bad (by rw [HL2.out]; exact hlt) (by have := inB_f.1 hb; omega)
        have HNO := Lib.hid hno
        clear hno
        go_wp2_with (go_at_call 62; refine (l1In_any _ _ _ _).mono ?_; rintro e w' ⟨rfl, rfl⟩)
        go_ret
        exact ⟨ret_bool HNO.out.symm, rfl⟩
      · go_wp2_with (go_at_call 62; refine (l1In_any _ _ _ _).mono ?_; rintro e w' ⟨rfl, rfl⟩)
        go_round
        case rel => exact ⟨k + 1, by omega, by go_num, hin.succ hb⟩
        case measure => simp [intOf]; omega
    · obtain rfl : k = m := by omega
      have e1 : amountsOkL ps n 50 = decide ((k : Int) = (n : Int)) := by
        unfold amountsOkL
        rw [all_iff_gi.2 fun j hj => hin.at_ hlt (by rw [← HL2.out]; exact hj), HL2.out, Bool.and_true]
      have E1 := Lib.hid e1
      clear e1 hin
      go_wp2
      go_ret
      exact ⟨ret_bool (by rw [E1.out, Bool.eq_iff_iff]; simp), rfl⟩

set_option maxRecDepth 20000 in
set_option maxHeartbeats 400000 in
theorem runMakes_any (y : Int) (B : Option Addr) (m d : Nat) (mk : Int) (w : World) :
    Calls Tryd.prog 69 #[.agg #[.int .i64 y, .slice B m d, .int .i64 mk]] w fun e w' => e = .returned (.int .i64 (if y = 0 then 1 else y)) ∧ Le w w' := by
  have l0 := (Le.refl w).alloc (.cells #[.int .i64 y, .slice B m d, .int .i64 mk] 26)
  have L0 := Lib.hid l0
  clear l0
  by_cases hy : y = 0
  · subst hy
    rw [if_pos rfl]
    go_enter Tryd.func69, Tryd.ntmps69
    go_wp2
    go_ret
    exact ⟨rfl, L0.out⟩
  · rw [if_neg hy]
    have hyf : (y == 0) = false := by simpa using hy
    go_enter Tryd.func69, Tryd.ntmps69
    go_wp2
    go_ret
    exact ⟨rfl, L0.out⟩

set_option maxRecDepth 20000 in
set_option maxHeartbeats 1000000 in
theorem copyInts_any (A : Option Addr) (n c : Nat) (xs : List Int) (w : World) (h : RI w A n xs) (hn : n ≤ 1048576) :
    Calls Tryd.prog 68 #[.slice A n c] w fun e w' => ∃ v, e = .returned v ∧ w'.ownsRow w.heap.size 3 1 v xs.length (ints xs) ∧ Le w w' := by
  have hl := h.len
  by_cases h0 : n = 0
  · subst h0
    obtain rfl : xs = [] := List.eq_nil_of_length_eq_zero hl
    clear h
    go_enter Tryd.func68, Tryd.ntmps68
    go_wp2
    go_ret
    exact ⟨_, rfl, World.ownsRow_nil _ _ _ _, Le.refl _⟩
  · obtain ⟨ad, rfl, _⟩ := h.at_ 0 (by omega)
    have hnf : ((n : Int) == 0) = false := by rw [beq_eq_false_iff_ne]; omega
    have hmk := run_mk (P := Tryd.prog) 40 3 (.int .i64 0) 1 8 Tryd.underlying40 infoInt n (by omega) (by omega)
    have hsz : (Tryd.prog.info? 3).map (·.size) = some 1 := by kernel_rfl
    have hsrc : ∀ j v, (ints xs)[j]? = some v → (w.alloc (.cells (madeCells #[.int .i64 0] n) 3)).cell? (ad.add j) = some v := fun j v hj => by
      have hjn : j < n := by
        have := (List.getElem?_eq_some_iff.1 hj).1
        rw [ints_length, hl] at this; exact this
      obtain ⟨ad', e, hc⟩ := h.at_ j hjn
      injection e with e
      subst e
      rw [ints_getElem? (by omega)] at hj
      injection hj with hj
      subst hj
      exact ((Le.refl w).alloc _).cell hc
    have hone : ∀ v ∈ ints xs, v.oneCell' = true := fun v hv => by
      unfold ints at hv
      rw [List.mem_map] at hv
      obtain ⟨x, _, rfl⟩ := hv
      rfl
    have hrun := run_copy_row (P := Tryd.prog) (w.alloc (.cells (madeCells #[.int .i64 0] n) 3)) 40 40 3 3 w.heap.size 0 n n ad n c (madeCells #[.int .i64 0] n) 3 (ints xs) Tryd.underlying40 hsz (Blk.new w 3 (madeCells #[.int .i64 0] n)) (by rw [ints_length, hl]; simp) hsrc (by rw [ints_length, hl]; simp [made_size]) hone
    have hb2 : Below w.heap.size w ((w.alloc (.cells (madeCells #[.int .i64 0] n) 3)).setRow w.heap.size ((madeCells #[.int .i64 0] n).toList.take 0 ++ ints xs ++ (madeCells #[.int .i64 0] n).toList.drop (0 + (ints xs).length)).toArray) :=
      below_setRow ((Le.refl w).alloc _) (Nat.le_refl _) _
    have hk2 : BlkI ((w.alloc (.cells (madeCells #[.int .i64 0] n) 3)).setRow w.heap.size ((madeCells #[.int .i64 0] n).toList.take 0 ++ ints xs ++ (madeCells #[.int .i64 0] n).toList.drop (0 + (ints xs).length)).toArray) w.heap.size xs := by
      have e : (madeCells #[.int .i64 0] n).toList.take 0 ++ ints xs ++ (madeCells #[.int .i64 0] n).toList.drop (0 + (ints xs).length) = ints xs := by
        rw [List.take_zero, List.nil_append, List.drop_eq_nil_of_le (by simp [made_size, ints_length, hl]), List.append_nil]
      rw [e]
      exact setRow_heap _ _ _ _ _ _ (Blk.new w 3 (madeCells #[.int .i64 0] n))
    generalize (w.alloc (.cells (madeCells #[.int .i64 0] n) 3)).setRow w.heap.size ((madeCells #[.int .i64 0] n).toList.take 0 ++ ints xs ++ (madeCells #[.int .i64 0] n).toList.drop (0 + (ints xs).length)).toArray = w2 at *
    have HB := Lib.hid hb2
    have HK := Lib.hid hk2
    clear h hb2 hk2 hsrc hone hsz
    go_enter Tryd.func68, Tryd.ntmps68
    go_wp2
    go_ret
    refine ⟨_, rfl, ?_, HB.out⟩
    rw [hl]
    exact Blk.ownI HK.out (Nat.le_refl _) hl (by omega)
end Go.Proofs.YtoahjfofnaafaaaDoor
