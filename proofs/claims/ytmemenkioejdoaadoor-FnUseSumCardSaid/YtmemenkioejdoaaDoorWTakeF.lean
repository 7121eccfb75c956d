/- Walk: TakeFirst of the reference. -/
import Derived.Test.YtmemenkioejdoaaDoorPTake
import Derived.Test.YtmemenkioejdoaaDoorWSortB
import Derived.Test.YtmemenkioejdoaaDoorWApp
namespace Go.Proofs.YtmemenkioejdoaaDoor
open Go.RowKit

theorem imin (a b : Int) : (if b < a then b else a) = min a b := by split <;> omega
theorem vmin (a b : Int) : Value.int .i64 (if b < a then b else a) = Value.int .i64 (min a b) := congrArg _ (by split <;> omega)
theorem BlkI.set1 {w : World} {g : Nat} {xs : List Int} (h : BlkI w g xs) (i : Nat) (u : Int) : BlkI (w.setCell ⟨g, i, none⟩ (.int .i64 u)) g (xs.set i u) := by
  have h1 := Blk.set_ h i (.int .i64 u)
  rw [ints_set] at h1
  exact h1
theorem ints_replicate (n : Nat) : (ints (List.replicate n 0)).toArray = madeCells #[.int .i64 0] n := by
  apply Array.ext
  · simp [ints, madeCells]
  · intro i h1 h2
    simp [ints, madeCells, Nat.mod_one]

set_option maxRecDepth 20000 in
set_option maxHeartbeats 4000000 in
theorem specTakeFirst_any (A : Option Addr) (n c : Nat) (ps : List (Int × Int)) (day want : Int) (w : World) (h : RP w A n ps) :
    Calls Tryd.prog 27 #[.slice A n c, .int .i64 day, .int .i64 want] w fun e w' => ∃ v, e = .returned v ∧ w'.ownsRow w.heap.size 3 1 v (takeFirstL ps day want).length (ints (takeFirstL ps day want)) ∧ Le w w' := by
  have hv := specLotsValid_any A n c ps w h
  have hi := l1In_any want 0 50 w
  cases hb : lotsL ps
  · rw [hb] at hv
    have e0 : takeFirstL ps day want = [] := by simp [takeFirstL, hb]
    rw [e0]
    have HV := Lib.hid hv
    clear hv hb e0 h
    go_enter Tryd.func27, Tryd.ntmps27
    go_wp2_with (go_at_call 18; refine HV.out.mono ?_; rintro e w1 ⟨rfl, rfl⟩)
    go_ret
    exact ⟨_, rfl, own_empty _ _ _, (Le.refl _).alloc _⟩
  · rw [hb] at hv
    cases hb2 : inB 0 50 want
    · rw [hb2] at hi
      have e0 : takeFirstL ps day want = [] := by simp [takeFirstL, hb2]
      rw [e0]
      have HV := Lib.hid hv
      have HI := Lib.hid hi
      clear hv hb hb2 e0 h hi
      go_enter Tryd.func27, Tryd.ntmps27
      go_wp2_with (first | (go_at_call 18; refine HV.out.mono ?_; rintro e w1 ⟨rfl, rfl⟩) | (go_at_call 28; refine HI.out.mono ?_; rintro e w1 ⟨rfl, rfl⟩))
      go_ret
      exact ⟨_, rfl, own_empty _ _ _, (Le.refl _).alloc _⟩
    · rw [hb2] at hi
      obtain ⟨hn5, hf⟩ := lots_facts h.len hb
      obtain ⟨hw0, hw1⟩ := inB_t.1 hb2
      have e0 : takeFirstL ps day want = (sT ps day want n 6).1 := by unfold takeFirstL; rw [hb, hb2, Bool.true_and, if_pos rfl, h.len]
      rw [e0]
      have hgn := gp_nonneg h.len hf
      have hokS : ∀ l, OkT n (sT ps day want n l) := fun l => OkT.foldl _ (OkT.init hw0 hw1) fun k _ => hgn k
      have hokT : ∀ l k, OkT n (tT ps day want n l k) := fun l k => OkT.foldl _ (hokS l) fun k _ => hgn k
      have HV := Lib.hid hv
      have HI := Lib.hid hi
      have HF := Lib.hid hf
      have HS := Lib.hid hokS
      have HT := Lib.hid hokT
      have HC := Lib.hid h.at_
      clear hv hi hf hokS hokT hgn h e0 hb hb2
      have hmk := run_mk (P := Tryd.prog) 27 3 (.int .i64 0) 1 8 Tryd.underlying27 infoInt n (by omega) (by omega)
      have hblk0 : BlkI (w.alloc (.cells (madeCells #[.int .i64 0] n) 3)) w.heap.size (initT n want).1 := by
        unfold BlkI initT; rw [ints_replicate]; exact Blk.new _ _ _
      have HB0 := Lib.hid hblk0
      clear hblk0
      rcases Int.lt_or_le day 0 with hd | hd
      · skip
        go_enter Tryd.func27, Tryd.ntmps27
        go_wp2_with (first | (go_at_call 18; refine HV.out.mono ?_; rintro e w1 ⟨rfl, rfl⟩) | (go_at_call 28; refine HI.out.mono ?_; rintro e w1 ⟨rfl, rfl⟩))
        clear hmk
        go_loopw [2, 8] (fun v i wr => ∃ l : Nat, 0 ≤ l ∧ i = .int .i64 l ∧ v = .int .i64 (sT ps day want n (min l 6)).2 ∧ Le w wr ∧ BlkI wr w.heap.size (sT ps day want n (min l 6)).1) (fun _ i _ => 6 - (intOf i).toNat)
        case atStart =>
          have e1 : sT ps day want n (min 0 6) = initT n want := sT_early _ _ _ _ _ (by omega)
          exact ⟨0, Nat.le_refl _, rfl, by rw [e1]; rfl, (Le.refl _).alloc _, by rw [e1]; exact HB0.out⟩
        case round =>
          obtain ⟨l, hl, rfl, rfl, hle, hblk⟩ := hrel
          by_cases hlt : l < 6
          · have em : min l 6 = l := by omega
            rw [em] at hblk ⊢
            have HB := Lib.hid hblk
            have HLE := Lib.hid hle
            clear hblk hle
            go_wp2
            go_loopw [2, 9] (fun v i wr => ∃ k : Nat, k ≤ n ∧ i = .int .i64 k ∧ v = .int .i64 (tT ps day want n l k).2 ∧ Le w wr ∧ BlkI wr w.heap.size (tT ps day want n l k).1) (fun _ i _ => n - (intOf i).toNat)
            case atStart => exact ⟨0, Nat.zero_le _, rfl, rfl, HLE.out, HB.out⟩
            case round =>
              obtain ⟨k, hk, rfl, rfl, hle, hblk⟩ := hrel
              by_cases hkn : k < n
              · obtain ⟨ad, rfl, hc1, hc2⟩ := HC.out k hkn
                have c1 := hle.cell hc1
                have c2 := hle.cell hc2
                obtain ⟨⟨f1, f2⟩, f3, f4⟩ := HF.out k hkn
                obtain ⟨o1, o2, o3⟩ := HT.out l k
                have ts := tT_succ ps day want n l k
                by_cases hq : (gp ps k).2 = (l : Int)
                · rw [if_pos ⟨hq, by omega⟩] at ts
                  have d1 := hblk.cell_ (j := k) (by omega)
                  have z1 := Blk.frozen hblk k
                  have TS := Lib.hid ts
                  have HB := Lib.hid hblk
                  have HLE := Lib.hid hle
                  clear hc1 hc2 ts hblk hle
                  go_wp2
                  simp only [imin]
                  go_roundw
                  case rel => exact ⟨k + 1, by omega, by go_num, by rw [TS.out]; rfl, HLE.out.setCell (Nat.le_refl _) _, by rw [TS.out]; exact HB.out.set1 _ _⟩
                  case measure => simp [intOf]; omega
                · rw [if_neg fun h => hq h.1] at ts
                  have hqf : ((gp ps k).2 == (l : Int)) = false := by simpa using hq
                  have TS := Lib.hid ts
                  clear hc1 hc2 ts
                  go_wp2
                  go_roundw
                  case rel => exact ⟨k + 1, by omega, by go_num, by rw [TS.out], hle, by rw [TS.out]; exact hblk⟩
                  case measure => simp [intOf]; omega
              · obtain rfl : k = n := by omega
                have es := sT_succ ps day want k l
                have ES := Lib.hid es
                clear es
                go_wp2
                go_roundw
                case rel => 
                  have em2 : min (l + 1) 6 = l + 1 := by omega
                  exact ⟨l + 1, by omega, by go_num, by rw [em2, ES.out], hle, by rw [em2, ES.out]; exact hblk⟩
                case measure => simp [intOf]; omega
          · have em : min l 6 = 6 := by omega
            rw [em] at hblk ⊢
            have hln := (HS.out 6).1
            go_wp2
            go_ret
            refine ⟨_, rfl, ?_, hle⟩
            rw [hln]
            exact Blk.ownI hblk (Nat.le_refl _) hln (by omega)
      · obtain ⟨d, rfl⟩ : ∃ d : Nat, day = d := ⟨day.toNat, by omega⟩
        go_enter Tryd.func27, Tryd.ntmps27
        go_wp2_with (first | (go_at_call 18; refine HV.out.mono ?_; rintro e w1 ⟨rfl, rfl⟩) | (go_at_call 28; refine HI.out.mono ?_; rintro e w1 ⟨rfl, rfl⟩))
        clear hmk
        go_loopw [2, 8] (fun v i wr => ∃ l : Nat, d ≤ l ∧ i = .int .i64 l ∧ v = .int .i64 (sT ps d want n (min l 6)).2 ∧ Le w wr ∧ BlkI wr w.heap.size (sT ps d want n (min l 6)).1) (fun _ i _ => 6 - (intOf i).toNat)
        case atStart =>
          have e1 : sT ps d want n (min d 6) = initT n want := sT_early _ _ _ _ _ (by omega)
          exact ⟨d, Nat.le_refl _, rfl, by rw [e1]; rfl, (Le.refl _).alloc _, by rw [e1]; exact HB0.out⟩
        case round =>
          obtain ⟨l, hl, rfl, rfl, hle, hblk⟩ := hrel
          by_cases hlt : l < 6
          · have em : min l 6 = l := by omega
            rw [em] at hblk ⊢
            have HB := Lib.hid hblk
            have HLE := Lib.hid hle
            clear hblk hle
            go_wp2
            go_loopw [2, 9] (fun v i wr => ∃ k : Nat, k ≤ n ∧ i = .int .i64 k ∧ v = .int .i64 (tT ps d want n l k).2 ∧ Le w wr ∧ BlkI wr w.heap.size (tT ps d want n l k).1) (fun _ i _ => n - (intOf i).toNat)
            case atStart => exact ⟨0, Nat.zero_le _, rfl, rfl, HLE.out, HB.out⟩
            case round =>
              obtain ⟨k, hk, rfl, rfl, hle, hblk⟩ := hrel
              by_cases hkn : k < n
              · obtain ⟨ad, rfl, hc1, hc2⟩ := HC.out k hkn
                have c1 := hle.cell hc1
                have c2 := hle.cell hc2
                obtain ⟨⟨f1, f2⟩, f3, f4⟩ := HF.out k hkn
                obtain ⟨o1, o2, o3⟩ := HT.out l k
                have ts := tT_succ ps d want n l k
                by_cases hq : (gp ps k).2 = (l : Int)
                · rw [if_pos ⟨hq, by omega⟩] at ts
                  have d1 := hblk.cell_ (j := k) (by omega)
                  have z1 := Blk.frozen hblk k
                  have TS := Lib.hid ts
                  have HB := Lib.hid hblk
                  have HLE := Lib.hid hle
                  clear hc1 hc2 ts hblk hle
                  go_wp2
                  simp only [imin]
                  go_roundw
                  case rel => exact ⟨k + 1, by omega, by go_num, by rw [TS.out]; rfl, HLE.out.setCell (Nat.le_refl _) _, by rw [TS.out]; exact HB.out.set1 _ _⟩
                  case measure => simp [intOf]; omega
                · rw [if_neg fun h => hq h.1] at ts
                  have hqf : ((gp ps k).2 == (l : Int)) = false := by simpa using hq
                  have TS := Lib.hid ts
                  clear hc1 hc2 ts
                  go_wp2
                  go_roundw
                  case rel => exact ⟨k + 1, by omega, by go_num, by rw [TS.out], hle, by rw [TS.out]; exact hblk⟩
                  case measure => simp [intOf]; omega
              · obtain rfl : k = n := by omega
                have es := sT_succ ps d want k l
                have ES := Lib.hid es
                clear es
                go_wp2
                go_roundw
                case rel => 
                  have em2 : min (l + 1) 6 = l + 1 := by omega
                  exact ⟨l + 1, by omega, by go_num, by rw [em2, ES.out], hle, by rw [em2, ES.out]; exact hblk⟩
                case measure => simp [intOf]; omega
          · have em : min l 6 = 6 := by omega
            rw [em] at hblk ⊢
            have hln := (HS.out 6).1
            go_wp2
            go_ret
            refine ⟨_, rfl, ?_, hle⟩
            rw [hln]
            exact Blk.ownI hblk (Nat.le_refl _) hln (by omega)

end Go.Proofs.YtmemenkioejdoaaDoor
