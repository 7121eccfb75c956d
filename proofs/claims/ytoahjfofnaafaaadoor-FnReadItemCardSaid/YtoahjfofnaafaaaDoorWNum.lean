/- Walks: l1Number of the reference at small numbers; ItemText of the reference. -/
import Derived.Test.YtoahjfofnaafaaaDoorWCut
import Derived.Test.YtoahjfofnaafaaaDoorPReg
import Derived.Deep.RegionHeld3
namespace Go.Proofs.YtoahjfofnaafaaaDoor
open Go.RowKit

theorem run_b2s {P : Program} (src dst e : TypeId) (hs : P.underlying src = some (.slice e)) (he : P.underlying e = some (.int .u8)) (hd : P.underlying dst = some .string) (b x : Nat) (w : World) (hb : w.cell? ⟨b, 0, none⟩ = some (.int .u8 (x : Int))) :
    (convert src dst (.slice (some ⟨b, 0, none⟩) 1 1)).run P w = .ok (.string ⟨[UInt8.ofNat x].toArray⟩) w := by
  have h := run_loadCells_list (P := P) w ⟨b, 0, none⟩ [.int .u8 (x : Int)] (fun j v hj => by
    cases j with
    | zero => simp at hj; subst hj; exact hb
    | succ j => simp at hj)
  rw [run_convert_bytes_string w src dst e _ _ _ hs he hd, run_bytesToString w ⟨b, 0, none⟩ 1 1 [(x : Int)] h]
  rfl
set_option maxRecDepth 20000 in
set_option maxHeartbeats 2000000 in
theorem l1Number_small (n : Nat) (h1 : n < 10) (w : World) : Calls Tryd.prog 54 #[.int .i64 (n : Int)] w fun e w' => e = .returned (.string ⟨(numT (n : Int)).toArray⟩) ∧ Le w w' := by
  have hcv := fun (b : Nat) (x : Nat) (w : World) => run_b2s (P := Tryd.prog) 22 9 5 Tryd.underlying22 Tryd.underlying5 Tryd.underlying9 b x w
  obtain ⟨x, hx⟩ : ∃ x, 48 + n = x := ⟨_, rfl⟩
  have hwr : IntKind.u8.wrap (48 + (n : Int)) = (x : Int) := by simp [IntKind.wrap, IntKind.signed, IntKind.bits]; omega
  have hc := hcv w.heap.size x (w.alloc (.cells #[.int .u8 (x : Int)] 5)) ((Blk.new w _ _).cell 0)
  have HT := Lib.hid (show numT (n : Int) = [UInt8.ofNat x] from by rw [numT_one (by omega) (by omega), ← hx]; rfl)
  clear hcv
  go_enter Tryd.func54, Tryd.ntmps54
  go_wp2
  go_ret
  rw [HT.out]
  exact ⟨rfl, (Le.refl w).alloc _⟩
set_option maxRecDepth 20000 in
set_option maxHeartbeats 4000000 in
theorem l1Number_any (n : Nat) (h1 : n < 100) (w : World) : Calls Tryd.prog 54 #[.int .i64 (n : Int)] w fun e w' => ∃ S : ByteArray, e = .returned (.string S) ∧ S = ⟨(numT (n : Int)).toArray⟩ ∧ S.size ≤ 2 ∧ Le w w' := by
  have hsz : (numT (n : Int)).length ≤ 2 := numT_len (by omega)
  by_cases h10 : n < 10
  · exact (l1Number_small n h10 w).mono fun e w' ⟨he, hl⟩ => ⟨_, he, rfl, hsz, hl⟩
  suffices h : Calls Tryd.prog 54 #[.int .i64 (n : Int)] w fun e w' => e = .returned (.string ⟨(numT (n : Int)).toArray⟩) ∧ Le w w' from h.mono fun e w' ⟨he, hl⟩ => ⟨_, he, rfl, hsz, hl⟩
  clear hsz
  obtain ⟨a, ha⟩ : ∃ a, n / 10 = a := ⟨_, rfl⟩
  obtain ⟨r, hr⟩ : ∃ r, n % 10 = r := ⟨_, rfl⟩
  obtain ⟨x, hx⟩ : ∃ x, 48 + r = x := ⟨_, rfl⟩
  have hcv := fun (b : Nat) (w : World) => run_b2s (P := Tryd.prog) 22 9 5 Tryd.underlying22 Tryd.underlying5 Tryd.underlying9 b x w
  have HT := Lib.hid (show numT (n : Int) = numT (a : Int) ++ [UInt8.ofNat x] from by
    rw [numT_two (by omega) (by omega), numT_one (n := (a : Int)) (by omega) (by omega), Int.toNat_natCast, Int.toNat_natCast, ha, hr, hx]; rfl)
  have hA : (numT (a : Int)).length ≤ 2 := numT_len (by omega)
  have hA9 : ¬ 9223372036854775807 < (numT (a : Int)).length + 1 := by omega
  have hq : (n : Int) / 10 = (a : Int) := by omega
  have hm : (n : Int).tmod 10 = (r : Int) := by rw [Int.tmod_eq_emod_of_nonneg (by omega)]; omega
  have hwa : IntKind.i64.wrap (a : Int) = (a : Int) := IntWalk.i64_in _ (by omega)
  have hwx : IntKind.i64.wrap (48 + (r : Int)) = (x : Int) := by rw [IntWalk.i64_in _ (by omega)]; omega
  have hwr : IntKind.u8.wrap (x : Int) = (x : Int) := by simp [IntKind.wrap, IntKind.signed, IntKind.bits]; omega
  have hn10 : ¬ (n : Int) < 10 := by omega
  have HX := Lib.hid (And.intro ha (And.intro hr hx))
  clear ha hr hx h10
  go_enter Tryd.func54, Tryd.ntmps54
  go_wp2
  have SW : Le w w.drew := (Le.refl w).drew
  refine wp_region_held_drew (S := fun w' => Le w w') (by kernel_rfl) SW (fun _ => ?_)
  obtain ⟨wd, hwd⟩ : ∃ wd, w.drew = wd := ⟨_, rfl⟩
  rw [hwd] at SW
  rw [hwd]
  clear hwd
  refine wpAnyH_takeL (i := 0) (v := ?_) rfl (by kernel_rfl) (by kernel_rfl) (by kernel_rfl) (fun _ _ _ h => h) (Or.inl ⟨by rfl, ?_⟩) (by assumption) ?_
  rotate_left
  · (intro w' hSw; (try dsimp only at hSw); go_simp; all_goals with_reducible rfl)
  repeat (first | simp only [Act.put] | simp only [List.setIfInBounds_toArray] | simp only [List.set_cons_succ] | simp only [List.set_cons_zero])
  refine wpAnyH_takeL (i := 1) (v := ?_) rfl (by kernel_rfl) (by kernel_rfl) (by kernel_rfl) (fun _ _ _ h => h) (Or.inl ⟨by rfl, ?_⟩) (by assumption) ?_
  rotate_left
  · (intro w' hSw; (try dsimp only at hSw); go_simp; all_goals with_reducible rfl)
  repeat (first | simp only [Act.put] | simp only [List.setIfInBounds_toArray] | simp only [List.set_cons_succ] | simp only [List.set_cons_zero])
  refine wpAnyH_takeL (i := 3) (v := ?_) rfl (by kernel_rfl) (by kernel_rfl) (by kernel_rfl) (fun _ _ _ h => h) (Or.inl ⟨by rfl, ?_⟩) (by assumption) ?_
  rotate_left
  · (intro w' hSw; (try dsimp only at hSw); go_simp; all_goals with_reducible rfl)
  repeat (first | simp only [Act.put] | simp only [List.setIfInBounds_toArray] | simp only [List.set_cons_succ] | simp only [List.set_cons_zero])
  refine wpAnyH_takeL (i := 4) (v := ?_) rfl (by kernel_rfl) (by kernel_rfl) (by kernel_rfl) (fun _ _ _ h => h) (Or.inl ⟨by rfl, ?_⟩) (by assumption) ?_
  rotate_left
  · (intro w' hSw; (try dsimp only at hSw); go_simp; all_goals with_reducible rfl)
  repeat (first | simp only [Act.put] | simp only [List.setIfInBounds_toArray] | simp only [List.set_cons_succ] | simp only [List.set_cons_zero])
  refine wpAnyH_takeL (i := 5) (v := ?_) rfl (by kernel_rfl) (by kernel_rfl) (by kernel_rfl) (fun _ _ _ h => h) (Or.inl ⟨by rfl, ?_⟩) (by assumption) ?_
  rotate_left
  · (intro w' hSw; (try dsimp only at hSw); go_simp; all_goals with_reducible rfl)
  repeat (first | simp only [Act.put] | simp only [List.setIfInBounds_toArray] | simp only [List.set_cons_succ] | simp only [List.set_cons_zero])
  refine wpAnyH_takeL (i := 6) (v := ?_) rfl (by kernel_rfl) (by kernel_rfl) (by kernel_rfl) (fun _ _ _ h => h) (Or.inl ⟨by rfl, ?_⟩) (by assumption) ?_
  rotate_left
  · (intro w' hSw; (try dsimp only at hSw); go_simp; all_goals with_reducible rfl)
  repeat (first | simp only [Act.put] | simp only [List.setIfInBounds_toArray] | simp only [List.set_cons_succ] | simp only [List.set_cons_zero])
  refine wpAnyH_ready (rs := [2, 7]) (by kernel_rfl) (by simp) ?_
  refine consL (i := 2) rfl (fun K hK => ?_) ?_
  · go_simp
    refine (l1Number_small a (by omega) _).mono ?_; rintro e wc ⟨rfl, lc⟩
    have S1 : Le w wc := SW.trans lc
    refine hK.out _ _ S1 (fun _ => ?_)
    clear hK K
    repeat (first | simp only [Act.put] | simp only [List.setIfInBounds_toArray] | simp only [List.set_cons_succ] | simp only [List.set_cons_zero])
    refine wpAnyH_ready (rs := [7]) (by kernel_rfl) (by simp) ?_
    refine consL (i := 7) rfl (fun K hK => ?_) AllReadyH.nil
    go_simp
    have S2 : Le w (wc.alloc (.cells #[.int .u8 (x : Int)] 5)) := S1.alloc _
    have hc := hcv wc.heap.size (wc.alloc (.cells #[.int .u8 (x : Int)] 5)) ((Blk.new wc _ _).cell 0)
    refine hK.out _ _ S2 (fun _ => ?_)
    clear hK K
    repeat (first | simp only [Act.put] | simp only [List.setIfInBounds_toArray] | simp only [List.set_cons_succ] | simp only [List.set_cons_zero])
    refine wpAnyH_ready (rs := [8]) (by kernel_rfl) (by simp) ?_
    refine consL (i := 8) rfl (fun K hK => ?_) AllReadyH.nil
    go_simp
    refine hK.out _ _ S2 (fun _ => ?_)
    clear hK K
    repeat (first | simp only [Act.put] | simp only [List.setIfInBounds_toArray] | simp only [List.set_cons_succ] | simp only [List.set_cons_zero])
    refine wpAnyH_takeL (i := 9) (v := ?_) rfl (by kernel_rfl) (by kernel_rfl) (by kernel_rfl) (fun _ _ _ h => h) (Or.inl ⟨by rfl, ?_⟩) (by assumption) ?_
    rotate_left
    · (intro w' hSw; (try dsimp only at hSw); go_simp; all_goals with_reducible rfl)
    repeat (first | simp only [Act.put] | simp only [List.setIfInBounds_toArray] | simp only [List.set_cons_succ] | simp only [List.set_cons_zero])
    refine wpAnyH_takeL (i := 10) (v := ?_) rfl (by kernel_rfl) (by kernel_rfl) (by kernel_rfl) (fun _ _ _ h => h) (Or.inl ⟨by rfl, ?_⟩) (by assumption) ?_
    rotate_left
    · (intro w' hSw; (try dsimp only at hSw); go_simp; all_goals with_reducible rfl)
    repeat (first | simp only [Act.put] | simp only [List.setIfInBounds_toArray] | simp only [List.set_cons_succ] | simp only [List.set_cons_zero])
    refine wpAnyH_done (by kernel_rfl) ?_ _
    go_wp2
    go_ret
    rw [HT.out]
    exact ⟨congrArg (fun s => Ending.returned (Value.string s)) (ByteArray.mk_append_mk _ _), S2⟩
  refine consL (i := 7) rfl (fun K hK => ?_) AllReadyH.nil
  go_simp
  have S1 : Le w (wd.alloc (.cells #[.int .u8 (x : Int)] 5)) := SW.alloc _
  have hc := hcv wd.heap.size (wd.alloc (.cells #[.int .u8 (x : Int)] 5)) ((Blk.new wd _ _).cell 0)
  have kb := Blk.new wd 5 #[.int .u8 (x : Int)]
  obtain ⟨wb, hwb⟩ : ∃ wb, wd.alloc (.cells #[.int .u8 (x : Int)] 5) = wb := ⟨_, rfl⟩
  rw [hwb] at S1 hc kb
  rw [hwb]
  clear hwb
  refine hK.out _ _ S1 (fun _ => ?_)
  clear hK K
  repeat (first | simp only [Act.put] | simp only [List.setIfInBounds_toArray] | simp only [List.set_cons_succ] | simp only [List.set_cons_zero])
  refine wpAnyH_ready (rs := [2, 8]) (by kernel_rfl) (by simp) ?_
  refine consL (i := 2) rfl (fun K hK => ?_) ?_
  · go_simp
    refine (l1Number_small a (by omega) _).mono ?_; rintro e wc ⟨rfl, lc⟩
    have S2 : Le w wc := S1.trans lc
    have hc2 := hcv wd.heap.size wc ((kb.le lc).cell 0)
    refine hK.out _ _ S2 (fun _ => ?_)
    clear hK K
    repeat (first | simp only [Act.put] | simp only [List.setIfInBounds_toArray] | simp only [List.set_cons_succ] | simp only [List.set_cons_zero])
    refine wpAnyH_ready (rs := [8]) (by kernel_rfl) (by simp) ?_
    refine consL (i := 8) rfl (fun K hK => ?_) AllReadyH.nil
    go_simp
    refine hK.out _ _ S2 (fun _ => ?_)
    clear hK K
    repeat (first | simp only [Act.put] | simp only [List.setIfInBounds_toArray] | simp only [List.set_cons_succ] | simp only [List.set_cons_zero])
    refine wpAnyH_takeL (i := 9) (v := ?_) rfl (by kernel_rfl) (by kernel_rfl) (by kernel_rfl) (fun _ _ _ h => h) (Or.inl ⟨by rfl, ?_⟩) (by assumption) ?_
    rotate_left
    · (intro w' hSw; (try dsimp only at hSw); go_simp; all_goals with_reducible rfl)
    repeat (first | simp only [Act.put] | simp only [List.setIfInBounds_toArray] | simp only [List.set_cons_succ] | simp only [List.set_cons_zero])
    refine wpAnyH_takeL (i := 10) (v := ?_) rfl (by kernel_rfl) (by kernel_rfl) (by kernel_rfl) (fun _ _ _ h => h) (Or.inl ⟨by rfl, ?_⟩) (by assumption) ?_
    rotate_left
    · (intro w' hSw; (try dsimp only at hSw); go_simp; all_goals with_reducible rfl)
    repeat (first | simp only [Act.put] | simp only [List.setIfInBounds_toArray] | simp only [List.set_cons_succ] | simp only [List.set_cons_zero])
    refine wpAnyH_done (by kernel_rfl) ?_ _
    go_wp2
    go_ret
    rw [HT.out]
    exact ⟨congrArg (fun s => Ending.returned (Value.string s)) (ByteArray.mk_append_mk _ _), S2⟩
  refine consL (i := 8) rfl (fun K hK => ?_) AllReadyH.nil
  go_simp
  refine hK.out _ _ S1 (fun _ => ?_)
  clear hK K
  repeat (first | simp only [Act.put] | simp only [List.setIfInBounds_toArray] | simp only [List.set_cons_succ] | simp only [List.set_cons_zero])
  refine wpAnyH_ready (rs := [2]) (by kernel_rfl) (by simp) ?_
  refine consL (i := 2) rfl (fun K hK => ?_) AllReadyH.nil
  go_simp
  refine (l1Number_small a (by omega) _).mono ?_; rintro e wc ⟨rfl, lc⟩
  have S2 : Le w wc := S1.trans lc
  refine hK.out _ _ S2 (fun _ => ?_)
  clear hK K
  repeat (first | simp only [Act.put] | simp only [List.setIfInBounds_toArray] | simp only [List.set_cons_succ] | simp only [List.set_cons_zero])
  refine wpAnyH_takeL (i := 9) (v := ?_) rfl (by kernel_rfl) (by kernel_rfl) (by kernel_rfl) (fun _ _ _ h => h) (Or.inl ⟨by rfl, ?_⟩) (by assumption) ?_
  rotate_left
  · (intro w' hSw; (try dsimp only at hSw); go_simp; all_goals with_reducible rfl)
  repeat (first | simp only [Act.put] | simp only [List.setIfInBounds_toArray] | simp only [List.set_cons_succ] | simp only [List.set_cons_zero])
  refine wpAnyH_takeL (i := 10) (v := ?_) rfl (by kernel_rfl) (by kernel_rfl) (by kernel_rfl) (fun _ _ _ h => h) (Or.inl ⟨by rfl, ?_⟩) (by assumption) ?_
  rotate_left
  · (intro w' hSw; (try dsimp only at hSw); go_simp; all_goals with_reducible rfl)
  repeat (first | simp only [Act.put] | simp only [List.setIfInBounds_toArray] | simp only [List.set_cons_succ] | simp only [List.set_cons_zero])
  refine wpAnyH_done (by kernel_rfl) ?_ _
  go_wp2
  go_ret
  rw [HT.out]
  exact ⟨congrArg (fun s => Ending.returned (Value.string s)) (ByteArray.mk_append_mk _ _), S2⟩
end Go.Proofs.YtoahjfofnaafaaaDoor
