/- Walk: FnItemsValid. -/
import Derived.Test.YtbkjfgbafphopaaDoorWLawC
import Derived.Test.YtbkjfgbafphopaaDoorPReg
import Derived.Test.YtbkjfgbafphopaaDoorPLaw1
import Derived.Test.YtbkjfgbafphopaaDoorWAlive
namespace Go.Proofs.YtbkjfgbafphopaaDoor
open Go.RowKit

set_option maxRecDepth 20000 in
set_option maxHeartbeats 16000000 in
theorem law_FnItemsValid (w : World) (A : Option Addr) (n c : Nat) (h : RB w A n) (hc : n ≤ c) :
    Calls Tryd.prog 4 #[.slice A n c] w fun e w' => e = .returned (.bool true) ∧ Le w w' := by
  have hm := h.max
  by_cases hn : 1048576 < n
  · go_enter Tryd.func4, Tryd.ntmps4
    go_wp2
    go_ret
    exact ⟨rfl, Le.refl _⟩
  · have HD := Lib.hid (drawItemsValid_any A n c w h hc)
    clear h
    obtain ⟨i0, hi0, hz0, hz1, hz2⟩ := info_parts infoItem
    go_enter Tryd.func4, Tryd.ntmps4
    go_wp2_with fail
    refine HD.out.mono ?_; rintro e w1 ⟨gv, cap, k, ts, rfl, d1, l1⟩
    have hk7 := d1.small
    have hcap := d1.kcap
    have hcm := d1.capm
    have D1 := Lib.hid d1
    have HR := Lib.hid d1.rm
    have L1 := Lib.hid l1
    have HK := Lib.hid d1.len
    clear d1 l1
    go_wp2_with fail
    refine (implItemsValid_any _ _ _ _ _ HR.out).mono ?_; rintro e w2 ⟨rfl, l2⟩
    go_wp2_with fail
    refine (specItemsValid_any _ _ _ _ _ (HR.out.le l2)).mono ?_; rintro e w3 ⟨rfl, l3⟩
    obtain ⟨V, hV⟩ : ∃ V, itemsL ts = V := ⟨_, rfl⟩
    rw [hV]
    have hbb : (V != V) = false := by simp
    have L3 := Lib.hid (l2.trans l3)
    have HV := Lib.hid hV
    clear l2 l3 hV
    cases V
    · go_wp2_with fail
      have lz := ((Le.refl w3).alloc (.cells #[.int .i64 (k : Int), .int .i64 1] 37)).alloc (.cells #[.int .i64 1, .slice (some ⟨w3.heap.size, 0, none⟩) 1 1, .int .i64 0] 26)
      have kp := (Blk.new w3 37 #[.int .i64 (k : Int), .int .i64 1]).alloc (.cells #[.int .i64 1, .slice (some ⟨w3.heap.size, 0, none⟩) 1 1, .int .i64 0] 26)
      have ki := Blk.new (w3.alloc (.cells #[.int .i64 (k : Int), .int .i64 1] 37)) 26 #[.int .i64 1, .slice (some ⟨w3.heap.size, 0, none⟩) 1 1, .int .i64 0]
      simp only [World.size_alloc] at ki
      obtain ⟨wz, hwz⟩ : ∃ wz, (w3.alloc (.cells #[.int .i64 (k : Int), .int .i64 1] 37)).alloc (.cells #[.int .i64 1, .slice (some ⟨w3.heap.size, 0, none⟩) 1 1, .int .i64 0] 26) = wz := ⟨_, rfl⟩
      rw [hwz] at lz kp ki
      rw [hwz]
      obtain ⟨q, hq⟩ : ∃ q, w3.heap.size = q := ⟨_, rfl⟩
      rw [hq] at kp ki
      rw [hq]
      have hrp : RP wz (some ⟨q, 0, none⟩) 1 [((k : Int), 1)] := ⟨rfl, by omega, fun j hj => by
        obtain rfl : j = 0 := by omega
        exact ⟨_, rfl, by rw [addr0]; exact kp.cell 0, by rw [addr0]; exact kp.cell 1⟩⟩
      have ic0 := ki.cell 0
      have ic1 := ki.cell 1
      have ic2 := ki.cell 2
      simp at ic0 ic1 ic2
      have LZ := Lib.hid (L3.out.trans lz)
      have HRP := Lib.hid hrp
      obtain ⟨xs, ox, hxl, hx1, hx⟩ := (D1.out.le LZ.out).cells
      have OX := Lib.hid ox
      have HX := Lib.hid hx
      have HXL := Lib.hid hxl
      have HX1 := Lib.hid hx1
      have hqz : q + 1 < wz.heap.size := ki.lt
      have HWQ := Lib.hid (show itemsL (ts ++ [(1, [((k : Int), 1)], 0)]) = false from by have := items_wrong ts; rwa [HK.out] at this)
      clear kp ki hrp ox hx hxl hx1 lz hwz hq
      have SW : Le wz wz.drew := (Le.refl wz).drew
      refine wp_region_held_drew (S := fun w' => Le wz w') (by kernel_rfl) SW (fun _ => ?_)
      obtain ⟨wd0, hwd0⟩ : ∃ wd0, wz.drew = wd0 := ⟨_, rfl⟩
      rw [hwd0] at SW
      rw [hwd0]
      clear hwd0
      refine wpAnyH_takeL (i := 0) (v := ?_) rfl (by kernel_rfl) (by kernel_rfl) (by kernel_rfl) (fun _ _ _ h => h) (Or.inl ⟨by rfl, ?_⟩) (by assumption) ?_
      rotate_left
      · (intro w' hSw; (try dsimp only at hSw); go_simp; all_goals with_reducible rfl)
      repeat (first | simp only [Act.put] | simp only [List.setIfInBounds_toArray] | simp only [List.set_cons_succ] | simp only [List.set_cons_zero])
      refine wpAnyH_takeL (i := 1) (v := ?_) rfl (by kernel_rfl) (by kernel_rfl) (by kernel_rfl) (fun _ _ _ h => h) (Or.inl ⟨by rfl, ?_⟩) (by assumption) ?_
      rotate_left
      · (intro w' hSw; (try dsimp only at hSw); go_simp; all_goals with_reducible rfl)
      repeat (first | simp only [Act.put] | simp only [List.setIfInBounds_toArray] | simp only [List.set_cons_succ] | simp only [List.set_cons_zero])
      refine wpAnyH_takeL (i := 2) (v := ?_) rfl (by kernel_rfl) (by kernel_rfl) (by kernel_rfl) (fun _ _ _ h => h) (Or.inl ⟨by rfl, ?_⟩) (by assumption) ?_
      rotate_left
      · (intro w' hSw; (try dsimp only at hSw); go_simp; all_goals with_reducible rfl)
      repeat (first | simp only [Act.put] | simp only [List.setIfInBounds_toArray] | simp only [List.set_cons_succ] | simp only [List.set_cons_zero])
      refine wpAnyH_takeL (i := 3) (v := undef) rfl (by kernel_rfl) (by kernel_rfl) (by kernel_rfl) (fun _ _ _ h => h) (Or.inr ⟨by rfl, rfl⟩) (by assumption) ?_
      repeat (first | simp only [Act.put] | simp only [List.setIfInBounds_toArray] | simp only [List.set_cons_succ] | simp only [List.set_cons_zero])
      refine wpAnyH_takeL (i := 4) (v := undef) rfl (by kernel_rfl) (by kernel_rfl) (by kernel_rfl) (fun _ _ _ h => h) (Or.inr ⟨by rfl, rfl⟩) (by assumption) ?_
      repeat (first | simp only [Act.put] | simp only [List.setIfInBounds_toArray] | simp only [List.set_cons_succ] | simp only [List.set_cons_zero])
      refine wpAnyH_takeL (i := 5) (v := undef) rfl (by kernel_rfl) (by kernel_rfl) (by kernel_rfl) (fun _ _ _ h => h) (Or.inr ⟨by rfl, rfl⟩) (by assumption) ?_
      repeat (first | simp only [Act.put] | simp only [List.setIfInBounds_toArray] | simp only [List.set_cons_succ] | simp only [List.set_cons_zero])
      refine wpAnyH_takeL (i := 6) (v := ?_) rfl (by kernel_rfl) (by kernel_rfl) (by kernel_rfl) (fun _ _ _ h => h) (Or.inl ⟨by rfl, ?_⟩) (by assumption) ?_
      rotate_left
      · (intro w' hSw; (try dsimp only at hSw); go_simp; all_goals with_reducible rfl)
      repeat (first | simp only [Act.put] | simp only [List.setIfInBounds_toArray] | simp only [List.set_cons_succ] | simp only [List.set_cons_zero])
      refine wpAnyH_takeL (i := 7) (v := ?_) rfl (by kernel_rfl) (by kernel_rfl) (by kernel_rfl) (fun _ _ _ h => h) (Or.inl ⟨by rfl, ?_⟩) (by assumption) ?_
      rotate_left
      · (intro w' hSw; (try dsimp only at hSw); go_simp; all_goals with_reducible rfl)
      repeat (first | simp only [Act.put] | simp only [List.setIfInBounds_toArray] | simp only [List.set_cons_succ] | simp only [List.set_cons_zero])
      refine wpAnyH_takeL (i := 8) (v := undef) rfl (by kernel_rfl) (by kernel_rfl) (by kernel_rfl) (fun _ _ _ h => h) (Or.inr ⟨by rfl, rfl⟩) (by assumption) ?_
      repeat (first | simp only [Act.put] | simp only [List.setIfInBounds_toArray] | simp only [List.set_cons_succ] | simp only [List.set_cons_zero])
      refine wpAnyH_takeL (i := 9) (v := undef) rfl (by kernel_rfl) (by kernel_rfl) (by kernel_rfl) (fun _ _ _ h => h) (Or.inr ⟨by rfl, rfl⟩) (by assumption) ?_
      repeat (first | simp only [Act.put] | simp only [List.setIfInBounds_toArray] | simp only [List.set_cons_succ] | simp only [List.set_cons_zero])
      refine wpAnyH_takeL (i := 10) (v := undef) rfl (by kernel_rfl) (by kernel_rfl) (by kernel_rfl) (fun _ _ _ h => h) (Or.inr ⟨by rfl, rfl⟩) (by assumption) ?_
      repeat (first | simp only [Act.put] | simp only [List.setIfInBounds_toArray] | simp only [List.set_cons_succ] | simp only [List.set_cons_zero])
      refine wpAnyH_takeL (i := 11) (v := undef) rfl (by kernel_rfl) (by kernel_rfl) (by kernel_rfl) (fun _ _ _ h => h) (Or.inr ⟨by rfl, rfl⟩) (by assumption) ?_
      repeat (first | simp only [Act.put] | simp only [List.setIfInBounds_toArray] | simp only [List.set_cons_succ] | simp only [List.set_cons_zero])
      refine wpAnyH_takeL (i := 12) (v := undef) rfl (by kernel_rfl) (by kernel_rfl) (by kernel_rfl) (fun _ _ _ h => h) (Or.inr ⟨by rfl, rfl⟩) (by assumption) ?_
      repeat (first | simp only [Act.put] | simp only [List.setIfInBounds_toArray] | simp only [List.set_cons_succ] | simp only [List.set_cons_zero])
      refine wpAnyH_takeL (i := 13) (v := undef) rfl (by kernel_rfl) (by kernel_rfl) (by kernel_rfl) (fun _ _ _ h => h) (Or.inr ⟨by rfl, rfl⟩) (by assumption) ?_
      repeat (first | simp only [Act.put] | simp only [List.setIfInBounds_toArray] | simp only [List.set_cons_succ] | simp only [List.set_cons_zero])
      refine wpAnyH_takeL (i := 14) (v := ?_) rfl (by kernel_rfl) (by kernel_rfl) (by kernel_rfl) (fun _ _ _ h => h) (Or.inl ⟨by rfl, ?_⟩) (by assumption) ?_
      rotate_left
      · (intro w' hSw; (try dsimp only at hSw); go_simp; all_goals with_reducible rfl)
      repeat (first | simp only [Act.put] | simp only [List.setIfInBounds_toArray] | simp only [List.set_cons_succ] | simp only [List.set_cons_zero])
      refine wpAnyH_takeL (i := 15) (v := ?_) rfl (by kernel_rfl) (by kernel_rfl) (by kernel_rfl) (fun _ _ _ h => h) (Or.inl ⟨by rfl, ?_⟩) (by assumption) ?_
      rotate_left
      · (intro w' hSw; (try dsimp only at hSw); go_simp; all_goals with_reducible rfl)
      repeat (first | simp only [Act.put] | simp only [List.setIfInBounds_toArray] | simp only [List.set_cons_succ] | simp only [List.set_cons_zero])
      refine wpAnyH_takeL (i := 17) (v := ?_) rfl (by kernel_rfl) (by kernel_rfl) (by kernel_rfl) (fun _ _ _ h => h) (Or.inl ⟨by rfl, ?_⟩) (by assumption) ?_
      rotate_left
      · (intro w' hSw; (try dsimp only at hSw); go_simp; all_goals with_reducible rfl)
      repeat (first | simp only [Act.put] | simp only [List.setIfInBounds_toArray] | simp only [List.set_cons_succ] | simp only [List.set_cons_zero])
      refine wpAnyH_takeL (i := 19) (v := ?_) rfl (by kernel_rfl) (by kernel_rfl) (by kernel_rfl) (fun _ _ _ h => h) (Or.inl ⟨by rfl, ?_⟩) (by assumption) ?_
      rotate_left
      · (intro w' hSw; have cX0 := Le.cell hSw ic0; have cX1 := Le.cell hSw ic1; have cX2 := Le.cell hSw ic2; (try dsimp only at hSw); go_simp; all_goals with_reducible rfl)
      repeat (first | simp only [Act.put] | simp only [List.setIfInBounds_toArray] | simp only [List.set_cons_succ] | simp only [List.set_cons_zero])
      refine wpAnyH_ready (rs := [16, 20]) (by kernel_rfl) (by simp) ?_
      refine consL (i := 16) rfl (fun K hK => ?_) ?_
      · go_simp
        have s16 := SW.size
        have O16 := Lib.hid (own_mono (own_empty (wd0) 26 3) s16)
        have SW16 := SW.alloc (.cells #[] 26)
        refine hK.out _ _ SW16 (fun _ => ?_)
        clear hK K
        repeat (first | simp only [Act.put] | simp only [List.setIfInBounds_toArray] | simp only [List.set_cons_succ] | simp only [List.set_cons_zero])
        refine wpAnyH_ready (rs := [18, 20]) (by kernel_rfl) (by simp) ?_
        refine consL (i := 18) rfl (fun K hK => ?_) ?_
        · refine step_append_g (by rfl) (some 40) (by rfl) _ _ 33 (by rfl) wz.heap.size 26 i0 _ 3 40 Tryd.underlying33 hi0 hz0 hz1 hz2 rfl (by decide) _ 0 [] (by rfl) O16.out ⟨gv, 0, none⟩ k cap xs (by rfl) HXL.out (fun j u hj => (own_Le OX.out SW16).cells (g := gv) rfl j u hj) HX1.out (by unfold maxLen; omega) (by omega) (by have := SW16.size; omega) ?_
          intro va wa oa ga _
          have SWa : Le wz wa := SW16.grown ga (fun g' hg' => (O16.out.lt g' hg').1)
          have OA := Lib.hid oa
          clear oa ga
          refine hK.out _ _ SWa (fun _ => ?_)
          clear hK K
          repeat (first | simp only [Act.put] | simp only [List.setIfInBounds_toArray] | simp only [List.set_cons_succ] | simp only [List.set_cons_zero])
          refine wpAnyH_ready (rs := [20]) (by kernel_rfl) (by simp) ?_
          refine consL (i := 20) rfl (fun K hK => ?_) AllReadyH.nil
          go_simp
          have SWq := SWa.alloc (.cells #[.int .i64 1, .slice (some ⟨q, 0, none⟩) 1 1, .int .i64 0] 26)
          have KQ := Lib.hid (Blk.new wa 26 #[.int .i64 1, .slice (some ⟨q, 0, none⟩) 1 1, .int .i64 0])
          have OQ := Lib.hid (OA.out.alloc (.cells #[.int .i64 1, .slice (some ⟨q, 0, none⟩) 1 1, .int .i64 0] 26))
          refine hK.out _ _ SWq (fun _ => ?_)
          clear hK K
          repeat (first | simp only [Act.put] | simp only [List.setIfInBounds_toArray] | simp only [List.set_cons_succ] | simp only [List.set_cons_zero])
          refine wpAnyH_ready (rs := [21]) (by kernel_rfl) (by simp) ?_
          refine consL (i := 21) rfl (fun K hK => ?_) AllReadyH.nil
          refine step_append_g (by rfl) (some 43) (by rfl) _ _ 33 (by rfl) wz.heap.size 26 i0 _ 3 40 Tryd.underlying33 hi0 hz0 hz1 hz2 rfl (by decide) va (0 + k) ([] ++ xs) (by rfl) OQ.out ⟨wa.heap.size, 0, none⟩ 1 1 [.int .i64 1, .slice (some ⟨q, 0, none⟩) 1 1, .int .i64 0] (by rfl) rfl (fun j u hj => by
            rw [addr0, KQ.out.cell j]
            match j, hj with
            | 0, hj => exact hj
            | 1, hj => exact hj
            | 2, hj => exact hj
            | j + 3, hj => simp at hj) (fun u hu => by simp at hu; rcases hu with rfl | rfl | rfl <;> rfl) (by unfold maxLen; omega) (by omega) (by have := SWq.size; omega) ?_
          intro vb wb ob gb _
          have SWb : Le wz wb := SWq.grown gb (fun g' hg' => (OQ.out.lt g' hg').1)
          rw [List.nil_append, Nat.zero_add] at ob
          obtain ⟨Ab, cb, rfl, rb⟩ := RM.of_row ob (ts := ts ++ [(1, [((k : Int), 1)], 0)]) (by rw [List.length_append, HK.out]; rfl) (by omega) (RM.snoc_cells HK.out HXL.out (fun j hj => by obtain ⟨B, m, c', h1, h2, h3, r⟩ := HX.out j hj; exact ⟨B, m, c', h1, h2, h3, r.le SWb⟩) (HRP.out.le SWb))
          have RB1 := Lib.hid rb
          clear ob gb rb
          refine hK.out _ _ SWb (fun _ => ?_)
          clear hK K
          repeat (first | simp only [Act.put] | simp only [List.setIfInBounds_toArray] | simp only [List.set_cons_succ] | simp only [List.set_cons_zero])
          refine wpAnyH_ready (rs := [22]) (by kernel_rfl) (by simp) ?_
          refine consL (i := 22) rfl (fun K hK => ?_) AllReadyH.nil
          go_simp
          refine (implItemsValid_any _ _ _ _ _ RB1.out).mono ?_; rintro e wc ⟨rfl, lc⟩
          rw [HWQ.out]
          (try go_wp2_with fail)
          have SWc := SWb.trans lc
          clear lc
          refine hK.out _ _ SWc (fun _ => ?_)
          clear hK K
          repeat (first | simp only [Act.put] | simp only [List.setIfInBounds_toArray] | simp only [List.set_cons_succ] | simp only [List.set_cons_zero])
          refine wpAnyH_takeL (i := 23) (v := ?_) rfl (by kernel_rfl) (by kernel_rfl) (by kernel_rfl) (fun _ _ _ h => h) (Or.inl ⟨by rfl, ?_⟩) (by assumption) ?_
          rotate_left
          · (intro w' hSw; (try dsimp only at hSw); go_simp; all_goals with_reducible rfl)
          repeat (first | simp only [Act.put] | simp only [List.setIfInBounds_toArray] | simp only [List.set_cons_succ] | simp only [List.set_cons_zero])
          refine wpAnyH_takeL (i := 24) (v := ?_) rfl (by kernel_rfl) (by kernel_rfl) (by kernel_rfl) (fun _ _ _ h => h) (Or.inl ⟨by rfl, ?_⟩) (by assumption) ?_
          rotate_left
          · (intro w' hSw; (try dsimp only at hSw); go_simp; all_goals with_reducible rfl)
          repeat (first | simp only [Act.put] | simp only [List.setIfInBounds_toArray] | simp only [List.set_cons_succ] | simp only [List.set_cons_zero])
          refine wpAnyH_takeL (i := 25) (v := ?_) rfl (by kernel_rfl) (by kernel_rfl) (by kernel_rfl) (fun _ _ _ h => h) (Or.inl ⟨by rfl, ?_⟩) (by assumption) ?_
          rotate_left
          · (intro w' hSw; (try dsimp only at hSw); go_simp; all_goals with_reducible rfl)
          repeat (first | simp only [Act.put] | simp only [List.setIfInBounds_toArray] | simp only [List.set_cons_succ] | simp only [List.set_cons_zero])
          refine wpAnyH_ready (rs := [26]) (by kernel_rfl) (by simp) ?_
          refine consL (i := 26) rfl (fun K hK => ?_) AllReadyH.nil
          go_simp
          refine (implItemsValid_any _ _ _ _ _ (RM.nil _)).mono ?_; rintro e wd ⟨rfl, ld⟩
          rw [items_nil]
          (try go_wp2_with fail)
          have SWd := SWc.trans ld
          clear ld
          refine hK.out _ _ SWd (fun _ => ?_)
          clear hK K
          repeat (first | simp only [Act.put] | simp only [List.setIfInBounds_toArray] | simp only [List.set_cons_succ] | simp only [List.set_cons_zero])
          refine wpAnyH_takeL (i := 27) (v := ?_) rfl (by kernel_rfl) (by kernel_rfl) (by kernel_rfl) (fun _ _ _ h => h) (Or.inl ⟨by rfl, ?_⟩) (by assumption) ?_
          rotate_left
          · (intro w' hSw; (try dsimp only at hSw); go_simp; all_goals with_reducible rfl)
          repeat (first | simp only [Act.put] | simp only [List.setIfInBounds_toArray] | simp only [List.set_cons_succ] | simp only [List.set_cons_zero])
          refine wpAnyH_takeL (i := 28) (v := ?_) rfl (by kernel_rfl) (by kernel_rfl) (by kernel_rfl) (fun _ _ _ h => h) (Or.inl ⟨by rfl, ?_⟩) (by assumption) ?_
          rotate_left
          · (intro w' hSw; (try dsimp only at hSw); go_simp; all_goals with_reducible rfl)
          repeat (first | simp only [Act.put] | simp only [List.setIfInBounds_toArray] | simp only [List.set_cons_succ] | simp only [List.set_cons_zero])
          refine wpAnyH_ready (rs := [29]) (by kernel_rfl) (by simp) ?_
          refine consL (i := 29) rfl (fun K hK => ?_) AllReadyH.nil
          go_simp
          refine (alive_any _).mono ?_; rintro e we ⟨rfl, le⟩
          (try go_wp2_with fail)
          have SWe := SWd.trans le
          clear le
          refine hK.out _ _ SWe (fun _ => ?_)
          clear hK K
          repeat (first | simp only [Act.put] | simp only [List.setIfInBounds_toArray] | simp only [List.set_cons_succ] | simp only [List.set_cons_zero])
          refine wpAnyH_takeL (i := 30) (v := ?_) rfl (by kernel_rfl) (by kernel_rfl) (by kernel_rfl) (fun _ _ _ h => h) (Or.inl ⟨by rfl, ?_⟩) (by assumption) ?_
          rotate_left
          · (intro w' hSw; (try dsimp only at hSw); go_simp; all_goals with_reducible rfl)
          repeat (first | simp only [Act.put] | simp only [List.setIfInBounds_toArray] | simp only [List.set_cons_succ] | simp only [List.set_cons_zero])
          refine wpAnyH_takeL (i := 31) (v := ?_) rfl (by kernel_rfl) (by kernel_rfl) (by kernel_rfl) (fun _ _ _ h => h) (Or.inl ⟨by rfl, ?_⟩) (by assumption) ?_
          rotate_left
          · (intro w' hSw; (try dsimp only at hSw); go_simp; all_goals with_reducible rfl)
          repeat (first | simp only [Act.put] | simp only [List.setIfInBounds_toArray] | simp only [List.set_cons_succ] | simp only [List.set_cons_zero])
          refine wpAnyH_done (by kernel_rfl) ?_ _
          go_wp2
          go_ret
          exact ⟨rfl, L1.out.trans (LZ.out.trans SWe)⟩
        refine consL (i := 20) rfl (fun K hK => ?_) AllReadyH.nil
        go_simp
        have SW20 := SW16.alloc (.cells #[.int .i64 1, .slice (some ⟨q, 0, none⟩) 1 1, .int .i64 0] 26)
        have K20 := Lib.hid (Blk.new ((wd0).alloc (.cells #[] 26)) 26 #[.int .i64 1, .slice (some ⟨q, 0, none⟩) 1 1, .int .i64 0])
        have O20 := Lib.hid (O16.out.alloc (.cells #[.int .i64 1, .slice (some ⟨q, 0, none⟩) 1 1, .int .i64 0] 26))
        refine hK.out _ _ SW20 (fun _ => ?_)
        clear hK K
        repeat (first | simp only [Act.put] | simp only [List.setIfInBounds_toArray] | simp only [List.set_cons_succ] | simp only [List.set_cons_zero])
        refine wpAnyH_ready (rs := [18]) (by kernel_rfl) (by simp) ?_
        refine consL (i := 18) rfl (fun K hK => ?_) AllReadyH.nil
        refine step_append_g (by rfl) (some 40) (by rfl) _ _ 33 (by rfl) wz.heap.size 26 i0 _ 3 40 Tryd.underlying33 hi0 hz0 hz1 hz2 rfl (by decide) _ 0 [] (by rfl) O20.out ⟨gv, 0, none⟩ k cap xs (by rfl) HXL.out (fun j u hj => (own_Le OX.out SW20).cells (g := gv) rfl j u hj) HX1.out (by unfold maxLen; omega) (by omega) (by have := SW20.size; omega) ?_
        intro va wa oa ga _
        have SWq : Le wz wa := SW20.grown ga (fun g' hg' => (O20.out.lt g' hg').1)
        have KQ := Lib.hid (K20.out.grown ga (fun e => by have e2 := Option.some.inj e; simp at e2))
        have OQ := Lib.hid oa
        clear oa ga
        simp only [World.size_alloc] at KQ
        refine hK.out _ _ SWq (fun _ => ?_)
        clear hK K
        repeat (first | simp only [Act.put] | simp only [List.setIfInBounds_toArray] | simp only [List.set_cons_succ] | simp only [List.set_cons_zero])
        refine wpAnyH_ready (rs := [21]) (by kernel_rfl) (by simp) ?_
        refine consL (i := 21) rfl (fun K hK => ?_) AllReadyH.nil
        refine step_append_g (by rfl) (some 43) (by rfl) _ _ 33 (by rfl) wz.heap.size 26 i0 _ 3 40 Tryd.underlying33 hi0 hz0 hz1 hz2 rfl (by decide) va (0 + k) ([] ++ xs) (by rfl) OQ.out ⟨(wd0.heap.size + 1), 0, none⟩ 1 1 [.int .i64 1, .slice (some ⟨q, 0, none⟩) 1 1, .int .i64 0] (by rfl) rfl (fun j u hj => by
          rw [addr0, KQ.out.cell j]
          match j, hj with
          | 0, hj => exact hj
          | 1, hj => exact hj
          | 2, hj => exact hj
          | j + 3, hj => simp at hj) (fun u hu => by simp at hu; rcases hu with rfl | rfl | rfl <;> rfl) (by unfold maxLen; omega) (by omega) (by have := SWq.size; omega) ?_
        intro vb wb ob gb _
        have SWb : Le wz wb := SWq.grown gb (fun g' hg' => (OQ.out.lt g' hg').1)
        rw [List.nil_append, Nat.zero_add] at ob
        obtain ⟨Ab, cb, rfl, rb⟩ := RM.of_row ob (ts := ts ++ [(1, [((k : Int), 1)], 0)]) (by rw [List.length_append, HK.out]; rfl) (by omega) (RM.snoc_cells HK.out HXL.out (fun j hj => by obtain ⟨B, m, c', h1, h2, h3, r⟩ := HX.out j hj; exact ⟨B, m, c', h1, h2, h3, r.le SWb⟩) (HRP.out.le SWb))
        have RB1 := Lib.hid rb
        clear ob gb rb
        refine hK.out _ _ SWb (fun _ => ?_)
        clear hK K
        repeat (first | simp only [Act.put] | simp only [List.setIfInBounds_toArray] | simp only [List.set_cons_succ] | simp only [List.set_cons_zero])
        refine wpAnyH_ready (rs := [22]) (by kernel_rfl) (by simp) ?_
        refine consL (i := 22) rfl (fun K hK => ?_) AllReadyH.nil
        go_simp
        refine (implItemsValid_any _ _ _ _ _ RB1.out).mono ?_; rintro e wc ⟨rfl, lc⟩
        rw [HWQ.out]
        (try go_wp2_with fail)
        have SWc := SWb.trans lc
        clear lc
        refine hK.out _ _ SWc (fun _ => ?_)
        clear hK K
        repeat (first | simp only [Act.put] | simp only [List.setIfInBounds_toArray] | simp only [List.set_cons_succ] | simp only [List.set_cons_zero])
        refine wpAnyH_takeL (i := 23) (v := ?_) rfl (by kernel_rfl) (by kernel_rfl) (by kernel_rfl) (fun _ _ _ h => h) (Or.inl ⟨by rfl, ?_⟩) (by assumption) ?_
        rotate_left
        · (intro w' hSw; (try dsimp only at hSw); go_simp; all_goals with_reducible rfl)
        repeat (first | simp only [Act.put] | simp only [List.setIfInBounds_toArray] | simp only [List.set_cons_succ] | simp only [List.set_cons_zero])
        refine wpAnyH_takeL (i := 24) (v := ?_) rfl (by kernel_rfl) (by kernel_rfl) (by kernel_rfl) (fun _ _ _ h => h) (Or.inl ⟨by rfl, ?_⟩) (by assumption) ?_
        rotate_left
        · (intro w' hSw; (try dsimp only at hSw); go_simp; all_goals with_reducible rfl)
        repeat (first | simp only [Act.put] | simp only [List.setIfInBounds_toArray] | simp only [List.set_cons_succ] | simp only [List.set_cons_zero])
        refine wpAnyH_takeL (i := 25) (v := ?_) rfl (by kernel_rfl) (by kernel_rfl) (by kernel_rfl) (fun _ _ _ h => h) (Or.inl ⟨by rfl, ?_⟩) (by assumption) ?_
        rotate_left
        · (intro w' hSw; (try dsimp only at hSw); go_simp; all_goals with_reducible rfl)
        repeat (first | simp only [Act.put] | simp only [List.setIfInBounds_toArray] | simp only [List.set_cons_succ] | simp only [List.set_cons_zero])
        refine wpAnyH_ready (rs := [26]) (by kernel_rfl) (by simp) ?_
        refine consL (i := 26) rfl (fun K hK => ?_) AllReadyH.nil
        go_simp
        refine (implItemsValid_any _ _ _ _ _ (RM.nil _)).mono ?_; rintro e wd ⟨rfl, ld⟩
        rw [items_nil]
        (try go_wp2_with fail)
        have SWd := SWc.trans ld
        clear ld
        refine hK.out _ _ SWd (fun _ => ?_)
        clear hK K
        repeat (first | simp only [Act.put] | simp only [List.setIfInBounds_toArray] | simp only [List.set_cons_succ] | simp only [List.set_cons_zero])
        refine wpAnyH_takeL (i := 27) (v := ?_) rfl (by kernel_rfl) (by kernel_rfl) (by kernel_rfl) (fun _ _ _ h => h) (Or.inl ⟨by rfl, ?_⟩) (by assumption) ?_
        rotate_left
        · (intro w' hSw; (try dsimp only at hSw); go_simp; all_goals with_reducible rfl)
        repeat (first | simp only [Act.put] | simp only [List.setIfInBounds_toArray] | simp only [List.set_cons_succ] | simp only [List.set_cons_zero])
        refine wpAnyH_takeL (i := 28) (v := ?_) rfl (by kernel_rfl) (by kernel_rfl) (by kernel_rfl) (fun _ _ _ h => h) (Or.inl ⟨by rfl, ?_⟩) (by assumption) ?_
        rotate_left
        · (intro w' hSw; (try dsimp only at hSw); go_simp; all_goals with_reducible rfl)
        repeat (first | simp only [Act.put] | simp only [List.setIfInBounds_toArray] | simp only [List.set_cons_succ] | simp only [List.set_cons_zero])
        refine wpAnyH_ready (rs := [29]) (by kernel_rfl) (by simp) ?_
        refine consL (i := 29) rfl (fun K hK => ?_) AllReadyH.nil
        go_simp
        refine (alive_any _).mono ?_; rintro e we ⟨rfl, le⟩
        (try go_wp2_with fail)
        have SWe := SWd.trans le
        clear le
        refine hK.out _ _ SWe (fun _ => ?_)
        clear hK K
        repeat (first | simp only [Act.put] | simp only [List.setIfInBounds_toArray] | simp only [List.set_cons_succ] | simp only [List.set_cons_zero])
        refine wpAnyH_takeL (i := 30) (v := ?_) rfl (by kernel_rfl) (by kernel_rfl) (by kernel_rfl) (fun _ _ _ h => h) (Or.inl ⟨by rfl, ?_⟩) (by assumption) ?_
        rotate_left
        · (intro w' hSw; (try dsimp only at hSw); go_simp; all_goals with_reducible rfl)
        repeat (first | simp only [Act.put] | simp only [List.setIfInBounds_toArray] | simp only [List.set_cons_succ] | simp only [List.set_cons_zero])
        refine wpAnyH_takeL (i := 31) (v := ?_) rfl (by kernel_rfl) (by kernel_rfl) (by kernel_rfl) (fun _ _ _ h => h) (Or.inl ⟨by rfl, ?_⟩) (by assumption) ?_
        rotate_left
        · (intro w' hSw; (try dsimp only at hSw); go_simp; all_goals with_reducible rfl)
        repeat (first | simp only [Act.put] | simp only [List.setIfInBounds_toArray] | simp only [List.set_cons_succ] | simp only [List.set_cons_zero])
        refine wpAnyH_done (by kernel_rfl) ?_ _
        go_wp2
        go_ret
        exact ⟨rfl, L1.out.trans (LZ.out.trans SWe)⟩
      refine consL (i := 20) rfl (fun K hK => ?_) AllReadyH.nil
      go_simp
      have SW20 := SW.alloc (.cells #[.int .i64 1, .slice (some ⟨q, 0, none⟩) 1 1, .int .i64 0] 26)
      have K20 := Lib.hid (Blk.new (wd0) 26 #[.int .i64 1, .slice (some ⟨q, 0, none⟩) 1 1, .int .i64 0])
      have s20 := SW20.size
      have o16 := own_mono (own_empty ((wd0).alloc (.cells #[.int .i64 1, .slice (some ⟨q, 0, none⟩) 1 1, .int .i64 0] 26)) 26 3) s20
      simp only [World.size_alloc] at o16
      have O16 := Lib.hid o16
      clear o16
      have SW16 := SW20.alloc (.cells #[] 26)
      refine hK.out _ _ SW20 (fun _ => ?_)
      clear hK K
      repeat (first | simp only [Act.put] | simp only [List.setIfInBounds_toArray] | simp only [List.set_cons_succ] | simp only [List.set_cons_zero])
      refine wpAnyH_ready (rs := [16]) (by kernel_rfl) (by simp) ?_
      refine consL (i := 16) rfl (fun K hK => ?_) AllReadyH.nil
      go_simp
      refine hK.out _ _ SW16 (fun _ => ?_)
      clear hK K
      repeat (first | simp only [Act.put] | simp only [List.setIfInBounds_toArray] | simp only [List.set_cons_succ] | simp only [List.set_cons_zero])
      refine wpAnyH_ready (rs := [18]) (by kernel_rfl) (by simp) ?_
      refine consL (i := 18) rfl (fun K hK => ?_) AllReadyH.nil
      refine step_append_g (by rfl) (some 40) (by rfl) _ _ 33 (by rfl) wz.heap.size 26 i0 _ 3 40 Tryd.underlying33 hi0 hz0 hz1 hz2 rfl (by decide) _ 0 [] (by rfl) O16.out ⟨gv, 0, none⟩ k cap xs (by rfl) HXL.out (fun j u hj => (own_Le OX.out SW16).cells (g := gv) rfl j u hj) HX1.out (by unfold maxLen; omega) (by omega) (by have := SW16.size; omega) ?_
      intro va wa oa ga _
      have SWq : Le wz wa := SW16.grown ga (fun g' hg' => (O16.out.lt g' hg').1)
      have KQ := Lib.hid (((K20.out.alloc (.cells #[] 26))).grown ga (fun e => by have e2 := Option.some.inj e; simp at e2))
      have OQ := Lib.hid oa
      clear oa ga
      refine hK.out _ _ SWq (fun _ => ?_)
      clear hK K
      repeat (first | simp only [Act.put] | simp only [List.setIfInBounds_toArray] | simp only [List.set_cons_succ] | simp only [List.set_cons_zero])
      refine wpAnyH_ready (rs := [21]) (by kernel_rfl) (by simp) ?_
      refine consL (i := 21) rfl (fun K hK => ?_) AllReadyH.nil
      refine step_append_g (by rfl) (some 43) (by rfl) _ _ 33 (by rfl) wz.heap.size 26 i0 _ 3 40 Tryd.underlying33 hi0 hz0 hz1 hz2 rfl (by decide) va (0 + k) ([] ++ xs) (by rfl) OQ.out ⟨wd0.heap.size, 0, none⟩ 1 1 [.int .i64 1, .slice (some ⟨q, 0, none⟩) 1 1, .int .i64 0] (by rfl) rfl (fun j u hj => by
        rw [addr0, KQ.out.cell j]
        match j, hj with
        | 0, hj => exact hj
        | 1, hj => exact hj
        | 2, hj => exact hj
        | j + 3, hj => simp at hj) (fun u hu => by simp at hu; rcases hu with rfl | rfl | rfl <;> rfl) (by unfold maxLen; omega) (by omega) (by have := SWq.size; omega) ?_
      intro vb wb ob gb _
      have SWb : Le wz wb := SWq.grown gb (fun g' hg' => (OQ.out.lt g' hg').1)
      rw [List.nil_append, Nat.zero_add] at ob
      obtain ⟨Ab, cb, rfl, rb⟩ := RM.of_row ob (ts := ts ++ [(1, [((k : Int), 1)], 0)]) (by rw [List.length_append, HK.out]; rfl) (by omega) (RM.snoc_cells HK.out HXL.out (fun j hj => by obtain ⟨B, m, c', h1, h2, h3, r⟩ := HX.out j hj; exact ⟨B, m, c', h1, h2, h3, r.le SWb⟩) (HRP.out.le SWb))
      have RB1 := Lib.hid rb
      clear ob gb rb
      refine hK.out _ _ SWb (fun _ => ?_)
      clear hK K
      repeat (first | simp only [Act.put] | simp only [List.setIfInBounds_toArray] | simp only [List.set_cons_succ] | simp only [List.set_cons_zero])
      refine wpAnyH_ready (rs := [22]) (by kernel_rfl) (by simp) ?_
      refine consL (i := 22) rfl (fun K hK => ?_) AllReadyH.nil
      go_simp
      refine (implItemsValid_any _ _ _ _ _ RB1.out).mono ?_; rintro e wc ⟨rfl, lc⟩
      rw [HWQ.out]
      (try go_wp2_with fail)
      have SWc := SWb.trans lc
      clear lc
      refine hK.out _ _ SWc (fun _ => ?_)
      clear hK K
      repeat (first | simp only [Act.put] | simp only [List.setIfInBounds_toArray] | simp only [List.set_cons_succ] | simp only [List.set_cons_zero])
      refine wpAnyH_takeL (i := 23) (v := ?_) rfl (by kernel_rfl) (by kernel_rfl) (by kernel_rfl) (fun _ _ _ h => h) (Or.inl ⟨by rfl, ?_⟩) (by assumption) ?_
      rotate_left
      · (intro w' hSw; (try dsimp only at hSw); go_simp; all_goals with_reducible rfl)
      repeat (first | simp only [Act.put] | simp only [List.setIfInBounds_toArray] | simp only [List.set_cons_succ] | simp only [List.set_cons_zero])
      refine wpAnyH_takeL (i := 24) (v := ?_) rfl (by kernel_rfl) (by kernel_rfl) (by kernel_rfl) (fun _ _ _ h => h) (Or.inl ⟨by rfl, ?_⟩) (by assumption) ?_
      rotate_left
      · (intro w' hSw; (try dsimp only at hSw); go_simp; all_goals with_reducible rfl)
      repeat (first | simp only [Act.put] | simp only [List.setIfInBounds_toArray] | simp only [List.set_cons_succ] | simp only [List.set_cons_zero])
      refine wpAnyH_takeL (i := 25) (v := ?_) rfl (by kernel_rfl) (by kernel_rfl) (by kernel_rfl) (fun _ _ _ h => h) (Or.inl ⟨by rfl, ?_⟩) (by assumption) ?_
      rotate_left
      · (intro w' hSw; (try dsimp only at hSw); go_simp; all_goals with_reducible rfl)
      repeat (first | simp only [Act.put] | simp only [List.setIfInBounds_toArray] | simp only [List.set_cons_succ] | simp only [List.set_cons_zero])
      refine wpAnyH_ready (rs := [26]) (by kernel_rfl) (by simp) ?_
      refine consL (i := 26) rfl (fun K hK => ?_) AllReadyH.nil
      go_simp
      refine (implItemsValid_any _ _ _ _ _ (RM.nil _)).mono ?_; rintro e wd ⟨rfl, ld⟩
      rw [items_nil]
      (try go_wp2_with fail)
      have SWd := SWc.trans ld
      clear ld
      refine hK.out _ _ SWd (fun _ => ?_)
      clear hK K
      repeat (first | simp only [Act.put] | simp only [List.setIfInBounds_toArray] | simp only [List.set_cons_succ] | simp only [List.set_cons_zero])
      refine wpAnyH_takeL (i := 27) (v := ?_) rfl (by kernel_rfl) (by kernel_rfl) (by kernel_rfl) (fun _ _ _ h => h) (Or.inl ⟨by rfl, ?_⟩) (by assumption) ?_
      rotate_left
      · (intro w' hSw; (try dsimp only at hSw); go_simp; all_goals with_reducible rfl)
      repeat (first | simp only [Act.put] | simp only [List.setIfInBounds_toArray] | simp only [List.set_cons_succ] | simp only [List.set_cons_zero])
      refine wpAnyH_takeL (i := 28) (v := ?_) rfl (by kernel_rfl) (by kernel_rfl) (by kernel_rfl) (fun _ _ _ h => h) (Or.inl ⟨by rfl, ?_⟩) (by assumption) ?_
      rotate_left
      · (intro w' hSw; (try dsimp only at hSw); go_simp; all_goals with_reducible rfl)
      repeat (first | simp only [Act.put] | simp only [List.setIfInBounds_toArray] | simp only [List.set_cons_succ] | simp only [List.set_cons_zero])
      refine wpAnyH_ready (rs := [29]) (by kernel_rfl) (by simp) ?_
      refine consL (i := 29) rfl (fun K hK => ?_) AllReadyH.nil
      go_simp
      refine (alive_any _).mono ?_; rintro e we ⟨rfl, le⟩
      (try go_wp2_with fail)
      have SWe := SWd.trans le
      clear le
      refine hK.out _ _ SWe (fun _ => ?_)
      clear hK K
      repeat (first | simp only [Act.put] | simp only [List.setIfInBounds_toArray] | simp only [List.set_cons_succ] | simp only [List.set_cons_zero])
      refine wpAnyH_takeL (i := 30) (v := ?_) rfl (by kernel_rfl) (by kernel_rfl) (by kernel_rfl) (fun _ _ _ h => h) (Or.inl ⟨by rfl, ?_⟩) (by assumption) ?_
      rotate_left
      · (intro w' hSw; (try dsimp only at hSw); go_simp; all_goals with_reducible rfl)
      repeat (first | simp only [Act.put] | simp only [List.setIfInBounds_toArray] | simp only [List.set_cons_succ] | simp only [List.set_cons_zero])
      refine wpAnyH_takeL (i := 31) (v := ?_) rfl (by kernel_rfl) (by kernel_rfl) (by kernel_rfl) (fun _ _ _ h => h) (Or.inl ⟨by rfl, ?_⟩) (by assumption) ?_
      rotate_left
      · (intro w' hSw; (try dsimp only at hSw); go_simp; all_goals with_reducible rfl)
      repeat (first | simp only [Act.put] | simp only [List.setIfInBounds_toArray] | simp only [List.set_cons_succ] | simp only [List.set_cons_zero])
      refine wpAnyH_done (by kernel_rfl) ?_ _
      go_wp2
      go_ret
      exact ⟨rfl, L1.out.trans (LZ.out.trans SWe)⟩
    · by_cases hk0 : k = 0
      · have hk0' : ((k : Int) == 0) = true := by rw [hk0]; rfl
        clear hk0
        go_wp2_with fail
        have lz := ((Le.refl w3).alloc (.cells #[.int .i64 (k : Int), .int .i64 1] 37)).alloc (.cells #[.int .i64 1, .slice (some ⟨w3.heap.size, 0, none⟩) 1 1, .int .i64 0] 26)
        have kp := (Blk.new w3 37 #[.int .i64 (k : Int), .int .i64 1]).alloc (.cells #[.int .i64 1, .slice (some ⟨w3.heap.size, 0, none⟩) 1 1, .int .i64 0] 26)
        have ki := Blk.new (w3.alloc (.cells #[.int .i64 (k : Int), .int .i64 1] 37)) 26 #[.int .i64 1, .slice (some ⟨w3.heap.size, 0, none⟩) 1 1, .int .i64 0]
        simp only [World.size_alloc] at ki
        obtain ⟨wz, hwz⟩ : ∃ wz, (w3.alloc (.cells #[.int .i64 (k : Int), .int .i64 1] 37)).alloc (.cells #[.int .i64 1, .slice (some ⟨w3.heap.size, 0, none⟩) 1 1, .int .i64 0] 26) = wz := ⟨_, rfl⟩
        rw [hwz] at lz kp ki
        rw [hwz]
        obtain ⟨q, hq⟩ : ∃ q, w3.heap.size = q := ⟨_, rfl⟩
        rw [hq] at kp ki
        rw [hq]
        have hrp : RP wz (some ⟨q, 0, none⟩) 1 [((k : Int), 1)] := ⟨rfl, by omega, fun j hj => by
          obtain rfl : j = 0 := by omega
          exact ⟨_, rfl, by rw [addr0]; exact kp.cell 0, by rw [addr0]; exact kp.cell 1⟩⟩
        have ic0 := ki.cell 0
        have ic1 := ki.cell 1
        have ic2 := ki.cell 2
        simp at ic0 ic1 ic2
        have LZ := Lib.hid (L3.out.trans lz)
        have HRP := Lib.hid hrp
        obtain ⟨xs, ox, hxl, hx1, hx⟩ := (D1.out.le LZ.out).cells
        have OX := Lib.hid ox
        have HX := Lib.hid hx
        have HXL := Lib.hid hxl
        have HX1 := Lib.hid hx1
        have hqz : q + 1 < wz.heap.size := ki.lt
        have HWQ := Lib.hid (show itemsL (ts ++ [(1, [((k : Int), 1)], 0)]) = false from by have := items_wrong ts; rwa [HK.out] at this)
        clear kp ki hrp ox hx hxl hx1 lz hwz hq
        have SW : Le wz wz.drew := (Le.refl wz).drew
        refine wp_region_held_drew (S := fun w' => Le wz w') (by kernel_rfl) SW (fun _ => ?_)
        obtain ⟨wd0, hwd0⟩ : ∃ wd0, wz.drew = wd0 := ⟨_, rfl⟩
        rw [hwd0] at SW
        rw [hwd0]
        clear hwd0
        refine wpAnyH_takeL (i := 0) (v := ?_) rfl (by kernel_rfl) (by kernel_rfl) (by kernel_rfl) (fun _ _ _ h => h) (Or.inl ⟨by rfl, ?_⟩) (by assumption) ?_
        rotate_left
        · (intro w' hSw; (try dsimp only at hSw); go_simp; all_goals with_reducible rfl)
        repeat (first | simp only [Act.put] | simp only [List.setIfInBounds_toArray] | simp only [List.set_cons_succ] | simp only [List.set_cons_zero])
        refine wpAnyH_takeL (i := 1) (v := ?_) rfl (by kernel_rfl) (by kernel_rfl) (by kernel_rfl) (fun _ _ _ h => h) (Or.inl ⟨by rfl, ?_⟩) (by assumption) ?_
        rotate_left
        · (intro w' hSw; (try dsimp only at hSw); go_simp; all_goals with_reducible rfl)
        repeat (first | simp only [Act.put] | simp only [List.setIfInBounds_toArray] | simp only [List.set_cons_succ] | simp only [List.set_cons_zero])
        refine wpAnyH_takeL (i := 2) (v := ?_) rfl (by kernel_rfl) (by kernel_rfl) (by kernel_rfl) (fun _ _ _ h => h) (Or.inl ⟨by rfl, ?_⟩) (by assumption) ?_
        rotate_left
        · (intro w' hSw; (try dsimp only at hSw); go_simp; all_goals with_reducible rfl)
        repeat (first | simp only [Act.put] | simp only [List.setIfInBounds_toArray] | simp only [List.set_cons_succ] | simp only [List.set_cons_zero])
        refine wpAnyH_takeL (i := 3) (v := ?_) rfl (by kernel_rfl) (by kernel_rfl) (by kernel_rfl) (fun _ _ _ h => h) (Or.inl ⟨by rfl, ?_⟩) (by assumption) ?_
        rotate_left
        · (intro w' hSw; (try dsimp only at hSw); go_simp; all_goals with_reducible rfl)
        repeat (first | simp only [Act.put] | simp only [List.setIfInBounds_toArray] | simp only [List.set_cons_succ] | simp only [List.set_cons_zero])
        refine wpAnyH_takeL (i := 4) (v := ?_) rfl (by kernel_rfl) (by kernel_rfl) (by kernel_rfl) (fun _ _ _ h => h) (Or.inl ⟨by rfl, ?_⟩) (by assumption) ?_
        rotate_left
        · (intro w' hSw; (try dsimp only at hSw); go_simp; all_goals with_reducible rfl)
        repeat (first | simp only [Act.put] | simp only [List.setIfInBounds_toArray] | simp only [List.set_cons_succ] | simp only [List.set_cons_zero])
        refine wpAnyH_takeL (i := 5) (v := ?_) rfl (by kernel_rfl) (by kernel_rfl) (by kernel_rfl) (fun _ _ _ h => h) (Or.inl ⟨by rfl, ?_⟩) (by assumption) ?_
        rotate_left
        · (intro w' hSw; (try dsimp only at hSw); go_simp; all_goals with_reducible rfl)
        repeat (first | simp only [Act.put] | simp only [List.setIfInBounds_toArray] | simp only [List.set_cons_succ] | simp only [List.set_cons_zero])
        refine wpAnyH_takeL (i := 6) (v := ?_) rfl (by kernel_rfl) (by kernel_rfl) (by kernel_rfl) (fun _ _ _ h => h) (Or.inl ⟨by rfl, ?_⟩) (by assumption) ?_
        rotate_left
        · (intro w' hSw; (try dsimp only at hSw); go_simp; all_goals with_reducible rfl)
        repeat (first | simp only [Act.put] | simp only [List.setIfInBounds_toArray] | simp only [List.set_cons_succ] | simp only [List.set_cons_zero])
        refine wpAnyH_takeL (i := 7) (v := ?_) rfl (by kernel_rfl) (by kernel_rfl) (by kernel_rfl) (fun _ _ _ h => h) (Or.inl ⟨by rfl, ?_⟩) (by assumption) ?_
        rotate_left
        · (intro w' hSw; (try dsimp only at hSw); go_simp; all_goals with_reducible rfl)
        repeat (first | simp only [Act.put] | simp only [List.setIfInBounds_toArray] | simp only [List.set_cons_succ] | simp only [List.set_cons_zero])
        refine wpAnyH_takeL (i := 8) (v := undef) rfl (by kernel_rfl) (by kernel_rfl) (by kernel_rfl) (fun _ _ _ h => h) (Or.inr ⟨by rfl, rfl⟩) (by assumption) ?_
        repeat (first | simp only [Act.put] | simp only [List.setIfInBounds_toArray] | simp only [List.set_cons_succ] | simp only [List.set_cons_zero])
        refine wpAnyH_takeL (i := 9) (v := undef) rfl (by kernel_rfl) (by kernel_rfl) (by kernel_rfl) (fun _ _ _ h => h) (Or.inr ⟨by rfl, rfl⟩) (by assumption) ?_
        repeat (first | simp only [Act.put] | simp only [List.setIfInBounds_toArray] | simp only [List.set_cons_succ] | simp only [List.set_cons_zero])
        refine wpAnyH_takeL (i := 10) (v := undef) rfl (by kernel_rfl) (by kernel_rfl) (by kernel_rfl) (fun _ _ _ h => h) (Or.inr ⟨by rfl, rfl⟩) (by assumption) ?_
        repeat (first | simp only [Act.put] | simp only [List.setIfInBounds_toArray] | simp only [List.set_cons_succ] | simp only [List.set_cons_zero])
        refine wpAnyH_takeL (i := 11) (v := undef) rfl (by kernel_rfl) (by kernel_rfl) (by kernel_rfl) (fun _ _ _ h => h) (Or.inr ⟨by rfl, rfl⟩) (by assumption) ?_
        repeat (first | simp only [Act.put] | simp only [List.setIfInBounds_toArray] | simp only [List.set_cons_succ] | simp only [List.set_cons_zero])
        refine wpAnyH_takeL (i := 12) (v := undef) rfl (by kernel_rfl) (by kernel_rfl) (by kernel_rfl) (fun _ _ _ h => h) (Or.inr ⟨by rfl, rfl⟩) (by assumption) ?_
        repeat (first | simp only [Act.put] | simp only [List.setIfInBounds_toArray] | simp only [List.set_cons_succ] | simp only [List.set_cons_zero])
        refine wpAnyH_takeL (i := 13) (v := undef) rfl (by kernel_rfl) (by kernel_rfl) (by kernel_rfl) (fun _ _ _ h => h) (Or.inr ⟨by rfl, rfl⟩) (by assumption) ?_
        repeat (first | simp only [Act.put] | simp only [List.setIfInBounds_toArray] | simp only [List.set_cons_succ] | simp only [List.set_cons_zero])
        refine wpAnyH_takeL (i := 14) (v := ?_) rfl (by kernel_rfl) (by kernel_rfl) (by kernel_rfl) (fun _ _ _ h => h) (Or.inl ⟨by rfl, ?_⟩) (by assumption) ?_
        rotate_left
        · (intro w' hSw; (try dsimp only at hSw); go_simp; all_goals with_reducible rfl)
        repeat (first | simp only [Act.put] | simp only [List.setIfInBounds_toArray] | simp only [List.set_cons_succ] | simp only [List.set_cons_zero])
        refine wpAnyH_takeL (i := 15) (v := ?_) rfl (by kernel_rfl) (by kernel_rfl) (by kernel_rfl) (fun _ _ _ h => h) (Or.inl ⟨by rfl, ?_⟩) (by assumption) ?_
        rotate_left
        · (intro w' hSw; (try dsimp only at hSw); go_simp; all_goals with_reducible rfl)
        repeat (first | simp only [Act.put] | simp only [List.setIfInBounds_toArray] | simp only [List.set_cons_succ] | simp only [List.set_cons_zero])
        refine wpAnyH_takeL (i := 17) (v := ?_) rfl (by kernel_rfl) (by kernel_rfl) (by kernel_rfl) (fun _ _ _ h => h) (Or.inl ⟨by rfl, ?_⟩) (by assumption) ?_
        rotate_left
        · (intro w' hSw; (try dsimp only at hSw); go_simp; all_goals with_reducible rfl)
        repeat (first | simp only [Act.put] | simp only [List.setIfInBounds_toArray] | simp only [List.set_cons_succ] | simp only [List.set_cons_zero])
        refine wpAnyH_takeL (i := 19) (v := ?_) rfl (by kernel_rfl) (by kernel_rfl) (by kernel_rfl) (fun _ _ _ h => h) (Or.inl ⟨by rfl, ?_⟩) (by assumption) ?_
        rotate_left
        · (intro w' hSw; have cX0 := Le.cell hSw ic0; have cX1 := Le.cell hSw ic1; have cX2 := Le.cell hSw ic2; (try dsimp only at hSw); go_simp; all_goals with_reducible rfl)
        repeat (first | simp only [Act.put] | simp only [List.setIfInBounds_toArray] | simp only [List.set_cons_succ] | simp only [List.set_cons_zero])
        refine wpAnyH_ready (rs := [16, 20]) (by kernel_rfl) (by simp) ?_
        refine consL (i := 16) rfl (fun K hK => ?_) ?_
        · go_simp
          have s16 := SW.size
          have O16 := Lib.hid (own_mono (own_empty (wd0) 26 3) s16)
          have SW16 := SW.alloc (.cells #[] 26)
          refine hK.out _ _ SW16 (fun _ => ?_)
          clear hK K
          repeat (first | simp only [Act.put] | simp only [List.setIfInBounds_toArray] | simp only [List.set_cons_succ] | simp only [List.set_cons_zero])
          refine wpAnyH_ready (rs := [18, 20]) (by kernel_rfl) (by simp) ?_
          refine consL (i := 18) rfl (fun K hK => ?_) ?_
          · refine step_append_g (by rfl) (some 40) (by rfl) _ _ 33 (by rfl) wz.heap.size 26 i0 _ 3 40 Tryd.underlying33 hi0 hz0 hz1 hz2 rfl (by decide) _ 0 [] (by rfl) O16.out ⟨gv, 0, none⟩ k cap xs (by rfl) HXL.out (fun j u hj => (own_Le OX.out SW16).cells (g := gv) rfl j u hj) HX1.out (by unfold maxLen; omega) (by omega) (by have := SW16.size; omega) ?_
            intro va wa oa ga _
            have SWa : Le wz wa := SW16.grown ga (fun g' hg' => (O16.out.lt g' hg').1)
            have OA := Lib.hid oa
            clear oa ga
            refine hK.out _ _ SWa (fun _ => ?_)
            clear hK K
            repeat (first | simp only [Act.put] | simp only [List.setIfInBounds_toArray] | simp only [List.set_cons_succ] | simp only [List.set_cons_zero])
            refine wpAnyH_ready (rs := [20]) (by kernel_rfl) (by simp) ?_
            refine consL (i := 20) rfl (fun K hK => ?_) AllReadyH.nil
            go_simp
            have SWq := SWa.alloc (.cells #[.int .i64 1, .slice (some ⟨q, 0, none⟩) 1 1, .int .i64 0] 26)
            have KQ := Lib.hid (Blk.new wa 26 #[.int .i64 1, .slice (some ⟨q, 0, none⟩) 1 1, .int .i64 0])
            have OQ := Lib.hid (OA.out.alloc (.cells #[.int .i64 1, .slice (some ⟨q, 0, none⟩) 1 1, .int .i64 0] 26))
            refine hK.out _ _ SWq (fun _ => ?_)
            clear hK K
            repeat (first | simp only [Act.put] | simp only [List.setIfInBounds_toArray] | simp only [List.set_cons_succ] | simp only [List.set_cons_zero])
            refine wpAnyH_ready (rs := [21]) (by kernel_rfl) (by simp) ?_
            refine consL (i := 21) rfl (fun K hK => ?_) AllReadyH.nil
            refine step_append_g (by rfl) (some 43) (by rfl) _ _ 33 (by rfl) wz.heap.size 26 i0 _ 3 40 Tryd.underlying33 hi0 hz0 hz1 hz2 rfl (by decide) va (0 + k) ([] ++ xs) (by rfl) OQ.out ⟨wa.heap.size, 0, none⟩ 1 1 [.int .i64 1, .slice (some ⟨q, 0, none⟩) 1 1, .int .i64 0] (by rfl) rfl (fun j u hj => by
              rw [addr0, KQ.out.cell j]
              match j, hj with
              | 0, hj => exact hj
              | 1, hj => exact hj
              | 2, hj => exact hj
              | j + 3, hj => simp at hj) (fun u hu => by simp at hu; rcases hu with rfl | rfl | rfl <;> rfl) (by unfold maxLen; omega) (by omega) (by have := SWq.size; omega) ?_
            intro vb wb ob gb _
            have SWb : Le wz wb := SWq.grown gb (fun g' hg' => (OQ.out.lt g' hg').1)
            rw [List.nil_append, Nat.zero_add] at ob
            obtain ⟨Ab, cb, rfl, rb⟩ := RM.of_row ob (ts := ts ++ [(1, [((k : Int), 1)], 0)]) (by rw [List.length_append, HK.out]; rfl) (by omega) (RM.snoc_cells HK.out HXL.out (fun j hj => by obtain ⟨B, m, c', h1, h2, h3, r⟩ := HX.out j hj; exact ⟨B, m, c', h1, h2, h3, r.le SWb⟩) (HRP.out.le SWb))
            have RB1 := Lib.hid rb
            clear ob gb rb
            refine hK.out _ _ SWb (fun _ => ?_)
            clear hK K
            repeat (first | simp only [Act.put] | simp only [List.setIfInBounds_toArray] | simp only [List.set_cons_succ] | simp only [List.set_cons_zero])
            refine wpAnyH_ready (rs := [22]) (by kernel_rfl) (by simp) ?_
            refine consL (i := 22) rfl (fun K hK => ?_) AllReadyH.nil
            go_simp
            refine (implItemsValid_any _ _ _ _ _ RB1.out).mono ?_; rintro e wc ⟨rfl, lc⟩
            rw [HWQ.out]
            (try go_wp2_with fail)
            have SWc := SWb.trans lc
            clear lc
            refine hK.out _ _ SWc (fun _ => ?_)
            clear hK K
            repeat (first | simp only [Act.put] | simp only [List.setIfInBounds_toArray] | simp only [List.set_cons_succ] | simp only [List.set_cons_zero])
            refine wpAnyH_takeL (i := 23) (v := ?_) rfl (by kernel_rfl) (by kernel_rfl) (by kernel_rfl) (fun _ _ _ h => h) (Or.inl ⟨by rfl, ?_⟩) (by assumption) ?_
            rotate_left
            · (intro w' hSw; (try dsimp only at hSw); go_simp; all_goals with_reducible rfl)
            repeat (first | simp only [Act.put] | simp only [List.setIfInBounds_toArray] | simp only [List.set_cons_succ] | simp only [List.set_cons_zero])
            refine wpAnyH_takeL (i := 24) (v := ?_) rfl (by kernel_rfl) (by kernel_rfl) (by kernel_rfl) (fun _ _ _ h => h) (Or.inl ⟨by rfl, ?_⟩) (by assumption) ?_
            rotate_left
            · (intro w' hSw; (try dsimp only at hSw); go_simp; all_goals with_reducible rfl)
            repeat (first | simp only [Act.put] | simp only [List.setIfInBounds_toArray] | simp only [List.set_cons_succ] | simp only [List.set_cons_zero])
            refine wpAnyH_takeL (i := 25) (v := ?_) rfl (by kernel_rfl) (by kernel_rfl) (by kernel_rfl) (fun _ _ _ h => h) (Or.inl ⟨by rfl, ?_⟩) (by assumption) ?_
            rotate_left
            · (intro w' hSw; (try dsimp only at hSw); go_simp; all_goals with_reducible rfl)
            repeat (first | simp only [Act.put] | simp only [List.setIfInBounds_toArray] | simp only [List.set_cons_succ] | simp only [List.set_cons_zero])
            refine wpAnyH_ready (rs := [26]) (by kernel_rfl) (by simp) ?_
            refine consL (i := 26) rfl (fun K hK => ?_) AllReadyH.nil
            go_simp
            refine (implItemsValid_any _ _ _ _ _ (RM.nil _)).mono ?_; rintro e wd ⟨rfl, ld⟩
            rw [items_nil]
            (try go_wp2_with fail)
            have SWd := SWc.trans ld
            clear ld
            refine hK.out _ _ SWd (fun _ => ?_)
            clear hK K
            repeat (first | simp only [Act.put] | simp only [List.setIfInBounds_toArray] | simp only [List.set_cons_succ] | simp only [List.set_cons_zero])
            refine wpAnyH_takeL (i := 27) (v := ?_) rfl (by kernel_rfl) (by kernel_rfl) (by kernel_rfl) (fun _ _ _ h => h) (Or.inl ⟨by rfl, ?_⟩) (by assumption) ?_
            rotate_left
            · (intro w' hSw; (try dsimp only at hSw); go_simp; all_goals with_reducible rfl)
            repeat (first | simp only [Act.put] | simp only [List.setIfInBounds_toArray] | simp only [List.set_cons_succ] | simp only [List.set_cons_zero])
            refine wpAnyH_takeL (i := 28) (v := ?_) rfl (by kernel_rfl) (by kernel_rfl) (by kernel_rfl) (fun _ _ _ h => h) (Or.inl ⟨by rfl, ?_⟩) (by assumption) ?_
            rotate_left
            · (intro w' hSw; (try dsimp only at hSw); go_simp; all_goals with_reducible rfl)
            repeat (first | simp only [Act.put] | simp only [List.setIfInBounds_toArray] | simp only [List.set_cons_succ] | simp only [List.set_cons_zero])
            refine wpAnyH_ready (rs := [29]) (by kernel_rfl) (by simp) ?_
            refine consL (i := 29) rfl (fun K hK => ?_) AllReadyH.nil
            go_simp
            refine (alive_any _).mono ?_; rintro e we ⟨rfl, le⟩
            (try go_wp2_with fail)
            have SWe := SWd.trans le
            clear le
            refine hK.out _ _ SWe (fun _ => ?_)
            clear hK K
            repeat (first | simp only [Act.put] | simp only [List.setIfInBounds_toArray] | simp only [List.set_cons_succ] | simp only [List.set_cons_zero])
            refine wpAnyH_takeL (i := 30) (v := ?_) rfl (by kernel_rfl) (by kernel_rfl) (by kernel_rfl) (fun _ _ _ h => h) (Or.inl ⟨by rfl, ?_⟩) (by assumption) ?_
            rotate_left
            · (intro w' hSw; (try dsimp only at hSw); go_simp; all_goals with_reducible rfl)
            repeat (first | simp only [Act.put] | simp only [List.setIfInBounds_toArray] | simp only [List.set_cons_succ] | simp only [List.set_cons_zero])
            refine wpAnyH_takeL (i := 31) (v := ?_) rfl (by kernel_rfl) (by kernel_rfl) (by kernel_rfl) (fun _ _ _ h => h) (Or.inl ⟨by rfl, ?_⟩) (by assumption) ?_
            rotate_left
            · (intro w' hSw; (try dsimp only at hSw); go_simp; all_goals with_reducible rfl)
            repeat (first | simp only [Act.put] | simp only [List.setIfInBounds_toArray] | simp only [List.set_cons_succ] | simp only [List.set_cons_zero])
            refine wpAnyH_done (by kernel_rfl) ?_ _
            go_wp2
            go_ret
            exact ⟨rfl, L1.out.trans (LZ.out.trans SWe)⟩
          refine consL (i := 20) rfl (fun K hK => ?_) AllReadyH.nil
          go_simp
          have SW20 := SW16.alloc (.cells #[.int .i64 1, .slice (some ⟨q, 0, none⟩) 1 1, .int .i64 0] 26)
          have K20 := Lib.hid (Blk.new ((wd0).alloc (.cells #[] 26)) 26 #[.int .i64 1, .slice (some ⟨q, 0, none⟩) 1 1, .int .i64 0])
          have O20 := Lib.hid (O16.out.alloc (.cells #[.int .i64 1, .slice (some ⟨q, 0, none⟩) 1 1, .int .i64 0] 26))
          refine hK.out _ _ SW20 (fun _ => ?_)
          clear hK K
          repeat (first | simp only [Act.put] | simp only [List.setIfInBounds_toArray] | simp only [List.set_cons_succ] | simp only [List.set_cons_zero])
          refine wpAnyH_ready (rs := [18]) (by kernel_rfl) (by simp) ?_
          refine consL (i := 18) rfl (fun K hK => ?_) AllReadyH.nil
          refine step_append_g (by rfl) (some 40) (by rfl) _ _ 33 (by rfl) wz.heap.size 26 i0 _ 3 40 Tryd.underlying33 hi0 hz0 hz1 hz2 rfl (by decide) _ 0 [] (by rfl) O20.out ⟨gv, 0, none⟩ k cap xs (by rfl) HXL.out (fun j u hj => (own_Le OX.out SW20).cells (g := gv) rfl j u hj) HX1.out (by unfold maxLen; omega) (by omega) (by have := SW20.size; omega) ?_
          intro va wa oa ga _
          have SWq : Le wz wa := SW20.grown ga (fun g' hg' => (O20.out.lt g' hg').1)
          have KQ := Lib.hid (K20.out.grown ga (fun e => by have e2 := Option.some.inj e; simp at e2))
          have OQ := Lib.hid oa
          clear oa ga
          simp only [World.size_alloc] at KQ
          refine hK.out _ _ SWq (fun _ => ?_)
          clear hK K
          repeat (first | simp only [Act.put] | simp only [List.setIfInBounds_toArray] | simp only [List.set_cons_succ] | simp only [List.set_cons_zero])
          refine wpAnyH_ready (rs := [21]) (by kernel_rfl) (by simp) ?_
          refine consL (i := 21) rfl (fun K hK => ?_) AllReadyH.nil
          refine step_append_g (by rfl) (some 43) (by rfl) _ _ 33 (by rfl) wz.heap.size 26 i0 _ 3 40 Tryd.underlying33 hi0 hz0 hz1 hz2 rfl (by decide) va (0 + k) ([] ++ xs) (by rfl) OQ.out ⟨(wd0.heap.size + 1), 0, none⟩ 1 1 [.int .i64 1, .slice (some ⟨q, 0, none⟩) 1 1, .int .i64 0] (by rfl) rfl (fun j u hj => by
            rw [addr0, KQ.out.cell j]
            match j, hj with
            | 0, hj => exact hj
            | 1, hj => exact hj
            | 2, hj => exact hj
            | j + 3, hj => simp at hj) (fun u hu => by simp at hu; rcases hu with rfl | rfl | rfl <;> rfl) (by unfold maxLen; omega) (by omega) (by have := SWq.size; omega) ?_
          intro vb wb ob gb _
          have SWb : Le wz wb := SWq.grown gb (fun g' hg' => (OQ.out.lt g' hg').1)
          rw [List.nil_append, Nat.zero_add] at ob
          obtain ⟨Ab, cb, rfl, rb⟩ := RM.of_row ob (ts := ts ++ [(1, [((k : Int), 1)], 0)]) (by rw [List.length_append, HK.out]; rfl) (by omega) (RM.snoc_cells HK.out HXL.out (fun j hj => by obtain ⟨B, m, c', h1, h2, h3, r⟩ := HX.out j hj; exact ⟨B, m, c', h1, h2, h3, r.le SWb⟩) (HRP.out.le SWb))
          have RB1 := Lib.hid rb
          clear ob gb rb
          refine hK.out _ _ SWb (fun _ => ?_)
          clear hK K
          repeat (first | simp only [Act.put] | simp only [List.setIfInBounds_toArray] | simp only [List.set_cons_succ] | simp only [List.set_cons_zero])
          refine wpAnyH_ready (rs := [22]) (by kernel_rfl) (by simp) ?_
          refine consL (i := 22) rfl (fun K hK => ?_) AllReadyH.nil
          go_simp
          refine (implItemsValid_any _ _ _ _ _ RB1.out).mono ?_; rintro e wc ⟨rfl, lc⟩
          rw [HWQ.out]
          (try go_wp2_with fail)
          have SWc := SWb.trans lc
          clear lc
          refine hK.out _ _ SWc (fun _ => ?_)
          clear hK K
          repeat (first | simp only [Act.put] | simp only [List.setIfInBounds_toArray] | simp only [List.set_cons_succ] | simp only [List.set_cons_zero])
          refine wpAnyH_takeL (i := 23) (v := ?_) rfl (by kernel_rfl) (by kernel_rfl) (by kernel_rfl) (fun _ _ _ h => h) (Or.inl ⟨by rfl, ?_⟩) (by assumption) ?_
          rotate_left
          · (intro w' hSw; (try dsimp only at hSw); go_simp; all_goals with_reducible rfl)
          repeat (first | simp only [Act.put] | simp only [List.setIfInBounds_toArray] | simp only [List.set_cons_succ] | simp only [List.set_cons_zero])
          refine wpAnyH_takeL (i := 24) (v := ?_) rfl (by kernel_rfl) (by kernel_rfl) (by kernel_rfl) (fun _ _ _ h => h) (Or.inl ⟨by rfl, ?_⟩) (by assumption) ?_
          rotate_left
          · (intro w' hSw; (try dsimp only at hSw); go_simp; all_goals with_reducible rfl)
          repeat (first | simp only [Act.put] | simp only [List.setIfInBounds_toArray] | simp only [List.set_cons_succ] | simp only [List.set_cons_zero])
          refine wpAnyH_takeL (i := 25) (v := ?_) rfl (by kernel_rfl) (by kernel_rfl) (by kernel_rfl) (fun _ _ _ h => h) (Or.inl ⟨by rfl, ?_⟩) (by assumption) ?_
          rotate_left
          · (intro w' hSw; (try dsimp only at hSw); go_simp; all_goals with_reducible rfl)
          repeat (first | simp only [Act.put] | simp only [List.setIfInBounds_toArray] | simp only [List.set_cons_succ] | simp only [List.set_cons_zero])
          refine wpAnyH_ready (rs := [26]) (by kernel_rfl) (by simp) ?_
          refine consL (i := 26) rfl (fun K hK => ?_) AllReadyH.nil
          go_simp
          refine (implItemsValid_any _ _ _ _ _ (RM.nil _)).mono ?_; rintro e wd ⟨rfl, ld⟩
          rw [items_nil]
          (try go_wp2_with fail)
          have SWd := SWc.trans ld
          clear ld
          refine hK.out _ _ SWd (fun _ => ?_)
          clear hK K
          repeat (first | simp only [Act.put] | simp only [List.setIfInBounds_toArray] | simp only [List.set_cons_succ] | simp only [List.set_cons_zero])
          refine wpAnyH_takeL (i := 27) (v := ?_) rfl (by kernel_rfl) (by kernel_rfl) (by kernel_rfl) (fun _ _ _ h => h) (Or.inl ⟨by rfl, ?_⟩) (by assumption) ?_
          rotate_left
          · (intro w' hSw; (try dsimp only at hSw); go_simp; all_goals with_reducible rfl)
          repeat (first | simp only [Act.put] | simp only [List.setIfInBounds_toArray] | simp only [List.set_cons_succ] | simp only [List.set_cons_zero])
          refine wpAnyH_takeL (i := 28) (v := ?_) rfl (by kernel_rfl) (by kernel_rfl) (by kernel_rfl) (fun _ _ _ h => h) (Or.inl ⟨by rfl, ?_⟩) (by assumption) ?_
          rotate_left
          · (intro w' hSw; (try dsimp only at hSw); go_simp; all_goals with_reducible rfl)
          repeat (first | simp only [Act.put] | simp only [List.setIfInBounds_toArray] | simp only [List.set_cons_succ] | simp only [List.set_cons_zero])
          refine wpAnyH_ready (rs := [29]) (by kernel_rfl) (by simp) ?_
          refine consL (i := 29) rfl (fun K hK => ?_) AllReadyH.nil
          go_simp
          refine (alive_any _).mono ?_; rintro e we ⟨rfl, le⟩
          (try go_wp2_with fail)
          have SWe := SWd.trans le
          clear le
          refine hK.out _ _ SWe (fun _ => ?_)
          clear hK K
          repeat (first | simp only [Act.put] | simp only [List.setIfInBounds_toArray] | simp only [List.set_cons_succ] | simp only [List.set_cons_zero])
          refine wpAnyH_takeL (i := 30) (v := ?_) rfl (by kernel_rfl) (by kernel_rfl) (by kernel_rfl) (fun _ _ _ h => h) (Or.inl ⟨by rfl, ?_⟩) (by assumption) ?_
          rotate_left
          · (intro w' hSw; (try dsimp only at hSw); go_simp; all_goals with_reducible rfl)
          repeat (first | simp only [Act.put] | simp only [List.setIfInBounds_toArray] | simp only [List.set_cons_succ] | simp only [List.set_cons_zero])
          refine wpAnyH_takeL (i := 31) (v := ?_) rfl (by kernel_rfl) (by kernel_rfl) (by kernel_rfl) (fun _ _ _ h => h) (Or.inl ⟨by rfl, ?_⟩) (by assumption) ?_
          rotate_left
          · (intro w' hSw; (try dsimp only at hSw); go_simp; all_goals with_reducible rfl)
          repeat (first | simp only [Act.put] | simp only [List.setIfInBounds_toArray] | simp only [List.set_cons_succ] | simp only [List.set_cons_zero])
          refine wpAnyH_done (by kernel_rfl) ?_ _
          go_wp2
          go_ret
          exact ⟨rfl, L1.out.trans (LZ.out.trans SWe)⟩
        refine consL (i := 20) rfl (fun K hK => ?_) AllReadyH.nil
        go_simp
        have SW20 := SW.alloc (.cells #[.int .i64 1, .slice (some ⟨q, 0, none⟩) 1 1, .int .i64 0] 26)
        have K20 := Lib.hid (Blk.new (wd0) 26 #[.int .i64 1, .slice (some ⟨q, 0, none⟩) 1 1, .int .i64 0])
        have s20 := SW20.size
        have o16 := own_mono (own_empty ((wd0).alloc (.cells #[.int .i64 1, .slice (some ⟨q, 0, none⟩) 1 1, .int .i64 0] 26)) 26 3) s20
        simp only [World.size_alloc] at o16
        have O16 := Lib.hid o16
        clear o16
        have SW16 := SW20.alloc (.cells #[] 26)
        refine hK.out _ _ SW20 (fun _ => ?_)
        clear hK K
        repeat (first | simp only [Act.put] | simp only [List.setIfInBounds_toArray] | simp only [List.set_cons_succ] | simp only [List.set_cons_zero])
        refine wpAnyH_ready (rs := [16]) (by kernel_rfl) (by simp) ?_
        refine consL (i := 16) rfl (fun K hK => ?_) AllReadyH.nil
        go_simp
        refine hK.out _ _ SW16 (fun _ => ?_)
        clear hK K
        repeat (first | simp only [Act.put] | simp only [List.setIfInBounds_toArray] | simp only [List.set_cons_succ] | simp only [List.set_cons_zero])
        refine wpAnyH_ready (rs := [18]) (by kernel_rfl) (by simp) ?_
        refine consL (i := 18) rfl (fun K hK => ?_) AllReadyH.nil
        refine step_append_g (by rfl) (some 40) (by rfl) _ _ 33 (by rfl) wz.heap.size 26 i0 _ 3 40 Tryd.underlying33 hi0 hz0 hz1 hz2 rfl (by decide) _ 0 [] (by rfl) O16.out ⟨gv, 0, none⟩ k cap xs (by rfl) HXL.out (fun j u hj => (own_Le OX.out SW16).cells (g := gv) rfl j u hj) HX1.out (by unfold maxLen; omega) (by omega) (by have := SW16.size; omega) ?_
        intro va wa oa ga _
        have SWq : Le wz wa := SW16.grown ga (fun g' hg' => (O16.out.lt g' hg').1)
        have KQ := Lib.hid (((K20.out.alloc (.cells #[] 26))).grown ga (fun e => by have e2 := Option.some.inj e; simp at e2))
        have OQ := Lib.hid oa
        clear oa ga
        refine hK.out _ _ SWq (fun _ => ?_)
        clear hK K
        repeat (first | simp only [Act.put] | simp only [List.setIfInBounds_toArray] | simp only [List.set_cons_succ] | simp only [List.set_cons_zero])
        refine wpAnyH_ready (rs := [21]) (by kernel_rfl) (by simp) ?_
        refine consL (i := 21) rfl (fun K hK => ?_) AllReadyH.nil
        refine step_append_g (by rfl) (some 43) (by rfl) _ _ 33 (by rfl) wz.heap.size 26 i0 _ 3 40 Tryd.underlying33 hi0 hz0 hz1 hz2 rfl (by decide) va (0 + k) ([] ++ xs) (by rfl) OQ.out ⟨wd0.heap.size, 0, none⟩ 1 1 [.int .i64 1, .slice (some ⟨q, 0, none⟩) 1 1, .int .i64 0] (by rfl) rfl (fun j u hj => by
          rw [addr0, KQ.out.cell j]
          match j, hj with
          | 0, hj => exact hj
          | 1, hj => exact hj
          | 2, hj => exact hj
          | j + 3, hj => simp at hj) (fun u hu => by simp at hu; rcases hu with rfl | rfl | rfl <;> rfl) (by unfold maxLen; omega) (by omega) (by have := SWq.size; omega) ?_
        intro vb wb ob gb _
        have SWb : Le wz wb := SWq.grown gb (fun g' hg' => (OQ.out.lt g' hg').1)
        rw [List.nil_append, Nat.zero_add] at ob
        obtain ⟨Ab, cb, rfl, rb⟩ := RM.of_row ob (ts := ts ++ [(1, [((k : Int), 1)], 0)]) (by rw [List.length_append, HK.out]; rfl) (by omega) (RM.snoc_cells HK.out HXL.out (fun j hj => by obtain ⟨B, m, c', h1, h2, h3, r⟩ := HX.out j hj; exact ⟨B, m, c', h1, h2, h3, r.le SWb⟩) (HRP.out.le SWb))
        have RB1 := Lib.hid rb
        clear ob gb rb
        refine hK.out _ _ SWb (fun _ => ?_)
        clear hK K
        repeat (first | simp only [Act.put] | simp only [List.setIfInBounds_toArray] | simp only [List.set_cons_succ] | simp only [List.set_cons_zero])
        refine wpAnyH_ready (rs := [22]) (by kernel_rfl) (by simp) ?_
        refine consL (i := 22) rfl (fun K hK => ?_) AllReadyH.nil
        go_simp
        refine (implItemsValid_any _ _ _ _ _ RB1.out).mono ?_; rintro e wc ⟨rfl, lc⟩
        rw [HWQ.out]
        (try go_wp2_with fail)
        have SWc := SWb.trans lc
        clear lc
        refine hK.out _ _ SWc (fun _ => ?_)
        clear hK K
        repeat (first | simp only [Act.put] | simp only [List.setIfInBounds_toArray] | simp only [List.set_cons_succ] | simp only [List.set_cons_zero])
        refine wpAnyH_takeL (i := 23) (v := ?_) rfl (by kernel_rfl) (by kernel_rfl) (by kernel_rfl) (fun _ _ _ h => h) (Or.inl ⟨by rfl, ?_⟩) (by assumption) ?_
        rotate_left
        · (intro w' hSw; (try dsimp only at hSw); go_simp; all_goals with_reducible rfl)
        repeat (first | simp only [Act.put] | simp only [List.setIfInBounds_toArray] | simp only [List.set_cons_succ] | simp only [List.set_cons_zero])
        refine wpAnyH_takeL (i := 24) (v := ?_) rfl (by kernel_rfl) (by kernel_rfl) (by kernel_rfl) (fun _ _ _ h => h) (Or.inl ⟨by rfl, ?_⟩) (by assumption) ?_
        rotate_left
        · (intro w' hSw; (try dsimp only at hSw); go_simp; all_goals with_reducible rfl)
        repeat (first | simp only [Act.put] | simp only [List.setIfInBounds_toArray] | simp only [List.set_cons_succ] | simp only [List.set_cons_zero])
        refine wpAnyH_takeL (i := 25) (v := ?_) rfl (by kernel_rfl) (by kernel_rfl) (by kernel_rfl) (fun _ _ _ h => h) (Or.inl ⟨by rfl, ?_⟩) (by assumption) ?_
        rotate_left
        · (intro w' hSw; (try dsimp only at hSw); go_simp; all_goals with_reducible rfl)
        repeat (first | simp only [Act.put] | simp only [List.setIfInBounds_toArray] | simp only [List.set_cons_succ] | simp only [List.set_cons_zero])
        refine wpAnyH_ready (rs := [26]) (by kernel_rfl) (by simp) ?_
        refine consL (i := 26) rfl (fun K hK => ?_) AllReadyH.nil
        go_simp
        refine (implItemsValid_any _ _ _ _ _ (RM.nil _)).mono ?_; rintro e wd ⟨rfl, ld⟩
        rw [items_nil]
        (try go_wp2_with fail)
        have SWd := SWc.trans ld
        clear ld
        refine hK.out _ _ SWd (fun _ => ?_)
        clear hK K
        repeat (first | simp only [Act.put] | simp only [List.setIfInBounds_toArray] | simp only [List.set_cons_succ] | simp only [List.set_cons_zero])
        refine wpAnyH_takeL (i := 27) (v := ?_) rfl (by kernel_rfl) (by kernel_rfl) (by kernel_rfl) (fun _ _ _ h => h) (Or.inl ⟨by rfl, ?_⟩) (by assumption) ?_
        rotate_left
        · (intro w' hSw; (try dsimp only at hSw); go_simp; all_goals with_reducible rfl)
        repeat (first | simp only [Act.put] | simp only [List.setIfInBounds_toArray] | simp only [List.set_cons_succ] | simp only [List.set_cons_zero])
        refine wpAnyH_takeL (i := 28) (v := ?_) rfl (by kernel_rfl) (by kernel_rfl) (by kernel_rfl) (fun _ _ _ h => h) (Or.inl ⟨by rfl, ?_⟩) (by assumption) ?_
        rotate_left
        · (intro w' hSw; (try dsimp only at hSw); go_simp; all_goals with_reducible rfl)
        repeat (first | simp only [Act.put] | simp only [List.setIfInBounds_toArray] | simp only [List.set_cons_succ] | simp only [List.set_cons_zero])
        refine wpAnyH_ready (rs := [29]) (by kernel_rfl) (by simp) ?_
        refine consL (i := 29) rfl (fun K hK => ?_) AllReadyH.nil
        go_simp
        refine (alive_any _).mono ?_; rintro e we ⟨rfl, le⟩
        (try go_wp2_with fail)
        have SWe := SWd.trans le
        clear le
        refine hK.out _ _ SWe (fun _ => ?_)
        clear hK K
        repeat (first | simp only [Act.put] | simp only [List.setIfInBounds_toArray] | simp only [List.set_cons_succ] | simp only [List.set_cons_zero])
        refine wpAnyH_takeL (i := 30) (v := ?_) rfl (by kernel_rfl) (by kernel_rfl) (by kernel_rfl) (fun _ _ _ h => h) (Or.inl ⟨by rfl, ?_⟩) (by assumption) ?_
        rotate_left
        · (intro w' hSw; (try dsimp only at hSw); go_simp; all_goals with_reducible rfl)
        repeat (first | simp only [Act.put] | simp only [List.setIfInBounds_toArray] | simp only [List.set_cons_succ] | simp only [List.set_cons_zero])
        refine wpAnyH_takeL (i := 31) (v := ?_) rfl (by kernel_rfl) (by kernel_rfl) (by kernel_rfl) (fun _ _ _ h => h) (Or.inl ⟨by rfl, ?_⟩) (by assumption) ?_
        rotate_left
        · (intro w' hSw; (try dsimp only at hSw); go_simp; all_goals with_reducible rfl)
        repeat (first | simp only [Act.put] | simp only [List.setIfInBounds_toArray] | simp only [List.set_cons_succ] | simp only [List.set_cons_zero])
        refine wpAnyH_done (by kernel_rfl) ?_ _
        go_wp2
        go_ret
        exact ⟨rfl, L1.out.trans (LZ.out.trans SWe)⟩
      · have hk0' : ((k : Int) == 0) = false := by rw [beq_eq_false_iff_ne]; omega
        obtain ⟨j1, hj1, hjk⟩ : ∃ j : Nat, IntKind.i64.wrap ((k : Int) - 1) = (j : Int) ∧ j ≤ k := ⟨k - 1, by rw [IntWalk.i64_in _ (by omega)]; omega, by omega⟩
        have hj2 : (0 : Int) ≤ (j1 : Int) := by omega
        have hj3 : (j1 : Int) ≤ (cap : Int) := by omega
        go_wp2_with fail
        have lz := ((Le.refl w3).alloc (.cells #[.int .i64 (k : Int), .int .i64 1] 37)).alloc (.cells #[.int .i64 1, .slice (some ⟨w3.heap.size, 0, none⟩) 1 1, .int .i64 0] 26)
        have kp := (Blk.new w3 37 #[.int .i64 (k : Int), .int .i64 1]).alloc (.cells #[.int .i64 1, .slice (some ⟨w3.heap.size, 0, none⟩) 1 1, .int .i64 0] 26)
        have ki := Blk.new (w3.alloc (.cells #[.int .i64 (k : Int), .int .i64 1] 37)) 26 #[.int .i64 1, .slice (some ⟨w3.heap.size, 0, none⟩) 1 1, .int .i64 0]
        simp only [World.size_alloc] at ki
        obtain ⟨wz, hwz⟩ : ∃ wz, (w3.alloc (.cells #[.int .i64 (k : Int), .int .i64 1] 37)).alloc (.cells #[.int .i64 1, .slice (some ⟨w3.heap.size, 0, none⟩) 1 1, .int .i64 0] 26) = wz := ⟨_, rfl⟩
        rw [hwz] at lz kp ki
        rw [hwz]
        obtain ⟨q, hq⟩ : ∃ q, w3.heap.size = q := ⟨_, rfl⟩
        rw [hq] at kp ki
        rw [hq]
        have hrp : RP wz (some ⟨q, 0, none⟩) 1 [((k : Int), 1)] := ⟨rfl, by omega, fun j hj => by
          obtain rfl : j = 0 := by omega
          exact ⟨_, rfl, by rw [addr0]; exact kp.cell 0, by rw [addr0]; exact kp.cell 1⟩⟩
        have ic0 := ki.cell 0
        have ic1 := ki.cell 1
        have ic2 := ki.cell 2
        simp at ic0 ic1 ic2
        have LZ := Lib.hid (L3.out.trans lz)
        have HRP := Lib.hid hrp
        obtain ⟨xs, ox, hxl, hx1, hx⟩ := (D1.out.le LZ.out).cells
        have OX := Lib.hid ox
        have HX := Lib.hid hx
        have HXL := Lib.hid hxl
        have HX1 := Lib.hid hx1
        have hqz : q + 1 < wz.heap.size := ki.lt
        have HWQ := Lib.hid (show itemsL (ts ++ [(1, [((k : Int), 1)], 0)]) = false from by have := items_wrong ts; rwa [HK.out] at this)
        clear kp ki hrp ox hx hxl hx1 lz hwz hq
        have SW : Le wz wz.drew := (Le.refl wz).drew
        refine wp_region_held_drew (S := fun w' => Le wz w') (by kernel_rfl) SW (fun _ => ?_)
        obtain ⟨wd0, hwd0⟩ : ∃ wd0, wz.drew = wd0 := ⟨_, rfl⟩
        rw [hwd0] at SW
        rw [hwd0]
        clear hwd0
        refine wpAnyH_takeL (i := 0) (v := ?_) rfl (by kernel_rfl) (by kernel_rfl) (by kernel_rfl) (fun _ _ _ h => h) (Or.inl ⟨by rfl, ?_⟩) (by assumption) ?_
        rotate_left
        · (intro w' hSw; (try dsimp only at hSw); go_simp; all_goals with_reducible rfl)
        repeat (first | simp only [Act.put] | simp only [List.setIfInBounds_toArray] | simp only [List.set_cons_succ] | simp only [List.set_cons_zero])
        refine wpAnyH_takeL (i := 1) (v := ?_) rfl (by kernel_rfl) (by kernel_rfl) (by kernel_rfl) (fun _ _ _ h => h) (Or.inl ⟨by rfl, ?_⟩) (by assumption) ?_
        rotate_left
        · (intro w' hSw; (try dsimp only at hSw); go_simp; all_goals with_reducible rfl)
        repeat (first | simp only [Act.put] | simp only [List.setIfInBounds_toArray] | simp only [List.set_cons_succ] | simp only [List.set_cons_zero])
        refine wpAnyH_takeL (i := 2) (v := ?_) rfl (by kernel_rfl) (by kernel_rfl) (by kernel_rfl) (fun _ _ _ h => h) (Or.inl ⟨by rfl, ?_⟩) (by assumption) ?_
        rotate_left
        · (intro w' hSw; (try dsimp only at hSw); go_simp; all_goals with_reducible rfl)
        repeat (first | simp only [Act.put] | simp only [List.setIfInBounds_toArray] | simp only [List.set_cons_succ] | simp only [List.set_cons_zero])
        refine wpAnyH_takeL (i := 3) (v := ?_) rfl (by kernel_rfl) (by kernel_rfl) (by kernel_rfl) (fun _ _ _ h => h) (Or.inl ⟨by rfl, ?_⟩) (by assumption) ?_
        rotate_left
        · (intro w' hSw; (try dsimp only at hSw); go_simp; all_goals with_reducible rfl)
        repeat (first | simp only [Act.put] | simp only [List.setIfInBounds_toArray] | simp only [List.set_cons_succ] | simp only [List.set_cons_zero])
        refine wpAnyH_takeL (i := 4) (v := ?_) rfl (by kernel_rfl) (by kernel_rfl) (by kernel_rfl) (fun _ _ _ h => h) (Or.inl ⟨by rfl, ?_⟩) (by assumption) ?_
        rotate_left
        · (intro w' hSw; (try dsimp only at hSw); go_simp; all_goals with_reducible rfl)
        repeat (first | simp only [Act.put] | simp only [List.setIfInBounds_toArray] | simp only [List.set_cons_succ] | simp only [List.set_cons_zero])
        refine wpAnyH_takeL (i := 5) (v := ?_) rfl (by kernel_rfl) (by kernel_rfl) (by kernel_rfl) (fun _ _ _ h => h) (Or.inl ⟨by rfl, ?_⟩) (by assumption) ?_
        rotate_left
        · (intro w' hSw; (try dsimp only at hSw); go_simp; all_goals with_reducible rfl)
        repeat (first | simp only [Act.put] | simp only [List.setIfInBounds_toArray] | simp only [List.set_cons_succ] | simp only [List.set_cons_zero])
        refine wpAnyH_takeL (i := 6) (v := ?_) rfl (by kernel_rfl) (by kernel_rfl) (by kernel_rfl) (fun _ _ _ h => h) (Or.inl ⟨by rfl, ?_⟩) (by assumption) ?_
        rotate_left
        · (intro w' hSw; (try dsimp only at hSw); go_simp; all_goals with_reducible rfl)
        repeat (first | simp only [Act.put] | simp only [List.setIfInBounds_toArray] | simp only [List.set_cons_succ] | simp only [List.set_cons_zero])
        refine wpAnyH_takeL (i := 7) (v := ?_) rfl (by kernel_rfl) (by kernel_rfl) (by kernel_rfl) (fun _ _ _ h => h) (Or.inl ⟨by rfl, ?_⟩) (by assumption) ?_
        rotate_left
        · (intro w' hSw; (try dsimp only at hSw); go_simp; all_goals with_reducible rfl)
        repeat (first | simp only [Act.put] | simp only [List.setIfInBounds_toArray] | simp only [List.set_cons_succ] | simp only [List.set_cons_zero])
        refine wpAnyH_takeL (i := 8) (v := ?_) rfl (by kernel_rfl) (by kernel_rfl) (by kernel_rfl) (fun _ _ _ h => h) (Or.inl ⟨by rfl, ?_⟩) (by assumption) ?_
        rotate_left
        · (intro w' hSw; (try dsimp only at hSw); go_simp; all_goals with_reducible rfl)
        repeat (first | simp only [Act.put] | simp only [List.setIfInBounds_toArray] | simp only [List.set_cons_succ] | simp only [List.set_cons_zero])
        refine wpAnyH_takeL (i := 9) (v := ?_) rfl (by kernel_rfl) (by kernel_rfl) (by kernel_rfl) (fun _ _ _ h => h) (Or.inl ⟨by rfl, ?_⟩) (by assumption) ?_
        rotate_left
        · (intro w' hSw; (try dsimp only at hSw); go_simp; all_goals with_reducible rfl)
        repeat (first | simp only [Act.put] | simp only [List.setIfInBounds_toArray] | simp only [List.set_cons_succ] | simp only [List.set_cons_zero])
        refine wpAnyH_takeL (i := 10) (v := ?_) rfl (by kernel_rfl) (by kernel_rfl) (by kernel_rfl) (fun _ _ _ h => h) (Or.inl ⟨by rfl, ?_⟩) (by assumption) ?_
        rotate_left
        · (intro w' hSw; (try dsimp only at hSw); go_simp; all_goals with_reducible rfl)
        repeat (first | simp only [Act.put] | simp only [List.setIfInBounds_toArray] | simp only [List.set_cons_succ] | simp only [List.set_cons_zero])
        refine wpAnyH_takeL (i := 11) (v := ?_) rfl (by kernel_rfl) (by kernel_rfl) (by kernel_rfl) (fun _ _ _ h => h) (Or.inl ⟨by rfl, ?_⟩) (by assumption) ?_
        rotate_left
        · (intro w' hSw; (try dsimp only at hSw); go_simp; all_goals with_reducible rfl)
        repeat (first | simp only [Act.put] | simp only [List.setIfInBounds_toArray] | simp only [List.set_cons_succ] | simp only [List.set_cons_zero])
        refine wpAnyH_takeL (i := 12) (v := ?_) rfl (by kernel_rfl) (by kernel_rfl) (by kernel_rfl) (fun _ _ _ h => h) (Or.inl ⟨by rfl, ?_⟩) (by assumption) ?_
        rotate_left
        · (intro w' hSw; (try dsimp only at hSw); go_simp; all_goals with_reducible rfl)
        repeat (first | simp only [Act.put] | simp only [List.setIfInBounds_toArray] | simp only [List.set_cons_succ] | simp only [List.set_cons_zero])
        refine wpAnyH_ready (rs := [13]) (by kernel_rfl) (by simp) ?_
        refine consL (i := 13) rfl (fun K hK => ?_) AllReadyH.nil
        go_simp
        refine (implItemsValid_any _ _ _ _ _ ((HR.out.le (LZ.out.trans SW)).take hjk)).mono ?_; rintro e wi ⟨rfl, li⟩
        rw [items_take HV.out]
        (try go_wp2_with fail)
        have SWi := SW.trans li
        clear li
        refine hK.out _ _ SWi (fun _ => ?_)
        clear hK K
        repeat (first | simp only [Act.put] | simp only [List.setIfInBounds_toArray] | simp only [List.set_cons_succ] | simp only [List.set_cons_zero])
        refine wpAnyH_takeL (i := 14) (v := ?_) rfl (by kernel_rfl) (by kernel_rfl) (by kernel_rfl) (fun _ _ _ h => h) (Or.inl ⟨by rfl, ?_⟩) (by assumption) ?_
        rotate_left
        · (intro w' hSw; (try dsimp only at hSw); go_simp; all_goals with_reducible rfl)
        repeat (first | simp only [Act.put] | simp only [List.setIfInBounds_toArray] | simp only [List.set_cons_succ] | simp only [List.set_cons_zero])
        refine wpAnyH_takeL (i := 15) (v := ?_) rfl (by kernel_rfl) (by kernel_rfl) (by kernel_rfl) (fun _ _ _ h => h) (Or.inl ⟨by rfl, ?_⟩) (by assumption) ?_
        rotate_left
        · (intro w' hSw; (try dsimp only at hSw); go_simp; all_goals with_reducible rfl)
        repeat (first | simp only [Act.put] | simp only [List.setIfInBounds_toArray] | simp only [List.set_cons_succ] | simp only [List.set_cons_zero])
        refine wpAnyH_takeL (i := 17) (v := ?_) rfl (by kernel_rfl) (by kernel_rfl) (by kernel_rfl) (fun _ _ _ h => h) (Or.inl ⟨by rfl, ?_⟩) (by assumption) ?_
        rotate_left
        · (intro w' hSw; (try dsimp only at hSw); go_simp; all_goals with_reducible rfl)
        repeat (first | simp only [Act.put] | simp only [List.setIfInBounds_toArray] | simp only [List.set_cons_succ] | simp only [List.set_cons_zero])
        refine wpAnyH_takeL (i := 19) (v := ?_) rfl (by kernel_rfl) (by kernel_rfl) (by kernel_rfl) (fun _ _ _ h => h) (Or.inl ⟨by rfl, ?_⟩) (by assumption) ?_
        rotate_left
        · (intro w' hSw; have cX0 := Le.cell hSw ic0; have cX1 := Le.cell hSw ic1; have cX2 := Le.cell hSw ic2; (try dsimp only at hSw); go_simp; all_goals with_reducible rfl)
        repeat (first | simp only [Act.put] | simp only [List.setIfInBounds_toArray] | simp only [List.set_cons_succ] | simp only [List.set_cons_zero])
        refine wpAnyH_ready (rs := [16, 20]) (by kernel_rfl) (by simp) ?_
        refine consL (i := 16) rfl (fun K hK => ?_) ?_
        · go_simp
          have s16 := SWi.size
          have O16 := Lib.hid (own_mono (own_empty (wi) 26 3) s16)
          have SW16 := SWi.alloc (.cells #[] 26)
          refine hK.out _ _ SW16 (fun _ => ?_)
          clear hK K
          repeat (first | simp only [Act.put] | simp only [List.setIfInBounds_toArray] | simp only [List.set_cons_succ] | simp only [List.set_cons_zero])
          refine wpAnyH_ready (rs := [18, 20]) (by kernel_rfl) (by simp) ?_
          refine consL (i := 18) rfl (fun K hK => ?_) ?_
          · refine step_append_g (by rfl) (some 40) (by rfl) _ _ 33 (by rfl) wz.heap.size 26 i0 _ 3 40 Tryd.underlying33 hi0 hz0 hz1 hz2 rfl (by decide) _ 0 [] (by rfl) O16.out ⟨gv, 0, none⟩ k cap xs (by rfl) HXL.out (fun j u hj => (own_Le OX.out SW16).cells (g := gv) rfl j u hj) HX1.out (by unfold maxLen; omega) (by omega) (by have := SW16.size; omega) ?_
            intro va wa oa ga _
            have SWa : Le wz wa := SW16.grown ga (fun g' hg' => (O16.out.lt g' hg').1)
            have OA := Lib.hid oa
            clear oa ga
            refine hK.out _ _ SWa (fun _ => ?_)
            clear hK K
            repeat (first | simp only [Act.put] | simp only [List.setIfInBounds_toArray] | simp only [List.set_cons_succ] | simp only [List.set_cons_zero])
            refine wpAnyH_ready (rs := [20]) (by kernel_rfl) (by simp) ?_
            refine consL (i := 20) rfl (fun K hK => ?_) AllReadyH.nil
            go_simp
            have SWq := SWa.alloc (.cells #[.int .i64 1, .slice (some ⟨q, 0, none⟩) 1 1, .int .i64 0] 26)
            have KQ := Lib.hid (Blk.new wa 26 #[.int .i64 1, .slice (some ⟨q, 0, none⟩) 1 1, .int .i64 0])
            have OQ := Lib.hid (OA.out.alloc (.cells #[.int .i64 1, .slice (some ⟨q, 0, none⟩) 1 1, .int .i64 0] 26))
            refine hK.out _ _ SWq (fun _ => ?_)
            clear hK K
            repeat (first | simp only [Act.put] | simp only [List.setIfInBounds_toArray] | simp only [List.set_cons_succ] | simp only [List.set_cons_zero])
            refine wpAnyH_ready (rs := [21]) (by kernel_rfl) (by simp) ?_
            refine consL (i := 21) rfl (fun K hK => ?_) AllReadyH.nil
            refine step_append_g (by rfl) (some 43) (by rfl) _ _ 33 (by rfl) wz.heap.size 26 i0 _ 3 40 Tryd.underlying33 hi0 hz0 hz1 hz2 rfl (by decide) va (0 + k) ([] ++ xs) (by rfl) OQ.out ⟨wa.heap.size, 0, none⟩ 1 1 [.int .i64 1, .slice (some ⟨q, 0, none⟩) 1 1, .int .i64 0] (by rfl) rfl (fun j u hj => by
              rw [addr0, KQ.out.cell j]
              match j, hj with
              | 0, hj => exact hj
              | 1, hj => exact hj
              | 2, hj => exact hj
              | j + 3, hj => simp at hj) (fun u hu => by simp at hu; rcases hu with rfl | rfl | rfl <;> rfl) (by unfold maxLen; omega) (by omega) (by have := SWq.size; omega) ?_
            intro vb wb ob gb _
            have SWb : Le wz wb := SWq.grown gb (fun g' hg' => (OQ.out.lt g' hg').1)
            rw [List.nil_append, Nat.zero_add] at ob
            obtain ⟨Ab, cb, rfl, rb⟩ := RM.of_row ob (ts := ts ++ [(1, [((k : Int), 1)], 0)]) (by rw [List.length_append, HK.out]; rfl) (by omega) (RM.snoc_cells HK.out HXL.out (fun j hj => by obtain ⟨B, m, c', h1, h2, h3, r⟩ := HX.out j hj; exact ⟨B, m, c', h1, h2, h3, r.le SWb⟩) (HRP.out.le SWb))
            have RB1 := Lib.hid rb
            clear ob gb rb
            refine hK.out _ _ SWb (fun _ => ?_)
            clear hK K
            repeat (first | simp only [Act.put] | simp only [List.setIfInBounds_toArray] | simp only [List.set_cons_succ] | simp only [List.set_cons_zero])
            refine wpAnyH_ready (rs := [22]) (by kernel_rfl) (by simp) ?_
            refine consL (i := 22) rfl (fun K hK => ?_) AllReadyH.nil
            go_simp
            refine (implItemsValid_any _ _ _ _ _ RB1.out).mono ?_; rintro e wc ⟨rfl, lc⟩
            rw [HWQ.out]
            (try go_wp2_with fail)
            have SWc := SWb.trans lc
            clear lc
            refine hK.out _ _ SWc (fun _ => ?_)
            clear hK K
            repeat (first | simp only [Act.put] | simp only [List.setIfInBounds_toArray] | simp only [List.set_cons_succ] | simp only [List.set_cons_zero])
            refine wpAnyH_takeL (i := 23) (v := ?_) rfl (by kernel_rfl) (by kernel_rfl) (by kernel_rfl) (fun _ _ _ h => h) (Or.inl ⟨by rfl, ?_⟩) (by assumption) ?_
            rotate_left
            · (intro w' hSw; (try dsimp only at hSw); go_simp; all_goals with_reducible rfl)
            repeat (first | simp only [Act.put] | simp only [List.setIfInBounds_toArray] | simp only [List.set_cons_succ] | simp only [List.set_cons_zero])
            refine wpAnyH_takeL (i := 24) (v := ?_) rfl (by kernel_rfl) (by kernel_rfl) (by kernel_rfl) (fun _ _ _ h => h) (Or.inl ⟨by rfl, ?_⟩) (by assumption) ?_
            rotate_left
            · (intro w' hSw; (try dsimp only at hSw); go_simp; all_goals with_reducible rfl)
            repeat (first | simp only [Act.put] | simp only [List.setIfInBounds_toArray] | simp only [List.set_cons_succ] | simp only [List.set_cons_zero])
            refine wpAnyH_takeL (i := 25) (v := ?_) rfl (by kernel_rfl) (by kernel_rfl) (by kernel_rfl) (fun _ _ _ h => h) (Or.inl ⟨by rfl, ?_⟩) (by assumption) ?_
            rotate_left
            · (intro w' hSw; (try dsimp only at hSw); go_simp; all_goals with_reducible rfl)
            repeat (first | simp only [Act.put] | simp only [List.setIfInBounds_toArray] | simp only [List.set_cons_succ] | simp only [List.set_cons_zero])
            refine wpAnyH_ready (rs := [26]) (by kernel_rfl) (by simp) ?_
            refine consL (i := 26) rfl (fun K hK => ?_) AllReadyH.nil
            go_simp
            refine (implItemsValid_any _ _ _ _ _ (RM.nil _)).mono ?_; rintro e wd ⟨rfl, ld⟩
            rw [items_nil]
            (try go_wp2_with fail)
            have SWd := SWc.trans ld
            clear ld
            refine hK.out _ _ SWd (fun _ => ?_)
            clear hK K
            repeat (first | simp only [Act.put] | simp only [List.setIfInBounds_toArray] | simp only [List.set_cons_succ] | simp only [List.set_cons_zero])
            refine wpAnyH_takeL (i := 27) (v := ?_) rfl (by kernel_rfl) (by kernel_rfl) (by kernel_rfl) (fun _ _ _ h => h) (Or.inl ⟨by rfl, ?_⟩) (by assumption) ?_
            rotate_left
            · (intro w' hSw; (try dsimp only at hSw); go_simp; all_goals with_reducible rfl)
            repeat (first | simp only [Act.put] | simp only [List.setIfInBounds_toArray] | simp only [List.set_cons_succ] | simp only [List.set_cons_zero])
            refine wpAnyH_takeL (i := 28) (v := ?_) rfl (by kernel_rfl) (by kernel_rfl) (by kernel_rfl) (fun _ _ _ h => h) (Or.inl ⟨by rfl, ?_⟩) (by assumption) ?_
            rotate_left
            · (intro w' hSw; (try dsimp only at hSw); go_simp; all_goals with_reducible rfl)
            repeat (first | simp only [Act.put] | simp only [List.setIfInBounds_toArray] | simp only [List.set_cons_succ] | simp only [List.set_cons_zero])
            refine wpAnyH_ready (rs := [29]) (by kernel_rfl) (by simp) ?_
            refine consL (i := 29) rfl (fun K hK => ?_) AllReadyH.nil
            go_simp
            refine (alive_any _).mono ?_; rintro e we ⟨rfl, le⟩
            (try go_wp2_with fail)
            have SWe := SWd.trans le
            clear le
            refine hK.out _ _ SWe (fun _ => ?_)
            clear hK K
            repeat (first | simp only [Act.put] | simp only [List.setIfInBounds_toArray] | simp only [List.set_cons_succ] | simp only [List.set_cons_zero])
            refine wpAnyH_takeL (i := 30) (v := ?_) rfl (by kernel_rfl) (by kernel_rfl) (by kernel_rfl) (fun _ _ _ h => h) (Or.inl ⟨by rfl, ?_⟩) (by assumption) ?_
            rotate_left
            · (intro w' hSw; (try dsimp only at hSw); go_simp; all_goals with_reducible rfl)
            repeat (first | simp only [Act.put] | simp only [List.setIfInBounds_toArray] | simp only [List.set_cons_succ] | simp only [List.set_cons_zero])
            refine wpAnyH_takeL (i := 31) (v := ?_) rfl (by kernel_rfl) (by kernel_rfl) (by kernel_rfl) (fun _ _ _ h => h) (Or.inl ⟨by rfl, ?_⟩) (by assumption) ?_
            rotate_left
            · (intro w' hSw; (try dsimp only at hSw); go_simp; all_goals with_reducible rfl)
            repeat (first | simp only [Act.put] | simp only [List.setIfInBounds_toArray] | simp only [List.set_cons_succ] | simp only [List.set_cons_zero])
            refine wpAnyH_done (by kernel_rfl) ?_ _
            go_wp2
            go_ret
            exact ⟨rfl, L1.out.trans (LZ.out.trans SWe)⟩
          refine consL (i := 20) rfl (fun K hK => ?_) AllReadyH.nil
          go_simp
          have SW20 := SW16.alloc (.cells #[.int .i64 1, .slice (some ⟨q, 0, none⟩) 1 1, .int .i64 0] 26)
          have K20 := Lib.hid (Blk.new ((wi).alloc (.cells #[] 26)) 26 #[.int .i64 1, .slice (some ⟨q, 0, none⟩) 1 1, .int .i64 0])
          have O20 := Lib.hid (O16.out.alloc (.cells #[.int .i64 1, .slice (some ⟨q, 0, none⟩) 1 1, .int .i64 0] 26))
          refine hK.out _ _ SW20 (fun _ => ?_)
          clear hK K
          repeat (first | simp only [Act.put] | simp only [List.setIfInBounds_toArray] | simp only [List.set_cons_succ] | simp only [List.set_cons_zero])
          refine wpAnyH_ready (rs := [18]) (by kernel_rfl) (by simp) ?_
          refine consL (i := 18) rfl (fun K hK => ?_) AllReadyH.nil
          refine step_append_g (by rfl) (some 40) (by rfl) _ _ 33 (by rfl) wz.heap.size 26 i0 _ 3 40 Tryd.underlying33 hi0 hz0 hz1 hz2 rfl (by decide) _ 0 [] (by rfl) O20.out ⟨gv, 0, none⟩ k cap xs (by rfl) HXL.out (fun j u hj => (own_Le OX.out SW20).cells (g := gv) rfl j u hj) HX1.out (by unfold maxLen; omega) (by omega) (by have := SW20.size; omega) ?_
          intro va wa oa ga _
          have SWq : Le wz wa := SW20.grown ga (fun g' hg' => (O20.out.lt g' hg').1)
          have KQ := Lib.hid (K20.out.grown ga (fun e => by have e2 := Option.some.inj e; simp at e2))
          have OQ := Lib.hid oa
          clear oa ga
          simp only [World.size_alloc] at KQ
          refine hK.out _ _ SWq (fun _ => ?_)
          clear hK K
          repeat (first | simp only [Act.put] | simp only [List.setIfInBounds_toArray] | simp only [List.set_cons_succ] | simp only [List.set_cons_zero])
          refine wpAnyH_ready (rs := [21]) (by kernel_rfl) (by simp) ?_
          refine consL (i := 21) rfl (fun K hK => ?_) AllReadyH.nil
          refine step_append_g (by rfl) (some 43) (by rfl) _ _ 33 (by rfl) wz.heap.size 26 i0 _ 3 40 Tryd.underlying33 hi0 hz0 hz1 hz2 rfl (by decide) va (0 + k) ([] ++ xs) (by rfl) OQ.out ⟨(wi.heap.size + 1), 0, none⟩ 1 1 [.int .i64 1, .slice (some ⟨q, 0, none⟩) 1 1, .int .i64 0] (by rfl) rfl (fun j u hj => by
            rw [addr0, KQ.out.cell j]
            match j, hj with
            | 0, hj => exact hj
            | 1, hj => exact hj
            | 2, hj => exact hj
            | j + 3, hj => simp at hj) (fun u hu => by simp at hu; rcases hu with rfl | rfl | rfl <;> rfl) (by unfold maxLen; omega) (by omega) (by have := SWq.size; omega) ?_
          intro vb wb ob gb _
          have SWb : Le wz wb := SWq.grown gb (fun g' hg' => (OQ.out.lt g' hg').1)
          rw [List.nil_append, Nat.zero_add] at ob
          obtain ⟨Ab, cb, rfl, rb⟩ := RM.of_row ob (ts := ts ++ [(1, [((k : Int), 1)], 0)]) (by rw [List.length_append, HK.out]; rfl) (by omega) (RM.snoc_cells HK.out HXL.out (fun j hj => by obtain ⟨B, m, c', h1, h2, h3, r⟩ := HX.out j hj; exact ⟨B, m, c', h1, h2, h3, r.le SWb⟩) (HRP.out.le SWb))
          have RB1 := Lib.hid rb
          clear ob gb rb
          refine hK.out _ _ SWb (fun _ => ?_)
          clear hK K
          repeat (first | simp only [Act.put] | simp only [List.setIfInBounds_toArray] | simp only [List.set_cons_succ] | simp only [List.set_cons_zero])
          refine wpAnyH_ready (rs := [22]) (by kernel_rfl) (by simp) ?_
          refine consL (i := 22) rfl (fun K hK => ?_) AllReadyH.nil
          go_simp
          refine (implItemsValid_any _ _ _ _ _ RB1.out).mono ?_; rintro e wc ⟨rfl, lc⟩
          rw [HWQ.out]
          (try go_wp2_with fail)
          have SWc := SWb.trans lc
          clear lc
          refine hK.out _ _ SWc (fun _ => ?_)
          clear hK K
          repeat (first | simp only [Act.put] | simp only [List.setIfInBounds_toArray] | simp only [List.set_cons_succ] | simp only [List.set_cons_zero])
          refine wpAnyH_takeL (i := 23) (v := ?_) rfl (by kernel_rfl) (by kernel_rfl) (by kernel_rfl) (fun _ _ _ h => h) (Or.inl ⟨by rfl, ?_⟩) (by assumption) ?_
          rotate_left
          · (intro w' hSw; (try dsimp only at hSw); go_simp; all_goals with_reducible rfl)
          repeat (first | simp only [Act.put] | simp only [List.setIfInBounds_toArray] | simp only [List.set_cons_succ] | simp only [List.set_cons_zero])
          refine wpAnyH_takeL (i := 24) (v := ?_) rfl (by kernel_rfl) (by kernel_rfl) (by kernel_rfl) (fun _ _ _ h => h) (Or.inl ⟨by rfl, ?_⟩) (by assumption) ?_
          rotate_left
          · (intro w' hSw; (try dsimp only at hSw); go_simp; all_goals with_reducible rfl)
          repeat (first | simp only [Act.put] | simp only [List.setIfInBounds_toArray] | simp only [List.set_cons_succ] | simp only [List.set_cons_zero])
          refine wpAnyH_takeL (i := 25) (v := ?_) rfl (by kernel_rfl) (by kernel_rfl) (by kernel_rfl) (fun _ _ _ h => h) (Or.inl ⟨by rfl, ?_⟩) (by assumption) ?_
          rotate_left
          · (intro w' hSw; (try dsimp only at hSw); go_simp; all_goals with_reducible rfl)
          repeat (first | simp only [Act.put] | simp only [List.setIfInBounds_toArray] | simp only [List.set_cons_succ] | simp only [List.set_cons_zero])
          refine wpAnyH_ready (rs := [26]) (by kernel_rfl) (by simp) ?_
          refine consL (i := 26) rfl (fun K hK => ?_) AllReadyH.nil
          go_simp
          refine (implItemsValid_any _ _ _ _ _ (RM.nil _)).mono ?_; rintro e wd ⟨rfl, ld⟩
          rw [items_nil]
          (try go_wp2_with fail)
          have SWd := SWc.trans ld
          clear ld
          refine hK.out _ _ SWd (fun _ => ?_)
          clear hK K
          repeat (first | simp only [Act.put] | simp only [List.setIfInBounds_toArray] | simp only [List.set_cons_succ] | simp only [List.set_cons_zero])
          refine wpAnyH_takeL (i := 27) (v := ?_) rfl (by kernel_rfl) (by kernel_rfl) (by kernel_rfl) (fun _ _ _ h => h) (Or.inl ⟨by rfl, ?_⟩) (by assumption) ?_
          rotate_left
          · (intro w' hSw; (try dsimp only at hSw); go_simp; all_goals with_reducible rfl)
          repeat (first | simp only [Act.put] | simp only [List.setIfInBounds_toArray] | simp only [List.set_cons_succ] | simp only [List.set_cons_zero])
          refine wpAnyH_takeL (i := 28) (v := ?_) rfl (by kernel_rfl) (by kernel_rfl) (by kernel_rfl) (fun _ _ _ h => h) (Or.inl ⟨by rfl, ?_⟩) (by assumption) ?_
          rotate_left
          · (intro w' hSw; (try dsimp only at hSw); go_simp; all_goals with_reducible rfl)
          repeat (first | simp only [Act.put] | simp only [List.setIfInBounds_toArray] | simp only [List.set_cons_succ] | simp only [List.set_cons_zero])
          refine wpAnyH_ready (rs := [29]) (by kernel_rfl) (by simp) ?_
          refine consL (i := 29) rfl (fun K hK => ?_) AllReadyH.nil
          go_simp
          refine (alive_any _).mono ?_; rintro e we ⟨rfl, le⟩
          (try go_wp2_with fail)
          have SWe := SWd.trans le
          clear le
          refine hK.out _ _ SWe (fun _ => ?_)
          clear hK K
          repeat (first | simp only [Act.put] | simp only [List.setIfInBounds_toArray] | simp only [List.set_cons_succ] | simp only [List.set_cons_zero])
          refine wpAnyH_takeL (i := 30) (v := ?_) rfl (by kernel_rfl) (by kernel_rfl) (by kernel_rfl) (fun _ _ _ h => h) (Or.inl ⟨by rfl, ?_⟩) (by assumption) ?_
          rotate_left
          · (intro w' hSw; (try dsimp only at hSw); go_simp; all_goals with_reducible rfl)
          repeat (first | simp only [Act.put] | simp only [List.setIfInBounds_toArray] | simp only [List.set_cons_succ] | simp only [List.set_cons_zero])
          refine wpAnyH_takeL (i := 31) (v := ?_) rfl (by kernel_rfl) (by kernel_rfl) (by kernel_rfl) (fun _ _ _ h => h) (Or.inl ⟨by rfl, ?_⟩) (by assumption) ?_
          rotate_left
          · (intro w' hSw; (try dsimp only at hSw); go_simp; all_goals with_reducible rfl)
          repeat (first | simp only [Act.put] | simp only [List.setIfInBounds_toArray] | simp only [List.set_cons_succ] | simp only [List.set_cons_zero])
          refine wpAnyH_done (by kernel_rfl) ?_ _
          go_wp2
          go_ret
          exact ⟨rfl, L1.out.trans (LZ.out.trans SWe)⟩
        refine consL (i := 20) rfl (fun K hK => ?_) AllReadyH.nil
        go_simp
        have SW20 := SWi.alloc (.cells #[.int .i64 1, .slice (some ⟨q, 0, none⟩) 1 1, .int .i64 0] 26)
        have K20 := Lib.hid (Blk.new (wi) 26 #[.int .i64 1, .slice (some ⟨q, 0, none⟩) 1 1, .int .i64 0])
        have s20 := SW20.size
        have o16 := own_mono (own_empty ((wi).alloc (.cells #[.int .i64 1, .slice (some ⟨q, 0, none⟩) 1 1, .int .i64 0] 26)) 26 3) s20
        simp only [World.size_alloc] at o16
        have O16 := Lib.hid o16
        clear o16
        have SW16 := SW20.alloc (.cells #[] 26)
        refine hK.out _ _ SW20 (fun _ => ?_)
        clear hK K
        repeat (first | simp only [Act.put] | simp only [List.setIfInBounds_toArray] | simp only [List.set_cons_succ] | simp only [List.set_cons_zero])
        refine wpAnyH_ready (rs := [16]) (by kernel_rfl) (by simp) ?_
        refine consL (i := 16) rfl (fun K hK => ?_) AllReadyH.nil
        go_simp
        refine hK.out _ _ SW16 (fun _ => ?_)
        clear hK K
        repeat (first | simp only [Act.put] | simp only [List.setIfInBounds_toArray] | simp only [List.set_cons_succ] | simp only [List.set_cons_zero])
        refine wpAnyH_ready (rs := [18]) (by kernel_rfl) (by simp) ?_
        refine consL (i := 18) rfl (fun K hK => ?_) AllReadyH.nil
        refine step_append_g (by rfl) (some 40) (by rfl) _ _ 33 (by rfl) wz.heap.size 26 i0 _ 3 40 Tryd.underlying33 hi0 hz0 hz1 hz2 rfl (by decide) _ 0 [] (by rfl) O16.out ⟨gv, 0, none⟩ k cap xs (by rfl) HXL.out (fun j u hj => (own_Le OX.out SW16).cells (g := gv) rfl j u hj) HX1.out (by unfold maxLen; omega) (by omega) (by have := SW16.size; omega) ?_
        intro va wa oa ga _
        have SWq : Le wz wa := SW16.grown ga (fun g' hg' => (O16.out.lt g' hg').1)
        have KQ := Lib.hid (((K20.out.alloc (.cells #[] 26))).grown ga (fun e => by have e2 := Option.some.inj e; simp at e2))
        have OQ := Lib.hid oa
        clear oa ga
        refine hK.out _ _ SWq (fun _ => ?_)
        clear hK K
        repeat (first | simp only [Act.put] | simp only [List.setIfInBounds_toArray] | simp only [List.set_cons_succ] | simp only [List.set_cons_zero])
        refine wpAnyH_ready (rs := [21]) (by kernel_rfl) (by simp) ?_
        refine consL (i := 21) rfl (fun K hK => ?_) AllReadyH.nil
        refine step_append_g (by rfl) (some 43) (by rfl) _ _ 33 (by rfl) wz.heap.size 26 i0 _ 3 40 Tryd.underlying33 hi0 hz0 hz1 hz2 rfl (by decide) va (0 + k) ([] ++ xs) (by rfl) OQ.out ⟨wi.heap.size, 0, none⟩ 1 1 [.int .i64 1, .slice (some ⟨q, 0, none⟩) 1 1, .int .i64 0] (by rfl) rfl (fun j u hj => by
          rw [addr0, KQ.out.cell j]
          match j, hj with
          | 0, hj => exact hj
          | 1, hj => exact hj
          | 2, hj => exact hj
          | j + 3, hj => simp at hj) (fun u hu => by simp at hu; rcases hu with rfl | rfl | rfl <;> rfl) (by unfold maxLen; omega) (by omega) (by have := SWq.size; omega) ?_
        intro vb wb ob gb _
        have SWb : Le wz wb := SWq.grown gb (fun g' hg' => (OQ.out.lt g' hg').1)
        rw [List.nil_append, Nat.zero_add] at ob
        obtain ⟨Ab, cb, rfl, rb⟩ := RM.of_row ob (ts := ts ++ [(1, [((k : Int), 1)], 0)]) (by rw [List.length_append, HK.out]; rfl) (by omega) (RM.snoc_cells HK.out HXL.out (fun j hj => by obtain ⟨B, m, c', h1, h2, h3, r⟩ := HX.out j hj; exact ⟨B, m, c', h1, h2, h3, r.le SWb⟩) (HRP.out.le SWb))
        have RB1 := Lib.hid rb
        clear ob gb rb
        refine hK.out _ _ SWb (fun _ => ?_)
        clear hK K
        repeat (first | simp only [Act.put] | simp only [List.setIfInBounds_toArray] | simp only [List.set_cons_succ] | simp only [List.set_cons_zero])
        refine wpAnyH_ready (rs := [22]) (by kernel_rfl) (by simp) ?_
        refine consL (i := 22) rfl (fun K hK => ?_) AllReadyH.nil
        go_simp
        refine (implItemsValid_any _ _ _ _ _ RB1.out).mono ?_; rintro e wc ⟨rfl, lc⟩
        rw [HWQ.out]
        (try go_wp2_with fail)
        have SWc := SWb.trans lc
        clear lc
        refine hK.out _ _ SWc (fun _ => ?_)
        clear hK K
        repeat (first | simp only [Act.put] | simp only [List.setIfInBounds_toArray] | simp only [List.set_cons_succ] | simp only [List.set_cons_zero])
        refine wpAnyH_takeL (i := 23) (v := ?_) rfl (by kernel_rfl) (by kernel_rfl) (by kernel_rfl) (fun _ _ _ h => h) (Or.inl ⟨by rfl, ?_⟩) (by assumption) ?_
        rotate_left
        · (intro w' hSw; (try dsimp only at hSw); go_simp; all_goals with_reducible rfl)
        repeat (first | simp only [Act.put] | simp only [List.setIfInBounds_toArray] | simp only [List.set_cons_succ] | simp only [List.set_cons_zero])
        refine wpAnyH_takeL (i := 24) (v := ?_) rfl (by kernel_rfl) (by kernel_rfl) (by kernel_rfl) (fun _ _ _ h => h) (Or.inl ⟨by rfl, ?_⟩) (by assumption) ?_
        rotate_left
        · (intro w' hSw; (try dsimp only at hSw); go_simp; all_goals with_reducible rfl)
        repeat (first | simp only [Act.put] | simp only [List.setIfInBounds_toArray] | simp only [List.set_cons_succ] | simp only [List.set_cons_zero])
        refine wpAnyH_takeL (i := 25) (v := ?_) rfl (by kernel_rfl) (by kernel_rfl) (by kernel_rfl) (fun _ _ _ h => h) (Or.inl ⟨by rfl, ?_⟩) (by assumption) ?_
        rotate_left
        · (intro w' hSw; (try dsimp only at hSw); go_simp; all_goals with_reducible rfl)
        repeat (first | simp only [Act.put] | simp only [List.setIfInBounds_toArray] | simp only [List.set_cons_succ] | simp only [List.set_cons_zero])
        refine wpAnyH_ready (rs := [26]) (by kernel_rfl) (by simp) ?_
        refine consL (i := 26) rfl (fun K hK => ?_) AllReadyH.nil
        go_simp
        refine (implItemsValid_any _ _ _ _ _ (RM.nil _)).mono ?_; rintro e wd ⟨rfl, ld⟩
        rw [items_nil]
        (try go_wp2_with fail)
        have SWd := SWc.trans ld
        clear ld
        refine hK.out _ _ SWd (fun _ => ?_)
        clear hK K
        repeat (first | simp only [Act.put] | simp only [List.setIfInBounds_toArray] | simp only [List.set_cons_succ] | simp only [List.set_cons_zero])
        refine wpAnyH_takeL (i := 27) (v := ?_) rfl (by kernel_rfl) (by kernel_rfl) (by kernel_rfl) (fun _ _ _ h => h) (Or.inl ⟨by rfl, ?_⟩) (by assumption) ?_
        rotate_left
        · (intro w' hSw; (try dsimp only at hSw); go_simp; all_goals with_reducible rfl)
        repeat (first | simp only [Act.put] | simp only [List.setIfInBounds_toArray] | simp only [List.set_cons_succ] | simp only [List.set_cons_zero])
        refine wpAnyH_takeL (i := 28) (v := ?_) rfl (by kernel_rfl) (by kernel_rfl) (by kernel_rfl) (fun _ _ _ h => h) (Or.inl ⟨by rfl, ?_⟩) (by assumption) ?_
        rotate_left
        · (intro w' hSw; (try dsimp only at hSw); go_simp; all_goals with_reducible rfl)
        repeat (first | simp only [Act.put] | simp only [List.setIfInBounds_toArray] | simp only [List.set_cons_succ] | simp only [List.set_cons_zero])
        refine wpAnyH_ready (rs := [29]) (by kernel_rfl) (by simp) ?_
        refine consL (i := 29) rfl (fun K hK => ?_) AllReadyH.nil
        go_simp
        refine (alive_any _).mono ?_; rintro e we ⟨rfl, le⟩
        (try go_wp2_with fail)
        have SWe := SWd.trans le
        clear le
        refine hK.out _ _ SWe (fun _ => ?_)
        clear hK K
        repeat (first | simp only [Act.put] | simp only [List.setIfInBounds_toArray] | simp only [List.set_cons_succ] | simp only [List.set_cons_zero])
        refine wpAnyH_takeL (i := 30) (v := ?_) rfl (by kernel_rfl) (by kernel_rfl) (by kernel_rfl) (fun _ _ _ h => h) (Or.inl ⟨by rfl, ?_⟩) (by assumption) ?_
        rotate_left
        · (intro w' hSw; (try dsimp only at hSw); go_simp; all_goals with_reducible rfl)
        repeat (first | simp only [Act.put] | simp only [List.setIfInBounds_toArray] | simp only [List.set_cons_succ] | simp only [List.set_cons_zero])
        refine wpAnyH_takeL (i := 31) (v := ?_) rfl (by kernel_rfl) (by kernel_rfl) (by kernel_rfl) (fun _ _ _ h => h) (Or.inl ⟨by rfl, ?_⟩) (by assumption) ?_
        rotate_left
        · (intro w' hSw; (try dsimp only at hSw); go_simp; all_goals with_reducible rfl)
        repeat (first | simp only [Act.put] | simp only [List.setIfInBounds_toArray] | simp only [List.set_cons_succ] | simp only [List.set_cons_zero])
        refine wpAnyH_done (by kernel_rfl) ?_ _
        go_wp2
        go_ret
        exact ⟨rfl, L1.out.trans (LZ.out.trans SWe)⟩
end Go.Proofs.YtbkjfgbafphopaaDoor
