/- Walk: ItemText of the reference. -/
import Derived.Test.YtoahjfofnaafaaaDoorWNum
import Derived.Deep.RegionHeld3
import Derived.Test.YtoahjfofnaafaaaDoorPReg
namespace Go.Proofs.YtoahjfofnaafaaaDoor
open Go.RowKit

set_option maxRecDepth 20000 in
set_option maxHeartbeats 4000000 in
theorem specItemText_any (y : Int) (A : Option Addr) (n c : Nat) (mk : Int) (ps : List (Int × Int)) (w : World) (h : RP w A n ps) :
    Calls Tryd.prog 18 #[.agg #[.int .i64 y, .slice A n c, .int .i64 mk]] w fun e w' => e = .returned (.string ⟨(itemT (y, ps, mk)).toArray⟩) ∧ Le w w' := by
  have l0 := (Le.refl w).alloc (.cells #[.int .i64 y, .slice A n c, .int .i64 mk] 26)
  have k0 := Blk.new w 26 #[.int .i64 y, .slice A n c, .int .i64 mk]
  obtain ⟨wz, hwz⟩ : ∃ wz, w.alloc (.cells #[.int .i64 y, .slice A n c, .int .i64 mk] 26) = wz := ⟨_, rfl⟩
  rw [hwz] at l0 k0
  have hv := specItem_any y A n c mk ps 5 wz (h.le l0) (by omega)
  obtain ⟨b, hbb⟩ : ∃ b, w.heap.size = b := ⟨_, rfl⟩
  rw [hbb] at k0
  have L0 := Lib.hid l0
  have K0 := Lib.hid k0
  have HV := Lib.hid hv
  have hl := h.len
  unfold itemT
  cases hb : itemL (y, ps, mk) 5
  · rw [show ((5 : Nat) : Int) = 5 from rfl, hb] at HV
    rw [if_neg (by decide)]
    have a0 := k0.cell 0
    have a1 := k0.cell 1
    have a2 := k0.cell 2
    simp at a0 a1 a2
    clear h hv l0 k0 hb
    go_enter Tryd.func18, Tryd.ntmps18
    go_wp2_with fail
    refine HV.out.mono ?_; rintro o w1 ⟨rfl, l1⟩
    go_wp2
    go_ret
    exact ⟨rfl, L0.out.trans l1⟩
  · rw [show ((5 : Nat) : Int) = 5 from rfl, hb] at HV
    rw [if_pos rfl]
    obtain ⟨⟨y0, y1⟩, n3, _, ⟨m0, m1⟩, hp⟩ := item_facts hb
    simp only at y0 y1 n3 m0 m1 hp
    obtain ⟨yn, rfl⟩ := Int.eq_ofNat_of_zero_le y0
    obtain ⟨mn, rfl⟩ := Int.eq_ofNat_of_zero_le m0
    have HP := Lib.hid hp
    have HR := Lib.hid h
    have a0 := k0.cell 0
    have a1 := k0.cell 1
    have a2 := k0.cell 2
    simp at a0 a1 a2
    have hm := h.max
    clear h hv l0 k0 hb hp
    go_enter Tryd.func18, Tryd.ntmps18
    go_wp2_with fail
    refine HV.out.mono ?_; rintro o w1 ⟨rfl, l1⟩
    have KZ := Lib.hid (fun w' (l : Le w1 w') => (K0.out.le l1).le l)
    have LW := Lib.hid (L0.out.trans l1)
    have b0 := (KZ.out _ (Le.refl _)).cell 0
    simp at b0
    clear a0 a1 a2 l1
    go_wp2_with fail
    refine (l1Number_any yn (by omega) _).mono ?_; rintro o w2 ⟨S1, rfl, hS1, hz1, l2⟩
    have HS1 := Lib.hid hS1
    have L2 := Lib.hid l2
    clear hS1 l2 b0
    have a1 := (KZ.out _ L2.out).cell 1
    simp at a1
    go_wp2
    clear a1
    go_loopw [3, 4] (fun v i wr => ∃ (k : Nat) (S : ByteArray), k ≤ n ∧ i = .int .i64 k ∧ v = .string S ∧ S = ⟨(numT (yn : Int) ++ [61] ++ partsT ps k).toArray⟩ ∧ S.size ≤ 3 + 6 * k ∧ Le w1 wr) (fun _ i _ => n - (intOf i).toNat)
    case atStart => exact ⟨0, _, Nat.zero_le _, rfl, rfl, by rw [HS1.out, show ({ data := #[61] } : ByteArray) = ⟨[61].toArray⟩ from rfl, ByteArray.mk_append_mk]; simp [partsT], by simp only [ByteArray.size_append', ByteArray.size_mk']; simp; omega, L2.out⟩
    case round =>
      obtain ⟨k, S, hk, rfl, rfl, hS, hz, hle⟩ := hrel
      have HS := Lib.hid hS
      have LE := Lib.hid hle
      have a1 := (KZ.out _ hle).cell 1
      simp at a1
      clear hS hle
      by_cases hlt : k < n
      · obtain ⟨ad, rfl, c1, c2⟩ := HR.out.at_ k hlt
        obtain ⟨⟨p1, p2⟩, ⟨p3, p4⟩, _⟩ := HP.out k (by omega)
        obtain ⟨P1, hP1⟩ := Int.eq_ofNat_of_zero_le p1
        obtain ⟨P2, hP2⟩ := Int.eq_ofNat_of_zero_le (show 0 ≤ (gp ps k).2 by omega)
        rw [hP1] at c1 p2
        rw [hP2] at c2 p3 p4
        have HPP := Lib.hid (And.intro hP1 hP2)
        have HC := Lib.hid (show ∀ w', Le w1 w' → w'.cell? ⟨b, 1, none⟩ = some (.slice (some ad) n c) ∧ w'.cell? (ad.add (k * 2)) = some (.int .i64 (P1 : Int)) ∧ w'.cell? ⟨(ad.add (k * 2)).block, (ad.add (k * 2)).off + 1, none⟩ = some (.int .i64 (P2 : Int)) from fun w' l => ⟨by simpa using (KZ.out _ l).cell 1, (LW.out.trans l).cell c1, (LW.out.trans l).cell c2⟩)
        clear c1 c2 hP1 hP2 p1
        have sz := HC.out _ LE.out
        obtain ⟨d0, d1, d2⟩ := sz
        by_cases hk0 : k = 0
        · have hk1 : decide (0 < k) = false := by simpa using hk0
          have hk2 : decide ((0 : Int) < (k : Int)) = false := by simp; omega
          have HZ := Lib.hid hk0
          clear hk0
          go_wp2
          have lr := LE.out.drew
          have hH : (fun w' : World => w'.cell? ⟨b, 1, none⟩ = some (.slice (some ad) n c) ∧ w'.cell? (ad.add (k * 2)) = some (.int .i64 (P1 : Int)) ∧ w'.cell? ⟨(ad.add (k * 2)).block, (ad.add (k * 2)).off + 1, none⟩ = some (.int .i64 (P2 : Int))) wr.drew := HC.out _ lr
          refine wp_region_held_drew (S := fun w' => w'.cell? ⟨b, 1, none⟩ = some (.slice (some ad) n c) ∧ w'.cell? (ad.add (k * 2)) = some (.int .i64 (P1 : Int)) ∧ w'.cell? ⟨(ad.add (k * 2)).block, (ad.add (k * 2)).off + 1, none⟩ = some (.int .i64 (P2 : Int))) (by kernel_rfl) hH (fun _ => ?_)
          obtain ⟨wd, hwd⟩ : ∃ wd, wr.drew = wd := ⟨_, rfl⟩
          rw [hwd] at lr hH
          rw [hwd]
          clear hwd
          refine wpAnyH_takeL (i := 0) (v := ?_) rfl (by kernel_rfl) (by kernel_rfl) (by kernel_rfl) (fun _ _ _ h => h) (Or.inl ⟨by rfl, ?_⟩) (by assumption) ?_
          rotate_left
          · (intro w' hSw; (try dsimp only at hSw); go_simp; all_goals with_reducible rfl)
          repeat (first | simp only [Act.put] | simp only [List.setIfInBounds_toArray] | simp only [List.set_cons_succ] | simp only [List.set_cons_zero])
          refine wpAnyH_takeL (i := 1) (v := ?_) rfl (by kernel_rfl) (by kernel_rfl) (by kernel_rfl) (fun _ _ _ h => h) (Or.inl ⟨by rfl, ?_⟩) (by assumption) ?_
          rotate_left
          · (intro w' hSw; (try dsimp only at hSw); go_simp; all_goals with_reducible rfl)
          repeat (first | simp only [Act.put] | simp only [List.setIfInBounds_toArray] | simp only [List.set_cons_succ] | simp only [List.set_cons_zero])
          refine wpAnyH_takeL (i := 2) (v := ?_) rfl (by kernel_rfl) (by kernel_rfl) (by kernel_rfl) (fun _ _ _ h => h) (Or.inl ⟨by rfl, ?_⟩) (by assumption) ?_
          rotate_left
          · (intro w' hSw; have cX0 := hSw.1; have cX1 := hSw.2.1; have cX2 := hSw.2.2; (try dsimp only at hSw); go_simp; all_goals with_reducible rfl)
          repeat (first | simp only [Act.put] | simp only [List.setIfInBounds_toArray] | simp only [List.set_cons_succ] | simp only [List.set_cons_zero])
          refine wpAnyH_takeL (i := 3) (v := ?_) rfl (by kernel_rfl) (by kernel_rfl) (by kernel_rfl) (fun _ _ _ h => h) (Or.inl ⟨by rfl, ?_⟩) (by assumption) ?_
          rotate_left
          · (intro w' hSw; (try dsimp only at hSw); go_simp; all_goals with_reducible rfl)
          repeat (first | simp only [Act.put] | simp only [List.setIfInBounds_toArray] | simp only [List.set_cons_succ] | simp only [List.set_cons_zero])
          refine wpAnyH_takeL (i := 4) (v := ?_) rfl (by kernel_rfl) (by kernel_rfl) (by kernel_rfl) (fun _ _ _ h => h) (Or.inl ⟨by rfl, ?_⟩) (by assumption) ?_
          rotate_left
          · (intro w' hSw; (try dsimp only at hSw); go_simp; all_goals with_reducible rfl)
          repeat (first | simp only [Act.put] | simp only [List.setIfInBounds_toArray] | simp only [List.set_cons_succ] | simp only [List.set_cons_zero])
          refine wpAnyH_takeL (i := 5) (v := ?_) rfl (by kernel_rfl) (by kernel_rfl) (by kernel_rfl) (fun _ _ _ h => h) (Or.inl ⟨by rfl, ?_⟩) (by assumption) ?_
          rotate_left
          · (intro w' hSw; (try dsimp only at hSw); go_simp; all_goals with_reducible rfl)
          repeat (first | simp only [Act.put] | simp only [List.setIfInBounds_toArray] | simp only [List.set_cons_succ] | simp only [List.set_cons_zero])
          refine wpAnyH_takeL (i := 6) (v := ?_) rfl (by kernel_rfl) (by kernel_rfl) (by kernel_rfl) (fun _ _ _ h => h) (Or.inl ⟨by rfl, ?_⟩) (by assumption) ?_
          rotate_left
          · (intro w' hSw; have cX0 := hSw.1; have cX1 := hSw.2.1; have cX2 := hSw.2.2; (try dsimp only at hSw); go_simp; all_goals with_reducible rfl)
          repeat (first | simp only [Act.put] | simp only [List.setIfInBounds_toArray] | simp only [List.set_cons_succ] | simp only [List.set_cons_zero])
          refine wpAnyH_takeL (i := 10) (v := ?_) rfl (by kernel_rfl) (by kernel_rfl) (by kernel_rfl) (fun _ _ _ h => h) (Or.inl ⟨by rfl, ?_⟩) (by assumption) ?_
          rotate_left
          · (intro w' hSw; (try dsimp only at hSw); go_simp; all_goals with_reducible rfl)
          repeat (first | simp only [Act.put] | simp only [List.setIfInBounds_toArray] | simp only [List.set_cons_succ] | simp only [List.set_cons_zero])
          refine wpAnyH_takeL (i := 11) (v := ?_) rfl (by kernel_rfl) (by kernel_rfl) (by kernel_rfl) (fun _ _ _ h => h) (Or.inl ⟨by rfl, ?_⟩) (by assumption) ?_
          rotate_left
          · (intro w' hSw; have cX0 := hSw.1; have cX1 := hSw.2.1; have cX2 := hSw.2.2; (try dsimp only at hSw); go_simp; all_goals with_reducible rfl)
          repeat (first | simp only [Act.put] | simp only [List.setIfInBounds_toArray] | simp only [List.set_cons_succ] | simp only [List.set_cons_zero])
          refine wpAnyH_takeL (i := 12) (v := ?_) rfl (by kernel_rfl) (by kernel_rfl) (by kernel_rfl) (fun _ _ _ h => h) (Or.inl ⟨by rfl, ?_⟩) (by assumption) ?_
          rotate_left
          · (intro w' hSw; (try dsimp only at hSw); go_simp; all_goals with_reducible rfl)
          repeat (first | simp only [Act.put] | simp only [List.setIfInBounds_toArray] | simp only [List.set_cons_succ] | simp only [List.set_cons_zero])
          refine wpAnyH_takeL (i := 13) (v := ?_) rfl (by kernel_rfl) (by kernel_rfl) (by kernel_rfl) (fun _ _ _ h => h) (Or.inl ⟨by rfl, ?_⟩) (by assumption) ?_
          rotate_left
          · (intro w' hSw; (try dsimp only at hSw); go_simp; all_goals with_reducible rfl)
          repeat (first | simp only [Act.put] | simp only [List.setIfInBounds_toArray] | simp only [List.set_cons_succ] | simp only [List.set_cons_zero])
          refine wpAnyH_takeL (i := 14) (v := ?_) rfl (by kernel_rfl) (by kernel_rfl) (by kernel_rfl) (fun _ _ _ h => h) (Or.inl ⟨by rfl, ?_⟩) (by assumption) ?_
          rotate_left
          · (intro w' hSw; (try dsimp only at hSw); go_simp; all_goals with_reducible rfl)
          repeat (first | simp only [Act.put] | simp only [List.setIfInBounds_toArray] | simp only [List.set_cons_succ] | simp only [List.set_cons_zero])
          refine wpAnyH_takeL (i := 15) (v := ?_) rfl (by kernel_rfl) (by kernel_rfl) (by kernel_rfl) (fun _ _ _ h => h) (Or.inl ⟨by rfl, ?_⟩) (by assumption) ?_
          rotate_left
          · (intro w' hSw; have cX0 := hSw.1; have cX1 := hSw.2.1; have cX2 := hSw.2.2; (try dsimp only at hSw); go_simp; all_goals with_reducible rfl)
          repeat (first | simp only [Act.put] | simp only [List.setIfInBounds_toArray] | simp only [List.set_cons_succ] | simp only [List.set_cons_zero])
          refine wpAnyH_ready (rs := [7]) (by kernel_rfl) (by simp) ?_
          refine consL (i := 7) rfl (fun K hK => ?_) AllReadyH.nil
          go_simp
          refine (l1Number_any P1 (by omega) _).mono ?_; rintro e w4 ⟨S4, rfl, hS4, hz4, l4⟩
          have hd4 : ¬ 9223372036854775807 < S.size + S4.size := by omega
          have hd5 : ¬ 9223372036854775807 < S.size + S4.size + 1 := by omega
          have HS4 := Lib.hid hS4
          clear hS4
          have hH4 := HC.out _ (lr.trans l4)
          refine hK.out _ _ hH4 (fun _ => ?_)
          clear hK K
          repeat (first | simp only [Act.put] | simp only [List.setIfInBounds_toArray] | simp only [List.set_cons_succ] | simp only [List.set_cons_zero])
          refine wpAnyH_takeL (i := 8) (v := ?_) rfl (by kernel_rfl) (by kernel_rfl) (by kernel_rfl) (fun _ _ _ h => h) (Or.inl ⟨by rfl, ?_⟩) (by assumption) ?_
          rotate_left
          · (intro w' hSw; (try dsimp only at hSw); go_simp; all_goals with_reducible rfl)
          repeat (first | simp only [Act.put] | simp only [List.setIfInBounds_toArray] | simp only [List.set_cons_succ] | simp only [List.set_cons_zero])
          refine wpAnyH_takeL (i := 9) (v := ?_) rfl (by kernel_rfl) (by kernel_rfl) (by kernel_rfl) (fun _ _ _ h => h) (Or.inl ⟨by rfl, ?_⟩) (by assumption) ?_
          rotate_left
          · (intro w' hSw; (try dsimp only at hSw); go_simp; all_goals with_reducible rfl)
          repeat (first | simp only [Act.put] | simp only [List.setIfInBounds_toArray] | simp only [List.set_cons_succ] | simp only [List.set_cons_zero])
          refine wpAnyH_ready (rs := [16]) (by kernel_rfl) (by simp) ?_
          refine consL (i := 16) rfl (fun K hK => ?_) AllReadyH.nil
          go_simp
          refine (l1Number_any P2 (by omega) _).mono ?_; rintro e w5 ⟨S5, rfl, hS5, hz5, l5⟩
          have hd6 : ¬ 9223372036854775807 < S.size + S4.size + 1 + S5.size := by omega
          have HS5 := Lib.hid hS5
          clear hS5
          have hH5 := HC.out _ ((lr.trans l4).trans l5)
          refine hK.out _ _ hH5 (fun _ => ?_)
          clear hK K
          repeat (first | simp only [Act.put] | simp only [List.setIfInBounds_toArray] | simp only [List.set_cons_succ] | simp only [List.set_cons_zero])
          refine wpAnyH_takeL (i := 17) (v := ?_) rfl (by kernel_rfl) (by kernel_rfl) (by kernel_rfl) (fun _ _ _ h => h) (Or.inl ⟨by rfl, ?_⟩) (by assumption) ?_
          rotate_left
          · (intro w' hSw; (try dsimp only at hSw); go_simp; all_goals with_reducible rfl)
          repeat (first | simp only [Act.put] | simp only [List.setIfInBounds_toArray] | simp only [List.set_cons_succ] | simp only [List.set_cons_zero])
          refine wpAnyH_takeL (i := 18) (v := ?_) rfl (by kernel_rfl) (by kernel_rfl) (by kernel_rfl) (fun _ _ _ h => h) (Or.inl ⟨by rfl, ?_⟩) (by assumption) ?_
          rotate_left
          · (intro w' hSw; (try dsimp only at hSw); go_simp; all_goals with_reducible rfl)
          repeat (first | simp only [Act.put] | simp only [List.setIfInBounds_toArray] | simp only [List.set_cons_succ] | simp only [List.set_cons_zero])
          refine wpAnyH_done (by kernel_rfl) ?_ _
          go_wp2
          go_roundw
          case rel =>
            refine ⟨k + 1, _, by omega, by go_num, rfl, ?_, by simp only [ByteArray.size_append', ByteArray.size_mk']; simp; omega, (lr.trans l4).trans l5⟩
            have e : numT (yn : Int) ++ [61] ++ partsT ps (k + 1) = numT (yn : Int) ++ [61] ++ partsT ps k ++ numT (P1 : Int) ++ [42] ++ numT (P2 : Int) := by
              show numT (yn : Int) ++ [61] ++ (partsT ps k ++ ((if k = 0 then [] else [44]) ++ numT (gp ps k).1 ++ [42] ++ numT (gp ps k).2)) = _
              rw [HPP.out.1, HPP.out.2, if_pos HZ.out]
              simp
            rw [e, HS4.out, HS5.out, HS.out, show ({ data := #[42] } : ByteArray) = ⟨[42].toArray⟩ from rfl, ByteArray.mk_append_mk, ByteArray.mk_append_mk, ByteArray.mk_append_mk]
            try simp
          case measure => simp [intOf]; omega
        · have hk1 : decide (0 < k) = true := by simpa using Nat.pos_of_ne_zero hk0
          have hk2 : decide ((0 : Int) < (k : Int)) = true := by simp; omega
          have hd3 : ¬ 9223372036854775807 < S.size + 1 := by omega
          have HZ := Lib.hid hk0
          clear hk0
          go_wp2
          obtain ⟨S3, hS3⟩ : ∃ S3 : ByteArray, S ++ { data := #[44] } = S3 := ⟨_, rfl⟩
          have hz3 : S3.size ≤ S.size + 1 := by rw [← hS3, ByteArray.size_append']; exact Nat.le_refl _
          have HS3 := Lib.hid hS3
          rw [hS3]
          clear hS3
          have lr := LE.out.drew
          have hH : (fun w' : World => w'.cell? ⟨b, 1, none⟩ = some (.slice (some ad) n c) ∧ w'.cell? (ad.add (k * 2)) = some (.int .i64 (P1 : Int)) ∧ w'.cell? ⟨(ad.add (k * 2)).block, (ad.add (k * 2)).off + 1, none⟩ = some (.int .i64 (P2 : Int))) wr.drew := HC.out _ lr
          refine wp_region_held_drew (S := fun w' => w'.cell? ⟨b, 1, none⟩ = some (.slice (some ad) n c) ∧ w'.cell? (ad.add (k * 2)) = some (.int .i64 (P1 : Int)) ∧ w'.cell? ⟨(ad.add (k * 2)).block, (ad.add (k * 2)).off + 1, none⟩ = some (.int .i64 (P2 : Int))) (by kernel_rfl) hH (fun _ => ?_)
          obtain ⟨wd, hwd⟩ : ∃ wd, wr.drew = wd := ⟨_, rfl⟩
          rw [hwd] at lr hH
          rw [hwd]
          clear hwd
          refine wpAnyH_takeL (i := 0) (v := ?_) rfl (by kernel_rfl) (by kernel_rfl) (by kernel_rfl) (fun _ _ _ h => h) (Or.inl ⟨by rfl, ?_⟩) (by assumption) ?_
          rotate_left
          · (intro w' hSw; (try dsimp only at hSw); go_simp; all_goals with_reducible rfl)
          repeat (first | simp only [Act.put] | simp only [List.setIfInBounds_toArray] | simp only [List.set_cons_succ] | simp only [List.set_cons_zero])
          refine wpAnyH_takeL (i := 1) (v := ?_) rfl (by kernel_rfl) (by kernel_rfl) (by kernel_rfl) (fun _ _ _ h => h) (Or.inl ⟨by rfl, ?_⟩) (by assumption) ?_
          rotate_left
          · (intro w' hSw; (try dsimp only at hSw); go_simp; all_goals with_reducible rfl)
          repeat (first | simp only [Act.put] | simp only [List.setIfInBounds_toArray] | simp only [List.set_cons_succ] | simp only [List.set_cons_zero])
          refine wpAnyH_takeL (i := 2) (v := ?_) rfl (by kernel_rfl) (by kernel_rfl) (by kernel_rfl) (fun _ _ _ h => h) (Or.inl ⟨by rfl, ?_⟩) (by assumption) ?_
          rotate_left
          · (intro w' hSw; have cX0 := hSw.1; have cX1 := hSw.2.1; have cX2 := hSw.2.2; (try dsimp only at hSw); go_simp; all_goals with_reducible rfl)
          repeat (first | simp only [Act.put] | simp only [List.setIfInBounds_toArray] | simp only [List.set_cons_succ] | simp only [List.set_cons_zero])
          refine wpAnyH_takeL (i := 3) (v := ?_) rfl (by kernel_rfl) (by kernel_rfl) (by kernel_rfl) (fun _ _ _ h => h) (Or.inl ⟨by rfl, ?_⟩) (by assumption) ?_
          rotate_left
          · (intro w' hSw; (try dsimp only at hSw); go_simp; all_goals with_reducible rfl)
          repeat (first | simp only [Act.put] | simp only [List.setIfInBounds_toArray] | simp only [List.set_cons_succ] | simp only [List.set_cons_zero])
          refine wpAnyH_takeL (i := 4) (v := ?_) rfl (by kernel_rfl) (by kernel_rfl) (by kernel_rfl) (fun _ _ _ h => h) (Or.inl ⟨by rfl, ?_⟩) (by assumption) ?_
          rotate_left
          · (intro w' hSw; (try dsimp only at hSw); go_simp; all_goals with_reducible rfl)
          repeat (first | simp only [Act.put] | simp only [List.setIfInBounds_toArray] | simp only [List.set_cons_succ] | simp only [List.set_cons_zero])
          refine wpAnyH_takeL (i := 5) (v := ?_) rfl (by kernel_rfl) (by kernel_rfl) (by kernel_rfl) (fun _ _ _ h => h) (Or.inl ⟨by rfl, ?_⟩) (by assumption) ?_
          rotate_left
          · (intro w' hSw; (try dsimp only at hSw); go_simp; all_goals with_reducible rfl)
          repeat (first | simp only [Act.put] | simp only [List.setIfInBounds_toArray] | simp only [List.set_cons_succ] | simp only [List.set_cons_zero])
          refine wpAnyH_takeL (i := 6) (v := ?_) rfl (by kernel_rfl) (by kernel_rfl) (by kernel_rfl) (fun _ _ _ h => h) (Or.inl ⟨by rfl, ?_⟩) (by assumption) ?_
          rotate_left
          · (intro w' hSw; have cX0 := hSw.1; have cX1 := hSw.2.1; have cX2 := hSw.2.2; (try dsimp only at hSw); go_simp; all_goals with_reducible rfl)
          repeat (first | simp only [Act.put] | simp only [List.setIfInBounds_toArray] | simp only [List.set_cons_succ] | simp only [List.set_cons_zero])
          refine wpAnyH_takeL (i := 10) (v := ?_) rfl (by kernel_rfl) (by kernel_rfl) (by kernel_rfl) (fun _ _ _ h => h) (Or.inl ⟨by rfl, ?_⟩) (by assumption) ?_
          rotate_left
          · (intro w' hSw; (try dsimp only at hSw); go_simp; all_goals with_reducible rfl)
          repeat (first | simp only [Act.put] | simp only [List.setIfInBounds_toArray] | simp only [List.set_cons_succ] | simp only [List.set_cons_zero])
          refine wpAnyH_takeL (i := 11) (v := ?_) rfl (by kernel_rfl) (by kernel_rfl) (by kernel_rfl) (fun _ _ _ h => h) (Or.inl ⟨by rfl, ?_⟩) (by assumption) ?_
          rotate_left
          · (intro w' hSw; have cX0 := hSw.1; have cX1 := hSw.2.1; have cX2 := hSw.2.2; (try dsimp only at hSw); go_simp; all_goals with_reducible rfl)
          repeat (first | simp only [Act.put] | simp only [List.setIfInBounds_toArray] | simp only [List.set_cons_succ] | simp only [List.set_cons_zero])
          refine wpAnyH_takeL (i := 12) (v := ?_) rfl (by kernel_rfl) (by kernel_rfl) (by kernel_rfl) (fun _ _ _ h => h) (Or.inl ⟨by rfl, ?_⟩) (by assumption) ?_
          rotate_left
          · (intro w' hSw; (try dsimp only at hSw); go_simp; all_goals with_reducible rfl)
          repeat (first | simp only [Act.put] | simp only [List.setIfInBounds_toArray] | simp only [List.set_cons_succ] | simp only [List.set_cons_zero])
          refine wpAnyH_takeL (i := 13) (v := ?_) rfl (by kernel_rfl) (by kernel_rfl) (by kernel_rfl) (fun _ _ _ h => h) (Or.inl ⟨by rfl, ?_⟩) (by assumption) ?_
          rotate_left
          · (intro w' hSw; (try dsimp only at hSw); go_simp; all_goals with_reducible rfl)
          repeat (first | simp only [Act.put] | simp only [List.setIfInBounds_toArray] | simp only [List.set_cons_succ] | simp only [List.set_cons_zero])
          refine wpAnyH_takeL (i := 14) (v := ?_) rfl (by kernel_rfl) (by kernel_rfl) (by kernel_rfl) (fun _ _ _ h => h) (Or.inl ⟨by rfl, ?_⟩) (by assumption) ?_
          rotate_left
          · (intro w' hSw; (try dsimp only at hSw); go_simp; all_goals with_reducible rfl)
          repeat (first | simp only [Act.put] | simp only [List.setIfInBounds_toArray] | simp only [List.set_cons_succ] | simp only [List.set_cons_zero])
          refine wpAnyH_takeL (i := 15) (v := ?_) rfl (by kernel_rfl) (by kernel_rfl) (by kernel_rfl) (fun _ _ _ h => h) (Or.inl ⟨by rfl, ?_⟩) (by assumption) ?_
          rotate_left
          · (intro w' hSw; have cX0 := hSw.1; have cX1 := hSw.2.1; have cX2 := hSw.2.2; (try dsimp only at hSw); go_simp; all_goals with_reducible rfl)
          repeat (first | simp only [Act.put] | simp only [List.setIfInBounds_toArray] | simp only [List.set_cons_succ] | simp only [List.set_cons_zero])
          refine wpAnyH_ready (rs := [7]) (by kernel_rfl) (by simp) ?_
          refine consL (i := 7) rfl (fun K hK => ?_) AllReadyH.nil
          go_simp
          refine (l1Number_any P1 (by omega) _).mono ?_; rintro e w4 ⟨S4, rfl, hS4, hz4, l4⟩
          have hd4 : ¬ 9223372036854775807 < S3.size + S4.size := by omega
          have hd5 : ¬ 9223372036854775807 < S3.size + S4.size + 1 := by omega
          have HS4 := Lib.hid hS4
          clear hS4
          have hH4 := HC.out _ (lr.trans l4)
          refine hK.out _ _ hH4 (fun _ => ?_)
          clear hK K
          repeat (first | simp only [Act.put] | simp only [List.setIfInBounds_toArray] | simp only [List.set_cons_succ] | simp only [List.set_cons_zero])
          refine wpAnyH_takeL (i := 8) (v := ?_) rfl (by kernel_rfl) (by kernel_rfl) (by kernel_rfl) (fun _ _ _ h => h) (Or.inl ⟨by rfl, ?_⟩) (by assumption) ?_
          rotate_left
          · (intro w' hSw; (try dsimp only at hSw); go_simp; all_goals with_reducible rfl)
          repeat (first | simp only [Act.put] | simp only [List.setIfInBounds_toArray] | simp only [List.set_cons_succ] | simp only [List.set_cons_zero])
          refine wpAnyH_takeL (i := 9) (v := ?_) rfl (by kernel_rfl) (by kernel_rfl) (by kernel_rfl) (fun _ _ _ h => h) (Or.inl ⟨by rfl, ?_⟩) (by assumption) ?_
          rotate_left
          · (intro w' hSw; (try dsimp only at hSw); go_simp; all_goals with_reducible rfl)
          repeat (first | simp only [Act.put] | simp only [List.setIfInBounds_toArray] | simp only [List.set_cons_succ] | simp only [List.set_cons_zero])
          refine wpAnyH_ready (rs := [16]) (by kernel_rfl) (by simp) ?_
          refine consL (i := 16) rfl (fun K hK => ?_) AllReadyH.nil
          go_simp
          refine (l1Number_any P2 (by omega) _).mono ?_; rintro e w5 ⟨S5, rfl, hS5, hz5, l5⟩
          have hd6 : ¬ 9223372036854775807 < S3.size + S4.size + 1 + S5.size := by omega
          have HS5 := Lib.hid hS5
          clear hS5
          have hH5 := HC.out _ ((lr.trans l4).trans l5)
          refine hK.out _ _ hH5 (fun _ => ?_)
          clear hK K
          repeat (first | simp only [Act.put] | simp only [List.setIfInBounds_toArray] | simp only [List.set_cons_succ] | simp only [List.set_cons_zero])
          refine wpAnyH_takeL (i := 17) (v := ?_) rfl (by kernel_rfl) (by kernel_rfl) (by kernel_rfl) (fun _ _ _ h => h) (Or.inl ⟨by rfl, ?_⟩) (by assumption) ?_
          rotate_left
          · (intro w' hSw; (try dsimp only at hSw); go_simp; all_goals with_reducible rfl)
          repeat (first | simp only [Act.put] | simp only [List.setIfInBounds_toArray] | simp only [List.set_cons_succ] | simp only [List.set_cons_zero])
          refine wpAnyH_takeL (i := 18) (v := ?_) rfl (by kernel_rfl) (by kernel_rfl) (by kernel_rfl) (fun _ _ _ h => h) (Or.inl ⟨by rfl, ?_⟩) (by assumption) ?_
          rotate_left
          · (intro w' hSw; (try dsimp only at hSw); go_simp; all_goals with_reducible rfl)
          repeat (first | simp only [Act.put] | simp only [List.setIfInBounds_toArray] | simp only [List.set_cons_succ] | simp only [List.set_cons_zero])
          refine wpAnyH_done (by kernel_rfl) ?_ _
          go_wp2
          go_roundw
          case rel =>
            refine ⟨k + 1, _, by omega, by go_num, rfl, ?_, by simp only [ByteArray.size_append', ByteArray.size_mk']; simp; omega, (lr.trans l4).trans l5⟩
            have e : numT (yn : Int) ++ [61] ++ partsT ps (k + 1) = numT (yn : Int) ++ [61] ++ partsT ps k ++ [44] ++ numT (P1 : Int) ++ [42] ++ numT (P2 : Int) := by
              show numT (yn : Int) ++ [61] ++ (partsT ps k ++ ((if k = 0 then [] else [44]) ++ numT (gp ps k).1 ++ [42] ++ numT (gp ps k).2)) = _
              rw [HPP.out.1, HPP.out.2, if_neg HZ.out]
              simp
            rw [e, HS4.out, HS5.out, ← HS3.out, HS.out, show ({ data := #[44] } : ByteArray) = ⟨[44].toArray⟩ from rfl, ByteArray.mk_append_mk, show ({ data := #[42] } : ByteArray) = ⟨[42].toArray⟩ from rfl, ByteArray.mk_append_mk, ByteArray.mk_append_mk, ByteArray.mk_append_mk]
            try simp
          case measure => simp [intOf]; omega
      · obtain rfl : k = n := by omega
        have a2 := (KZ.out _ LE.out).cell 2
        simp at a2
        have hd3 : ¬ 9223372036854775807 < S.size + 1 := by omega
        go_wp2_with fail
        refine (l1Number_any mn (by omega) _).mono ?_; rintro e w4 ⟨S4, rfl, hS4, hz4, l4⟩
        have hd4 : ¬ 9223372036854775807 < S.size + 1 + S4.size := by omega
        have HS4 := Lib.hid hS4
        clear hS4
        go_wp2
        go_ret
        refine ⟨?_, LW.out.trans (LE.out.trans l4)⟩
        rw [HS4.out, HS.out, show ({ data := #[33] } : ByteArray) = ⟨[33].toArray⟩ from rfl, ByteArray.mk_append_mk, ByteArray.mk_append_mk]
        have e : textT ((yn : Int), ps, (mn : Int)) = numT (yn : Int) ++ [61] ++ partsT ps k ++ [33] ++ numT (mn : Int) := by
          show numT (yn : Int) ++ [61] ++ partsT ps ps.length ++ [33] ++ numT (mn : Int) = _
          rw [hl]
        rw [e]
        rfl
end Go.Proofs.YtoahjfofnaafaaaDoor
