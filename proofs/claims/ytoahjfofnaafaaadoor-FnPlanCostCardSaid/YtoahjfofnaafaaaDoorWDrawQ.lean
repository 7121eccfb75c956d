/- Walks: DrawPlanOk, DrawPlanCost, DrawMakeRun. -/
import Derived.Test.YtoahjfofnaafaaaDoorWDrawP
import Derived.Test.YtoahjfofnaafaaaDoorPReg
namespace Go.Proofs.YtoahjfofnaafaaaDoor
open Go.RowKit

/-- a drawn plan for a law: runs and what is left -/
structure PlD (w' : World) (A : Option Addr) (r : Nat) (R : List Int) (B : Option Addr) (l : Nat) (L : List Int) : Prop where
  runs : RI w' A r R
  left : RI w' B l L
  r7 : r ≤ 7
  l8 : l ≤ 8
  small : ∀ j, j < r → 0 ≤ gi R j ∧ gi R j ≤ 1000000
set_option maxRecDepth 20000 in
set_option maxHeartbeats 2000000 in
theorem drawPlanOk_any (A : Option Addr) (n c : Nat) (w : World) (h : RB w A n) (hc : n ≤ c) :
    Calls Tryd.prog 28 #[.slice A n c] w fun e w' => ∃ gv cap k ts gx cx m ws gy cy m2 ss A' r c1 R B' l d1 L, e = .returned (.tuple #[.slice (some ⟨gv, 0, none⟩) k cap, .slice (some ⟨gx, 0, none⟩) m cx, .slice (some ⟨gy, 0, none⟩) m2 cy, .agg #[.slice A' r c1, .slice B' l d1]]) ∧
      DT w.heap.size w' gv cap k ts ∧ DN w.heap.size w' gx cx m ws ∧ DN w.heap.size w' gy cy m2 ss ∧ PlD w' A' r R B' l L ∧ Le w w' := by
  have l0 := (Le.refl w).alloc (.cells #[.slice none 0 0, .slice none 0 0] 42)
  have k0 := Blk.new w 42 #[.slice none 0 0, .slice none 0 0]
  obtain ⟨wz, hwz⟩ : ∃ wz, w.alloc (.cells #[.slice none 0 0, .slice none 0 0] 42) = wz := ⟨_, rfl⟩
  rw [hwz] at l0 k0
  obtain ⟨b, hbb⟩ : ∃ b, w.heap.size = b := ⟨_, rfl⟩
  rw [hbb] at k0
  have hbz := k0.lt
  have HO := Lib.hid (open_any A n c wz (h.le l0) hc)
  have K0 := Lib.hid (fun w' (l : Le wz w') => k0.le l)
  have L0 := Lib.hid l0
  have HB := Lib.hid hbb
  clear h l0 k0
  go_enter Tryd.func28, Tryd.ntmps28
  go_wp2_with fail
  refine HO.out.mono ?_; rintro e w1 ⟨rfl, r1⟩
  have hz1 := r1.lt
  have HI := Lib.hid (l20Plan_any _ _ _ _ _ _ _ r1 (by omega))
  clear r1
  go_wp2_with fail
  refine HI.out.mono ?_; rintro e w2 ⟨gv, cap, k, ts, gx, cx, m, ws, gy, cy, m2, ss, v1, v2, r, l, R, L, p', rfl, dT, dX, dY, o1, o2, hr7, hl8, hrb, r2, hp, hcg⟩
  obtain ⟨A', c1, rfl, _⟩ := own_RI o1 (by omega)
  obtain ⟨B', d1, rfl, _⟩ := own_RI o2 (by omega)
  have LZ := Lib.hid r2.le
  have a0 := (K0.out _ LZ.out).cell 0
  have a1 := (K0.out _ LZ.out).cell 1
  have z0 := (K0.out _ LZ.out).frozen 0
  have z1 := (K0.out _ LZ.out).frozen 1
  simp at a0 a1
  have DTH := Lib.hid dT
  have DXH := Lib.hid dX
  have DYH := Lib.hid dY
  have O1 := Lib.hid o1
  have O2 := Lib.hid o2
  have HRB := Lib.hid hrb
  clear dT dX dY o1 o2 hrb r2 hcg
  go_wp2
  refine bodyPost_ret (v := .tuple #[.slice (some ⟨gv, 0, none⟩) k cap, .slice (some ⟨gx, 0, none⟩) m cx, .slice (some ⟨gy, 0, none⟩) m2 cy, .agg #[.slice A' r c1, .slice B' l d1]]) (by simp [results, Tryd.results28, go_sem, a0, a1]) rfl ?_
  have CS : Chg b (b + 1) w2 ((w2.setCell ⟨b, 0, none⟩ (.slice A' r c1)).setCell ⟨b, 1, none⟩ (.slice B' l d1)) := (Chg.set (Nat.le_refl _) (Nat.lt_succ_self _) 0 _).trans (Chg.set (Nat.le_refl _) (Nat.lt_succ_self _) 1 _)
  exact ⟨gv, cap, k, ts, gx, cx, m, ws, gy, cy, m2, ss, A', r, c1, R, B', l, d1, L, rfl, (DTH.out.chg CS (by omega)).base (by have := HB.out; omega), (DXH.out.chg CS (by omega)).base (by have := HB.out; omega), (DYH.out.chg CS (by omega)).base (by have := HB.out; omega),
    ⟨own_RI2 (Chg.own2 O1.out CS (by omega)) (by omega), own_RI2 (Chg.own2 O2.out CS (by omega)) (by omega), hr7, hl8, HRB.out⟩, CS.le (L0.out.trans LZ.out) (Nat.le_of_eq HB.out)⟩
set_option maxRecDepth 20000 in
set_option maxHeartbeats 4000000 in
theorem drawMakeRun_any (A : Option Addr) (n c : Nat) (w : World) (h : RB w A n) (hc : n ≤ c) :
    Calls Tryd.prog 31 #[.slice A n c] w fun e w' => ∃ gv cap k ts gy cy m2 ss A' r c1 R B' l d1 L, e = .returned (.tuple #[.slice (some ⟨gv, 0, none⟩) k cap, .slice (some ⟨gy, 0, none⟩) m2 cy, .agg #[.slice A' r c1, .slice B' l d1]]) ∧
      DT w.heap.size w' gv cap k ts ∧ DN w.heap.size w' gy cy m2 ss ∧ PlD w' A' r R B' l L ∧ Le w w' := by
  have l0 := (Le.refl w).alloc (.cells #[.slice none 0 0, .slice none 0 0] 42)
  have k0 := Blk.new w 42 #[.slice none 0 0, .slice none 0 0]
  obtain ⟨wz, hwz⟩ : ∃ wz, w.alloc (.cells #[.slice none 0 0, .slice none 0 0] 42) = wz := ⟨_, rfl⟩
  rw [hwz] at l0 k0
  obtain ⟨b, hbb⟩ : ∃ b, w.heap.size = b := ⟨_, rfl⟩
  rw [hbb] at k0
  have hbz := k0.lt
  have HO := Lib.hid (open_any A n c wz (h.le l0) hc)
  have K0 := Lib.hid (fun w' (l : Le wz w') => k0.le l)
  have L0 := Lib.hid l0
  have HB := Lib.hid hbb
  clear h l0 k0
  go_enter Tryd.func31, Tryd.ntmps31
  go_wp2_with fail
  refine HO.out.mono ?_; rintro e w1 ⟨rfl, r1⟩
  have hz1 := r1.lt
  have HI := Lib.hid (l20Plan_any _ _ _ _ _ _ _ r1 (by omega))
  clear r1
  go_wp2_with fail
  refine HI.out.mono ?_; rintro e w2 ⟨gv, cap, k, ts, gx, cx, m, ws, gy, cy, m2, ss, v1, v2, r, l, R, L, p', rfl, dT, dX, dY, o1, o2, hr7, hl8, hrb, r2, hp, hcg⟩
  obtain ⟨A', c1, rfl, _⟩ := own_RI o1 (by omega)
  obtain ⟨B', d1, rfl, _⟩ := own_RI o2 (by omega)
  have la := (Le.refl w2).alloc (.cells #[.slice A' r c1, .slice B' l d1] 42)
  have kp := Blk.new w2 42 #[.slice A' r c1, .slice B' l d1]
  obtain ⟨w3, hw3⟩ : ∃ w3, w2.alloc (.cells #[.slice A' r c1, .slice B' l d1] 42) = w3 := ⟨_, rfl⟩
  rw [hw3] at la kp
  obtain ⟨bp, hbp⟩ : ∃ bp, w2.heap.size = bp := ⟨_, rfl⟩
  rw [hbp] at kp
  have LZ := Lib.hid (r2.le.trans la)
  have a0 := (K0.out _ LZ.out).cell 0
  have a1 := (K0.out _ LZ.out).cell 1
  have z0 := (K0.out _ LZ.out).frozen 0
  have z1 := (K0.out _ LZ.out).frozen 1
  have p0 := kp.cell 0
  have p1 := kp.cell 1
  simp at a0 a1 p0 p1
  have DTH := Lib.hid (dT.le la)
  have DYH := Lib.hid (dY.le la)
  have O1 := Lib.hid (own_Le o1 la)
  have O2 := Lib.hid (own_Le o2 la)
  have HRB := Lib.hid hrb
  have hbbp : b < bp := by rw [← hbp]; exact Nat.lt_of_lt_of_le hbz r2.le.size
  have KP := Lib.hid kp
  clear dT dX dY o1 o2 hrb r2 hcg la kp
  go_wp2
  have hS : (fun w' : World => w'.cell? ⟨bp, 0, none⟩ = some (.slice A' r c1) ∧ w'.cell? ⟨bp, 1, none⟩ = some (.slice B' l d1)) (w3.drew) := ⟨p0, p1⟩
  refine wp_region_held_drew (S := fun w' => w'.cell? ⟨bp, 0, none⟩ = some (.slice A' r c1) ∧ w'.cell? ⟨bp, 1, none⟩ = some (.slice B' l d1)) (by kernel_rfl) hS (fun _ => ?_)
  refine wpAnyH_takeL (i := 0) (v := ?_) rfl (by kernel_rfl) (by kernel_rfl) (by kernel_rfl) (fun _ _ _ h => h) (Or.inl ⟨by rfl, ?_⟩) (by assumption) ?_
  rotate_left
  · (intro w' hSw; (try dsimp only at hSw); go_simp; all_goals with_reducible rfl)
  repeat (first | simp only [Act.put] | simp only [List.setIfInBounds_toArray] | simp only [List.set_cons_succ] | simp only [List.set_cons_zero])
  refine wpAnyH_takeL (i := 1) (v := ?_) rfl (by kernel_rfl) (by kernel_rfl) (by kernel_rfl) (fun _ _ _ h => h) (Or.inl ⟨by rfl, ?_⟩) (by assumption) ?_
  rotate_left
  · (intro w' hSw; (try dsimp only at hSw); go_simp; all_goals with_reducible rfl)
  repeat (first | simp only [Act.put] | simp only [List.setIfInBounds_toArray] | simp only [List.set_cons_succ] | simp only [List.set_cons_zero])
  refine wpAnyH_takeL (i := 2) (v := ?_) rfl (by kernel_rfl) (by kernel_rfl) (by kernel_rfl) (fun _ _ _ h => h) (Or.inl ⟨by rfl, ?_⟩) (by assumption) ?_
  rotate_left
  · (intro w' hSw; have cX0 := hSw.1; have cX1 := hSw.2; (try dsimp only at hSw); go_simp; all_goals with_reducible rfl)
  repeat (first | simp only [Act.put] | simp only [List.setIfInBounds_toArray] | simp only [List.set_cons_succ] | simp only [List.set_cons_zero])
  refine wpAnyH_takeL (i := 3) (v := ?_) rfl (by kernel_rfl) (by kernel_rfl) (by kernel_rfl) (fun _ _ _ h => h) (Or.inl ⟨by rfl, ?_⟩) (by assumption) ?_
  rotate_left
  · (intro w' hSw; (try dsimp only at hSw); go_simp; all_goals with_reducible rfl)
  repeat (first | simp only [Act.put] | simp only [List.setIfInBounds_toArray] | simp only [List.set_cons_succ] | simp only [List.set_cons_zero])
  refine wpAnyH_takeL (i := 4) (v := ?_) rfl (by kernel_rfl) (by kernel_rfl) (by kernel_rfl) (fun _ _ _ h => h) (Or.inl ⟨by rfl, ?_⟩) (by assumption) ?_
  rotate_left
  · (intro w' hSw; (try dsimp only at hSw); go_simp; all_goals with_reducible rfl)
  repeat (first | simp only [Act.put] | simp only [List.setIfInBounds_toArray] | simp only [List.set_cons_succ] | simp only [List.set_cons_zero])
  refine wpAnyH_ready (rs := [5]) (by kernel_rfl) (by simp) ?_
  refine consL (i := 5) rfl (fun K hK => ?_) AllReadyH.nil
  go_simp
  have cS : Chg b (b + 1) w3 (((w3.drew).setCell ⟨b, 0, none⟩ (.slice A' r c1)).setCell ⟨b, 1, none⟩ (.slice B' l d1)) := (Chg.of_le ((Le.refl w3).drew)).trans ((Chg.set (Nat.le_refl _) (Nat.lt_succ_self _) 0 _).trans (Chg.set (Nat.le_refl _) (Nat.lt_succ_self _) 1 _))
  have CS := Lib.hid cS
  have kb := (cS.block bp KP.out.lt (.inr hbbp)).trans KP.out
  have k0' := Blk.cell kb 0
  have k1' := Blk.cell kb 1
  simp only [List.getElem?_toArray, List.getElem?_cons_zero, List.getElem?_cons_succ] at k0' k1'
  clear cS kb
  refine hK.out _ _ ⟨k0', k1'⟩ (fun _ => ?_)
  clear hK K
  repeat (first | simp only [Act.put] | simp only [List.setIfInBounds_toArray] | simp only [List.set_cons_succ] | simp only [List.set_cons_zero])
  refine wpAnyH_done (by kernel_rfl) ?_ _
  clear p0 p1 hS k0' k1'
  go_wp2
  refine bodyPost_ret (v := .tuple #[.slice (some ⟨gv, 0, none⟩) k cap, .slice (some ⟨gy, 0, none⟩) m2 cy, .agg #[.slice A' r c1, .slice B' l d1]]) (by simp [results, Tryd.results31, go_sem, a0, a1]) rfl ?_
  exact ⟨gv, cap, k, ts, gy, cy, m2, ss, A', r, c1, R, B', l, d1, L, rfl, (DTH.out.chg CS.out (by omega)).base (by have := HB.out; omega), (DYH.out.chg CS.out (by omega)).base (by have := HB.out; omega),
    ⟨own_RI2 (Chg.own2 O1.out CS.out (by omega)) (by omega), own_RI2 (Chg.own2 O2.out CS.out (by omega)) (by omega), hr7, hl8, HRB.out⟩, CS.out.le (L0.out.trans LZ.out) (Nat.le_of_eq HB.out)⟩
set_option maxRecDepth 20000 in
set_option maxHeartbeats 4000000 in
theorem drawPlanCost_any (A : Option Addr) (n c : Nat) (w : World) (h : RB w A n) (hc : n ≤ c) :
    Calls Tryd.prog 21 #[.slice A n c] w fun e w' => ∃ gv cap k ts gy cy m2 ss A' r c1 R B' l d1 L, e = .returned (.tuple #[.slice (some ⟨gv, 0, none⟩) k cap, .slice (some ⟨gy, 0, none⟩) m2 cy, .agg #[.slice A' r c1, .slice B' l d1]]) ∧
      DT w.heap.size w' gv cap k ts ∧ DN w.heap.size w' gy cy m2 ss ∧ PlD w' A' r R B' l L ∧ Le w w' := by
  have l0 := (Le.refl w).alloc (.cells #[.slice none 0 0, .slice none 0 0] 42)
  have k0 := Blk.new w 42 #[.slice none 0 0, .slice none 0 0]
  obtain ⟨wz, hwz⟩ : ∃ wz, w.alloc (.cells #[.slice none 0 0, .slice none 0 0] 42) = wz := ⟨_, rfl⟩
  rw [hwz] at l0 k0
  obtain ⟨b, hbb⟩ : ∃ b, w.heap.size = b := ⟨_, rfl⟩
  rw [hbb] at k0
  have hbz := k0.lt
  have HO := Lib.hid (open_any A n c wz (h.le l0) hc)
  have K0 := Lib.hid (fun w' (l : Le wz w') => k0.le l)
  have L0 := Lib.hid l0
  have HB := Lib.hid hbb
  obtain ⟨g, hg⟩ : ∃ g, wz.heap.size = g := ⟨_, rfl⟩
  rw [hg] at HO hbz
  have HG := Lib.hid hg
  clear h l0 k0
  go_enter Tryd.func21, Tryd.ntmps21
  go_wp2_with fail
  refine HO.out.mono ?_; rintro e w1 ⟨rfl, r1⟩
  clear hg
  have hz1 := r1.lt
  have HI := Lib.hid (l20Plan_any _ _ _ _ _ _ _ r1 (by omega))
  clear r1
  go_wp2_with fail
  refine HI.out.mono ?_; rintro e w2 ⟨gv, cap, k, ts, gx, cx, m, ws, gz, cz, m3, sz, v1, v2, r, l, R, L, p', rfl, dT, dX, dY, o1, o2, hr7, hl8, hrb, r2, hp, hcg⟩
  obtain ⟨A', c1, rfl, _⟩ := own_RI o1 (by omega)
  obtain ⟨B', d1, rfl, _⟩ := own_RI o2 (by omega)
  have hk7 := dT.small
  have la := (Le.refl w2).alloc (.cells #[.slice A' r c1, .slice B' l d1] 42)
  have kp := Blk.new w2 42 #[.slice A' r c1, .slice B' l d1]
  obtain ⟨w3, hw3⟩ : ∃ w3, w2.alloc (.cells #[.slice A' r c1, .slice B' l d1] 42) = w3 := ⟨_, rfl⟩
  rw [hw3] at la kp
  obtain ⟨bp, hbp⟩ : ∃ bp, w2.heap.size = bp := ⟨_, rfl⟩
  rw [hbp] at kp
  have hgbp : g < bp := by rw [← hbp]; exact r2.lt
  have R3 := Lib.hid (r2.more la)
  have p0 := kp.cell 0
  have p1 := kp.cell 1
  simp at p0 p1
  have DTH := Lib.hid (dT.le la)
  have O1 := Lib.hid (own_Le o1 la)
  have O2 := Lib.hid (own_Le o2 la)
  have HRB := Lib.hid hrb
  have KP := Lib.hid kp
  have hs3 : w1.heap.size ≤ w3.heap.size := Nat.le_trans hcg.size la.size
  clear dT dX dY o1 o2 hrb r2 hcg la kp
  go_wp2
  clear hw3 hbp
  have hS : (fun w' : World => w'.cell? ⟨bp, 0, none⟩ = some (.slice A' r c1) ∧ w'.cell? ⟨bp, 1, none⟩ = some (.slice B' l d1)) (w3.drew) := ⟨p0, p1⟩
  refine wp_region_held_drew (S := fun w' => w'.cell? ⟨bp, 0, none⟩ = some (.slice A' r c1) ∧ w'.cell? ⟨bp, 1, none⟩ = some (.slice B' l d1)) (by kernel_rfl) hS (fun _ => ?_)
  refine wpAnyH_takeL (i := 0) (v := ?_) rfl (by kernel_rfl) (by kernel_rfl) (by kernel_rfl) (fun _ _ _ h => h) (Or.inl ⟨by rfl, ?_⟩) (by assumption) ?_
  rotate_left
  · (intro w' hSw; (try dsimp only at hSw); go_simp; all_goals with_reducible rfl)
  repeat (first | simp only [Act.put] | simp only [List.setIfInBounds_toArray] | simp only [List.set_cons_succ] | simp only [List.set_cons_zero])
  refine wpAnyH_takeL (i := 1) (v := ?_) rfl (by kernel_rfl) (by kernel_rfl) (by kernel_rfl) (fun _ _ _ h => h) (Or.inl ⟨by rfl, ?_⟩) (by assumption) ?_
  rotate_left
  · (intro w' hSw; (try dsimp only at hSw); go_simp; all_goals with_reducible rfl)
  repeat (first | simp only [Act.put] | simp only [List.setIfInBounds_toArray] | simp only [List.set_cons_succ] | simp only [List.set_cons_zero])
  refine wpAnyH_takeL (i := 2) (v := ?_) rfl (by kernel_rfl) (by kernel_rfl) (by kernel_rfl) (fun _ _ _ h => h) (Or.inl ⟨by rfl, ?_⟩) (by assumption) ?_
  rotate_left
  · (intro w' hSw; (try dsimp only at hSw); go_simp; all_goals with_reducible rfl)
  repeat (first | simp only [Act.put] | simp only [List.setIfInBounds_toArray] | simp only [List.set_cons_succ] | simp only [List.set_cons_zero])
  refine wpAnyH_takeL (i := 4) (v := ?_) rfl (by kernel_rfl) (by kernel_rfl) (by kernel_rfl) (fun _ _ _ h => h) (Or.inl ⟨by rfl, ?_⟩) (by assumption) ?_
  rotate_left
  · (intro w' hSw; have cX0 := hSw.1; have cX1 := hSw.2; (try dsimp only at hSw); go_simp; all_goals with_reducible rfl)
  repeat (first | simp only [Act.put] | simp only [List.setIfInBounds_toArray] | simp only [List.set_cons_succ] | simp only [List.set_cons_zero])
  refine wpAnyH_ready (rs := [3]) (by kernel_rfl) (by simp) ?_
  refine consL (i := 3) rfl (fun K hK => ?_) AllReadyH.nil
  go_simp
  refine (prices_dn _ _ _ _ _ _ _ 14 (some ⟨gv, 0, none⟩) k cap (R3.out.more ((Le.refl w3).drew)) (by omega) (by omega) (by omega) hk7 w1.heap.size hs3).mono ?_; rintro e w4 ⟨gy, cy, m2, ss, p4, rfl, dY, r4, hp4, c4⟩
  have kb := (c4.block bp KP.out.lt (.inr hgbp)).trans KP.out
  have k0' := Blk.cell kb 0
  have k1' := Blk.cell kb 1
  simp only [List.getElem?_toArray, List.getElem?_cons_zero, List.getElem?_cons_succ] at k0' k1'
  have LZ := Lib.hid r4.le
  have C4 := Lib.hid c4
  have KP4 := Lib.hid (show Blk w4 bp 42 #[.slice A' r c1, .slice B' l d1] from kb)
  have DYH := Lib.hid dY
  have a0 := (K0.out _ LZ.out).cell 0
  have a1 := (K0.out _ LZ.out).cell 1
  have z0 := (K0.out _ LZ.out).frozen 0
  have z1 := (K0.out _ LZ.out).frozen 1
  simp at a0 a1
  have k2' := k0'
  have k3' := k1'
  clear c4 kb dY r4
  refine hK.out _ _ ⟨k0', k1'⟩ (fun _ => ?_)
  clear hK K
  repeat (first | simp only [Act.put] | simp only [List.setIfInBounds_toArray] | simp only [List.set_cons_succ] | simp only [List.set_cons_zero])
  refine wpAnyH_takeL (i := 5) (v := ?_) rfl (by kernel_rfl) (by kernel_rfl) (by kernel_rfl) (fun _ _ _ h => h) (Or.inl ⟨by rfl, ?_⟩) (by assumption) ?_
  rotate_left
  · (intro w' hSw; (try dsimp only at hSw); go_simp; all_goals with_reducible rfl)
  repeat (first | simp only [Act.put] | simp only [List.setIfInBounds_toArray] | simp only [List.set_cons_succ] | simp only [List.set_cons_zero])
  refine wpAnyH_takeL (i := 6) (v := ?_) rfl (by kernel_rfl) (by kernel_rfl) (by kernel_rfl) (fun _ _ _ h => h) (Or.inl ⟨by rfl, ?_⟩) (by assumption) ?_
  rotate_left
  · (intro w' hSw; (try dsimp only at hSw); go_simp; all_goals with_reducible rfl)
  repeat (first | simp only [Act.put] | simp only [List.setIfInBounds_toArray] | simp only [List.set_cons_succ] | simp only [List.set_cons_zero])
  refine wpAnyH_ready (rs := [7]) (by kernel_rfl) (by simp) ?_
  refine consL (i := 7) rfl (fun K hK => ?_) AllReadyH.nil
  go_simp
  have cS : Chg b (b + 1) w4 ((w4.setCell ⟨b, 0, none⟩ (.slice A' r c1)).setCell ⟨b, 1, none⟩ (.slice B' l d1)) := (Chg.set (Nat.le_refl _) (Nat.lt_succ_self _) 0 _).trans (Chg.set (Nat.le_refl _) (Nat.lt_succ_self _) 1 _)
  have CS := Lib.hid cS
  have kb := (cS.block bp KP4.out.lt (.inr (by omega))).trans KP4.out
  have k0' := Blk.cell kb 0
  have k1' := Blk.cell kb 1
  simp only [List.getElem?_toArray, List.getElem?_cons_zero, List.getElem?_cons_succ] at k0' k1'
  clear cS kb
  refine hK.out _ _ ⟨k0', k1'⟩ (fun _ => ?_)
  clear hK K
  repeat (first | simp only [Act.put] | simp only [List.setIfInBounds_toArray] | simp only [List.set_cons_succ] | simp only [List.set_cons_zero])
  refine wpAnyH_done (by kernel_rfl) ?_ _
  clear p0 p1 hS k0' k1' k2' k3'
  go_wp2
  refine bodyPost_ret (v := .tuple #[.slice (some ⟨gv, 0, none⟩) k cap, .slice (some ⟨gy, 0, none⟩) m2 cy, .agg #[.slice A' r c1, .slice B' l d1]]) (by simp [results, Tryd.results21, go_sem, a0, a1]) rfl ?_
  have hgw : g + 1 ≤ w1.heap.size := hz1
  have CD := (Chg.of_le (lo := g) (hi := g + 1) ((Le.refl w3).drew)).trans C4.out
  exact ⟨gv, cap, k, ts, gy, cy, m2, ss, A', r, c1, R, B', l, d1, L, rfl, ((DTH.out.chg CD hgw).chg CS.out (by omega)).base (by have := HB.out; omega), (DYH.out.chg CS.out (by omega)).base (by have := HB.out; omega),
    ⟨own_RI2 (Chg.own2 (Chg.own2 O1.out CD hgw) CS.out (by omega)) (by omega), own_RI2 (Chg.own2 (Chg.own2 O2.out CD hgw) CS.out (by omega)) (by omega), hr7, hl8, HRB.out⟩, CS.out.le (L0.out.trans LZ.out) (Nat.le_of_eq HB.out)⟩
end Go.Proofs.YtoahjfofnaafaaaDoor
