/- Walk: FnPlanCost. -/
import Derived.Test.YtoahjfofnaafaaaDoorWDrawQ
import Derived.Test.YtoahjfofnaafaaaDoorWCost
import Derived.Test.YtoahjfofnaafaaaDoorWCostB
namespace Go.Proofs.YtoahjfofnaafaaaDoor
open Go.RowKit

theorem RI.news {w : World} {ad : Addr} {n : Nat} {xs : List Int} (h : RI w (some ad) n xs) : ∀ j u, (ints xs)[j]? = some u → w.cell? (ad.add j) = some u := by
  intro j u hj
  have hl := h.len
  have hjn : j < xs.length := by
    rcases Nat.lt_or_ge j xs.length with e | e
    · exact e
    · rw [List.getElem?_eq_none (by rw [ints_length]; exact e)] at hj; cases hj
  obtain ⟨ad', e, hc⟩ := h.at_ j (by omega)
  injection e with e
  subst e
  rw [ints_getElem? hjn] at hj
  injection hj with hj
  rw [← hj]; exact hc
theorem own_cellI {w : World} {base n g c : Nat} {e : TypeId} {xs : List Int} (h : w.ownsRow base e 1 (.slice (some ⟨g, 0, none⟩) n c) n (ints xs)) {j : Nat} (hj : j < n) : w.cell? ⟨g, j, none⟩ = some (.int .i64 (gi xs j)) ∧ w.frozen? ⟨g, j, none⟩ = false := by
  obtain ⟨q, cap, e, _, _, _, hf, hc⟩ := own_open h (by omega)
  injection e with e1 _ _
  injection e1 with e1
  injection e1 with e1 _ _
  subst e1
  exact ⟨hc j hj, hf j⟩
theorem own_ne_box {w : World} {base b : Nat} {e t : TypeId} {v x : Value} {m r c : Nat} {A : Option Addr} {M : List Int} (ho : w.ownsRow base e 1 v m (ints M)) (hm : 0 < m) (hb : Blk w b t #[.slice A r c, x]) : v.ownBlock ≠ some b := fun e => by
  have hc := ho.cells e 0 (.int .i64 (gi M 0)) (ints_getElem? (by have := ho.1; rw [ints_length] at this; omega))
  have h0 := hb.cell 0
  have hc' : w.cell? ⟨b, 0, none⟩ = some (.int .i64 (gi M 0)) := by simpa [Addr.add] using hc
  rw [hc'] at h0
  simp at h0
set_option maxRecDepth 20000 in
set_option maxHeartbeats 16000000 in
theorem law_FnPlanCost (w : World) (A : Option Addr) (n c : Nat) (h : RB w A n) (hc : n ≤ c) :
    Calls Tryd.prog 5 #[.slice A n c] w fun e w' => e = .returned (.bool true) ∧ Le w w' := by
  have hm := h.max
  by_cases hn : 1048576 < n
  · go_enter Tryd.func5, Tryd.ntmps5
    go_wp2
    go_ret
    exact ⟨rfl, Le.refl _⟩
  · obtain ⟨i0, hi0, hz0, hz1, hz2⟩ := info_parts infoIntD
    have HD := Lib.hid (drawPlanCost_any A n c w h hc)
    clear h
    go_enter Tryd.func5, Tryd.ntmps5
    go_wp2_with fail
    refine HD.out.mono ?_; rintro e w1 ⟨gv, cap, k, ts, gy, cy, m2, ss, A1, r, c1, R, B1, l, d1, L, rfl, dT, dY, pd, l1⟩
    have hk7 := dT.small
    have hr7 := pd.r7
    have hl8 := pd.l8
    have la := (Le.refl w1).alloc (.cells #[.slice A1 r c1, .slice B1 l d1] 42)
    have kp := Blk.new w1 42 #[.slice A1 r c1, .slice B1 l d1]
    obtain ⟨w2, hw2⟩ : ∃ w2, w1.alloc (.cells #[.slice A1 r c1, .slice B1 l d1] 42) = w2 := ⟨_, rfl⟩
    rw [hw2] at la kp
    obtain ⟨bp, hbp⟩ : ∃ bp, w1.heap.size = bp := ⟨_, rfl⟩
    rw [hbp] at kp
    have HR := Lib.hid (fun w' (q : Le w2 w') => dT.rm.le (la.trans q))
    have HY := Lib.hid (fun w' (q : Le w2 w') => dY.ri.le (la.trans q))
    have HP := Lib.hid (fun w' (q : Le w2 w') => pd.runs.le (la.trans q))
    have HQ := Lib.hid (fun w' (q : Le w2 w') => pd.left.le (la.trans q))
    have KP := Lib.hid (fun w' (q : Le w2 w') => kp.le q)
    have HK := Lib.hid dT.len
    have HRS := Lib.hid pd.small
    have HLR := Lib.hid pd.runs.len
    have HLY := Lib.hid dY.len
    have L2 := Lib.hid (l1.trans la)
    have p0 := kp.cell 0
    have p1 := kp.cell 1
    simp at p0 p1
    obtain ⟨X, hX⟩ : ∃ V, planCostL ts ss R = V := ⟨_, rfl⟩
    have HX := Lib.hid hX
    have hbb : (X != X) = false := by simp
    clear dT dY pd l1 la kp hX
    go_wp2_with fail
    refine (implCost_any _ _ _ _ _ _ _ _ cap cy c1 d1 ts ss R L _ (HR.out _ (Le.refl _)) (HY.out _ (Le.refl _)) (HP.out _ (Le.refl _)) (HQ.out _ (Le.refl _))).mono ?_; rintro e w3 ⟨rfl, l3⟩
    rw [HX.out]
    have M3 := Lib.hid l3
    clear l3 p0 p1 hw2 hbp
    have p0 := (KP.out _ M3.out).cell 0
    have p1 := (KP.out _ M3.out).cell 1
    simp at p0 p1
    go_wp2_with fail
    refine (specCost_any _ _ _ _ _ _ _ _ cap cy c1 d1 ts ss R L _ (HR.out _ M3.out) (HY.out _ M3.out) (HP.out _ M3.out) (HQ.out _ M3.out)).mono ?_; rintro e w4 ⟨rfl, l4⟩
    rw [HX.out]
    have M4 := Lib.hid (M3.out.trans l4)
    clear l4 p0 p1
    by_cases hx0 : X < 0
    · obtain rfl : X = -1 := by rw [← HX.out]; exact cost_neg (by rw [HX.out]; exact hx0)
      go_wp2_with fail
      refine (alive_any _).mono ?_; rintro e w5 ⟨rfl, l5⟩
      go_wp2
      go_ret
      exact ⟨rfl, L2.out.trans (M4.out.trans l5)⟩
    · have hx1 : 0 ≤ planCostL ts ss R := by rw [HX.out]; omega
      have HX1 := Lib.hid hx1
      have hcf := cost_facts hx1
      have hpf := prices_facts hcf.1
      have haf := amounts_facts hcf.2.1
      obtain rfl : k = m2 := by have h1 := hpf.2.1; have h2 := HLY.out; have h3 := HK.out; omega
      obtain rfl : k = r := by have h1 := haf.1; have h2 := HLR.out; have h3 := HK.out; omega
      have hxb : X ≤ 1399999860 := by
        rw [← HX.out, hcf.2.2]
        have := (sumTo_bound (n := ts.length) (cost_b (ts := ts) hpf.2.2 haf.2)).2
        have h7 : (ts.length : Int) ≤ 7 := by rw [HK.out]; omega
        omega
      have HPB := Lib.hid (show ∀ j, j < k → 0 ≤ gi ss j ∧ gi ss j ≤ 20 from fun j hj => hpf.2.2 j (by rw [HK.out]; exact hj))
      have HYP := Lib.hid (show ∀ j, j < k → 0 ≤ (gm ts j).1 from fun j hj => by
        have := items_facts (n := k) HK.out hpf.1
        exact ((this.2 j hj).1).1)
      have HDB := Lib.hid (cost_double hx1)
      clear hcf hpf haf hx1
      go_wp2
      have HO := Lib.hid (own_empty w4 3 1)
      go_loopw [7, 8] (fun v i wr => ∃ j : Nat, j ≤ k ∧ i = .int .i64 (j : Int) ∧ v ≠ .slice none 0 0 ∧ wr.ownsRow w4.heap.size 3 1 v j (ints ((ss.map (2 * ·)).take j)) ∧ Le w4 wr) (fun _ i _ => k - (intOf i).toNat)
      case atStart => exact ⟨0, Nat.zero_le _, rfl, (fun e => by cases e), HO.out, (Le.refl _).alloc _⟩
      case round =>
        obtain ⟨j, hj, rfl, hnn, hown, hle⟩ := hrel
        obtain ⟨gd, cd, rfl, hgd, hcd, hcm⟩ := own_formI hown hnn
        have OW := Lib.hid hown
        have LE := Lib.hid hle
        have MR := Lib.hid (M4.out.trans hle)
        clear hown hle hnn
        by_cases hlt : j < k
        · obtain ⟨adP, eP, ip⟩ := (HY.out _ MR.out).at_ j hlt
          injection eP with eP
          subst eP
          rw [addr0] at ip
          have hpb := HPB.out j hlt
          have HCM := Lib.hid (cost_more HX1.out (k := j) (by rw [HK.out]; exact hlt) (by have := (HRS.out j hlt).2; omega))
          have HMP := Lib.hid (show (ss.map (2 * ·)).take (j + 1) = (ss.map (2 * ·)).take j ++ [2 * gi ss j] from by
            rw [List.take_add_one, List.getElem?_map]
            have : ss[j]? = some (gi ss j) := by
              unfold gi
              rw [List.getD_eq_getElem?_getD, List.getElem?_eq_getElem (by rw [HLY.out]; exact hlt)]; rfl
            rw [this]; rfl)
          rw [HX.out] at HCM
          obtain ⟨pj, hpj⟩ : ∃ p, gi ss j = p := ⟨_, rfl⟩
          obtain ⟨x, hxj⟩ : ∃ x, gi R j = x := ⟨_, rfl⟩
          have hxrb := HRS.out j hlt
          rw [hpj] at ip hpb HCM HMP
          rw [hxj] at HCM hxrb
          have HPJ := Lib.hid hpj
          have HXJ := Lib.hid hxj
          obtain ⟨ad1, hA1, _⟩ := (HP.out _ MR.out).at_ j hlt
          subst hA1
          obtain ⟨Y, hYi⟩ : ∃ Y, (gm ts j).1 = Y := ⟨_, rfl⟩
          have hyp := HYP.out j hlt
          rw [hYi] at hyp HCM
          have HYI := Lib.hid hYi
          have hyc : ((Y == 0) = true ∧ decide (0 < Y) = false ∧ Y = 0) ∨ ((Y == 0) = false ∧ decide (0 < Y) = true ∧ ¬ Y = 0) := by
            by_cases e : Y = 0
            · left; exact ⟨by rw [beq_iff_eq]; exact e, decide_eq_false (by omega), e⟩
            · right; exact ⟨by rw [beq_eq_false_iff_ne]; exact e, decide_eq_true (by omega), e⟩
          clear hpj hxj hYi
          go_wp2_with (at_builtin; refine wpList_append_own _ rfl _ _ 40 rfl w4.heap.size 3 i0 _ 1 8 Tryd.underlying40 hi0 hz0 hz1 hz2 rfl (by decide) _ j (ints ((ss.map (2 * ·)).take j)) rfl (OW.out.alloc _) ⟨wr.heap.size, 0, none⟩ 1 1 [.int .i64 (2 * pj)] rfl rfl ?e1 ?e2 ?e3 ?e4 ?e5 ?_)
          case e2 => rfl
          case e3 => unfold maxLen; omega
          case e4 => omega
          case e5 => have := LE.out.size; simp; omega
          intro v5 w5 hown5 hgrow5 hnil5
          obtain ⟨g5, c5, rfl, _⟩ := own_formI hown5 (by first | exact hnil5 | exact fun e => by have := (hnil5.1 e).2; omega)
          have l5 := ((Le.refl wr).alloc (.cells #[.int .i64 (2 * pj)] 3))
          have L45 := Lib.hid ((LE.out.trans l5).grown hgrow5 (fun q hq => (OW.out.lt q hq).1))
          have M5 := Lib.hid (M4.out.trans L45.out)
          have O5 := Lib.hid (show w5.ownsRow w4.heap.size 3 1 (.slice (some ⟨g5, 0, none⟩) (j + 1) c5) (j + 1) (ints ((ss.map (2 * ·)).take (j + 1))) from by
            rw [HMP.out, ints_snoc]; exact hown5)
          have KB := Lib.hid (KP.out _ M5.out)
          clear hown5 hgrow5 hnil5 l5 ip
          go_wp2
          have hS : Le w5 w5.drew := (Le.refl w5).drew
          refine wp_region_last (fun w' => Le w5 w') 8 _ rfl (by kernel_rfl) (by kernel_rfl) ?_
          simp only [List.setIfInBounds_toArray, List.set_cons_zero, List.set_cons_succ, idle]
          refine wpAnyH_takeL (i := 1) (v := ?_) rfl (by kernel_rfl) (by kernel_rfl) (by kernel_rfl) (fun _ _ _ h => h) (Or.inl ⟨by rfl, ?_⟩) (by assumption) ?_
          rotate_left
          · (intro w' hSw; (try dsimp only at hSw); go_simp; all_goals with_reducible rfl)
          repeat (first | simp only [Act.put] | simp only [List.setIfInBounds_toArray] | simp only [List.set_cons_succ] | simp only [List.set_cons_zero])
          refine wpAnyH_takeL (i := 2) (v := ?_) rfl (by kernel_rfl) (by kernel_rfl) (by kernel_rfl) (fun _ _ _ h => h) (Or.inl ⟨by rfl, ?_⟩) (by assumption) ?_
          rotate_left
          · (intro w' hSw; have cX0 := (KB.out.le hSw).cell 0; simp at cX0; (try dsimp only at hSw); go_simp; all_goals with_reducible rfl)
          repeat (first | simp only [Act.put] | simp only [List.setIfInBounds_toArray] | simp only [List.set_cons_succ] | simp only [List.set_cons_zero])
          refine wpAnyH_takeL (i := 4) (v := ?_) rfl (by kernel_rfl) (by kernel_rfl) (by kernel_rfl) (fun _ _ _ h => h) (Or.inl ⟨by rfl, ?_⟩) (by assumption) ?_
          rotate_left
          · (intro w' hSw; (try dsimp only at hSw); go_simp; all_goals with_reducible rfl)
          repeat (first | simp only [Act.put] | simp only [List.setIfInBounds_toArray] | simp only [List.set_cons_succ] | simp only [List.set_cons_zero])
          refine wpAnyH_takeL (i := 5) (v := ?_) rfl (by kernel_rfl) (by kernel_rfl) (by kernel_rfl) (fun _ _ _ h => h) (Or.inl ⟨by rfl, ?_⟩) (by assumption) ?_
          rotate_left
          · (intro w' hSw; have cX0 := (KB.out.le hSw).cell 1; simp at cX0; (try dsimp only at hSw); go_simp; all_goals with_reducible rfl)
          repeat (first | simp only [Act.put] | simp only [List.setIfInBounds_toArray] | simp only [List.set_cons_succ] | simp only [List.set_cons_zero])
          refine wpAnyH_ready (rs := [0, 7]) (by kernel_rfl) (by simp) ?_
          refine consL (i := 0) rfl (fun K hK => ?_) ?_
          · go_simp
            have sA := hS.alloc (.cells #[] 3)
            refine hK.out _ _ sA (fun _ => ?_)
            clear hK K
            repeat (first | simp only [Act.put] | simp only [List.setIfInBounds_toArray] | simp only [List.set_cons_succ] | simp only [List.set_cons_zero])
            refine wpAnyH_ready (rs := [3, 7]) (by kernel_rfl) (by simp) ?_
            refine consL (i := 3) rfl (fun K hK => ?_) ?_
            · refine step_append_own (by rfl) (some 56) (by rfl) _ _ 40 (by rfl) w5.heap.size 3 i0 _ 1 8 Tryd.underlying40 hi0 hz0 hz1 hz2 rfl (by decide) _ 0 [] (by rfl) (own_empty _ _ _) ad1 k c1 (ints R) (by rfl) (by rw [ints_length]; exact (by have := HLR.out; omega)) ((HP.out _ (M5.out.trans sA)).news) (ints_one1 _) (by unfold maxLen; omega) (by omega) (by simp; try omega) ?_
              intro v6 w6 hown6 hgrow6 hnil6
              have hown6' : w6.ownsRow w5.heap.size 3 1 v6 k (ints R) := by
                rw [Nat.zero_add, List.nil_append] at hown6; exact hown6
              obtain ⟨g6, c6, rfl, _⟩ := own_formI hown6' (fun e => by
                obtain ⟨_, _, e2, _⟩ := own_open hown6' (by omega)
                rw [e] at e2; cases e2)
              clear hown6 hnil6
              have l6 := sA.grown hgrow6 (fun q hq => by simp [Value.ownBlock] at hq; omega)
              have OX := Lib.hid (own_Le hown6' ((Le.refl w6).alloc (.cells #[.slice (some ⟨g6, 0, none⟩) k c6, .slice B1 l d1] 42)))
              have hg6b := (hown6'.lt g6 rfl).2
              clear hgrow6
              refine hK.out _ _ l6 (fun _ => ?_)
              clear hK K
              repeat (first | simp only [Act.put] | simp only [List.setIfInBounds_toArray] | simp only [List.set_cons_succ] | simp only [List.set_cons_zero])
              refine wpAnyH_takeL (i := 6) (v := ?_) rfl (by kernel_rfl) (by kernel_rfl) (by kernel_rfl) (fun _ _ _ h => h) (Or.inl ⟨by rfl, ?_⟩) (by assumption) ?_
              rotate_left
              · (intro w' hSw; (try dsimp only at hSw); go_simp; all_goals with_reducible rfl)
              repeat (first | simp only [Act.put] | simp only [List.setIfInBounds_toArray] | simp only [List.set_cons_succ] | simp only [List.set_cons_zero])
              refine wpAnyH_ready (rs := [7]) (by kernel_rfl) (by simp) ?_
              refine consL (i := 7) rfl (fun K hK => ?_) AllReadyH.nil
              go_simp
              refine hK.out _ _ (l6.alloc _) (fun _ => ?_)
              clear hK K
              repeat (first | simp only [Act.put] | simp only [List.setIfInBounds_toArray] | simp only [List.set_cons_succ] | simp only [List.set_cons_zero])
              refine wpAnyH_takeL (i := 8) (v := ?_) rfl (by kernel_rfl) (by kernel_rfl) (by kernel_rfl) (fun _ _ _ h => h) (Or.inl ⟨by rfl, ?_⟩) (by assumption) ?_
              rotate_left
              · (intro w' hSw; (try dsimp only at hSw); go_simp; all_goals with_reducible rfl)
              repeat (first | simp only [Act.put] | simp only [List.setIfInBounds_toArray] | simp only [List.set_cons_succ] | simp only [List.set_cons_zero])
              refine wpAnyH_done (by kernel_rfl) ?_ _
              show Oper.wp _ _ _ _ _ _
              go_simp
              have KX := Lib.hid (Blk.new w6 42 #[.slice (some ⟨g6, 0, none⟩) k c6, .slice B1 l d1])
              have LN := Lib.hid (l6.alloc (.cells #[.slice (some ⟨g6, 0, none⟩) k c6, .slice B1 l d1] 42))
              obtain ⟨bx, hbx⟩ : ∃ bx, w6.heap.size = bx := ⟨_, rfl⟩
              have HNE6 := Lib.hid (show g6 ≠ bx from by omega)
              obtain ⟨wN, hwN⟩ : ∃ wN, w6.alloc (.cells #[.slice (some ⟨g6, 0, none⟩) k c6, .slice B1 l d1] 42) = wN := ⟨_, rfl⟩
              rw [hwN] at KX OX LN ⊢
              rw [hbx] at KX ⊢
              clear hwN hbx hg6b l6
              have s0 := KX.out.cell 0
              have s1 := (own_cellI OX.out hlt).1
              have s2 := (own_cellI OX.out hlt).2
              simp at s0
              rw [HXJ.out] at s1
              have hxw : IntKind.i64.wrap (x + 1) = x + 1 := IntWalk.i64_in _ (by omega)
              go_wp2
              have hH : (fun w' : World => w'.cell? ⟨bx, 0, none⟩ = some (.slice (some ⟨g6, 0, none⟩) k c6) ∧ w'.cell? ⟨g6, j, none⟩ = some (.int .i64 x)) wN.drew := ⟨s0, s1⟩
              refine wp_region_last (fun w' : World => w'.cell? ⟨bx, 0, none⟩ = some (.slice (some ⟨g6, 0, none⟩) k c6) ∧ w'.cell? ⟨g6, j, none⟩ = some (.int .i64 x)) 10 _ rfl (by kernel_rfl) (by kernel_rfl) ?_
              simp only [List.setIfInBounds_toArray, List.set_cons_zero, List.set_cons_succ, idle]
              refine wpAnyH_takeL (i := 0) (v := ?_) rfl (by kernel_rfl) (by kernel_rfl) (by kernel_rfl) (fun _ _ _ h => h) (Or.inl ⟨by rfl, ?_⟩) (by assumption) ?_
              rotate_left
              · (intro w' hSw; (try dsimp only at hSw); go_simp; all_goals with_reducible rfl)
              repeat (first | simp only [Act.put] | simp only [List.setIfInBounds_toArray] | simp only [List.set_cons_succ] | simp only [List.set_cons_zero])
              refine wpAnyH_takeL (i := 1) (v := ?_) rfl (by kernel_rfl) (by kernel_rfl) (by kernel_rfl) (fun _ _ _ h => h) (Or.inl ⟨by rfl, ?_⟩) (by assumption) ?_
              rotate_left
              · (intro w' hSw; have cX0 := hSw.1; have cX1 := hSw.2; (try dsimp only at hSw); go_simp; all_goals with_reducible rfl)
              repeat (first | simp only [Act.put] | simp only [List.setIfInBounds_toArray] | simp only [List.set_cons_succ] | simp only [List.set_cons_zero])
              refine wpAnyH_takeL (i := 2) (v := ?_) rfl (by kernel_rfl) (by kernel_rfl) (by kernel_rfl) (fun _ _ _ h => h) (Or.inl ⟨by rfl, ?_⟩) (by assumption) ?_
              rotate_left
              · (intro w' hSw; (try dsimp only at hSw); go_simp; all_goals with_reducible rfl)
              repeat (first | simp only [Act.put] | simp only [List.setIfInBounds_toArray] | simp only [List.set_cons_succ] | simp only [List.set_cons_zero])
              refine wpAnyH_takeL (i := 3) (v := ?_) rfl (by kernel_rfl) (by kernel_rfl) (by kernel_rfl) (fun _ _ _ h => h) (Or.inl ⟨by rfl, ?_⟩) (by assumption) ?_
              rotate_left
              · (intro w' hSw; (try dsimp only at hSw); go_simp; all_goals with_reducible rfl)
              repeat (first | simp only [Act.put] | simp only [List.setIfInBounds_toArray] | simp only [List.set_cons_succ] | simp only [List.set_cons_zero])
              refine wpAnyH_takeL (i := 4) (v := ?_) rfl (by kernel_rfl) (by kernel_rfl) (by kernel_rfl) (fun _ _ _ h => h) (Or.inl ⟨by rfl, ?_⟩) (by assumption) ?_
              rotate_left
              · (intro w' hSw; have cX0 := hSw.1; have cX1 := hSw.2; (try dsimp only at hSw); go_simp; all_goals with_reducible rfl)
              repeat (first | simp only [Act.put] | simp only [List.setIfInBounds_toArray] | simp only [List.set_cons_succ] | simp only [List.set_cons_zero])
              refine wpAnyH_takeL (i := 5) (v := ?_) rfl (by kernel_rfl) (by kernel_rfl) (by kernel_rfl) (fun _ _ _ h => h) (Or.inl ⟨by rfl, ?_⟩) (by assumption) ?_
              rotate_left
              · (intro w' hSw; (try dsimp only at hSw); go_simp; all_goals with_reducible rfl)
              repeat (first | simp only [Act.put] | simp only [List.setIfInBounds_toArray] | simp only [List.set_cons_succ] | simp only [List.set_cons_zero])
              refine wpAnyH_takeL (i := 6) (v := ?_) rfl (by kernel_rfl) (by kernel_rfl) (by kernel_rfl) (fun _ _ _ h => h) (Or.inl ⟨by rfl, ?_⟩) (by assumption) ?_
              rotate_left
              · (intro w' hSw; (try dsimp only at hSw); go_simp; all_goals with_reducible rfl)
              repeat (first | simp only [Act.put] | simp only [List.setIfInBounds_toArray] | simp only [List.set_cons_succ] | simp only [List.set_cons_zero])
              refine wpAnyH_takeL (i := 7) (v := ?_) rfl (by kernel_rfl) (by kernel_rfl) (by kernel_rfl) (fun _ _ _ h => h) (Or.inl ⟨by rfl, ?_⟩) (by assumption) ?_
              rotate_left
              · (intro w' hSw; have cX0 := hSw.1; have cX1 := hSw.2; (try dsimp only at hSw); go_simp; all_goals with_reducible rfl)
              repeat (first | simp only [Act.put] | simp only [List.setIfInBounds_toArray] | simp only [List.set_cons_succ] | simp only [List.set_cons_zero])
              refine wpAnyH_takeL (i := 8) (v := ?_) rfl (by kernel_rfl) (by kernel_rfl) (by kernel_rfl) (fun _ _ _ h => h) (Or.inl ⟨by rfl, ?_⟩) (by assumption) ?_
              rotate_left
              · (intro w' hSw; (try dsimp only at hSw); go_simp; all_goals with_reducible rfl)
              repeat (first | simp only [Act.put] | simp only [List.setIfInBounds_toArray] | simp only [List.set_cons_succ] | simp only [List.set_cons_zero])
              refine wpAnyH_takeL (i := 9) (v := ?_) rfl (by kernel_rfl) (by kernel_rfl) (by kernel_rfl) (fun _ _ _ h => h) (Or.inl ⟨by rfl, ?_⟩) (by assumption) ?_
              rotate_left
              · (intro w' hSw; (try dsimp only at hSw); go_simp; all_goals with_reducible rfl)
              repeat (first | simp only [Act.put] | simp only [List.setIfInBounds_toArray] | simp only [List.set_cons_succ] | simp only [List.set_cons_zero])
              refine wpAnyH_takeL (i := 10) (v := ?_) rfl (by kernel_rfl) (by kernel_rfl) (by kernel_rfl) (fun _ _ _ h => h) (Or.inl ⟨by rfl, ?_⟩) (by assumption) ?_
              rotate_left
              · (intro w' hSw; (try dsimp only at hSw); go_simp; all_goals with_reducible rfl)
              repeat (first | simp only [Act.put] | simp only [List.setIfInBounds_toArray] | simp only [List.set_cons_succ] | simp only [List.set_cons_zero])
              refine wpAnyH_done (by kernel_rfl) ?_ _
              clear hH hxw
              show Oper.wp _ _ _ _ _ _
              go_simp
              have hg6 := OX.out.lt g6 rfl
              have ne6 : (⟨g6, j, none⟩ : Addr).block ≠ bx := HNE6.out
              have OY := Lib.hid (own_setI (o := j) OX.out (x + 1))
              have KY := Lib.hid (KX.out.far (p := ⟨g6, j, none⟩) (fun e => ne6 e.symm) (.int .i64 (x + 1)))
              have LY := Lib.hid ((LN.out.setCell (p := ⟨g6, j, none⟩) hg6.1 (.int .i64 (x + 1))).drew)
              obtain ⟨w7, hw7⟩ : ∃ w7, (wN.setCell ⟨g6, j, none⟩ (.int .i64 (x + 1))).drew = w7 := ⟨_, rfl⟩
              have OZ := Lib.hid (show w7.ownsRow w5.heap.size 3 1 (.slice (some ⟨g6, 0, none⟩) k c6) k (ints (R.set j (x + 1))) from by rw [← hw7]; exact OY.out)
              have KZ := Lib.hid (show Blk w7 bx 42 #[.slice (some ⟨g6, 0, none⟩) k c6, .slice B1 l d1] from by rw [← hw7]; exact KY.out)
              rw [hw7] at LY ⊢
              clear hw7
              have MY := Lib.hid (M5.out.trans LY.out)
              have y0 := KZ.out.cell 0
              have y1 := KZ.out.cell 1
              simp at y0 y1
              clear ne6 hg6 s0 s1 s2
              go_wp2_with fail
              refine (implCost_any _ _ _ _ _ _ _ _ cap cy c6 d1 ts ss _ L _ (HR.out _ MY.out) (HY.out _ MY.out) (own_RI2 OZ.out (by omega)) (HQ.out _ MY.out)).mono ?_; rintro e w8 ⟨rfl, l8⟩
              rw [HCM.out]
              have M8 := Lib.hid (MY.out.trans l8)
              have L8 := Lib.hid (LY.out.trans l8)
              clear l8 y0 y1
              obtain ⟨adI, BI, mI, dI, eI, i0', _, _, _⟩ := (HR.out _ M8.out).at_ j (by omega)
              injection eI with eI
              subst eI
              rw [addr0, HYI.out] at i0'
              obtain ⟨adP, eP, ip⟩ := (HY.out _ M8.out).at_ j (by omega)
              injection eP with eP
              subst eP
              rw [addr0, HPJ.out] at ip
              rcases hyc with ⟨hy1, hy2, hy3⟩ | ⟨hy1, hy2, hy3⟩
              · rw [if_pos hy3]
                have hxx : ((X + pj) != (X + pj)) = false := by simp
                clear hy3
                go_wp2
                go_roundw
                case rel => exact ⟨j + 1, by omega, by go_num, (fun e => by cases e), own_Le O5.out L8.out, L45.out.trans L8.out⟩
                case measure => simp [intOf]; omega
              · rw [if_neg hy3, Int.add_zero]
                have hxx : (X != X) = false := by simp
                clear hy3
                go_wp2
                go_roundw
                case rel => exact ⟨j + 1, by omega, by go_num, (fun e => by cases e), own_Le O5.out L8.out, L45.out.trans L8.out⟩
                case measure => simp [intOf]; omega
            refine consL (i := 7) rfl (fun K hK => ?_) AllReadyH.nil
            go_simp
            have sB := sA.alloc (.cells #[.slice none 0 0, .slice none 0 0] 42)
            obtain ⟨bx, hbx⟩ : ∃ bx, w5.heap.size + 1 = bx := ⟨_, rfl⟩
            have kb : Blk ((w5.alloc (.cells #[] 3)).alloc (.cells #[.slice none 0 0, .slice none 0 0] 42)).drew bx 42 #[.slice none 0 0, .slice none 0 0] := by
              have := Blk.new (w5.alloc (.cells #[] 3)) 42 #[.slice none 0 0, .slice none 0 0]
              rw [show (w5.alloc (.cells #[] 3)).heap.size = w5.heap.size + 1 from by simp] at this
              rw [← hbx]; exact this
            rw [hbx]
            refine hK.out _ _ sB (fun _ => ?_)
            clear hK K
            repeat (first | simp only [Act.put] | simp only [List.setIfInBounds_toArray] | simp only [List.set_cons_succ] | simp only [List.set_cons_zero])
            refine wpAnyH_ready (rs := [3]) (by kernel_rfl) (by simp) ?_
            refine consL (i := 3) rfl (fun K hK => ?_) AllReadyH.nil
            refine step_append_own (by rfl) (some 56) (by rfl) _ _ 40 (by rfl) w5.heap.size 3 i0 _ 1 8 Tryd.underlying40 hi0 hz0 hz1 hz2 rfl (by decide) _ 0 [] (by rfl) ((own_empty _ _ _).alloc _) ad1 k c1 (ints R) (by rfl) (by rw [ints_length]; exact (by have := HLR.out; omega)) ((HP.out _ (M5.out.trans sB)).news) (ints_one1 _) (by unfold maxLen; omega) (by omega) (by simp; try omega) ?_
            intro v6 w6 hown6 hgrow6 hnil6
            have hown6' : w6.ownsRow w5.heap.size 3 1 v6 k (ints R) := by
              rw [Nat.zero_add, List.nil_append] at hown6; exact hown6
            obtain ⟨g6, c6, rfl, _⟩ := own_formI hown6' (fun e => by
              obtain ⟨_, _, e2, _⟩ := own_open hown6' (by omega)
              rw [e] at e2; cases e2)
            clear hown6 hnil6
            have l6 := sB.grown hgrow6 (fun q hq => by simp [Value.ownBlock] at hq; omega)
            have kb6 : Blk w6 bx 42 #[.slice none 0 0, .slice none 0 0] := kb.grown hgrow6 (fun e => by simp [Value.ownBlock] at e; omega)
            have hne6 : (Value.slice (some ⟨g6, 0, none⟩) k c6).ownBlock ≠ some bx := own_ne_box hown6' (by omega) kb6
            have HNE6 := Lib.hid (show g6 ≠ bx from fun e => hne6 (by rw [e]; rfl))
            have hbx5 : w5.heap.size ≤ bx := by first | omega | (simp at hbx; omega)
            have b0 := kb6.cell 0
            have b1 := kb6.cell 1
            have f0 := kb6.frozen 0
            have f1 := kb6.frozen 1
            simp at b0 b1
            clear hgrow6
            refine hK.out _ _ l6 (fun _ => ?_)
            clear hK K
            repeat (first | simp only [Act.put] | simp only [List.setIfInBounds_toArray] | simp only [List.set_cons_succ] | simp only [List.set_cons_zero])
            refine wpAnyH_takeL (i := 6) (v := ?_) rfl (by kernel_rfl) (by kernel_rfl) (by kernel_rfl) (fun _ _ _ h => h) (Or.inl ⟨by rfl, ?_⟩) (by assumption) ?_
            rotate_left
            · (intro w' hSw; (try dsimp only at hSw); go_simp; all_goals with_reducible rfl)
            repeat (first | simp only [Act.put] | simp only [List.setIfInBounds_toArray] | simp only [List.set_cons_succ] | simp only [List.set_cons_zero])
            refine wpAnyH_takeL (i := 8) (v := ?_) rfl (by kernel_rfl) (by kernel_rfl) (by kernel_rfl) (fun _ _ _ h => h) (Or.inl ⟨by rfl, ?_⟩) (by assumption) ?_
            rotate_left
            · (intro w' hSw; (try dsimp only at hSw); go_simp; all_goals with_reducible rfl)
            repeat (first | simp only [Act.put] | simp only [List.setIfInBounds_toArray] | simp only [List.set_cons_succ] | simp only [List.set_cons_zero])
            refine wpAnyH_done (by kernel_rfl) ?_ _
            show Oper.wp _ _ _ _ _ _
            go_simp
            have kx1 := (kb6.set_ 0 (.slice (some ⟨g6, 0, none⟩) k c6)).set_ 1 (.slice B1 l d1)
            have OX := Lib.hid (own_far (own_far hown6' (p := ⟨bx, 0, none⟩) hne6 (.slice (some ⟨g6, 0, none⟩) k c6)) (p := ⟨bx, 1, none⟩) hne6 (.slice B1 l d1))
            have LN := Lib.hid ((l6.setCell (p := ⟨bx, 0, none⟩) hbx5 (.slice (some ⟨g6, 0, none⟩) k c6)).setCell (p := ⟨bx, 1, none⟩) hbx5 (.slice B1 l d1))
            obtain ⟨wN, hwN⟩ : ∃ wN, (w6.setCell ⟨bx, 0, none⟩ (.slice (some ⟨g6, 0, none⟩) k c6)).setCell ⟨bx, 1, none⟩ (.slice B1 l d1) = wN := ⟨_, rfl⟩
            rw [hwN] at kx1 OX LN ⊢
            have KX := Lib.hid (show Blk wN bx 42 #[.slice (some ⟨g6, 0, none⟩) k c6, .slice B1 l d1] from by simpa using kx1)
            clear hwN kx1 b0 b1 f0 f1 kb6 hne6 hbx5
            clear kb hbx
            have s0 := KX.out.cell 0
            have s1 := (own_cellI OX.out hlt).1
            have s2 := (own_cellI OX.out hlt).2
            simp at s0
            rw [HXJ.out] at s1
            have hxw : IntKind.i64.wrap (x + 1) = x + 1 := IntWalk.i64_in _ (by omega)
            go_wp2
            have hH : (fun w' : World => w'.cell? ⟨bx, 0, none⟩ = some (.slice (some ⟨g6, 0, none⟩) k c6) ∧ w'.cell? ⟨g6, j, none⟩ = some (.int .i64 x)) wN.drew := ⟨s0, s1⟩
            refine wp_region_last (fun w' : World => w'.cell? ⟨bx, 0, none⟩ = some (.slice (some ⟨g6, 0, none⟩) k c6) ∧ w'.cell? ⟨g6, j, none⟩ = some (.int .i64 x)) 10 _ rfl (by kernel_rfl) (by kernel_rfl) ?_
            simp only [List.setIfInBounds_toArray, List.set_cons_zero, List.set_cons_succ, idle]
            refine wpAnyH_takeL (i := 0) (v := ?_) rfl (by kernel_rfl) (by kernel_rfl) (by kernel_rfl) (fun _ _ _ h => h) (Or.inl ⟨by rfl, ?_⟩) (by assumption) ?_
            rotate_left
            · (intro w' hSw; (try dsimp only at hSw); go_simp; all_goals with_reducible rfl)
            repeat (first | simp only [Act.put] | simp only [List.setIfInBounds_toArray] | simp only [List.set_cons_succ] | simp only [List.set_cons_zero])
            refine wpAnyH_takeL (i := 1) (v := ?_) rfl (by kernel_rfl) (by kernel_rfl) (by kernel_rfl) (fun _ _ _ h => h) (Or.inl ⟨by rfl, ?_⟩) (by assumption) ?_
            rotate_left
            · (intro w' hSw; have cX0 := hSw.1; have cX1 := hSw.2; (try dsimp only at hSw); go_simp; all_goals with_reducible rfl)
            repeat (first | simp only [Act.put] | simp only [List.setIfInBounds_toArray] | simp only [List.set_cons_succ] | simp only [List.set_cons_zero])
            refine wpAnyH_takeL (i := 2) (v := ?_) rfl (by kernel_rfl) (by kernel_rfl) (by kernel_rfl) (fun _ _ _ h => h) (Or.inl ⟨by rfl, ?_⟩) (by assumption) ?_
            rotate_left
            · (intro w' hSw; (try dsimp only at hSw); go_simp; all_goals with_reducible rfl)
            repeat (first | simp only [Act.put] | simp only [List.setIfInBounds_toArray] | simp only [List.set_cons_succ] | simp only [List.set_cons_zero])
            refine wpAnyH_takeL (i := 3) (v := ?_) rfl (by kernel_rfl) (by kernel_rfl) (by kernel_rfl) (fun _ _ _ h => h) (Or.inl ⟨by rfl, ?_⟩) (by assumption) ?_
            rotate_left
            · (intro w' hSw; (try dsimp only at hSw); go_simp; all_goals with_reducible rfl)
            repeat (first | simp only [Act.put] | simp only [List.setIfInBounds_toArray] | simp only [List.set_cons_succ] | simp only [List.set_cons_zero])
            refine wpAnyH_takeL (i := 4) (v := ?_) rfl (by kernel_rfl) (by kernel_rfl) (by kernel_rfl) (fun _ _ _ h => h) (Or.inl ⟨by rfl, ?_⟩) (by assumption) ?_
            rotate_left
            · (intro w' hSw; have cX0 := hSw.1; have cX1 := hSw.2; (try dsimp only at hSw); go_simp; all_goals with_reducible rfl)
            repeat (first | simp only [Act.put] | simp only [List.setIfInBounds_toArray] | simp only [List.set_cons_succ] | simp only [List.set_cons_zero])
            refine wpAnyH_takeL (i := 5) (v := ?_) rfl (by kernel_rfl) (by kernel_rfl) (by kernel_rfl) (fun _ _ _ h => h) (Or.inl ⟨by rfl, ?_⟩) (by assumption) ?_
            rotate_left
            · (intro w' hSw; (try dsimp only at hSw); go_simp; all_goals with_reducible rfl)
            repeat (first | simp only [Act.put] | simp only [List.setIfInBounds_toArray] | simp only [List.set_cons_succ] | simp only [List.set_cons_zero])
            refine wpAnyH_takeL (i := 6) (v := ?_) rfl (by kernel_rfl) (by kernel_rfl) (by kernel_rfl) (fun _ _ _ h => h) (Or.inl ⟨by rfl, ?_⟩) (by assumption) ?_
            rotate_left
            · (intro w' hSw; (try dsimp only at hSw); go_simp; all_goals with_reducible rfl)
            repeat (first | simp only [Act.put] | simp only [List.setIfInBounds_toArray] | simp only [List.set_cons_succ] | simp only [List.set_cons_zero])
            refine wpAnyH_takeL (i := 7) (v := ?_) rfl (by kernel_rfl) (by kernel_rfl) (by kernel_rfl) (fun _ _ _ h => h) (Or.inl ⟨by rfl, ?_⟩) (by assumption) ?_
            rotate_left
            · (intro w' hSw; have cX0 := hSw.1; have cX1 := hSw.2; (try dsimp only at hSw); go_simp; all_goals with_reducible rfl)
            repeat (first | simp only [Act.put] | simp only [List.setIfInBounds_toArray] | simp only [List.set_cons_succ] | simp only [List.set_cons_zero])
            refine wpAnyH_takeL (i := 8) (v := ?_) rfl (by kernel_rfl) (by kernel_rfl) (by kernel_rfl) (fun _ _ _ h => h) (Or.inl ⟨by rfl, ?_⟩) (by assumption) ?_
            rotate_left
            · (intro w' hSw; (try dsimp only at hSw); go_simp; all_goals with_reducible rfl)
            repeat (first | simp only [Act.put] | simp only [List.setIfInBounds_toArray] | simp only [List.set_cons_succ] | simp only [List.set_cons_zero])
            refine wpAnyH_takeL (i := 9) (v := ?_) rfl (by kernel_rfl) (by kernel_rfl) (by kernel_rfl) (fun _ _ _ h => h) (Or.inl ⟨by rfl, ?_⟩) (by assumption) ?_
            rotate_left
            · (intro w' hSw; (try dsimp only at hSw); go_simp; all_goals with_reducible rfl)
            repeat (first | simp only [Act.put] | simp only [List.setIfInBounds_toArray] | simp only [List.set_cons_succ] | simp only [List.set_cons_zero])
            refine wpAnyH_takeL (i := 10) (v := ?_) rfl (by kernel_rfl) (by kernel_rfl) (by kernel_rfl) (fun _ _ _ h => h) (Or.inl ⟨by rfl, ?_⟩) (by assumption) ?_
            rotate_left
            · (intro w' hSw; (try dsimp only at hSw); go_simp; all_goals with_reducible rfl)
            repeat (first | simp only [Act.put] | simp only [List.setIfInBounds_toArray] | simp only [List.set_cons_succ] | simp only [List.set_cons_zero])
            refine wpAnyH_done (by kernel_rfl) ?_ _
            clear hH hxw
            show Oper.wp _ _ _ _ _ _
            go_simp
            have hg6 := OX.out.lt g6 rfl
            have ne6 : (⟨g6, j, none⟩ : Addr).block ≠ bx := HNE6.out
            have OY := Lib.hid (own_setI (o := j) OX.out (x + 1))
            have KY := Lib.hid (KX.out.far (p := ⟨g6, j, none⟩) (fun e => ne6 e.symm) (.int .i64 (x + 1)))
            have LY := Lib.hid ((LN.out.setCell (p := ⟨g6, j, none⟩) hg6.1 (.int .i64 (x + 1))).drew)
            obtain ⟨w7, hw7⟩ : ∃ w7, (wN.setCell ⟨g6, j, none⟩ (.int .i64 (x + 1))).drew = w7 := ⟨_, rfl⟩
            have OZ := Lib.hid (show w7.ownsRow w5.heap.size 3 1 (.slice (some ⟨g6, 0, none⟩) k c6) k (ints (R.set j (x + 1))) from by rw [← hw7]; exact OY.out)
            have KZ := Lib.hid (show Blk w7 bx 42 #[.slice (some ⟨g6, 0, none⟩) k c6, .slice B1 l d1] from by rw [← hw7]; exact KY.out)
            rw [hw7] at LY ⊢
            clear hw7
            have MY := Lib.hid (M5.out.trans LY.out)
            have y0 := KZ.out.cell 0
            have y1 := KZ.out.cell 1
            simp at y0 y1
            clear ne6 hg6 s0 s1 s2
            go_wp2_with fail
            refine (implCost_any _ _ _ _ _ _ _ _ cap cy c6 d1 ts ss _ L _ (HR.out _ MY.out) (HY.out _ MY.out) (own_RI2 OZ.out (by omega)) (HQ.out _ MY.out)).mono ?_; rintro e w8 ⟨rfl, l8⟩
            rw [HCM.out]
            have M8 := Lib.hid (MY.out.trans l8)
            have L8 := Lib.hid (LY.out.trans l8)
            clear l8 y0 y1
            obtain ⟨adI, BI, mI, dI, eI, i0', _, _, _⟩ := (HR.out _ M8.out).at_ j (by omega)
            injection eI with eI
            subst eI
            rw [addr0, HYI.out] at i0'
            obtain ⟨adP, eP, ip⟩ := (HY.out _ M8.out).at_ j (by omega)
            injection eP with eP
            subst eP
            rw [addr0, HPJ.out] at ip
            rcases hyc with ⟨hy1, hy2, hy3⟩ | ⟨hy1, hy2, hy3⟩
            · rw [if_pos hy3]
              have hxx : ((X + pj) != (X + pj)) = false := by simp
              clear hy3
              go_wp2
              go_roundw
              case rel => exact ⟨j + 1, by omega, by go_num, (fun e => by cases e), own_Le O5.out L8.out, L45.out.trans L8.out⟩
              case measure => simp [intOf]; omega
            · rw [if_neg hy3, Int.add_zero]
              have hxx : (X != X) = false := by simp
              clear hy3
              go_wp2
              go_roundw
              case rel => exact ⟨j + 1, by omega, by go_num, (fun e => by cases e), own_Le O5.out L8.out, L45.out.trans L8.out⟩
              case measure => simp [intOf]; omega

          refine consL (i := 7) rfl (fun K hK => ?_) AllReadyH.nil
          go_simp
          have sC := hS.alloc (.cells #[.slice none 0 0, .slice none 0 0] 42)
          have kb0 := Blk.new w5 42 #[.slice none 0 0, .slice none 0 0]
          have hE : ((w5.alloc (.cells #[.slice none 0 0, .slice none 0 0] 42)).alloc (.cells #[] 3)).ownsRow w5.heap.size 3 1 (.slice (some ⟨w5.heap.size + 1, 0, none⟩) 0 0) 0 [] := by
            have := own_mono (own_empty (w5.alloc (.cells #[.slice none 0 0, .slice none 0 0] 42)) 3 1) (base' := w5.heap.size) (by simp)
            simpa using this
          refine hK.out _ _ sC (fun _ => ?_)
          clear hK K
          repeat (first | simp only [Act.put] | simp only [List.setIfInBounds_toArray] | simp only [List.set_cons_succ] | simp only [List.set_cons_zero])
          refine wpAnyH_ready (rs := [0]) (by kernel_rfl) (by simp) ?_
          refine consL (i := 0) rfl (fun K hK => ?_) AllReadyH.nil
          go_simp
          have sD := sC.alloc (.cells #[] 3)
          have kb : Blk ((w5.alloc (.cells #[.slice none 0 0, .slice none 0 0] 42)).alloc (.cells #[] 3)).drew w5.heap.size 42 #[.slice none 0 0, .slice none 0 0] := (kb0.alloc _).drew
          refine hK.out _ _ sD (fun _ => ?_)
          clear hK K
          repeat (first | simp only [Act.put] | simp only [List.setIfInBounds_toArray] | simp only [List.set_cons_succ] | simp only [List.set_cons_zero])
          refine wpAnyH_ready (rs := [3]) (by kernel_rfl) (by simp) ?_
          refine consL (i := 3) rfl (fun K hK => ?_) AllReadyH.nil
          refine step_append_own (by rfl) (some 56) (by rfl) _ _ 40 (by rfl) w5.heap.size 3 i0 _ 1 8 Tryd.underlying40 hi0 hz0 hz1 hz2 rfl (by decide) _ 0 [] (by rfl) hE ad1 k c1 (ints R) (by rfl) (by rw [ints_length]; exact (by have := HLR.out; omega)) ((HP.out _ (M5.out.trans sD)).news) (ints_one1 _) (by unfold maxLen; omega) (by omega) (by simp; try omega) ?_
          intro v6 w6 hown6 hgrow6 hnil6
          have hown6' : w6.ownsRow w5.heap.size 3 1 v6 k (ints R) := by
            rw [Nat.zero_add, List.nil_append] at hown6; exact hown6
          obtain ⟨g6, c6, rfl, _⟩ := own_formI hown6' (fun e => by
            obtain ⟨_, _, e2, _⟩ := own_open hown6' (by omega)
            rw [e] at e2; cases e2)
          clear hown6 hnil6
          have l6 := sD.grown hgrow6 (fun q hq => by simp [Value.ownBlock] at hq; omega)
          have kc := kb.grown hgrow6 (fun e => by simp [Value.ownBlock] at e)
          obtain ⟨bx, hbx⟩ : ∃ bx, w5.heap.size = bx := ⟨_, rfl⟩
          rw [hbx] at kc ⊢
          have kb6 : Blk w6 bx 42 #[.slice none 0 0, .slice none 0 0] := kc
          have hne6 : (Value.slice (some ⟨g6, 0, none⟩) k c6).ownBlock ≠ some bx := own_ne_box hown6' (by omega) kb6
          have HNE6 := Lib.hid (show g6 ≠ bx from fun e => hne6 (by rw [e]; rfl))
          have hbx5 : w5.heap.size ≤ bx := by first | omega | (simp at hbx; omega)
          have b0 := kb6.cell 0
          have b1 := kb6.cell 1
          have f0 := kb6.frozen 0
          have f1 := kb6.frozen 1
          simp at b0 b1
          clear hgrow6
          refine hK.out _ _ l6 (fun _ => ?_)
          clear hK K
          repeat (first | simp only [Act.put] | simp only [List.setIfInBounds_toArray] | simp only [List.set_cons_succ] | simp only [List.set_cons_zero])
          refine wpAnyH_takeL (i := 6) (v := ?_) rfl (by kernel_rfl) (by kernel_rfl) (by kernel_rfl) (fun _ _ _ h => h) (Or.inl ⟨by rfl, ?_⟩) (by assumption) ?_
          rotate_left
          · (intro w' hSw; (try dsimp only at hSw); go_simp; all_goals with_reducible rfl)
          repeat (first | simp only [Act.put] | simp only [List.setIfInBounds_toArray] | simp only [List.set_cons_succ] | simp only [List.set_cons_zero])
          refine wpAnyH_takeL (i := 8) (v := ?_) rfl (by kernel_rfl) (by kernel_rfl) (by kernel_rfl) (fun _ _ _ h => h) (Or.inl ⟨by rfl, ?_⟩) (by assumption) ?_
          rotate_left
          · (intro w' hSw; (try dsimp only at hSw); go_simp; all_goals with_reducible rfl)
          repeat (first | simp only [Act.put] | simp only [List.setIfInBounds_toArray] | simp only [List.set_cons_succ] | simp only [List.set_cons_zero])
          refine wpAnyH_done (by kernel_rfl) ?_ _
          show Oper.wp _ _ _ _ _ _
          go_simp
          have kx1 := (kb6.set_ 0 (.slice (some ⟨g6, 0, none⟩) k c6)).set_ 1 (.slice B1 l d1)
          have OX := Lib.hid (own_far (own_far hown6' (p := ⟨bx, 0, none⟩) hne6 (.slice (some ⟨g6, 0, none⟩) k c6)) (p := ⟨bx, 1, none⟩) hne6 (.slice B1 l d1))
          have LN := Lib.hid ((l6.setCell (p := ⟨bx, 0, none⟩) hbx5 (.slice (some ⟨g6, 0, none⟩) k c6)).setCell (p := ⟨bx, 1, none⟩) hbx5 (.slice B1 l d1))
          obtain ⟨wN, hwN⟩ : ∃ wN, (w6.setCell ⟨bx, 0, none⟩ (.slice (some ⟨g6, 0, none⟩) k c6)).setCell ⟨bx, 1, none⟩ (.slice B1 l d1) = wN := ⟨_, rfl⟩
          rw [hwN] at kx1 OX LN ⊢
          have KX := Lib.hid (show Blk wN bx 42 #[.slice (some ⟨g6, 0, none⟩) k c6, .slice B1 l d1] from by simpa using kx1)
          clear hwN kx1 b0 b1 f0 f1 kb6 hne6 hbx5
          clear kb kb0 kc hbx hE
          have s0 := KX.out.cell 0
          have s1 := (own_cellI OX.out hlt).1
          have s2 := (own_cellI OX.out hlt).2
          simp at s0
          rw [HXJ.out] at s1
          have hxw : IntKind.i64.wrap (x + 1) = x + 1 := IntWalk.i64_in _ (by omega)
          go_wp2
          have hH : (fun w' : World => w'.cell? ⟨bx, 0, none⟩ = some (.slice (some ⟨g6, 0, none⟩) k c6) ∧ w'.cell? ⟨g6, j, none⟩ = some (.int .i64 x)) wN.drew := ⟨s0, s1⟩
          refine wp_region_last (fun w' : World => w'.cell? ⟨bx, 0, none⟩ = some (.slice (some ⟨g6, 0, none⟩) k c6) ∧ w'.cell? ⟨g6, j, none⟩ = some (.int .i64 x)) 10 _ rfl (by kernel_rfl) (by kernel_rfl) ?_
          simp only [List.setIfInBounds_toArray, List.set_cons_zero, List.set_cons_succ, idle]
          refine wpAnyH_takeL (i := 0) (v := ?_) rfl (by kernel_rfl) (by kernel_rfl) (by kernel_rfl) (fun _ _ _ h => h) (Or.inl ⟨by rfl, ?_⟩) (by assumption) ?_
          rotate_left
          · (intro w' hSw; (try dsimp only at hSw); go_simp; all_goals with_reducible rfl)
          repeat (first | simp only [Act.put] | simp only [List.setIfInBounds_toArray] | simp only [List.set_cons_succ] | simp only [List.set_cons_zero])
          refine wpAnyH_takeL (i := 1) (v := ?_) rfl (by kernel_rfl) (by kernel_rfl) (by kernel_rfl) (fun _ _ _ h => h) (Or.inl ⟨by rfl, ?_⟩) (by assumption) ?_
          rotate_left
          · (intro w' hSw; have cX0 := hSw.1; have cX1 := hSw.2; (try dsimp only at hSw); go_simp; all_goals with_reducible rfl)
          repeat (first | simp only [Act.put] | simp only [List.setIfInBounds_toArray] | simp only [List.set_cons_succ] | simp only [List.set_cons_zero])
          refine wpAnyH_takeL (i := 2) (v := ?_) rfl (by kernel_rfl) (by kernel_rfl) (by kernel_rfl) (fun _ _ _ h => h) (Or.inl ⟨by rfl, ?_⟩) (by assumption) ?_
          rotate_left
          · (intro w' hSw; (try dsimp only at hSw); go_simp; all_goals with_reducible rfl)
          repeat (first | simp only [Act.put] | simp only [List.setIfInBounds_toArray] | simp only [List.set_cons_succ] | simp only [List.set_cons_zero])
          refine wpAnyH_takeL (i := 3) (v := ?_) rfl (by kernel_rfl) (by kernel_rfl) (by kernel_rfl) (fun _ _ _ h => h) (Or.inl ⟨by rfl, ?_⟩) (by assumption) ?_
          rotate_left
          · (intro w' hSw; (try dsimp only at hSw); go_simp; all_goals with_reducible rfl)
          repeat (first | simp only [Act.put] | simp only [List.setIfInBounds_toArray] | simp only [List.set_cons_succ] | simp only [List.set_cons_zero])
          refine wpAnyH_takeL (i := 4) (v := ?_) rfl (by kernel_rfl) (by kernel_rfl) (by kernel_rfl) (fun _ _ _ h => h) (Or.inl ⟨by rfl, ?_⟩) (by assumption) ?_
          rotate_left
          · (intro w' hSw; have cX0 := hSw.1; have cX1 := hSw.2; (try dsimp only at hSw); go_simp; all_goals with_reducible rfl)
          repeat (first | simp only [Act.put] | simp only [List.setIfInBounds_toArray] | simp only [List.set_cons_succ] | simp only [List.set_cons_zero])
          refine wpAnyH_takeL (i := 5) (v := ?_) rfl (by kernel_rfl) (by kernel_rfl) (by kernel_rfl) (fun _ _ _ h => h) (Or.inl ⟨by rfl, ?_⟩) (by assumption) ?_
          rotate_left
          · (intro w' hSw; (try dsimp only at hSw); go_simp; all_goals with_reducible rfl)
          repeat (first | simp only [Act.put] | simp only [List.setIfInBounds_toArray] | simp only [List.set_cons_succ] | simp only [List.set_cons_zero])
          refine wpAnyH_takeL (i := 6) (v := ?_) rfl (by kernel_rfl) (by kernel_rfl) (by kernel_rfl) (fun _ _ _ h => h) (Or.inl ⟨by rfl, ?_⟩) (by assumption) ?_
          rotate_left
          · (intro w' hSw; (try dsimp only at hSw); go_simp; all_goals with_reducible rfl)
          repeat (first | simp only [Act.put] | simp only [List.setIfInBounds_toArray] | simp only [List.set_cons_succ] | simp only [List.set_cons_zero])
          refine wpAnyH_takeL (i := 7) (v := ?_) rfl (by kernel_rfl) (by kernel_rfl) (by kernel_rfl) (fun _ _ _ h => h) (Or.inl ⟨by rfl, ?_⟩) (by assumption) ?_
          rotate_left
          · (intro w' hSw; have cX0 := hSw.1; have cX1 := hSw.2; (try dsimp only at hSw); go_simp; all_goals with_reducible rfl)
          repeat (first | simp only [Act.put] | simp only [List.setIfInBounds_toArray] | simp only [List.set_cons_succ] | simp only [List.set_cons_zero])
          refine wpAnyH_takeL (i := 8) (v := ?_) rfl (by kernel_rfl) (by kernel_rfl) (by kernel_rfl) (fun _ _ _ h => h) (Or.inl ⟨by rfl, ?_⟩) (by assumption) ?_
          rotate_left
          · (intro w' hSw; (try dsimp only at hSw); go_simp; all_goals with_reducible rfl)
          repeat (first | simp only [Act.put] | simp only [List.setIfInBounds_toArray] | simp only [List.set_cons_succ] | simp only [List.set_cons_zero])
          refine wpAnyH_takeL (i := 9) (v := ?_) rfl (by kernel_rfl) (by kernel_rfl) (by kernel_rfl) (fun _ _ _ h => h) (Or.inl ⟨by rfl, ?_⟩) (by assumption) ?_
          rotate_left
          · (intro w' hSw; (try dsimp only at hSw); go_simp; all_goals with_reducible rfl)
          repeat (first | simp only [Act.put] | simp only [List.setIfInBounds_toArray] | simp only [List.set_cons_succ] | simp only [List.set_cons_zero])
          refine wpAnyH_takeL (i := 10) (v := ?_) rfl (by kernel_rfl) (by kernel_rfl) (by kernel_rfl) (fun _ _ _ h => h) (Or.inl ⟨by rfl, ?_⟩) (by assumption) ?_
          rotate_left
          · (intro w' hSw; (try dsimp only at hSw); go_simp; all_goals with_reducible rfl)
          repeat (first | simp only [Act.put] | simp only [List.setIfInBounds_toArray] | simp only [List.set_cons_succ] | simp only [List.set_cons_zero])
          refine wpAnyH_done (by kernel_rfl) ?_ _
          clear hH hxw
          show Oper.wp _ _ _ _ _ _
          go_simp
          have hg6 := OX.out.lt g6 rfl
          have ne6 : (⟨g6, j, none⟩ : Addr).block ≠ bx := HNE6.out
          have OY := Lib.hid (own_setI (o := j) OX.out (x + 1))
          have KY := Lib.hid (KX.out.far (p := ⟨g6, j, none⟩) (fun e => ne6 e.symm) (.int .i64 (x + 1)))
          have LY := Lib.hid ((LN.out.setCell (p := ⟨g6, j, none⟩) hg6.1 (.int .i64 (x + 1))).drew)
          obtain ⟨w7, hw7⟩ : ∃ w7, (wN.setCell ⟨g6, j, none⟩ (.int .i64 (x + 1))).drew = w7 := ⟨_, rfl⟩
          have OZ := Lib.hid (show w7.ownsRow w5.heap.size 3 1 (.slice (some ⟨g6, 0, none⟩) k c6) k (ints (R.set j (x + 1))) from by rw [← hw7]; exact OY.out)
          have KZ := Lib.hid (show Blk w7 bx 42 #[.slice (some ⟨g6, 0, none⟩) k c6, .slice B1 l d1] from by rw [← hw7]; exact KY.out)
          rw [hw7] at LY ⊢
          clear hw7
          have MY := Lib.hid (M5.out.trans LY.out)
          have y0 := KZ.out.cell 0
          have y1 := KZ.out.cell 1
          simp at y0 y1
          clear ne6 hg6 s0 s1 s2
          go_wp2_with fail
          refine (implCost_any _ _ _ _ _ _ _ _ cap cy c6 d1 ts ss _ L _ (HR.out _ MY.out) (HY.out _ MY.out) (own_RI2 OZ.out (by omega)) (HQ.out _ MY.out)).mono ?_; rintro e w8 ⟨rfl, l8⟩
          rw [HCM.out]
          have M8 := Lib.hid (MY.out.trans l8)
          have L8 := Lib.hid (LY.out.trans l8)
          clear l8 y0 y1
          obtain ⟨adI, BI, mI, dI, eI, i0', _, _, _⟩ := (HR.out _ M8.out).at_ j (by omega)
          injection eI with eI
          subst eI
          rw [addr0, HYI.out] at i0'
          obtain ⟨adP, eP, ip⟩ := (HY.out _ M8.out).at_ j (by omega)
          injection eP with eP
          subst eP
          rw [addr0, HPJ.out] at ip
          rcases hyc with ⟨hy1, hy2, hy3⟩ | ⟨hy1, hy2, hy3⟩
          · rw [if_pos hy3]
            have hxx : ((X + pj) != (X + pj)) = false := by simp
            clear hy3
            go_wp2
            go_roundw
            case rel => exact ⟨j + 1, by omega, by go_num, (fun e => by cases e), own_Le O5.out L8.out, L45.out.trans L8.out⟩
            case measure => simp [intOf]; omega
          · rw [if_neg hy3, Int.add_zero]
            have hxx : (X != X) = false := by simp
            clear hy3
            go_wp2
            go_roundw
            case rel => exact ⟨j + 1, by omega, by go_num, (fun e => by cases e), own_Le O5.out L8.out, L45.out.trans L8.out⟩
            case measure => simp [intOf]; omega
        · obtain rfl : j = k := by omega
          have p0 := (KP.out _ MR.out).cell 0
          have p1 := (KP.out _ MR.out).cell 1
          simp at p0 p1
          have hD : (ss.map (2 * ·)).take j = ss.map (2 * ·) := List.take_of_length_le (by rw [List.length_map, HLY.out]; exact Nat.le_refl _)
          have RD := Lib.hid (show RI wr (some ⟨gd, 0, none⟩) j (ss.map (2 * ·)) from by
            have := own_RI2 OW.out (by omega)
            rwa [hD] at this)
          obtain ⟨Z, hZ⟩ : ∃ Z, planCostL ts (ss.map (2 * ·)) R = Z := ⟨_, rfl⟩
          have hdb := HDB.out
          rw [hZ, HX.out] at hdb
          have HZ := Lib.hid hZ
          clear hZ hD
          go_wp2_with fail
          refine (implCost_any _ _ _ _ _ _ _ _ cap cd c1 d1 ts _ R L _ (HR.out _ MR.out) RD.out (HP.out _ MR.out) (HQ.out _ MR.out)).mono ?_; rintro e w9 ⟨rfl, l9⟩
          rw [HZ.out]
          have M9 := Lib.hid (MR.out.trans l9)
          clear l9 p0 p1
          by_cases hz : Z < 0
          · have hzd : decide (Z < 0) = true := decide_eq_true hz
            clear hdb
            go_wp2
            go_ret
            exact ⟨rfl, L2.out.trans M9.out⟩
          · have hzd : decide (Z < 0) = false := decide_eq_false hz
            obtain rfl : Z = 2 * X := by rcases hdb with h | h; exact absurd h hz; exact h
            have hzz : ((2 * X) == (2 * X)) = true := by simp
            clear hdb
            go_wp2
            go_ret
            exact ⟨rfl, L2.out.trans M9.out⟩
end Go.Proofs.YtoahjfofnaafaaaDoor
