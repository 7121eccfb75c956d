/- Walk: MakeRun of the program. -/
import Derived.Test.YtoahjfofnaafaaaDoorWPOkS
import Derived.Test.YtoahjfofnaafaaaDoorPLast
namespace Go.Proofs.YtoahjfofnaafaaaDoor
open Go.RowKit

def nowM (ts : List It) (stock rs : List Int) (i j q : Nat) : Int := nowP ts stock rs i q - useP (gm ts i).2.1 (gi rs i) q j
def nowL (ts : List It) (stock rs : List Int) (n i j : Nat) : List Int := (List.range n).map (nowM ts stock rs i j)
theorem nowM_zero (ts : List It) (stock rs : List Int) (i q : Nat) : nowM ts stock rs i 0 q = nowP ts stock rs i q := by
  unfold nowM
  show _ - 0 = _
  omega
theorem nowL_set {ts : List It} (stock rs : List Int) (n i j : Nat) : (nowL ts stock rs n i j).set (ofN (gm ts i).2.1 j) (nowM ts stock rs i j (ofN (gm ts i).2.1 j) - gi rs i * (gp (gm ts i).2.1 j).2) = nowL ts stock rs n i (j + 1) := by
  unfold nowL
  refine range_set n _ _ ?_ fun q _ hq => ?_
  · unfold nowM; rw [useP_succ, if_pos rfl]; omega
  · unfold nowM; rw [useP_succ, if_neg (fun (e : ofN (gm ts i).2.1 j = q) => hq e.symm)]; omega
theorem nowL_add (ts : List It) (stock rs : List Int) (n i : Nat) : (nowL ts stock rs n i (gm ts i).2.1.length).set i (nowM ts stock rs i (gm ts i).2.1.length i + gi rs i * rmI ts i) = nowL ts stock rs n (i + 1) 0 := by
  unfold nowL
  refine range_set n _ _ ?_ fun q _ hq => ?_
  · rw [nowM_zero, nowP_succ, if_pos rfl]; rfl
  · rw [nowM_zero, nowP_succ, if_neg hq]
    unfold nowM
    omega
theorem nowL_start {ts : List It} {stock : List Int} (rs : List Int) {n : Nat} (hl : stock.length = n) : nowL ts stock rs n 0 0 = stock := by
  apply ext_gi
  · simp [nowL, hl]
  · intro q hq
    have hq : q < n := by simpa [nowL] using hq
    unfold nowL
    rw [gi_range n _ hq, nowM_zero]
    unfold nowP
    rw [if_neg (by omega)]
    show _ - 0 + 0 = _
    omega
theorem nowL_end (ts : List It) (stock rs : List Int) (n : Nat) : nowL ts stock rs n n 0 = (List.range n).map (nowP ts stock rs n) := by
  unfold nowL
  exact List.map_congr_left fun q _ => nowM_zero ts stock rs n q
theorem makeOkL_eq (ts : List It) (stock rs : List Int) {n : Nat} (hl : ts.length = n) :
    makeOkL ts stock rs = (((itemsL ts && amountsOkL stock n 50) && amountsOkL rs n 9999999) && (List.range n).all fun i => (List.range (gm ts i).2.1.length).all fun j => makeAt ts stock rs i j) := by
  unfold makeOkL makeArgsL
  rw [hl]
theorem nowM_b {ts : List It} {n : Nat} (h : ItOk ts n) (hn : n ≤ 6) {stock rs : List Int} (hs : ∀ k, k < n → 0 ≤ gi stock k ∧ gi stock k ≤ 50) {m : Nat} (hm : m ≤ n) (hr : ∀ k, k < m → 0 ≤ gi rs k ∧ gi rs k ≤ 9999999) {i j q : Nat} (hi : i < m) (hj : j ≤ (gm ts i).2.1.length) (hq : q < n) :
    -1259999874 ≤ nowM ts stock rs i j q ∧ nowM ts stock rs i j q ≤ 60000044 := by
  have h1 := nowP_b h hn hs hm hr (i := i) (by omega) hq
  have h2 := useP_3 h (show i < n by omega) (hr i hi).1 (hr i hi).2 q j hj
  unfold nowM
  omega

set_option maxRecDepth 20000 in
set_option maxHeartbeats 4000000 in
theorem implMake_any (A C D E : Option Addr) (n r s t c e f g : Nat) (ts : List It) (stock rs ls : List Int) (w : World) (h : RM w A n ts) (h2 : RI w C r stock) (h3 : RI w D s rs) (_h4 : RI w E t ls) :
    Calls Tryd.prog 32 #[.slice A n c, .slice C r e, .agg #[.slice D s f, .slice E t g]] w fun o w' => ∃ v, o = .returned (.tuple #[v, .bool (makeOkL ts stock rs)]) ∧ w'.ownsRow w.heap.size 3 1 v (makeL ts stock rs).length (ints (makeL ts stock rs)) ∧ Le w w' := by
  have l0 := (Le.refl w).alloc (.cells #[.slice D s f, .slice E t g] 42)
  have k0 := Blk.new w 42 #[.slice D s f, .slice E t g]
  generalize hwz : w.alloc (.cells #[.slice D s f, .slice E t g] 42) = wz at *
  have hv := implItemsValid_any A n c ts wz (h.le l0)
  have ha := fun w' (l : Le wz w') => amountsOk_any C r e stock n 50 w' (h2.le (l0.trans l))
  have hb' := fun w' (l : Le wz w') => amountsOk_any D s f rs n 9999999 w' (h3.le (l0.trans l))
  have hl := h.len
  have hl2 := h2.len
  have hl3 := h3.len
  have hm := h.max
  have hms := h3.max
  have e0 := makeOkL_eq ts stock rs hl
  have hcell : ∀ w', Le wz w' → w'.cell? ⟨w.heap.size, 0, none⟩ = some (.slice D s f) := fun w' l => by simpa using (k0.le l).cell 0
  have hbad : makeOkL ts stock rs = false → makeL ts stock rs = [] := fun hb => by unfold makeL; rw [hb]; rfl
  have HA := Lib.hid ha
  have HB := Lib.hid hb'
  have HCL := Lib.hid hcell
  have L0 := Lib.hid l0
  have HH := Lib.hid h
  have H2 := Lib.hid h2
  have HC := Lib.hid h.at_
  have HC3 := Lib.hid h3.at_
  have hwzs : w.heap.size < wz.heap.size := k0.lt
  clear ha hb' hcell k0 l0 h h2 h3
  cases hb : itemsL ts
  · have hno : makeOkL ts stock rs = false := by rw [e0, hb]; rfl
    rw [hb] at hv
    rw [hbad hno, hno]
    have HV := Lib.hid hv
    clear hv hb e0 hbad hno
    go_enter Tryd.func32, Tryd.ntmps32
    go_wp2_with (go_at_call 73; refine HV.out.mono ?_; rintro o w1 ⟨rfl, l1⟩)
    go_ret2
    exact ⟨_, rfl, World.ownsRow_nil _ _ _ _, L0.out.trans l1⟩
  · rw [hb] at hv
    have HV := Lib.hid hv
    clear hv
    cases hb2 : amountsOkL stock n 50
    · have hno : makeOkL ts stock rs = false := by rw [e0, hb, hb2]; rfl
      simp only [hb2] at HA
      rw [hbad hno, hno]
      clear hb hb2 e0 hbad hno
      go_enter Tryd.func32, Tryd.ntmps32
      go_wp2_with fail
      refine HV.out.mono ?_; rintro o w1 ⟨rfl, l1⟩
      go_wp2_with (go_at_call 60; refine (HA.out _ l1).mono ?_; rintro e w' ⟨rfl, rfl⟩)
      go_ret2
      exact ⟨_, rfl, World.ownsRow_nil _ _ _ _, L0.out.trans l1⟩
    · simp only [hb2] at HA
      cases hb3 : amountsOkL rs n 9999999
      · have hno : makeOkL ts stock rs = false := by rw [e0, hb, hb2, hb3]; rfl
        simp only [hb3] at HB
        rw [hbad hno, hno]
        clear hb hb2 hb3 e0 hbad hno
        go_enter Tryd.func32, Tryd.ntmps32
        go_wp2_with fail
        refine HV.out.mono ?_; rintro o w1 ⟨rfl, l1⟩
        have a0 := HCL.out _ l1
        go_wp2_with fail
        refine (HA.out _ l1).mono ?_; rintro e w' ⟨rfl, rfl⟩
        go_wp2_with fail
        refine (HB.out _ l1).mono ?_; rintro e w' ⟨rfl, rfl⟩
        go_wp2
        go_ret2
        exact ⟨_, rfl, World.ownsRow_nil _ _ _ _, L0.out.trans l1⟩
      · simp only [hb3] at HB
        obtain ⟨hn6, hok⟩ := items_facts hl hb
        obtain ⟨hsl, hsf⟩ := amounts_facts hb2
        obtain ⟨hrl, hrf⟩ := amounts_facts hb3
        obtain rfl : s = n := by omega
        obtain rfl : s = r := by omega
        obtain ⟨V, hV⟩ : ∃ V, V = makeOkL ts stock rs := ⟨_, rfl⟩
        have hvv : V = (List.range s).all fun i => (List.range (gm ts i).2.1.length).all fun j => makeAt ts stock rs i j := by rw [hV, e0, hb, hb2, hb3]; rfl
        have hgood : V = true → makeL ts stock rs = nowL ts stock rs s s 0 := fun e => by
          unfold makeL; rw [← hV, if_pos e, hl, nowL_end]
        rw [← hV] at hbad ⊢
        have HVV := Lib.hid hvv
        have HG := Lib.hid hgood
        have HBAD := Lib.hid hbad
        have HOK := Lib.hid (show ItOk ts s from hok)
        have HS := Lib.hid hsf
        have HR := Lib.hid hrf
        have hcp := fun w' (l : Le wz w') => copyInts_any C s e stock w' (H2.out.le (L0.out.trans l)) (by omega)
        have HCP := Lib.hid hcp
        have hst0 := nowL_start (ts := ts) rs hsl
        clear hV hvv hgood hbad hok hsf hrf hb hb2 hb3 e0 hcp
        generalize makeL ts stock rs = M at *
        go_enter Tryd.func32, Tryd.ntmps32
        go_wp2_with fail
        refine HV.out.mono ?_; rintro o w1 ⟨rfl, l1⟩
        have a0 := HCL.out _ l1
        go_wp2_with fail
        refine (HA.out _ l1).mono ?_; rintro o w' ⟨rfl, rfl⟩
        go_wp2_with fail
        refine (HB.out _ l1).mono ?_; rintro o w' ⟨rfl, rfl⟩
        go_wp2_with fail
        refine (HCP.out _ l1).mono ?_; rintro o w2 ⟨v, rfl, ho, l2⟩
        rw [hsl] at ho
        rw [← hst0] at ho
        have L1 := Lib.hid l1
        have HO0 := Lib.hid ho
        have L2 := Lib.hid l2
        clear a0 l1 l2 ho hst0
        have hw1s := L1.out.size
        go_wp2
        go_loopw [35] (fun i wr => ∃ k : Nat, k ≤ s ∧ i = .int .i64 k ∧ Le w1 wr ∧ wr.ownsRow w1.heap.size 3 1 v s (ints (nowL ts stock rs s k 0)) ∧ AllTo (fun i => (List.range (gm ts i).2.1.length).all fun j => makeAt ts stock rs i j) k) (fun i _ => s - (intOf i).toNat)
        case atStart => exact ⟨0, Nat.zero_le _, rfl, L2.out, HO0.out, AllTo.zero _⟩
        case round =>
          obtain ⟨k, hk, rfl, hle, hown, hall⟩ := hrel
          by_cases hlt : k < s
          · obtain ⟨wo, hwo⟩ : ∃ wo, wo = wr := ⟨_, rfl⟩
            subst hwo
            obtain ⟨ad, B1, m1, d1, rfl, hc1, hc2, hc3, hr⟩ := HC.out k hlt
            obtain ⟨ad3, rfl, hc6⟩ := HC3.out k hlt
            obtain ⟨g1, cap, rfl, hg1, hg2, hcap, _, _⟩ := own_open hown (by omega)
            have lw := (L0.out.trans L1.out).trans hle
            have c1 := lw.cell hc1
            have c2 := lw.cell hc2
            have c3 := lw.cell hc3
            have hlen := hr.len
            have hmx := hr.max
            have HRW := Lib.hid (fun w' (l : Le w w') j (hj : j < m1) => (hr.le l).at_ j hj)
            have HC6 := Lib.hid (fun w' (l : Le w w') => l.cell hc6)
            have hi1 : (0 : Int) ≤ (k : Int) := by omega
            have hi2 : (k : Int) < (s : Int) := by omega
            have hC : decide ((k : Int) < (s : Int)) = true := by simp; omega
            have hC2 : decide (k < s) = true := by simp; omega
            have lb := (Le.refl wo).alloc (.cells #[.int .i64 (gm ts k).1, .slice B1 m1 d1, .int .i64 (gm ts k).2.2] 26)
            have kb := Blk.new wo 26 #[.int .i64 (gm ts k).1, .slice B1 m1 d1, .int .i64 (gm ts k).2.2]
            generalize hwb : wo.alloc (.cells #[.int .i64 (gm ts k).1, .slice B1 m1 d1, .int .i64 (gm ts k).2.2] 26) = wb at *
            obtain ⟨wi, hwi⟩ : ∃ wi, wi = wo.heap.size := ⟨_, rfl⟩
            have x1 := kb.cell 1
            simp at x1
            have hb0 := own_Le hown lb
            have hlb := hle.trans lb
            have HKB := Lib.hid kb
            have HB0 := Lib.hid hb0
            have HLB := Lib.hid hlb
            have HALL := Lib.hid hall
            clear hc1 hc2 hc3 hc6 hr hown hle lw lb kb hall hb0 hlb
            go_wp2
            clear c1 c2 c3 x1
            go_loopw [43] (fun i wr => ∃ j : Nat, j ≤ m1 ∧ i = .int .i64 j ∧ Le w1 wr ∧ wr.ownsRow w1.heap.size 3 1 (.slice (some ⟨g1, 0, none⟩) s cap) s (ints (nowL ts stock rs s k j)) ∧ Blk wr wo.heap.size 26 #[.int .i64 (gm ts k).1, .slice B1 m1 d1, .int .i64 (gm ts k).2.2] ∧ AllTo (fun j => makeAt ts stock rs k j) j) (fun i _ => m1 - (intOf i).toNat)
            case atStart => exact ⟨0, Nat.zero_le _, rfl, HLB.out, HB0.out, HKB.out, AllTo.zero _⟩
            case round =>
              obtain ⟨j, hj, rfl, hle, hown, hkb, hat⟩ := hrel
              have lw2 := (L0.out.trans L1.out).trans hle
              by_cases hjm : j < m1
              · obtain ⟨ad1', rfl, hp1, hp2⟩ := HRW.out _ lw2 j hjm
                obtain ⟨r1, r2, r3, r4⟩ := HOK.out.part hlt (j := j) (by rw [hlen]; exact hjm)
                have hcb := nowM_b HOK.out (by omega) HS.out (Nat.le_refl s) HR.out hlt (j := j) (q := ofN (gm ts k).2.1 j) (by omega) (by omega)
                have hkr := HR.out k hlt
                have hst := nowL_set (ts := ts) stock rs s k j
                have hmk : makeAt ts stock rs k j = decide (0 ≤ nowM ts stock rs k j (ofN (gm ts k).2.1 j) - gi rs k * (gp (gm ts k).2.1 j).2) := by
                  unfold makeAt nowM
                  rw [useP_succ, if_pos rfl, decide_eq_decide]; omega
                obtain ⟨g', cap', hv', _, hg2', _, hfz, hcl⟩ := own_open hown (by omega)
                injection hv' with e1 e2 e3
                injection e1 with e1
                injection e1 with e1
                subst e1
                clear e2 e3
                have d1 := hcl (ofN (gm ts k).2.1 j) (by omega)
                unfold nowL at d1
                rw [gi_range s _ (by omega)] at d1
                have c6 := HC6.out _ lw2
                have c0 := HCL.out _ (L1.out.trans hle)
                rw [r1] at hp1
                obtain ⟨F, hF⟩ : ∃ F, F = nowM ts stock rs k j (ofN (gm ts k).2.1 j) := ⟨_, rfl⟩
                rw [← hF] at d1 hcb hst hmk
                obtain ⟨mn, hmn⟩ : ∃ mn, mn = (gp (gm ts k).2.1 j).2 := ⟨_, rfl⟩
                rw [← hmn] at hp2 hst r3 r4 hmk
                obtain ⟨o, hoo⟩ : ∃ o, o = ofN (gm ts k).2.1 j := ⟨_, rfl⟩
                rw [← hoo] at d1 hst hp1 r2
                obtain ⟨P, hP⟩ : ∃ P, P = gi rs k * mn := ⟨_, rfl⟩
                have hP0 : 0 ≤ P := by rw [hP]; exact Int.mul_nonneg hkr.1 (by omega)
                have hP1 : P ≤ 9999999 * 6 := by rw [hP]; exact Int.mul_le_mul hkr.2 r4 (by omega) (by omega)
                rw [← hP] at hst hmk
                have hv1 : IntKind.i64.wrap (gi rs k * mn) = P := by rw [← hP]; exact IntWalk.i64_in _ (by omega)
                have hv2 : IntKind.i64.wrap (F - P) = F - P := IntWalk.i64_in _ (by omega)
                have hj1 : (0 : Int) ≤ (o : Int) := by omega
                have hj2 : (o : Int) < (s : Int) := by omega
                have l1 := (Le.refl wr).alloc (.cells #[.int .i64 (o : Int), .int .i64 mn] 80)
                have k1 := Blk.new wr 80 #[.int .i64 (o : Int), .int .i64 mn]
                have hz := hfz o
                have ho2 := own_Le hown l1
                obtain ⟨_, _, hv2', _, _, _, hfz2, _⟩ := own_open ho2 (by omega)
                injection hv2' with f1 f2 f3
                injection f1 with f1
                injection f1 with f1
                subst f1
                clear f2 f3
                have z2 := hfz2 o
                generalize hwk : wr.alloc (.cells #[.int .i64 (o : Int), .int .i64 mn] 80) = wk at *
                have b0' := k1.cell 0
                have b1 := k1.cell 1
                simp at b0' b1
                have d1' := l1.cell d1
                have c6' := l1.cell c6
                have c0' := l1.cell c0
                have h5 := own_setI ho2 (o := o) (F - P)
                have k5 := k1.far (p := ⟨g1, o, none⟩) (show wr.heap.size ≠ g1 by omega) (.int .i64 (F - P))
                have i5 := (hkb.le l1).far (p := ⟨g1, o, none⟩) (show wo.heap.size ≠ g1 by omega) (.int .i64 (F - P))
                have l5 := (hle.trans l1).setCell (p := ⟨g1, o, none⟩) hg1 (.int .i64 (F - P))
                rw [hst] at h5
                generalize hw5 : wk.setCell ⟨g1, o, none⟩ (.int .i64 (F - P)) = w5 at *
                obtain ⟨_, _, hv5, _, _, _, _, hcl5⟩ := own_open h5 (by omega)
                injection hv5 with f1 f2 f3
                injection f1 with f1
                injection f1 with f1
                subst f1
                clear f2 f3
                have d5 := hcl5 o (by omega)
                unfold nowL at d5
                rw [gi_range s _ (by omega)] at d5
                have hF5 : nowM ts stock rs k (j + 1) o = F - P := by
                  unfold nowM
                  rw [useP_succ, hoo, if_pos rfl, hF, hP, hmn]
                  unfold nowM
                  omega
                rw [hF5] at d5
                have p5 := k5.cell 0
                simp at p5
                have HO5 := Lib.hid h5
                have HL5 := Lib.hid l5
                have HI5 := Lib.hid i5
                have HMK := Lib.hid hmk
                clear hcl hfz hfz2 hst hF hmn hP hoo hown ho2 hle l1 k1 r1 hcb hkr hP0 hP1 lw2 h5 l5 i5 k5 hcl5 hF5 hkb hmk
                by_cases hneg : F - P < 0
                · have hno : V = false := by
                    rw [HVV.out]
                    exact all_bad hlt (all_bad (by rw [hlen]; exact hjm) (by rw [HMK.out]; exact decide_eq_false (by omega)))
                  have hM := HBAD.out hno
                  subst hno
                  subst hM
                  go_wp2
                  go_still_tail 15, (by kernel_rfl)
                  change wpList _ _ _ _ _ wk.drew
                  go_wp2
                  go_ret2
                  exact ⟨_, rfl, World.ownsRow_nil _ _ _ _, ((L0.out.trans L1.out).trans HL5.out).drew⟩
                · have hyes : makeAt ts stock rs k j = true := by rw [HMK.out]; exact decide_eq_true (by omega)
                  go_wp2
                  go_still_tail 15, (by kernel_rfl)
                  change wpList _ _ _ _ _ wk.drew
                  go_wp2
                  go_roundw
                  case rel => exact ⟨j + 1, by omega, by go_num, HL5.out.drew, HO5.out.drew, HI5.out.drew, hat.succ hyes⟩
                  case measure => simp [intOf]; omega
              · obtain rfl : j = m1 := by omega
                have hs2 := HOK.out.rm hlt
                have hkr := HR.out k hlt
                have hcb := nowM_b HOK.out (by omega) HS.out (Nat.le_refl s) HR.out hlt (j := j) (q := k) (by omega) hlt
                have hadd := nowL_add ts stock rs s k
                rw [hlen] at hadd
                obtain ⟨g', cap', hv', _, hg2', _, hfz, hcl⟩ := own_open hown (by omega)
                injection hv' with e1 e2 e3
                injection e1 with e1
                injection e1 with e1
                subst e1
                clear e2 e3
                have d0 := hcl k hlt
                unfold nowL at d0
                rw [gi_range s _ hlt] at d0
                obtain ⟨F, hF⟩ : ∃ F, F = nowM ts stock rs k j k := ⟨_, rfl⟩
                rw [← hF] at d0 hcb hadd
                obtain ⟨R, hR⟩ : ∃ R, R = rmI ts k := ⟨_, rfl⟩
                rw [← hR] at hs2 hadd
                obtain ⟨P, hP⟩ : ∃ P, P = gi rs k * R := ⟨_, rfl⟩
                have hP0 : 0 ≤ P := by rw [hP]; exact Int.mul_nonneg hkr.1 (by omega)
                have hP1 : P ≤ 9999999 * 6 := by rw [hP]; exact Int.mul_le_mul hkr.2 hs2.2 (by omega) (by omega)
                rw [← hP] at hadd
                have hv1 : IntKind.i64.wrap (gi rs k * R) = P := by rw [← hP]; exact IntWalk.i64_in _ (by omega)
                have hv2 : IntKind.i64.wrap (F + P) = F + P := IntWalk.i64_in _ (by omega)
                have hrm : ∀ w', Calls Tryd.prog 69 #[.agg #[.int .i64 (gm ts k).1, .slice B1 j d1, .int .i64 (gm ts k).2.2]] w' fun e w'' => e = .returned (.int .i64 R) ∧ Le w' w'' := fun w' => by
                  have := runMakes_any (gm ts k).1 B1 j d1 (gm ts k).2.2 w'
                  rw [hR]; exact this
                have HRM := Lib.hid hrm
                have hgw : g1 < wo.heap.size := by omega
                have hkp : ∀ w', wr.grownBy w' (some g1) → w'.cell? ⟨w.heap.size, 0, none⟩ = some (.slice (some ad3) s f) ∧ w'.cell? (ad3.add k) = some (.int .i64 (gi rs k)) ∧ w'.cell? ⟨wo.heap.size, 0, none⟩ = some (.int .i64 (gm ts k).1) ∧ w'.cell? ⟨wo.heap.size, 1, none⟩ = some (.slice B1 j d1) ∧ w'.cell? ⟨wo.heap.size, 2, none⟩ = some (.int .i64 (gm ts k).2.2) := fun w' hg => by
                  have q1 := hle.grown hg (fun q hq => by injection hq with hq; omega)
                  have b2 := hkb.grown hg (fun e => by injection e with e; omega)
                  have y0 := b2.cell 0
                  have y1 := b2.cell 1
                  have y2 := b2.cell 2
                  simp at y0 y1 y2
                  exact ⟨HCL.out _ (L1.out.trans q1), HC6.out _ ((L0.out.trans L1.out).trans q1), y0, y1, y2⟩
                have HKP := Lib.hid hkp
                have HOW := Lib.hid hown
                have HLE := Lib.hid hle
                have HADD := Lib.hid hadd
                obtain ⟨s1, s2, s3, s4, s5⟩ := hkp wr (World.grownBy.refl _ _)
                have hgood : ((List.range (gm ts k).2.1.length).all fun j => makeAt ts stock rs k j) = true := by rw [hlen]; exact all_good hat
                have HGD := Lib.hid hgood
                clear hcl hfz hown hle hkb hkp hrm hadd hF hP hR hP0 hP1 hcb hkr hs2 lw2 hgood hat
                go_wp2
                have hheld : (fun w' => w'.cell? ⟨w.heap.size, 0, none⟩ = some (.slice (some ad3) s f) ∧ w'.cell? (ad3.add k) = some (.int .i64 (gi rs k)) ∧ w'.cell? ⟨wo.heap.size, 0, none⟩ = some (.int .i64 (gm ts k).1) ∧ w'.cell? ⟨wo.heap.size, 1, none⟩ = some (.slice B1 j d1) ∧ w'.cell? ⟨wo.heap.size, 2, none⟩ = some (.int .i64 (gm ts k).2.2) ∧ w'.cell? ⟨g1, k, none⟩ = some (.int .i64 F)) wr.drew := ⟨s1, s2, s3, s4, s5, d0⟩
                refine wp_region_last (fun w' => w'.cell? ⟨w.heap.size, 0, none⟩ = some (.slice (some ad3) s f) ∧ w'.cell? (ad3.add k) = some (.int .i64 (gi rs k)) ∧ w'.cell? ⟨wo.heap.size, 0, none⟩ = some (.int .i64 (gm ts k).1) ∧ w'.cell? ⟨wo.heap.size, 1, none⟩ = some (.slice B1 j d1) ∧ w'.cell? ⟨wo.heap.size, 2, none⟩ = some (.int .i64 (gm ts k).2.2) ∧ w'.cell? ⟨g1, k, none⟩ = some (.int .i64 F)) 14 _ rfl (by kernel_rfl) (by kernel_rfl) ?_
                simp only [List.setIfInBounds_toArray, List.set_cons_zero, List.set_cons_succ, idle]
                refine wpAnyH_take (i := 0) (v := ?_) rfl (by kernel_rfl) (by kernel_rfl) (by kernel_rfl) (fun _ _ _ h => h) (Or.inl ⟨by rfl, ?_⟩) (by assumption) ?_
                rotate_left
                · (intro w' hSw; (try dsimp only at hSw); go_simp; all_goals with_reducible rfl)
                repeat (first | simp only [Act.put] | simp only [List.setIfInBounds_toArray] | simp only [List.set_cons_succ] | simp only [List.set_cons_zero])
                refine wpAnyH_take (i := 1) (v := ?_) rfl (by kernel_rfl) (by kernel_rfl) (by kernel_rfl) (fun _ _ _ h => h) (Or.inl ⟨by rfl, ?_⟩) (by assumption) ?_
                rotate_left
                · (intro w' hSw; (try dsimp only at hSw); go_simp; all_goals with_reducible rfl)
                repeat (first | simp only [Act.put] | simp only [List.setIfInBounds_toArray] | simp only [List.set_cons_succ] | simp only [List.set_cons_zero])
                refine wpAnyH_take (i := 2) (v := ?_) rfl (by kernel_rfl) (by kernel_rfl) (by kernel_rfl) (fun _ _ _ h => h) (Or.inl ⟨by rfl, ?_⟩) (by assumption) ?_
                rotate_left
                · (intro w' hSw; (try dsimp only at hSw); go_simp; all_goals with_reducible rfl)
                repeat (first | simp only [Act.put] | simp only [List.setIfInBounds_toArray] | simp only [List.set_cons_succ] | simp only [List.set_cons_zero])
                refine wpAnyH_take (i := 3) (v := ?_) rfl (by kernel_rfl) (by kernel_rfl) (by kernel_rfl) (fun _ _ _ h => h) (Or.inl ⟨by rfl, ?_⟩) (by assumption) ?_
                rotate_left
                · (intro w' hSw; (try dsimp only at hSw); go_simp; all_goals with_reducible rfl)
                repeat (first | simp only [Act.put] | simp only [List.setIfInBounds_toArray] | simp only [List.set_cons_succ] | simp only [List.set_cons_zero])
                refine wpAnyH_take (i := 4) (v := ?_) rfl (by kernel_rfl) (by kernel_rfl) (by kernel_rfl) (fun _ _ _ h => h) (Or.inl ⟨by rfl, ?_⟩) (by assumption) ?_
                rotate_left
                · (intro w' hSw; (try dsimp only at hSw); go_simp; all_goals with_reducible rfl)
                repeat (first | simp only [Act.put] | simp only [List.setIfInBounds_toArray] | simp only [List.set_cons_succ] | simp only [List.set_cons_zero])
                refine wpAnyH_take (i := 5) (v := ?_) rfl (by kernel_rfl) (by kernel_rfl) (by kernel_rfl) (fun _ _ _ h => h) (Or.inl ⟨by rfl, ?_⟩) (by assumption) ?_
                rotate_left
                · (intro w' hSw; (try dsimp only at hSw); go_simp; all_goals with_reducible rfl)
                repeat (first | simp only [Act.put] | simp only [List.setIfInBounds_toArray] | simp only [List.set_cons_succ] | simp only [List.set_cons_zero])
                refine wpAnyH_take (i := 6) (v := ?_) rfl (by kernel_rfl) (by kernel_rfl) (by kernel_rfl) (fun _ _ _ h => h) (Or.inl ⟨by rfl, ?_⟩) (by assumption) ?_
                rotate_left
                · (intro w' hSw; (try dsimp only at hSw); go_simp; all_goals with_reducible rfl)
                repeat (first | simp only [Act.put] | simp only [List.setIfInBounds_toArray] | simp only [List.set_cons_succ] | simp only [List.set_cons_zero])
                refine wpAnyH_take (i := 7) (v := ?_) rfl (by kernel_rfl) (by kernel_rfl) (by kernel_rfl) (fun _ _ _ h => h) (Or.inl ⟨by rfl, ?_⟩) (by assumption) ?_
                rotate_left
                · (intro w' hSw; (try dsimp only at hSw); go_simp; all_goals with_reducible rfl)
                repeat (first | simp only [Act.put] | simp only [List.setIfInBounds_toArray] | simp only [List.set_cons_succ] | simp only [List.set_cons_zero])
                refine wpAnyH_take (i := 8) (v := ?_) rfl (by kernel_rfl) (by kernel_rfl) (by kernel_rfl) (fun _ _ _ h => h) (Or.inl ⟨by rfl, ?_⟩) (by assumption) ?_
                rotate_left
                · (intro w' hSw; (try dsimp only at hSw); go_simp; all_goals with_reducible rfl)
                repeat (first | simp only [Act.put] | simp only [List.setIfInBounds_toArray] | simp only [List.set_cons_succ] | simp only [List.set_cons_zero])
                refine wpAnyH_take (i := 9) (v := ?_) rfl (by kernel_rfl) (by kernel_rfl) (by kernel_rfl) (fun _ _ _ h => h) (Or.inl ⟨by rfl, ?_⟩) (by assumption) ?_
                rotate_left
                · (intro w' hSw; (try dsimp only at hSw); go_simp; all_goals with_reducible rfl)
                repeat (first | simp only [Act.put] | simp only [List.setIfInBounds_toArray] | simp only [List.set_cons_succ] | simp only [List.set_cons_zero])
                refine wpAnyH_ready (rs := [10]) (by kernel_rfl) (by simp) ?_
                refine AllReadyH.cons (i := 10) rfl (fun K hK => ?_) AllReadyH.nil
                go_simp
                refine (HRM.out _).mono ?_; rintro e w3 ⟨rfl, l3⟩
                (try go_wp2_with fail)
                have gb3 := gb_le (gb_drew (World.grownBy.refl wr (some g1))) l3
                obtain ⟨t1, t2, t3, t4, t5⟩ := HKP.out _ gb3
                have d3 := ((Le.refl wr).drew.trans l3).cell d0
                have o3 := own_Le HOW.out ((Le.refl wr).drew.trans l3)
                obtain ⟨_, _, hv3, _, _, _, hfz3, _⟩ := own_open o3 (by omega)
                injection hv3 with f1 f2 f3
                injection f1 with f1
                injection f1 with f1
                subst f1
                have z3 := hfz3 k
                clear f2 f3 hfz3
                have HO3 := Lib.hid o3
                clear o3 gb3 hheld
                refine hK.out _ _ ⟨t1, t2, t3, t4, t5, d3⟩ (fun hHeld => ?_)
                clear hK K
                repeat (first | simp only [Act.put] | simp only [List.setIfInBounds_toArray] | simp only [List.set_cons_succ] | simp only [List.set_cons_zero])
                refine wpAnyH_take (i := 11) (v := ?_) rfl (by kernel_rfl) (by kernel_rfl) (by kernel_rfl) (fun _ _ _ h => h) (Or.inl ⟨by rfl, ?_⟩) (by assumption) ?_
                rotate_left
                · (intro w' hSw; (try dsimp only at hSw); go_simp; all_goals with_reducible rfl)
                repeat (first | simp only [Act.put] | simp only [List.setIfInBounds_toArray] | simp only [List.set_cons_succ] | simp only [List.set_cons_zero])
                refine wpAnyH_take (i := 12) (v := ?_) rfl (by kernel_rfl) (by kernel_rfl) (by kernel_rfl) (fun _ _ _ h => h) (Or.inl ⟨by rfl, ?_⟩) (by assumption) ?_
                rotate_left
                · (intro w' hSw; (try dsimp only at hSw); go_simp; all_goals with_reducible rfl)
                repeat (first | simp only [Act.put] | simp only [List.setIfInBounds_toArray] | simp only [List.set_cons_succ] | simp only [List.set_cons_zero])
                refine wpAnyH_take (i := 13) (v := ?_) rfl (by kernel_rfl) (by kernel_rfl) (by kernel_rfl) (fun _ _ _ h => h) (Or.inl ⟨by rfl, ?_⟩) (by assumption) ?_
                rotate_left
                · (intro w' hSw; (try dsimp only at hSw); go_simp; all_goals with_reducible rfl)
                repeat (first | simp only [Act.put] | simp only [List.setIfInBounds_toArray] | simp only [List.set_cons_succ] | simp only [List.set_cons_zero])
                refine wpAnyH_take (i := 14) (v := ?_) rfl (by kernel_rfl) (by kernel_rfl) (by kernel_rfl) (fun _ _ _ h => h) (Or.inl ⟨by rfl, ?_⟩) (by assumption) ?_
                rotate_left
                · (intro w' hSw; (try dsimp only at hSw); go_simp; all_goals with_reducible rfl)
                repeat (first | simp only [Act.put] | simp only [List.setIfInBounds_toArray] | simp only [List.set_cons_succ] | simp only [List.set_cons_zero])
                refine wpAnyH_done (by kernel_rfl) ?_ _
                clear hHeld
                show Oper.wp _ _ _ _ _ _
                go_simp
                have L3 := Lib.hid l3
                clear l3
                go_wp2
                go_roundw
                case rel =>
                  refine ⟨k + 1, by omega, by go_num, (HLE.out.trans ((Le.refl wr).drew.trans L3.out)).setCell hg1 _, ?_, HALL.out.succ HGD.out⟩
                  rw [← HADD.out]
                  exact own_setI HO3.out _
                case measure => simp [intOf]; omega
          · obtain rfl : k = s := by omega
            have hyes : V = true := by rw [HVV.out]; exact all_good hall
            have hM := HG.out hyes
            subst hyes
            subst hM
            have hlw := (L0.out.trans L1.out).trans hle
            go_wp2
            go_ret2
            refine ⟨_, rfl, ?_, hlw⟩
            have hln : (nowL ts stock rs k k 0).length = k := by simp [nowL]
            rw [hln]
            exact own_mono hown (by omega)
end Go.Proofs.YtoahjfofnaafaaaDoor
