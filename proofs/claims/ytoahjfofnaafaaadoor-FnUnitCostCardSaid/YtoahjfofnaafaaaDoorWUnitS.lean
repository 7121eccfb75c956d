/- Walk: UnitCost of the reference. -/
import Derived.Test.YtoahjfofnaafaaaDoorWUnitI
import Derived.Test.YtoahjfofnaafaaaDoorWApp
import Derived.Deep.AppendLies
namespace Go.Proofs.YtoahjfofnaafaaaDoor
open Go.RowKit

theorem wrap_div (a g : Nat) (ha : a ≤ 9223372036854775807) : wrap64 ((a : Int) / (g : Int)) = ((a / g : Nat) : Int) := by
  have h1 : (a : Int) / (g : Int) = ((a / g : Nat) : Int) := rfl
  have h2 := Nat.div_le_self a g
  generalize a / g = z at *
  rw [h1]
  exact IntWalk.wrap64_in _ (by omega)
theorem fin_nums {n D : Nat} (hD : 0 < D) (h1 : n ≤ 9223372036854775807) (h2 : D ≤ 9223372036854775807) :
    ∃ g x1 x2 : Nat, Nat.gcd n D = g ∧ 0 < g ∧ wrap64 ((n : Int) / (g : Int)) = (x1 : Int) ∧ wrap64 ((D : Int) / (g : Int)) = (x2 : Int) ∧ low n D = (x1, x2) :=
  ⟨Nat.gcd n D, n / Nat.gcd n D, D / Nat.gcd n D, rfl, Nat.gcd_pos_of_pos_right n hD, wrap_div _ _ h1, wrap_div _ _ h2, rfl⟩
/-- the numbers of a round, each under a name -/
theorem unit_numsS {ts : List It} {ps : List Int} {m : Nat} (hn6 : m ≤ 6) (hf : ∀ k, k < m → (0 ≤ (gm ts k).1 ∧ (gm ts k).1 ≤ 6) ∧ (gm ts k).2.1.length ≤ 3 ∧ (0 < (gm ts k).1 ↔ 0 < (gm ts k).2.1.length) ∧ (0 ≤ (gm ts k).2.2 ∧ (gm ts k).2.2 ≤ 31) ∧
    ∀ j, j < (gm ts k).2.1.length → (0 ≤ (gp (gm ts k).2.1 j).1 ∧ (gp (gm ts k).2.1 j).1 < k) ∧ (1 ≤ (gp (gm ts k).2.1 j).2 ∧ (gp (gm ts k).2.1 j).2 ≤ 6) ∧ (0 < j → (gp (gm ts k).2.1 (j - 1)).1 < (gp (gm ts k).2.1 j).1))
    (hp : ∀ k, k < m → 0 ≤ gi ps k ∧ gi ps k ≤ 20) {q y j : Nat} (hq : q < m) (hy : (gm ts q).1 = y) (hy0 : 0 < y) (hj : j < (gm ts q).2.1.length) :
    ∃ n D cn cd o mn a1 a2 a3 a4 a5 a6 : Nat, (sumC (gm ts q).2.1 (costT ts ps) j).1 = n ∧ y * (sumC (gm ts q).2.1 (costT ts ps) j).2 = D ∧ costT ts ps o = (cn, cd) ∧ (gp (gm ts q).2.1 j).1 = o ∧ (gp (gm ts q).2.1 j).2 = mn ∧ o < q ∧
      (IntKind.i64.wrap ((n : Int) * cd) = (a1 : Int) ∧ IntKind.i64.wrap ((mn : Int) * cn) = (a2 : Int) ∧ IntKind.i64.wrap ((a2 : Int) * D) = (a3 : Int) ∧ wrap64 ((a3 : Int) / (y : Int)) = (a4 : Int) ∧ IntKind.i64.wrap ((a1 : Int) + a4) = (a5 : Int) ∧ IntKind.i64.wrap ((D : Int) * cd) = (a6 : Int)) ∧
      (sumC (gm ts q).2.1 (costT ts ps) (j + 1)).1 = a5 ∧ y * (sumC (gm ts q).2.1 (costT ts ps) (j + 1)).2 = a6 := by
  have hpn := parts_nat hf hq
  have hyl := hf q hq
  obtain ⟨s1, s2, s3, s4, s5, s6, s7⟩ := sum_step (pr := ps) hn6 hf hp hq hj
  have h1 := (hf q hq).2.2.2.2 j hj
  have r1 : (gp (gm ts q).2.1 j).1 = ofN (gm ts q).2.1 j := by unfold ofN; omega
  have r2 : (gp (gm ts q).2.1 j).2 = mnN (gm ts q).2.1 j := by unfold mnN; omega
  obtain ⟨u1, u2, u3, u4, u5, u6, u7, u8, u9⟩ := prod_ok (y := y) (Nat.le_refl _) (Nat.le_refl _) s2 s1 s3 s4 s5 (by omega) s6 s7
  have hs1 : (sumC (gm ts q).2.1 (costT ts ps) (j + 1)).1 = (sumC (gm ts q).2.1 (costT ts ps) j).1 * (costT ts ps (ofN (gm ts q).2.1 j)).2 + mnN (gm ts q).2.1 j * (costT ts ps (ofN (gm ts q).2.1 j)).1 * (sumC (gm ts q).2.1 (costT ts ps) j).2 := rfl
  have hs2 : (sumC (gm ts q).2.1 (costT ts ps) (j + 1)).2 = (sumC (gm ts q).2.1 (costT ts ps) j).2 * (costT ts ps (ofN (gm ts q).2.1 j)).2 := rfl
  rw [hs1, hs2]
  generalize hn : (sumC (gm ts q).2.1 (costT ts ps) j).1 = n at *
  generalize he : (sumC (gm ts q).2.1 (costT ts ps) j).2 = e at *
  generalize hcn : (costT ts ps (ofN (gm ts q).2.1 j)).1 = cn at *
  generalize hcd : (costT ts ps (ofN (gm ts q).2.1 j)).2 = cd at *
  have hdiv : mnN (gm ts q).2.1 j * cn * (y * e) / y = mnN (gm ts q).2.1 j * cn * e := by
    have : mnN (gm ts q).2.1 j * cn * (y * e) = y * (mnN (gm ts q).2.1 j * cn * e) := by ac_rfl
    rw [this, Nat.mul_div_cancel_left _ hy0]
  refine ⟨n, y * e, cn, cd, ofN (gm ts q).2.1 j, mnN (gm ts q).2.1 j, n * cd, mnN (gm ts q).2.1 j * cn, mnN (gm ts q).2.1 j * cn * (y * e), mnN (gm ts q).2.1 j * cn * e, n * cd + mnN (gm ts q).2.1 j * cn * e, y * e * cd, rfl, rfl, by rw [← hcn, ← hcd], r1, r2, (hpn j hj).1, ⟨?_, ?_, ?_, ?_, ?_, ?_⟩, rfl, (Nat.mul_assoc y e cd).symm⟩
  · rw [← Int.natCast_mul]; exact IntWalk.i64_in _ (by omega)
  · rw [← Int.natCast_mul]; exact IntWalk.i64_in _ (by omega)
  · rw [← Int.natCast_mul]; exact IntWalk.i64_in _ (by omega)
  · rw [← hdiv]; exact wrap_div _ _ u6
  · rw [← Int.natCast_add]; exact IntWalk.i64_in _ (by omega)
  · rw [← Int.natCast_mul]; exact IntWalk.i64_in _ (by omega)
theorem unit_finS {ts : List It} {ps : List Int} {m : Nat} (hn6 : m ≤ 6) (hf : ∀ k, k < m → (0 ≤ (gm ts k).1 ∧ (gm ts k).1 ≤ 6) ∧ (gm ts k).2.1.length ≤ 3 ∧ (0 < (gm ts k).1 ↔ 0 < (gm ts k).2.1.length) ∧ (0 ≤ (gm ts k).2.2 ∧ (gm ts k).2.2 ≤ 31) ∧
    ∀ j, j < (gm ts k).2.1.length → (0 ≤ (gp (gm ts k).2.1 j).1 ∧ (gp (gm ts k).2.1 j).1 < k) ∧ (1 ≤ (gp (gm ts k).2.1 j).2 ∧ (gp (gm ts k).2.1 j).2 ≤ 6) ∧ (0 < j → (gp (gm ts k).2.1 (j - 1)).1 < (gp (gm ts k).2.1 j).1))
    (hp : ∀ k, k < m → 0 ≤ gi ps k ∧ gi ps k ≤ 20) {q y : Nat} (hq : q < m) (hy : (gm ts q).1 = y) (hy0 : 0 < y) :
    ∃ n D g x1 x2 : Nat, (sumC (gm ts q).2.1 (costT ts ps) (gm ts q).2.1.length).1 = n ∧ y * (sumC (gm ts q).2.1 (costT ts ps) (gm ts q).2.1.length).2 = D ∧ (n ≤ 9223372036854775807 ∧ D ≤ 9223372036854775807) ∧ Nat.gcd n D = g ∧ 0 < g ∧ wrap64 ((n : Int) / (g : Int)) = (x1 : Int) ∧ wrap64 ((D : Int) / (g : Int)) = (x2 : Int) ∧ costT ts ps q = (x1, x2) := by
  have hpn := parts_nat hf hq
  have hyl := hf q hq
  have hct : costT ts ps q = low (sumC (gm ts q).2.1 (costT ts ps) (gm ts q).2.1.length).1 (y * (sumC (gm ts q).2.1 (costT ts ps) (gm ts q).2.1.length).2) := by
    rw [costT_eq fun j hj => (hpn j hj).1]
    unfold cost1; rw [if_neg (by omega), hy, Int.toNat_natCast, Nat.mul_comm y]
  obtain ⟨s1, s2, s3⟩ := sum_ok (T := costT ts ps) (show q < 6 by omega) hyl.2.1 hpn (fun r hr => cost_ok hn6 hf hp r (by omega)) _ (Nat.le_refl _) (by have := (hpn 0 (hyl.2.2.1.1 (by omega))).1; omega)
  have hd := dB_m q (by omega)
  have hv : ∀ k, k < 6 → 20 * 18 ^ (k - 1) ≤ 2099520 := by decide
  have hv := hv q (by omega)
  have h1 : (gm ts q).2.1.length * (6 * (20 * 18 ^ (q - 1))) * (sumC (gm ts q).2.1 (costT ts ps) (gm ts q).2.1.length).2 ≤ 3 * (6 * 2099520) * 78364164096 := Nat.mul_le_mul (Nat.mul_le_mul hyl.2.1 (Nat.mul_le_mul_left _ hv)) (by omega)
  have h2 : y * (sumC (gm ts q).2.1 (costT ts ps) (gm ts q).2.1.length).2 ≤ 6 * (sumC (gm ts q).2.1 (costT ts ps) (gm ts q).2.1.length).2 := Nat.mul_le_mul_right _ (by omega)
  have hn : (sumC (gm ts q).2.1 (costT ts ps) (gm ts q).2.1.length).1 ≤ 9223372036854775807 := by omega
  have hD : y * (sumC (gm ts q).2.1 (costT ts ps) (gm ts q).2.1.length).2 ≤ 9223372036854775807 := by omega
  obtain ⟨g, x1, x2, e1, e2, e3, e4, e5⟩ := fin_nums (Nat.mul_pos hy0 s1) hn hD
  exact ⟨_, _, g, x1, x2, rfl, rfl, ⟨hn, hD⟩, e1, e2, e3, e4, hct.trans e5⟩
theorem costL_succ (ts : List It) (ps : List Int) (k : Nat) : costL ts ps (k + 1) = costL ts ps k ++ [(((costT ts ps k).1 : Int), ((costT ts ps k).2 : Int))] := by
  unfold costL; rw [List.range_succ, List.map_append]; rfl
theorem costL_length (ts : List It) (ps : List Int) (k : Nat) : (costL ts ps k).length = k := by simp [costL]

set_option maxRecDepth 20000 in
set_option maxHeartbeats 4000000 in
theorem specUnit_any (A B : Option Addr) (n m c d : Nat) (ts : List It) (ps : List Int) (index : Int) (w : World) (h : RM w A n ts) (h' : RI w B m ps) (hi63 : index ≤ 9223372036854775807) :
    Calls Tryd.prog 26 #[.slice A n c, .slice B m d, .int .i64 index] w fun e w' => e = .returned (.tuple #[.agg #[.int .i64 ((unitL ts ps index).1 : Nat), .int .i64 ((unitL ts ps index).2 : Nat)], .bool (unitOkL ts ps index)]) ∧ Le w w' := by
  have k0 := Blk.new w 49 #[.int .i64 0, .int .i64 0]
  have l0 := (Le.refl w).alloc (.cells #[.int .i64 0, .int .i64 0] 49)
  generalize hwz : w.alloc (.cells #[.int .i64 0, .int .i64 0] 49) = wz at *
  have hv := specPrices_any A B n m c d ts ps wz (h.le l0) (h'.le l0)
  have hm := h.max
  have hl := h.len
  have eu : unitOkL ts ps index = (pricesL ts ps && (decide (0 ≤ index) && decide (index < n))) := by unfold unitOkL; rw [hl]
  have K0 := Lib.hid k0
  have L0 := Lib.hid l0
  have HC := Lib.hid h.at_
  have HC2 := Lib.hid h'.at_
  have hlp := h'.len
  have hsz : w.heap.size < wz.heap.size := k0.lt
  clear k0 l0 h h'
  have no : unitOkL ts ps index = false → unitL ts ps index = (0, 0) := fun e => by unfold unitL; rw [e]; rfl
  have back : ∀ w1, Le wz w1 → ∀ (x y : Int), Le w ((w1.setCell ⟨w.heap.size, 0, none⟩ (.int .i64 x)).setCell ⟨w.heap.size, 1, none⟩ (.int .i64 y)) ∧ ((w1.setCell ⟨w.heap.size, 0, none⟩ (.int .i64 x)).setCell ⟨w.heap.size, 1, none⟩ (.int .i64 y)).cell? ⟨w.heap.size, 0, none⟩ = some (.int .i64 x) ∧ ((w1.setCell ⟨w.heap.size, 0, none⟩ (.int .i64 x)).setCell ⟨w.heap.size, 1, none⟩ (.int .i64 y)).cell? ⟨w.heap.size, 1, none⟩ = some (.int .i64 y) := fun w1 l1 x y => by
    have b := ((K0.out.le l1).set_ 0 (.int .i64 x)).set_ 1 (.int .i64 y)
    exact ⟨((L0.out.trans l1).setCell (Nat.le_refl _) _).setCell (Nat.le_refl _) _, by simpa using b.cell 0, by simpa using b.cell 1⟩
  have BACK := Lib.hid back
  clear back
  have hin : ∀ w', Calls Tryd.prog 62 #[.int .i64 index, .int .i64 0, .int .i64 ((n : Int) - 1)] w' fun e w'' => e = .returned (.bool (decide (0 ≤ index) && decide (index < n))) ∧ w' = w'' := fun w' => by
    have := l1In_any index 0 ((n : Int) - 1) w'
    have e : inB 0 ((n : Int) - 1) index = (decide (0 ≤ index) && decide (index < n)) := by
      unfold inB
      have : decide (index ≤ (n : Int) - 1) = decide (index < n) := by rw [decide_eq_decide]; omega
      rw [this]
    rwa [e] at this
  by_cases hok : unitOkL ts ps index = true
  · rw [eu, Bool.and_eq_true] at hok
    obtain ⟨hb, h2⟩ := hok
    rw [h2] at hin
    rw [Bool.and_eq_true, decide_eq_true_eq, decide_eq_true_eq] at h2
    obtain ⟨hi0, hin2⟩ := h2
    obtain ⟨k, rfl⟩ : ∃ k : Nat, index = k := ⟨index.toNat, by omega⟩
    have hkn : k < n := by omega
    have eu2 : unitOkL ts ps k = true := by rw [eu, hb]; simp; omega
    have eu3 : unitL ts ps k = costT ts ps k := by unfold unitL; rw [if_pos eu2, Int.toNat_natCast]
    rw [eu2, eu3]
    rw [hb] at hv
    have hb0 := hb
    unfold pricesL at hb0
    rw [Bool.and_eq_true, hl] at hb0
    obtain ⟨hpl, hpf⟩ := amounts_facts hb0.2
    obtain ⟨hn6, hf⟩ := items_facts hl hb0.1
    obtain ⟨i0, hi0', hz0, hz1, hz2⟩ := info_parts infoFrac
    have HV := Lib.hid hv
    have HF := Lib.hid hf
    have HPF := Lib.hid hpf
    have HIN := Lib.hid hin
    obtain rfl : m = n := by omega
    clear hv hb hb0 eu eu2 eu3 no hf hpf hpl hlp hin
    go_enter Tryd.func26, Tryd.ntmps26
    go_wp2_with fail
    refine HV.out.mono ?_; rintro e w1 ⟨rfl, l1⟩
    have L1 := Lib.hid l1
    clear l1
    go_wp2_with (go_at_call 62; refine (HIN.out _).mono ?_; rintro e w' ⟨rfl, rfl⟩)
    have hg1 : wz.heap.size ≤ w1.heap.size := L1.out.size
    go_loopw [8, 9] (fun v i wr => ∃ q : Nat, q ≤ k + 1 ∧ i = .int .i64 q ∧ Le w1 wr ∧ wr.ownsRow w1.heap.size 49 2 v q (pairs (costL ts ps q))) (fun _ i _ => k + 1 - (intOf i).toNat)
    case atStart => exact ⟨0, Nat.zero_le _, rfl, (Le.refl _).alloc _, own_empty _ _ _⟩
    case round =>
      obtain ⟨q, hq, rfl, hle, hown⟩ := hrel
      by_cases hlt : q < k + 1
      · obtain ⟨wo, hwo⟩ : ∃ wo, wo = wr := ⟨_, rfl⟩
        subst hwo
        obtain ⟨A8, c8, rfl, hrp⟩ := own_RP hown (by omega)
        obtain ⟨ad, B1, m1, d1, rfl, hc1, hc2, hc3, hr⟩ := HC.out q (by omega)
        obtain ⟨ad2, rfl, hc5⟩ := HC2.out q (by omega)
        have lw := (L0.out.trans L1.out).trans hle
        have hlen := hr.len
        have hmx := hr.max
        have hqm : q < m := by omega
        have hi1 : (0 : Int) ≤ (q : Int) := by omega
        have hi2 : (q : Int) < (m : Int) := by omega
        have hC : decide ((q : Int) ≤ (k : Int)) = true := by simp; omega
        have hC2 : decide (q ≤ k) = true := by simp; omega
        have ao : (Value.slice A8 q c8).ownBlock ≠ some wo.heap.size := fun e => Nat.lt_irrefl _ (hown.lt _ e).2
        have hpp := HPF.out q (by omega)
        obtain ⟨p, hpe⟩ : ∃ p : Nat, gi ps q = p := ⟨(gi ps q).toNat, by omega⟩
        rw [hpe] at hc5 hpp
        have lb := (Le.refl wo).alloc (.cells #[.int .i64 (p : Int), .int .i64 1] 49)
        have kb := Blk.new wo 49 #[.int .i64 (p : Int), .int .i64 1]
        have c5 := lw.cell hc5
        have hyl := HF.out q (by omega)
        by_cases hy : (gm ts q).1 = 0
        · have c1 := (lw.trans lb).cell hc1
          rw [hy] at c1
          have hct : costT ts ps q = (p, 1) := by
            rw [costT_eq fun j hj => by have := (hyl.2.2.2.2 j hj).1; unfold ofN; omega]
            unfold cost1; rw [if_pos hy, hpe]; rfl
          have HCT := Lib.hid hct
          have hgc : ∀ w', Calls Tryd.prog 66 #[.int .i64 (p : Int), .int .i64 1] w' fun e w'' => e = .returned (.int .i64 1) ∧ w' = w'' := fun w' => by
            have := l1Gcd_any p 1 w' (by omega) (by omega)
            rw [Nat.gcd_one_right] at this
            exact this
          have HGC := Lib.hid hgc
          have hd1 : IntKind.i64.wrap (p : Int) = (p : Int) := IntWalk.i64_in _ (by omega)
          have hd2 : IntKind.i64.wrap (1 : Int) = 1 := IntWalk.i64_in _ (by omega)
          have ho2 := own_Le hown lb
          have hww : w1.heap.size ≤ wo.heap.size := hle.size
          have hsb : wo.heap.size < wo.heap.size + 1 := by omega
          have hsw : wo.heap.size < (wo.alloc (.cells #[.int .i64 (p : Int), .int .i64 1] 49)).heap.size := by simp
          generalize hwb : wo.alloc (.cells #[.int .i64 (p : Int), .int .i64 1] 49) = wb at *
          have b0 := kb.cell 0
          have b1 := kb.cell 1
          simp at b0 b1
          have HO := Lib.hid ho2
          have LW := Lib.hid (hle.trans lb)
          clear hc1 hc2 hc3 hc5 hr lw hown hrp hle lb kb hyl hy hct ho2 hpe hgc
          go_wp2_with (go_at_call 66; refine (HGC.out _).mono ?_; rintro e w' ⟨rfl, rfl⟩)
          go_region_held3 (fun w' => w'.cell? ⟨wo.heap.size, 0, none⟩ = some (.int .i64 (p : Int)) ∧ w'.cell? ⟨wo.heap.size, 1, none⟩ = some (.int .i64 1))
            (first
              | go_keep
              | (go_split_ands
                 refine ⟨?_, ?_⟩
                 · (refine (hgrow.cell_far ⟨wo.heap.size, 0, none⟩ (by simp; omega) (Ne.symm ao)).trans ?_; assumption)
                 · (refine (hgrow.cell_far ⟨wo.heap.size, 1, none⟩ (by simp; omega) (Ne.symm ao)).trans ?_; assumption)))
            ((refine step_append_lies _ (by rfl) _ _ _ (by rfl) w1.heap.size 49 i0 _ 2 16 Tryd.underlying102 hi0' hz0 hz1 hz2 rfl (by omega) (.slice A8 q c8) q (pairs (costL ts ps q)) (by rfl) ((HO.out.alloc _).drew)
                  ⟨wb.heap.size, 0, none⟩ 1 1 [.int .i64 (p : Int), .int .i64 1] (by rfl) (by rfl) (World.news_of_block (cs := #[.int .i64 (p : Int), .int .i64 1]) (t := 49) (fr := (0, 0)) (heap_alloc_new wb _)) (by simp [Value.oneCell'])
                  (by omega) (by unfold maxLen; omega) (by omega) (by simp; omega) (wb.heap.size + 1) (by simp) ?_; intro gg cap w2 hown' hgrow hat hlt'))
          have HO2 := Lib.hid hown'
          have HGR := Lib.hid hgrow
          clear hown' hgrow hat
          go_wp2
          go_roundw
          case rel =>
            refine ⟨q + 1, by omega, by go_num, ((LW.out.alloc _).drew.grown HGR.out fun g hg => (HO.out.lt g hg).1), ?_⟩
            rw [costL_succ, pairs_snoc, HCT.out]
            exact HO2.out
          case measure => simp [intOf]; omega
        · obtain ⟨y, hyy⟩ : ∃ y : Nat, (gm ts q).1 = y := ⟨(gm ts q).1.toNat, by omega⟩
          have hy0 : 0 < y := by omega
          have hy1 : (0 : Int) < (y : Int) := by omega
          have hyf : ((y : Int) == 0) = false := by rw [beq_eq_false_iff_ne]; omega
          have hyn : ¬ y = 0 := by omega
          have hgt1 : decide ((0 : Int) < (y : Int)) = true := by simp; omega
          have hgt2 : decide (0 < y) = true := by simp; omega
          have hnum := fun j (hj : j < m1) => unit_numsS (ps := ps) hn6 HF.out HPF.out hqm hyy hy0 (j := j) (by rw [hlen]; exact hj)
          have hfin := unit_finS (ps := ps) hn6 HF.out HPF.out hqm hyy hy0
          rw [hlen] at hfin
          have HNUM := Lib.hid hnum
          have HFN := Lib.hid hfin
          have HR := Lib.hid hr.at_
          have hcy : ∀ w', Le wo w' → w'.cell? (ad.add (q * 3)) = some (.int .i64 (y : Int)) := fun w' l => by
            have := (lw.trans l).cell hc1
            rwa [hyy] at this
          have hcp : ∀ w', Le wo w' → w'.cell? ⟨(ad.add (q * 3)).block, (ad.add (q * 3)).off + 1, none⟩ = some (.slice B1 m1 d1) := fun w' l => (lw.trans l).cell hc2
          have c1 := hcy _ lb
          have l9 := (Le.refl wo).alloc (.cells #[.int .i64 0, .int .i64 (y : Int)] 49)
          have k9 := Blk.new wo 49 #[.int .i64 0, .int .i64 (y : Int)]
          have HL9 := Lib.hid l9
          have HK9 := Lib.hid k9
          have HCY := Lib.hid hcy
          have HCP := Lib.hid hcp
          have HO := Lib.hid hown
          have HRP := Lib.hid hrp.at_
          have HLE := Lib.hid hle
          have HLW := Lib.hid lw
          have hww : w1.heap.size ≤ wo.heap.size := hle.size
          clear hc1 hc2 hc3 hc5 hr lw hown hrp hle lb kb hyl hy hnum hfin hcy hcp l9 k9 hpe
          go_wp2
          clear c1 c5
          go_loopw [11] (fun i wr => ∃ j : Nat, j ≤ m1 ∧ i = .int .i64 j ∧ Le wo wr ∧ Blk wr wo.heap.size 49 #[.int .i64 ((sumC (gm ts q).2.1 (costT ts ps) j).1 : Nat), .int .i64 ((y * (sumC (gm ts q).2.1 (costT ts ps) j).2 : Nat) : Int)]) (fun i _ => m1 - (intOf i).toNat)
          case atStart =>
            refine ⟨0, Nat.zero_le _, rfl, HL9.out, ?_⟩
            have : y * (sumC (gm ts q).2.1 (costT ts ps) 0).2 = y := Nat.mul_one y
            rw [this]
            exact HK9.out
          case round =>
            obtain ⟨j, hj, rfl, hlq, hbq⟩ := hrel
            have cy := HCY.out _ hlq
            have cp := HCP.out _ hlq
            by_cases hjm : j < m1
            · obtain ⟨ad1, rfl, hp1, hp2⟩ := HR.out j hjm
              have lw := HLW.out.trans hlq
              have q1 := lw.cell hp1
              have q2 := lw.cell hp2
              obtain ⟨nn, D, cn, cd, o, mn, x1, x2, x3, x4, x5, x6, hL1, hL2, hT, r1, r2, r3, ⟨hw1, hw2, hw3, hv4, hw5, hw6⟩, hn1, hn2⟩ := HNUM.out j hjm
              have hv1 : wrap64 ((nn : Int) * cd) = (x1 : Int) := by rw [← IntWalk.i64_left]; exact hw1
              have hv2 : wrap64 ((mn : Int) * cn) = (x2 : Int) := by rw [← IntWalk.i64_left]; exact hw2
              have hv3 : wrap64 ((x2 : Int) * D) = (x3 : Int) := by rw [← IntWalk.i64_left]; exact hw3
              have hw4 : IntKind.i64.wrap ((x3 : Int) / y) = (x4 : Int) := by rw [IntWalk.i64_left]; exact hv4
              have hv5 : wrap64 ((x1 : Int) + x4) = (x5 : Int) := by rw [← IntWalk.i64_left]; exact hw5
              have hv6 : wrap64 ((D : Int) * cd) = (x6 : Int) := by rw [← IntWalk.i64_left]; exact hw6
              obtain ⟨ad8, rfl, g1, g2⟩ := HRP.out o (by omega)
              rw [gp_costL _ _ r3, hT] at g1 g2
              have g1 := hlq.cell g1
              have g2 := hlq.cell g2
              rw [r1] at q1
              rw [r2] at q2
              rw [hL1, hL2] at hbq
              have HN1 := Lib.hid hn1
              have HN2 := Lib.hid hn2
              clear hn1 hn2 r1 r2 hL1 hL2 hT
              have l1 := (Le.refl wr).alloc (.cells #[.int .i64 (o : Int), .int .i64 (mn : Int)] 80)
              have k1 := Blk.new wr 80 #[.int .i64 (o : Int), .int .i64 (mn : Int)]
              generalize hwq1 : wr.alloc (.cells #[.int .i64 (o : Int), .int .i64 (mn : Int)] 80) = wq1 at *
              have l2 := (Le.refl wq1).alloc (.cells #[.int .i64 (cn : Int), .int .i64 (cd : Int)] 49)
              have k2 := Blk.new wq1 49 #[.int .i64 (cn : Int), .int .i64 (cd : Int)]
              generalize hwq2 : wq1.alloc (.cells #[.int .i64 (cn : Int), .int .i64 (cd : Int)] 49) = wq2 at *
              have p10 := k1.cell 0
              have p11 := (k1.le l2).cell 1
              have g1' := l1.cell g1
              have g2' := l1.cell g2
              have p20 := k2.cell 0
              have p21 := k2.cell 1
              have hb2 := hbq.le (l1.trans l2)
              have b0 := hb2.cell 0
              have b1 := hb2.cell 1
              have z0 := hb2.frozen 0
              have z1 := hb2.frozen 1
              have cy2 := (l1.trans l2).cell cy
              have cp2 := (l1.trans l2).cell cp
              simp at p10 p11 p20 p21 b0 b1
              have HBQ := Lib.hid hb2
              have LQ := Lib.hid ((hlq.trans l1).trans l2)
              have hgs := hbq.lt
              clear hp1 hp2 lw l1 l2 k1 k2 hbq hlq hb2
              go_wp2
              go_still_tail 26, (by kernel_rfl)
              change wpList _ _ _ _ _ wq2.drew
              go_wp2
              go_roundw
              case rel =>
                refine ⟨j + 1, by omega, by go_num, ((LQ.out.setCell (Nat.le_refl _) _).setCell (Nat.le_refl _) _).drew, ?_⟩
                rw [HN1.out, HN2.out]
                have := ((HBQ.out.set_ 0 (.int .i64 (x5 : Int))).set_ 1 (.int .i64 (x6 : Int))).drew
                simpa using this
              case measure => simp [intOf]; omega
            · obtain rfl : j = m1 := by omega
              obtain ⟨nn, D, g, x1, x2, hL1, hL2, ⟨v1, v2⟩, e1, e2, e3, e4, hct⟩ := HFN.out
              have hw3 : IntKind.i64.wrap ((nn : Int) / (g : Int)) = (x1 : Int) := by rw [IntWalk.i64_left]; exact e3
              have hw4 : IntKind.i64.wrap ((D : Int) / (g : Int)) = (x2 : Int) := by rw [IntWalk.i64_left]; exact e4
              have hg0 : ((g : Int) == 0) = false := by rw [beq_eq_false_iff_ne]; omega
              have hgn : ¬ g = 0 := by omega
              rw [hL1, hL2] at hbq
              have b0 := hbq.cell 0
              have b1 := hbq.cell 1
              simp at b0 b1
              have hsw := hbq.lt
              have hgc := fun w' => l1Gcd_any nn D w' v1 v2
              rw [e1] at hgc
              have HGC := Lib.hid hgc
              have HCT := Lib.hid hct
              have LW := Lib.hid (HLE.out.trans hlq)
              have ho2 := own_Le HO.out hlq
              clear HO
              have HO := Lib.hid ho2
              clear ho2 hgc hct hbq hlq e1 hL1 hL2
              go_wp2_with (go_at_call 66; refine (HGC.out _).mono ?_; rintro e w' ⟨rfl, rfl⟩)
              go_region_held3 (fun w' => w'.cell? ⟨wo.heap.size, 0, none⟩ = some (.int .i64 (nn : Int)) ∧ w'.cell? ⟨wo.heap.size, 1, none⟩ = some (.int .i64 (D : Int)))
                (first
                  | go_keep
                  | (go_split_ands
                     refine ⟨?_, ?_⟩
                     · (refine (hgrow.cell_far ⟨wo.heap.size, 0, none⟩ (by simp; omega) (Ne.symm ao)).trans ?_; assumption)
                     · (refine (hgrow.cell_far ⟨wo.heap.size, 1, none⟩ (by simp; omega) (Ne.symm ao)).trans ?_; assumption)))
                ((refine step_append_lies _ (by rfl) _ _ _ (by rfl) w1.heap.size 49 i0 _ 2 16 Tryd.underlying102 hi0' hz0 hz1 hz2 rfl (by omega) (.slice A8 q c8) q (pairs (costL ts ps q)) (by rfl) ((HO.out.alloc _).drew)
                      ⟨wr.heap.size, 0, none⟩ 1 1 [.int .i64 (x1 : Int), .int .i64 (x2 : Int)] (by rfl) (by rfl) (World.news_of_block (cs := #[.int .i64 (x1 : Int), .int .i64 (x2 : Int)]) (t := 49) (fr := (0, 0)) (heap_alloc_new wr _)) (by simp [Value.oneCell'])
                      (by omega) (by unfold maxLen; omega) (by omega) (by simp; omega) (wr.heap.size + 1) (by simp) ?_; intro gg cap w2 hown' hgrow hat hlt'))
              have HO2 := Lib.hid hown'
              have HGR := Lib.hid hgrow
              clear hown' hgrow hat
              go_wp2
              go_roundw
              case rel =>
                refine ⟨q + 1, by omega, by go_num, ((LW.out.alloc _).drew.grown HGR.out fun g hg => (HO.out.lt g hg).1), ?_⟩
                rw [costL_succ, pairs_snoc, HCT.out]
                exact HO2.out
              case measure => simp [intOf]; omega
      · obtain rfl : q = k + 1 := by omega
        obtain ⟨A8, c8, rfl, hrp⟩ := own_RP hown (by omega)
        obtain ⟨ad8, rfl, g1, g2⟩ := hrp.at_ k (by omega)
        rw [gp_costL _ _ (by omega)] at g1 g2
        have hle' := L1.out.trans hle
        have a0 := (K0.out.le hle').cell 0
        have a1 := (K0.out.le hle').cell 1
        have z0 := (K0.out.le hle').frozen 0
        have z1 := (K0.out.le hle').frozen 1
        simp at a0 a1
        have HLE := Lib.hid hle'
        clear hown hrp hle hle'
        go_wp2
        obtain ⟨f1, f2, f3⟩ := BACK.out wr HLE.out ((costT ts ps k).1 : Nat) ((costT ts ps k).2 : Nat)
        exact bodyPost_ret (v := .tuple #[.agg #[.int .i64 ((costT ts ps k).1 : Nat), .int .i64 ((costT ts ps k).2 : Nat)], .bool true]) (by simp [results, Tryd.results26, go_sem, f2, f3]) rfl ⟨rfl, f1⟩
  · have hok : unitOkL ts ps index = false := by simpa using hok
    rw [no hok, hok]
    rw [eu] at hok
    cases hb : pricesL ts ps
    · rw [hb] at hv
      have HV := Lib.hid hv
      clear hv hb hok eu no hin
      go_enter Tryd.func26, Tryd.ntmps26
      go_wp2_with fail
      refine HV.out.mono ?_; rintro e w1 ⟨rfl, l1⟩
      have a0 := (K0.out.le l1).cell 0
      have a1 := (K0.out.le l1).cell 1
      have z0 := (K0.out.le l1).frozen 0
      have z1 := (K0.out.le l1).frozen 1
      simp at a0 a1
      go_wp2
      obtain ⟨f1, f2, f3⟩ := BACK.out w1 l1 0 0
      exact bodyPost_ret (v := .tuple #[.agg #[.int .i64 0, .int .i64 0], .bool false]) (by simp [results, Tryd.results26, go_sem, f2, f3]) rfl ⟨rfl, f1⟩
    · rw [hb] at hv hok
      rw [Bool.true_and] at hok
      rw [hok] at hin
      have HIN := Lib.hid hin
      have HV := Lib.hid hv
      clear hv hb eu no hin
      go_enter Tryd.func26, Tryd.ntmps26
      go_wp2_with fail
      refine HV.out.mono ?_; rintro e w1 ⟨rfl, l1⟩
      have a0 := (K0.out.le l1).cell 0
      have a1 := (K0.out.le l1).cell 1
      have z0 := (K0.out.le l1).frozen 0
      have z1 := (K0.out.le l1).frozen 1
      simp at a0 a1
      go_wp2_with (go_at_call 62; refine (HIN.out _).mono ?_; rintro e w' ⟨rfl, rfl⟩)
      obtain ⟨f1, f2, f3⟩ := BACK.out w1 l1 0 0
      exact bodyPost_ret (v := .tuple #[.agg #[.int .i64 0, .int .i64 0], .bool false]) (by simp [results, Tryd.results26, go_sem, f2, f3]) rfl ⟨rfl, f1⟩
end Go.Proofs.YtoahjfofnaafaaaDoor
