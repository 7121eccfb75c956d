/- Walk: PlanOk of the program. -/
import Derived.Test.YtoahjfofnaafaaaDoorWPOkS
import Derived.Deep.CutRange
import Derived.Test.YtoahjfofnaafaaaDoorPLast
namespace Go.Proofs.YtoahjfofnaafaaaDoor
open Go.RowKit

def startF (ts : List It) (want stock rs : List Int) (k q : Nat) : Int := (if q < k then baseP ts want stock rs q else 0) - useA ts rs q k
def midF (ts : List It) (want stock rs : List Int) (k j q : Nat) : Int := (if q ≤ k then baseP ts want stock rs q else 0) - useA ts rs q k - useP (gm ts k).2.1 (gi rs k) q j
def startL (ts : List It) (want stock rs : List Int) (n k : Nat) : List Int := (List.range n).map (startF ts want stock rs k)
def midL (ts : List It) (want stock rs : List Int) (n k j : Nat) : List Int := (List.range n).map (midF ts want stock rs k j)
theorem startL_zero (ts : List It) (want stock rs : List Int) (n : Nat) : startL ts want stock rs n 0 = List.replicate n 0 := by
  unfold startL
  apply List.ext_getElem?
  intro q
  rw [List.getElem?_map, List.getElem?_replicate]
  by_cases hq : q < n
  · rw [List.getElem?_range hq, if_pos hq]
    show some ((if q < 0 then _ else 0) - 0) = some 0
    rw [if_neg (by omega)]; rfl
  · rw [List.getElem?_eq_none (by simp; omega), if_neg hq]; rfl
theorem startF_self {ts : List It} {n : Nat} (h : ItOk ts n) (want stock rs : List Int) {k : Nat} (hk : k < n) : startF ts want stock rs k k = 0 := by
  unfold startF
  rw [if_neg (by omega), useA_high h rs (by omega) (by omega)]; rfl
theorem startL_base {ts : List It} {n : Nat} (h : ItOk ts n) (want stock rs : List Int) {k : Nat} (hk : k < n) : (startL ts want stock rs n k).set k (baseP ts want stock rs k) = midL ts want stock rs n k 0 := by
  unfold startL midL
  refine range_set n _ _ ?_ fun q _ hq => ?_
  · unfold midF
    rw [if_pos (by omega), useA_high h rs (by omega) (by omega)]
    show _ = _ - 0 - 0
    omega
  · unfold midF startF
    have z : useP (gm ts k).2.1 (gi rs k) q 0 = 0 := rfl
    rw [z]
    by_cases e : q < k
    · rw [if_pos e, if_pos (by omega)]; omega
    · rw [if_neg e, if_neg (by omega)]; omega
theorem midL_set {ts : List It} (want stock rs : List Int) (n k j : Nat) : (midL ts want stock rs n k j).set (ofN (gm ts k).2.1 j) (midF ts want stock rs k j (ofN (gm ts k).2.1 j) - gi rs k * (gp (gm ts k).2.1 j).2) = midL ts want stock rs n k (j + 1) := by
  unfold midL
  refine range_set n _ _ ?_ fun q _ hq => ?_
  · unfold midF; rw [useP_succ, if_pos rfl]; omega
  · unfold midF; rw [useP_succ, if_neg (fun (e : ofN (gm ts k).2.1 j = q) => hq e.symm)]; omega
theorem midL_next (ts : List It) (want stock rs : List Int) (n k : Nat) : midL ts want stock rs n k (gm ts k).2.1.length = startL ts want stock rs n (k + 1) := by
  unfold midL startL
  refine List.map_congr_left fun q _ => ?_
  unfold midF startF
  rw [useA_succ]
  by_cases e : q ≤ k
  · rw [if_pos e, if_pos (by omega)]; omega
  · rw [if_neg e, if_neg (by omega)]; omega
theorem startL_end (ts : List It) (want stock rs : List Int) {n : Nat} (hl : ts.length = n) : startL ts want stock rs n n = leftL ts want stock rs := by
  unfold startL leftL
  rw [hl]
  refine List.map_congr_left fun q hq => ?_
  have := List.mem_range.1 hq
  unfold startF
  rw [if_pos this]
theorem midF_cur (ts : List It) (want stock rs : List Int) {k j q : Nat} (h : q ≤ k) : midF ts want stock rs k j q = curF ts want stock rs k j q := by
  unfold midF curF; rw [if_pos h]

set_option maxRecDepth 20000 in
set_option maxHeartbeats 4000000 in
theorem implPlanOk_any (A B C D E : Option Addr) (n m r s t c d e f g : Nat) (ts : List It) (want stock rs ls : List Int) (w : World) (h : RM w A n ts) (h1 : RI w B m want) (h2 : RI w C r stock) (h3 : RI w D s rs) (h4 : RI w E t ls) :
    Calls Tryd.prog 29 #[.slice A n c, .slice B m d, .slice C r e, .agg #[.slice D s f, .slice E t g]] w fun o w' => o = .returned (.bool (planOkL ts want stock rs ls)) ∧ Le w w' := by
  have l0 := (Le.refl w).alloc (.cells #[.slice D s f, .slice E t g] 42)
  have k0 := Blk.new w 42 #[.slice D s f, .slice E t g]
  generalize hwz : w.alloc (.cells #[.slice D s f, .slice E t g] 42) = wz at *
  have hv := planArgs_any A B C n m r c d e ts want stock wz (h.le l0) (h1.le l0) (h2.le l0)
  have ha := fun w' (l : Le wz w') => amountsOk_any D s f rs n 9999999 w' (h3.le (l0.trans l))
  have hl := h.len
  have hl1 := h1.len
  have hl2 := h2.len
  have hl3 := h3.len
  have hl4 := h4.len
  have hm := h.max
  have hms := h3.max
  have hmt := h4.max
  have hcell : ∀ w', Le wz w' → w'.cell? ⟨w.heap.size, 0, none⟩ = some (.slice D s f) ∧ w'.cell? ⟨w.heap.size, 1, none⟩ = some (.slice E t g) := fun w' l => ⟨by simpa using (k0.le l).cell 0, by simpa using (k0.le l).cell 1⟩
  have e0 : planOkL ts want stock rs ls = (planArgsL ts want stock && ((amountsOkL rs n 9999999 && decide (ls.length = n)) && (List.range n).all (leftB (leftL ts want stock rs) ls))) := by
    unfold planOkL; rw [hl]; rfl
  have HA := Lib.hid ha
  have HCL := Lib.hid hcell
  have L0 := Lib.hid l0
  have HC := Lib.hid h.at_
  have HC1 := Lib.hid h1.at_
  have HC2 := Lib.hid h2.at_
  have HC3 := Lib.hid h3.at_
  have HC4 := Lib.hid h4.at_
  have hwzs : w.heap.size < wz.heap.size := k0.lt
  clear ha hcell k0 l0 h h1 h2 h3 h4
  rw [e0]
  cases hb : planArgsL ts want stock
  · rw [hb] at hv
    have HV := Lib.hid hv
    simp only [Bool.false_and]
    clear hv hb e0
    go_enter Tryd.func29, Tryd.ntmps29
    go_wp2_with (go_at_call 67; refine HV.out.mono ?_; rintro o w1 ⟨rfl, l1⟩)
    go_ret
    exact ⟨rfl, L0.out.trans l1⟩
  · rw [hb] at hv
    have HV := Lib.hid hv
    clear hv
    simp only [Bool.true_and]
    obtain ⟨hn6, hok, hw, hs⟩ := plan_args hl hb
    cases hb2 : amountsOkL rs n 9999999
    · simp only [hb2] at HA
      simp only [Bool.false_and]
      clear hb hb2 e0 hok hw hs
      go_enter Tryd.func29, Tryd.ntmps29
      go_wp2_with fail
      refine HV.out.mono ?_; rintro o w1 ⟨rfl, l1⟩
      obtain ⟨a0, a1⟩ := HCL.out _ l1
      go_wp2_with (go_at_call 60; refine (HA.out _ l1).mono ?_; rintro e w' ⟨rfl, rfl⟩)
      go_ret
      exact ⟨rfl, L0.out.trans l1⟩
    · simp only [hb2] at HA
      simp only [Bool.true_and]
      obtain ⟨hrl, hrf⟩ := amounts_facts hb2
      obtain rfl : s = n := by omega
      by_cases htn : t = s
      · have htn := htn.symm
        subst htn
        have hbe1 : ((s : Int) != (s : Int)) = false := by simp
        obtain ⟨V, hV⟩ : ∃ V, V = (List.range s).all (leftB (leftL ts want stock rs) ls) := ⟨_, rfl⟩
        rw [hl4, decide_eq_true rfl, Bool.true_and, ← hV]
        have HVV := Lib.hid hV
        have HOK := Lib.hid hok
        have HW := Lib.hid hw
        have HS := Lib.hid hs
        have HR := Lib.hid hrf
        have hmk := run_mk (P := Tryd.prog) 40 3 (.int .i64 0) 1 8 Tryd.underlying40 infoInt s (by omega) (by omega)
        clear hV hok hw hs hrf hb hb2 e0
        go_enter Tryd.func29, Tryd.ntmps29
        go_wp2_with fail
        refine HV.out.mono ?_; rintro o w1 ⟨rfl, l1⟩
        obtain ⟨a0, a1⟩ := HCL.out _ l1
        have L1 := Lib.hid l1
        clear l1
        go_wp2_with (go_at_call 60; refine (HA.out _ L1.out).mono ?_; rintro e w' ⟨rfl, rfl⟩)
        clear hmk a0 a1
        have hw1s := L1.out.size
        go_loopw [40] (fun i wr => ∃ k : Nat, k ≤ s ∧ i = .int .i64 k ∧ Le w1 wr ∧ wr.ownsRow w1.heap.size 3 1 (.slice (some ⟨w1.heap.size, 0, none⟩) s s) s (ints (startL ts want stock rs s k))) (fun i _ => s - (intOf i).toNat)
        case atStart =>
          refine ⟨0, Nat.zero_le _, rfl, (Le.refl _).alloc _, ?_⟩
          rw [startL_zero]
          refine Blk.ownI ?_ (Nat.le_refl _) (by simp) (by omega)
          have e : madeCells #[.int .i64 0] s = (ints (List.replicate s 0)).toArray := by
            apply Array.ext_getElem?
            intro j
            by_cases hj : j < s
            · rw [made_get _ _ _ (by omega), List.getElem?_toArray, ints_getElem? (by simpa using hj)]
              unfold gi; rw [List.getD_eq_getElem?_getD, List.getElem?_replicate, if_pos hj]; rfl
            · rw [Array.getElem?_eq_none (by rw [made_size]; omega), List.getElem?_toArray, List.getElem?_eq_none (by rw [ints_length]; simp; omega)]
          rw [← e]
          exact Blk.new _ _ _
        case round =>
          obtain ⟨k, hk, rfl, hle, hown⟩ := hrel
          by_cases hlt : k < s
          · obtain ⟨wo, hwo⟩ : ∃ wo, wo = wr := ⟨_, rfl⟩
            subst hwo
            obtain ⟨ad, B1, m1, d1, rfl, hc1, hc2, hc3, hr⟩ := HC.out k hlt
            obtain ⟨ad1, rfl, hc4⟩ := HC1.out k (by have := HW.out.1; omega)
            obtain ⟨ad2, rfl, hc5⟩ := HC2.out k (by have := HS.out.1; omega)
            obtain ⟨ad3, rfl, hc6⟩ := HC3.out k hlt
            have lw := (L0.out.trans L1.out).trans hle
            have c1 := lw.cell hc1
            have c2 := lw.cell hc2
            have c3 := lw.cell hc3
            have hlen := hr.len
            have hmx := hr.max
            have HRW := Lib.hid (fun w' (l : Le w w') j (hj : j < m1) => (hr.le l).at_ j hj)
            have HC6 := Lib.hid (fun w' (l : Le w w') => l.cell hc6)
            obtain ⟨g', cap', hv', _, hg2', _, hfz, hcl⟩ := own_open hown (by omega)
            injection hv' with e1 e2 e3
            injection e1 with e1
            injection e1 with e1
            subst e1
            clear e2 e3
            have hkw := HW.out.2 k hlt
            have hks := HS.out.2 k hlt
            have hkr := HR.out k hlt
            have hbb := base_b HOK.out HW.out.2 HS.out.2 HR.out hlt
            have d0 := hcl k hlt
            unfold startL at d0
            rw [gi_range s _ hlt, startF_self HOK.out want stock rs hlt] at d0
            have hbs := startL_base HOK.out want stock rs hlt
            obtain ⟨b0, hb0⟩ : ∃ b0, b0 = baseP ts want stock rs k := ⟨_, rfl⟩
            rw [← hb0] at hbs hbb
            obtain ⟨R, hR⟩ : ∃ R, R = rmI ts k := ⟨_, rfl⟩
            have hb0' : b0 = gi stock k - gi want k + gi rs k * R := by rw [hb0, hR]; rfl
            rw [← hR] at hbb
            obtain ⟨P, hP⟩ : ∃ P, P = gi rs k * R := ⟨_, rfl⟩
            rw [← hP] at hb0' hbb
            have hw1 : IntKind.i64.wrap (gi rs k * R) = P := by rw [← hP]; exact IntWalk.i64_in _ (by omega)
            have hw2 : IntKind.i64.wrap (gi stock k + P) = gi stock k + P := IntWalk.i64_in _ (by omega)
            have hw3 : IntKind.i64.wrap (gi stock k + P - gi want k) = b0 := by rw [show gi stock k + P - gi want k = b0 by omega]; exact IntWalk.i64_in _ (by omega)
            have hw4 : IntKind.i64.wrap b0 = b0 := IntWalk.i64_in _ (by omega)
            have hrm : ∀ w', Calls Tryd.prog 69 #[.agg #[.int .i64 (gm ts k).1, .slice B1 m1 d1, .int .i64 (gm ts k).2.2]] w' fun e w'' => e = .returned (.int .i64 R) ∧ Le w' w'' := fun w' => by
              have := runMakes_any (gm ts k).1 B1 m1 d1 (gm ts k).2.2 w'
              rw [hR]; exact this
            have HRM := Lib.hid hrm
            have hi1 : (0 : Int) ≤ (k : Int) := by omega
            have hi2 : (k : Int) < (s : Int) := by omega
            have hi3 : (k : Int) < (m : Int) := by have := HW.out.1; omega
            have hi4 : (k : Int) < (r : Int) := by have := HS.out.1; omega
            have hC : decide ((k : Int) < (s : Int)) = true := by simp; omega
            have hC2 : decide (k < s) = true := by simp; omega
            have lb := (Le.refl wo).alloc (.cells #[.int .i64 (gm ts k).1, .slice B1 m1 d1, .int .i64 (gm ts k).2.2] 26)
            have kb := Blk.new wo 26 #[.int .i64 (gm ts k).1, .slice B1 m1 d1, .int .i64 (gm ts k).2.2]
            generalize hwb : wo.alloc (.cells #[.int .i64 (gm ts k).1, .slice B1 m1 d1, .int .i64 (gm ts k).2.2] 26) = wb at *
            have d0' := lb.cell d0
            have hkp : ∀ w', wb.grownBy w' (some w1.heap.size) → w'.cell? (ad2.add k) = some (.int .i64 (gi stock k)) ∧ w'.cell? ⟨w.heap.size, 0, none⟩ = some (.slice (some ad3) s f) ∧ w'.cell? (ad3.add k) = some (.int .i64 (gi rs k)) ∧ w'.cell? (ad1.add k) = some (.int .i64 (gi want k)) ∧ w'.cell? ⟨wo.heap.size, 0, none⟩ = some (.int .i64 (gm ts k).1) ∧ w'.cell? ⟨wo.heap.size, 1, none⟩ = some (.slice B1 m1 d1) ∧ w'.cell? ⟨wo.heap.size, 2, none⟩ = some (.int .i64 (gm ts k).2.2) := fun w' hg => by
              have l1 := (lw.trans lb).grown hg (fun q hq => by injection hq with hq; omega)
              have l2 := ((L1.out.trans hle).trans lb).grown hg (fun q hq => by injection hq with hq; omega)
              have b2 := kb.grown hg (fun e => by injection e with e; omega)
              have x0 := b2.cell 0
              have x1 := b2.cell 1
              have x2 := b2.cell 2
              simp at x0 x1 x2
              exact ⟨l1.cell hc5, (HCL.out _ l2).1, l1.cell hc6, l1.cell hc4, x0, x1, x2⟩
            have HKP := Lib.hid hkp
            have HOW := Lib.hid (own_Le hown lb)
            have HLE := Lib.hid (hle.trans lb)
            have HBS := Lib.hid hbs
            obtain ⟨s1, s2, s3, s4, s5, s6, s7⟩ := hkp wb (World.grownBy.refl _ _)
            clear hc1 hc2 hc3 hc4 hc5 hc6 hr hcl hown hle lw lb kb hkp hrm hbs hb0 hP hR hb0' d0 hbb
            go_wp2
            clear c1 c2 c3
            go_cut [40] from 40 to 92 (fun i40 wx => i40 = .int .i64 (k : Int) ∧ Le w1 wx ∧ wx.ownsRow w1.heap.size 3 1 (.slice (some ⟨w1.heap.size, 0, none⟩) s s) s (ints (midL ts want stock rs s k 0)) ∧ wx.cell? ⟨wo.heap.size, 1, none⟩ = some (.slice B1 m1 d1))
            case first =>
              have hheld : (fun w' => w'.cell? (ad2.add k) = some (.int .i64 (gi stock k)) ∧ w'.cell? ⟨w.heap.size, 0, none⟩ = some (.slice (some ad3) s f) ∧ w'.cell? (ad3.add k) = some (.int .i64 (gi rs k)) ∧ w'.cell? (ad1.add k) = some (.int .i64 (gi want k)) ∧ w'.cell? ⟨wo.heap.size, 0, none⟩ = some (.int .i64 (gm ts k).1) ∧ w'.cell? ⟨wo.heap.size, 1, none⟩ = some (.slice B1 m1 d1) ∧ w'.cell? ⟨wo.heap.size, 2, none⟩ = some (.int .i64 (gm ts k).2.2) ∧ w'.cell? ⟨w1.heap.size, k, none⟩ = some (.int .i64 0)) wb.drew := ⟨s1, s2, s3, s4, s5, s6, s7, d0'⟩
              refine wp_region_last (fun w' => w'.cell? (ad2.add k) = some (.int .i64 (gi stock k)) ∧ w'.cell? ⟨w.heap.size, 0, none⟩ = some (.slice (some ad3) s f) ∧ w'.cell? (ad3.add k) = some (.int .i64 (gi rs k)) ∧ w'.cell? (ad1.add k) = some (.int .i64 (gi want k)) ∧ w'.cell? ⟨wo.heap.size, 0, none⟩ = some (.int .i64 (gm ts k).1) ∧ w'.cell? ⟨wo.heap.size, 1, none⟩ = some (.slice B1 m1 d1) ∧ w'.cell? ⟨wo.heap.size, 2, none⟩ = some (.int .i64 (gm ts k).2.2) ∧ w'.cell? ⟨w1.heap.size, k, none⟩ = some (.int .i64 0)) 24 _ rfl (by kernel_rfl) (by kernel_rfl) ?_
              simp only [List.setIfInBounds_toArray, List.set_cons_zero, List.set_cons_succ, idle]
              refine wpAnyH_take (i := 0) (v := ?_) rfl (by kernel_rfl) (by kernel_rfl) (by kernel_rfl) (fun _ _ _ h => h) (Or.inl ⟨by rfl, ?_⟩) (by assumption) ?_
              rotate_left
              · (intro w' hSw; (try dsimp only at hSw); go_simp; all_goals with_reducible rfl)
              repeat (first | simp only [Act.put] | simp only [List.setIfInBounds_toArray] | simp only [List.set_cons_succ] | simp only [List.set_cons_zero])
              refine wpAnyH_take (i := 1) (v := ?_) rfl (by kernel_rfl) (by kernel_rfl) (by kernel_rfl) (fun _ _ _ h => h) (Or.inl ⟨by rfl, ?_⟩) (by assumption) ?_
              rotate_left
              · (intro w' hSw; (try dsimp only at hSw); go_simp; all_goals with_reducible rfl)
              repeat (first | simp only [Act.put] | simp only [List.setIfInBounds_toArray] | simp only [List.set_cons_succ] | simp only [List.set_cons_zero])
              refine wpAnyH_take (i := 2) (v := ?_) rfl (by kernel_rfl) (by kernel_rfl) (by kernel_rfl) (fun _ _ _ h => h) (Or.inl ⟨by rfl, ?_⟩) (by assumption) ?_
              rotate_left
              · (intro w' hSw; (try dsimp only at hSw); go_simp; all_goals with_reducible rfl)
              repeat (first | simp only [Act.put] | simp only [List.setIfInBounds_toArray] | simp only [List.set_cons_succ] | simp only [List.set_cons_zero])
              refine wpAnyH_take (i := 3) (v := ?_) rfl (by kernel_rfl) (by kernel_rfl) (by kernel_rfl) (fun _ _ _ h => h) (Or.inl ⟨by rfl, ?_⟩) (by assumption) ?_
              rotate_left
              · (intro w' hSw; (try dsimp only at hSw); go_simp; all_goals with_reducible rfl)
              repeat (first | simp only [Act.put] | simp only [List.setIfInBounds_toArray] | simp only [List.set_cons_succ] | simp only [List.set_cons_zero])
              refine wpAnyH_take (i := 4) (v := ?_) rfl (by kernel_rfl) (by kernel_rfl) (by kernel_rfl) (fun _ _ _ h => h) (Or.inl ⟨by rfl, ?_⟩) (by assumption) ?_
              rotate_left
              · (intro w' hSw; (try dsimp only at hSw); go_simp; all_goals with_reducible rfl)
              repeat (first | simp only [Act.put] | simp only [List.setIfInBounds_toArray] | simp only [List.set_cons_succ] | simp only [List.set_cons_zero])
              refine wpAnyH_take (i := 5) (v := ?_) rfl (by kernel_rfl) (by kernel_rfl) (by kernel_rfl) (fun _ _ _ h => h) (Or.inl ⟨by rfl, ?_⟩) (by assumption) ?_
              rotate_left
              · (intro w' hSw; (try dsimp only at hSw); go_simp; all_goals with_reducible rfl)
              repeat (first | simp only [Act.put] | simp only [List.setIfInBounds_toArray] | simp only [List.set_cons_succ] | simp only [List.set_cons_zero])
              refine wpAnyH_take (i := 6) (v := ?_) rfl (by kernel_rfl) (by kernel_rfl) (by kernel_rfl) (fun _ _ _ h => h) (Or.inl ⟨by rfl, ?_⟩) (by assumption) ?_
              rotate_left
              · (intro w' hSw; (try dsimp only at hSw); go_simp; all_goals with_reducible rfl)
              repeat (first | simp only [Act.put] | simp only [List.setIfInBounds_toArray] | simp only [List.set_cons_succ] | simp only [List.set_cons_zero])
              refine wpAnyH_take (i := 7) (v := ?_) rfl (by kernel_rfl) (by kernel_rfl) (by kernel_rfl) (fun _ _ _ h => h) (Or.inl ⟨by rfl, ?_⟩) (by assumption) ?_
              rotate_left
              · (intro w' hSw; (try dsimp only at hSw); go_simp; all_goals with_reducible rfl)
              repeat (first | simp only [Act.put] | simp only [List.setIfInBounds_toArray] | simp only [List.set_cons_succ] | simp only [List.set_cons_zero])
              refine wpAnyH_take (i := 8) (v := ?_) rfl (by kernel_rfl) (by kernel_rfl) (by kernel_rfl) (fun _ _ _ h => h) (Or.inl ⟨by rfl, ?_⟩) (by assumption) ?_
              rotate_left
              · (intro w' hSw; (try dsimp only at hSw); go_simp; all_goals with_reducible rfl)
              repeat (first | simp only [Act.put] | simp only [List.setIfInBounds_toArray] | simp only [List.set_cons_succ] | simp only [List.set_cons_zero])
              refine wpAnyH_take (i := 9) (v := ?_) rfl (by kernel_rfl) (by kernel_rfl) (by kernel_rfl) (fun _ _ _ h => h) (Or.inl ⟨by rfl, ?_⟩) (by assumption) ?_
              rotate_left
              · (intro w' hSw; (try dsimp only at hSw); go_simp; all_goals with_reducible rfl)
              repeat (first | simp only [Act.put] | simp only [List.setIfInBounds_toArray] | simp only [List.set_cons_succ] | simp only [List.set_cons_zero])
              refine wpAnyH_take (i := 10) (v := ?_) rfl (by kernel_rfl) (by kernel_rfl) (by kernel_rfl) (fun _ _ _ h => h) (Or.inl ⟨by rfl, ?_⟩) (by assumption) ?_
              rotate_left
              · (intro w' hSw; (try dsimp only at hSw); go_simp; all_goals with_reducible rfl)
              repeat (first | simp only [Act.put] | simp only [List.setIfInBounds_toArray] | simp only [List.set_cons_succ] | simp only [List.set_cons_zero])
              refine wpAnyH_take (i := 11) (v := ?_) rfl (by kernel_rfl) (by kernel_rfl) (by kernel_rfl) (fun _ _ _ h => h) (Or.inl ⟨by rfl, ?_⟩) (by assumption) ?_
              rotate_left
              · (intro w' hSw; (try dsimp only at hSw); go_simp; all_goals with_reducible rfl)
              repeat (first | simp only [Act.put] | simp only [List.setIfInBounds_toArray] | simp only [List.set_cons_succ] | simp only [List.set_cons_zero])
              refine wpAnyH_take (i := 12) (v := ?_) rfl (by kernel_rfl) (by kernel_rfl) (by kernel_rfl) (fun _ _ _ h => h) (Or.inl ⟨by rfl, ?_⟩) (by assumption) ?_
              rotate_left
              · (intro w' hSw; (try dsimp only at hSw); go_simp; all_goals with_reducible rfl)
              repeat (first | simp only [Act.put] | simp only [List.setIfInBounds_toArray] | simp only [List.set_cons_succ] | simp only [List.set_cons_zero])
              refine wpAnyH_take (i := 13) (v := ?_) rfl (by kernel_rfl) (by kernel_rfl) (by kernel_rfl) (fun _ _ _ h => h) (Or.inl ⟨by rfl, ?_⟩) (by assumption) ?_
              rotate_left
              · (intro w' hSw; (try dsimp only at hSw); go_simp; all_goals with_reducible rfl)
              repeat (first | simp only [Act.put] | simp only [List.setIfInBounds_toArray] | simp only [List.set_cons_succ] | simp only [List.set_cons_zero])
              refine wpAnyH_take (i := 17) (v := ?_) rfl (by kernel_rfl) (by kernel_rfl) (by kernel_rfl) (fun _ _ _ h => h) (Or.inl ⟨by rfl, ?_⟩) (by assumption) ?_
              rotate_left
              · (intro w' hSw; (try dsimp only at hSw); go_simp; all_goals with_reducible rfl)
              repeat (first | simp only [Act.put] | simp only [List.setIfInBounds_toArray] | simp only [List.set_cons_succ] | simp only [List.set_cons_zero])
              refine wpAnyH_take (i := 18) (v := ?_) rfl (by kernel_rfl) (by kernel_rfl) (by kernel_rfl) (fun _ _ _ h => h) (Or.inl ⟨by rfl, ?_⟩) (by assumption) ?_
              rotate_left
              · (intro w' hSw; (try dsimp only at hSw); go_simp; all_goals with_reducible rfl)
              repeat (first | simp only [Act.put] | simp only [List.setIfInBounds_toArray] | simp only [List.set_cons_succ] | simp only [List.set_cons_zero])
              refine wpAnyH_take (i := 19) (v := ?_) rfl (by kernel_rfl) (by kernel_rfl) (by kernel_rfl) (fun _ _ _ h => h) (Or.inl ⟨by rfl, ?_⟩) (by assumption) ?_
              rotate_left
              · (intro w' hSw; (try dsimp only at hSw); go_simp; all_goals with_reducible rfl)
              repeat (first | simp only [Act.put] | simp only [List.setIfInBounds_toArray] | simp only [List.set_cons_succ] | simp only [List.set_cons_zero])
              refine wpAnyH_take (i := 20) (v := ?_) rfl (by kernel_rfl) (by kernel_rfl) (by kernel_rfl) (fun _ _ _ h => h) (Or.inl ⟨by rfl, ?_⟩) (by assumption) ?_
              rotate_left
              · (intro w' hSw; (try dsimp only at hSw); go_simp; all_goals with_reducible rfl)
              repeat (first | simp only [Act.put] | simp only [List.setIfInBounds_toArray] | simp only [List.set_cons_succ] | simp only [List.set_cons_zero])
              refine wpAnyH_ready (rs := [14]) (by kernel_rfl) (by simp) ?_
              refine AllReadyH.cons (i := 14) rfl (fun K hK => ?_) AllReadyH.nil
              go_simp
              refine (HRM.out _).mono ?_; rintro e w3 ⟨rfl, l3⟩
              (try go_wp2_with fail)
              have gb3 := gb_le (gb_drew (World.grownBy.refl wb (some w1.heap.size))) l3
              obtain ⟨t1, t2, t3, t4, t5, t6, t7⟩ := HKP.out _ gb3
              have d3 := ((Le.refl wb).drew.trans l3).cell d0'
              have o3 := own_Le HOW.out ((Le.refl wb).drew.trans l3)
              obtain ⟨_, _, hv3, _, _, _, hfz3, _⟩ := own_open o3 (by omega)
              injection hv3 with f1 f2 f3
              injection f1 with f1
              injection f1 with f1
              subst f1
              have z3 := hfz3 k
              clear f2 f3 hfz3
              have HO3 := Lib.hid o3
              clear o3 gb3 hheld
              refine hK.out _ _ ⟨t1, t2, t3, t4, t5, t6, t7, d3⟩ (fun hHeld => ?_)
              clear hK K
              repeat (first | simp only [Act.put] | simp only [List.setIfInBounds_toArray] | simp only [List.set_cons_succ] | simp only [List.set_cons_zero])
              refine wpAnyH_take (i := 15) (v := ?_) rfl (by kernel_rfl) (by kernel_rfl) (by kernel_rfl) (fun _ _ _ h => h) (Or.inl ⟨by rfl, ?_⟩) (by assumption) ?_
              rotate_left
              · (intro w' hSw; (try dsimp only at hSw); go_simp; all_goals with_reducible rfl)
              repeat (first | simp only [Act.put] | simp only [List.setIfInBounds_toArray] | simp only [List.set_cons_succ] | simp only [List.set_cons_zero])
              refine wpAnyH_take (i := 16) (v := ?_) rfl (by kernel_rfl) (by kernel_rfl) (by kernel_rfl) (fun _ _ _ h => h) (Or.inl ⟨by rfl, ?_⟩) (by assumption) ?_
              rotate_left
              · (intro w' hSw; (try dsimp only at hSw); go_simp; all_goals with_reducible rfl)
              repeat (first | simp only [Act.put] | simp only [List.setIfInBounds_toArray] | simp only [List.set_cons_succ] | simp only [List.set_cons_zero])
              refine wpAnyH_take (i := 21) (v := ?_) rfl (by kernel_rfl) (by kernel_rfl) (by kernel_rfl) (fun _ _ _ h => h) (Or.inl ⟨by rfl, ?_⟩) (by assumption) ?_
              rotate_left
              · (intro w' hSw; (try dsimp only at hSw); go_simp; all_goals with_reducible rfl)
              repeat (first | simp only [Act.put] | simp only [List.setIfInBounds_toArray] | simp only [List.set_cons_succ] | simp only [List.set_cons_zero])
              refine wpAnyH_take (i := 22) (v := ?_) rfl (by kernel_rfl) (by kernel_rfl) (by kernel_rfl) (fun _ _ _ h => h) (Or.inl ⟨by rfl, ?_⟩) (by assumption) ?_
              rotate_left
              · (intro w' hSw; (try dsimp only at hSw); go_simp; all_goals with_reducible rfl)
              repeat (first | simp only [Act.put] | simp only [List.setIfInBounds_toArray] | simp only [List.set_cons_succ] | simp only [List.set_cons_zero])
              refine wpAnyH_take (i := 23) (v := ?_) rfl (by kernel_rfl) (by kernel_rfl) (by kernel_rfl) (fun _ _ _ h => h) (Or.inl ⟨by rfl, ?_⟩) (by assumption) ?_
              rotate_left
              · (intro w' hSw; (try dsimp only at hSw); go_simp; all_goals with_reducible rfl)
              repeat (first | simp only [Act.put] | simp only [List.setIfInBounds_toArray] | simp only [List.set_cons_succ] | simp only [List.set_cons_zero])
              refine wpAnyH_take (i := 24) (v := ?_) rfl (by kernel_rfl) (by kernel_rfl) (by kernel_rfl) (fun _ _ _ h => h) (Or.inl ⟨by rfl, ?_⟩) (by assumption) ?_
              rotate_left
              · (intro w' hSw; (try dsimp only at hSw); go_simp; all_goals with_reducible rfl)
              repeat (first | simp only [Act.put] | simp only [List.setIfInBounds_toArray] | simp only [List.set_cons_succ] | simp only [List.set_cons_zero])
              refine wpAnyH_done (by kernel_rfl) ?_ _
              clear hHeld
              show Oper.wp _ _ _ _ _ _
              go_simp
              go_wp2_with fail
              go_meet
              refine ⟨rfl, (HLE.out.trans ((Le.refl wb).drew.trans l3)).setCell (Nat.le_refl _) _, ?_, ?_⟩
              · rw [← HBS.out]; exact own_setI HO3.out b0
              · have A1 := gb_le (gb_drew (World.grownBy.refl wb (some w1.heap.size))) l3
                exact (HKP.out _ (gb_setCell A1 (p := ⟨w1.heap.size, k, none⟩) rfl (.int .i64 b0))).2.2.2.2.2.1
            case rest =>
              obtain ⟨rfl, hle4, hown4, c4⟩ := hcut
              clear s1 s2 s3 s4 s5 s6 s7 d0'
              have hmx2 := hmx
              go_wp2
              clear c4
              have hw1b := hle4.size
              go_loopw [72] (fun i wr => ∃ j : Nat, j ≤ m1 ∧ i = .int .i64 j ∧ Le w1 wr ∧ wr.ownsRow w1.heap.size 3 1 (.slice (some ⟨w1.heap.size, 0, none⟩) s s) s (ints (midL ts want stock rs s k j))) (fun i _ => m1 - (intOf i).toNat)
              case atStart => exact ⟨0, Nat.zero_le _, rfl, hle4, hown4⟩
              case round =>
                obtain ⟨j, hj, rfl, hle, hown⟩ := hrel
                have lw2 := (L0.out.trans L1.out).trans hle
                by_cases hjm : j < m1
                · obtain ⟨ad1', rfl, hp1, hp2⟩ := HRW.out _ lw2 j hjm
                  obtain ⟨r1, r2, r3, r4⟩ := HOK.out.part hlt (j := j) (by rw [hlen]; exact hjm)
                  have hcb := curF_b HOK.out (by omega) HW.out.2 HS.out.2 HR.out hlt (j := j) (q := ofN (gm ts k).2.1 j) (by omega) (by omega)
                  have hkr := HR.out k hlt
                  have hst := midL_set (ts := ts) want stock rs s k j
                  have hmc := midF_cur ts want stock rs (k := k) (j := j) (q := ofN (gm ts k).2.1 j) (by omega)
                  obtain ⟨g', cap', hv', _, hg2', _, hfz, hcl⟩ := own_open hown (by omega)
                  injection hv' with e1 e2 e3
                  injection e1 with e1
                  injection e1 with e1
                  subst e1
                  clear e2 e3
                  have d1 := hcl (ofN (gm ts k).2.1 j) (by omega)
                  unfold midL at d1
                  rw [gi_range s _ (by omega), hmc] at d1
                  rw [hmc] at hst
                  have c6 := HC6.out _ lw2
                  have c0 := (HCL.out _ (L1.out.trans hle)).1
                  rw [r1] at hp1
                  obtain ⟨F, hF⟩ : ∃ F, F = curF ts want stock rs k j (ofN (gm ts k).2.1 j) := ⟨_, rfl⟩
                  rw [← hF] at d1 hcb hst
                  obtain ⟨mn, hmn⟩ : ∃ mn, mn = (gp (gm ts k).2.1 j).2 := ⟨_, rfl⟩
                  rw [← hmn] at hp2 hst r3 r4
                  generalize ofN (gm ts k).2.1 j = o at *
                  obtain ⟨P, hP⟩ : ∃ P, P = gi rs k * mn := ⟨_, rfl⟩
                  have hP0 : 0 ≤ P := by rw [hP]; exact Int.mul_nonneg hkr.1 (by omega)
                  have hP1 : P ≤ 9999999 * 6 := by rw [hP]; exact Int.mul_le_mul hkr.2 r4 (by omega) (by omega)
                  rw [← hP] at hst
                  have hv1 : IntKind.i64.wrap (gi rs k * mn) = P := by rw [← hP]; exact IntWalk.i64_in _ (by omega)
                  have hv2 : IntKind.i64.wrap (F - P) = F - P := IntWalk.i64_in _ (by omega)
                  have hj1 : (0 : Int) ≤ (o : Int) := by omega
                  have hj2 : (o : Int) < (s : Int) := by omega
                  have l1 := (Le.refl wr).alloc (.cells #[.int .i64 (o : Int), .int .i64 mn] 80)
                  have k1 := Blk.new wr 80 #[.int .i64 (o : Int), .int .i64 mn]
                  have hz := hfz o
                  have ho2 := own_Le hown l1
                  obtain ⟨_, _, hv2', _, _, _, hfz2, _⟩ := own_open ho2 (by omega)
                  injection hv2' with f1 f2 f3
                  injection f1 with f1
                  injection f1 with f1
                  subst f1
                  clear f2 f3
                  have z2 := hfz2 o
                  generalize hwk : wr.alloc (.cells #[.int .i64 (o : Int), .int .i64 mn] 80) = wk at *
                  have b0' := k1.cell 0
                  have b1 := k1.cell 1
                  simp at b0' b1
                  have d1' := l1.cell d1
                  have c6' := l1.cell c6
                  have c0' := l1.cell c0
                  have HO2 := Lib.hid ho2
                  have HL2 := Lib.hid (hle.trans l1)
                  have HST := Lib.hid hst
                  clear hcl hfz hfz2 hst hF hmn hP hown ho2 hle l1 k1 r1 hcb hkr hP0 hP1 hmc lw2 hle4 hown4
                  go_wp2
                  go_still_tail 15, (by kernel_rfl)
                  change wpList _ _ _ _ _ wk.drew
                  go_wp2
                  go_roundw
                  case rel =>
                    refine ⟨j + 1, by omega, by go_num, (HL2.out.setCell (Nat.le_refl _) _).drew, ?_⟩
                    rw [← HST.out]
                    exact own_setI HO2.out _
                  case measure => simp [intOf]; omega
                · obtain rfl : j = m1 := by omega
                  go_wp2
                  go_roundw
                  case rel =>
                    refine ⟨k + 1, by omega, by go_num, hle, ?_⟩
                    rw [← midL_next, hlen]
                    exact hown
                  case measure => simp [intOf]; omega
          · obtain rfl : k = s := by omega
            rw [startL_end ts want stock rs hl] at hown
            have hlw := (L0.out.trans L1.out).trans hle
            obtain ⟨a0, a1⟩ := HCL.out _ (L1.out.trans hle)
            generalize leftL ts want stock rs = L at *
            have HOW := Lib.hid hown
            have HLW := Lib.hid hlw
            clear hown hlw hle
            go_wp2
            go_loop [95] (fun i => ∃ q : Nat, q ≤ k ∧ i = .int .i64 q ∧ AllTo (leftB L ls) q) (fun i => k - (intOf i).toNat)
            case atStart => exact ⟨0, Nat.zero_le _, rfl, AllTo.zero _⟩
            case round =>
              obtain ⟨q, hq, rfl, hin⟩ := hrel
              by_cases hlt2 : q < k
              · obtain ⟨ad4, rfl, hc8⟩ := HC4.out q hlt2
                have c8 := HLW.out.cell hc8
                obtain ⟨g', cap', hv', _, _, _, hfz, hcl⟩ := own_open HOW.out (by omega)
                injection hv' with e1 e2 e3
                injection e1 with e1
                injection e1 with e1
                subst e1
                have d1 := hcl q hlt2
                clear e2 e3 hcl hfz hc8
                by_cases hx : gi L q < 0
                · have hno : V = false := by
                    rw [HVV.out]
                    exact all_bad hlt2 (by unfold leftB; rw [decide_eq_false (by omega), Bool.false_and])
                  subst hno
                  clear hin
                  go_wp2
                  go_ret
                  exact ⟨rfl, HLW.out⟩
                · by_cases he : gi L q = gi ls q
                  · have hne : (gi ls q != gi L q) = false := by simp [he]
                    have hgood : leftB L ls q = true := by unfold leftB; rw [decide_eq_true (by omega), decide_eq_true he]; rfl
                    clear he
                    go_wp2
                    go_round
                    case rel => exact ⟨q + 1, by omega, by go_num, hin.succ hgood⟩
                    case measure => simp [intOf]; omega
                  · have hne : (gi ls q != gi L q) = true := by rw [bne_iff_ne]; exact fun e => he e.symm
                    have hno : V = false := by
                      rw [HVV.out]
                      exact all_bad hlt2 (by unfold leftB; rw [decide_eq_false he, Bool.and_false])
                    subst hno
                    clear he hin
                    go_wp2
                    go_ret
                    exact ⟨rfl, HLW.out⟩
              · obtain rfl : q = k := by omega
                have hyes : V = true := by rw [HVV.out]; exact all_good hin
                subst hyes
                clear hin
                go_wp2
                go_ret
                exact ⟨rfl, HLW.out⟩
      · have hno : ((true && decide (ls.length = s)) && (List.range s).all (leftB (leftL ts want stock rs) ls)) = false := by
          rw [decide_eq_false (by omega), Bool.and_false, Bool.false_and]
        simp only [Bool.true_and] at hno
        rw [hno]
        have hb2' : ((t : Int) != (s : Int)) = true := by rw [bne_iff_ne]; omega
        clear hok hw hs hb hb2 e0 hno hrf
        go_enter Tryd.func29, Tryd.ntmps29
        go_wp2_with fail
        refine HV.out.mono ?_; rintro o w1 ⟨rfl, l1⟩
        obtain ⟨a0, a1⟩ := HCL.out _ l1
        go_wp2_with (go_at_call 60; refine (HA.out _ l1).mono ?_; rintro e w' ⟨rfl, rfl⟩)
        go_ret
        exact ⟨rfl, L0.out.trans l1⟩
end Go.Proofs.YtoahjfofnaafaaaDoor
