/- Walk: PlanLeast of the reference. -/
import Derived.Test.YtoahjfofnaafaaaDoorWPOkI
namespace Go.Proofs.YtoahjfofnaafaaaDoor
open Go.RowKit

def needD (ts : List It) (want stock : List Int) (n d : Nat) : List Int := (List.range n).map (plN ts want stock n d).1
def runsD (ts : List It) (want stock : List Int) (n d : Nat) : List Int := (List.range n).map (plN ts want stock n d).2
def needJ (ts : List It) (want stock : List Int) (n d j : Nat) : List Int := (List.range n).map fun q => (plN ts want stock n d).1 q + useP (gm ts (n - 1 - d)).2.1 (runOf ((plN ts want stock n d).1 (n - 1 - d) - gi stock (n - 1 - d)) (rmI ts (n - 1 - d))) q j
def runsR (ts : List It) (want stock : List Int) : List Int := if planArgsL ts want stock = true then runsL ts want stock else []
def leftR (ts : List It) (want stock : List Int) : List Int := if planArgsL ts want stock = true then leftL ts want stock (runsL ts want stock) else []
theorem needD_zero {ts : List It} {want stock : List Int} {n : Nat} (hl : want.length = n) : needD ts want stock n 0 = want := by
  apply ext_gi
  · simp [needD, hl]
  · intro q hq
    have hq : q < n := by simpa [needD] using hq
    unfold needD
    rw [gi_range n _ hq]; rfl
theorem runsD_zero (ts : List It) (want stock : List Int) (n : Nat) : runsD ts want stock n 0 = List.replicate n 0 := by
  unfold runsD
  apply List.ext_getElem?
  intro q
  rw [List.getElem?_map, List.getElem?_replicate]
  by_cases hq : q < n
  · rw [List.getElem?_range hq, if_pos hq]; rfl
  · rw [List.getElem?_eq_none (by simp; omega), if_neg hq]; rfl
theorem runsD_end (ts : List It) (want stock : List Int) {n : Nat} (hl : ts.length = n) : runsD ts want stock n n = runsL ts want stock := by
  unfold runsD runsL; rw [hl]
theorem runsD_set (ts : List It) (want stock : List Int) {n d : Nat} : (runsD ts want stock n d).set (n - 1 - d) (runOf ((plN ts want stock n d).1 (n - 1 - d) - gi stock (n - 1 - d)) (rmI ts (n - 1 - d))) = runsD ts want stock n (d + 1) := by
  unfold runsD
  refine range_set n _ _ ?_ fun q _ hq => ?_
  · rw [plN_2, if_pos rfl]
  · rw [plN_2, if_neg hq]
theorem needJ_zero (ts : List It) (want stock : List Int) (n d : Nat) : needJ ts want stock n d 0 = needD ts want stock n d := by
  unfold needJ needD
  refine List.map_congr_left fun q _ => ?_
  show _ + 0 = _
  omega
theorem needJ_end (ts : List It) (want stock : List Int) (n d : Nat) : needJ ts want stock n d (gm ts (n - 1 - d)).2.1.length = needD ts want stock n (d + 1) := by
  unfold needJ needD
  exact List.map_congr_left fun q _ => rfl
theorem needJ_set (ts : List It) (want stock : List Int) (n d j : Nat) {r : Int} (hr : r = runOf ((plN ts want stock n d).1 (n - 1 - d) - gi stock (n - 1 - d)) (rmI ts (n - 1 - d))) {x : Int} (hx : x = (plN ts want stock n d).1 (ofN (gm ts (n - 1 - d)).2.1 j) + useP (gm ts (n - 1 - d)).2.1 r (ofN (gm ts (n - 1 - d)).2.1 j) j) :
    (needJ ts want stock n d j).set (ofN (gm ts (n - 1 - d)).2.1 j) (x + r * (gp (gm ts (n - 1 - d)).2.1 j).2) = needJ ts want stock n d (j + 1) := by
  subst hr hx
  unfold needJ
  refine range_set n _ _ ?_ fun q _ hq => ?_
  · rw [useP_succ, if_pos rfl]; omega
  · rw [useP_succ, if_neg (fun (e : ofN (gm ts (n - 1 - d)).2.1 j = q) => hq e.symm)]; omega
/-- the numbers of a round, each under a name -/
theorem least_nums {ts : List It} {n : Nat} (h : ItOk ts n) (hn : n ≤ 6) {want stock : List Int} (hw : ∀ k, k < n → 0 ≤ gi want k ∧ gi want k ≤ 50) (hs : ∀ k, k < n → 0 ≤ gi stock k ∧ gi stock k ≤ 50) {d : Nat} (hd : d < n) :
    ∃ (nq sq : Int) (rn r : Nat), (plN ts want stock n d).1 (n - 1 - d) = nq ∧ gi stock (n - 1 - d) = sq ∧ rmI ts (n - 1 - d) = (rn : Int) ∧ runOf (nq - sq) rn = (r : Int) ∧ (1 ≤ rn ∧ rn ≤ 6) ∧ (0 ≤ nq ∧ nq ≤ 840350) ∧ (0 ≤ sq ∧ sq ≤ 50) ∧ r ≤ 840350 ∧
      (0 < nq - sq → ∃ x : Nat, nq - sq + rn - 1 = (x : Int) ∧ x / rn = r ∧ x ≤ 1000000) ∧ (¬ 0 < nq - sq → r = 0) := by
  have hrm := h.rm (k := n - 1 - d) (by omega)
  have hsk := hs (n - 1 - d) (by omega)
  have hb := plN_b h hw hs d (by omega) (n - 1 - d) (by omega)
  have p : ∀ d : Nat, d < 6 → (50 : Int) * 7 ^ d ≤ 840350 := by decide
  have p := p d (by omega)
  obtain ⟨rn, hrn⟩ : ∃ rn : Nat, rmI ts (n - 1 - d) = rn := ⟨(rmI ts (n - 1 - d)).toNat, by omega⟩
  rw [hrn] at hrm
  obtain ⟨r0, r1⟩ := runOf_b (lacks := (plN ts want stock n d).1 (n - 1 - d) - gi stock (n - 1 - d)) hrm.1
  generalize (plN ts want stock n d).1 (n - 1 - d) = nq at *
  generalize gi stock (n - 1 - d) = sq at *
  obtain ⟨r, hr⟩ : ∃ r : Nat, runOf (nq - sq) rn = r := ⟨(runOf (nq - sq) rn).toNat, by omega⟩
  refine ⟨nq, sq, rn, r, rfl, rfl, hrn, hr, by omega, by omega, hsk, ?_, fun hl => ?_, fun hl => ?_⟩
  · by_cases hl : 0 < nq - sq
    · have := r1 hl; omega
    · unfold runOf at hr; rw [if_neg hl] at hr; omega
  · obtain ⟨x, hx⟩ : ∃ x : Nat, nq - sq + rn - 1 = x := ⟨(nq - sq + rn - 1).toNat, by omega⟩
    refine ⟨x, hx, ?_, by omega⟩
    unfold runOf at hr
    rw [if_pos hl, hx] at hr
    exact Int.ofNat.inj hr
  · unfold runOf at hr; rw [if_neg hl] at hr; omega
theorem prod_b {r : Nat} {mn : Int} (h : r ≤ 840350) (h3 : 1 ≤ mn) (h4 : mn ≤ 6) : 0 ≤ (r : Int) * mn ∧ (r : Int) * mn ≤ 5042100 :=
  ⟨Int.mul_nonneg (by omega) (by omega), Int.le_trans (Int.mul_le_mul (show (r : Int) ≤ 840350 by omega) h4 (by omega) (by omega)) (by decide)⟩
/-- what is needed within a round stays small -/
theorem needJ_b {ts : List It} {n : Nat} (h : ItOk ts n) (hn : n ≤ 6) {want stock : List Int} (hw : ∀ k, k < n → 0 ≤ gi want k ∧ gi want k ≤ 50) (hs : ∀ k, k < n → 0 ≤ gi stock k ∧ gi stock k ≤ 50) {d : Nat} (hd : d < n) {j o : Nat} (ho : o < n) (hj : j ≤ (gm ts (n - 1 - d)).2.1.length) :
    gi (needJ ts want stock n d j) o = (plN ts want stock n d).1 o + useP (gm ts (n - 1 - d)).2.1 (runOf ((plN ts want stock n d).1 (n - 1 - d) - gi stock (n - 1 - d)) (rmI ts (n - 1 - d))) o j ∧ 0 ≤ gi (needJ ts want stock n d j) o ∧ gi (needJ ts want stock n d j) o ≤ 300000000 := by
  obtain ⟨nq, sq, rn, r, e1, e2, e3, e4, b1, b2, b3, b4, f1, f2⟩ := least_nums h hn hw hs hd
  have hb := plN_b h hw hs d (by omega) o ho
  have p : ∀ d : Nat, d < 6 → (50 : Int) * 7 ^ d ≤ 840350 := by decide
  have p := p d (by omega)
  have u := useP_3 h (k := n - 1 - d) (by omega) (r := runOf ((plN ts want stock n d).1 (n - 1 - d) - gi stock (n - 1 - d)) (rmI ts (n - 1 - d))) (by rw [e1, e2, e3, e4]; omega) (R := 9999999) (by rw [e1, e2, e3, e4]; omega) o j hj
  have e : gi (needJ ts want stock n d j) o = (plN ts want stock n d).1 o + useP (gm ts (n - 1 - d)).2.1 (runOf ((plN ts want stock n d).1 (n - 1 - d) - gi stock (n - 1 - d)) (rmI ts (n - 1 - d))) o j := by
    unfold needJ; rw [gi_range n _ ho]
  refine ⟨e, ?_⟩
  rw [e]
  omega
/-- the numbers of a round of the reference -/
theorem wrap_divN (a g : Nat) (ha : a ≤ 9223372036854775807) : wrap64 ((a : Int) / (g : Int)) = ((a / g : Nat) : Int) := by
  have h1 : (a : Int) / (g : Int) = ((a / g : Nat) : Int) := rfl
  have h2 := Nat.div_le_self a g
  generalize a / g = z at *
  rw [h1]
  exact IntWalk.wrap64_in _ (by omega)
theorem least_numsS {ts : List It} {n : Nat} (h : ItOk ts n) (hn : n ≤ 6) {want stock : List Int} (hw : ∀ k, k < n → 0 ≤ gi want k ∧ gi want k ≤ 50) (hs : ∀ k, k < n → 0 ≤ gi stock k ∧ gi stock k ≤ 50) {d : Nat} (hd : d < n) :
    ∃ (nq sq lk : Int) (rn r ln x1 x2 : Nat), (plN ts want stock n d).1 (n - 1 - d) = nq ∧ gi stock (n - 1 - d) = sq ∧ rmI ts (n - 1 - d) = (rn : Int) ∧ runOf (nq - sq) rn = (r : Int) ∧ (1 ≤ rn ∧ rn ≤ 6) ∧ r ≤ 840350 ∧
      (IntKind.i64.wrap (nq - sq) = lk ∧ (if lk < 0 then (0 : Int) else lk) = (ln : Int) ∧ IntKind.i64.wrap ((ln : Int) + (rn : Int)) = (x1 : Int) ∧ IntKind.i64.wrap ((x1 : Int) - 1) = (x2 : Int) ∧ wrap64 ((x2 : Int) / (rn : Int)) = (r : Int)) := by
  obtain ⟨nq, sq, rn, r, e1, e2, e3, e4, b1, b2, b3, b4, f1, f2⟩ := least_nums h hn hw hs hd
  by_cases hl : 0 < nq - sq
  · obtain ⟨x, g1, g2, g3⟩ := f1 hl
    refine ⟨nq, sq, nq - sq, rn, r, (nq - sq).toNat, x + 1, x, e1, e2, e3, e4, b1, b4, IntWalk.i64_in _ (by omega), ?_, ?_, ?_, ?_⟩
    · rw [if_neg (by omega)]; omega
    · rw [IntWalk.i64_in _ (by omega)]; omega
    · rw [IntWalk.i64_in _ (by omega)]; omega
    · rw [wrap_divN x rn (by omega), g2]
  · have h0 := f2 hl
    refine ⟨nq, sq, nq - sq, rn, r, 0, rn, rn - 1, e1, e2, e3, e4, b1, b4, IntWalk.i64_in _ (by omega), ?_, ?_, ?_, ?_⟩
    · by_cases hz : nq - sq < 0
      · rw [if_pos hz]; rfl
      · rw [if_neg hz]; omega
    · rw [IntWalk.i64_in _ (by omega)]; omega
    · rw [IntWalk.i64_in _ (by omega)]; omega
    · rw [wrap_divN (rn - 1) rn (by omega), Nat.div_eq_of_lt (by omega), h0]

set_option maxRecDepth 20000 in
set_option maxHeartbeats 4000000 in
theorem specLeast_any (A C : Option Addr) (B : Addr) (n m r c d e : Nat) (ts : List It) (want stock : List Int) (w : World) (h : RM w A n ts) (h1 : RI w (some B) m want) (h2 : RI w C r stock) :
    Calls Tryd.prog 85 #[.slice A n c, .slice (some B) m d, .slice C r e] w fun o w' => ∃ v1 v2, o = .returned (.tuple #[.agg #[v1, v2], .bool (planArgsL ts want stock)]) ∧ w'.ownsRow w.heap.size 3 1 v1 (runsR ts want stock).length (ints (runsR ts want stock)) ∧ w'.ownsRow w.heap.size 3 1 v2 (leftR ts want stock).length (ints (leftR ts want stock)) ∧ (∀ g, v1.ownBlock = some g → v2.ownBlock ≠ some g) ∧ Le w w' := by
  have k0 := Blk.new w 42 #[.slice none 0 0, .slice none 0 0]
  have l0 := (Le.refl w).alloc (.cells #[.slice none 0 0, .slice none 0 0] 42)
  generalize hwz : w.alloc (.cells #[.slice none 0 0, .slice none 0 0] 42) = wz at *
  have hv := specItemsValid_any A n c ts wz (h.le l0)
  have ha := fun w' (l : Le wz w') => l1Amounts_any A (some B) n m c d want w' (h1.le (l0.trans l))
  have hb' := fun w' (l : Le wz w') => l1Amounts_any A C n r c e stock w' (h2.le (l0.trans l))
  have hl := h.len
  have hm := h.max
  have e0 : planArgsL ts want stock = (itemsL ts && amountsOkL want n 50 && amountsOkL stock n 50) := by unfold planArgsL; rw [hl]
  have hbad : planArgsL ts want stock = false → runsR ts want stock = [] ∧ leftR ts want stock = [] := fun hb => by unfold runsR leftR; rw [hb]; exact ⟨rfl, rfl⟩
  have hback : ∀ w1, Le wz w1 → ∀ (x y : Value), Le w ((w1.setCell ⟨w.heap.size, 0, none⟩ x).setCell ⟨w.heap.size, 1, none⟩ y) ∧ ((w1.setCell ⟨w.heap.size, 0, none⟩ x).setCell ⟨w.heap.size, 1, none⟩ y).cell? ⟨w.heap.size, 0, none⟩ = some x ∧ ((w1.setCell ⟨w.heap.size, 0, none⟩ x).setCell ⟨w.heap.size, 1, none⟩ y).cell? ⟨w.heap.size, 1, none⟩ = some y := fun w1 l1 x y => by
    have b := ((k0.le l1).set_ 0 x).set_ 1 y
    exact ⟨((l0.trans l1).setCell (Nat.le_refl _) _).setCell (Nat.le_refl _) _, by simpa using b.cell 0, by simpa using b.cell 1⟩
  have HA := Lib.hid ha
  have HB := Lib.hid hb'
  have HBK := Lib.hid hback
  have K0 := Lib.hid k0
  have L0 := Lib.hid l0
  have HH := Lib.hid h
  have H1 := Lib.hid h1
  have H2 := Lib.hid h2
  have HC := Lib.hid h.at_
  have HC2 := Lib.hid h2.at_
  have hl1 := h1.len
  have hl2 := h2.len
  have hwzs : w.heap.size < wz.heap.size := k0.lt
  clear ha hb' hback k0 l0 h h1 h2
  cases hb : itemsL ts
  · have hno : planArgsL ts want stock = false := by rw [e0, hb]; rfl
    rw [hb] at hv
    rw [(hbad hno).1, (hbad hno).2, hno]
    have HV := Lib.hid hv
    clear hv hb e0 hbad hno
    go_enter Tryd.func85, Tryd.ntmps85
    go_wp2_with fail
    refine HV.out.mono ?_; rintro o w1 ⟨rfl, l1⟩
    have a0 := (K0.out.le l1).cell 0
    have a1 := (K0.out.le l1).cell 1
    have z0 := (K0.out.le l1).frozen 0
    have z1 := (K0.out.le l1).frozen 1
    simp at a0 a1
    go_wp2
    obtain ⟨f1, f2, f3⟩ := HBK.out w1 l1 (.slice none 0 0) (.slice none 0 0)
    exact bodyPost_ret (v := .tuple #[.agg #[.slice none 0 0, .slice none 0 0], .bool false]) (by simp [results, Tryd.results85, go_sem, f2, f3]) rfl ⟨_, _, rfl, World.ownsRow_nil _ _ _ _, World.ownsRow_nil _ _ _ _, (fun g hg => by cases hg), f1⟩
  · rw [hb] at hv
    have HV := Lib.hid hv
    clear hv
    cases hb2 : amountsOkL want n 50
    · have hno : planArgsL ts want stock = false := by rw [e0, hb, hb2]; rfl
      simp only [hb2] at HA
      rw [(hbad hno).1, (hbad hno).2, hno]
      clear hb hb2 e0 hbad hno
      go_enter Tryd.func85, Tryd.ntmps85
      go_wp2_with fail
      refine HV.out.mono ?_; rintro o w1 ⟨rfl, l1⟩
      have a0 := (K0.out.le l1).cell 0
      have a1 := (K0.out.le l1).cell 1
      have z0 := (K0.out.le l1).frozen 0
      have z1 := (K0.out.le l1).frozen 1
      simp at a0 a1
      go_wp2_with (go_at_call 71; refine (HA.out _ l1).mono ?_; rintro e w' ⟨rfl, rfl⟩)
      obtain ⟨f1, f2, f3⟩ := HBK.out w1 l1 (.slice none 0 0) (.slice none 0 0)
      exact bodyPost_ret (v := .tuple #[.agg #[.slice none 0 0, .slice none 0 0], .bool false]) (by simp [results, Tryd.results85, go_sem, f2, f3]) rfl ⟨_, _, rfl, World.ownsRow_nil _ _ _ _, World.ownsRow_nil _ _ _ _, (fun g hg => by cases hg), f1⟩
    · simp only [hb2] at HA
      cases hb3 : amountsOkL stock n 50
      · have hno : planArgsL ts want stock = false := by rw [e0, hb, hb2, hb3]; rfl
        simp only [hb3] at HB
        rw [(hbad hno).1, (hbad hno).2, hno]
        clear hb hb2 hb3 e0 hbad hno
        go_enter Tryd.func85, Tryd.ntmps85
        go_wp2_with fail
        refine HV.out.mono ?_; rintro o w1 ⟨rfl, l1⟩
        have a0 := (K0.out.le l1).cell 0
        have a1 := (K0.out.le l1).cell 1
        have z0 := (K0.out.le l1).frozen 0
        have z1 := (K0.out.le l1).frozen 1
        simp at a0 a1
        go_wp2_with fail
        refine (HA.out _ l1).mono ?_; rintro e w' ⟨rfl, rfl⟩
        go_wp2_with fail
        refine (HB.out _ l1).mono ?_; rintro e w' ⟨rfl, rfl⟩
        go_wp2
        obtain ⟨f1, f2, f3⟩ := HBK.out w1 l1 (.slice none 0 0) (.slice none 0 0)
        exact bodyPost_ret (v := .tuple #[.agg #[.slice none 0 0, .slice none 0 0], .bool false]) (by simp [results, Tryd.results85, go_sem, f2, f3]) rfl ⟨_, _, rfl, World.ownsRow_nil _ _ _ _, World.ownsRow_nil _ _ _ _, (fun g hg => by cases hg), f1⟩
      · simp only [hb3] at HB
        have hpa : planArgsL ts want stock = true := by rw [e0, hb, hb2, hb3]; rfl
        obtain ⟨hn6, hok, hw, hs⟩ := plan_args hl hpa
        obtain rfl : n = m := by omega
        obtain rfl : n = r := by omega
        have er : runsR ts want stock = runsL ts want stock := by unfold runsR; rw [hpa]; rfl
        have el : leftR ts want stock = leftL ts want stock (runsL ts want stock) := by unfold leftR; rw [hpa]; rfl
        rw [er, el, hpa]
        have HOK := Lib.hid hok
        have HW := Lib.hid hw.2
        have HS := Lib.hid hs.2
        have hw0 := needD_zero (ts := ts) (stock := stock) hw.1
        have HW0 := Lib.hid hw0
        have hwl := hw.1
        clear hb hb2 hb3 e0 hbad hok hw hs er el hpa hw0
        obtain ⟨i0, hi0, hz0, hz1, hz2⟩ := info_parts infoInt
        have hmk := run_mk (P := Tryd.prog) 40 3 (.int .i64 0) 1 8 Tryd.underlying40 infoInt n (by omega) (by omega)
        go_enter Tryd.func85, Tryd.ntmps85
        go_wp2_with fail
        refine HV.out.mono ?_; rintro o w1 ⟨rfl, l1⟩
        have L1 := Lib.hid l1
        clear l1
        go_wp2_with fail
        refine (HA.out _ L1.out).mono ?_; rintro o w' ⟨rfl, rfl⟩
        go_wp2_with fail
        refine (HB.out _ L1.out).mono ?_; rintro o w' ⟨rfl, rfl⟩
        go_wp2_with (at_builtin; refine wpList_append_own_at _ rfl (.tmp 30) (.tmp 31) _ rfl w1.heap.size 3 i0 (.int .i64 0) 1 8 Tryd.underlying40 hi0 hz0 hz1 hz2 rfl (by decide) _ 0 [] rfl ?hown B n d (ints want) rfl ?c0 ?c1 ?c2 ?c3 ?c4 ?c5 ?_)
        case hown => exact own_empty _ _ _
        case c0 => rw [ints_length, hwl]; omega
        case c1 =>
          intro j u hj
          have hjn : j < n := by
            have := (List.getElem?_eq_some_iff.1 hj).1
            rw [ints_length, hwl] at this; exact this
          obtain ⟨ad', e, hc⟩ := H1.out.at_ j hjn
          injection e with e
          subst e
          rw [ints_getElem? (by omega)] at hj
          injection hj with hj
          subst hj
          exact ((L0.out.trans L1.out).alloc _).cell hc
        case c2 =>
          intro u hu
          unfold ints at hu
          rw [List.mem_map] at hu
          obtain ⟨x, _, rfl⟩ := hu
          rfl
        case c3 => unfold maxLen; omega
        case c4 => omega
        case c5 => simp
        intro v w2 ho hgrow _ _
        have hle2 : Le w1 w2 := ((Le.refl w1).alloc _).grown hgrow (fun g hg => by simp [Value.ownBlock] at hg; omega)
        rw [← HW0.out] at ho
        have HO0 := Lib.hid ho
        have L2 := Lib.hid hle2
        have hne8 : v.ownBlock ≠ some w2.heap.size := fun e => Nat.lt_irrefl _ (ho.lt _ e).2
        clear ho hgrow hle2
        have hw1s := L1.out.size
        go_wp2
        go_loopw [10] (fun i wr => ∃ m d : Nat, m + d = n ∧ i = .int .i64 ((m : Int) - 1) ∧ Le w1 wr ∧ wr.ownsRow w1.heap.size 3 1 v n (ints (needD ts want stock n d)) ∧ wr.ownsRow w1.heap.size 3 1 (.slice (some ⟨w2.heap.size, 0, none⟩) n n) n (ints (runsD ts want stock n d))) (fun i _ => (intOf i + 1).toNat)
        case atStart =>
          refine ⟨n, 0, by omega, rfl, L2.out.alloc _, HO0.out.alloc _, ?_⟩
          rw [runsD_zero]
          refine Blk.ownI ?_ L2.out.size (by simp) (by omega)
          have e : madeCells #[.int .i64 0] n = (ints (List.replicate n 0)).toArray := by
            apply Array.ext_getElem?
            intro j
            by_cases hj : j < n
            · rw [made_get _ _ _ (by omega), List.getElem?_toArray, ints_getElem? (by simpa using hj)]
              unfold gi; rw [List.getD_eq_getElem?_getD, List.getElem?_replicate, if_pos hj]; rfl
            · rw [Array.getElem?_eq_none (by rw [made_size]; omega), List.getElem?_toArray, List.getElem?_eq_none (by rw [ints_length]; simp; omega)]
          rw [← e]
          exact Blk.new _ _ _
        case round =>
          obtain ⟨m, dd, hmd, rfl, hle, hown, hruns⟩ := hrel
          by_cases hm0 : m = 0
          · subst hm0
            obtain rfl : dd = n := by omega
            rw [runsD_end ts want stock hl] at hruns
            have hlw := (L0.out.trans L1.out).trans hle
            have hri := own_RI2 hruns (by omega)
            have hlf := l1Left_any A (some B) C (some ⟨w2.heap.size, 0, none⟩) dd dd dd dd c d e dd ts want stock (runsL ts want stock) wr (HH.out.le hlw) (H1.out.le hlw) (H2.out.le hlw) hri hn6 HOK.out ⟨rfl, HW.out⟩ ⟨rfl, HS.out⟩ ⟨rfl, fun q hq => by
              have := runsL_b hl hn6 HOK.out HW.out HS.out hq
              omega⟩
            have HLF := Lib.hid hlf
            have HRN := Lib.hid hruns
            have HLE := Lib.hid hle
            have hg0 : ((0 : Nat) : Int) - 1 = -1 := rfl
            clear hlf hri hruns hown hle
            go_wp2_with fail
            refine HLF.out.mono ?_; rintro o w3 ⟨v3, rfl, o3, l3⟩
            have a0 := (K0.out.le ((L1.out.trans HLE.out).trans l3)).cell 0
            have a1 := (K0.out.le ((L1.out.trans HLE.out).trans l3)).cell 1
            have z0 := (K0.out.le ((L1.out.trans HLE.out).trans l3)).frozen 0
            have z1 := (K0.out.le ((L1.out.trans HLE.out).trans l3)).frozen 1
            simp at a0 a1
            obtain ⟨A3, c3, rfl, _⟩ := own_RI o3 (by rw [leftL_length, hl]; omega)
            rw [leftL_length, hl] at o3
            go_wp2
            obtain ⟨f1, f2, f3⟩ := HBK.out w3 ((L1.out.trans HLE.out).trans l3) (.slice (some ⟨w2.heap.size, 0, none⟩) dd dd) (.slice A3 (leftL ts want stock (runsL ts want stock)).length c3)
            have hw2r := (HRN.out.lt w2.heap.size rfl).2
            have hw1r := HLE.out.size
            have hrl : (runsL ts want stock).length = dd := by simp [runsL, hl]
            refine bodyPost_ret (v := .tuple #[.agg #[.slice (some ⟨w2.heap.size, 0, none⟩) dd dd, .slice A3 (leftL ts want stock (runsL ts want stock)).length c3], .bool true]) (by simp [results, Tryd.results85, go_sem, f2, f3]) rfl ⟨_, _, rfl, ?_, ?_, ?_, f1⟩
            · rw [hrl]
              exact own_far (own_far (own_mono (own_Le HRN.out l3) (by omega)) (by intro e; injection e with e; have e : w2.heap.size = w.heap.size := e; have := L2.out.size; omega) _) (by intro e; injection e with e; have e : w2.heap.size = w.heap.size := e; have := L2.out.size; omega) _
            · rw [leftL_length, hl]
              have o4 := own_mono o3 (show w.heap.size ≤ wr.heap.size by omega)
              have hf : (Value.slice A3 dd c3).ownBlock ≠ some w.heap.size := fun e => by have := (o3.lt _ e).1; omega
              exact own_far (own_far o4 hf _) hf _
            · intro g hg hg2
              injection hg with hg
              have hg : w2.heap.size = g := hg
              rw [leftL_length, hl] at hg2
              have := (o3.lt _ hg2).1
              omega
          · obtain ⟨q, rfl⟩ : ∃ q, m = q + 1 := ⟨m - 1, by omega⟩
            rw [show ((q + 1 : Nat) : Int) - 1 = (q : Int) by omega]
            have hqn : q < n := by omega
            have hq : n - 1 - dd = q := by omega
            obtain ⟨wo, hwo⟩ : ∃ wo, wo = wr := ⟨_, rfl⟩
            subst hwo
            obtain ⟨ad, B1, m1, d9, rfl, hc1, hc2, hc3, hr⟩ := HC.out q hqn
            obtain ⟨ad2, rfl, hc5⟩ := HC2.out q hqn
            obtain ⟨nq, sq, lk, rn, r, ln, x1, x2, e1, e2, e3, e4, b1, b4, g1, g2, g3, g4, g5⟩ := least_numsS HOK.out hn6 HW.out HS.out (show dd < n by omega)
            have hrset := runsD_set ts want stock (n := n) (d := dd)
            have hn0 := needJ_zero ts want stock n dd
            rw [e1, e2, e3, e4, hq] at hrset
            rw [hq] at e1 e2 e3
            have hlw := (L0.out.trans L1.out).trans hle
            have c1 := hlw.cell hc1
            have c2 := hlw.cell hc2
            have c5 := hlw.cell hc5
            rw [e2] at c5
            obtain ⟨Y, hY⟩ : ∃ Y, Y = (gm ts q).1 := ⟨_, rfl⟩
            have hyb := (HOK.out q hqn).1
            have hmx : (if Y < 1 then (1 : Int) else Y) = (rn : Int) := by
              rw [← e3, hY]; unfold rmI
              by_cases hy : (gm ts q).1 = 0
              · rw [if_pos hy, if_pos (by omega)]
              · rw [if_neg hy, if_neg (by omega)]
            rw [← hY] at c1
            obtain ⟨gv, cap, rfl, hg1, hg2, hcap, hfz, hcl⟩ := own_open hown (by omega)
            obtain ⟨_, _, hv8, _, hg3, _, hfz8, _⟩ := own_open hruns (by omega)
            injection hv8 with e5 e6 e7
            injection e5 with e5
            injection e5 with e5
            subst e5
            clear e6 e7
            have z8 := hfz8 q
            have d1 := hcl q hqn
            unfold needD at d1
            rw [gi_range n _ hqn, e1] at d1
            have hi1 : (0 : Int) ≤ (q : Int) := by omega
            have hi2 : (q : Int) < (n : Int) := by omega
            have hyn : ¬ rn = 0 := by omega
            have hGE : decide ((q : Int) ≥ 0) = true := by simp
            have hlen := hr.len
            have hmx2 := hr.max
            have HRW := Lib.hid (fun w' (l : Le w w') j (hj : j < m1) => (hr.le l).at_ j hj)
            have HCP := Lib.hid (fun w' (l : Le w w') => l.cell hc2)
            have hw2b : w1.heap.size ≤ w2.heap.size := L2.out.size
            have o9 : (wo.setCell ⟨w2.heap.size, q, none⟩ (.int .i64 r)).ownsRow w1.heap.size 3 1 (.slice (some ⟨gv, 0, none⟩) n cap) n (ints (needJ ts want stock n dd 0)) := by
              rw [hn0]
              exact own_far hown hne8 _
            have o10 : (wo.setCell ⟨w2.heap.size, q, none⟩ (.int .i64 r)).ownsRow w1.heap.size 3 1 (.slice (some ⟨w2.heap.size, 0, none⟩) n n) n (ints (runsD ts want stock n (dd + 1))) := by
              rw [← hrset]
              exact own_setI hruns _
            have l9 : Le w1 (wo.setCell ⟨w2.heap.size, q, none⟩ (.int .i64 r)) := hle.setCell (p := ⟨w2.heap.size, q, none⟩) hw2b _
            have hb9 := fun (j o : Nat) (ho : o < n) => needJ_b (stock := stock) HOK.out hn6 HW.out HS.out (show dd < n by omega) (j := j) ho
            have hpt : ∀ j, j < m1 → (gp (gm ts q).2.1 j).1 = ofN (gm ts q).2.1 j ∧ ofN (gm ts q).2.1 j < q ∧ 1 ≤ (gp (gm ts q).2.1 j).2 ∧ (gp (gm ts q).2.1 j).2 ≤ 6 := fun j hj => HOK.out.part hqn (by rw [hlen]; exact hj)
            have hrq : gi (runsD ts want stock n (dd + 1)) q = (r : Int) := by
              unfold runsD
              rw [gi_range n _ hqn, plN_2, if_pos hq.symm, hq, e1, e2, e3, e4]
            have HPT := Lib.hid hpt
            have HB9 := Lib.hid hb9
            have HO9 := Lib.hid o9
            have HO10 := Lib.hid o10
            have HL9 := Lib.hid l9
            have HRQ := Lib.hid hrq
            have HNUM := Lib.hid (And.intro e1 (And.intro e2 (And.intro e3 e4)))
            clear hY hyb hc1 hc2 hc5 hc3 hr hrset hn0 hlw hown hruns hle hfz hcl hfz8 o9 o10 l9 hb9 hpt hrq e1 e2 e3 e4
            go_wp2
            go_still_tail 18, (by kernel_rfl)
            change wpList _ _ _ _ _ wo.drew
            go_wp2
            go_loopw [12] (fun i wr => ∃ j : Nat, j ≤ m1 ∧ i = .int .i64 j ∧ Le w1 wr ∧ wr.ownsRow w1.heap.size 3 1 (.slice (some ⟨gv, 0, none⟩) n cap) n (ints (needJ ts want stock n dd j)) ∧ wr.ownsRow w1.heap.size 3 1 (.slice (some ⟨w2.heap.size, 0, none⟩) n n) n (ints (runsD ts want stock n (dd + 1)))) (fun i _ => m1 - (intOf i).toNat)
            case atStart =>
              rw [g5]
              exact ⟨0, Nat.zero_le _, rfl, HL9.out.drew, HO9.out.drew, HO10.out.drew⟩
            case round =>
              obtain ⟨j, hj, rfl, hle, hown, hruns⟩ := hrel
              have lw2 := (L0.out.trans L1.out).trans hle
              have c2 := HCP.out _ lw2
              by_cases hjm : j < m1
              · obtain ⟨ad1', rfl, hp1, hp2⟩ := HRW.out _ lw2 j hjm
                obtain ⟨r1, r2, r3, r4⟩ := HPT.out j hjm
                obtain ⟨hv, hcb⟩ := HB9.out j (ofN (gm ts q).2.1 j) (by omega) (by rw [hq, hlen]; omega)
                rw [hq, HNUM.out.1, HNUM.out.2.1, HNUM.out.2.2.1, HNUM.out.2.2.2] at hv
                have hst := needJ_set ts want stock n dd j (r := (r : Int)) (by rw [hq, HNUM.out.1, HNUM.out.2.1, HNUM.out.2.2.1, HNUM.out.2.2.2]) (x := gi (needJ ts want stock n dd j) (ofN (gm ts q).2.1 j)) (by rw [hv, hq])
                rw [hq] at hst
                obtain ⟨g', cap', hv', _, hg2', _, hfz, hcl⟩ := own_open hown (by omega)
                injection hv' with e1 e2 e3
                injection e1 with e1
                injection e1 with e1
                subst e1
                clear e2 e3
                obtain ⟨g', cap', hv', _, _, _, _, hcr⟩ := own_open hruns (by omega)
                injection hv' with e1 e2 e3
                injection e1 with e1
                injection e1 with e1
                subst e1
                clear e2 e3
                have d1 := hcl (ofN (gm ts q).2.1 j) (by omega)
                have d6 := hcr q hqn
                rw [HRQ.out] at d6
                rw [r1] at hp1
                obtain ⟨F, hF⟩ : ∃ F, F = gi (needJ ts want stock n dd j) (ofN (gm ts q).2.1 j) := ⟨_, rfl⟩
                rw [← hF] at d1 hcb hst
                obtain ⟨mn, hmn⟩ : ∃ mn, mn = (gp (gm ts q).2.1 j).2 := ⟨_, rfl⟩
                rw [← hmn] at hp2 hst r3 r4
                clear hv
                obtain ⟨o, hoo⟩ : ∃ o, o = ofN (gm ts q).2.1 j := ⟨_, rfl⟩
                rw [← hoo] at d1 hst hp1 r2
                obtain ⟨P, hP⟩ : ∃ P, P = (r : Int) * mn := ⟨_, rfl⟩
                have hPP : 0 ≤ P ∧ P ≤ 5042100 := by rw [hP]; exact prod_b b4 r3 r4
                obtain ⟨hP0, hP1⟩ := hPP
                rw [← hP] at hst
                have hw1 : IntKind.i64.wrap ((r : Int) * mn) = P := by rw [← hP]; exact IntWalk.i64_in _ (by omega)
                have hw2 : IntKind.i64.wrap (F + P) = F + P := IntWalk.i64_in _ (by omega)
                have hj1 : (0 : Int) ≤ (o : Int) := by omega
                have hj2 : (o : Int) < (n : Int) := by omega
                have l1 := (Le.refl wr).alloc (.cells #[.int .i64 (o : Int), .int .i64 mn] 80)
                have k1 := Blk.new wr 80 #[.int .i64 (o : Int), .int .i64 mn]
                have hz := hfz o
                have ho2 := own_Le hown l1
                obtain ⟨_, _, hv2, _, _, _, hfz2, _⟩ := own_open ho2 (by omega)
                injection hv2 with f1 f2 f3
                injection f1 with f1
                injection f1 with f1
                subst f1
                clear f2 f3
                have z2 := hfz2 o
                generalize hwk : wr.alloc (.cells #[.int .i64 (o : Int), .int .i64 mn] 80) = wk at *
                have b0 := k1.cell 0
                have b1 := k1.cell 1
                simp at b0 b1
                have d1' := l1.cell d1
                have d6' := l1.cell d6
                have HO2 := Lib.hid ho2
                have HRN := Lib.hid (own_Le hruns l1)
                have HL2 := Lib.hid (hle.trans l1)
                have HST := Lib.hid hst
                clear hcl hcr hfz hfz2 hst hF hmn hP hown ho2 hle l1 k1 r1 hcb hP0 hP1 hoo lw2 hruns
                go_wp2
                go_still_tail 17, (by kernel_rfl)
                change wpList _ _ _ _ _ wk.drew
                go_wp2
                go_roundw
                case rel =>
                  refine ⟨j + 1, by omega, by go_num, (HL2.out.setCell hg1 _).drew, ?_, (own_far (p := ⟨gv, o, none⟩) HRN.out (fun e => hne8 e.symm) _).drew⟩
                  rw [← HST.out]
                  exact (own_setI HO2.out _).drew
                case measure => simp [intOf]; omega
              · obtain rfl : j = m1 := by omega
                go_wp2
                go_roundw
                case rel =>
                  refine ⟨q, dd + 1, by omega, by go_num, hle, ?_, hruns⟩
                  have := needJ_end ts want stock n dd
                  rw [hq, hlen] at this
                  rw [← this]
                  exact hown
                case measure => simp [intOf]
end Go.Proofs.YtoahjfofnaafaaaDoor
