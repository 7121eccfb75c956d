/- Walk: PlanLeast of the program. -/
import Derived.Test.YtoahjfofnaafaaaDoorWLeastS
namespace Go.Proofs.YtoahjfofnaafaaaDoor
open Go.RowKit

def leftD (ts : List It) (want stock : List Int) (n d : Nat) : List Int := (List.range n).map fun q => if n - d ≤ q then gi (leftL ts want stock (runsL ts want stock)) q else 0
theorem leftD_zero (ts : List It) (want stock : List Int) (n : Nat) : leftD ts want stock n 0 = List.replicate n 0 := by
  unfold leftD
  apply List.ext_getElem?
  intro q
  rw [List.getElem?_map, List.getElem?_replicate]
  by_cases hq : q < n
  · rw [List.getElem?_range hq, if_pos hq]
    show some (if n - 0 ≤ q then _ else 0) = _
    rw [if_neg (by omega)]
  · rw [List.getElem?_eq_none (by simp; omega), if_neg hq]; rfl
theorem leftD_end (ts : List It) (want stock : List Int) {n : Nat} (hl : ts.length = n) : leftD ts want stock n n = leftL ts want stock (runsL ts want stock) := by
  apply ext_gi
  · rw [leftL_length, hl]; simp [leftD]
  · intro q hq
    have hq : q < n := by simpa [leftD] using hq
    unfold leftD
    rw [gi_range n _ hq, if_pos (by omega)]
theorem leftD_set (ts : List It) (want stock : List Int) {n d : Nat} (hd : d < n) : (leftD ts want stock n d).set (n - 1 - d) (gi (leftL ts want stock (runsL ts want stock)) (n - 1 - d)) = leftD ts want stock n (d + 1) := by
  unfold leftD
  refine range_set n _ _ ?_ fun q _ hq => ?_
  · rw [if_pos (by omega)]
  · by_cases e : n - d ≤ q
    · rw [if_pos e, if_pos (by omega)]
    · rw [if_neg e, if_neg (by omega)]
/-- the numbers of a round of the program -/
theorem least_numsI {ts : List It} {n : Nat} (hl : ts.length = n) (h : ItOk ts n) (hn : n ≤ 6) {want stock : List Int} (hw : ∀ k, k < n → 0 ≤ gi want k ∧ gi want k ≤ 50) (hs : ∀ k, k < n → 0 ≤ gi stock k ∧ gi stock k ≤ 50) {d : Nat} (hd : d < n) :
    ∃ (nq sq lk rr lf : Int) (rn r : Nat), (plN ts want stock n d).1 (n - 1 - d) = nq ∧ gi stock (n - 1 - d) = sq ∧ rmI ts (n - 1 - d) = (rn : Int) ∧ runOf (nq - sq) rn = (r : Int) ∧ (1 ≤ rn ∧ rn ≤ 6) ∧ r ≤ 840350 ∧
      gi (leftL ts want stock (runsL ts want stock)) (n - 1 - d) = lf ∧ IntKind.i64.wrap (nq - sq) = lk ∧ IntKind.i64.wrap ((r : Int) * (rn : Int)) = rr ∧ IntKind.i64.wrap (rr - lk) = lf ∧
      (0 < lk → ∃ x1 x2 : Nat, IntKind.i64.wrap (lk + (rn : Int)) = (x1 : Int) ∧ IntKind.i64.wrap ((x1 : Int) - 1) = (x2 : Int) ∧ wrap64 ((x2 : Int) / (rn : Int)) = (r : Int)) ∧ (¬ 0 < lk → r = 0) := by
  obtain ⟨nq, sq, rn, r, e1, e2, e3, e4, b1, b2, b3, b4, f1, f2⟩ := least_nums h hn hw hs hd
  obtain ⟨l1, l2⟩ := least_left hl h want stock hd
  rw [e1, e2, e3, e4] at l1
  rw [l1, e1, e2, e3] at l2
  have hlk : IntKind.i64.wrap (nq - sq) = nq - sq := IntWalk.i64_in _ (by omega)
  have hp : 0 ≤ (r : Int) * (rn : Int) ∧ (r : Int) * (rn : Int) ≤ 5042100 := prod_b b4 (by omega) (by omega)
  refine ⟨nq, sq, nq - sq, (r : Int) * rn, (r : Int) * rn - (nq - sq), rn, r, e1, e2, e3, e4, b1, b4, l2, hlk, IntWalk.i64_in _ (by omega), IntWalk.i64_in _ (by omega), fun hl => ?_, fun hl => f2 hl⟩
  obtain ⟨x, g1, g2, g3⟩ := f1 hl
  refine ⟨x + 1, x, ?_, ?_, ?_⟩
  · rw [IntWalk.i64_in _ (by omega)]; omega
  · rw [IntWalk.i64_in _ (by omega)]; omega
  · rw [wrap_divN x rn (by omega), g2]
theorem made_ints (n : Nat) : madeCells #[.int .i64 0] n = (ints (List.replicate n 0)).toArray := by
  apply Array.ext_getElem?
  intro j
  by_cases hj : j < n
  · rw [made_get _ _ _ (by omega), List.getElem?_toArray, ints_getElem? (by simpa using hj)]
    unfold gi; rw [List.getD_eq_getElem?_getD, List.getElem?_replicate, if_pos hj]; rfl
  · rw [Array.getElem?_eq_none (by rw [made_size]; omega), List.getElem?_toArray, List.getElem?_eq_none (by rw [ints_length]; simp; omega)]

theorem gi_setI {xs : List Int} {j : Nat} (hj : j < xs.length) (v : Int) (k : Nat) : gi (xs.set j v) k = if k = j then v else gi xs k := by
  unfold gi
  rw [List.getD_eq_getElem?_getD, List.getD_eq_getElem?_getD, List.getElem?_set]
  by_cases e : j = k
  · subst e; simp [hj]
  · rw [if_neg e, if_neg (fun h => e h.symm)]
theorem blk_three (w : World) (c1 c2 c3 : Array Value) (t1 t2 t3 : TypeId) : Blk (((w.alloc (.cells c1 t1)).alloc (.cells c2 t2)).alloc (.cells c3 t3)).drew w.heap.size t1 c1 ∧ Blk (((w.alloc (.cells c1 t1)).alloc (.cells c2 t2)).alloc (.cells c3 t3)).drew (w.heap.size + 1) t2 c2 ∧ Blk (((w.alloc (.cells c1 t1)).alloc (.cells c2 t2)).alloc (.cells c3 t3)).drew (w.heap.size + 1 + 1) t3 c3 := by
  refine ⟨(((Blk.new w t1 c1).alloc _).alloc _).drew, ?_, ?_⟩
  · have := ((Blk.new (w.alloc (.cells c1 t1)) t2 c2).alloc (.cells c3 t3)).drew
    simpa using this
  · have := (Blk.new ((w.alloc (.cells c1 t1)).alloc (.cells c2 t2)) t3 c3).drew
    simpa using this

theorem plan_rel {w2 wx : World} {n : Nat} {v : Value} {P R L : Nat} (kP : Blk wx P 42 #[.slice (some ⟨R, 0, none⟩) n n, .slice (some ⟨L, 0, none⟩) n n]) (kR : Blk wx R 3 (madeCells #[.int .i64 0] n)) (kL : Blk wx L 3 (madeCells #[.int .i64 0] n)) (hl : Le w2 wx)
    (h1 : P ≠ R ∧ P ≠ L ∧ R ≠ L) (h2 : w2.heap.size ≤ P ∧ w2.heap.size ≤ R ∧ w2.heap.size ≤ L) :
    v = v ∧ ∃ P' R L : Nat, Value.pointer (some ⟨P, 0, none⟩) = Value.pointer (some ⟨P', 0, none⟩) ∧ Blk wx P' 42 #[.slice (some ⟨R, 0, none⟩) n n, .slice (some ⟨L, 0, none⟩) n n] ∧ Blk wx R 3 (madeCells #[.int .i64 0] n) ∧ Blk wx L 3 (madeCells #[.int .i64 0] n) ∧ Le w2 wx ∧ (P' ≠ R ∧ P' ≠ L ∧ R ≠ L) ∧ (w2.heap.size ≤ P' ∧ w2.heap.size ≤ R ∧ w2.heap.size ≤ L) :=
  ⟨rfl, P, R, L, rfl, kP, kR, kL, hl, h1, h2⟩

set_option maxRecDepth 20000 in
set_option maxHeartbeats 4000000 in
theorem implLeast_any (A C : Option Addr) (B : Option Addr) (n m r c d e : Nat) (ts : List It) (want stock : List Int) (w : World) (h : RM w A n ts) (h1 : RI w B m want) (h2 : RI w C r stock) :
    Calls Tryd.prog 27 #[.slice A n c, .slice B m d, .slice C r e] w fun o w' => ∃ v1 v2, o = .returned (.tuple #[.agg #[v1, v2], .bool (planArgsL ts want stock)]) ∧ w'.ownsRow w.heap.size 3 1 v1 (runsR ts want stock).length (ints (runsR ts want stock)) ∧ w'.ownsRow w.heap.size 3 1 v2 (leftR ts want stock).length (ints (leftR ts want stock)) ∧ (∀ g, v1.ownBlock = some g → v2.ownBlock ≠ some g) ∧ Le w w' := by
  have k0 := Blk.new w 42 #[.slice none 0 0, .slice none 0 0]
  have l0 := (Le.refl w).alloc (.cells #[.slice none 0 0, .slice none 0 0] 42)
  generalize hwz : w.alloc (.cells #[.slice none 0 0, .slice none 0 0] 42) = wz at *
  have hv := planArgs_any A B C n m r c d e ts want stock wz (h.le l0) (h1.le l0) (h2.le l0)
  have hl := h.len
  have hm := h.max
  have hback : ∀ w1, Le wz w1 → ∀ (x y : Value), Le w ((w1.setCell ⟨w.heap.size, 0, none⟩ x).setCell ⟨w.heap.size, 1, none⟩ y) ∧ ((w1.setCell ⟨w.heap.size, 0, none⟩ x).setCell ⟨w.heap.size, 1, none⟩ y).cell? ⟨w.heap.size, 0, none⟩ = some x ∧ ((w1.setCell ⟨w.heap.size, 0, none⟩ x).setCell ⟨w.heap.size, 1, none⟩ y).cell? ⟨w.heap.size, 1, none⟩ = some y := fun w1 l1 x y => by
    have b := ((k0.le l1).set_ 0 x).set_ 1 y
    exact ⟨((l0.trans l1).setCell (Nat.le_refl _) _).setCell (Nat.le_refl _) _, by simpa using b.cell 0, by simpa using b.cell 1⟩
  have HBK := Lib.hid hback
  have K0 := Lib.hid k0
  have L0 := Lib.hid l0
  have HC := Lib.hid h.at_
  have HC2 := Lib.hid h2.at_
  have H1 := Lib.hid h1
  have hl1 := h1.len
  have hl2 := h2.len
  have hwzs : w.heap.size < wz.heap.size := k0.lt
  clear hback k0 l0 h h1 h2
  cases hb : planArgsL ts want stock
  · have e1 : runsR ts want stock = [] := by unfold runsR; rw [hb]; rfl
    have e2 : leftR ts want stock = [] := by unfold leftR; rw [hb]; rfl
    rw [hb] at hv
    rw [e1, e2]
    have HV := Lib.hid hv
    clear hv hb e1 e2
    go_enter Tryd.func27, Tryd.ntmps27
    go_wp2_with fail
    refine HV.out.mono ?_; rintro o w1 ⟨rfl, l1⟩
    have a0 := (K0.out.le l1).cell 0
    have a1 := (K0.out.le l1).cell 1
    have z0 := (K0.out.le l1).frozen 0
    have z1 := (K0.out.le l1).frozen 1
    simp at a0 a1
    go_wp2
    obtain ⟨f1, f2, f3⟩ := HBK.out w1 l1 (.slice none 0 0) (.slice none 0 0)
    exact bodyPost_ret (v := .tuple #[.agg #[.slice none 0 0, .slice none 0 0], .bool false]) (by simp [results, Tryd.results27, go_sem, f2, f3]) rfl ⟨_, _, rfl, World.ownsRow_nil _ _ _ _, World.ownsRow_nil _ _ _ _, (fun g hg => by cases hg), f1⟩
  · rw [hb] at hv
    have HV := Lib.hid hv
    clear hv
    obtain ⟨hn6, hok, hw, hs⟩ := plan_args hl hb
    obtain rfl : n = m := by omega
    obtain rfl : n = r := by omega
    have er : runsR ts want stock = runsL ts want stock := by unfold runsR; rw [hb]; rfl
    have el : leftR ts want stock = leftL ts want stock (runsL ts want stock) := by unfold leftR; rw [hb]; rfl
    rw [er, el]
    have HOK := Lib.hid hok
    have HW := Lib.hid hw.2
    have HS := Lib.hid hs.2
    have hw0 := needD_zero (ts := ts) (stock := stock) hw.1
    have HW0 := Lib.hid hw0
    have hcp := fun w' (l : Le wz w') => copyInts_any B n d want w' (H1.out.le (L0.out.trans l)) (by omega)
    have HCP := Lib.hid hcp
    have hwl := hw.1
    clear hb hok hw hs er el hw0 hcp
    have hmk := run_mk (P := Tryd.prog) 40 3 (.int .i64 0) 1 8 Tryd.underlying40 infoInt n (by omega) (by omega)
    go_enter Tryd.func27, Tryd.ntmps27
    go_wp2_with fail
    refine HV.out.mono ?_; rintro o w1 ⟨rfl, l1⟩
    have L1 := Lib.hid l1
    clear l1
    go_wp2_with fail
    refine (HCP.out _ L1.out).mono ?_; rintro o w2 ⟨v, rfl, ho, l2⟩
    rw [hwl] at ho
    rw [← HW0.out] at ho
    have HO0 := Lib.hid ho
    have L2 := Lib.hid l2
    have hw1s := L1.out.size
    have hw2s := L2.out.size
    clear ho l2
    go_wp2
    go_cut [8, 9] from 23 to 29 (fun v8 p wx => v = v8 ∧ ∃ P R L : Nat, p = .pointer (some ⟨P, 0, none⟩) ∧ Blk wx P 42 #[.slice (some ⟨R, 0, none⟩) n n, .slice (some ⟨L, 0, none⟩) n n] ∧ Blk wx R 3 (madeCells #[.int .i64 0] n) ∧ Blk wx L 3 (madeCells #[.int .i64 0] n) ∧ Le w2 wx ∧ (P ≠ R ∧ P ≠ L ∧ R ≠ L) ∧ (w2.heap.size ≤ P ∧ w2.heap.size ≤ R ∧ w2.heap.size ≤ L))
    case first =>
      go_region
      all_goals
        go_wp2_with fail
        go_meet
        apply plan_rel
        · first | exact (blk_three w2 _ _ _ _ _ _).1 | exact (blk_three w2 _ _ _ _ _ _).2.1 | exact (blk_three w2 _ _ _ _ _ _).2.2
        · first | exact (blk_three w2 _ _ _ _ _ _).1 | exact (blk_three w2 _ _ _ _ _ _).2.1 | exact (blk_three w2 _ _ _ _ _ _).2.2
        · first | exact (blk_three w2 _ _ _ _ _ _).1 | exact (blk_three w2 _ _ _ _ _ _).2.1 | exact (blk_three w2 _ _ _ _ _ _).2.2
        · exact ((((Le.refl w2).alloc _).alloc _).alloc _).drew
        · omega
        · omega
    case rest =>
      obtain ⟨rfl, P, R, L, rfl, kP, kR, kL, hle2, ⟨hPR, hPL, hRL⟩, ⟨hP2, hR2, hL2⟩⟩ := hcut
      rw [made_ints] at kR kL
      have oR0 := kR.ownI (base := w2.heap.size) hR2 (show (List.replicate n (0 : Int)).length = n by simp) (by omega)
      have oL0 := kL.ownI (base := w2.heap.size) hL2 (show (List.replicate n (0 : Int)).length = n by simp) (by omega)
      rw [← runsD_zero ts want stock n] at oR0
      rw [← leftD_zero ts want stock n] at oL0
      have hvb : ∀ g, v.ownBlock = some g → w1.heap.size ≤ g ∧ g < w2.heap.size := fun g hg => HO0.out.lt g hg
      have HVB := Lib.hid hvb
      have HLE2 := Lib.hid hle2
      have HO1 := Lib.hid (own_Le HO0.out hle2)
      have HR0 := Lib.hid oR0
      have HL0 := Lib.hid oL0
      have HP0 := Lib.hid kP
      clear hvb oR0 oL0 kP kR kL hle2 hmk
      go_wp2
      go_loopw [10] (fun i wr => ∃ m d : Nat, m + d = n ∧ i = .int .i64 ((m : Int) - 1) ∧ Le w1 wr ∧ wr.ownsRow w1.heap.size 3 1 v n (ints (needD ts want stock n d)) ∧ Blk wr P 42 #[.slice (some ⟨R, 0, none⟩) n n, .slice (some ⟨L, 0, none⟩) n n] ∧ wr.ownsRow w2.heap.size 3 1 (.slice (some ⟨R, 0, none⟩) n n) n (ints (runsD ts want stock n d)) ∧ wr.ownsRow w2.heap.size 3 1 (.slice (some ⟨L, 0, none⟩) n n) n (ints (leftD ts want stock n d))) (fun i _ => (intOf i + 1).toNat)
      case atStart => exact ⟨n, 0, by omega, rfl, L2.out.trans HLE2.out, HO1.out, HP0.out, HR0.out, HL0.out⟩
      case round =>
        obtain ⟨m, dd, hmd, rfl, hle, hown, hkp, hruns, hleft⟩ := hrel
        by_cases hm0 : m = 0
        · subst hm0
          obtain rfl : dd = n := by omega
          rw [runsD_end ts want stock hl] at hruns
          rw [leftD_end ts want stock hl] at hleft
          have hg0 : ((0 : Nat) : Int) - 1 = -1 := rfl
          have l1 := L1.out.trans hle
          have a0 := (K0.out.le l1).cell 0
          have a1 := (K0.out.le l1).cell 1
          have z0 := (K0.out.le l1).frozen 0
          have z1 := (K0.out.le l1).frozen 1
          have p0 := hkp.cell 0
          have p1 := hkp.cell 1
          simp at a0 a1 p0 p1
          have HRN := Lib.hid hruns
          have HLF := Lib.hid hleft
          have HL1 := Lib.hid l1
          clear hruns hleft hown hkp hle l1
          go_wp2
          obtain ⟨f1, f2, f3⟩ := HBK.out wr HL1.out (.slice (some ⟨R, 0, none⟩) dd dd) (.slice (some ⟨L, 0, none⟩) dd dd)
          have hrl : (runsL ts want stock).length = dd := by simp [runsL, hl]
          refine bodyPost_ret (v := .tuple #[.agg #[.slice (some ⟨R, 0, none⟩) dd dd, .slice (some ⟨L, 0, none⟩) dd dd], .bool true]) (by simp [results, Tryd.results27, go_sem, f2, f3]) rfl ⟨_, _, rfl, ?_, ?_, ?_, f1⟩
          · rw [hrl]
            exact own_far (own_far (own_mono HRN.out (by omega)) (by intro e; injection e with e; have e : R = w.heap.size := e; omega) _) (by intro e; injection e with e; have e : R = w.heap.size := e; omega) _
          · rw [leftL_length, hl]
            exact own_far (own_far (own_mono HLF.out (by omega)) (by intro e; injection e with e; have e : L = w.heap.size := e; omega) _) (by intro e; injection e with e; have e : L = w.heap.size := e; omega) _
          · intro g hg hg2
            injection hg with hg
            have hg : R = g := hg
            injection hg2 with hg2
            have hg2 : L = g := hg2
            omega
        · obtain ⟨q, rfl⟩ : ∃ q, m = q + 1 := ⟨m - 1, by omega⟩
          rw [show ((q + 1 : Nat) : Int) - 1 = (q : Int) by omega]
          have hqn : q < n := by omega
          have hq : n - 1 - dd = q := by omega
          obtain ⟨wo, hwo⟩ : ∃ wo, wo = wr := ⟨_, rfl⟩
          subst hwo
          obtain ⟨ad, B1, m1, d9, rfl, hc1, hc2, hc3, hr⟩ := HC.out q hqn
          obtain ⟨ad2, rfl, hc5⟩ := HC2.out q hqn
          obtain ⟨nn, sq, lk, rr, lf, rn, r, e1, e2, e3, e4, b1, b4, g0, g1, g2, g3, g4, g5⟩ := least_numsI hl HOK.out hn6 HW.out HS.out (show dd < n by omega)
          have hrset := runsD_set ts want stock (n := n) (d := dd)
          have hlset := leftD_set ts want stock (show dd < n by omega)
          have hn0 := needJ_zero ts want stock n dd
          rw [e1, e2, e3, e4, hq] at hrset
          rw [g0, hq] at hlset
          rw [hq] at e1 e2 e3
          have hlw := (L0.out.trans L1.out).trans hle
          have c1 := hlw.cell hc1
          have c2 := hlw.cell hc2
          have c3 := hlw.cell hc3
          rw [e2] at hc5
          obtain ⟨Y, hY⟩ : ∃ Y, Y = (gm ts q).1 := ⟨_, rfl⟩
          have hyr : (if Y = 0 then (1 : Int) else Y) = (rn : Int) := by rw [← e3, hY]; rfl
          rw [← hY] at c1
          have hrm : ∀ w', Calls Tryd.prog 69 #[.agg #[.int .i64 Y, .slice B1 m1 d9, .int .i64 (gm ts q).2.2]] w' fun e w'' => e = .returned (.int .i64 rn) ∧ Le w' w'' := fun w' => by
            have := runMakes_any Y B1 m1 d9 (gm ts q).2.2 w'
            rw [hyr] at this; exact this
          have HRM := Lib.hid hrm
          have hi1 : (0 : Int) ≤ (q : Int) := by omega
          have hi2 : (q : Int) < (n : Int) := by omega
          have hyn : ¬ rn = 0 := by omega
          have hGE : decide ((q : Int) ≥ 0) = true := by simp
          have hlen := hr.len
          have hmx2 := hr.max
          have HRW := Lib.hid (fun w' (l : Le w w') j (hj : j < m1) => (hr.le l).at_ j hj)
          have HCP2 := Lib.hid (fun w' (l : Le w w') => l.cell hc2)
          have HC5 := Lib.hid (fun w' (l : Le w w') => l.cell hc5)
          have HOW := Lib.hid hown
          have HKP := Lib.hid hkp
          have HRU := Lib.hid hruns
          have HLF := Lib.hid hleft
          have HLE := Lib.hid hle
          have HNUM := Lib.hid (And.intro e1 (And.intro e2 (And.intro e3 e4)))
          have HRS := Lib.hid hrset
          have HLS := Lib.hid hlset
          have HN0 := Lib.hid hn0
          clear hY hyr hrm hc1 hc2 hc3 hc5 hr hown hkp hruns hleft hle hlw hrset hlset hn0 e1 e2 e3 e4
          go_wp2_with fail
          refine (HRM.out _).mono ?_; rintro o w3 ⟨rfl, l3⟩
          have hown := own_Le HOW.out l3
          have hruns := own_Le HRU.out l3
          have hleft := own_Le HLF.out l3
          have hkp := HKP.out.le l3
          have hle := HLE.out.trans l3
          have hlw := (L0.out.trans L1.out).trans hle
          have c5 := HC5.out _ hlw
          obtain ⟨gv, cap, rfl, hg1, hg2, hcap, hfz, hcl⟩ := own_open hown (by omega)
          obtain ⟨hgv1, hgv2⟩ := HVB.out gv rfl
          have d1 := hcl q hqn
          unfold needD at d1
          rw [gi_range n _ hqn, HNUM.out.1] at d1
          have HOW3 := Lib.hid hown
          have HRU3 := Lib.hid hruns
          have HLF3 := Lib.hid hleft
          have HKP3 := Lib.hid hkp
          have HLE3 := Lib.hid hle
          clear hown hruns hleft hkp hle hlw l3 hfz hcl c1 c2 c3
          go_wp2
          go_quiet (fail)
          obtain ⟨wq, hwq⟩ : ∃ wq, wq = w3.drewN nq := ⟨_, rfl⟩
          rw [← hwq]
          have l4 : Le w3 wq := by rw [hwq]; exact (Le.refl _).drewN _
          clear hwq d1 c5
          have hown := own_Le HOW3.out l4
          have hruns := own_Le HRU3.out l4
          have hleft := own_Le HLF3.out l4
          have hkp := HKP3.out.le l4
          have hle := HLE3.out.trans l4
          clear l4
          obtain ⟨_, _, hv8, _, hg3, _, hfz8, hcl8⟩ := own_open hruns (by omega)
          injection hv8 with e5 e6 e7
          injection e5 with e5
          injection e5 with e5
          subst e5
          clear e6 e7
          have z8 := hfz8 q
          have d8 := hcl8 q hqn
          unfold runsD at d8
          rw [gi_range n _ hqn, plN_not ts want stock dd (by omega) q (by omega)] at d8
          have p0 := hkp.cell 0
          have p1 := hkp.cell 1
          simp at p0 p1
          clear hfz8 hcl8
          have HOW4 := Lib.hid hown
          have HRU4 := Lib.hid hruns
          have HLF4 := Lib.hid hleft
          have HKP4 := Lib.hid hkp
          have HLE4 := Lib.hid hle
          clear hown hruns hleft hkp hle
          have hgvL : gv ≠ L := by omega
          have hgvR : gv ≠ R := by omega
          have hgvP : gv ≠ P := by omega
          by_cases hlk : 0 < lk
          · have hlkb : decide (lk > 0) = true := by simpa using hlk
            obtain ⟨x1, x2, f1, f2, f3⟩ := g4 hlk
            clear g4 g5
            go_wp2
            go_still_tail 10, (by kernel_rfl)
            change wpList _ _ _ _ _ wq.drew
            go_wp2
            rw [f3]
            obtain ⟨wk, hwk⟩ : ∃ wk, wk = (wq.setCell ⟨R, q, none⟩ (.int .i64 (r : Int))).drew := ⟨_, rfl⟩
            rw [← hwk]
            have hown : wk.ownsRow w1.heap.size 3 1 (.slice (some ⟨gv, 0, none⟩) n cap) n (ints (needD ts want stock n dd)) := by
              rw [hwk]
              exact (own_far (p := ⟨R, q, none⟩) HOW4.out (fun e => hgvR (by injection e with e)) _).drew
            have hruns : wk.ownsRow w2.heap.size 3 1 (.slice (some ⟨R, 0, none⟩) n n) n (ints (runsD ts want stock n (dd + 1))) := by
              rw [hwk, ← HRS.out]
              exact (own_setI HRU4.out _).drew
            have hleft : wk.ownsRow w2.heap.size 3 1 (.slice (some ⟨L, 0, none⟩) n n) n (ints (leftD ts want stock n dd)) := by
              rw [hwk]
              exact (own_far (p := ⟨R, q, none⟩) HLF4.out (fun e => hRL (by injection e with e; exact e.symm)) _).drew
            have hkp : Blk wk P 42 #[.slice (some ⟨R, 0, none⟩) n n, .slice (some ⟨L, 0, none⟩) n n] := by
              rw [hwk]
              exact (Blk.far (p := ⟨R, q, none⟩) HKP4.out hPR _).drew
            have hle : Le w1 wk := by
              rw [hwk]
              exact (HLE4.out.setCell (p := ⟨R, q, none⟩) (show w1.heap.size ≤ R by omega) _).drew
            clear hwk hlk hlkb f1 f2 f3 z8 d8 p0 p1
            have HOWN := Lib.hid hown
            have HRUN := Lib.hid hruns
            have HLEF := Lib.hid hleft
            have HKPN := Lib.hid hkp
            have HLEN := Lib.hid hle
            clear hown hruns hleft hkp hle
            have lw := (L0.out.trans L1.out).trans HLEN.out
            obtain ⟨_, _, hv8, _, hg4, _, hfz9, _⟩ := own_open HLEF.out (by omega)
            injection hv8 with e5 e6 e7
            injection e5 with e5
            injection e5 with e5
            subst e5
            clear e6 e7
            obtain ⟨_, _, hv8, _, hg3, _, _, hcl8⟩ := own_open HRUN.out (by omega)
            injection hv8 with e5 e6 e7
            injection e5 with e5
            injection e5 with e5
            subst e5
            clear e6 e7
            have hrq : gi (runsD ts want stock n (dd + 1)) q = (r : Int) := by
              unfold runsD
              rw [gi_range n _ hqn, plN_2, if_pos hq.symm, hq, HNUM.out.1, HNUM.out.2.1, HNUM.out.2.2.1, HNUM.out.2.2.2]
            have z9 := hfz9 q
            have d8 := hcl8 q hqn
            rw [hrq] at d8
            have p0 := HKPN.out.cell 0
            have p1 := HKPN.out.cell 1
            simp at p0 p1
            have l5 : Le w1 (wk.setCell ⟨L, q, none⟩ (.int .i64 lf)) := HLEN.out.setCell (p := ⟨L, q, none⟩) (show w1.heap.size ≤ L by omega) _
            have o5 : (wk.setCell ⟨L, q, none⟩ (.int .i64 lf)).ownsRow w1.heap.size 3 1 (.slice (some ⟨gv, 0, none⟩) n cap) n (ints (needJ ts want stock n dd 0)) := by
              rw [HN0.out]
              exact own_far (p := ⟨L, q, none⟩) HOWN.out (fun e => hgvL (by injection e with e)) _
            have r5 : (wk.setCell ⟨L, q, none⟩ (.int .i64 lf)).ownsRow w2.heap.size 3 1 (.slice (some ⟨R, 0, none⟩) n n) n (ints (runsD ts want stock n (dd + 1))) :=
              own_far (p := ⟨L, q, none⟩) HRUN.out (fun e => hRL (by injection e with e)) _
            have f5 : (wk.setCell ⟨L, q, none⟩ (.int .i64 lf)).ownsRow w2.heap.size 3 1 (.slice (some ⟨L, 0, none⟩) n n) n (ints (leftD ts want stock n (dd + 1))) := by
              rw [← HLS.out]
              exact own_setI HLEF.out _
            have k5 : Blk (wk.setCell ⟨L, q, none⟩ (.int .i64 lf)) P 42 #[.slice (some ⟨R, 0, none⟩) n n, .slice (some ⟨L, 0, none⟩) n n] := Blk.far (p := ⟨L, q, none⟩) HKPN.out hPL _
            obtain ⟨w5, hw5⟩ : ∃ w5, wk.setCell ⟨L, q, none⟩ (.int .i64 lf) = w5 := ⟨_, rfl⟩
            rw [hw5] at l5 o5 r5 f5 k5
            have c2 := HCP2.out _ ((L0.out.trans L1.out).trans l5)
            have hb9 := fun (j o : Nat) (ho : o < n) => needJ_b (stock := stock) HOK.out hn6 HW.out HS.out (show dd < n by omega) (j := j) ho
            have hpt : ∀ j, j < m1 → (gp (gm ts q).2.1 j).1 = ofN (gm ts q).2.1 j ∧ ofN (gm ts q).2.1 j < q ∧ 1 ≤ (gp (gm ts q).2.1 j).2 ∧ (gp (gm ts q).2.1 j).2 ≤ 6 := fun j hj => HOK.out.part hqn (by rw [hlen]; exact hj)
            have HPT := Lib.hid hpt
            have HB9 := Lib.hid hb9
            have HO5 := Lib.hid o5
            have HR5 := Lib.hid r5
            have HF5 := Lib.hid f5
            have HK5 := Lib.hid k5
            have HL5 := Lib.hid l5
            have HRQ := Lib.hid hrq
            clear hb9 hpt o5 r5 f5 k5 l5 hrq hfz9 hcl8 lw
            go_still_tail 13, (by kernel_rfl)
            change wpList _ _ _ _ _ wk.drew
            go_wp2
            go_loopw [82] (fun i wr => ∃ j : Nat, j ≤ m1 ∧ i = .int .i64 j ∧ Le w1 wr ∧ wr.ownsRow w1.heap.size 3 1 (.slice (some ⟨gv, 0, none⟩) n cap) n (ints (needJ ts want stock n dd j)) ∧ Blk wr P 42 #[.slice (some ⟨R, 0, none⟩) n n, .slice (some ⟨L, 0, none⟩) n n] ∧ wr.ownsRow w2.heap.size 3 1 (.slice (some ⟨R, 0, none⟩) n n) n (ints (runsD ts want stock n (dd + 1))) ∧ wr.ownsRow w2.heap.size 3 1 (.slice (some ⟨L, 0, none⟩) n n) n (ints (leftD ts want stock n (dd + 1)))) (fun i _ => m1 - (intOf i).toNat)
            case atStart => exact ⟨0, Nat.zero_le _, rfl, HL5.out.drew, HO5.out.drew, HK5.out.drew, HR5.out.drew, HF5.out.drew⟩
            case round =>
              obtain ⟨j, hj, rfl, hle, hown, hkp, hruns, hleft⟩ := hrel
              have lw2 := (L0.out.trans L1.out).trans hle
              by_cases hjm : j < m1
              · obtain ⟨ad1', rfl, hp1, hp2⟩ := HRW.out _ lw2 j hjm
                obtain ⟨r1, r2, r3, r4⟩ := HPT.out j hjm
                obtain ⟨hv, hcb⟩ := HB9.out j (ofN (gm ts q).2.1 j) (by omega) (by rw [hq, hlen]; omega)
                rw [hq, HNUM.out.1, HNUM.out.2.1, HNUM.out.2.2.1, HNUM.out.2.2.2] at hv
                have hst := needJ_set ts want stock n dd j (r := (r : Int)) (by rw [hq, HNUM.out.1, HNUM.out.2.1, HNUM.out.2.2.1, HNUM.out.2.2.2]) (x := gi (needJ ts want stock n dd j) (ofN (gm ts q).2.1 j)) (by rw [hv, hq])
                rw [hq] at hst
                obtain ⟨g', cap', hv', _, hg2', _, hfz, hcl⟩ := own_open hown (by omega)
                injection hv' with e1 e2 e3
                injection e1 with e1
                injection e1 with e1
                subst e1
                clear e2 e3
                obtain ⟨g', cap', hv', _, _, _, _, hcr⟩ := own_open hruns (by omega)
                injection hv' with e1 e2 e3
                injection e1 with e1
                injection e1 with e1
                subst e1
                clear e2 e3
                have d1 := hcl (ofN (gm ts q).2.1 j) (by omega)
                have d6 := hcr q hqn
                rw [HRQ.out] at d6
                have p0 := hkp.cell 0
                simp at p0
                rw [r1] at hp1
                obtain ⟨F, hF⟩ : ∃ F, F = gi (needJ ts want stock n dd j) (ofN (gm ts q).2.1 j) := ⟨_, rfl⟩
                rw [← hF] at d1 hcb hst
                obtain ⟨mn, hmn⟩ : ∃ mn, mn = (gp (gm ts q).2.1 j).2 := ⟨_, rfl⟩
                rw [← hmn] at hp2 hst r3 r4
                clear hv
                obtain ⟨o, hoo⟩ : ∃ o, o = ofN (gm ts q).2.1 j := ⟨_, rfl⟩
                rw [← hoo] at d1 hst hp1 r2
                obtain ⟨PP, hP⟩ : ∃ PP, PP = (r : Int) * mn := ⟨_, rfl⟩
                have hPP : 0 ≤ PP ∧ PP ≤ 5042100 := by rw [hP]; exact prod_b b4 r3 r4
                obtain ⟨hP0, hP1⟩ := hPP
                rw [← hP] at hst
                have hv1 : IntKind.i64.wrap ((r : Int) * mn) = PP := by rw [← hP]; exact IntWalk.i64_in _ (by omega)
                have hv2 : IntKind.i64.wrap (F + PP) = F + PP := IntWalk.i64_in _ (by omega)
                have hj1 : (0 : Int) ≤ (o : Int) := by omega
                have hj2 : (o : Int) < (n : Int) := by omega
                have l1 := (Le.refl wr).alloc (.cells #[.int .i64 (o : Int), .int .i64 mn] 80)
                have k1 := Blk.new wr 80 #[.int .i64 (o : Int), .int .i64 mn]
                have ho2 := own_Le hown l1
                obtain ⟨_, _, hv2', _, _, _, hfz2, _⟩ := own_open ho2 (by omega)
                injection hv2' with f1 f2 f3
                injection f1 with f1
                injection f1 with f1
                subst f1
                clear f2 f3
                have z2 := hfz2 o
                generalize hwk : wr.alloc (.cells #[.int .i64 (o : Int), .int .i64 mn] 80) = wx at *
                have b0 := k1.cell 0
                have b1' := k1.cell 1
                simp at b0 b1'
                have d1' := l1.cell d1
                have d6' := l1.cell d6
                have p0' := l1.cell p0
                have HO2 := Lib.hid ho2
                have HRN := Lib.hid (own_Le hruns l1)
                have HLF2 := Lib.hid (own_Le hleft l1)
                have HKP2 := Lib.hid (hkp.le l1)
                have HL2 := Lib.hid (hle.trans l1)
                have HST := Lib.hid hst
                clear hcl hcr hfz hfz2 hst hF hmn hP hown ho2 hle l1 k1 r1 hcb hP0 hP1 hoo lw2 hruns hleft hkp
                go_wp2
                go_still_tail 15, (by kernel_rfl)
                change wpList _ _ _ _ _ wx.drew
                go_wp2
                go_roundw
                case rel =>
                  refine ⟨j + 1, by omega, by go_num, (HL2.out.setCell hg1 _).drew, ?_, (Blk.far (p := ⟨gv, o, none⟩) HKP2.out (fun e => hgvP e.symm) _).drew, (own_far (p := ⟨gv, o, none⟩) HRN.out (fun e => hgvR (by injection e with e; exact e.symm)) _).drew, (own_far (p := ⟨gv, o, none⟩) HLF2.out (fun e => hgvL (by injection e with e; exact e.symm)) _).drew⟩
                  rw [← HST.out]
                  exact (own_setI HO2.out _).drew
                case measure => simp [intOf]; omega
              · obtain rfl : j = m1 := by omega
                go_wp2
                go_roundw
                case rel =>
                  refine ⟨q, dd + 1, by omega, by go_num, hle, ?_, hkp, hruns, hleft⟩
                  have := needJ_end ts want stock n dd
                  rw [hq, hlen] at this
                  rw [← this]
                  exact hown
                case measure => simp [intOf]
          · have hlkb : decide (lk > 0) = false := by simpa using hlk
            have hr0 : r = 0 := g5 (by omega)
            have hown := HOW4.out
            have hleft := HLF4.out
            have hkp := HKP4.out
            have hle := HLE4.out
            have hruns : wq.ownsRow w2.heap.size 3 1 (.slice (some ⟨R, 0, none⟩) n n) n (ints (runsD ts want stock n (dd + 1))) := by
              rw [← HRS.out]
              have e : (runsD ts want stock n dd).set q (r : Int) = runsD ts want stock n dd := by
                rw [hr0]
                apply ext_gi
                · simp
                · intro j hj
                  have hj : j < n := by simpa [runsD] using hj
                  rw [gi_setI (by simp [runsD]; omega)]
                  split
                  · rename_i e
                    rw [e]
                    unfold runsD
                    rw [gi_range n _ hqn, plN_not ts want stock dd (by omega) q (by omega)]; rfl
                  · rfl
              rw [e]; exact HRU4.out
            clear g4 g5 z8 d8 p0 p1 hr0
            have HOWN := Lib.hid hown
            have HRUN := Lib.hid hruns
            have HLEF := Lib.hid hleft
            have HKPN := Lib.hid hkp
            have HLEN := Lib.hid hle
            clear hown hruns hleft hkp hle
            go_wp2
            have lw := (L0.out.trans L1.out).trans HLEN.out
            obtain ⟨_, _, hv8, _, hg4, _, hfz9, _⟩ := own_open HLEF.out (by omega)
            injection hv8 with e5 e6 e7
            injection e5 with e5
            injection e5 with e5
            subst e5
            clear e6 e7
            obtain ⟨_, _, hv8, _, hg3, _, _, hcl8⟩ := own_open HRUN.out (by omega)
            injection hv8 with e5 e6 e7
            injection e5 with e5
            injection e5 with e5
            subst e5
            clear e6 e7
            have hrq : gi (runsD ts want stock n (dd + 1)) q = (r : Int) := by
              unfold runsD
              rw [gi_range n _ hqn, plN_2, if_pos hq.symm, hq, HNUM.out.1, HNUM.out.2.1, HNUM.out.2.2.1, HNUM.out.2.2.2]
            have z9 := hfz9 q
            have d8 := hcl8 q hqn
            rw [hrq] at d8
            have p0 := HKPN.out.cell 0
            have p1 := HKPN.out.cell 1
            simp at p0 p1
            have l5 : Le w1 (wq.setCell ⟨L, q, none⟩ (.int .i64 lf)) := HLEN.out.setCell (p := ⟨L, q, none⟩) (show w1.heap.size ≤ L by omega) _
            have o5 : (wq.setCell ⟨L, q, none⟩ (.int .i64 lf)).ownsRow w1.heap.size 3 1 (.slice (some ⟨gv, 0, none⟩) n cap) n (ints (needJ ts want stock n dd 0)) := by
              rw [HN0.out]
              exact own_far (p := ⟨L, q, none⟩) HOWN.out (fun e => hgvL (by injection e with e)) _
            have r5 : (wq.setCell ⟨L, q, none⟩ (.int .i64 lf)).ownsRow w2.heap.size 3 1 (.slice (some ⟨R, 0, none⟩) n n) n (ints (runsD ts want stock n (dd + 1))) :=
              own_far (p := ⟨L, q, none⟩) HRUN.out (fun e => hRL (by injection e with e)) _
            have f5 : (wq.setCell ⟨L, q, none⟩ (.int .i64 lf)).ownsRow w2.heap.size 3 1 (.slice (some ⟨L, 0, none⟩) n n) n (ints (leftD ts want stock n (dd + 1))) := by
              rw [← HLS.out]
              exact own_setI HLEF.out _
            have k5 : Blk (wq.setCell ⟨L, q, none⟩ (.int .i64 lf)) P 42 #[.slice (some ⟨R, 0, none⟩) n n, .slice (some ⟨L, 0, none⟩) n n] := Blk.far (p := ⟨L, q, none⟩) HKPN.out hPL _
            obtain ⟨w5, hw5⟩ : ∃ w5, wq.setCell ⟨L, q, none⟩ (.int .i64 lf) = w5 := ⟨_, rfl⟩
            rw [hw5] at l5 o5 r5 f5 k5
            have c2 := HCP2.out _ ((L0.out.trans L1.out).trans l5)
            have hb9 := fun (j o : Nat) (ho : o < n) => needJ_b (stock := stock) HOK.out hn6 HW.out HS.out (show dd < n by omega) (j := j) ho
            have hpt : ∀ j, j < m1 → (gp (gm ts q).2.1 j).1 = ofN (gm ts q).2.1 j ∧ ofN (gm ts q).2.1 j < q ∧ 1 ≤ (gp (gm ts q).2.1 j).2 ∧ (gp (gm ts q).2.1 j).2 ≤ 6 := fun j hj => HOK.out.part hqn (by rw [hlen]; exact hj)
            have HPT := Lib.hid hpt
            have HB9 := Lib.hid hb9
            have HO5 := Lib.hid o5
            have HR5 := Lib.hid r5
            have HF5 := Lib.hid f5
            have HK5 := Lib.hid k5
            have HL5 := Lib.hid l5
            have HRQ := Lib.hid hrq
            clear hb9 hpt o5 r5 f5 k5 l5 hrq hfz9 hcl8 lw
            go_still_tail 13, (by kernel_rfl)
            change wpList _ _ _ _ _ wq.drew
            go_wp2
            go_loopw [82] (fun i wr => ∃ j : Nat, j ≤ m1 ∧ i = .int .i64 j ∧ Le w1 wr ∧ wr.ownsRow w1.heap.size 3 1 (.slice (some ⟨gv, 0, none⟩) n cap) n (ints (needJ ts want stock n dd j)) ∧ Blk wr P 42 #[.slice (some ⟨R, 0, none⟩) n n, .slice (some ⟨L, 0, none⟩) n n] ∧ wr.ownsRow w2.heap.size 3 1 (.slice (some ⟨R, 0, none⟩) n n) n (ints (runsD ts want stock n (dd + 1))) ∧ wr.ownsRow w2.heap.size 3 1 (.slice (some ⟨L, 0, none⟩) n n) n (ints (leftD ts want stock n (dd + 1)))) (fun i _ => m1 - (intOf i).toNat)
            case atStart => exact ⟨0, Nat.zero_le _, rfl, HL5.out.drew, HO5.out.drew, HK5.out.drew, HR5.out.drew, HF5.out.drew⟩
            case round =>
              obtain ⟨j, hj, rfl, hle, hown, hkp, hruns, hleft⟩ := hrel
              have lw2 := (L0.out.trans L1.out).trans hle
              by_cases hjm : j < m1
              · obtain ⟨ad1', rfl, hp1, hp2⟩ := HRW.out _ lw2 j hjm
                obtain ⟨r1, r2, r3, r4⟩ := HPT.out j hjm
                obtain ⟨hv, hcb⟩ := HB9.out j (ofN (gm ts q).2.1 j) (by omega) (by rw [hq, hlen]; omega)
                rw [hq, HNUM.out.1, HNUM.out.2.1, HNUM.out.2.2.1, HNUM.out.2.2.2] at hv
                have hst := needJ_set ts want stock n dd j (r := (r : Int)) (by rw [hq, HNUM.out.1, HNUM.out.2.1, HNUM.out.2.2.1, HNUM.out.2.2.2]) (x := gi (needJ ts want stock n dd j) (ofN (gm ts q).2.1 j)) (by rw [hv, hq])
                rw [hq] at hst
                obtain ⟨g', cap', hv', _, hg2', _, hfz, hcl⟩ := own_open hown (by omega)
                injection hv' with e1 e2 e3
                injection e1 with e1
                injection e1 with e1
                subst e1
                clear e2 e3
                obtain ⟨g', cap', hv', _, _, _, _, hcr⟩ := own_open hruns (by omega)
                injection hv' with e1 e2 e3
                injection e1 with e1
                injection e1 with e1
                subst e1
                clear e2 e3
                have d1 := hcl (ofN (gm ts q).2.1 j) (by omega)
                have d6 := hcr q hqn
                rw [HRQ.out] at d6
                have p0 := hkp.cell 0
                simp at p0
                rw [r1] at hp1
                obtain ⟨F, hF⟩ : ∃ F, F = gi (needJ ts want stock n dd j) (ofN (gm ts q).2.1 j) := ⟨_, rfl⟩
                rw [← hF] at d1 hcb hst
                obtain ⟨mn, hmn⟩ : ∃ mn, mn = (gp (gm ts q).2.1 j).2 := ⟨_, rfl⟩
                rw [← hmn] at hp2 hst r3 r4
                clear hv
                obtain ⟨o, hoo⟩ : ∃ o, o = ofN (gm ts q).2.1 j := ⟨_, rfl⟩
                rw [← hoo] at d1 hst hp1 r2
                obtain ⟨PP, hP⟩ : ∃ PP, PP = (r : Int) * mn := ⟨_, rfl⟩
                have hPP : 0 ≤ PP ∧ PP ≤ 5042100 := by rw [hP]; exact prod_b b4 r3 r4
                obtain ⟨hP0, hP1⟩ := hPP
                rw [← hP] at hst
                have hv1 : IntKind.i64.wrap ((r : Int) * mn) = PP := by rw [← hP]; exact IntWalk.i64_in _ (by omega)
                have hv2 : IntKind.i64.wrap (F + PP) = F + PP := IntWalk.i64_in _ (by omega)
                have hj1 : (0 : Int) ≤ (o : Int) := by omega
                have hj2 : (o : Int) < (n : Int) := by omega
                have l1 := (Le.refl wr).alloc (.cells #[.int .i64 (o : Int), .int .i64 mn] 80)
                have k1 := Blk.new wr 80 #[.int .i64 (o : Int), .int .i64 mn]
                have ho2 := own_Le hown l1
                obtain ⟨_, _, hv2', _, _, _, hfz2, _⟩ := own_open ho2 (by omega)
                injection hv2' with f1 f2 f3
                injection f1 with f1
                injection f1 with f1
                subst f1
                clear f2 f3
                have z2 := hfz2 o
                generalize hwk : wr.alloc (.cells #[.int .i64 (o : Int), .int .i64 mn] 80) = wx at *
                have b0 := k1.cell 0
                have b1' := k1.cell 1
                simp at b0 b1'
                have d1' := l1.cell d1
                have d6' := l1.cell d6
                have p0' := l1.cell p0
                have HO2 := Lib.hid ho2
                have HRN := Lib.hid (own_Le hruns l1)
                have HLF2 := Lib.hid (own_Le hleft l1)
                have HKP2 := Lib.hid (hkp.le l1)
                have HL2 := Lib.hid (hle.trans l1)
                have HST := Lib.hid hst
                clear hcl hcr hfz hfz2 hst hF hmn hP hown ho2 hle l1 k1 r1 hcb hP0 hP1 hoo lw2 hruns hleft hkp
                go_wp2
                go_still_tail 15, (by kernel_rfl)
                change wpList _ _ _ _ _ wx.drew
                go_wp2
                go_roundw
                case rel =>
                  refine ⟨j + 1, by omega, by go_num, (HL2.out.setCell hg1 _).drew, ?_, (Blk.far (p := ⟨gv, o, none⟩) HKP2.out (fun e => hgvP e.symm) _).drew, (own_far (p := ⟨gv, o, none⟩) HRN.out (fun e => hgvR (by injection e with e; exact e.symm)) _).drew, (own_far (p := ⟨gv, o, none⟩) HLF2.out (fun e => hgvL (by injection e with e; exact e.symm)) _).drew⟩
                  rw [← HST.out]
                  exact (own_setI HO2.out _).drew
                case measure => simp [intOf]; omega
              · obtain rfl : j = m1 := by omega
                go_wp2
                go_roundw
                case rel =>
                  refine ⟨q, dd + 1, by omega, by go_num, hle, ?_, hkp, hruns, hleft⟩
                  have := needJ_end ts want stock n dd
                  rw [hq, hlen] at this
                  rw [← this]
                  exact hown
                case measure => simp [intOf]
end Go.Proofs.YtoahjfofnaafaaaDoor
