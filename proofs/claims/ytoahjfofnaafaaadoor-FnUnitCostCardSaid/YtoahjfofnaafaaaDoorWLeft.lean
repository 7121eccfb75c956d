/- Walk: l1Left of the reference. -/
import Derived.Test.YtoahjfofnaafaaaDoorWPlanA
import Derived.StillTailTactics
namespace Go.Proofs.YtoahjfofnaafaaaDoor
open Go.RowKit

theorem ints_set (xs : List Int) (o : Nat) (x : Int) : (ints xs).set o (.int .i64 x) = ints (xs.set o x) := by
  unfold ints; rw [List.map_set]
theorem range_set (n : Nat) (f g : Nat → Int) {o : Nat} {x : Int} (hx : x = g o) (h : ∀ q, q < n → q ≠ o → g q = f q) : ((List.range n).map f).set o x = (List.range n).map g := by
  apply List.ext_getElem?
  intro q
  rw [List.getElem?_set]
  by_cases hq : q < n
  · by_cases e : o = q
    · subst e; simp [hq, hx]
    · rw [if_neg e, List.getElem?_map, List.getElem?_map, List.getElem?_range hq]
      simp [h q hq (fun e2 => e e2.symm)]
  · rw [List.getElem?_map, List.getElem?_map, List.getElem?_eq_none (by simp; omega)]
    split
    · simp; omega
    · rfl
/-- an own row of integers: its block, its cells, a store -/
theorem own_open {w : World} {base n : Nat} {e : TypeId} {v : Value} {xs : List Int} (h : w.ownsRow base e 1 v n (ints xs)) (hn : 0 < n) :
    ∃ g cap, v = .slice (some ⟨g, 0, none⟩) n cap ∧ base ≤ g ∧ g < w.heap.size ∧ n ≤ cap ∧ (∀ k, w.frozen? ⟨g, k, none⟩ = false) ∧ ∀ k, k < n → w.cell? ⟨g, k, none⟩ = some (.int .i64 (gi xs k)) := by
  have hl : xs.length = n := by have := h.1; rw [ints_length] at this; omega
  have h2 := h.2
  rcases h2 with ⟨_, h0⟩ | ⟨g, cap, cur, rfl, hb, hg, hnc, hcm, hs, ht⟩
  · omega
  · have hb2 : Blk w g e cur := hg
    refine ⟨g, cap, rfl, hb, hb2.lt, hnc, fun k => hb2.frozen k, fun k hk => ?_⟩
    have := h.cells (g := g) rfl k _ (ints_getElem? (by omega))
    rwa [addr0] at this
theorem own_setI {w : World} {base n g cap o : Nat} {e : TypeId} {xs : List Int} (h : w.ownsRow base e 1 (.slice (some ⟨g, 0, none⟩) n cap) n (ints xs)) (x : Int) :
    (w.setCell ⟨g, o, none⟩ (.int .i64 x)).ownsRow base e 1 (.slice (some ⟨g, 0, none⟩) n cap) n (ints (xs.set o x)) := by
  have hl : xs.length = n := by have := h.1; rw [ints_length] at this; omega
  have h2 := h.2
  rcases h2 with ⟨h0, _⟩ | ⟨g', cap', cur, heq, hb, hg, hnc, hcm, hs, ht⟩
  · cases h0
  · injection heq with e1 e2 e3
    injection e1 with e1
    injection e1 with e1
    subst e1; subst e3
    have hb2 : Blk w g e cur := hg
    refine ⟨by rw [ints_length, List.length_set]; omega, .inr ⟨g, cap, cur.setIfInBounds o (.int .i64 x), rfl, hb, hb2.set_ o _, hnc, hcm, by simpa using hs, ?_⟩⟩
    rw [Array.toList_setIfInBounds, List.take_set, ht, ints_set]

def basesL (ts : List It) (want stock rs : List Int) (k : Nat) : List Int := (List.range k).map (baseP ts want stock rs)
theorem basesL_succ (ts : List It) (want stock rs : List Int) (k : Nat) : basesL ts want stock rs (k + 1) = basesL ts want stock rs k ++ [baseP ts want stock rs k] := by
  unfold basesL; rw [List.range_succ, List.map_append]; rfl
def curF (ts : List It) (want stock rs : List Int) (k j : Nat) (q : Nat) : Int := baseP ts want stock rs q - useA ts rs q k - useP (gm ts k).2.1 (gi rs k) q j
def curL (ts : List It) (want stock rs : List Int) (n k j : Nat) : List Int := (List.range n).map (curF ts want stock rs k j)
theorem curL_start (ts : List It) (want stock rs : List Int) (n : Nat) : curL ts want stock rs n 0 0 = basesL ts want stock rs n := by
  unfold curL basesL
  refine List.map_congr_left fun q _ => ?_
  unfold curF
  show _ - 0 - 0 = _
  omega
theorem curL_next (ts : List It) (want stock rs : List Int) (n k : Nat) : curL ts want stock rs n k (gm ts k).2.1.length = curL ts want stock rs n (k + 1) 0 := by
  unfold curL
  refine List.map_congr_left fun q _ => ?_
  unfold curF
  rw [useA_succ]
  show _ = _ - 0
  omega
theorem curL_set {ts : List It} (want stock rs : List Int) (n k j : Nat) : (curL ts want stock rs n k j).set (ofN (gm ts k).2.1 j) (curF ts want stock rs k j (ofN (gm ts k).2.1 j) - gi rs k * (gp (gm ts k).2.1 j).2) = curL ts want stock rs n k (j + 1) := by
  unfold curL
  refine range_set n _ _ ?_ fun q _ hq => ?_
  · unfold curF; rw [useP_succ, if_pos rfl]; omega
  · unfold curF; rw [useP_succ, if_neg (fun e => hq e.symm)]; omega
theorem curL_end (ts : List It) (want stock rs : List Int) {n : Nat} (hl : ts.length = n) : curL ts want stock rs n n 0 = leftL ts want stock rs := by
  unfold curL leftL
  rw [hl]
  refine List.map_congr_left fun q _ => ?_
  unfold curF
  show _ - 0 = _
  omega
theorem curF_b {ts : List It} {n : Nat} (h : ItOk ts n) (hn : n ≤ 6) {want stock rs : List Int} (hw : ∀ k, k < n → 0 ≤ gi want k ∧ gi want k ≤ 50) (hs : ∀ k, k < n → 0 ≤ gi stock k ∧ gi stock k ≤ 50) (hr : ∀ k, k < n → 0 ≤ gi rs k ∧ gi rs k ≤ 9999999) {k j q : Nat} (hk : k < n) (hj : j ≤ (gm ts k).2.1.length) (hq : q < n) :
    -1259999924 ≤ curF ts want stock rs k j q ∧ curF ts want stock rs k j q ≤ 60000044 := by
  have h1 := (base_b h hw hs hr hq).2
  have h2 := useA_6 h hn (by decide) hr q k (by omega)
  have h3 := useP_3 h hk (hr k hk).1 (hr k hk).2 q j hj
  unfold curF
  omega

set_option maxRecDepth 20000 in
set_option maxHeartbeats 4000000 in
theorem l1Left_any (A B C D : Option Addr) (n m r s c d e f : Nat) (ts : List It) (want stock rs : List Int) (w : World) (h : RM w A n ts) (h1 : RI w B m want) (h2 : RI w C r stock) (h3 : RI w D s rs)
    (hn : n ≤ 6) (hok : ItOk ts n) (hw : m = n ∧ ∀ k, k < n → 0 ≤ gi want k ∧ gi want k ≤ 50) (hs : r = n ∧ ∀ k, k < n → 0 ≤ gi stock k ∧ gi stock k ≤ 50) (hr : s = n ∧ ∀ k, k < n → 0 ≤ gi rs k ∧ gi rs k ≤ 9999999) :
    Calls Tryd.prog 72 #[.slice A n c, .slice B m d, .slice C r e, .slice D s f] w fun o w' => ∃ v, o = .returned v ∧ w'.ownsRow w.heap.size 3 1 v (leftL ts want stock rs).length (ints (leftL ts want stock rs)) ∧ Le w w' := by
  obtain ⟨rfl, hw⟩ := hw
  obtain ⟨rfl, hs⟩ := hs
  obtain ⟨rfl, hr⟩ := hr
  have hl := h.len
  have hll : (leftL ts want stock rs).length = s := by rw [leftL_length, hl]
  have hle := curL_end ts want stock rs hl
  rw [hll, ← hle]
  have HC := Lib.hid h.at_
  have HC1 := Lib.hid h1.at_
  have HC2 := Lib.hid h2.at_
  have HC3 := Lib.hid h3.at_
  have HOK := Lib.hid hok
  have HW := Lib.hid hw
  have HS := Lib.hid hs
  have HR := Lib.hid hr
  clear h h1 h2 h3 hok hw hs hr hll hle
  obtain ⟨i0, hi0, hz0, hz1, hz2⟩ := info_parts infoInt
  go_enter Tryd.func72, Tryd.ntmps72
  go_wp2
  go_loopw [9, 10] (fun v i wr => ∃ k : Nat, k ≤ s ∧ i = .int .i64 k ∧ Le w wr ∧ wr.ownsRow w.heap.size 3 1 v k (ints (basesL ts want stock rs k))) (fun _ i _ => s - (intOf i).toNat)
  case atStart => exact ⟨0, Nat.zero_le _, rfl, (Le.refl _).alloc _, own_empty _ _ _⟩
  case round =>
    obtain ⟨k, hk, rfl, hle, hown⟩ := hrel
    by_cases hlt : k < s
    · obtain ⟨ad, B1, m1, d1, rfl, hc1, hc2, hc3, hr⟩ := HC.out k hlt
      obtain ⟨ad1, rfl, hc4⟩ := HC1.out k hlt
      obtain ⟨ad2, rfl, hc5⟩ := HC2.out k hlt
      obtain ⟨ad3, rfl, hc6⟩ := HC3.out k hlt
      have c1 := hle.cell hc1
      have c4 := hle.cell hc4
      have c5 := hle.cell hc5
      have c6 := hle.cell hc6
      have p0 := World.block_lt_of_cell? w _ hc1
      have p1 := World.block_lt_of_cell? w _ hc4
      have p2 := World.block_lt_of_cell? w _ hc5
      have p3 := World.block_lt_of_cell? w _ hc6
      have q0 := World.block_lt_of_cell? wr _ c1
      have q1 := World.block_lt_of_cell? wr _ c4
      have q2 := World.block_lt_of_cell? wr _ c5
      have q3 := World.block_lt_of_cell? wr _ c6
      have HO := Lib.hid hown
      have HLE := Lib.hid hle
      have hs := hle.size
      have a0 : u9.ownBlock ≠ some (ad.add (k * 3)).block := fun hg => Nat.lt_irrefl _ (Nat.lt_of_lt_of_le p0 (HO.out.lt _ hg).1)
      have a1 : u9.ownBlock ≠ some (ad1.add k).block := fun hg => Nat.lt_irrefl _ (Nat.lt_of_lt_of_le p1 (HO.out.lt _ hg).1)
      have a2 : u9.ownBlock ≠ some (ad2.add k).block := fun hg => Nat.lt_irrefl _ (Nat.lt_of_lt_of_le p2 (HO.out.lt _ hg).1)
      have a3 : u9.ownBlock ≠ some (ad3.add k).block := fun hg => Nat.lt_irrefl _ (Nat.lt_of_lt_of_le p3 (HO.out.lt _ hg).1)
      have hkw := HW.out k hlt
      have hks := HS.out k hlt
      have hkr := HR.out k hlt
      have hbb := base_b HOK.out HW.out HS.out HR.out hlt
      have hyb := (HOK.out k hlt).1
      obtain ⟨b0, hb0⟩ : ∃ b0, b0 = baseP ts want stock rs k := ⟨_, rfl⟩
      have HB0 := Lib.hid hb0
      have hw1 : IntKind.i64.wrap (gi stock k - gi want k) = gi stock k - gi want k := IntWalk.i64_in _ (by omega)
      by_cases hy : (gm ts k).1 = 0
      · have hw2 : IntKind.i64.wrap (gi rs k) = gi rs k := IntWalk.i64_in _ (by omega)
        have e0 : b0 = gi stock k - gi want k + gi rs k := by rw [hb0]; unfold baseP rmI; rw [if_pos hy, Int.mul_one]
        have hw3 : IntKind.i64.wrap (gi stock k - gi want k + gi rs k) = b0 := by rw [e0]; exact IntWalk.i64_in _ (by omega)
        have hw4 : IntKind.i64.wrap b0 = b0 := IntWalk.i64_in _ (by omega)
        rw [hy] at c1
        clear hc1 hc2 hc3 hc4 hc5 hc6 hr hown hle hy e0 hb0 hbb
        go_wp2
        go_region_held3 (fun w' => w'.cell? (ad1.add k) = some (.int .i64 (gi want k)) ∧ w'.cell? (ad2.add k) = some (.int .i64 (gi stock k)) ∧ w'.cell? (ad3.add k) = some (.int .i64 (gi rs k)) ∧ w'.cell? (ad.add (k * 3)) = some (.int .i64 0))
          (first
            | go_keep
            | (go_split_ands
               refine ⟨?_, ?_, ?_, ?_⟩
               · (refine (hgrow.cell_far _ (by simp; omega) (Ne.symm a1)).trans ?_; assumption)
               · (refine (hgrow.cell_far _ (by simp; omega) (Ne.symm a2)).trans ?_; assumption)
               · (refine (hgrow.cell_far _ (by simp; omega) (Ne.symm a3)).trans ?_; assumption)
               · (refine (hgrow.cell_far _ (by simp; omega) (Ne.symm a0)).trans ?_; assumption)))
          ((refine step_append_lies _ (by rfl) _ _ _ (by rfl) w.heap.size 3 i0 _ 1 8 Tryd.underlying40 hi0 hz0 hz1 hz2 rfl (by omega) u9 k (ints (basesL ts want stock rs k)) (by rfl) ((HO.out.alloc _).drew)
                ⟨wr.heap.size, 0, none⟩ 1 1 [.int .i64 b0] (by rfl) (by rfl) (World.news_of_block (cs := #[.int .i64 b0]) (t := 3) (fr := (0, 0)) (heap_alloc_new wr _)) (by simp [Value.oneCell'])
                (by omega) (by unfold maxLen; omega) (by omega) (by simp; omega) (wr.heap.size + 1) (by simp) ?_; intro gg cap w2 hown' hgrow hat hlt'))
        have HO2 := Lib.hid hown'
        have HG := Lib.hid hgrow
        clear hown' hgrow hat
        go_wp2
        go_roundw
        case rel =>
          refine ⟨k + 1, by omega, by go_num, ((HLE.out.alloc _).drew.grown HG.out fun g hg => (HO.out.lt g hg).1), ?_⟩
          rw [basesL_succ, ints_append, ← HB0.out]
          exact HO2.out
        case measure => simp [intOf]; omega
      · have hyn : ¬ (gm ts k).1 < 1 := by omega
        obtain ⟨Y, hY⟩ : ∃ Y, Y = (gm ts k).1 := ⟨_, rfl⟩
        rw [← hY] at c1 hyn hyb
        have e0 : b0 = gi stock k - gi want k + gi rs k * Y := by rw [hb0]; unfold baseP rmI; rw [if_neg hy, hY]
        have hmx : (if Y < 1 then (1 : Int) else Y) = Y := if_neg hyn
        have e1 : gi rs k * rmI ts k = gi rs k * Y := by unfold rmI; rw [if_neg hy, hY]
        rw [e1] at hbb
        obtain ⟨P, hP⟩ : ∃ P, P = gi rs k * Y := ⟨_, rfl⟩
        rw [← hP] at hbb e0
        have hw2 : IntKind.i64.wrap (gi rs k * Y) = P := by rw [← hP]; exact IntWalk.i64_in _ (by omega)
        have hw3 : IntKind.i64.wrap (gi stock k - gi want k + P) = b0 := by rw [e0]; exact IntWalk.i64_in _ (by omega)
        have hw4 : IntKind.i64.wrap b0 = b0 := IntWalk.i64_in _ (by omega)
        clear hc1 hc2 hc3 hc4 hc5 hc6 hr hown hle hy e0 hb0 hbb hP e1 hY
        go_wp2
        go_region_held3 (fun w' => w'.cell? (ad1.add k) = some (.int .i64 (gi want k)) ∧ w'.cell? (ad2.add k) = some (.int .i64 (gi stock k)) ∧ w'.cell? (ad3.add k) = some (.int .i64 (gi rs k)) ∧ w'.cell? (ad.add (k * 3)) = some (.int .i64 Y))
          (first
            | go_keep
            | (go_split_ands
               refine ⟨?_, ?_, ?_, ?_⟩
               · (refine (hgrow.cell_far _ (by simp; omega) (Ne.symm a1)).trans ?_; assumption)
               · (refine (hgrow.cell_far _ (by simp; omega) (Ne.symm a2)).trans ?_; assumption)
               · (refine (hgrow.cell_far _ (by simp; omega) (Ne.symm a3)).trans ?_; assumption)
               · (refine (hgrow.cell_far _ (by simp; omega) (Ne.symm a0)).trans ?_; assumption)))
          ((refine step_append_lies _ (by rfl) _ _ _ (by rfl) w.heap.size 3 i0 _ 1 8 Tryd.underlying40 hi0 hz0 hz1 hz2 rfl (by omega) u9 k (ints (basesL ts want stock rs k)) (by rfl) ((HO.out.alloc _).drew)
                ⟨wr.heap.size, 0, none⟩ 1 1 [.int .i64 b0] (by rfl) (by rfl) (World.news_of_block (cs := #[.int .i64 b0]) (t := 3) (fr := (0, 0)) (heap_alloc_new wr _)) (by simp [Value.oneCell'])
                (by omega) (by unfold maxLen; omega) (by omega) (by simp; omega) (wr.heap.size + 1) (by simp) ?_; intro gg cap w2 hown' hgrow hat hlt'))
        have HO2 := Lib.hid hown'
        have HG := Lib.hid hgrow
        clear hown' hgrow hat
        go_wp2
        go_roundw
        case rel =>
          refine ⟨k + 1, by omega, by go_num, ((HLE.out.alloc _).drew.grown HG.out fun g hg => (HO.out.lt g hg).1), ?_⟩
          rw [basesL_succ, ints_append, ← HB0.out]
          exact HO2.out
        case measure => simp [intOf]; omega
    · obtain rfl : k = s := by omega
      have hD : decide ((k : Int) < (k : Int)) = false := by simp
      have hD2 : decide (k < k) = false := by simp
      go_wp2
      have ecs := curL_start ts want stock rs k
      rw [← ecs] at hown
      clear ecs
      go_loopw [11] (fun i wr => ∃ q : Nat, q ≤ k ∧ i = .int .i64 q ∧ Le w wr ∧ wr.ownsRow w.heap.size 3 1 u9 k (ints (curL ts want stock rs k q 0))) (fun i _ => k - (intOf i).toNat)
      case atStart => exact ⟨0, Nat.zero_le _, rfl, hle, hown⟩
      case round =>
        obtain ⟨q, hq, rfl, hle, hown⟩ := hrel
        by_cases hlt2 : q < k
        · obtain ⟨wo, hwo⟩ : ∃ wo, wo = wr := ⟨_, rfl⟩
          subst hwo
          obtain ⟨g, cap, hv, hg1, hg2, hcap, hfz, hcl⟩ := own_open hown (by omega)
          subst hv
          obtain ⟨ad, B1, m1, d1, rfl, hc1, hc2, hc3, hr⟩ := HC.out q hlt2
          obtain ⟨ad3, rfl, hc6⟩ := HC3.out q hlt2
          have hlen := hr.len
          have hmx := hr.max
          have HLE := Lib.hid hle
          have HCP := Lib.hid (fun w' (l : Le w w') => l.cell hc2)
          have HRW := Lib.hid (fun w' (l : Le w w') j (hj : j < m1) => (hr.le l).at_ j hj)
          have HCR := Lib.hid (fun w' (l : Le w w') => l.cell hc6)
          clear hc1 hc2 hc3 hc6 hr hcl hfz hle hg2
          have c2 := HCP.out _ HLE.out
          have hpt : ∀ j, j < m1 → (gp (gm ts q).2.1 j).1 = ofN (gm ts q).2.1 j ∧ ofN (gm ts q).2.1 j < q ∧ 1 ≤ (gp (gm ts q).2.1 j).2 ∧ (gp (gm ts q).2.1 j).2 ≤ 6 := fun j hj => HOK.out.part hlt2 (by rw [hlen]; exact hj)
          have HPT := Lib.hid hpt
          clear hpt
          have hC : decide ((q : Int) < (k : Int)) = true := by simp; omega
          have hC2 : decide (q < k) = true := by simp; omega
          go_wp2
          clear c2
          go_loopw [12] (fun i wr => ∃ j : Nat, j ≤ m1 ∧ i = .int .i64 j ∧ Le w wr ∧ wr.ownsRow w.heap.size 3 1 (.slice (some ⟨g, 0, none⟩) k cap) k (ints (curL ts want stock rs k q j))) (fun i _ => m1 - (intOf i).toNat)
          case atStart => exact ⟨0, Nat.zero_le _, rfl, HLE.out, hown⟩
          case round =>
            obtain ⟨j, hj, rfl, hle, hown⟩ := hrel
            have c2 := HCP.out _ hle
            by_cases hjm : j < m1
            · obtain ⟨ad1', rfl, hp1, hp2⟩ := HRW.out _ hle j hjm
              obtain ⟨r1, r2, r3, r4⟩ := HPT.out j hjm
              have hcb := curF_b HOK.out (by omega) HW.out HS.out HR.out hlt2 (j := j) (q := ofN (gm ts q).2.1 j) (by omega) (by omega)
              have hkr := HR.out q hlt2
              have hst := curL_set (ts := ts) want stock rs k q j
              obtain ⟨g', cap', hv', _, hg2', _, hfz, hcl⟩ := own_open hown (by omega)
              injection hv' with e1 e2 e3
              injection e1 with e1
              injection e1 with e1
              subst e1
              clear e2 e3
              have d1 := hcl (ofN (gm ts q).2.1 j) (by omega)
              unfold curL at d1
              rw [gi_range k _ (by omega)] at d1
              have c6 := HCR.out _ hle
              rw [r1] at hp1
              obtain ⟨F, hF⟩ : ∃ F, F = curF ts want stock rs q j (ofN (gm ts q).2.1 j) := ⟨_, rfl⟩
              rw [← hF] at d1 hcb hst
              obtain ⟨mn, hmn⟩ : ∃ mn, mn = (gp (gm ts q).2.1 j).2 := ⟨_, rfl⟩
              rw [← hmn] at hp2 hst r3 r4
              generalize ofN (gm ts q).2.1 j = o at *
              obtain ⟨P, hP⟩ : ∃ P, P = gi rs q * mn := ⟨_, rfl⟩
              have hP0 : 0 ≤ P := by rw [hP]; exact Int.mul_nonneg hkr.1 (by omega)
              have hP1 : P ≤ 9999999 * 6 := by rw [hP]; exact Int.mul_le_mul hkr.2 r4 (by omega) (by omega)
              rw [← hP] at hst
              have hw1 : IntKind.i64.wrap (gi rs q * mn) = P := by rw [← hP]; exact IntWalk.i64_in _ (by omega)
              have hw2 : IntKind.i64.wrap (F - P) = F - P := IntWalk.i64_in _ (by omega)
              have hi1 : (0 : Int) ≤ (o : Int) := by omega
              have hi2 : (o : Int) < (k : Int) := by omega
              have hi3 : (0 : Int) ≤ (q : Int) := by omega
              have hi4 : (q : Int) < (k : Int) := by omega
              have l1 := (Le.refl wr).alloc (.cells #[.int .i64 (o : Int), .int .i64 mn] 80)
              have k1 := Blk.new wr 80 #[.int .i64 (o : Int), .int .i64 mn]
              have hz := hfz o
              have hsb := HLE.out.size
              have ho2 := own_Le hown l1
              obtain ⟨_, _, hv2, _, _, _, hfz2, _⟩ := own_open ho2 (by omega)
              injection hv2 with f1 f2 f3
              injection f1 with f1
              injection f1 with f1
              subst f1
              clear f2 f3
              have z2 := hfz2 o
              generalize hwk : wr.alloc (.cells #[.int .i64 (o : Int), .int .i64 mn] 80) = wk at *
              have b0 := k1.cell 0
              have b1 := k1.cell 1
              simp at b0 b1
              have d1' := l1.cell d1
              have c6' := l1.cell c6
              have HO2 := Lib.hid ho2
              have HL2 := Lib.hid (hle.trans l1)
              have HST := Lib.hid hst
              clear hcl hfz hfz2 hst hF hmn hP hown ho2 hle l1 k1 r1 hcb hkr hP0 hP1
              go_wp2
              go_still_tail 17, (by kernel_rfl)
              change wpList _ _ _ _ _ wk.drew
              go_wp2
              go_roundw
              case rel =>
                refine ⟨j + 1, by omega, by go_num, (HL2.out.setCell hg1 _).drew, ?_⟩
                rw [← HST.out]
                exact own_setI HO2.out _
              case measure => simp [intOf]; omega
            · obtain rfl : j = m1 := by omega
              go_wp2
              go_roundw
              case rel =>
                refine ⟨q + 1, by omega, by go_num, hle, ?_⟩
                rw [← curL_next, hlen]
                exact hown
              case measure => simp [intOf]; omega
        · obtain rfl : q = k := by omega
          go_wp2
          go_ret
          exact ⟨_, rfl, hown, hle⟩
end Go.Proofs.YtoahjfofnaafaaaDoor
