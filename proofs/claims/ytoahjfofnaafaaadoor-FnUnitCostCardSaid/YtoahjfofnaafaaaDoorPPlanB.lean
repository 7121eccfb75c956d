/- Plain laws of chapter 1: the least plan is one, no plan has fewer runs, it can be made, and what plans cost. -/
import Derived.Test.YtoahjfofnaafaaaDoorPPlan
import Derived.Test.YtoahjfofnaafaaaDoorWLeastS
import Derived.Test.YtoahjfofnaafaaaDoorPLaw1
namespace Go.Proofs.YtoahjfofnaafaaaDoor
open Go.RowKit

theorem runOf_mul {lacks one : Int} (h1 : 1 ≤ one) : 0 ≤ runOf lacks one * one - lacks ∧ (0 < runOf lacks one → runOf lacks one * one - lacks < one) := by
  unfold runOf
  split
  · rename_i h
    have h2 := Int.emod_add_mul_ediv (lacks + one - 1) one
    have h3 := Int.emod_nonneg (lacks + one - 1) (show one ≠ 0 by omega)
    have h4 := Int.emod_lt_of_pos (lacks + one - 1) (show 0 < one by omega)
    rw [Int.mul_comm] at h2
    omega
  · rename_i h
    exact ⟨by omega, fun h => by omega⟩
theorem runOf_le {lacks one r : Int} (h1 : 1 ≤ one) (h0 : 0 ≤ r) (h : lacks ≤ r * one) : runOf lacks one ≤ r := by
  unfold runOf
  split
  · have h2 : (lacks + one - 1) / one < r + 1 := by
      refine Int.ediv_lt_of_lt_mul (by omega) ?_
      rw [Int.add_mul]; omega
    omega
  · exact h0
theorem runsL_len (ts : List It) (want stock : List Int) : (runsL ts want stock).length = ts.length := by simp [runsL]
theorem amounts_of {xs : List Int} {n : Nat} {g : Int} (hl : xs.length = n) (h : ∀ k, k < n → 0 ≤ gi xs k ∧ gi xs k ≤ g) : amountsOkL xs n g = true := by
  unfold amountsOkL
  rw [Bool.and_eq_true, all_iff_gi, decide_eq_true_eq]
  exact ⟨by omega, fun k hk => inB_t.2 (h k (by omega))⟩
theorem least_at {ts : List It} {want stock : List Int} {n : Nat} (hl : ts.length = n) (h : planArgsL ts want stock = true) {k : Nat} (hk : k < n) :
    (0 ≤ gi (runsL ts want stock) k ∧ gi (runsL ts want stock) k ≤ 840350) ∧ 0 ≤ gi (leftL ts want stock (runsL ts want stock)) k ∧ (0 < gi (runsL ts want stock) k → gi (leftL ts want stock (runsL ts want stock)) k < rmI ts k) := by
  obtain ⟨h6, hok, ⟨_, hw⟩, ⟨_, hs⟩⟩ := plan_args hl h
  refine ⟨runsL_b hl h6 hok hw hs hk, ?_⟩
  obtain ⟨d, hd, rfl⟩ : ∃ d, d < n ∧ k = n - 1 - d := ⟨n - 1 - k, by omega, by omega⟩
  obtain ⟨e1, e2⟩ := least_left hl hok want stock hd
  rw [e2, e1]
  exact runOf_mul (hok.rm hk).1
theorem leftL_at {ts : List It} (want stock rs : List Int) {k : Nat} (hk : k < ts.length) : gi (leftL ts want stock rs) k = baseP ts want stock rs k - useA ts rs k ts.length := by
  unfold leftL; rw [gi_range _ _ hk]
/-- the least plan is a plan -/
theorem least_ok {ts : List It} {want stock : List Int} (h : planArgsL ts want stock = true) : planOkL ts want stock (runsL ts want stock) (leftL ts want stock (runsL ts want stock)) = true := by
  unfold planOkL
  rw [h, amounts_of (runsL_len _ _ _) (fun k hk => by have := (least_at rfl h hk).1; omega), Bool.true_and, Bool.true_and, Bool.and_eq_true, decide_eq_true_eq, List.all_eq_true]
  refine ⟨leftL_length _ _ _ _, fun k hk => ?_⟩
  rw [Bool.and_eq_true, decide_eq_true_eq, decide_eq_true_eq]
  exact ⟨(least_at rfl h (List.mem_range.1 hk)).2.1, rfl⟩
theorem useP_mono {ts : List It} {n k : Nat} (h : ItOk ts n) (hk : k < n) {r r' : Int} (hr : r ≤ r') (q : Nat) : ∀ j, j ≤ (gm ts k).2.1.length → useP (gm ts k).2.1 r q j ≤ useP (gm ts k).2.1 r' q j := by
  intro j
  induction j with
  | zero => intro _; exact Int.le_refl _
  | succ j ih =>
    intro hj
    have i1 := ih (by omega)
    have p1 := (h.part hk (j := j) (by omega)).2.2.1
    have m1 : r * (gp (gm ts k).2.1 j).2 ≤ r' * (gp (gm ts k).2.1 j).2 := Int.mul_le_mul_of_nonneg_right hr (by omega)
    rw [useP_succ, useP_succ]
    split <;> omega
theorem sumTo_le1 {f g : Nat → Int} {n : Nat} (h : ∀ k, k < n → f k ≤ g k) : sumTo f n ≤ sumTo g n := by
  induction n with
  | zero => exact Int.le_refl _
  | succ n ih =>
    have h1 := ih fun k hk => h k (by omega)
    have h2 := h n (by omega)
    rw [sumTo_succ, sumTo_succ]; omega
/-- no plan has fewer runs of anything -/
theorem least_runs {ts : List It} {want stock rs : List Int} {n : Nat} (hl : ts.length = n) (h : planArgsL ts want stock = true) (hr : ∀ k, k < n → 0 ≤ gi rs k) (hL : ∀ k, k < n → 0 ≤ gi (leftL ts want stock rs) k) :
    ∀ d, d < n → gi (runsL ts want stock) (n - 1 - d) ≤ gi rs (n - 1 - d) := by
  obtain ⟨h6, hok, ⟨_, hw⟩, ⟨_, hs⟩⟩ := plan_args hl h
  intro d
  induction d using Nat.strongRecOn with
  | ind d ih =>
    intro hd
    have hk : n - 1 - d < n := by omega
    obtain ⟨e1, e2⟩ := least_left hl hok want stock hd
    have f1 := hL _ hk
    rw [leftL_at want stock rs (by omega)] at f1
    rw [leftL_at want stock _ (by omega)] at e2
    unfold baseP at f1 e2
    have mono : useA ts (runsL ts want stock) (n - 1 - d) ts.length ≤ useA ts rs (n - 1 - d) ts.length := by
      refine sumTo_le1 fun i hi => ?_
      rw [hl] at hi
      by_cases e : i ≤ n - 1 - d
      · rw [useP_high hok hi e _ _ (Nat.le_refl _), useP_high hok hi e _ _ (Nat.le_refl _)]; exact Int.le_refl _
      · have := ih (n - 1 - i) (by omega) (by omega)
        rw [show n - 1 - (n - 1 - i) = i by omega] at this
        exact useP_mono hok hi this _ _ (Nat.le_refl _)
    rw [e1]
    refine runOf_le (hok.rm hk).1 (hr _ hk) ?_
    omega
theorem plan_facts {ts : List It} {want stock rs ls : List Int} {n : Nat} (hl : ts.length = n) (h : planOkL ts want stock rs ls = true) :
    planArgsL ts want stock = true ∧ (rs.length = n ∧ ∀ k, k < n → 0 ≤ gi rs k ∧ gi rs k ≤ 9999999) ∧ ls.length = n ∧ ∀ k, k < n → 0 ≤ gi (leftL ts want stock rs) k ∧ gi (leftL ts want stock rs) k = gi ls k := by
  unfold planOkL at h
  rw [hl] at h
  simp only [Bool.and_eq_true, decide_eq_true_eq, List.all_eq_true, List.mem_range] at h
  exact ⟨h.1, amounts_facts h.2.1.1, h.2.1.2, h.2.2⟩
theorem least_least {ts : List It} {want stock rs ls : List Int} {n : Nat} (hl : ts.length = n) (h : planOkL ts want stock rs ls = true) {k : Nat} (hk : k < n) : gi (runsL ts want stock) k ≤ gi rs k ∧ 0 ≤ gi ls k := by
  obtain ⟨h1, ⟨_, h2⟩, _, h3⟩ := plan_facts hl h
  have := least_runs hl h1 (fun k hk => (h2 k hk).1) (fun k hk => (h3 k hk).1) (n - 1 - k) (by omega)
  rw [show n - 1 - (n - 1 - k) = k by omega] at this
  have := h3 k hk
  omega

/-- a part stands once -/
theorem useP_at {ts : List It} {n k : Nat} (h : ItOk ts n) (hk : k < n) (r : Int) (q : Nat) {j : Nat} (e : ofN (gm ts k).2.1 j = q) : ∀ m, j + 1 + m ≤ (gm ts k).2.1.length → useP (gm ts k).2.1 r q (j + 1 + m) = useP (gm ts k).2.1 r q (j + 1) ∧ ofN (gm ts k).2.1 j ≤ ofN (gm ts k).2.1 (j + m) := by
  intro m
  induction m with
  | zero => intro _; exact ⟨rfl, Nat.le_refl _⟩
  | succ m ih =>
    intro hm
    obtain ⟨i1, i2⟩ := ih (by omega)
    have a1 := (h.part hk (j := j + m + 1) (by omega)).1
    have a2 := (h.part hk (j := j + m) (by omega)).1
    have a3 := ((h k hk).2.2.2.2 (j + m + 1) (by omega)).2.2 (by omega)
    rw [Nat.add_sub_cancel] at a3
    have lt : ofN (gm ts k).2.1 (j + m) < ofN (gm ts k).2.1 (j + m + 1) := by omega
    refine ⟨?_, by rw [← Nat.add_assoc]; omega⟩
    rw [show j + 1 + (m + 1) = (j + 1 + m) + 1 by omega, useP_succ, i1, if_neg (by rw [show j + 1 + m = j + m + 1 by omega]; omega), Int.add_zero]
theorem useP_no {ps : List (Int × Int)} (r : Int) (q : Nat) : ∀ j, (∀ t, t < j → ofN ps t ≠ q) → useP ps r q j = 0 := by
  intro j
  induction j with
  | zero => intro _; rfl
  | succ j ih => intro h; rw [useP_succ, ih fun t ht => h t (by omega), if_neg (h j (by omega))]; rfl
theorem useA_upto {ts : List It} {n : Nat} (h : ItOk ts n) {rs : List Int} (hr : ∀ k, k < n → 0 ≤ gi rs k) (q : Nat) {i : Nat} : ∀ e, i + e ≤ n → useA ts rs q i ≤ useA ts rs q (i + e) := by
  intro e
  induction e with
  | zero => intro _; exact Int.le_refl _
  | succ e ih =>
    intro he
    have := ih (by omega)
    have p := (useP_3 h (show i + e < n by omega) (hr (i + e) (by omega)) (Int.le_refl _) q _ (Nat.le_refl _)).1
    rw [← Nat.add_assoc, useA_succ]; omega
/-- the least plan can be carried out -/
theorem least_made {ts : List It} {want stock : List Int} {n : Nat} (hl : ts.length = n) (h : planArgsL ts want stock = true) :
    makeOkL ts stock (runsL ts want stock) = true ∧ ∀ k, k < n → nowP ts stock (runsL ts want stock) n k = gi want k + gi (leftL ts want stock (runsL ts want stock)) k := by
  obtain ⟨h6, hok, ⟨_, hw⟩, ⟨hs0, hs⟩⟩ := plan_args hl h
  have hr := fun k hk => (least_at hl h (k := k) hk).1
  have hL := fun k hk => (least_at hl h (k := k) hk).2.1
  have hlf := fun k (hk : k < n) => leftL_at (ts := ts) want stock (runsL ts want stock) (k := k) (by omega)
  have hrl : (runsL ts want stock).length = n := by rw [runsL_len, hl]
  generalize runsL ts want stock = rs at *
  rw [hl] at hlf
  unfold baseP at hlf
  refine ⟨?_, fun k hk => ?_⟩
  · unfold makeOkL makeArgsL
    have ha : itemsL ts = true ∧ amountsOkL stock ts.length 50 = true := by
      unfold planArgsL at h
      simp only [Bool.and_eq_true] at h
      exact ⟨h.1.1, h.2⟩
    rw [ha.1, ha.2, hl, amounts_of hrl (fun k hk => by have := hr k hk; omega), Bool.true_and, Bool.true_and, Bool.true_and, List.all_eq_true]
    intro i hi
    have hi := List.mem_range.1 hi
    rw [List.all_eq_true]
    intro j hj
    have hj := List.mem_range.1 hj
    obtain ⟨_, p2, _, _⟩ := hok.part hi hj
    unfold makeAt nowP
    rw [decide_eq_true_eq, if_pos p2]
    have f1 := hL (ofN (gm ts i).2.1 j) (by omega)
    have f2 := hlf (ofN (gm ts i).2.1 j) (by omega)
    have f3 := hw (ofN (gm ts i).2.1 j) (by omega)
    have u1 := useA_upto hok (fun k hk => (hr k hk).1) (ofN (gm ts i).2.1 j) (i := i + 1) (n - (i + 1)) (by omega)
    rw [show i + 1 + (n - (i + 1)) = n by omega, useA_succ] at u1
    have u2 := useP_at hok hi (gi rs i) _ (j := j) rfl ((gm ts i).2.1.length - (j + 1)) (by omega)
    rw [show j + 1 + ((gm ts i).2.1.length - (j + 1)) = (gm ts i).2.1.length by omega] at u2
    rw [← u2.1]
    omega
  · unfold nowP
    rw [if_pos hk, hlf k hk]
    omega
/-- whatever is made, nothing is ever less than nothing -/
theorem made_pos {ts : List It} {stock rs : List Int} {n : Nat} (hl : ts.length = n) (h : makeOkL ts stock rs = true) : ∀ i, i ≤ n → ∀ q, q < n → 0 ≤ nowP ts stock rs i q := by
  unfold makeOkL makeArgsL at h
  rw [hl] at h
  simp only [Bool.and_eq_true, List.all_eq_true, List.mem_range] at h
  obtain ⟨⟨⟨h1, h2⟩, h3⟩, h4⟩ := h
  obtain ⟨h6, hok⟩ := items_facts hl h1
  have hok : ItOk ts n := hok
  have hs := (amounts_facts h2).2
  have hr := (amounts_facts h3).2
  intro i
  induction i with
  | zero =>
    intro _ q hq
    have := hs q hq
    unfold nowP useA
    show 0 ≤ gi stock q - 0 + (if q < 0 then _ else 0)
    rw [if_neg (by omega)]; omega
  | succ i ih =>
    intro hi q hq
    have i1 := ih (by omega) q hq
    rw [nowP_succ]
    have m : 0 ≤ (if q = i then gi rs i * rmI ts i else 0) := by
      split
      · exact Int.mul_nonneg (hr i (by omega)).1 (by have := hok.rm (show i < n by omega); omega)
      · exact Int.le_refl _
    have u : 0 ≤ nowP ts stock rs i q - useP (gm ts i).2.1 (gi rs i) q (gm ts i).2.1.length := by
      by_cases e : ∃ j, j < (gm ts i).2.1.length ∧ ofN (gm ts i).2.1 j = q
      · obtain ⟨j, hj, e⟩ := e
        have a := h4 i (by omega) j hj
        unfold makeAt at a
        rw [decide_eq_true_eq, e] at a
        have u2 := (useP_at hok (show i < n by omega) (gi rs i) q (j := j) e ((gm ts i).2.1.length - (j + 1)) (by omega)).1
        rw [show j + 1 + ((gm ts i).2.1.length - (j + 1)) = (gm ts i).2.1.length by omega] at u2
        rw [u2]; exact a
      · rw [useP_no _ _ _ fun t ht e2 => e ⟨t, ht, e2⟩]; omega
    omega
theorem make_all {ts : List It} {stock rs : List Int} (h : makeOkL ts stock rs = true) : (makeL ts stock rs).length = ts.length ∧ ∀ k, k < ts.length → gi (makeL ts stock rs) k = nowP ts stock rs ts.length k ∧ 0 ≤ gi (makeL ts stock rs) k := by
  unfold makeL
  rw [if_pos h]
  refine ⟨by simp, fun k hk => ?_⟩
  rw [gi_range _ _ hk]
  exact ⟨rfl, made_pos rfl h _ (Nat.le_refl _) k hk⟩

/-- costs -/
theorem prices_facts {ts : List It} {ps : List Int} (h : pricesL ts ps = true) : itemsL ts = true ∧ ps.length = ts.length ∧ ∀ k, k < ts.length → 0 ≤ gi ps k ∧ gi ps k ≤ 20 := by
  unfold pricesL at h
  rw [Bool.and_eq_true] at h
  exact ⟨h.1, amounts_facts h.2⟩
theorem prices_zero (ts : List It) : pricesL ts (List.replicate ts.length 0) = itemsL ts := by
  unfold pricesL
  rw [amounts_of (by simp) (fun k hk => by
    have : gi (List.replicate ts.length 0) k = 0 := by unfold gi; rw [List.getD_eq_getElem?_getD, List.getElem?_replicate, if_pos hk]; rfl
    rw [this]; decide), Bool.and_true]
theorem prices_more {ts : List It} {ps : List Int} (h : pricesL ts ps = true) : pricesL ts (ps ++ [0]) = false := by
  have h2 := (prices_facts h).2.1
  unfold pricesL
  rw [amountsOkL_len (by rw [List.length_append, List.length_singleton]; omega), Bool.and_false]
theorem cost_facts {ts : List It} {ps rs : List Int} (h : 0 ≤ planCostL ts ps rs) : pricesL ts ps = true ∧ amountsOkL rs ts.length 9999999 = true ∧ planCostL ts ps rs = sumTo (costAt ts ps rs) ts.length := by
  unfold planCostL at h ⊢
  split at h
  · rename_i h2
    rw [if_pos h2]
    rw [Bool.and_eq_true] at h2
    exact ⟨h2.1, h2.2, rfl⟩
  · omega
theorem cost_neg {ts : List It} {ps rs : List Int} (h : planCostL ts ps rs < 0) : planCostL ts ps rs = -1 := by
  unfold planCostL at h ⊢
  split at h
  · rename_i h2
    rw [Bool.and_eq_true] at h2
    have := (sumTo_bound (cost_b (ts := ts) (prices_facts h2.1).2.2 (amounts_facts h2.2).2)).1
    omega
  · rename_i h2; rw [if_neg h2]
theorem gi_set1 {xs : List Int} {j : Nat} (hj : j < xs.length) (v : Int) (k : Nat) : gi (xs.set j v) k = if k = j then v else gi xs k := by
  unfold gi
  rw [List.getD_eq_getElem?_getD, List.getD_eq_getElem?_getD, List.getElem?_set]
  by_cases e : j = k
  · subst e; simp [hj]
  · rw [if_neg e, if_neg (fun h => e h.symm)]
/-- one run more -/
theorem cost_more {ts : List It} {ps rs : List Int} (h : 0 ≤ planCostL ts ps rs) {k : Nat} (hk : k < ts.length) (hb : gi rs k ≤ 9999998) :
    planCostL ts ps (rs.set k (gi rs k + 1)) = planCostL ts ps rs + if (gm ts k).1 = 0 then gi ps k else 0 := by
  obtain ⟨h1, h2, h3⟩ := cost_facts h
  obtain ⟨hl, hr⟩ := amounts_facts h2
  have h4 : amountsOkL (rs.set k (gi rs k + 1)) ts.length 9999999 = true := amounts_of (by rw [List.length_set, hl]) fun j hj => by
    have := hr j hj
    have := hr k hk
    rw [gi_set1 (by omega)]
    split <;> omega
  rw [h3]
  unfold planCostL
  rw [h1, h4, Bool.true_and, if_pos rfl]
  have e : sumTo (costAt ts ps (rs.set k (gi rs k + 1))) ts.length = sumTo (fun j => costAt ts ps rs j + (if j = k then (if (gm ts k).1 = 0 then gi ps k else 0) else 0)) ts.length := by
    refine sumTo_congr fun j _ => ?_
    unfold costAt
    rw [gi_set1 (by omega)]
    by_cases e : j = k
    · subst e
      rw [if_pos rfl, if_pos rfl]
      split
      · rw [Int.add_mul]; omega
      · rfl
    · rw [if_neg e, if_neg e, Int.add_zero]
  rw [e, sumTo_add, sumTo_one (fun j => if j = k then (if (gm ts k).1 = 0 then gi ps k else 0) else 0) ts.length k hk (fun j _ hne => if_neg hne)]
  simp only [if_true]
theorem gi_map2 (ps : List Int) (k : Nat) : gi (ps.map (2 * ·)) k = 2 * gi ps k := by
  unfold gi
  rw [List.getD_eq_getElem?_getD, List.getD_eq_getElem?_getD, List.getElem?_map]
  cases ps[k]? <;> rfl
/-- every price doubled -/
theorem cost_double {ts : List It} {ps rs : List Int} (h : 0 ≤ planCostL ts ps rs) : planCostL ts (ps.map (2 * ·)) rs < 0 ∨ planCostL ts (ps.map (2 * ·)) rs = 2 * planCostL ts ps rs := by
  obtain ⟨_, h2, h3⟩ := cost_facts h
  by_cases h4 : 0 ≤ planCostL ts (ps.map (2 * ·)) rs
  · right
    rw [(cost_facts h4).2.2, h3]
    generalize ts.length = n
    induction n with
    | zero => rfl
    | succ n ih =>
      have e : costAt ts (ps.map (2 * ·)) rs n = 2 * costAt ts ps rs n := by
        unfold costAt
        rw [gi_map2]
        split
        · rw [Int.mul_left_comm]
        · rfl
      rw [sumTo_succ, sumTo_succ, ih, e, Int.mul_add]
  · left; omega
end Go.Proofs.YtoahjfofnaafaaaDoor
