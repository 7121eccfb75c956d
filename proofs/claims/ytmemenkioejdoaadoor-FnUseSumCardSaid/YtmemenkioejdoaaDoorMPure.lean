/- PServe PDay PLaw2, in one text. -/
import Derived.Test.YtmemenkioejdoaaDoorWMost
import Derived.Test.YtmemenkioejdoaaDoorWUseB
namespace Go.Proofs.YtmemenkioejdoaaDoor
open Go.RowKit


theorem gi_setP {xs : List Int} {j : Nat} (hj : j < xs.length) (v : Int) (k : Nat) : gi (xs.set j v) k = if k = j then v else gi xs k := by
  unfold gi
  rw [List.getD_eq_getElem?_getD, List.getD_eq_getElem?_getD, List.getElem?_set]
  by_cases e : j = k
  · subst e; simp [hj]
  · rw [if_neg e, if_neg (fun h => e h.symm)]
theorem gi_set_ne {xs : List Int} {j k : Nat} (h : k ≠ j) (v : Int) : gi (xs.set j v) k = gi xs k := by
  unfold gi
  rw [List.getD_eq_getElem?_getD, List.getD_eq_getElem?_getD, List.getElem?_set_ne (fun e => h e.symm)]
theorem sum_point (g : Nat → Int) {n j : Nat} (hj : j < n) (c : Int) : sumTo (fun k => g k + if k = j then c else 0) n = sumTo g n + c := by
  rw [sumTo_add, sumTo_one (fun k => if k = j then c else 0) n j hj (fun k _ hne => if_neg hne)]
  simp
theorem foldT_keep (ps : List (Int × Int)) (ks : List Nat) {j : Nat} : ∀ s : List Int × Int, j ∉ ks → gi (ks.foldl (stepT ps) s).1 j = gi s.1 j := by
  induction ks with
  | nil => intro s _; rfl
  | cons k ks ih =>
    intro s h
    rw [List.mem_cons, not_or] at h
    rw [List.foldl_cons, ih _ h.2]
    exact gi_set_ne h.1 _
theorem foldT_sum (ps : List (Int × Int)) (n : Nat) (ks : List Nat) : ∀ s : List Int × Int, s.1.length = n → ks.Nodup → (∀ k ∈ ks, k < n ∧ gi s.1 k = 0) →
    sumTo (gi (ks.foldl (stepT ps) s).1) n + (ks.foldl (stepT ps) s).2 = sumTo (gi s.1) n + s.2 := by
  induction ks with
  | nil => intro s _ _ _; rfl
  | cons k ks ih =>
    intro s hl hnd hk
    rw [List.nodup_cons] at hnd
    obtain ⟨hkn, hk0⟩ := hk k (by simp)
    rw [List.foldl_cons, ih (stepT ps s k) (by simp [stepT, hl]) hnd.2 (fun j hj => ⟨(hk j (by simp [hj])).1, by
      have hne : j ≠ k := fun e => hnd.1 (e ▸ hj)
      show gi (s.1.set k _) j = 0
      rw [gi_set_ne hne]; exact (hk j (by simp [hj])).2⟩)]
    have e : sumTo (gi (s.1.set k (min (gp ps k).1 s.2))) n = sumTo (gi s.1) n + min (gp ps k).1 s.2 := by
      rw [← sum_point (gi s.1) hkn]
      refine sumTo_congr fun j _ => ?_
      rw [gi_setP (by omega)]
      split
      · rename_i e; subst e; rw [hk0]; omega
      · omega
    show sumTo (gi (s.1.set k (min (gp ps k).1 s.2))) n + (s.2 - min (gp ps k).1 s.2) = _
    rw [e]; omega
theorem foldT_rem (ps : List (Int × Int)) (hp : ∀ k, 0 ≤ (gp ps k).1) (ks : List Nat) : ∀ s : List Int × Int, 0 ≤ s.2 → (ks.foldl (stepT ps) s).2 = max (s.2 - (ks.map fun k => (gp ps k).1).sum) 0 := by
  have hs : ∀ ks : List Nat, 0 ≤ (ks.map fun k => (gp ps k).1).sum := by
    intro ks
    induction ks with
    | nil => exact Int.le_refl _
    | cons k ks ih => have := hp k; simp only [List.map_cons, List.sum_cons]; omega
  induction ks with
  | nil => intro s h; simp; omega
  | cons k ks ih =>
    intro s h
    have h1 := hp k
    have h2 := hs ks
    rw [List.foldl_cons, ih (stepT ps s k) (by show 0 ≤ s.2 - min _ _; omega), List.map_cons, List.sum_cons]
    show max (s.2 - min (gp ps k).1 s.2 - _) 0 = _
    omega
theorem sum_mem (f : Nat → Int) (n : Nat) (ks : List Nat) : ks.Nodup → (∀ k ∈ ks, k < n) → (ks.map f).sum = sumTo (fun k => if k ∈ ks then f k else 0) n := by
  induction ks with
  | nil => intro _ _; exact (sumTo_zero fun k _ => if_neg (by simp)).symm
  | cons k ks ih =>
    intro hnd hk
    rw [List.nodup_cons] at hnd
    rw [List.map_cons, List.sum_cons, ih hnd.2 (fun j hj => hk j (by simp [hj])), Int.add_comm, ← sum_point _ (hk k (by simp))]
    refine sumTo_congr fun j _ => ?_
    by_cases e : j = k
    · subst e; rw [if_neg hnd.1, if_pos rfl, if_pos (by simp)]; omega
    · by_cases e2 : j ∈ ks
      · rw [if_pos e2, if_neg e, if_pos (by simp [e2])]; omega
      · rw [if_neg e2, if_neg e, if_neg (by simp [e, e2])]; omega
theorem canonT_nodup (ps : List (Int × Int)) (day : Int) (n l : Nat) (hn : n ≤ 8) : (canonT ps day n l).Nodup :=
  (canonT_grows ps day n l hn).imp fun {a b} h e => by subst e; exact Int.lt_irrefl _ h

/-- all that lies in lots with a day t or later -/
def stock (ps : List (Int × Int)) (t : Nat) : Int := sumTo (lotAt ps t) ps.length
theorem lotsAt_stock {ps : List (Int × Int)} (h : lotsL ps = true) (t : Nat) : lotsAtL ps t = stock ps t := by
  unfold lotsAtL stock; rw [if_pos h]
theorem stock_b {ps : List (Int × Int)} (h : lotsL ps = true) (t : Nat) : 0 ≤ stock ps t ∧ stock ps t ≤ 45 := by
  have := lotsAtL_b h t; rwa [lotsAt_stock h] at this
theorem sumTo_le {f g : Nat → Int} {n : Nat} (h : ∀ k, k < n → f k ≤ g k) : sumTo f n ≤ sumTo g n := by
  induction n with
  | zero => exact Int.le_refl _
  | succ n ih => have h1 := ih fun k hk => h k (by omega); have h2 := h n (by omega); rw [sumTo_succ, sumTo_succ]; omega
theorem stock_mono {ps : List (Int × Int)} (h : lotsL ps = true) {t u : Nat} (htu : t ≤ u) : stock ps u ≤ stock ps t := by
  obtain ⟨_, hf⟩ := lots_facts rfl h
  refine sumTo_le fun k hk => ?_
  have := hf k hk
  unfold lotAt
  split <;> split <;> omega
theorem stock_6 {ps : List (Int × Int)} (h : lotsL ps = true) {t : Nat} (ht : 6 ≤ t) : stock ps t = 0 := by
  obtain ⟨_, hf⟩ := lots_facts rfl h
  refine sumTo_zero fun k hk => ?_
  have := hf k hk
  unfold lotAt
  rw [if_neg (by omega)]

theorem sT_rem {ps : List (Int × Int)} (h : lotsL ps = true) {d : Nat} {want : Int} (h0 : 0 ≤ want) {t : Nat} (ht : d ≤ t) : (sT ps d want ps.length t).2 = max (want - (stock ps d - stock ps t)) 0 := by
  obtain ⟨hn, hf⟩ := lots_facts rfl h
  have hp := gp_nonneg rfl hf
  have e : ((canonT ps d ps.length t).map fun k => (gp ps k).1).sum = stock ps d - stock ps t := by
    rw [sum_mem _ ps.length _ (canonT_nodup _ _ _ _ (by omega)) (fun k hk => (mem_canonT.1 hk).1)]
    have e2 : sumTo (lotAt ps d) ps.length = sumTo (fun k => if k ∈ canonT ps d ps.length t then (gp ps k).1 else 0) ps.length + sumTo (lotAt ps t) ps.length := by
      rw [← sumTo_add]
      refine sumTo_congr fun k hk => ?_
      have := hf k hk
      rw [lotAt, lotAt]
      by_cases q1 : (d : Int) ≤ (gp ps k).2
      · by_cases q2 : (t : Int) ≤ (gp ps k).2
        · have hm : ¬ k ∈ canonT ps d ps.length t := fun hm => by have := mem_canonT.1 hm; omega
          rw [if_pos q1, if_pos q2, if_neg hm]; omega
        · have hm : k ∈ canonT ps d ps.length t := mem_canonT.2 (by omega)
          rw [if_pos q1, if_neg q2, if_pos hm]; omega
      · have hm : ¬ k ∈ canonT ps d ps.length t := fun hm => by have := mem_canonT.1 hm; omega
        have q3 : ¬ (t : Int) ≤ (gp ps k).2 := by omega
        rw [if_neg q1, if_neg q3, if_neg hm]; rfl
    unfold stock
    rw [e2]; omega
  unfold sT
  rw [foldT_rem ps hp _ _ h0, e]
  rfl
theorem sT_zero {ps : List (Int × Int)} {d : Nat} {want : Int} {t j : Nat} (hj : (t : Int) ≤ (gp ps j).2 ∨ (gp ps j).2 < d) : gi (sT ps d want ps.length t).1 j = 0 := by
  unfold sT
  rw [foldT_keep ps _ _ (fun hm => by have := mem_canonT.1 hm; omega)]
  unfold gi initT
  rw [List.getD_eq_getElem?_getD, List.getElem?_replicate]
  split <;> rfl
theorem sT_sum {ps : List (Int × Int)} (h : lotsL ps = true) {d : Nat} {want : Int} (t : Nat) : sumTo (gi (sT ps d want ps.length t).1) ps.length + (sT ps d want ps.length t).2 = want := by
  obtain ⟨hn, _⟩ := lots_facts rfl h
  have z : ∀ k, gi (initT ps.length want).1 k = 0 := fun k => by
    unfold gi initT
    rw [List.getD_eq_getElem?_getD, List.getElem?_replicate]
    split <;> rfl
  unfold sT
  rw [foldT_sum ps ps.length _ _ (by simp [initT]) (canonT_nodup _ _ _ _ (by omega)) (fun k hk => ⟨(mem_canonT.1 hk).1, z k⟩), sumTo_zero fun k _ => z k]
  show 0 + want = want
  omega
theorem sT_final {ps : List (Int × Int)} {d : Nat} {want : Int} {j t : Nat} (hj : (gp ps j).2 < t) : ∀ u, t ≤ u → gi (sT ps d want ps.length u).1 j = gi (sT ps d want ps.length t).1 j := by
  intro u hu
  induction u with
  | zero => rw [show t = 0 by omega]
  | succ u ih =>
    by_cases e : t = u + 1
    · rw [e]
    · rw [sT_succ]
      unfold tT
      rw [foldT_keep ps _ _ (fun hm => by
        unfold rowT at hm
        rw [List.mem_filter, Bool.and_eq_true, decide_eq_true_eq] at hm
        omega), ih (by omega)]
/-- what is taken of the lots with a day t or later -/
theorem take_from {ps : List (Int × Int)} (h : lotsL ps = true) {d : Nat} {want : Int} (h0 : 0 ≤ want) {t : Nat} (ht : d ≤ t) (ht6 : t ≤ 6) :
    sumTo (fun k => if (t : Int) ≤ (gp ps k).2 then gi (sT ps d want ps.length 6).1 k else 0) ps.length = max (want - (stock ps d - stock ps t)) 0 - max (want - stock ps d) 0 := by
  obtain ⟨hn, hf⟩ := lots_facts rfl h
  have r1 := sT_rem h h0 (d := d) ht
  have r2 := sT_rem h h0 (d := d) (t := 6 + d) (by omega)
  have s1 := sT_sum (want := want) h (d := d) t
  have s2 := sT_sum (want := want) h (d := d) 6
  have r3 : (sT ps d want ps.length 6).2 = max (want - stock ps d) 0 := by
    have e6 : sumTo (gi (sT ps d want ps.length (6 + d)).1) ps.length = sumTo (gi (sT ps d want ps.length 6).1) ps.length :=
      sumTo_congr fun k hk => sT_final (by have := hf k hk; omega) _ (by omega)
    have s3 := sT_sum (want := want) h (d := d) (6 + d)
    have z6 := stock_6 h (t := 6 + d) (by omega)
    rw [z6] at r2
    omega
  have e : sumTo (gi (sT ps d want ps.length 6).1) ps.length = sumTo (fun k => if (t : Int) ≤ (gp ps k).2 then gi (sT ps d want ps.length 6).1 k else 0) ps.length + sumTo (gi (sT ps d want ps.length t).1) ps.length := by
    rw [← sumTo_add]
    refine sumTo_congr fun k hk => ?_
    by_cases q : (t : Int) ≤ (gp ps k).2
    · rw [if_pos q, sT_zero (.inl q)]; omega
    · rw [if_neg q, sT_final (show (gp ps k).2 < t by omega) 6 ht6]; omega
  omega



theorem takeDoL_lots {R : List (Int × Int)} {day : Int} {take : List Int} (h : takeOkL R day take = true) : lotsL (takeDoL R take) = true := by
  obtain ⟨h1, h2, h3⟩ := takeOk_facts rfl h
  obtain ⟨hn, hf⟩ := lots_facts rfl h1
  unfold lotsL
  rw [takeDoL_length, decide_eq_true hn, Bool.true_and, all_iff_gp]
  intro k hk
  rw [takeDoL_length] at hk
  rw [gp_takeDoL hk]
  have a := h3 k hk
  have b := hf k hk
  unfold lotB takeDo1
  rw [Bool.and_eq_true, inB_t, inB_t]
  simp only
  omega
theorem stock_do {R : List (Int × Int)} (take : List Int) (t : Nat) :
    stock (takeDoL R take) t = stock R t - sumTo (fun k => if (t : Int) ≤ (gp R k).2 then gi take k else 0) R.length := by
  have e : stock R t = stock (takeDoL R take) t + sumTo (fun k => if (t : Int) ≤ (gp R k).2 then gi take k else 0) R.length := by
    unfold stock
    rw [takeDoL_length, ← sumTo_add]
    refine sumTo_congr fun k hk => ?_
    unfold lotAt
    rw [gp_takeDoL hk]
    unfold takeDo1
    by_cases q : (t : Int) ≤ (gp R k).2
    · rw [if_pos q, if_pos q, if_pos q]; simp only; omega
    · rw [if_neg q, if_neg q, if_neg q]; rfl
  omega
/-- what is taken on a day, of lots with a day t or later -/
theorem taken_b {R : List (Int × Int)} {day : Int} {take : List Int} (h : takeOkL R day take = true) (t : Nat) :
    0 ≤ sumTo (fun k => if (t : Int) ≤ (gp R k).2 then gi take k else 0) R.length ∧ sumTo (fun k => if (t : Int) ≤ (gp R k).2 then gi take k else 0) R.length ≤ sumTo (gi take) R.length ∧
    ((t : Int) ≤ max day 0 → sumTo (fun k => if (t : Int) ≤ (gp R k).2 then gi take k else 0) R.length = sumTo (gi take) R.length) := by
  obtain ⟨h1, h2, h3⟩ := takeOk_facts rfl h
  obtain ⟨hn, hf⟩ := lots_facts rfl h1
  refine ⟨?_, ?_, fun ht => ?_⟩
  · exact (sumTo_bound (c := 9) fun k hk => by
      have := h3 k hk
      have := hf k hk
      split <;> omega).1
  · refine sumTo_le fun k hk => ?_
    have := h3 k hk
    split <;> omega
  · refine sumTo_congr fun k hk => ?_
    have := h3 k hk
    have := hf k hk
    split <;> omega
theorem row_sum {R : List (Int × Int)} {day : Int} {take : List Int} (h : takeOkL R day take = true) : sumW (gi take) take.length = sumTo (gi take) R.length ∧ 0 ≤ sumTo (gi take) R.length ∧ sumTo (gi take) R.length ≤ 45 := by
  obtain ⟨h1, h2, h3⟩ := takeOk_facts rfl h
  obtain ⟨hn, hf⟩ := lots_facts rfl h1
  have hb : ∀ k, k < R.length → 0 ≤ gi take k ∧ gi take k ≤ 9 := fun k hk => by
    have := h3 k hk
    have := hf k hk
    omega
  have := sumTo_bound (c := 9) hb
  rw [h2]
  refine ⟨sumW_eq 9 hb (by omega), this.1, by omega⟩
theorem stock_nonneg {R : List (Int × Int)} (h : lotsL R = true) (t : Nat) : 0 ≤ stock R t := (stock_b h t).1

/-- what is wanted on the days before t -/
def wantsTo (ws : List Int) (t : Nat) : Int := sumTo (gi ws) t
theorem wantsTo_succ (ws : List Int) (t : Nat) : wantsTo ws (t + 1) = wantsTo ws t + gi ws t := rfl
theorem gi_wants {ws : List Int} (h : wantsL ws = true) (k : Nat) : 0 ≤ gi ws k ∧ gi ws k ≤ 50 := by
  obtain ⟨_, hf⟩ := wants_facts rfl h
  by_cases hk : k < ws.length
  · exact hf k hk
  · have : gi ws k = 0 := by unfold gi; rw [List.getD_eq_getElem?_getD, List.getElem?_eq_none (by omega)]; rfl
    omega
theorem wantsTo_mono {ws : List Int} (h : wantsL ws = true) {a b : Nat} (hab : a ≤ b) : wantsTo ws a ≤ wantsTo ws b := by
  induction b with
  | zero => rw [show a = 0 by omega]; exact Int.le_refl _
  | succ b ih =>
    by_cases e : a = b + 1
    · rw [e]; exact Int.le_refl _
    · have := ih (by omega)
      have := (gi_wants h b).1
      rw [wantsTo_succ]; omega
theorem wantsTo_end (ws : List Int) {t : Nat} (h : ws.length ≤ t) : wantsTo ws t = wantsTo ws ws.length := by
  induction t with
  | zero => rw [show ws.length = 0 by omega]
  | succ t ih =>
    by_cases e : ws.length = t + 1
    · rw [e]
    · have z : gi ws t = 0 := by unfold gi; rw [List.getD_eq_getElem?_getD, List.getElem?_eq_none (by omega)]; rfl
      rw [wantsTo_succ, ih (by omega), z, Int.add_zero]
theorem wantsTo_min (ws : List Int) (t : Nat) : sumTo (gi ws) (min t ws.length) = wantsTo ws t := by
  by_cases h : t ≤ ws.length
  · rw [Nat.min_eq_left h]; rfl
  · rw [Nat.min_eq_right (by omega), wantsTo_end ws (by omega)]; rfl
/-- the bound of a day -/
def bnd (ps : List (Int × Int)) (ws : List Int) (t : Nat) : Int := stock ps t + wantsTo ws t
theorem useBound_bnd {ps : List (Int × Int)} {ws : List Int} (h1 : lotsL ps = true) (h2 : wantsL ws = true) {t : Nat} (ht : t ≤ 6) : useBoundL ps ws t = bnd ps ws t := by
  unfold useBoundL bnd
  rw [h1, h2, inB_t.2 (by omega), if_pos (show (true && true && true) = true from rfl), lotsAt_stock h1, Int.toNat_natCast, wantsTo_min]

theorem useOk_facts {ps : List (Int × Int)} {ws : List Int} {tt : List (List Int)} (h : useOkL ps ws tt = true) : lotsL ps = true ∧ wantsL ws = true ∧ tt.length = ws.length ∧ ∀ k, k < tt.length → takeOkL (restL ps tt k) k (gl tt k) = true ∧ rowSum tt k ≤ gi ws k := by
  unfold useOkL at h
  rw [Bool.and_eq_true, Bool.and_eq_true, Bool.and_eq_true, List.all_eq_true, decide_eq_true_eq] at h
  refine ⟨h.1.1.1, h.1.1.2, h.1.2, fun k hk => ?_⟩
  have := h.2 k (List.mem_range.2 hk)
  unfold dayOk at this
  rwa [Bool.and_eq_true, decide_eq_true_eq] at this
theorem rest_next {ps : List (Int × Int)} {tt : List (List Int)} {k : Nat} (h : takeOkL (restL ps tt k) k (gl tt k) = true) : restL ps tt (k + 1) = takeDoL (restL ps tt k) (gl tt k) := by
  rw [restL_succ]; unfold takeDoR; rw [if_pos h]
theorem rest_lots {ps : List (Int × Int)} {tt : List (List Int)} (h0 : lotsL ps = true) {n : Nat} (h : ∀ k, k < n → takeOkL (restL ps tt k) k (gl tt k) = true) : ∀ k, k ≤ n → lotsL (restL ps tt k) = true
  | 0, _ => h0
  | k + 1, hk => by rw [rest_next (h k (by omega))]; exact takeDoL_lots (h k (by omega))
theorem row_served {ps : List (Int × Int)} {tt : List (List Int)} {k : Nat} (h : takeOkL (restL ps tt k) k (gl tt k) = true) : rowSum tt k = sumTo (gi (gl tt k)) (restL ps tt k).length ∧ 0 ≤ rowSum tt k ∧ rowSum tt k ≤ 45 := by
  have := row_sum h
  unfold rowSum
  rw [this.1]
  exact ⟨rfl, this.2⟩
theorem use_tail {ps : List (Int × Int)} {ws : List Int} {tt : List (List Int)} (h : useOkL ps ws tt = true) : ∀ d k, k + d = tt.length → ∀ t, k ≤ t →
    sumTo (rowSum tt) tt.length - sumTo (rowSum tt) k ≤ stock (restL ps tt k) t + (wantsTo ws t - wantsTo ws k) := by
  obtain ⟨h1, h2, h3, h4⟩ := useOk_facts h
  intro d
  induction d with
  | zero =>
    intro k hk t ht
    obtain rfl : k = tt.length := by omega
    have := stock_nonneg (rest_lots h1 (fun k hk => (h4 k hk).1) tt.length (Nat.le_refl _)) t
    have := wantsTo_mono h2 ht
    omega
  | succ d ih =>
    intro k hk t ht
    obtain ⟨q1, q2⟩ := h4 k (by omega)
    have hr := row_served q1
    have hb := taken_b q1 t
    have hs := stock_do (R := restL ps tt k) (gl tt k) t
    rw [← rest_next q1] at hs
    have hss := sumTo_succ (rowSum tt) k
    have hws := wantsTo_succ ws k
    by_cases e : t = k
    · subst e
      have := ih (t + 1) (by omega) (t + 1) (Nat.le_refl _)
      have hm := stock_mono (rest_lots h1 (fun k hk => (h4 k hk).1) (t + 1) (by omega)) (show t ≤ t + 1 by omega)
      have := hb.2.2 (by omega)
      omega
    · have := ih (k + 1) (by omega) t (by omega)
      omega
/-- however lots are used, every bound holds -/
theorem use_bound {ps : List (Int × Int)} {ws : List Int} {tt : List (List Int)} (h : useOkL ps ws tt = true) (t : Nat) : useSumL tt ≤ bnd ps ws t ∧ 0 ≤ useSumL tt ∧ useSumL tt ≤ 270 := by
  obtain ⟨h1, h2, h3, h4⟩ := useOk_facts h
  have hn := (wants_facts rfl h2).1
  have hb : ∀ k, k < tt.length → 0 ≤ rowSum tt k ∧ rowSum tt k ≤ 45 := fun k hk => (row_served (h4 k hk).1).2
  have e : useSumL tt = sumTo (rowSum tt) tt.length := sumW_eq 45 hb (by omega)
  have := use_tail h tt.length 0 (by omega) t (Nat.zero_le _)
  have hs := sumTo_bound hb
  have z : sumTo (rowSum tt) 0 = 0 := rfl
  have z2 : wantsTo ws 0 = 0 := rfl
  rw [z, z2] at this
  rw [e]
  unfold bnd
  exact ⟨by show _ ≤ _ + _; have r0 : restL ps tt 0 = ps := rfl; rw [r0] at this; omega, by omega, by omega⟩

/-- taking by the day takes what can be taken -/
theorem foldT_many (ps : List (Int × Int)) (hp : ∀ k, 0 ≤ (gp ps k).1) (ks : List Nat) : ∀ s : List Int × Int, (∀ j, 0 ≤ gi s.1 j ∧ gi s.1 j ≤ (gp ps j).1) → 0 ≤ s.2 → ∀ j, 0 ≤ gi (ks.foldl (stepT ps) s).1 j ∧ gi (ks.foldl (stepT ps) s).1 j ≤ (gp ps j).1 := by
  induction ks with
  | nil => intro s h _ j; exact h j
  | cons k ks ih =>
    intro s h h2
    refine ih (stepT ps s k) (fun j => ?_) (by show 0 ≤ s.2 - min _ _; have := hp k; omega)
    have hk := hp k
    show 0 ≤ gi (s.1.set k (min (gp ps k).1 s.2)) j ∧ gi (s.1.set k (min (gp ps k).1 s.2)) j ≤ (gp ps j).1
    by_cases hl : k < s.1.length
    · rw [gi_setP hl]
      split
      · rename_i e; subst e; omega
      · exact h j
    · rw [List.set_eq_of_length_le (by omega)]; exact h j
theorem sT_len (ps : List (Int × Int)) (day want : Int) (n l : Nat) : (sT ps day want n l).1.length = n := by
  unfold sT; rw [foldT_length]; simp [initT]
theorem canonT_day (ps : List (Int × Int)) (day : Int) (n l : Nat) : canonT ps day n l = canonT ps (day.toNat : Int) n l := by
  have e : ∀ l k, rowT ps day l k = rowT ps (day.toNat : Int) l k := fun l k => by
    unfold rowT
    congr 1
    funext j
    congr 1
    rw [decide_eq_decide]
    omega
  unfold canonT
  simp only [e]
theorem sT_day (ps : List (Int × Int)) (day want : Int) (n l : Nat) : sT ps day want n l = sT ps (day.toNat : Int) want n l := by
  unfold sT; rw [canonT_day]
theorem first_ok {R : List (Int × Int)} (h : lotsL R = true) {day want : Int} (h0 : 0 ≤ want) (h1 : want ≤ 50) : takeOkL R day (takeFirstL R day want) = true := by
  obtain ⟨hn, hf⟩ := lots_facts rfl h
  have hp := gp_nonneg rfl hf
  have e : takeFirstL R day want = (sT R day want R.length 6).1 := by
    unfold takeFirstL; rw [h, inB_t.2 ⟨h0, h1⟩]; rfl
  rw [e]
  have z : ∀ j, gi (initT R.length want).1 j = 0 := fun j => by
    unfold gi initT
    rw [List.getD_eq_getElem?_getD, List.getElem?_replicate]
    split <;> rfl
  refine takeOkL_t rfl h (sT_len _ _ _ _ _) fun k hk => ?_
  have hm := foldT_many R hp (canonT R day R.length 6) (initT R.length want) (fun j => by rw [z j]; have := hp j; omega) h0 k
  unfold tkAt
  rw [Bool.and_eq_true, inB_t, Bool.or_eq_true, decide_eq_true_eq, decide_eq_true_eq]
  refine ⟨hm, ?_⟩
  by_cases q : day ≤ (gp R k).2
  · exact .inl q
  · refine .inr ?_
    rw [sT_day]
    exact sT_zero (.inr (by have := hf k hk; omega))
/-- what is taken first: of lots with a day t or later -/
theorem first_from {R : List (Int × Int)} (h : lotsL R = true) {d : Nat} {want : Int} (h0 : 0 ≤ want) (h1 : want ≤ 50) {t : Nat} (ht : d ≤ t) (ht6 : t ≤ 6) :
    sumTo (fun k => if (t : Int) ≤ (gp R k).2 then gi (takeFirstL R d want) k else 0) R.length = max (want - (stock R d - stock R t)) 0 - max (want - stock R d) 0 := by
  have e : takeFirstL R d want = (sT R d want R.length 6).1 := by
    unfold takeFirstL; rw [h, inB_t.2 ⟨h0, h1⟩]; rfl
  rw [e]
  exact take_from h h0 ht ht6
theorem first_all {R : List (Int × Int)} (h : lotsL R = true) {day want : Int} (h0 : 0 ≤ want) (h1 : want ≤ 50) : sumTo (gi (takeFirstL R day want)) R.length = min want (lotsAtL R day) := by
  have hok := first_ok h (day := day) h0 h1
  have hok2 := first_ok h (day := (day.toNat : Int)) h0 h1
  have e : takeFirstL R day want = takeFirstL R (day.toNat : Int) want := by unfold takeFirstL; rw [sT_day]
  have e2 : lotsAtL R day = stock R day.toNat := by
    obtain ⟨hn, hf⟩ := lots_facts rfl h
    rw [← lotsAt_stock h]
    unfold lotsAtL
    rw [if_pos h, if_pos h]
    refine sumTo_congr fun k hk => ?_
    have := hf k hk
    unfold lotAt
    by_cases q : day ≤ (gp R k).2
    · rw [if_pos q, if_pos (by omega)]
    · rw [if_neg q, if_neg (by omega)]
  rw [e, e2]
  by_cases hd : day.toNat ≤ 6
  · have f := first_from h h0 h1 (d := day.toNat) (Nat.le_refl _) hd
    have b := (taken_b hok2 day.toNat).2.2 (by omega)
    have := stock_nonneg h day.toNat
    rw [← b, f]
    omega
  · have := (taken_b hok2 6)
    obtain ⟨_, _, q3⟩ := takeOk_facts rfl hok2
    obtain ⟨hn, hf⟩ := lots_facts rfl h
    rw [stock_6 h (show 6 ≤ day.toNat by omega)]
    rw [sumTo_zero fun k hk => by have := q3 k hk; have := hf k hk; omega]
    omega

/-- UseFirst is a way to use -/
theorem restF_lots {ps : List (Int × Int)} {ws : List Int} (h1 : lotsL ps = true) (h2 : wantsL ws = true) : ∀ k, lotsL (restF ps ws k) = true
  | 0 => h1
  | k + 1 => by
    have h := restF_lots h1 h2 k
    have hw := gi_wants h2 k
    have := first_ok h (day := k) hw.1 hw.2
    show lotsL (takeDoR (restF ps ws k) k (takeFirstL (restF ps ws k) k (gi ws k))) = true
    unfold takeDoR; rw [if_pos this]; exact takeDoL_lots this
theorem restF_ok {ps : List (Int × Int)} {ws : List Int} (h1 : lotsL ps = true) (h2 : wantsL ws = true) (k : Nat) : takeOkL (restF ps ws k) k (takeAtF ps ws k) = true := by
  have hw := gi_wants h2 k
  exact first_ok (restF_lots h1 h2 k) (day := k) hw.1 hw.2
theorem restF_rest {ps : List (Int × Int)} {ws : List Int} (h1 : lotsL ps = true) (h2 : wantsL ws = true) : ∀ k, k ≤ ws.length → restL ps (useFirstL ps ws) k = restF ps ws k
  | 0, _ => rfl
  | k + 1, hk => by
    have e : gl (useFirstL ps ws) k = takeAtF ps ws k := by
      unfold useFirstL; rw [h1, h2]; exact gl_range _ _ (by omega)
    rw [restL_succ, restF_rest h1 h2 k (by omega), e]; rfl
theorem useFirst_len {ps : List (Int × Int)} {ws : List Int} (h1 : lotsL ps = true) (h2 : wantsL ws = true) : (useFirstL ps ws).length = ws.length := by
  unfold useFirstL; rw [h1, h2]; simp
theorem useFirst_gl {ps : List (Int × Int)} {ws : List Int} (h1 : lotsL ps = true) (h2 : wantsL ws = true) {k : Nat} (hk : k < ws.length) : gl (useFirstL ps ws) k = takeAtF ps ws k := by
  unfold useFirstL; rw [h1, h2]; exact gl_range _ _ hk
/-- what is served on a day -/
theorem served {ps : List (Int × Int)} {ws : List Int} (h1 : lotsL ps = true) (h2 : wantsL ws = true) {k : Nat} (hk : k < ws.length) : rowSum (useFirstL ps ws) k = min (gi ws k) (stock (restF ps ws k) k) := by
  have hw := gi_wants h2 k
  have hl := restF_lots h1 h2 k
  have := (row_sum (restF_ok h1 h2 k)).1
  unfold rowSum
  rw [useFirst_gl h1 h2 hk, this, ← lotsAt_stock hl]
  exact first_all hl hw.1 hw.2
theorem useFirst_ok {ps : List (Int × Int)} {ws : List Int} (h1 : lotsL ps = true) (h2 : wantsL ws = true) : useOkL ps ws (useFirstL ps ws) = true := by
  refine useOkL_t (useFirst_len h1 h2) h1 h2 rfl fun k hk => dayOk_t ?_ ?_
  · rw [restF_rest h1 h2 k (by omega), useFirst_gl h1 h2 hk]; exact restF_ok h1 h2 k
  · rw [served h1 h2 hk]; omega
theorem rest_stock {ps : List (Int × Int)} {ws : List Int} (h1 : lotsL ps = true) (h2 : wantsL ws = true) {k t : Nat} (hkt : k ≤ t) (ht : t ≤ 6) :
    stock (restF ps ws (k + 1)) t = stock (restF ps ws k) t - (max (gi ws k - (stock (restF ps ws k) k - stock (restF ps ws k) t)) 0 - max (gi ws k - stock (restF ps ws k) k) 0) := by
  have hw := gi_wants h2 k
  have hl := restF_lots h1 h2 k
  have hok := restF_ok h1 h2 k
  rw [restF_succ]
  unfold takeDoR
  rw [if_pos hok, stock_do, ← first_from hl hw.1 hw.2 hkt ht]
  rfl
theorem use_met {ps : List (Int × Int)} {ws : List Int} (h1 : lotsL ps = true) (h2 : wantsL ws = true) : ∀ d k, k + d = ws.length → ∃ t, k ≤ t ∧ t ≤ 6 ∧
    sumTo (rowSum (useFirstL ps ws)) ws.length - sumTo (rowSum (useFirstL ps ws)) k = stock (restF ps ws k) t + (wantsTo ws t - wantsTo ws k) := by
  have hn := (wants_facts rfl h2).1
  intro d
  induction d with
  | zero =>
    intro k hk
    refine ⟨6, by omega, Nat.le_refl _, ?_⟩
    rw [show k = ws.length by omega, stock_6 (restF_lots h1 h2 _) (Nat.le_refl 6), wantsTo_end ws hn]
    omega
  | succ d ih =>
    intro k hk
    obtain ⟨t, ht1, ht2, he⟩ := ih (k + 1) (by omega)
    have hs := served h1 h2 (show k < ws.length by omega)
    have hss := sumTo_succ (rowSum (useFirstL ps ws)) k
    have hws := wantsTo_succ ws k
    have hr := rest_stock h1 h2 (show k ≤ t by omega) ht2
    have n1 := stock_nonneg (restF_lots h1 h2 k) k
    have n2 := stock_mono (restF_lots h1 h2 k) (show k ≤ t by omega)
    have n3 := stock_nonneg (restF_lots h1 h2 k) t
    have hw := gi_wants h2 k
    have hm := wantsTo_mono h2 (show k + 1 ≤ t by omega)
    have hu := use_tail (useFirst_ok h1 h2) (d + 1) k (by rw [useFirst_len h1 h2]; omega) k (Nat.le_refl _)
    rw [useFirst_len h1 h2, restF_rest h1 h2 k (by omega)] at hu
    by_cases c1 : gi ws k - (stock (restF ps ws k) k - stock (restF ps ws k) t) ≤ 0
    · exact ⟨t, by omega, ht2, by omega⟩
    · exact ⟨k, Nat.le_refl _, by omega, by omega⟩
/-- THE LAW: UseMost is the least bound -/
theorem most_least {ps : List (Int × Int)} {ws : List Int} (h1 : lotsL ps = true) (h2 : wantsL ws = true) : (∀ t, useMostL ps ws ≤ bnd ps ws t) ∧ ∃ t, t ≤ 6 ∧ useMostL ps ws = bnd ps ws t := by
  have hok := useFirst_ok h1 h2
  have e : useMostL ps ws = useSumL (useFirstL ps ws) := by unfold useMostL; rw [h1, h2]; rfl
  have hn := (wants_facts rfl h2).1
  obtain ⟨_, _, _, h4⟩ := useOk_facts hok
  have hb : ∀ k, k < (useFirstL ps ws).length → 0 ≤ rowSum (useFirstL ps ws) k ∧ rowSum (useFirstL ps ws) k ≤ 45 := fun k hk => (row_served (h4 k hk).1).2
  have e2 : useSumL (useFirstL ps ws) = sumTo (rowSum (useFirstL ps ws)) (useFirstL ps ws).length := sumW_eq 45 hb (by rw [useFirst_len h1 h2]; omega)
  rw [e]
  refine ⟨fun t => (use_bound hok t).1, ?_⟩
  obtain ⟨t, _, ht, he⟩ := use_met h1 h2 ws.length 0 (by omega)
  refine ⟨t, ht, ?_⟩
  rw [e2, useFirst_len h1 h2]
  have z : sumTo (rowSum (useFirstL ps ws)) 0 = 0 := rfl
  have z2 : wantsTo ws 0 = 0 := rfl
  have r0 : restF ps ws 0 = ps := rfl
  rw [z, z2, r0] at he
  unfold bnd
  omega



theorem gp_app1 (ps : List (Int × Int)) (q : Int × Int) {k : Nat} (h : k < ps.length) : gp (ps ++ [q]) k = gp ps k := by
  unfold gp; rw [List.getD_eq_getElem?_getD, List.getD_eq_getElem?_getD, List.getElem?_append_left h]
theorem gp_app2 (ps : List (Int × Int)) (q : Int × Int) : gp (ps ++ [q]) ps.length = q := by
  unfold gp; rw [List.getD_eq_getElem?_getD, List.getElem?_append_right (Nat.le_refl _)]; simp
theorem gp_set (ps : List (Int × Int)) {j : Nat} (hj : j < ps.length) (v : Int × Int) (k : Nat) : gp (ps.set j v) k = if k = j then v else gp ps k := by
  unfold gp
  rw [List.getD_eq_getElem?_getD, List.getD_eq_getElem?_getD, List.getElem?_set]
  by_cases e : j = k
  · subst e; simp [hj]
  · rw [if_neg e, if_neg (fun h => e h.symm)]
theorem lots_mk {ps : List (Int × Int)} (h1 : ps.length ≤ 5) (h2 : ∀ k, k < ps.length → (0 ≤ (gp ps k).1 ∧ (gp ps k).1 ≤ 9) ∧ 0 ≤ (gp ps k).2 ∧ (gp ps k).2 ≤ 5) : lotsL ps = true := by
  unfold lotsL
  rw [decide_eq_true h1, Bool.true_and, all_iff_gp]
  intro k hk
  have := h2 k hk
  unfold lotB
  rw [Bool.and_eq_true, inB_t, inB_t]
  exact this
theorem wants_mk {xs : List Int} (h1 : xs.length ≤ 6) (h2 : ∀ k, k < xs.length → 0 ≤ gi xs k ∧ gi xs k ≤ 50) : wantsL xs = true := by
  unfold wantsL
  rw [decide_eq_true h1, Bool.true_and, all_iff_gi]
  intro k hk
  exact inB_t.2 (h2 k hk)
/- LotsValid -/
theorem lots_tail {ps : List (Int × Int)} (h : lotsL ps = true) : lotsL (ps.drop 1) = true := by
  unfold lotsL at h ⊢
  rw [Bool.and_eq_true, decide_eq_true_eq, List.all_eq_true] at h ⊢
  exact ⟨by rw [List.length_drop]; omega, fun x hx => h.2 x (List.mem_of_mem_drop hx)⟩
theorem lots_neg (ps : List (Int × Int)) : lotsL (ps ++ [(-1, 0)]) = false := lotsL_bad (k := ps.length) (by simp) (by rw [gp_app2]; rfl)
theorem lots_nil : lotsL [] = true := rfl
/- WantsValid -/
theorem wants_zeros {xs : List Int} (h : wantsL xs = true) {n : Nat} (hn : xs.length = n) : wantsL (List.replicate n 0) = true := by
  obtain ⟨h1, _⟩ := wants_facts hn h
  refine wants_mk (by simpa using h1) fun k hk => ?_
  have : gi (List.replicate n 0) k = 0 := by
    unfold gi; rw [List.getD_eq_getElem?_getD, List.getElem?_replicate]
    split <;> rfl
  omega
theorem wants_neg (xs : List Int) : wantsL ([-1] ++ xs) = false := by
  unfold wantsL
  rw [List.singleton_append, List.all_cons]
  rw [show inB 0 50 (-1) = false from rfl, Bool.false_and, Bool.and_false]
/- LotsAt -/
theorem lotsAt_less {ps : List (Int × Int)} (h : lotsL ps = true) {a b : Int} (hab : a ≤ b) : lotsAtL ps b ≤ lotsAtL ps a := by
  obtain ⟨_, hf⟩ := lots_facts rfl h
  unfold lotsAtL
  rw [if_pos h, if_pos h]
  refine sumTo_le fun k hk => ?_
  have := hf k hk
  unfold lotAt
  split <;> split <;> omega
theorem lotsAt_all {ps : List (Int × Int)} (h : lotsL ps = true) : lotsAtL ps 0 = sumTo (fun k => (gp ps k).1) ps.length := by
  obtain ⟨_, hf⟩ := lots_facts rfl h
  unfold lotsAtL
  rw [if_pos h]
  refine sumTo_congr fun k hk => ?_
  have := hf k hk
  unfold lotAt
  rw [if_pos (by omega)]
theorem lots_sum {ps : List (Int × Int)} (h : lotsL ps = true) {k : Nat} (hk : k ≤ ps.length) : 0 ≤ sumTo (fun k => (gp ps k).1) k ∧ sumTo (fun k => (gp ps k).1) k ≤ 45 := by
  obtain ⟨hn, hf⟩ := lots_facts rfl h
  have := sumTo_bound (f := fun k => (gp ps k).1) (c := 9) (n := k) fun j hj => (hf j (by omega)).1
  omega
/- TakeOk -/
theorem take_zero {ps : List (Int × Int)} {day : Int} {take : List Int} (h : takeOkL ps day take = true) (k : Nat) : takeOkL ps day (take.set k 0) = true := by
  obtain ⟨h1, h2, h3⟩ := takeOk_facts rfl h
  obtain ⟨_, hf⟩ := lots_facts rfl h1
  refine takeOkL_t rfl h1 (by simpa using h2) fun j hj => ?_
  have a := h3 j hj
  have b := hf j hj
  unfold tkAt
  rw [Bool.and_eq_true, inB_t, Bool.or_eq_true, decide_eq_true_eq, decide_eq_true_eq]
  by_cases hk : k < take.length
  · rw [gi_setP hk]
    split
    · omega
    · exact a
  · rw [List.set_eq_of_length_le (by omega)]; exact a
theorem take_sum {ps : List (Int × Int)} {day : Int} {take : List Int} (h : takeOkL ps day take = true) : sumTo (gi take) ps.length ≤ lotsAtL ps day := by
  obtain ⟨h1, h2, h3⟩ := takeOk_facts rfl h
  unfold lotsAtL
  rw [if_pos h1]
  refine sumTo_le fun k hk => ?_
  have := h3 k hk
  unfold lotAt
  split <;> omega
/- TakeDo -/
theorem do_all {ps : List (Int × Int)} {day : Int} {take : List Int} (h : takeOkL ps day take = true) : lotsAtL (takeDoL ps take) 0 = lotsAtL ps 0 - sumTo (gi take) ps.length := by
  obtain ⟨h1, _, _⟩ := takeOk_facts rfl h
  have e1 := lotsAt_stock h1 0
  have e2 := lotsAt_stock (takeDoL_lots h) 0
  have e3 := stock_do (R := ps) take 0
  have e4 := (taken_b h 0).2.2 (by omega)
  rw [show ((0 : Nat) : Int) = 0 from rfl] at e1 e2 e3 e4
  omega
/- TakeFirst -/
/-- what is taken of a lot is all of it, or nothing is wanted any more; and when nothing is wanted, nothing is taken -/
theorem foldT_full (ps : List (Int × Int)) (hp : ∀ k, 0 ≤ (gp ps k).1) (n : Nat) (ks : List Nat) : ∀ s : List Int × Int, s.1.length = n → ks.Nodup → (∀ k ∈ ks, k < n) → 0 ≤ s.2 → 0 < (ks.foldl (stepT ps) s).2 → ∀ k ∈ ks, gi (ks.foldl (stepT ps) s).1 k = (gp ps k).1 := by
  induction ks with
  | nil => intro s _ _ _ _ _ k hk; cases hk
  | cons k ks ih =>
    intro s hl hnd hn h0 hpos j hj
    rw [List.nodup_cons] at hnd
    have hk := hp k
    have h0' : 0 ≤ (stepT ps s k).2 := by show 0 ≤ s.2 - min _ _; omega
    have hl' : (stepT ps s k).1.length = n := by simp [stepT, hl]
    rw [List.foldl_cons] at hpos ⊢
    rcases List.mem_cons.1 hj with e | e
    · subst e
      rw [foldT_keep ps ks _ hnd.1]
      have hr := foldT_rem ps hp ks (stepT ps s j) h0'
      have hs : 0 < (stepT ps s j).2 := by
        have hs' : 0 ≤ (ks.map fun k => (gp ps k).1).sum := by
          clear hr hpos hj hn ih hnd
          induction ks with
          | nil => exact Int.le_refl _
          | cons q ks ih => have := hp q; simp only [List.map_cons, List.sum_cons]; omega
        omega
      have hs2 : 0 < s.2 - min (gp ps j).1 s.2 := hs
      show gi (s.1.set j (min (gp ps j).1 s.2)) j = _
      rw [gi_setP (by rw [hl]; exact hn j (by simp)), if_pos rfl]
      omega
    · exact ih _ hl' hnd.2 (fun q hq => hn q (by simp [hq])) h0' hpos j e
theorem foldT_none (ps : List (Int × Int)) (hp : ∀ k, 0 ≤ (gp ps k).1) (ks : List Nat) : ∀ s : List Int × Int, s.2 = 0 → (∀ j, gi s.1 j = 0 ∨ j ∉ ks) → ∀ j ∈ ks, gi (ks.foldl (stepT ps) s).1 j = 0 := by
  induction ks with
  | nil => intro s _ _ j hj; cases hj
  | cons k ks ih =>
    intro s h0 hz j hj
    have hk := hp k
    have e2 : (stepT ps s k).2 = 0 := by show s.2 - min _ _ = 0; omega
    have e1 : ∀ q, gi s.1 q = 0 → gi (stepT ps s k).1 q = 0 := fun q hq => by
      show gi (s.1.set k (min (gp ps k).1 s.2)) q = 0
      by_cases hl : k < s.1.length
      · rw [gi_setP hl]
        split
        · omega
        · exact hq
      · rw [List.set_eq_of_length_le (by omega)]; exact hq
    rw [List.foldl_cons]
    by_cases hm : j ∈ ks
    · exact ih _ e2 (fun q => by
        by_cases hq : q ∈ ks
        · rcases hz q with a | a
          · exact .inl (e1 q a)
          · exact absurd (List.mem_cons_of_mem _ hq) a
        · exact .inr hq) j hm
    · rw [foldT_keep ps ks _ hm]
      rcases hz j with a | a
      · exact e1 j a
      · exact absurd hj a
theorem first_first {ps : List (Int × Int)} (h : lotsL ps = true) {day want : Int} (h0 : 0 ≤ want) (h1 : want ≤ 50) {a b : Nat} (ha : a < ps.length) (hb : b < ps.length) (ht : 0 < gi (takeFirstL ps day want) a) (hab : (gp ps b).2 < (gp ps a).2) (hd : day ≤ (gp ps b).2) : gi (takeFirstL ps day want) b = (gp ps b).1 := by
  obtain ⟨hn, hf⟩ := lots_facts rfl h
  have hp := gp_nonneg rfl hf
  have e : takeFirstL ps day want = (sT ps day want ps.length 6).1 := by
    unfold takeFirstL; rw [h, inB_t.2 ⟨h0, h1⟩]; rfl
  have fb := hf b hb
  have fa := hf a ha
  rw [e] at ht ⊢
  rw [sT_day] at ht ⊢
  obtain ⟨l, hl⟩ : ∃ l : Nat, (gp ps a).2 = l := ⟨(gp ps a).2.toNat, by omega⟩
  have ea := sT_final (ps := ps) (d := day.toNat) (want := want) (j := a) (t := l + 1) (by omega) 6 (by omega)
  have eb := sT_final (ps := ps) (d := day.toNat) (want := want) (j := b) (t := l) (by omega) 6 (by omega)
  rw [ea] at ht
  rw [eb]
  have hrem : 0 ≤ (sT ps (day.toNat : Int) want ps.length l).2 := (OkT.foldl _ (OkT.init h0 h1) (fun k _ => hp k)).2.1
  have hpos : 0 < (sT ps (day.toNat : Int) want ps.length l).2 := by
    by_cases z : (sT ps (day.toNat : Int) want ps.length l).2 = 0
    · exfalso
      have hmem : a ∈ rowT ps (day.toNat : Int) l ps.length := by
        unfold rowT
        rw [List.mem_filter, List.mem_range, Bool.and_eq_true, decide_eq_true_eq, decide_eq_true_eq]
        exact ⟨ha, hl, by omega⟩
      rw [sT_succ] at ht
      unfold tT at ht
      rw [foldT_none ps hp _ _ z (fun j => by
        by_cases hj : j ∈ rowT ps (day.toNat : Int) l ps.length
        · refine .inl (sT_zero (.inl ?_))
          unfold rowT at hj
          rw [List.mem_filter, Bool.and_eq_true, decide_eq_true_eq] at hj
          omega
        · exact .inr hj) a hmem] at ht
      omega
    · omega
  have hmb : b ∈ canonT ps (day.toNat : Int) ps.length l := mem_canonT.2 ⟨hb, by omega, by omega, by omega⟩
  exact foldT_full ps hp ps.length _ _ (by simp [initT]) (canonT_nodup _ _ _ _ (by omega)) (fun k hk => (mem_canonT.1 hk).1) h0 hpos b hmb
/- UseMost -/
theorem stock_more (ps : List (Int × Int)) {k : Nat} (hk : k < ps.length) (t : Nat) : stock (ps.set k ((gp ps k).1 + 1, (gp ps k).2)) t = stock ps t + if (t : Int) ≤ (gp ps k).2 then 1 else 0 := by
  unfold stock
  rw [List.length_set, ← sum_point (lotAt ps t) hk]
  refine sumTo_congr fun j hj => ?_
  unfold lotAt
  rw [gp_set ps hk]
  by_cases e : j = k
  · subst e
    rw [if_pos rfl, if_pos rfl]
    simp only
    split <;> omega
  · rw [if_neg e, if_neg e]; omega
theorem most_more {ps : List (Int × Int)} {ws : List Int} (h1 : lotsL ps = true) (h2 : wantsL ws = true) {k : Nat} (hk : k < ps.length) (h9 : (gp ps k).1 + 1 ≤ 9) :
    useMostL (ps.set k ((gp ps k).1 + 1, (gp ps k).2)) ws = useMostL ps ws ∨ useMostL (ps.set k ((gp ps k).1 + 1, (gp ps k).2)) ws = useMostL ps ws + 1 := by
  obtain ⟨hn, hf⟩ := lots_facts rfl h1
  have h1' : lotsL (ps.set k ((gp ps k).1 + 1, (gp ps k).2)) = true := lots_mk (by simpa using hn) fun j hj => by
    have hj : j < ps.length := by simpa using hj
    have a := hf j hj
    rw [gp_set ps hk]
    split
    · rename_i e; subst e; simp only; omega
    · exact a
  obtain ⟨a1, t, ht, a2⟩ := most_least h1 h2
  obtain ⟨b1, u, hu, b2⟩ := most_least h1' h2
  have c1 := b1 t
  have c2 := a1 u
  have d1 := stock_more ps hk t
  have d2 := stock_more ps hk u
  unfold bnd at *
  split at d1 <;> split at d2 <;> omega
/-- the least of the bounds so far -/
def minB (ps : List (Int × Int)) (ws : List Int) : Nat → Int
  | 0 => bnd ps ws 0
  | k + 1 => min (minB ps ws k) (bnd ps ws (k + 1))
theorem minB_le (ps : List (Int × Int)) (ws : List Int) : ∀ k t, t ≤ k → minB ps ws k ≤ bnd ps ws t
  | 0, t, h => by rw [show t = 0 by omega]; exact Int.le_refl _
  | k + 1, t, h => by
    by_cases e : t = k + 1
    · subst e; show min _ _ ≤ _; omega
    · have := minB_le ps ws k t (by omega); show min _ _ ≤ _; omega
theorem minB_at (ps : List (Int × Int)) (ws : List Int) : ∀ k, ∃ t, t ≤ k ∧ minB ps ws k = bnd ps ws t
  | 0 => ⟨0, Nat.le_refl _, rfl⟩
  | k + 1 => by
    obtain ⟨t, h1, h2⟩ := minB_at ps ws k
    by_cases e : minB ps ws k ≤ bnd ps ws (k + 1)
    · exact ⟨t, by omega, by show min _ _ = _; omega⟩
    · exact ⟨k + 1, Nat.le_refl _, by show min _ _ = _; omega⟩
theorem most_min {ps : List (Int × Int)} {ws : List Int} (h1 : lotsL ps = true) (h2 : wantsL ws = true) : minB ps ws 6 = useMostL ps ws := by
  obtain ⟨a1, t, ht, a2⟩ := most_least h1 h2
  obtain ⟨u, hu, b2⟩ := minB_at ps ws 6
  have := a1 u
  have := minB_le ps ws 6 t ht
  omega
/- UseBound -/
theorem bound_zero {ps : List (Int × Int)} {ws : List Int} (h1 : lotsL ps = true) (h2 : wantsL ws = true) : useBoundL ps ws 0 = lotsAtL ps 0 := by
  have := useBound_bnd h1 h2 (t := 0) (by omega)
  have e := lotsAt_stock h1 0
  rw [show ((0 : Nat) : Int) = 0 from rfl] at this e
  rw [this, e]
  show stock ps 0 + 0 = _
  omega
theorem bound_six {ps : List (Int × Int)} {ws : List Int} (h1 : lotsL ps = true) (h2 : wantsL ws = true) : useBoundL ps ws 6 = sumTo (gi ws) ws.length := by
  have := useBound_bnd h1 h2 (t := 6) (by omega)
  rw [show ((6 : Nat) : Int) = 6 from rfl] at this
  rw [this]
  unfold bnd
  rw [stock_6 h1 (Nat.le_refl _), wantsTo_end ws (wants_facts rfl h2).1]
  show 0 + sumTo _ _ = _
  omega
theorem bound_most {ps : List (Int × Int)} {ws : List Int} {day : Int} (h : (useBoundL ps ws day < 0) = False) : lotsL ps = true ∧ wantsL ws = true ∧ useMostL ps ws ≤ useBoundL ps ws day := by
  have h' : ¬ useBoundL ps ws day < 0 := fun e => by rw [← h]; exact e
  by_cases q : ((lotsL ps && wantsL ws) && inB 0 6 day) = true
  · have q2 := q
    rw [Bool.and_eq_true, Bool.and_eq_true, inB_t] at q2
    obtain ⟨⟨h1, h2⟩, h3, h4⟩ := q2
    refine ⟨h1, h2, ?_⟩
    have := useBound_bnd h1 h2 (t := day.toNat) (by omega)
    rw [show ((day.toNat : Nat) : Int) = day by omega] at this
    rw [this]
    exact (most_least h1 h2).1 _
  · exfalso
    apply h'
    unfold useBoundL
    rw [if_neg q]
    decide
/- SpoilLeast -/
theorem wantsTo_more (ws : List Int) {k : Nat} (hk : k < ws.length) (t : Nat) : wantsTo (ws.set k (gi ws k + 1)) t = wantsTo ws t + if k < t then 1 else 0 := by
  induction t with
  | zero => rw [if_neg (by omega)]; rfl
  | succ t ih =>
    rw [wantsTo_succ, wantsTo_succ, ih, gi_setP hk]
    by_cases e : t = k
    · subst e; rw [if_pos rfl, if_neg (by omega), if_pos (by omega)]; omega
    · rw [if_neg e]
      by_cases e2 : k < t
      · rw [if_pos e2, if_pos (by omega)]; omega
      · rw [if_neg e2, if_neg (by omega)]; omega
theorem spoil_more {ps : List (Int × Int)} {ws : List Int} (h1 : lotsL ps = true) (h2 : wantsL ws = true) {k : Nat} (hk : k < ws.length) (h9 : gi ws k + 1 ≤ 50) :
    spoilL ps (ws.set k (gi ws k + 1)) = spoilL ps ws ∨ spoilL ps (ws.set k (gi ws k + 1)) = spoilL ps ws - 1 := by
  obtain ⟨hn, hf⟩ := wants_facts rfl h2
  have h2' : wantsL (ws.set k (gi ws k + 1)) = true := wants_mk (by simpa using hn) fun j hj => by
    have hj : j < ws.length := by simpa using hj
    have a := hf j hj
    rw [gi_setP hk]
    split
    · rename_i e; subst e; omega
    · exact a
  obtain ⟨a1, t, ht, a2⟩ := most_least h1 h2
  obtain ⟨b1, u, hu, b2⟩ := most_least h1 h2'
  have c1 := b1 t
  have c2 := a1 u
  have d1 := wantsTo_more ws hk t
  have d2 := wantsTo_more ws hk u
  have e1 : spoilL ps ws = lotsAtL ps 0 - useMostL ps ws := by unfold spoilL; rw [h1, h2]; rfl
  have e2 : spoilL ps (ws.set k (gi ws k + 1)) = lotsAtL ps 0 - useMostL ps (ws.set k (gi ws k + 1)) := by unfold spoilL; rw [h1, h2']; rfl
  unfold bnd at *
  split at d1 <;> split at d2 <;> omega
theorem spoil_f {ps : List (Int × Int)} {ws : List Int} (h : (lotsL ps && wantsL ws) = false) : spoilL ps ws = -1 := by unfold spoilL; rw [h]; rfl
theorem spoil_t {ps : List (Int × Int)} {ws : List Int} (h1 : lotsL ps = true) (h2 : wantsL ws = true) : spoilL ps ws + useMostL ps ws = lotsAtL ps 0 ∧ 0 ≤ spoilL ps ws ∧ spoilL ps ws ≤ 45 := by
  have e : spoilL ps ws = lotsAtL ps 0 - useMostL ps ws := by unfold spoilL; rw [h1, h2]; rfl
  have a := (most_least h1 h2).1 0
  have b := useMost_t h1 h2
  have c := lotsAtL_b h1 0
  have d := lotsAt_stock h1 0
  rw [show ((0 : Nat) : Int) = 0 from rfl] at d
  have z : wantsTo ws 0 = 0 := rfl
  unfold bnd at a
  omega
/- LackLeast -/
theorem stock_app (ps : List (Int × Int)) (q : Int × Int) (t : Nat) : stock (ps ++ [q]) t = stock ps t + if (t : Int) ≤ q.2 then q.1 else 0 := by
  unfold stock
  rw [List.length_append, List.length_singleton, sumTo_succ, sumTo_congr (g := lotAt ps t) fun k hk => by unfold lotAt; rw [gp_app1 ps q hk]]
  unfold lotAt
  rw [gp_app2]
theorem lack_f {ps : List (Int × Int)} {ws : List Int} (h : (lotsL ps && wantsL ws) = false) : lackL ps ws = -1 := by unfold lackL; rw [h]; rfl
theorem lack_t {ps : List (Int × Int)} {ws : List Int} (h1 : lotsL ps = true) (h2 : wantsL ws = true) : lackL ps ws = wantsTo ws ws.length - useMostL ps ws ∧ 0 ≤ lackL ps ws ∧ lackL ps ws ≤ 300 := by
  have e : lackL ps ws = wantsTo ws ws.length - useMostL ps ws := by unfold lackL; rw [h1, h2]; rfl
  have a := (most_least h1 h2).1 6
  have b := useMost_t h1 h2
  have c := wants_sum h2 (k := ws.length) (Nat.le_refl _)
  have c' : wantsTo ws ws.length = sumTo (gi ws) ws.length := rfl
  unfold bnd at a
  rw [stock_6 h1 (Nat.le_refl _), wantsTo_end ws (wants_facts rfl h2).1] at a
  omega
theorem lack_fresh {ps : List (Int × Int)} {ws : List Int} (h1 : lotsL ps = true) (h2 : wantsL ws = true) (h3 : lotsL (ps ++ [(lackL ps ws, 5)]) = true) : lackL (ps ++ [(lackL ps ws, 5)]) ws = 0 := by
  obtain ⟨e, l0, _⟩ := lack_t h1 h2
  obtain ⟨e', l0', _⟩ := lack_t h3 h2
  obtain ⟨a1, t, ht, a2⟩ := most_least h1 h2
  obtain ⟨b1, u, hu, b2⟩ := most_least h3 h2
  have c2 := a1 u
  have d2 := stock_app ps (lackL ps ws, 5) u
  have s6 := stock_6 h3 (Nat.le_refl 6)
  have w6 := wantsTo_end ws (wants_facts rfl h2).1
  unfold bnd at *
  simp only at d2
  by_cases q : u = 6
  · subst q; omega
  · rw [if_pos (by omega)] at d2; omega
end Go.Proofs.YtmemenkioejdoaaDoor
