/- Plain law: however lots are used, at most the least bound is served; and taking by the day serves just it. -/
import Derived.Test.YteeklaplnhafoaaDoorPServe
namespace Go.Proofs.YteeklaplnhafoaaDoor
open Go.RowKit

theorem takeDoL_lots {R : List (Int × Int)} {day : Int} {take : List Int} (h : takeOkL R day take = true) : lotsL (takeDoL R take) = true := by
  obtain ⟨h1, h2, h3⟩ := takeOk_facts rfl h
  obtain ⟨hn, hf⟩ := lots_facts rfl h1
  unfold lotsL
  rw [takeDoL_length, decide_eq_true hn, Bool.true_and, all_iff_gp]
  intro k hk
  rw [takeDoL_length] at hk
  rw [gp_takeDoL hk]
  have a := h3 k hk
  have b := hf k hk
  unfold lotB takeDo1
  rw [Bool.and_eq_true, inB_t, inB_t]
  simp only
  omega
theorem stock_do {R : List (Int × Int)} (take : List Int) (t : Nat) :
    stock (takeDoL R take) t = stock R t - sumTo (fun k => if (t : Int) ≤ (gp R k).2 then gi take k else 0) R.length := by
  have e : stock R t = stock (takeDoL R take) t + sumTo (fun k => if (t : Int) ≤ (gp R k).2 then gi take k else 0) R.length := by
    unfold stock
    rw [takeDoL_length, ← sumTo_add]
    refine sumTo_congr fun k hk => ?_
    unfold lotAt
    rw [gp_takeDoL hk]
    unfold takeDo1
    by_cases q : (t : Int) ≤ (gp R k).2
    · rw [if_pos q, if_pos q, if_pos q]; simp only; omega
    · rw [if_neg q, if_neg q, if_neg q]; rfl
  omega
/-- what is taken on a day, of lots with a day t or later -/
theorem taken_b {R : List (Int × Int)} {day : Int} {take : List Int} (h : takeOkL R day take = true) (t : Nat) :
    0 ≤ sumTo (fun k => if (t : Int) ≤ (gp R k).2 then gi take k else 0) R.length ∧ sumTo (fun k => if (t : Int) ≤ (gp R k).2 then gi take k else 0) R.length ≤ sumTo (gi take) R.length ∧
    ((t : Int) ≤ max day 0 → sumTo (fun k => if (t : Int) ≤ (gp R k).2 then gi take k else 0) R.length = sumTo (gi take) R.length) := by
  obtain ⟨h1, h2, h3⟩ := takeOk_facts rfl h
  obtain ⟨hn, hf⟩ := lots_facts rfl h1
  refine ⟨?_, ?_, fun ht => ?_⟩
  · exact (sumTo_bound (c := 9) fun k hk => by
      have := h3 k hk
      have := hf k hk
      split <;> omega).1
  · refine sumTo_le fun k hk => ?_
    have := h3 k hk
    split <;> omega
  · refine sumTo_congr fun k hk => ?_
    have := h3 k hk
    have := hf k hk
    split <;> omega
theorem row_sum {R : List (Int × Int)} {day : Int} {take : List Int} (h : takeOkL R day take = true) : sumW (gi take) take.length = sumTo (gi take) R.length ∧ 0 ≤ sumTo (gi take) R.length ∧ sumTo (gi take) R.length ≤ 45 := by
  obtain ⟨h1, h2, h3⟩ := takeOk_facts rfl h
  obtain ⟨hn, hf⟩ := lots_facts rfl h1
  have hb : ∀ k, k < R.length → 0 ≤ gi take k ∧ gi take k ≤ 9 := fun k hk => by
    have := h3 k hk
    have := hf k hk
    omega
  have := sumTo_bound (c := 9) hb
  rw [h2]
  refine ⟨sumW_eq 9 hb (by omega), this.1, by omega⟩
theorem stock_nonneg {R : List (Int × Int)} (h : lotsL R = true) (t : Nat) : 0 ≤ stock R t := (stock_b h t).1

/-- what is wanted on the days before t -/
def wantsTo (ws : List Int) (t : Nat) : Int := sumTo (gi ws) t
theorem wantsTo_succ (ws : List Int) (t : Nat) : wantsTo ws (t + 1) = wantsTo ws t + gi ws t := rfl
theorem gi_wants {ws : List Int} (h : wantsL ws = true) (k : Nat) : 0 ≤ gi ws k ∧ gi ws k ≤ 50 := by
  obtain ⟨_, hf⟩ := wants_facts rfl h
  by_cases hk : k < ws.length
  · exact hf k hk
  · have : gi ws k = 0 := by unfold gi; rw [List.getD_eq_getElem?_getD, List.getElem?_eq_none (by omega)]; rfl
    omega
theorem wantsTo_mono {ws : List Int} (h : wantsL ws = true) {a b : Nat} (hab : a ≤ b) : wantsTo ws a ≤ wantsTo ws b := by
  induction b with
  | zero => rw [show a = 0 by omega]; exact Int.le_refl _
  | succ b ih =>
    by_cases e : a = b + 1
    · rw [e]; exact Int.le_refl _
    · have := ih (by omega)
      have := (gi_wants h b).1
      rw [wantsTo_succ]; omega
theorem wantsTo_end (ws : List Int) {t : Nat} (h : ws.length ≤ t) : wantsTo ws t = wantsTo ws ws.length := by
  induction t with
  | zero => rw [show ws.length = 0 by omega]
  | succ t ih =>
    by_cases e : ws.length = t + 1
    · rw [e]
    · have z : gi ws t = 0 := by unfold gi; rw [List.getD_eq_getElem?_getD, List.getElem?_eq_none (by omega)]; rfl
      rw [wantsTo_succ, ih (by omega), z, Int.add_zero]
theorem wantsTo_min (ws : List Int) (t : Nat) : sumTo (gi ws) (min t ws.length) = wantsTo ws t := by
  by_cases h : t ≤ ws.length
  · rw [Nat.min_eq_left h]; rfl
  · rw [Nat.min_eq_right (by omega), wantsTo_end ws (by omega)]; rfl
/-- the bound of a day -/
def bnd (ps : List (Int × Int)) (ws : List Int) (t : Nat) : Int := stock ps t + wantsTo ws t
theorem useBound_bnd {ps : List (Int × Int)} {ws : List Int} (h1 : lotsL ps = true) (h2 : wantsL ws = true) {t : Nat} (ht : t ≤ 6) : useBoundL ps ws t = bnd ps ws t := by
  unfold useBoundL bnd
  rw [h1, h2, inB_t.2 (by omega), if_pos (show (true && true && true) = true from rfl), lotsAt_stock h1, Int.toNat_natCast, wantsTo_min]

theorem useOk_facts {ps : List (Int × Int)} {ws : List Int} {tt : List (List Int)} (h : useOkL ps ws tt = true) : lotsL ps = true ∧ wantsL ws = true ∧ tt.length = ws.length ∧ ∀ k, k < tt.length → takeOkL (restL ps tt k) k (gl tt k) = true ∧ rowSum tt k ≤ gi ws k := by
  unfold useOkL at h
  rw [Bool.and_eq_true, Bool.and_eq_true, Bool.and_eq_true, List.all_eq_true, decide_eq_true_eq] at h
  refine ⟨h.1.1.1, h.1.1.2, h.1.2, fun k hk => ?_⟩
  have := h.2 k (List.mem_range.2 hk)
  unfold dayOk at this
  rwa [Bool.and_eq_true, decide_eq_true_eq] at this
theorem rest_next {ps : List (Int × Int)} {tt : List (List Int)} {k : Nat} (h : takeOkL (restL ps tt k) k (gl tt k) = true) : restL ps tt (k + 1) = takeDoL (restL ps tt k) (gl tt k) := by
  rw [restL_succ]; unfold takeDoR; rw [if_pos h]
theorem rest_lots {ps : List (Int × Int)} {tt : List (List Int)} (h0 : lotsL ps = true) {n : Nat} (h : ∀ k, k < n → takeOkL (restL ps tt k) k (gl tt k) = true) : ∀ k, k ≤ n → lotsL (restL ps tt k) = true
  | 0, _ => h0
  | k + 1, hk => by rw [rest_next (h k (by omega))]; exact takeDoL_lots (h k (by omega))
theorem row_served {ps : List (Int × Int)} {tt : List (List Int)} {k : Nat} (h : takeOkL (restL ps tt k) k (gl tt k) = true) : rowSum tt k = sumTo (gi (gl tt k)) (restL ps tt k).length ∧ 0 ≤ rowSum tt k ∧ rowSum tt k ≤ 45 := by
  have := row_sum h
  unfold rowSum
  rw [this.1]
  exact ⟨rfl, this.2⟩
theorem use_tail {ps : List (Int × Int)} {ws : List Int} {tt : List (List Int)} (h : useOkL ps ws tt = true) : ∀ d k, k + d = tt.length → ∀ t, k ≤ t →
    sumTo (rowSum tt) tt.length - sumTo (rowSum tt) k ≤ stock (restL ps tt k) t + (wantsTo ws t - wantsTo ws k) := by
  obtain ⟨h1, h2, h3, h4⟩ := useOk_facts h
  intro d
  induction d with
  | zero =>
    intro k hk t ht
    obtain rfl : k = tt.length := by omega
    have := stock_nonneg (rest_lots h1 (fun k hk => (h4 k hk).1) tt.length (Nat.le_refl _)) t
    have := wantsTo_mono h2 ht
    omega
  | succ d ih =>
    intro k hk t ht
    obtain ⟨q1, q2⟩ := h4 k (by omega)
    have hr := row_served q1
    have hb := taken_b q1 t
    have hs := stock_do (R := restL ps tt k) (gl tt k) t
    rw [← rest_next q1] at hs
    have hss := sumTo_succ (rowSum tt) k
    have hws := wantsTo_succ ws k
    by_cases e : t = k
    · subst e
      have := ih (t + 1) (by omega) (t + 1) (Nat.le_refl _)
      have hm := stock_mono (rest_lots h1 (fun k hk => (h4 k hk).1) (t + 1) (by omega)) (show t ≤ t + 1 by omega)
      have := hb.2.2 (by omega)
      omega
    · have := ih (k + 1) (by omega) t (by omega)
      omega
/-- however lots are used, every bound holds -/
theorem use_bound {ps : List (Int × Int)} {ws : List Int} {tt : List (List Int)} (h : useOkL ps ws tt = true) (t : Nat) : useSumL tt ≤ bnd ps ws t ∧ 0 ≤ useSumL tt ∧ useSumL tt ≤ 270 := by
  obtain ⟨h1, h2, h3, h4⟩ := useOk_facts h
  have hn := (wants_facts rfl h2).1
  have hb : ∀ k, k < tt.length → 0 ≤ rowSum tt k ∧ rowSum tt k ≤ 45 := fun k hk => (row_served (h4 k hk).1).2
  have e : useSumL tt = sumTo (rowSum tt) tt.length := sumW_eq 45 hb (by omega)
  have := use_tail h tt.length 0 (by omega) t (Nat.zero_le _)
  have hs := sumTo_bound hb
  have z : sumTo (rowSum tt) 0 = 0 := rfl
  have z2 : wantsTo ws 0 = 0 := rfl
  rw [z, z2] at this
  rw [e]
  unfold bnd
  exact ⟨by show _ ≤ _ + _; have r0 : restL ps tt 0 = ps := rfl; rw [r0] at this; omega, by omega, by omega⟩

/-- taking by the day takes what can be taken -/
theorem foldT_many (ps : List (Int × Int)) (hp : ∀ k, 0 ≤ (gp ps k).1) (ks : List Nat) : ∀ s : List Int × Int, (∀ j, 0 ≤ gi s.1 j ∧ gi s.1 j ≤ (gp ps j).1) → 0 ≤ s.2 → ∀ j, 0 ≤ gi (ks.foldl (stepT ps) s).1 j ∧ gi (ks.foldl (stepT ps) s).1 j ≤ (gp ps j).1 := by
  induction ks with
  | nil => intro s h _ j; exact h j
  | cons k ks ih =>
    intro s h h2
    refine ih (stepT ps s k) (fun j => ?_) (by show 0 ≤ s.2 - min _ _; have := hp k; omega)
    have hk := hp k
    show 0 ≤ gi (s.1.set k (min (gp ps k).1 s.2)) j ∧ gi (s.1.set k (min (gp ps k).1 s.2)) j ≤ (gp ps j).1
    by_cases hl : k < s.1.length
    · rw [gi_setP hl]
      split
      · rename_i e; subst e; omega
      · exact h j
    · rw [List.set_eq_of_length_le (by omega)]; exact h j
theorem sT_len (ps : List (Int × Int)) (day want : Int) (n l : Nat) : (sT ps day want n l).1.length = n := by
  unfold sT; rw [foldT_length]; simp [initT]
theorem canonT_day (ps : List (Int × Int)) (day : Int) (n l : Nat) : canonT ps day n l = canonT ps (day.toNat : Int) n l := by
  have e : ∀ l k, rowT ps day l k = rowT ps (day.toNat : Int) l k := fun l k => by
    unfold rowT
    congr 1
    funext j
    congr 1
    rw [decide_eq_decide]
    omega
  unfold canonT
  simp only [e]
theorem sT_day (ps : List (Int × Int)) (day want : Int) (n l : Nat) : sT ps day want n l = sT ps (day.toNat : Int) want n l := by
  unfold sT; rw [canonT_day]
theorem first_ok {R : List (Int × Int)} (h : lotsL R = true) {day want : Int} (h0 : 0 ≤ want) (h1 : want ≤ 50) : takeOkL R day (takeFirstL R day want) = true := by
  obtain ⟨hn, hf⟩ := lots_facts rfl h
  have hp := gp_nonneg rfl hf
  have e : takeFirstL R day want = (sT R day want R.length 6).1 := by
    unfold takeFirstL; rw [h, inB_t.2 ⟨h0, h1⟩]; rfl
  rw [e]
  have z : ∀ j, gi (initT R.length want).1 j = 0 := fun j => by
    unfold gi initT
    rw [List.getD_eq_getElem?_getD, List.getElem?_replicate]
    split <;> rfl
  refine takeOkL_t rfl h (sT_len _ _ _ _ _) fun k hk => ?_
  have hm := foldT_many R hp (canonT R day R.length 6) (initT R.length want) (fun j => by rw [z j]; have := hp j; omega) h0 k
  unfold tkAt
  rw [Bool.and_eq_true, inB_t, Bool.or_eq_true, decide_eq_true_eq, decide_eq_true_eq]
  refine ⟨hm, ?_⟩
  by_cases q : day ≤ (gp R k).2
  · exact .inl q
  · refine .inr ?_
    rw [sT_day]
    exact sT_zero (.inr (by have := hf k hk; omega))
/-- what is taken first: of lots with a day t or later -/
theorem first_from {R : List (Int × Int)} (h : lotsL R = true) {d : Nat} {want : Int} (h0 : 0 ≤ want) (h1 : want ≤ 50) {t : Nat} (ht : d ≤ t) (ht6 : t ≤ 6) :
    sumTo (fun k => if (t : Int) ≤ (gp R k).2 then gi (takeFirstL R d want) k else 0) R.length = max (want - (stock R d - stock R t)) 0 - max (want - stock R d) 0 := by
  have e : takeFirstL R d want = (sT R d want R.length 6).1 := by
    unfold takeFirstL; rw [h, inB_t.2 ⟨h0, h1⟩]; rfl
  rw [e]
  exact take_from h h0 ht ht6
theorem first_all {R : List (Int × Int)} (h : lotsL R = true) {day want : Int} (h0 : 0 ≤ want) (h1 : want ≤ 50) : sumTo (gi (takeFirstL R day want)) R.length = min want (lotsAtL R day) := by
  have hok := first_ok h (day := day) h0 h1
  have hok2 := first_ok h (day := (day.toNat : Int)) h0 h1
  have e : takeFirstL R day want = takeFirstL R (day.toNat : Int) want := by unfold takeFirstL; rw [sT_day]
  have e2 : lotsAtL R day = stock R day.toNat := by
    obtain ⟨hn, hf⟩ := lots_facts rfl h
    rw [← lotsAt_stock h]
    unfold lotsAtL
    rw [if_pos h, if_pos h]
    refine sumTo_congr fun k hk => ?_
    have := hf k hk
    unfold lotAt
    by_cases q : day ≤ (gp R k).2
    · rw [if_pos q, if_pos (by omega)]
    · rw [if_neg q, if_neg (by omega)]
  rw [e, e2]
  by_cases hd : day.toNat ≤ 6
  · have f := first_from h h0 h1 (d := day.toNat) (Nat.le_refl _) hd
    have b := (taken_b hok2 day.toNat).2.2 (by omega)
    have := stock_nonneg h day.toNat
    rw [← b, f]
    omega
  · have := (taken_b hok2 6)
    obtain ⟨_, _, q3⟩ := takeOk_facts rfl hok2
    obtain ⟨hn, hf⟩ := lots_facts rfl h
    rw [stock_6 h (show 6 ≤ day.toNat by omega)]
    rw [sumTo_zero fun k hk => by have := q3 k hk; have := hf k hk; omega]
    omega

/-- UseFirst is a way to use -/
theorem restF_lots {ps : List (Int × Int)} {ws : List Int} (h1 : lotsL ps = true) (h2 : wantsL ws = true) : ∀ k, lotsL (restF ps ws k) = true
  | 0 => h1
  | k + 1 => by
    have h := restF_lots h1 h2 k
    have hw := gi_wants h2 k
    have := first_ok h (day := k) hw.1 hw.2
    show lotsL (takeDoR (restF ps ws k) k (takeFirstL (restF ps ws k) k (gi ws k))) = true
    unfold takeDoR; rw [if_pos this]; exact takeDoL_lots this
theorem restF_ok {ps : List (Int × Int)} {ws : List Int} (h1 : lotsL ps = true) (h2 : wantsL ws = true) (k : Nat) : takeOkL (restF ps ws k) k (takeAtF ps ws k) = true := by
  have hw := gi_wants h2 k
  exact first_ok (restF_lots h1 h2 k) (day := k) hw.1 hw.2
theorem restF_rest {ps : List (Int × Int)} {ws : List Int} (h1 : lotsL ps = true) (h2 : wantsL ws = true) : ∀ k, k ≤ ws.length → restL ps (useFirstL ps ws) k = restF ps ws k
  | 0, _ => rfl
  | k + 1, hk => by
    have e : gl (useFirstL ps ws) k = takeAtF ps ws k := by
      unfold useFirstL; rw [h1, h2]; exact gl_range _ _ (by omega)
    rw [restL_succ, restF_rest h1 h2 k (by omega), e]; rfl
theorem useFirst_len {ps : List (Int × Int)} {ws : List Int} (h1 : lotsL ps = true) (h2 : wantsL ws = true) : (useFirstL ps ws).length = ws.length := by
  unfold useFirstL; rw [h1, h2]; simp
theorem useFirst_gl {ps : List (Int × Int)} {ws : List Int} (h1 : lotsL ps = true) (h2 : wantsL ws = true) {k : Nat} (hk : k < ws.length) : gl (useFirstL ps ws) k = takeAtF ps ws k := by
  unfold useFirstL; rw [h1, h2]; exact gl_range _ _ hk
/-- what is served on a day -/
theorem served {ps : List (Int × Int)} {ws : List Int} (h1 : lotsL ps = true) (h2 : wantsL ws = true) {k : Nat} (hk : k < ws.length) : rowSum (useFirstL ps ws) k = min (gi ws k) (stock (restF ps ws k) k) := by
  have hw := gi_wants h2 k
  have hl := restF_lots h1 h2 k
  have := (row_sum (restF_ok h1 h2 k)).1
  unfold rowSum
  rw [useFirst_gl h1 h2 hk, this, ← lotsAt_stock hl]
  exact first_all hl hw.1 hw.2
theorem useFirst_ok {ps : List (Int × Int)} {ws : List Int} (h1 : lotsL ps = true) (h2 : wantsL ws = true) : useOkL ps ws (useFirstL ps ws) = true := by
  refine useOkL_t (useFirst_len h1 h2) h1 h2 rfl fun k hk => dayOk_t ?_ ?_
  · rw [restF_rest h1 h2 k (by omega), useFirst_gl h1 h2 hk]; exact restF_ok h1 h2 k
  · rw [served h1 h2 hk]; omega
theorem rest_stock {ps : List (Int × Int)} {ws : List Int} (h1 : lotsL ps = true) (h2 : wantsL ws = true) {k t : Nat} (hkt : k ≤ t) (ht : t ≤ 6) :
    stock (restF ps ws (k + 1)) t = stock (restF ps ws k) t - (max (gi ws k - (stock (restF ps ws k) k - stock (restF ps ws k) t)) 0 - max (gi ws k - stock (restF ps ws k) k) 0) := by
  have hw := gi_wants h2 k
  have hl := restF_lots h1 h2 k
  have hok := restF_ok h1 h2 k
  rw [restF_succ]
  unfold takeDoR
  rw [if_pos hok, stock_do, ← first_from hl hw.1 hw.2 hkt ht]
  rfl
theorem use_met {ps : List (Int × Int)} {ws : List Int} (h1 : lotsL ps = true) (h2 : wantsL ws = true) : ∀ d k, k + d = ws.length → ∃ t, k ≤ t ∧ t ≤ 6 ∧
    sumTo (rowSum (useFirstL ps ws)) ws.length - sumTo (rowSum (useFirstL ps ws)) k = stock (restF ps ws k) t + (wantsTo ws t - wantsTo ws k) := by
  have hn := (wants_facts rfl h2).1
  intro d
  induction d with
  | zero =>
    intro k hk
    refine ⟨6, by omega, Nat.le_refl _, ?_⟩
    rw [show k = ws.length by omega, stock_6 (restF_lots h1 h2 _) (Nat.le_refl 6), wantsTo_end ws hn]
    omega
  | succ d ih =>
    intro k hk
    obtain ⟨t, ht1, ht2, he⟩ := ih (k + 1) (by omega)
    have hs := served h1 h2 (show k < ws.length by omega)
    have hss := sumTo_succ (rowSum (useFirstL ps ws)) k
    have hws := wantsTo_succ ws k
    have hr := rest_stock h1 h2 (show k ≤ t by omega) ht2
    have n1 := stock_nonneg (restF_lots h1 h2 k) k
    have n2 := stock_mono (restF_lots h1 h2 k) (show k ≤ t by omega)
    have n3 := stock_nonneg (restF_lots h1 h2 k) t
    have hw := gi_wants h2 k
    have hm := wantsTo_mono h2 (show k + 1 ≤ t by omega)
    have hu := use_tail (useFirst_ok h1 h2) (d + 1) k (by rw [useFirst_len h1 h2]; omega) k (Nat.le_refl _)
    rw [useFirst_len h1 h2, restF_rest h1 h2 k (by omega)] at hu
    by_cases c1 : gi ws k - (stock (restF ps ws k) k - stock (restF ps ws k) t) ≤ 0
    · exact ⟨t, by omega, ht2, by omega⟩
    · exact ⟨k, Nat.le_refl _, by omega, by omega⟩
/-- THE LAW: UseMost is the least bound -/
theorem most_least {ps : List (Int × Int)} {ws : List Int} (h1 : lotsL ps = true) (h2 : wantsL ws = true) : (∀ t, useMostL ps ws ≤ bnd ps ws t) ∧ ∃ t, t ≤ 6 ∧ useMostL ps ws = bnd ps ws t := by
  have hok := useFirst_ok h1 h2
  have e : useMostL ps ws = useSumL (useFirstL ps ws) := by unfold useMostL; rw [h1, h2]; rfl
  have hn := (wants_facts rfl h2).1
  obtain ⟨_, _, _, h4⟩ := useOk_facts hok
  have hb : ∀ k, k < (useFirstL ps ws).length → 0 ≤ rowSum (useFirstL ps ws) k ∧ rowSum (useFirstL ps ws) k ≤ 45 := fun k hk => (row_served (h4 k hk).1).2
  have e2 : useSumL (useFirstL ps ws) = sumTo (rowSum (useFirstL ps ws)) (useFirstL ps ws).length := sumW_eq 45 hb (by rw [useFirst_len h1 h2]; omega)
  rw [e]
  refine ⟨fun t => (use_bound hok t).1, ?_⟩
  obtain ⟨t, _, ht, he⟩ := use_met h1 h2 ws.length 0 (by omega)
  refine ⟨t, ht, ?_⟩
  rw [e2, useFirst_len h1 h2]
  have z : sumTo (rowSum (useFirstL ps ws)) 0 = 0 := rfl
  have z2 : wantsTo ws 0 = 0 := rfl
  have r0 : restF ps ws 0 = ps := rfl
  rw [z, z2, r0] at he
  unfold bnd
  omega
end Go.Proofs.YteeklaplnhafoaaDoor
