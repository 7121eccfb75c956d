/- Plain laws of chapter 2: what each law asks of the words. -/
import Derived.Test.YteeklaplnhafoaaDoorPDay
namespace Go.Proofs.YteeklaplnhafoaaDoor
open Go.RowKit

theorem gp_app1 (ps : List (Int × Int)) (q : Int × Int) {k : Nat} (h : k < ps.length) : gp (ps ++ [q]) k = gp ps k := by
  unfold gp; rw [List.getD_eq_getElem?_getD, List.getD_eq_getElem?_getD, List.getElem?_append_left h]
theorem gp_app2 (ps : List (Int × Int)) (q : Int × Int) : gp (ps ++ [q]) ps.length = q := by
  unfold gp; rw [List.getD_eq_getElem?_getD, List.getElem?_append_right (Nat.le_refl _)]; simp
theorem gp_set (ps : List (Int × Int)) {j : Nat} (hj : j < ps.length) (v : Int × Int) (k : Nat) : gp (ps.set j v) k = if k = j then v else gp ps k := by
  unfold gp
  rw [List.getD_eq_getElem?_getD, List.getD_eq_getElem?_getD, List.getElem?_set]
  by_cases e : j = k
  · subst e; simp [hj]
  · rw [if_neg e, if_neg (fun h => e h.symm)]
theorem lots_mk {ps : List (Int × Int)} (h1 : ps.length ≤ 5) (h2 : ∀ k, k < ps.length → (0 ≤ (gp ps k).1 ∧ (gp ps k).1 ≤ 9) ∧ 0 ≤ (gp ps k).2 ∧ (gp ps k).2 ≤ 5) : lotsL ps = true := by
  unfold lotsL
  rw [decide_eq_true h1, Bool.true_and, all_iff_gp]
  intro k hk
  have := h2 k hk
  unfold lotB
  rw [Bool.and_eq_true, inB_t, inB_t]
  exact this
theorem wants_mk {xs : List Int} (h1 : xs.length ≤ 6) (h2 : ∀ k, k < xs.length → 0 ≤ gi xs k ∧ gi xs k ≤ 50) : wantsL xs = true := by
  unfold wantsL
  rw [decide_eq_true h1, Bool.true_and, all_iff_gi]
  intro k hk
  exact inB_t.2 (h2 k hk)
/- LotsValid -/
theorem lots_tail {ps : List (Int × Int)} (h : lotsL ps = true) : lotsL (ps.drop 1) = true := by
  unfold lotsL at h ⊢
  rw [Bool.and_eq_true, decide_eq_true_eq, List.all_eq_true] at h ⊢
  exact ⟨by rw [List.length_drop]; omega, fun x hx => h.2 x (List.mem_of_mem_drop hx)⟩
theorem lots_neg (ps : List (Int × Int)) : lotsL (ps ++ [(-1, 0)]) = false := lotsL_bad (k := ps.length) (by simp) (by rw [gp_app2]; rfl)
theorem lots_nil : lotsL [] = true := rfl
/- WantsValid -/
theorem wants_zeros {xs : List Int} (h : wantsL xs = true) {n : Nat} (hn : xs.length = n) : wantsL (List.replicate n 0) = true := by
  obtain ⟨h1, _⟩ := wants_facts hn h
  refine wants_mk (by simpa using h1) fun k hk => ?_
  have : gi (List.replicate n 0) k = 0 := by
    unfold gi; rw [List.getD_eq_getElem?_getD, List.getElem?_replicate]
    split <;> rfl
  omega
theorem wants_neg (xs : List Int) : wantsL ([-1] ++ xs) = false := by
  unfold wantsL
  rw [List.singleton_append, List.all_cons]
  rw [show inB 0 50 (-1) = false from rfl, Bool.false_and, Bool.and_false]
/- LotsAt -/
theorem lotsAt_less {ps : List (Int × Int)} (h : lotsL ps = true) {a b : Int} (hab : a ≤ b) : lotsAtL ps b ≤ lotsAtL ps a := by
  obtain ⟨_, hf⟩ := lots_facts rfl h
  unfold lotsAtL
  rw [if_pos h, if_pos h]
  refine sumTo_le fun k hk => ?_
  have := hf k hk
  unfold lotAt
  split <;> split <;> omega
theorem lotsAt_all {ps : List (Int × Int)} (h : lotsL ps = true) : lotsAtL ps 0 = sumTo (fun k => (gp ps k).1) ps.length := by
  obtain ⟨_, hf⟩ := lots_facts rfl h
  unfold lotsAtL
  rw [if_pos h]
  refine sumTo_congr fun k hk => ?_
  have := hf k hk
  unfold lotAt
  rw [if_pos (by omega)]
theorem lots_sum {ps : List (Int × Int)} (h : lotsL ps = true) {k : Nat} (hk : k ≤ ps.length) : 0 ≤ sumTo (fun k => (gp ps k).1) k ∧ sumTo (fun k => (gp ps k).1) k ≤ 45 := by
  obtain ⟨hn, hf⟩ := lots_facts rfl h
  have := sumTo_bound (f := fun k => (gp ps k).1) (c := 9) (n := k) fun j hj => (hf j (by omega)).1
  omega
/- TakeOk -/
theorem take_zero {ps : List (Int × Int)} {day : Int} {take : List Int} (h : takeOkL ps day take = true) (k : Nat) : takeOkL ps day (take.set k 0) = true := by
  obtain ⟨h1, h2, h3⟩ := takeOk_facts rfl h
  obtain ⟨_, hf⟩ := lots_facts rfl h1
  refine takeOkL_t rfl h1 (by simpa using h2) fun j hj => ?_
  have a := h3 j hj
  have b := hf j hj
  unfold tkAt
  rw [Bool.and_eq_true, inB_t, Bool.or_eq_true, decide_eq_true_eq, decide_eq_true_eq]
  by_cases hk : k < take.length
  · rw [gi_setP hk]
    split
    · omega
    · exact a
  · rw [List.set_eq_of_length_le (by omega)]; exact a
theorem take_sum {ps : List (Int × Int)} {day : Int} {take : List Int} (h : takeOkL ps day take = true) : sumTo (gi take) ps.length ≤ lotsAtL ps day := by
  obtain ⟨h1, h2, h3⟩ := takeOk_facts rfl h
  unfold lotsAtL
  rw [if_pos h1]
  refine sumTo_le fun k hk => ?_
  have := h3 k hk
  unfold lotAt
  split <;> omega
/- TakeDo -/
theorem do_all {ps : List (Int × Int)} {day : Int} {take : List Int} (h : takeOkL ps day take = true) : lotsAtL (takeDoL ps take) 0 = lotsAtL ps 0 - sumTo (gi take) ps.length := by
  obtain ⟨h1, _, _⟩ := takeOk_facts rfl h
  have e1 := lotsAt_stock h1 0
  have e2 := lotsAt_stock (takeDoL_lots h) 0
  have e3 := stock_do (R := ps) take 0
  have e4 := (taken_b h 0).2.2 (by omega)
  rw [show ((0 : Nat) : Int) = 0 from rfl] at e1 e2 e3 e4
  omega
/- TakeFirst -/
/-- what is taken of a lot is all of it, or nothing is wanted any more; and when nothing is wanted, nothing is taken -/
theorem foldT_full (ps : List (Int × Int)) (hp : ∀ k, 0 ≤ (gp ps k).1) (n : Nat) (ks : List Nat) : ∀ s : List Int × Int, s.1.length = n → ks.Nodup → (∀ k ∈ ks, k < n) → 0 ≤ s.2 → 0 < (ks.foldl (stepT ps) s).2 → ∀ k ∈ ks, gi (ks.foldl (stepT ps) s).1 k = (gp ps k).1 := by
  induction ks with
  | nil => intro s _ _ _ _ _ k hk; cases hk
  | cons k ks ih =>
    intro s hl hnd hn h0 hpos j hj
    rw [List.nodup_cons] at hnd
    have hk := hp k
    have h0' : 0 ≤ (stepT ps s k).2 := by show 0 ≤ s.2 - min _ _; omega
    have hl' : (stepT ps s k).1.length = n := by simp [stepT, hl]
    rw [List.foldl_cons] at hpos ⊢
    rcases List.mem_cons.1 hj with e | e
    · subst e
      rw [foldT_keep ps ks _ hnd.1]
      have hr := foldT_rem ps hp ks (stepT ps s j) h0'
      have hs : 0 < (stepT ps s j).2 := by
        have hs' : 0 ≤ (ks.map fun k => (gp ps k).1).sum := by
          clear hr hpos hj hn ih hnd
          induction ks with
          | nil => exact Int.le_refl _
          | cons q ks ih => have := hp q; simp only [List.map_cons, List.sum_cons]; omega
        omega
      have hs2 : 0 < s.2 - min (gp ps j).1 s.2 := hs
      show gi (s.1.set j (min (gp ps j).1 s.2)) j = _
      rw [gi_setP (by rw [hl]; exact hn j (by simp)), if_pos rfl]
      omega
    · exact ih _ hl' hnd.2 (fun q hq => hn q (by simp [hq])) h0' hpos j e
theorem foldT_none (ps : List (Int × Int)) (hp : ∀ k, 0 ≤ (gp ps k).1) (ks : List Nat) : ∀ s : List Int × Int, s.2 = 0 → (∀ j, gi s.1 j = 0 ∨ j ∉ ks) → ∀ j ∈ ks, gi (ks.foldl (stepT ps) s).1 j = 0 := by
  induction ks with
  | nil => intro s _ _ j hj; cases hj
  | cons k ks ih =>
    intro s h0 hz j hj
    have hk := hp k
    have e2 : (stepT ps s k).2 = 0 := by show s.2 - min _ _ = 0; omega
    have e1 : ∀ q, gi s.1 q = 0 → gi (stepT ps s k).1 q = 0 := fun q hq => by
      show gi (s.1.set k (min (gp ps k).1 s.2)) q = 0
      by_cases hl : k < s.1.length
      · rw [gi_setP hl]
        split
        · omega
        · exact hq
      · rw [List.set_eq_of_length_le (by omega)]; exact hq
    rw [List.foldl_cons]
    by_cases hm : j ∈ ks
    · exact ih _ e2 (fun q => by
        by_cases hq : q ∈ ks
        · rcases hz q with a | a
          · exact .inl (e1 q a)
          · exact absurd (List.mem_cons_of_mem _ hq) a
        · exact .inr hq) j hm
    · rw [foldT_keep ps ks _ hm]
      rcases hz j with a | a
      · exact e1 j a
      · exact absurd hj a
theorem first_first {ps : List (Int × Int)} (h : lotsL ps = true) {day want : Int} (h0 : 0 ≤ want) (h1 : want ≤ 50) {a b : Nat} (ha : a < ps.length) (hb : b < ps.length) (ht : 0 < gi (takeFirstL ps day want) a) (hab : (gp ps b).2 < (gp ps a).2) (hd : day ≤ (gp ps b).2) : gi (takeFirstL ps day want) b = (gp ps b).1 := by
  obtain ⟨hn, hf⟩ := lots_facts rfl h
  have hp := gp_nonneg rfl hf
  have e : takeFirstL ps day want = (sT ps day want ps.length 6).1 := by
    unfold takeFirstL; rw [h, inB_t.2 ⟨h0, h1⟩]; rfl
  have fb := hf b hb
  have fa := hf a ha
  rw [e] at ht ⊢
  rw [sT_day] at ht ⊢
  obtain ⟨l, hl⟩ : ∃ l : Nat, (gp ps a).2 = l := ⟨(gp ps a).2.toNat, by omega⟩
  have ea := sT_final (ps := ps) (d := day.toNat) (want := want) (j := a) (t := l + 1) (by omega) 6 (by omega)
  have eb := sT_final (ps := ps) (d := day.toNat) (want := want) (j := b) (t := l) (by omega) 6 (by omega)
  rw [ea] at ht
  rw [eb]
  have hrem : 0 ≤ (sT ps (day.toNat : Int) want ps.length l).2 := (OkT.foldl _ (OkT.init h0 h1) (fun k _ => hp k)).2.1
  have hpos : 0 < (sT ps (day.toNat : Int) want ps.length l).2 := by
    by_cases z : (sT ps (day.toNat : Int) want ps.length l).2 = 0
    · exfalso
      have hmem : a ∈ rowT ps (day.toNat : Int) l ps.length := by
        unfold rowT
        rw [List.mem_filter, List.mem_range, Bool.and_eq_true, decide_eq_true_eq, decide_eq_true_eq]
        exact ⟨ha, hl, by omega⟩
      rw [sT_succ] at ht
      unfold tT at ht
      rw [foldT_none ps hp _ _ z (fun j => by
        by_cases hj : j ∈ rowT ps (day.toNat : Int) l ps.length
        · refine .inl (sT_zero (.inl ?_))
          unfold rowT at hj
          rw [List.mem_filter, Bool.and_eq_true, decide_eq_true_eq] at hj
          omega
        · exact .inr hj) a hmem] at ht
      omega
    · omega
  have hmb : b ∈ canonT ps (day.toNat : Int) ps.length l := mem_canonT.2 ⟨hb, by omega, by omega, by omega⟩
  exact foldT_full ps hp ps.length _ _ (by simp [initT]) (canonT_nodup _ _ _ _ (by omega)) (fun k hk => (mem_canonT.1 hk).1) h0 hpos b hmb
/- UseMost -/
theorem stock_more (ps : List (Int × Int)) {k : Nat} (hk : k < ps.length) (t : Nat) : stock (ps.set k ((gp ps k).1 + 1, (gp ps k).2)) t = stock ps t + if (t : Int) ≤ (gp ps k).2 then 1 else 0 := by
  unfold stock
  rw [List.length_set, ← sum_point (lotAt ps t) hk]
  refine sumTo_congr fun j hj => ?_
  unfold lotAt
  rw [gp_set ps hk]
  by_cases e : j = k
  · subst e
    rw [if_pos rfl, if_pos rfl]
    simp only
    split <;> omega
  · rw [if_neg e, if_neg e]; omega
theorem most_more {ps : List (Int × Int)} {ws : List Int} (h1 : lotsL ps = true) (h2 : wantsL ws = true) {k : Nat} (hk : k < ps.length) (h9 : (gp ps k).1 + 1 ≤ 9) :
    useMostL (ps.set k ((gp ps k).1 + 1, (gp ps k).2)) ws = useMostL ps ws ∨ useMostL (ps.set k ((gp ps k).1 + 1, (gp ps k).2)) ws = useMostL ps ws + 1 := by
  obtain ⟨hn, hf⟩ := lots_facts rfl h1
  have h1' : lotsL (ps.set k ((gp ps k).1 + 1, (gp ps k).2)) = true := lots_mk (by simpa using hn) fun j hj => by
    have hj : j < ps.length := by simpa using hj
    have a := hf j hj
    rw [gp_set ps hk]
    split
    · rename_i e; subst e; simp only; omega
    · exact a
  obtain ⟨a1, t, ht, a2⟩ := most_least h1 h2
  obtain ⟨b1, u, hu, b2⟩ := most_least h1' h2
  have c1 := b1 t
  have c2 := a1 u
  have d1 := stock_more ps hk t
  have d2 := stock_more ps hk u
  unfold bnd at *
  split at d1 <;> split at d2 <;> omega
/-- the least of the bounds so far -/
def minB (ps : List (Int × Int)) (ws : List Int) : Nat → Int
  | 0 => bnd ps ws 0
  | k + 1 => min (minB ps ws k) (bnd ps ws (k + 1))
theorem minB_le (ps : List (Int × Int)) (ws : List Int) : ∀ k t, t ≤ k → minB ps ws k ≤ bnd ps ws t
  | 0, t, h => by rw [show t = 0 by omega]; exact Int.le_refl _
  | k + 1, t, h => by
    by_cases e : t = k + 1
    · subst e; show min _ _ ≤ _; omega
    · have := minB_le ps ws k t (by omega); show min _ _ ≤ _; omega
theorem minB_at (ps : List (Int × Int)) (ws : List Int) : ∀ k, ∃ t, t ≤ k ∧ minB ps ws k = bnd ps ws t
  | 0 => ⟨0, Nat.le_refl _, rfl⟩
  | k + 1 => by
    obtain ⟨t, h1, h2⟩ := minB_at ps ws k
    by_cases e : minB ps ws k ≤ bnd ps ws (k + 1)
    · exact ⟨t, by omega, by show min _ _ = _; omega⟩
    · exact ⟨k + 1, Nat.le_refl _, by show min _ _ = _; omega⟩
theorem most_min {ps : List (Int × Int)} {ws : List Int} (h1 : lotsL ps = true) (h2 : wantsL ws = true) : minB ps ws 6 = useMostL ps ws := by
  obtain ⟨a1, t, ht, a2⟩ := most_least h1 h2
  obtain ⟨u, hu, b2⟩ := minB_at ps ws 6
  have := a1 u
  have := minB_le ps ws 6 t ht
  omega
/- UseBound -/
theorem bound_zero {ps : List (Int × Int)} {ws : List Int} (h1 : lotsL ps = true) (h2 : wantsL ws = true) : useBoundL ps ws 0 = lotsAtL ps 0 := by
  have := useBound_bnd h1 h2 (t := 0) (by omega)
  have e := lotsAt_stock h1 0
  rw [show ((0 : Nat) : Int) = 0 from rfl] at this e
  rw [this, e]
  show stock ps 0 + 0 = _
  omega
theorem bound_six {ps : List (Int × Int)} {ws : List Int} (h1 : lotsL ps = true) (h2 : wantsL ws = true) : useBoundL ps ws 6 = sumTo (gi ws) ws.length := by
  have := useBound_bnd h1 h2 (t := 6) (by omega)
  rw [show ((6 : Nat) : Int) = 6 from rfl] at this
  rw [this]
  unfold bnd
  rw [stock_6 h1 (Nat.le_refl _), wantsTo_end ws (wants_facts rfl h2).1]
  show 0 + sumTo _ _ = _
  omega
theorem bound_most {ps : List (Int × Int)} {ws : List Int} {day : Int} (h : (useBoundL ps ws day < 0) = False) : lotsL ps = true ∧ wantsL ws = true ∧ useMostL ps ws ≤ useBoundL ps ws day := by
  have h' : ¬ useBoundL ps ws day < 0 := fun e => by rw [← h]; exact e
  by_cases q : ((lotsL ps && wantsL ws) && inB 0 6 day) = true
  · have q2 := q
    rw [Bool.and_eq_true, Bool.and_eq_true, inB_t] at q2
    obtain ⟨⟨h1, h2⟩, h3, h4⟩ := q2
    refine ⟨h1, h2, ?_⟩
    have := useBound_bnd h1 h2 (t := day.toNat) (by omega)
    rw [show ((day.toNat : Nat) : Int) = day by omega] at this
    rw [this]
    exact (most_least h1 h2).1 _
  · exfalso
    apply h'
    unfold useBoundL
    rw [if_neg q]
    decide
/- SpoilLeast -/
theorem wantsTo_more (ws : List Int) {k : Nat} (hk : k < ws.length) (t : Nat) : wantsTo (ws.set k (gi ws k + 1)) t = wantsTo ws t + if k < t then 1 else 0 := by
  induction t with
  | zero => rw [if_neg (by omega)]; rfl
  | succ t ih =>
    rw [wantsTo_succ, wantsTo_succ, ih, gi_setP hk]
    by_cases e : t = k
    · subst e; rw [if_pos rfl, if_neg (by omega), if_pos (by omega)]; omega
    · rw [if_neg e]
      by_cases e2 : k < t
      · rw [if_pos e2, if_pos (by omega)]; omega
      · rw [if_neg e2, if_neg (by omega)]; omega
theorem spoil_more {ps : List (Int × Int)} {ws : List Int} (h1 : lotsL ps = true) (h2 : wantsL ws = true) {k : Nat} (hk : k < ws.length) (h9 : gi ws k + 1 ≤ 50) :
    spoilL ps (ws.set k (gi ws k + 1)) = spoilL ps ws ∨ spoilL ps (ws.set k (gi ws k + 1)) = spoilL ps ws - 1 := by
  obtain ⟨hn, hf⟩ := wants_facts rfl h2
  have h2' : wantsL (ws.set k (gi ws k + 1)) = true := wants_mk (by simpa using hn) fun j hj => by
    have hj : j < ws.length := by simpa using hj
    have a := hf j hj
    rw [gi_setP hk]
    split
    · rename_i e; subst e; omega
    · exact a
  obtain ⟨a1, t, ht, a2⟩ := most_least h1 h2
  obtain ⟨b1, u, hu, b2⟩ := most_least h1 h2'
  have c1 := b1 t
  have c2 := a1 u
  have d1 := wantsTo_more ws hk t
  have d2 := wantsTo_more ws hk u
  have e1 : spoilL ps ws = lotsAtL ps 0 - useMostL ps ws := by unfold spoilL; rw [h1, h2]; rfl
  have e2 : spoilL ps (ws.set k (gi ws k + 1)) = lotsAtL ps 0 - useMostL ps (ws.set k (gi ws k + 1)) := by unfold spoilL; rw [h1, h2']; rfl
  unfold bnd at *
  split at d1 <;> split at d2 <;> omega
theorem spoil_f {ps : List (Int × Int)} {ws : List Int} (h : (lotsL ps && wantsL ws) = false) : spoilL ps ws = -1 := by unfold spoilL; rw [h]; rfl
theorem spoil_t {ps : List (Int × Int)} {ws : List Int} (h1 : lotsL ps = true) (h2 : wantsL ws = true) : spoilL ps ws + useMostL ps ws = lotsAtL ps 0 ∧ 0 ≤ spoilL ps ws ∧ spoilL ps ws ≤ 45 := by
  have e : spoilL ps ws = lotsAtL ps 0 - useMostL ps ws := by unfold spoilL; rw [h1, h2]; rfl
  have a := (most_least h1 h2).1 0
  have b := useMost_t h1 h2
  have c := lotsAtL_b h1 0
  have d := lotsAt_stock h1 0
  rw [show ((0 : Nat) : Int) = 0 from rfl] at d
  have z : wantsTo ws 0 = 0 := rfl
  unfold bnd at a
  omega
/- LackLeast -/
theorem stock_app (ps : List (Int × Int)) (q : Int × Int) (t : Nat) : stock (ps ++ [q]) t = stock ps t + if (t : Int) ≤ q.2 then q.1 else 0 := by
  unfold stock
  rw [List.length_append, List.length_singleton, sumTo_succ, sumTo_congr (g := lotAt ps t) fun k hk => by unfold lotAt; rw [gp_app1 ps q hk]]
  unfold lotAt
  rw [gp_app2]
theorem lack_f {ps : List (Int × Int)} {ws : List Int} (h : (lotsL ps && wantsL ws) = false) : lackL ps ws = -1 := by unfold lackL; rw [h]; rfl
theorem lack_t {ps : List (Int × Int)} {ws : List Int} (h1 : lotsL ps = true) (h2 : wantsL ws = true) : lackL ps ws = wantsTo ws ws.length - useMostL ps ws ∧ 0 ≤ lackL ps ws ∧ lackL ps ws ≤ 300 := by
  have e : lackL ps ws = wantsTo ws ws.length - useMostL ps ws := by unfold lackL; rw [h1, h2]; rfl
  have a := (most_least h1 h2).1 6
  have b := useMost_t h1 h2
  have c := wants_sum h2 (k := ws.length) (Nat.le_refl _)
  have c' : wantsTo ws ws.length = sumTo (gi ws) ws.length := rfl
  unfold bnd at a
  rw [stock_6 h1 (Nat.le_refl _), wantsTo_end ws (wants_facts rfl h2).1] at a
  omega
theorem lack_fresh {ps : List (Int × Int)} {ws : List Int} (h1 : lotsL ps = true) (h2 : wantsL ws = true) (h3 : lotsL (ps ++ [(lackL ps ws, 5)]) = true) : lackL (ps ++ [(lackL ps ws, 5)]) ws = 0 := by
  obtain ⟨e, l0, _⟩ := lack_t h1 h2
  obtain ⟨e', l0', _⟩ := lack_t h3 h2
  obtain ⟨a1, t, ht, a2⟩ := most_least h1 h2
  obtain ⟨b1, u, hu, b2⟩ := most_least h3 h2
  have c2 := a1 u
  have d2 := stock_app ps (lackL ps ws, 5) u
  have s6 := stock_6 h3 (Nat.le_refl 6)
  have w6 := wantsTo_end ws (wants_facts rfl h2).1
  unfold bnd at *
  simp only at d2
  by_cases q : u = 6
  · subst q; omega
  · rw [if_pos (by omega)] at d2; omega
end Go.Proofs.YteeklaplnhafoaaDoor
