/- Plain law: what taking by the day serves is the least of all bounds. -/
import Derived.Test.YteeklaplnhafoaaDoorWMost
import Derived.Test.YteeklaplnhafoaaDoorWUseB
namespace Go.Proofs.YteeklaplnhafoaaDoor
open Go.RowKit

theorem gi_setP {xs : List Int} {j : Nat} (hj : j < xs.length) (v : Int) (k : Nat) : gi (xs.set j v) k = if k = j then v else gi xs k := by
  unfold gi
  rw [List.getD_eq_getElem?_getD, List.getD_eq_getElem?_getD, List.getElem?_set]
  by_cases e : j = k
  · subst e; simp [hj]
  · rw [if_neg e, if_neg (fun h => e h.symm)]
theorem gi_set_ne {xs : List Int} {j k : Nat} (h : k ≠ j) (v : Int) : gi (xs.set j v) k = gi xs k := by
  unfold gi
  rw [List.getD_eq_getElem?_getD, List.getD_eq_getElem?_getD, List.getElem?_set_ne (fun e => h e.symm)]
theorem sum_point (g : Nat → Int) {n j : Nat} (hj : j < n) (c : Int) : sumTo (fun k => g k + if k = j then c else 0) n = sumTo g n + c := by
  rw [sumTo_add, sumTo_one (fun k => if k = j then c else 0) n j hj (fun k _ hne => if_neg hne)]
  simp
theorem foldT_keep (ps : List (Int × Int)) (ks : List Nat) {j : Nat} : ∀ s : List Int × Int, j ∉ ks → gi (ks.foldl (stepT ps) s).1 j = gi s.1 j := by
  induction ks with
  | nil => intro s _; rfl
  | cons k ks ih =>
    intro s h
    rw [List.mem_cons, not_or] at h
    rw [List.foldl_cons, ih _ h.2]
    exact gi_set_ne h.1 _
theorem foldT_sum (ps : List (Int × Int)) (n : Nat) (ks : List Nat) : ∀ s : List Int × Int, s.1.length = n → ks.Nodup → (∀ k ∈ ks, k < n ∧ gi s.1 k = 0) →
    sumTo (gi (ks.foldl (stepT ps) s).1) n + (ks.foldl (stepT ps) s).2 = sumTo (gi s.1) n + s.2 := by
  induction ks with
  | nil => intro s _ _ _; rfl
  | cons k ks ih =>
    intro s hl hnd hk
    rw [List.nodup_cons] at hnd
    obtain ⟨hkn, hk0⟩ := hk k (by simp)
    rw [List.foldl_cons, ih (stepT ps s k) (by simp [stepT, hl]) hnd.2 (fun j hj => ⟨(hk j (by simp [hj])).1, by
      have hne : j ≠ k := fun e => hnd.1 (e ▸ hj)
      show gi (s.1.set k _) j = 0
      rw [gi_set_ne hne]; exact (hk j (by simp [hj])).2⟩)]
    have e : sumTo (gi (s.1.set k (min (gp ps k).1 s.2))) n = sumTo (gi s.1) n + min (gp ps k).1 s.2 := by
      rw [← sum_point (gi s.1) hkn]
      refine sumTo_congr fun j _ => ?_
      rw [gi_setP (by omega)]
      split
      · rename_i e; subst e; rw [hk0]; omega
      · omega
    show sumTo (gi (s.1.set k (min (gp ps k).1 s.2))) n + (s.2 - min (gp ps k).1 s.2) = _
    rw [e]; omega
theorem foldT_rem (ps : List (Int × Int)) (hp : ∀ k, 0 ≤ (gp ps k).1) (ks : List Nat) : ∀ s : List Int × Int, 0 ≤ s.2 → (ks.foldl (stepT ps) s).2 = max (s.2 - (ks.map fun k => (gp ps k).1).sum) 0 := by
  have hs : ∀ ks : List Nat, 0 ≤ (ks.map fun k => (gp ps k).1).sum := by
    intro ks
    induction ks with
    | nil => exact Int.le_refl _
    | cons k ks ih => have := hp k; simp only [List.map_cons, List.sum_cons]; omega
  induction ks with
  | nil => intro s h; simp; omega
  | cons k ks ih =>
    intro s h
    have h1 := hp k
    have h2 := hs ks
    rw [List.foldl_cons, ih (stepT ps s k) (by show 0 ≤ s.2 - min _ _; omega), List.map_cons, List.sum_cons]
    show max (s.2 - min (gp ps k).1 s.2 - _) 0 = _
    omega
theorem sum_mem (f : Nat → Int) (n : Nat) (ks : List Nat) : ks.Nodup → (∀ k ∈ ks, k < n) → (ks.map f).sum = sumTo (fun k => if k ∈ ks then f k else 0) n := by
  induction ks with
  | nil => intro _ _; exact (sumTo_zero fun k _ => if_neg (by simp)).symm
  | cons k ks ih =>
    intro hnd hk
    rw [List.nodup_cons] at hnd
    rw [List.map_cons, List.sum_cons, ih hnd.2 (fun j hj => hk j (by simp [hj])), Int.add_comm, ← sum_point _ (hk k (by simp))]
    refine sumTo_congr fun j _ => ?_
    by_cases e : j = k
    · subst e; rw [if_neg hnd.1, if_pos rfl, if_pos (by simp)]; omega
    · by_cases e2 : j ∈ ks
      · rw [if_pos e2, if_neg e, if_pos (by simp [e2])]; omega
      · rw [if_neg e2, if_neg e, if_neg (by simp [e, e2])]; omega
theorem canonT_nodup (ps : List (Int × Int)) (day : Int) (n l : Nat) (hn : n ≤ 8) : (canonT ps day n l).Nodup :=
  (canonT_grows ps day n l hn).imp fun {a b} h e => by subst e; exact Int.lt_irrefl _ h

/-- all that lies in lots with a day t or later -/
def stock (ps : List (Int × Int)) (t : Nat) : Int := sumTo (lotAt ps t) ps.length
theorem lotsAt_stock {ps : List (Int × Int)} (h : lotsL ps = true) (t : Nat) : lotsAtL ps t = stock ps t := by
  unfold lotsAtL stock; rw [if_pos h]
theorem stock_b {ps : List (Int × Int)} (h : lotsL ps = true) (t : Nat) : 0 ≤ stock ps t ∧ stock ps t ≤ 45 := by
  have := lotsAtL_b h t; rwa [lotsAt_stock h] at this
theorem sumTo_le {f g : Nat → Int} {n : Nat} (h : ∀ k, k < n → f k ≤ g k) : sumTo f n ≤ sumTo g n := by
  induction n with
  | zero => exact Int.le_refl _
  | succ n ih => have h1 := ih fun k hk => h k (by omega); have h2 := h n (by omega); rw [sumTo_succ, sumTo_succ]; omega
theorem stock_mono {ps : List (Int × Int)} (h : lotsL ps = true) {t u : Nat} (htu : t ≤ u) : stock ps u ≤ stock ps t := by
  obtain ⟨_, hf⟩ := lots_facts rfl h
  refine sumTo_le fun k hk => ?_
  have := hf k hk
  unfold lotAt
  split <;> split <;> omega
theorem stock_6 {ps : List (Int × Int)} (h : lotsL ps = true) {t : Nat} (ht : 6 ≤ t) : stock ps t = 0 := by
  obtain ⟨_, hf⟩ := lots_facts rfl h
  refine sumTo_zero fun k hk => ?_
  have := hf k hk
  unfold lotAt
  rw [if_neg (by omega)]

theorem sT_rem {ps : List (Int × Int)} (h : lotsL ps = true) {d : Nat} {want : Int} (h0 : 0 ≤ want) {t : Nat} (ht : d ≤ t) : (sT ps d want ps.length t).2 = max (want - (stock ps d - stock ps t)) 0 := by
  obtain ⟨hn, hf⟩ := lots_facts rfl h
  have hp := gp_nonneg rfl hf
  have e : ((canonT ps d ps.length t).map fun k => (gp ps k).1).sum = stock ps d - stock ps t := by
    rw [sum_mem _ ps.length _ (canonT_nodup _ _ _ _ (by omega)) (fun k hk => (mem_canonT.1 hk).1)]
    have e2 : sumTo (lotAt ps d) ps.length = sumTo (fun k => if k ∈ canonT ps d ps.length t then (gp ps k).1 else 0) ps.length + sumTo (lotAt ps t) ps.length := by
      rw [← sumTo_add]
      refine sumTo_congr fun k hk => ?_
      have := hf k hk
      rw [lotAt, lotAt]
      by_cases q1 : (d : Int) ≤ (gp ps k).2
      · by_cases q2 : (t : Int) ≤ (gp ps k).2
        · have hm : ¬ k ∈ canonT ps d ps.length t := fun hm => by have := mem_canonT.1 hm; omega
          rw [if_pos q1, if_pos q2, if_neg hm]; omega
        · have hm : k ∈ canonT ps d ps.length t := mem_canonT.2 (by omega)
          rw [if_pos q1, if_neg q2, if_pos hm]; omega
      · have hm : ¬ k ∈ canonT ps d ps.length t := fun hm => by have := mem_canonT.1 hm; omega
        have q3 : ¬ (t : Int) ≤ (gp ps k).2 := by omega
        rw [if_neg q1, if_neg q3, if_neg hm]; rfl
    unfold stock
    rw [e2]; omega
  unfold sT
  rw [foldT_rem ps hp _ _ h0, e]
  rfl
theorem sT_zero {ps : List (Int × Int)} {d : Nat} {want : Int} {t j : Nat} (hj : (t : Int) ≤ (gp ps j).2 ∨ (gp ps j).2 < d) : gi (sT ps d want ps.length t).1 j = 0 := by
  unfold sT
  rw [foldT_keep ps _ _ (fun hm => by have := mem_canonT.1 hm; omega)]
  unfold gi initT
  rw [List.getD_eq_getElem?_getD, List.getElem?_replicate]
  split <;> rfl
theorem sT_sum {ps : List (Int × Int)} (h : lotsL ps = true) {d : Nat} {want : Int} (t : Nat) : sumTo (gi (sT ps d want ps.length t).1) ps.length + (sT ps d want ps.length t).2 = want := by
  obtain ⟨hn, _⟩ := lots_facts rfl h
  have z : ∀ k, gi (initT ps.length want).1 k = 0 := fun k => by
    unfold gi initT
    rw [List.getD_eq_getElem?_getD, List.getElem?_replicate]
    split <;> rfl
  unfold sT
  rw [foldT_sum ps ps.length _ _ (by simp [initT]) (canonT_nodup _ _ _ _ (by omega)) (fun k hk => ⟨(mem_canonT.1 hk).1, z k⟩), sumTo_zero fun k _ => z k]
  show 0 + want = want
  omega
theorem sT_final {ps : List (Int × Int)} {d : Nat} {want : Int} {j t : Nat} (hj : (gp ps j).2 < t) : ∀ u, t ≤ u → gi (sT ps d want ps.length u).1 j = gi (sT ps d want ps.length t).1 j := by
  intro u hu
  induction u with
  | zero => rw [show t = 0 by omega]
  | succ u ih =>
    by_cases e : t = u + 1
    · rw [e]
    · rw [sT_succ]
      unfold tT
      rw [foldT_keep ps _ _ (fun hm => by
        unfold rowT at hm
        rw [List.mem_filter, Bool.and_eq_true, decide_eq_true_eq] at hm
        omega), ih (by omega)]
/-- what is taken of the lots with a day t or later -/
theorem take_from {ps : List (Int × Int)} (h : lotsL ps = true) {d : Nat} {want : Int} (h0 : 0 ≤ want) {t : Nat} (ht : d ≤ t) (ht6 : t ≤ 6) :
    sumTo (fun k => if (t : Int) ≤ (gp ps k).2 then gi (sT ps d want ps.length 6).1 k else 0) ps.length = max (want - (stock ps d - stock ps t)) 0 - max (want - stock ps d) 0 := by
  obtain ⟨hn, hf⟩ := lots_facts rfl h
  have r1 := sT_rem h h0 (d := d) ht
  have r2 := sT_rem h h0 (d := d) (t := 6 + d) (by omega)
  have s1 := sT_sum (want := want) h (d := d) t
  have s2 := sT_sum (want := want) h (d := d) 6
  have r3 : (sT ps d want ps.length 6).2 = max (want - stock ps d) 0 := by
    have e6 : sumTo (gi (sT ps d want ps.length (6 + d)).1) ps.length = sumTo (gi (sT ps d want ps.length 6).1) ps.length :=
      sumTo_congr fun k hk => sT_final (by have := hf k hk; omega) _ (by omega)
    have s3 := sT_sum (want := want) h (d := d) (6 + d)
    have z6 := stock_6 h (t := 6 + d) (by omega)
    rw [z6] at r2
    omega
  have e : sumTo (gi (sT ps d want ps.length 6).1) ps.length = sumTo (fun k => if (t : Int) ≤ (gp ps k).2 then gi (sT ps d want ps.length 6).1 k else 0) ps.length + sumTo (gi (sT ps d want ps.length t).1) ps.length := by
    rw [← sumTo_add]
    refine sumTo_congr fun k hk => ?_
    by_cases q : (t : Int) ≤ (gp ps k).2
    · rw [if_pos q, sT_zero (.inl q)]; omega
    · rw [if_neg q, sT_final (show (gp ps k).2 < t by omega) 6 ht6]; omega
  omega
end Go.Proofs.YteeklaplnhafoaaDoor
