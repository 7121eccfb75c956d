/- PUnitB LUC, in one text. -/
import Derived.Test.YtoahjfofnaafaaaDoorPUnit
import Derived.Test.YtoahjfofnaafaaaDoorPPlanB
import Derived.Test.YtoahjfofnaafaaaDoorWLawP
import Derived.Test.YtoahjfofnaafaaaDoorWUnitS
import Derived.Test.YtoahjfofnaafaaaDoorWCostB
import Derived.Test.YtoahjfofnaafaaaDoorWCost
import Derived.Test.YtoahjfofnaafaaaDoorPReg
import Derived.Deep.RegionHeld3
namespace Go.Proofs.YtoahjfofnaafaaaDoor
open Go.RowKit


def prodN (f : Nat → Nat) : Nat → Nat
  | 0 => 1
  | k + 1 => prodN f k * f k
theorem prodN_pos {f : Nat → Nat} : ∀ n, (∀ k, k < n → 0 < f k) → 0 < prodN f n := by
  intro n
  induction n with
  | zero => intro _; exact Nat.one_pos
  | succ n ih => intro h; exact Nat.mul_pos (ih fun k hk => h k (by omega)) (h n (by omega))
theorem prodN_dvd (f : Nat → Nat) {k : Nat} : ∀ n, k < n → f k ∣ prodN f n := by
  intro n
  induction n with
  | zero => intro h; omega
  | succ n ih =>
    intro h
    rcases Nat.lt_or_ge k n with h1 | h1
    · exact Nat.dvd_trans (ih h1) (Nat.dvd_mul_right _ _)
    · obtain rfl : k = n := by omega
      exact Nat.dvd_mul_left _ _
/-- the sum of what the first j parts cost, over one denominator -/
def sumK (ps : List (Int × Int)) (C : Nat → Nat) : Nat → Nat
  | 0 => 0
  | j + 1 => sumK ps C j + mnN ps j * C (ofN ps j)
theorem sumC_K {ps : List (Int × Int)} {T : Nat → Nat × Nat} {C e : Nat → Nat} {D m : Nat} (h : ∀ j, j < m → D = (T (ofN ps j)).2 * e (ofN ps j) ∧ C (ofN ps j) = (T (ofN ps j)).1 * e (ofN ps j)) : ∀ j, j ≤ m → (sumC ps T j).1 * D = (sumC ps T j).2 * sumK ps C j := by
  intro j
  induction j with
  | zero => intro _; show 0 * D = 1 * 0; rw [Nat.zero_mul]
  | succ j ih =>
    intro hj
    have i1 := ih (by omega)
    obtain ⟨h1, h2⟩ := h j (by omega)
    show ((sumC ps T j).1 * (T (ofN ps j)).2 + mnN ps j * (T (ofN ps j)).1 * (sumC ps T j).2) * D = (sumC ps T j).2 * (T (ofN ps j)).2 * (sumK ps C j + mnN ps j * C (ofN ps j))
    generalize (sumC ps T j).1 = a at *
    generalize (sumC ps T j).2 = b at *
    generalize (T (ofN ps j)).1 = c at *
    generalize (T (ofN ps j)).2 = d at *
    generalize mnN ps j = m at *
    generalize sumK ps C j = S at *
    generalize C (ofN ps j) = K at *
    generalize e (ofN ps j) = x at *
    rw [Nat.add_mul, Nat.mul_add]
    have e1 : a * d * D = b * d * S := by
      have : a * d * D = a * D * d := by ac_rfl
      rw [this, i1]; ac_rfl
    have e2 : m * c * b * D = b * d * (m * K) := by rw [h1, h2]; ac_rfl
    rw [e1, e2]
/-- unit costs over one denominator: what a batch gives costs what its parts cost -/
theorem unit_D {ts : List It} {pr : List Int} {n : Nat} (hn6 : n ≤ 6) (hok : ItOk ts n) (hp : ∀ k, k < n → 0 ≤ gi pr k ∧ gi pr k ≤ 20) :
    ∃ (D : Nat) (C : Nat → Nat), 0 < D ∧ ∀ k, k < n → (costT ts pr k).1 * D = C k * (costT ts pr k).2 ∧ ((gm ts k).1 = 0 → C k = (gi pr k).toNat * D) ∧ (0 < (gm ts k).1 → C k * (gm ts k).1.toNat = sumK (gm ts k).2.1 C (gm ts k).2.1.length) := by
  have hc := cost_ok hn6 hok hp
  have hlow : ∀ k, k < n → ∀ j, j < (gm ts k).2.1.length → ofN (gm ts k).2.1 j < k := fun k hk j hj => (parts_nat hok hk j hj).1
  obtain ⟨D, hD⟩ : ∃ D, D = prodN (fun k => (costT ts pr k).2) n := ⟨_, rfl⟩
  have hDpos : 0 < D := by rw [hD]; exact prodN_pos n fun k hk => (hc k hk).1
  have hdvd : ∀ k, k < n → (costT ts pr k).2 * (D / (costT ts pr k).2) = D := fun k hk => Nat.mul_div_cancel' (by rw [hD]; exact prodN_dvd _ n hk)
  clear hD
  refine ⟨D, fun k => (costT ts pr k).1 * (D / (costT ts pr k).2), hDpos, fun k hk => ⟨?_, fun h0 => ?_, fun h0 => ?_⟩⟩
  · have := hdvd k hk
    show (costT ts pr k).1 * D = (costT ts pr k).1 * (D / (costT ts pr k).2) * (costT ts pr k).2
    rw [Nat.mul_assoc, Nat.mul_comm (D / (costT ts pr k).2), this]
  · have e : costT ts pr k = ((gi pr k).toNat, 1) := by
      rw [costT_eq (hlow k hk)]; unfold cost1; rw [if_pos h0]
    show (costT ts pr k).1 * (D / (costT ts pr k).2) = _
    rw [e, Nat.div_one]
  · have hS := sumC_K (ps := (gm ts k).2.1) (T := costT ts pr) (C := fun k => (costT ts pr k).1 * (D / (costT ts pr k).2)) (e := fun k => D / (costT ts pr k).2) (D := D) (m := (gm ts k).2.1.length)
      (fun j hj => ⟨(hdvd _ (by have := hlow k hk j hj; omega)).symm, rfl⟩) _ (Nat.le_refl _)
    have hSp := sumC_pos (ps := (gm ts k).2.1) (T := costT ts pr) (m := (gm ts k).2.1.length) (fun j hj => (hc _ (by have := hlow k hk j hj; omega)).1) _ (Nat.le_refl _)
    have hr := low_ratio (sumC (gm ts k).2.1 (costT ts pr) (gm ts k).2.1.length).1 ((sumC (gm ts k).2.1 (costT ts pr) (gm ts k).2.1.length).2 * (gm ts k).1.toNat)
    have e : costT ts pr k = low (sumC (gm ts k).2.1 (costT ts pr) (gm ts k).2.1.length).1 ((sumC (gm ts k).2.1 (costT ts pr) (gm ts k).2.1.length).2 * (gm ts k).1.toNat) := by
      rw [costT_eq (hlow k hk)]; unfold cost1; rw [if_neg (by omega)]
    rw [← e] at hr
    have hd := hdvd k hk
    have hp2 := (hc k hk).1
    clear e
    show (costT ts pr k).1 * (D / (costT ts pr k).2) * (gm ts k).1.toNat = sumK (gm ts k).2.1 (fun k => (costT ts pr k).1 * (D / (costT ts pr k).2)) (gm ts k).2.1.length
    generalize sumK (gm ts k).2.1 (fun k => (costT ts pr k).1 * (D / (costT ts pr k).2)) (gm ts k).2.1.length = S at *
    generalize (sumC (gm ts k).2.1 (costT ts pr) (gm ts k).2.1.length).1 = a at *
    generalize (sumC (gm ts k).2.1 (costT ts pr) (gm ts k).2.1.length).2 = b at *
    generalize D / (costT ts pr k).2 = x at *
    generalize (costT ts pr k).1 = t1 at *
    generalize (costT ts pr k).2 = t2 at *
    generalize (gm ts k).1.toNat = y at *
    refine Nat.eq_of_mul_eq_mul_right (Nat.mul_pos hSp hp2) ?_
    have e1 : t1 * x * y * (b * t2) = (t1 * (b * y)) * (t2 * x) := by ac_rfl
    rw [e1, hr, hd]
    have e2 : a * t2 * D = a * D * t2 := by ac_rfl
    rw [e2, hS]
    ac_rfl

theorem sumTo_mul (c : Int) (f : Nat → Int) (n : Nat) : sumTo (fun k => c * f k) n = c * sumTo f n := by
  induction n with
  | zero => show (0 : Int) = c * 0; omega
  | succ n ih => rw [sumTo_succ, sumTo_succ, ih, Int.mul_add]
/-- the parts of one item, weighed -/
theorem weigh_parts {ts : List It} {n i : Nat} (hok : ItOk ts n) (hi : i < n) (r : Int) (C : Nat → Nat) : ∀ j, j ≤ (gm ts i).2.1.length → sumTo (fun q => (C q : Int) * useP (gm ts i).2.1 r q j) n = r * ((sumK (gm ts i).2.1 C j : Nat) : Int) := by
  intro j
  induction j with
  | zero =>
    intro _
    rw [sumTo_zero fun k _ => by show (C k : Int) * 0 = 0; rw [Int.mul_zero]]
    show (0 : Int) = r * ((0 : Nat) : Int)
    rw [Int.natCast_zero, Int.mul_zero]
  | succ j ih =>
    intro hj
    obtain ⟨p1, p2, p3, _⟩ := hok.part hi (j := j) (by omega)
    have e : sumTo (fun q => (C q : Int) * useP (gm ts i).2.1 r q (j + 1)) n = sumTo (fun q => (C q : Int) * useP (gm ts i).2.1 r q j + (if q = ofN (gm ts i).2.1 j then (C (ofN (gm ts i).2.1 j) : Int) * (r * (gp (gm ts i).2.1 j).2) else 0)) n := by
      refine sumTo_congr fun q _ => ?_
      rw [useP_succ, Int.mul_add]
      by_cases e : ofN (gm ts i).2.1 j = q
      · rw [if_pos e, if_pos e.symm, e]
      · rw [if_neg e, if_neg fun h => e h.symm, Int.mul_zero]
    rw [e, sumTo_add, ih (by omega), sumTo_one (fun q => if q = ofN (gm ts i).2.1 j then (C (ofN (gm ts i).2.1 j) : Int) * (r * (gp (gm ts i).2.1 j).2) else 0) n _ (show ofN (gm ts i).2.1 j < n by omega) (fun q _ hne => if_neg hne)]
    simp only [if_true]
    show _ = r * ((sumK (gm ts i).2.1 C j + mnN (gm ts i).2.1 j * C (ofN (gm ts i).2.1 j) : Nat) : Int)
    have e2 : ((mnN (gm ts i).2.1 j : Nat) : Int) = (gp (gm ts i).2.1 j).2 := by unfold mnN; omega
    rw [Int.natCast_add, Int.natCast_mul, e2, Int.mul_add]
    congr 1
    rw [Int.mul_comm, Int.mul_assoc]
theorem plN_bW {ts : List It} {n : Nat} (h : ItOk ts n) {W : Int} {want stock : List Int} (hw : ∀ k, k < n → 0 ≤ gi want k ∧ gi want k ≤ W) (hs : ∀ k, k < n → 0 ≤ gi stock k) :
    ∀ d, d ≤ n → (∀ q, q < n → 0 ≤ (plN ts want stock n d).1 q ∧ (plN ts want stock n d).1 q ≤ W * 7 ^ d) := by
  intro d
  induction d with
  | zero => intro _ q hq; have := hw q hq; show 0 ≤ gi want q ∧ gi want q ≤ W * 1; omega
  | succ d ih =>
    intro hd q hq
    have i1 := ih (by omega) q hq
    have i2 := ih (by omega) (n - 1 - d) (by omega)
    have hsk := hs (n - 1 - d) (by omega)
    obtain ⟨r0, r1⟩ := runOf_b (lacks := (plN ts want stock n d).1 (n - 1 - d) - gi stock (n - 1 - d)) (h.rm (k := n - 1 - d) (by omega)).1
    have hp : (0 : Int) ≤ W * 7 ^ d := Int.le_trans i1.1 i1.2
    have r2 : runOf ((plN ts want stock n d).1 (n - 1 - d) - gi stock (n - 1 - d)) (rmI ts (n - 1 - d)) ≤ W * 7 ^ d := by
      by_cases e : 0 < (plN ts want stock n d).1 (n - 1 - d) - gi stock (n - 1 - d)
      · have := r1 e; omega
      · unfold runOf; rw [if_neg e]; exact hp
    have u := useP_once h (show n - 1 - d < n by omega) r0 r2 q _ (Nat.le_refl _)
    have e : W * 7 ^ (d + 1) = W * 7 ^ d + (W * 7 ^ d) * 6 := by rw [Int.pow_succ, ← Int.mul_assoc]; omega
    show 0 ≤ (plN ts want stock n d).1 q + _ ∧ (plN ts want stock n d).1 q + _ ≤ _
    rw [e]
    omega
theorem runs_b7 {ts : List It} {n : Nat} (hl : ts.length = n) (hn : n ≤ 6) (h : ItOk ts n) {want stock : List Int} (hw : ∀ k, k < n → 0 ≤ gi want k ∧ gi want k ≤ 7) (hs : ∀ k, k < n → 0 ≤ gi stock k) {k : Nat} (hk : k < n) :
    0 ≤ gi (runsL ts want stock) k ∧ gi (runsL ts want stock) k ≤ 117649 := by
  obtain ⟨d, hd, rfl⟩ : ∃ d, d < n ∧ k = n - 1 - d := ⟨n - 1 - k, by omega, by omega⟩
  rw [(least_left hl h want stock hd).1]
  obtain ⟨r0, r1⟩ := runOf_b (lacks := (plN ts want stock n d).1 (n - 1 - d) - gi stock (n - 1 - d)) (h.rm (k := n - 1 - d) (by omega)).1
  have b := (plN_bW h hw hs d (by omega) (n - 1 - d) (by omega))
  have hsk := hs (n - 1 - d) (by omega)
  have p : ∀ d : Nat, d < 6 → (7 : Int) * 7 ^ d ≤ 117649 := by decide
  have p := p d (by omega)
  refine ⟨r0, ?_⟩
  by_cases e : 0 < (plN ts want stock n d).1 (n - 1 - d) - gi stock (n - 1 - d)
  · have := r1 e; omega
  · unfold runOf; rw [if_neg e]; decide
/-- some units of one item -/
def wantO (n i : Nat) (v : Int) : List Int := (List.replicate n 0).set i v
def noneL (n : Nat) : List Int := List.replicate n 0
theorem gi_none (n k : Nat) : gi (noneL n) k = 0 := by
  unfold gi noneL
  rw [List.getD_eq_getElem?_getD, List.getElem?_replicate]
  split <;> rfl
theorem gi_wantO {n i : Nat} (hi : i < n) (v : Int) (k : Nat) : gi (wantO n i v) k = if k = i then v else 0 := by
  unfold wantO
  rw [gi_set1 (by rw [List.length_replicate]; exact hi)]
  split
  · rfl
  · exact gi_none n k
theorem unit_cheap {ts : List It} {pr : List Int} {n i : Nat} (hl : ts.length = n) (h : pricesL ts pr = true) (hi : i < n) {v : Int} (h0 : 0 ≤ v) (h7 : v ≤ 7) :
    planArgsL ts (wantO n i v) (noneL n) = true ∧ 0 ≤ planCostL ts pr (runsL ts (wantO n i v) (noneL n)) ∧ planCostL ts pr (runsL ts (wantO n i v) (noneL n)) ≤ 14117880 ∧
    v * ((costT ts pr i).1 : Int) ≤ planCostL ts pr (runsL ts (wantO n i v) (noneL n)) * ((costT ts pr i).2 : Int) := by
  obtain ⟨h1, hpl, hp⟩ := prices_facts h
  obtain ⟨hn6, hok⟩ := items_facts hl h1
  have hok : ItOk ts n := hok
  rw [hl] at hpl hp
  have hwl : (wantO n i v).length = n := by unfold wantO; simp
  have hsl : (noneL n).length = n := by unfold noneL; simp
  have hw : ∀ k, k < n → 0 ≤ gi (wantO n i v) k ∧ gi (wantO n i v) k ≤ 7 := fun k _ => by rw [gi_wantO hi]; split <;> omega
  have ha : planArgsL ts (wantO n i v) (noneL n) = true := by
    unfold planArgsL
    rw [h1, hl, amounts_of hwl (fun k hk => by have := hw k hk; omega), amounts_of hsl (fun k hk => by rw [gi_none]; decide)]; rfl
  have hr := fun k (hk : k < n) => runs_b7 (stock := noneL n) hl hn6 hok hw (fun k _ => by rw [gi_none]; decide) hk
  have hL := fun k (hk : k < n) => (least_at hl ha (k := k) hk).2.1
  have hLf := fun k (hk : k < n) => leftL_at (ts := ts) (wantO n i v) (noneL n) (runsL ts (wantO n i v) (noneL n)) (k := k) (by omega)
  have hrl : (runsL ts (wantO n i v) (noneL n)).length = n := by rw [runsL_len, hl]
  generalize runsL ts (wantO n i v) (noneL n) = rs at *
  have hcb : ∀ k, k < n → 0 ≤ costAt ts pr rs k ∧ costAt ts pr rs k ≤ 2352980 := fun k hk => by
    have q1 := hp k hk
    have q2 := hr k hk
    unfold costAt
    split
    · have h3 : 0 ≤ gi rs k * gi pr k := Int.mul_nonneg q2.1 q1.1
      have h4 : gi rs k * gi pr k ≤ 117649 * 20 := Int.mul_le_mul q2.2 q1.2 q1.1 (by decide)
      omega
    · omega
  have hPC : planCostL ts pr rs = sumTo (costAt ts pr rs) n := by
    unfold planCostL
    rw [h, hl, amounts_of hrl (fun k hk => by have := hr k hk; omega), Bool.true_and, if_pos rfl]
  rw [hPC]
  have hb := sumTo_bound hcb
  refine ⟨ha, hb.1, by omega, ?_⟩
  obtain ⟨D, C, hD, hC⟩ := unit_D hn6 hok hp
  have key : v * (C i : Int) ≤ (D : Int) * sumTo (costAt ts pr rs) n := by
    -- what is left, weighed, is not less than nothing
    have w0 : 0 ≤ sumTo (fun q => (C q : Int) * gi (leftL ts (wantO n i v) (noneL n) rs) q) n := by
      have := sumTo_le1 (f := fun _ => 0) (g := fun q => (C q : Int) * gi (leftL ts (wantO n i v) (noneL n) rs) q) (n := n) fun q hq => Int.mul_nonneg (by omega) (hL q hq)
      rwa [sumTo_zero (f := fun _ => 0) (fun _ _ => rfl)] at this
    have w1 : sumTo (fun q => (C q : Int) * useA ts rs q n) n = sumTo (fun k => gi rs k * ((sumK (gm ts k).2.1 C (gm ts k).2.1.length : Nat) : Int)) n := by
      have e : sumTo (fun q => (C q : Int) * useA ts rs q n) n = sumTo (fun q => sumTo (fun k => (C q : Int) * useP (gm ts k).2.1 (gi rs k) q (gm ts k).2.1.length) n) n := by
        refine sumTo_congr fun q _ => ?_
        rw [sumTo_mul]; rfl
      rw [e, sumTo_swap]
      exact sumTo_congr fun k hk => weigh_parts hok hk _ C _ (Nat.le_refl _)
    have w2 : sumTo (fun q => (C q : Int) * gi (leftL ts (wantO n i v) (noneL n) rs) q) n + sumTo (fun q => (C q : Int) * (if q = i then v else 0)) n + sumTo (fun q => (C q : Int) * useA ts rs q n) n = sumTo (fun q => (C q : Int) * (gi rs q * rmI ts q)) n := by
      rw [← sumTo_add, ← sumTo_add]
      refine sumTo_congr fun q hq => ?_
      rw [hLf q hq, hl]
      unfold baseP
      rw [gi_none, gi_wantO hi, ← Int.mul_add, ← Int.mul_add]
      congr 1
      omega
    have w3 : sumTo (fun q => (C q : Int) * (if q = i then v else 0)) n = v * (C i : Int) := by
      rw [sumTo_one (fun q => (C q : Int) * (if q = i then v else 0)) n i hi (fun q _ hne => by simp only [if_neg hne, Int.mul_zero])]
      simp only [if_true]
      rw [Int.mul_comm]
    have w4 : sumTo (fun q => (C q : Int) * (gi rs q * rmI ts q)) n = sumTo (fun k => gi rs k * ((sumK (gm ts k).2.1 C (gm ts k).2.1.length : Nat) : Int)) n + (D : Int) * sumTo (costAt ts pr rs) n := by
      rw [← sumTo_mul, ← sumTo_add]
      refine sumTo_congr fun k hk => ?_
      obtain ⟨_, c2, c3⟩ := hC k hk
      have f := hok k hk
      unfold costAt rmI
      by_cases e : (gm ts k).1 = 0
      · rw [if_pos e, if_pos e, c2 e]
        have z : (gm ts k).2.1.length = 0 := by have := f.2.2.1; omega
        have q1 := (hp k hk).1
        rw [z]
        show ((gi pr k).toNat * D : Nat) * (gi rs k * 1) = gi rs k * ((0 : Nat) : Int) + D * (gi rs k * gi pr k)
        rw [Int.natCast_mul, Int.natCast_zero, Int.mul_zero, Int.mul_one, Int.zero_add, show (((gi pr k).toNat : Nat) : Int) = gi pr k by omega]
        ac_rfl
      · rw [if_neg e, if_neg e, Int.mul_zero, Int.add_zero, ← c3 (by omega), Int.natCast_mul, show (((gm ts k).1.toNat : Nat) : Int) = (gm ts k).1 by omega]
        ac_rfl
    rw [w3, w1, w4] at w2
    omega
  have c1 := (hC i hi).1
  have c1' : ((costT ts pr i).1 : Int) * (D : Int) = (C i : Int) * ((costT ts pr i).2 : Int) := by rw [← Int.natCast_mul, ← Int.natCast_mul, c1]
  have hd0 : (0 : Int) ≤ ((costT ts pr i).2 : Int) := by omega
  have hDi : (0 : Int) < (D : Int) := by omega
  generalize ((costT ts pr i).1 : Int) = t1 at *
  generalize ((costT ts pr i).2 : Int) = t2 at *
  generalize sumTo (costAt ts pr rs) n = PC at *
  refine Int.le_of_mul_le_mul_right (a := (D : Int)) ?_ hDi
  have k2 := Int.mul_le_mul_of_nonneg_right key hd0
  have e1 : v * t1 * (D : Int) = v * (C i : Int) * t2 := by rw [Int.mul_assoc, c1', Int.mul_assoc]
  have e2 : PC * t2 * (D : Int) = (D : Int) * PC * t2 := by ac_rfl
  rw [e1, e2]; exact k2



theorem BlkI.set1' {w : World} {g : Nat} {xs : List Int} (h : BlkI w g xs) (i : Nat) (u : Int) : BlkI (w.setCell ⟨g, i, none⟩ (.int .i64 u)) g (xs.set i u) := by
  have := Blk.set_ h i (.int .i64 u)
  rw [show ((ints xs).toArray.setIfInBounds i (.int .i64 u)) = (ints (xs.set i u)).toArray by rw [List.setIfInBounds_toArray, ints_set1]] at this
  exact this
/-- what the law asks of a unit's cost -/
theorem unit_law {ts : List It} {ps : List Int} {n i : Nat} (hl : ts.length = n) (h : pricesL ts ps = true) (hi : i < n) :
    (0 < (costT ts ps i).2 ∧ (costT ts ps i).2 ≤ 470184984576) ∧ ((gm ts i).1 = 0 → 0 ≤ gi ps i ∧ (costT ts ps i).1 = (gi ps i).toNat ∧ (costT ts ps i).2 = 1) ∧ 0 ≤ (gm ts i).1 := by
  obtain ⟨h1, hpl, hp⟩ := prices_facts h
  obtain ⟨hn6, hok⟩ := items_facts hl h1
  rw [hl] at hp
  obtain ⟨c1, c2, _⟩ := cost_ok hn6 hok hp i hi
  have d := (dB_m i (by omega)).2
  refine ⟨⟨c1, by omega⟩, fun hz => ?_, (hok i hi).1.1⟩
  have z : (gm ts i).2.1.length = 0 := by have := (hok i hi).2.2.1; omega
  have e := costT_eq (ts := ts) (pr := ps) (k := i) (fun j hj => absurd hj (by omega))
  refine ⟨(hp i hi).1, ?_⟩
  rw [e]
  unfold cost1
  rw [if_pos hz]
  exact ⟨rfl, rfl⟩

theorem ints_repl' (n : Nat) : (ints (List.replicate n 0)).toArray = madeCells #[.int .i64 0] n := by
  apply Array.ext
  · simp [ints, madeCells]
  · intro i h1 h2
    simp [ints, madeCells, Nat.mod_one]
theorem made_BlkI (w : World) (n : Nat) : BlkI (w.alloc (.cells (madeCells #[.int .i64 0] n) 3)) w.heap.size (noneL n) := by
  have := Blk.new w 3 (madeCells #[.int .i64 0] n)
  unfold BlkI noneL
  rw [ints_repl']
  exact this
theorem BlkI.cell_' {w : World} {g : Nat} {xs : List Int} (h : BlkI w g xs) {j : Nat} (hj : j < xs.length) : w.cell? ⟨g, j, none⟩ = some (.int .i64 (gi xs j)) := by
  have := Blk.cell h j
  rw [List.getElem?_toArray, ints_getElem? hj] at this
  exact this
theorem unit_mul {c v : Int} {N D : Nat} (hc0 : 0 ≤ c) (hc1 : c ≤ 14117880) (hD : D ≤ 470184984576) (hv : 0 ≤ v) (h : v * (N : Int) ≤ c * (D : Int)) : ∃ P Q : Int, c = c ∧ IntKind.i64.wrap (c * (D : Int)) = P ∧ IntKind.i64.wrap (v * (N : Int)) = Q ∧ ¬ P < Q := by
  have h1 : c * (D : Int) ≤ 14117880 * 470184984576 := Int.mul_le_mul hc1 (by omega) (by omega) (by omega)
  have h2 : 0 ≤ c * (D : Int) := Int.mul_nonneg hc0 (by omega)
  have h3 : 0 ≤ v * (N : Int) := Int.mul_nonneg hv (by omega)
  refine ⟨c * (D : Int), v * (N : Int), rfl, IntWalk.i64_in _ ⟨by omega, by omega⟩, IntWalk.i64_in _ ⟨by omega, by omega⟩, by omega⟩
set_option maxRecDepth 20000 in
set_option maxHeartbeats 16000000 in
theorem law_FnUnitCost (w : World) (A : Option Addr) (n c : Nat) (h : RB w A n) (hc : n ≤ c) :
    Calls Tryd.prog 6 #[.slice A n c] w fun e w' => e = .returned (.bool true) ∧ Le w w' := by
  have hm := h.max
  by_cases hn : 1048576 < n
  · go_enter Tryd.func6, Tryd.ntmps6
    go_wp2
    go_ret
    exact ⟨rfl, Le.refl _⟩
  · have HD := Lib.hid (drawUnitCost_any A n c w h hc)
    clear h
    go_enter Tryd.func6, Tryd.ntmps6
    go_wp2_with fail
    refine HD.out.mono ?_; rintro e w1 ⟨gv, cap, n2, ts, gx, cx, m, ps, ix, rfl, d1, x1, hix, l1⟩
    have hk7 := d1.small
    have hm8 := x1.small
    have HR := Lib.hid d1.rm
    have HX := Lib.hid x1.ri
    have L1 := Lib.hid l1
    have HK := Lib.hid d1.len
    clear d1 x1 l1
    have HI := Lib.hid (implUnit_any _ _ _ _ cap cx _ _ ix _ HR.out HX.out (by omega))
    have HSP := Lib.hid (fun w' (q : Le w1 w') => specUnit_any _ _ _ _ cap cx _ _ ix w' (HR.out.le q) (HX.out.le q) (by omega))
    obtain ⟨V, hV⟩ : ∃ V, unitOkL ts ps ix = V := ⟨_, rfl⟩
    obtain ⟨N, hN⟩ : ∃ N, (unitL ts ps ix).1 = N := ⟨_, rfl⟩
    obtain ⟨D, hD⟩ : ∃ D, (unitL ts ps ix).2 = D := ⟨_, rfl⟩
    rw [hV, hN, hD] at HI HSP
    have HV := Lib.hid hV
    have HN := Lib.hid hN
    have HDD := Lib.hid hD
    clear hV hN hD
    have hbb : (V != V) = false := by simp
    have hNN : ((N : Int) != (N : Int)) = false := by simp
    have hDD : ((D : Int) != (D : Int)) = false := by simp
    go_wp2_with fail
    refine HI.out.mono ?_; rintro e w2 ⟨rfl, l2⟩
    obtain ⟨b1, hb1⟩ : ∃ b1, w2.heap.size = b1 := ⟨_, rfl⟩
    have k2 := Blk.new w2 49 #[.int .i64 (N : Int), .int .i64 (D : Int)]
    have l3 := (Le.refl w2).alloc (.cells #[.int .i64 (N : Int), .int .i64 (D : Int)] 49)
    rw [hb1] at k2
    obtain ⟨w3, hw3⟩ : ∃ w3, w2.alloc (.cells #[.int .i64 (N : Int), .int .i64 (D : Int)] 49) = w3 := ⟨_, rfl⟩
    rw [hw3] at k2 l3
    have L3 := Lib.hid (l2.trans l3)
    have K3 := Lib.hid k2
    clear k2 l2 l3
    go_wp2_with fail
    refine (HSP.out _ L3.out).mono ?_; rintro e w4 ⟨rfl, l4⟩
    clear hw3 hb1
    obtain ⟨b2, hb2⟩ : ∃ b2, w4.heap.size = b2 := ⟨_, rfl⟩
    have k5 := Blk.new w4 49 #[.int .i64 (N : Int), .int .i64 (D : Int)]
    have l5 := (Le.refl w4).alloc (.cells #[.int .i64 (N : Int), .int .i64 (D : Int)] 49)
    rw [hb2] at k5
    obtain ⟨w5, hw5⟩ : ∃ w5, w4.alloc (.cells #[.int .i64 (N : Int), .int .i64 (D : Int)] 49) = w5 := ⟨_, rfl⟩
    rw [hw5] at k5 l5
    have L5 := Lib.hid (L3.out.trans (l4.trans l5))
    have K5 := Lib.hid (K3.out.le (l4.trans l5))
    have a0 := K5.out.cell 0
    have a1 := K5.out.cell 1
    have a2 := k5.cell 0
    have a3 := k5.cell 1
    simp at a0 a1 a2 a3
    clear k5 l4 l5
    cases V
    · have h0 : unitL ts ps ix = (0, 0) := by unfold unitL; rw [HV.out]; rfl
      have hN0 : ((N : Int) == 0) = true := by
        rw [beq_iff_eq, ← HN.out, h0]; rfl
      have hD0 : ((D : Int) == 0) = true := by
        rw [beq_iff_eq, ← HDD.out, h0]; rfl
      clear h0
      go_wp2_with fail
      refine (alive_any _).mono ?_; rintro e w6 ⟨rfl, l6⟩
      go_wp2
      go_ret
      exact ⟨rfl, L1.out.trans (L5.out.trans l6)⟩
    · have hvok := HV.out
      unfold unitOkL at hvok
      simp only [Bool.and_eq_true, decide_eq_true_eq] at hvok
      obtain ⟨hpr, hi0', hi1⟩ := hvok
      obtain ⟨i, rfl⟩ := Int.eq_ofNat_of_zero_le hi0'
      have hin : i < n2 := by rw [HK.out] at hi1; omega
      obtain rfl : n2 = m := by have h1 := (prices_facts hpr).2.1; have h2 := HX.out.len; have h3 := HK.out; omega
      have hul : unitL ts ps (i : Int) = costT ts ps i := by unfold unitL; rw [if_pos HV.out, Int.toNat_natCast]
      rw [hul] at HN HDD
      have hU := unit_law HK.out hpr hin
      rw [HDD.out, HN.out] at hU
      obtain ⟨⟨hD1, hD2⟩, hUZ, hUY⟩ := hU
      have HCH := Lib.hid (show ∀ v : Int, 0 ≤ v → v ≤ 7 → planArgsL ts (wantO n2 i v) (noneL n2) = true ∧ ∃ C P Q : Int, planCostL ts ps (runsL ts (wantO n2 i v) (noneL n2)) = C ∧ IntKind.i64.wrap (C * (D : Int)) = P ∧ IntKind.i64.wrap (v * (N : Int)) = Q ∧ ¬ P < Q from fun v h0 h7 => by
        have h := unit_cheap HK.out hpr hin h0 h7
        rw [HDD.out, HN.out] at h
        exact ⟨h.1, _, unit_mul h.2.1 h.2.2.1 hD2 h0 h.2.2.2⟩)
      have HUZ := Lib.hid hUZ
      have HIN := Lib.hid hin
      have hii : (i : Int) < (n2 : Int) := by omega
      have hn7 := hk7
      clear hpr hul hi0' hi1 hUZ
      go_wp2
      clear a0 a1 a2 a3 hw5 hb2
      go_loopw [10] (fun u wr => ∃ v : Int, u = .int .i64 v ∧ (v = 1 ∨ v = 4 ∨ v = 7 ∨ v = 10) ∧ Le w5 wr) (fun u _ => (13 - intOf u).toNat)
      case atStart => exact ⟨1, rfl, .inl rfl, Le.refl _⟩
      case round =>
        obtain ⟨v, rfl, hv, hle⟩ := hrel
        have LW := Lib.hid hle
        clear hle
        by_cases hv7 : v ≤ 7
        · have hv0 : 1 ≤ v := by omega
          obtain ⟨hpa, C, P, Q, hC, hP, hQ, hPQ⟩ := HCH.out v (by omega) hv7
          have hmk := run_mk (P := Tryd.prog) 40 3 (.int .i64 0) 1 8 Tryd.underlying40 infoIntD n2 (by omega) (by omega)
          obtain ⟨wa, hwa⟩ : ∃ wa, wr.alloc (.cells (madeCells #[.int .i64 0] n2) 3) = wa := ⟨_, rfl⟩
          have ka : BlkI wa wr.heap.size (noneL n2) := by
            rw [← hwa]; exact made_BlkI wr n2
          have la : Le wr wa := by rw [← hwa]; exact (Le.refl wr).alloc _
          obtain ⟨ba, hba⟩ : ∃ b, wr.heap.size = b := ⟨_, rfl⟩
          rw [hba] at ka
          have ca : wa.cell? ⟨ba, i, none⟩ = some (.int .i64 0) := by
            have := ka.cell_' (j := i) (by unfold noneL; simp; exact HIN.out)
            rwa [gi_none] at this
          have fa := Blk.frozen ka i
          have KA := Lib.hid (show BlkI (wa.setCell ⟨ba, i, none⟩ (.int .i64 v)) ba (wantO n2 i v) from ka.set1' i v)
          have LA := Lib.hid (la.setCell (p := ⟨ba, i, none⟩) (Nat.le_of_eq hba) (.int .i64 v))
          obtain ⟨wb, hwb⟩ : ∃ wb, wa.setCell ⟨ba, i, none⟩ (.int .i64 v) = wb := ⟨_, rfl⟩
          rw [hwb] at KA LA
          obtain ⟨wc, hwc⟩ : ∃ wc, wb.alloc (.cells (madeCells #[.int .i64 0] n2) 3) = wc := ⟨_, rfl⟩
          obtain ⟨bc, hbc⟩ : ∃ b, wb.heap.size = b := ⟨_, rfl⟩
          have KC := Lib.hid (show BlkI wc bc (noneL n2) from by rw [← hwc, ← hbc]; exact made_BlkI wb n2)
          have LC := Lib.hid (show Le wb wc from by rw [← hwc]; exact (Le.refl wb).alloc _)
          have MC := Lib.hid (LW.out.trans (LA.out.trans LC.out))
          have hi' := plan_retN (implLeast_any _ _ _ _ _ _ cap n2 n2 ts (wantO n2 i v) (noneL n2) wc (HR.out.le (L5.out.trans MC.out)) ((KA.out.le LC.out).RI_ (n := n2) (by unfold wantO; simp) (by omega)) (KC.out.RI_ (n := n2) (by unfold noneL; simp) (by omega)))
            (by unfold runsR; rw [if_pos hpa, runsL_len, HK.out]; omega) (by unfold leftR; rw [if_pos hpa, leftL_length, HK.out]; omega)
          have hrr : runsR ts (wantO n2 i v) (noneL n2) = runsL ts (wantO n2 i v) (noneL n2) := by unfold runsR; rw [if_pos hpa]
          have hll : leftR ts (wantO n2 i v) (noneL n2) = leftL ts (wantO n2 i v) (noneL n2) (runsL ts (wantO n2 i v) (noneL n2)) := by unfold leftR; rw [if_pos hpa]
          rw [hpa, hrr, hll, runsL_len, leftL_length, HK.out] at hi'
          obtain ⟨RR, hRR⟩ : ∃ R, runsL ts (wantO n2 i v) (noneL n2) = R := ⟨_, rfl⟩
          rw [hRR] at hi' hC
          have HI' := Lib.hid hi'
          have HC := Lib.hid hC
          clear hi' hrr hll hRR hC hpa ka la
          go_wp2_with fail
          refine HI'.out.mono ?_; rintro e wd ⟨A7, c7, B7, d7, rfl, r7, s7, ld⟩
          have le1 := (Le.refl wd).alloc (.cells #[.slice A7 n2 c7, .slice B7 n2 d7] 42)
          have ke := Blk.new wd 42 #[.slice A7 n2 c7, .slice B7 n2 d7]
          clear hwc hbc hwb hwa hba ca fa hmk
          obtain ⟨we, hwe⟩ : ∃ we, wd.alloc (.cells #[.slice A7 n2 c7, .slice B7 n2 d7] 42) = we := ⟨_, rfl⟩
          rw [hwe] at le1 ke
          obtain ⟨be, hbe⟩ : ∃ b, wd.heap.size = b := ⟨_, rfl⟩
          rw [hbe] at ke
          have ME := Lib.hid (MC.out.trans (ld.trans le1))
          have KE := Lib.hid (fun w' (q : Le we w') => ke.le q)
          have R7 := Lib.hid (fun w' (q : Le we w') => (r7.le le1).le q)
          have S7 := Lib.hid (fun w' (q : Le we w') => (s7.le le1).le q)
          have KF := Lib.hid (K5.out.le ME.out)
          have hPQ' : decide (P < Q) = false := decide_eq_false (by omega)
          clear ld le1 ke r7 s7 hPQ
          go_wp2
          clear hwe hbe
          have hS : Le we we.drew := (Le.refl we).drew
          refine wp_region_held_drew (S := fun w' => Le we w') (by kernel_rfl) hS (fun _ => ?_)
          refine wpAnyH_takeL (i := 0) (v := ?_) rfl (by kernel_rfl) (by kernel_rfl) (by kernel_rfl) (fun _ _ _ h => h) (Or.inl ⟨by rfl, ?_⟩) (by assumption) ?_
          rotate_left
          · (intro w' hSw; (try dsimp only at hSw); go_simp; all_goals with_reducible rfl)
          repeat (first | simp only [Act.put] | simp only [List.setIfInBounds_toArray] | simp only [List.set_cons_succ] | simp only [List.set_cons_zero])
          refine wpAnyH_takeL (i := 1) (v := ?_) rfl (by kernel_rfl) (by kernel_rfl) (by kernel_rfl) (fun _ _ _ h => h) (Or.inl ⟨by rfl, ?_⟩) (by assumption) ?_
          rotate_left
          · (intro w' hSw; (try dsimp only at hSw); go_simp; all_goals with_reducible rfl)
          repeat (first | simp only [Act.put] | simp only [List.setIfInBounds_toArray] | simp only [List.set_cons_succ] | simp only [List.set_cons_zero])
          refine wpAnyH_takeL (i := 2) (v := ?_) rfl (by kernel_rfl) (by kernel_rfl) (by kernel_rfl) (fun _ _ _ h => h) (Or.inl ⟨by rfl, ?_⟩) (by assumption) ?_
          rotate_left
          · (intro w' hSw; (try dsimp only at hSw); go_simp; all_goals with_reducible rfl)
          repeat (first | simp only [Act.put] | simp only [List.setIfInBounds_toArray] | simp only [List.set_cons_succ] | simp only [List.set_cons_zero])
          refine wpAnyH_takeL (i := 3) (v := ?_) rfl (by kernel_rfl) (by kernel_rfl) (by kernel_rfl) (fun _ _ _ h => h) (Or.inl ⟨by rfl, ?_⟩) (by assumption) ?_
          rotate_left
          · (intro w' hSw; (try dsimp only at hSw); go_simp; all_goals with_reducible rfl)
          repeat (first | simp only [Act.put] | simp only [List.setIfInBounds_toArray] | simp only [List.set_cons_succ] | simp only [List.set_cons_zero])
          refine wpAnyH_takeL (i := 4) (v := ?_) rfl (by kernel_rfl) (by kernel_rfl) (by kernel_rfl) (fun _ _ _ h => h) (Or.inl ⟨by rfl, ?_⟩) (by assumption) ?_
          rotate_left
          · (intro w' hSw; (try dsimp only at hSw); go_simp; all_goals with_reducible rfl)
          repeat (first | simp only [Act.put] | simp only [List.setIfInBounds_toArray] | simp only [List.set_cons_succ] | simp only [List.set_cons_zero])
          refine wpAnyH_takeL (i := 5) (v := ?_) rfl (by kernel_rfl) (by kernel_rfl) (by kernel_rfl) (fun _ _ _ h => h) (Or.inl ⟨by rfl, ?_⟩) (by assumption) ?_
          rotate_left
          · (intro w' hSw; have cX := KE.out _ hSw; have cX0 := cX.cell 0; have cX1 := cX.cell 1; clear cX; simp at cX0 cX1; (try dsimp only at hSw); go_simp; all_goals with_reducible rfl)
          repeat (first | simp only [Act.put] | simp only [List.setIfInBounds_toArray] | simp only [List.set_cons_succ] | simp only [List.set_cons_zero])
          refine wpAnyH_takeL (i := 7) (v := ?_) rfl (by kernel_rfl) (by kernel_rfl) (by kernel_rfl) (fun _ _ _ h => h) (Or.inl ⟨by rfl, ?_⟩) (by assumption) ?_
          rotate_left
          · (intro w' hSw; (try dsimp only at hSw); go_simp; all_goals with_reducible rfl)
          repeat (first | simp only [Act.put] | simp only [List.setIfInBounds_toArray] | simp only [List.set_cons_succ] | simp only [List.set_cons_zero])
          refine wpAnyH_takeL (i := 8) (v := ?_) rfl (by kernel_rfl) (by kernel_rfl) (by kernel_rfl) (fun _ _ _ h => h) (Or.inl ⟨by rfl, ?_⟩) (by assumption) ?_
          rotate_left
          · (intro w' hSw; have cX0 := (KF.out.le hSw).cell 1; simp at cX0; (try dsimp only at hSw); go_simp; all_goals with_reducible rfl)
          repeat (first | simp only [Act.put] | simp only [List.setIfInBounds_toArray] | simp only [List.set_cons_succ] | simp only [List.set_cons_zero])
          refine wpAnyH_takeL (i := 10) (v := ?_) rfl (by kernel_rfl) (by kernel_rfl) (by kernel_rfl) (fun _ _ _ h => h) (Or.inl ⟨by rfl, ?_⟩) (by assumption) ?_
          rotate_left
          · (intro w' hSw; (try dsimp only at hSw); go_simp; all_goals with_reducible rfl)
          repeat (first | simp only [Act.put] | simp only [List.setIfInBounds_toArray] | simp only [List.set_cons_succ] | simp only [List.set_cons_zero])
          refine wpAnyH_takeL (i := 11) (v := ?_) rfl (by kernel_rfl) (by kernel_rfl) (by kernel_rfl) (fun _ _ _ h => h) (Or.inl ⟨by rfl, ?_⟩) (by assumption) ?_
          rotate_left
          · (intro w' hSw; (try dsimp only at hSw); go_simp; all_goals with_reducible rfl)
          repeat (first | simp only [Act.put] | simp only [List.setIfInBounds_toArray] | simp only [List.set_cons_succ] | simp only [List.set_cons_zero])
          refine wpAnyH_takeL (i := 12) (v := ?_) rfl (by kernel_rfl) (by kernel_rfl) (by kernel_rfl) (fun _ _ _ h => h) (Or.inl ⟨by rfl, ?_⟩) (by assumption) ?_
          rotate_left
          · (intro w' hSw; have cX0 := (KF.out.le hSw).cell 0; simp at cX0; (try dsimp only at hSw); go_simp; all_goals with_reducible rfl)
          repeat (first | simp only [Act.put] | simp only [List.setIfInBounds_toArray] | simp only [List.set_cons_succ] | simp only [List.set_cons_zero])
          refine wpAnyH_takeL (i := 13) (v := ?_) rfl (by kernel_rfl) (by kernel_rfl) (by kernel_rfl) (fun _ _ _ h => h) (Or.inl ⟨by rfl, ?_⟩) (by assumption) ?_
          rotate_left
          · (intro w' hSw; (try dsimp only at hSw); go_simp; all_goals with_reducible rfl)
          repeat (first | simp only [Act.put] | simp only [List.setIfInBounds_toArray] | simp only [List.set_cons_succ] | simp only [List.set_cons_zero])
          refine wpAnyH_ready (rs := [6]) (by kernel_rfl) (by simp) ?_
          refine consL (i := 6) rfl (fun K hK => ?_) AllReadyH.nil
          go_simp
          refine (implCost_any _ _ _ _ _ _ _ _ cap cx c7 d7 ts ps RR _ _ (HR.out.le (L5.out.trans (ME.out.trans hS))) (HX.out.le (L5.out.trans (ME.out.trans hS))) (R7.out _ hS) (S7.out _ hS)).mono ?_; rintro e wf ⟨rfl, lf⟩
          rw [HC.out]
          have sf := hS.trans lf
          refine hK.out _ _ sf (fun _ => ?_)
          clear hK K
          repeat (first | simp only [Act.put] | simp only [List.setIfInBounds_toArray] | simp only [List.set_cons_succ] | simp only [List.set_cons_zero])
          refine wpAnyH_takeL (i := 9) (v := ?_) rfl (by kernel_rfl) (by kernel_rfl) (by kernel_rfl) (fun _ _ _ h => h) (Or.inl ⟨by rfl, ?_⟩) (by assumption) ?_
          rotate_left
          · (intro w' hSw; (try dsimp only at hSw); go_simp; all_goals with_reducible rfl)
          repeat (first | simp only [Act.put] | simp only [List.setIfInBounds_toArray] | simp only [List.set_cons_succ] | simp only [List.set_cons_zero])
          refine wpAnyH_takeL (i := 14) (v := ?_) rfl (by kernel_rfl) (by kernel_rfl) (by kernel_rfl) (fun _ _ _ h => h) (Or.inl ⟨by rfl, ?_⟩) (by assumption) ?_
          rotate_left
          · (intro w' hSw; (try dsimp only at hSw); go_simp; all_goals with_reducible rfl)
          repeat (first | simp only [Act.put] | simp only [List.setIfInBounds_toArray] | simp only [List.set_cons_succ] | simp only [List.set_cons_zero])
          refine wpAnyH_takeL (i := 15) (v := ?_) rfl (by kernel_rfl) (by kernel_rfl) (by kernel_rfl) (fun _ _ _ h => h) (Or.inl ⟨by rfl, ?_⟩) (by assumption) ?_
          rotate_left
          · (intro w' hSw; (try dsimp only at hSw); go_simp; all_goals with_reducible rfl)
          repeat (first | simp only [Act.put] | simp only [List.setIfInBounds_toArray] | simp only [List.set_cons_succ] | simp only [List.set_cons_zero])
          refine wpAnyH_done (by kernel_rfl) ?_ _
          clear hP hQ
          go_wp2
          go_roundw
          case rel => exact ⟨v + 3, by go_num, by omega, ME.out.trans sf⟩
          case measure => simp [intOf]; omega
        · have b0 := (K5.out.le LW.out).cell 0
          have b1 := (K5.out.le LW.out).cell 1
          simp at b0 b1
          obtain ⟨adI, BI, mI, dI, eI, j0, _, _, _⟩ := (HR.out.le (L5.out.trans LW.out)).at_ i HIN.out
          injection eI with eI
          subst eI
          rw [addr0] at j0
          obtain ⟨adP, eP, jp⟩ := (HX.out.le (L5.out.trans LW.out)).at_ i HIN.out
          injection eP with eP
          subst eP
          rw [addr0] at jp
          obtain ⟨Y, hY⟩ : ∃ Y, (gm ts i).1 = Y := ⟨_, rfl⟩
          obtain ⟨pp, hpp⟩ : ∃ p, gi ps i = p := ⟨_, rfl⟩
          have huz := HUZ.out
          rw [hY] at j0 hUY huz
          rw [hpp] at jp huz
          have hDd : decide ((1 : Int) ≤ (D : Int)) = true := decide_eq_true (by omega)
          have hNd : decide ((0 : Int) ≤ (N : Int)) = true := decide_eq_true (by omega)
          clear hY hpp
          by_cases hy : Y = 0
          · have hyd : decide (0 < Y) = false := decide_eq_false (by omega)
            obtain ⟨hp0, hN', hD'⟩ := huz hy
            have hNp : ((N : Int) == pp) = true := by rw [beq_iff_eq, hN']; omega
            have hDp : ((D : Int) == 1) = true := by rw [beq_iff_eq, hD']; rfl
            clear huz hN' hD' hy
            go_wp2
            go_quiet (fail)
            go_wp2
            go_ret
            exact ⟨rfl, (L1.out.trans (L5.out.trans LW.out)).drewN _⟩
          · have hyd : decide (0 < Y) = true := decide_eq_true (by omega)
            clear huz
            go_wp2
            go_quiet (fail)
            go_wp2
            go_ret
            exact ⟨rfl, (L1.out.trans (L5.out.trans LW.out)).drewN _⟩
end Go.Proofs.YtoahjfofnaafaaaDoor
