/- Plain: fractions in lowest terms, and what a unit of an item costs. -/
import Derived.Test.YtoahjfofnaafaaaDoorWUses
namespace Go.Proofs.YtoahjfofnaafaaaDoor
open Go.RowKit

def low (a b : Nat) : Nat × Nat := (a / Nat.gcd a b, b / Nat.gcd a b)
theorem low_eq {a b c d : Nat} (hb : 0 < b) (hd : 0 < d) (h : a * d = c * b) : low a b = low c d := by
  have h1 : low (a * d) (b * d) = low a b := by
    unfold low
    rw [Nat.gcd_mul_right, Nat.mul_div_mul_right _ _ hd, Nat.mul_div_mul_right _ _ hd]
  have h2 : low (c * b) (d * b) = low c d := by
    unfold low
    rw [Nat.gcd_mul_right, Nat.mul_div_mul_right _ _ hb, Nat.mul_div_mul_right _ _ hb]
  rw [← h1, ← h2, h, Nat.mul_comm d b]
theorem low_pos {a b : Nat} (hb : 0 < b) : 0 < (low a b).2 := Nat.div_pos (Nat.gcd_le_right a hb) (Nat.gcd_pos_of_pos_right a hb)
theorem low_le1 (a b : Nat) : (low a b).1 ≤ a := Nat.div_le_self _ _
theorem low_le2 (a b : Nat) : (low a b).2 ≤ b := Nat.div_le_self _ _
theorem low_ratio (a b : Nat) : (low a b).1 * b = a * (low a b).2 := by
  unfold low
  rw [← Nat.mul_div_assoc a (Nat.gcd_dvd_right a b), Nat.div_mul_right_comm (Nat.gcd_dvd_left a b)]
theorem low_bound {a b V : Nat} (h : a ≤ V * b) : (low a b).1 ≤ V * (low a b).2 := by
  unfold low
  rw [← Nat.mul_div_assoc V (Nat.gcd_dvd_right a b)]
  exact Nat.div_le_div_right h
theorem low_one (a : Nat) : low a 1 = (a, 1) := by simp [low]
theorem low_zero : low 0 1 = (0, 1) := by simp [low]

def mnN (ps : List (Int × Int)) (j : Nat) : Nat := (gp ps j).2.toNat
/-- the sum of what the first j parts cost, as it stands -/
def sumC (ps : List (Int × Int)) (T : Nat → Nat × Nat) : Nat → Nat × Nat
  | 0 => (0, 1)
  | j + 1 => ((sumC ps T j).1 * (T (ofN ps j)).2 + mnN ps j * (T (ofN ps j)).1 * (sumC ps T j).2, (sumC ps T j).2 * (T (ofN ps j)).2)
theorem sumC_congr {ps : List (Int × Int)} {T T' : Nat → Nat × Nat} {m : Nat} (h : ∀ j, j < m → T (ofN ps j) = T' (ofN ps j)) : ∀ j, j ≤ m → sumC ps T j = sumC ps T' j := by
  intro j
  induction j with
  | zero => intro _; rfl
  | succ j ih => intro hj; unfold sumC; rw [ih (by omega), h j (by omega)]
theorem sumC_pos {ps : List (Int × Int)} {T : Nat → Nat × Nat} {m : Nat} (h : ∀ j, j < m → 0 < (T (ofN ps j)).2) : ∀ j, j ≤ m → 0 < (sumC ps T j).2 := by
  intro j
  induction j with
  | zero => intro _; exact Nat.one_pos
  | succ j ih => intro hj; exact Nat.mul_pos (ih (by omega)) (h j (by omega))
/-- in lowest terms on the way, too -/
theorem sumC_low {n e c d m : Nat} (he : 0 < e) (hd : 0 < d) :
    low ((low n e).1 * d + m * c * (low n e).2) ((low n e).2 * d) = low (n * d + m * c * e) (e * d) := by
  have hr := low_ratio n e
  have hp := low_pos (a := n) he
  generalize low n e = p at *
  refine low_eq (Nat.mul_pos hp hd) (Nat.mul_pos he hd) ?_
  rw [Nat.add_mul, Nat.add_mul]
  have e1 : p.1 * d * (e * d) = p.1 * e * (d * d) := by ac_rfl
  have e2 : n * d * (p.2 * d) = n * p.2 * (d * d) := by ac_rfl
  have e3 : m * c * p.2 * (e * d) = m * c * e * (p.2 * d) := by ac_rfl
  rw [e1, e2, e3, hr]
theorem low_low {n e y : Nat} (he : 0 < e) (hy : 0 < y) : low (low n e).1 ((low n e).2 * y) = low n (e * y) := by
  have hr := low_ratio n e
  have hp := low_pos (a := n) he
  generalize low n e = p at *
  refine low_eq (Nat.mul_pos hp hy) (Nat.mul_pos he hy) ?_
  have e1 : p.1 * (e * y) = p.1 * e * y := by ac_rfl
  have e2 : n * (p.2 * y) = n * p.2 * y := by ac_rfl
  rw [e1, e2, hr]

def cost1 (ts : List It) (pr : List Int) (T : Nat → Nat × Nat) (k : Nat) : Nat × Nat :=
  if (gm ts k).1 = 0 then ((gi pr k).toNat, 1) else low (sumC (gm ts k).2.1 T (gm ts k).2.1.length).1 ((sumC (gm ts k).2.1 T (gm ts k).2.1.length).2 * (gm ts k).1.toNat)
def costN (ts : List It) (pr : List Int) : Nat → Nat → Nat × Nat
  | 0, _ => (0, 1)
  | k + 1, q => if q = k then cost1 ts pr (costN ts pr k) k else costN ts pr k q
def costT (ts : List It) (pr : List Int) (q : Nat) : Nat × Nat := costN ts pr (q + 1) q
theorem costN_lt (ts : List It) (pr : List Int) {q : Nat} : ∀ k, q < k → costN ts pr k q = costT ts pr q := by
  intro k
  induction k with
  | zero => intro h; omega
  | succ k ih =>
    intro h
    by_cases e : q = k
    · subst e; rfl
    · have : costN ts pr (k + 1) q = costN ts pr k q := by
        show (if q = k then _ else _) = _
        rw [if_neg e]
      rw [this, ih (by omega)]
theorem costT_eq {ts : List It} {pr : List Int} {k : Nat} (h : ∀ j, j < (gm ts k).2.1.length → ofN (gm ts k).2.1 j < k) : costT ts pr k = cost1 ts pr (costT ts pr) k := by
  have e : costT ts pr k = cost1 ts pr (costN ts pr k) k := by
    show (if k = k then _ else _) = _
    rw [if_pos rfl]
  rw [e]
  unfold cost1
  rw [sumC_congr (fun j hj => costN_lt ts pr k (h j hj)) _ (Nat.le_refl _)]

/-- the greatest denominators -/
def dB (k : Nat) : Nat := [1, 6, 36, 1296, 1679616, 470184984576].getD k 0
theorem dB_3 : ∀ k, k < 6 → ∀ c, c < k → ∀ b, b < c → ∀ a, a < b → dB a * dB b * dB c * 6 ≤ dB k := by decide
theorem dB_2 : ∀ k, k < 6 → ∀ c, c < k → ∀ b, b < c → dB b * dB c * 6 ≤ dB k := by decide
theorem dB_1 : ∀ k, k < 6 → ∀ c, c < k → dB c * 6 ≤ dB k := by decide
theorem dB_0 : ∀ k, k < 6 → 0 < k → 6 ≤ dB k := by decide
theorem dB_m : ∀ k, k < 6 → 1 ≤ dB k ∧ dB k ≤ 470184984576 := by decide
theorem vB_m {q k : Nat} (h : q < k) : 20 * 18 ^ q ≤ 20 * 18 ^ (k - 1) := Nat.mul_le_mul_left _ (Nat.pow_le_pow_right (by omega) (by omega))

theorem sum_ok {ps : List (Int × Int)} {T : Nat → Nat × Nat} {k : Nat} (hk6 : k < 6) (hl : ps.length ≤ 3)
    (hf : ∀ j, j < ps.length → ofN ps j < k ∧ mnN ps j ≤ 6 ∧ (0 < j → ofN ps (j - 1) < ofN ps j))
    (hT : ∀ q, q < k → 0 < (T q).2 ∧ (T q).2 ≤ dB q ∧ (T q).1 ≤ 20 * 18 ^ q * (T q).2) :
    ∀ j, j ≤ ps.length → 0 < k → 0 < (sumC ps T j).2 ∧ (sumC ps T j).2 * 6 ≤ dB k ∧ (sumC ps T j).1 ≤ j * (6 * (20 * 18 ^ (k - 1))) * (sumC ps T j).2 := by
  intro j hj hk0
  refine ⟨sumC_pos (m := ps.length) (fun i hi => (hT _ (hf i hi).1).1) j hj, ?_, ?_⟩
  · have h3 : j = 0 ∨ j = 1 ∨ j = 2 ∨ j = 3 := by omega
    rcases h3 with rfl | rfl | rfl | rfl
    · exact dB_0 k hk6 hk0
    · have f0 := hf 0 (by omega)
      have t0 := (hT _ f0.1).2.1
      have := dB_1 k hk6 _ f0.1
      show 1 * (T (ofN ps 0)).2 * 6 ≤ _
      omega
    · have f0 := hf 0 (by omega)
      have f1 := hf 1 (by omega)
      have t0 := (hT _ f0.1).2.1
      have t1 := (hT _ f1.1).2.1
      have := dB_2 k hk6 _ f1.1 _ (f1.2.2 (by omega))
      have m := Nat.mul_le_mul t0 t1
      show 1 * (T (ofN ps 0)).2 * (T (ofN ps 1)).2 * 6 ≤ _
      rw [Nat.one_mul]
      exact Nat.le_trans (Nat.mul_le_mul_right 6 m) this
    · have f0 := hf 0 (by omega)
      have f1 := hf 1 (by omega)
      have f2 := hf 2 (by omega)
      have t0 := (hT _ f0.1).2.1
      have t1 := (hT _ f1.1).2.1
      have t2 := (hT _ f2.1).2.1
      have := dB_3 k hk6 _ f2.1 _ (f2.2.2 (by omega)) _ (f1.2.2 (by omega))
      have m := Nat.mul_le_mul (Nat.mul_le_mul t0 t1) t2
      show 1 * (T (ofN ps 0)).2 * (T (ofN ps 1)).2 * (T (ofN ps 2)).2 * 6 ≤ _
      rw [Nat.one_mul]
      exact Nat.le_trans (Nat.mul_le_mul_right 6 m) this
  · induction j with
    | zero => exact Nat.zero_le _
    | succ j ih =>
      have ih := ih (by omega)
      obtain ⟨f1, f2, _⟩ := hf j (by omega)
      obtain ⟨_, _, t3⟩ := hT _ f1
      have t4 : (T (ofN ps j)).1 ≤ 20 * 18 ^ (k - 1) * (T (ofN ps j)).2 := Nat.le_trans t3 (Nat.mul_le_mul_right _ (vB_m f1))
      show (sumC ps T j).1 * (T (ofN ps j)).2 + mnN ps j * (T (ofN ps j)).1 * (sumC ps T j).2 ≤ (j + 1) * (6 * (20 * 18 ^ (k - 1))) * ((sumC ps T j).2 * (T (ofN ps j)).2)
      generalize 20 * 18 ^ (k - 1) = V at *
      generalize (sumC ps T j).1 = n at *
      generalize (sumC ps T j).2 = e at *
      generalize (T (ofN ps j)).1 = c at *
      generalize (T (ofN ps j)).2 = d at *
      generalize mnN ps j = m at *
      have h1 : n * d ≤ j * (6 * V) * e * d := Nat.mul_le_mul_right _ ih
      have h2 : m * c * e ≤ 6 * (V * d) * e := Nat.mul_le_mul_right _ (Nat.mul_le_mul f2 t4)
      have e1 : (j + 1) * (6 * V) * (e * d) = j * (6 * V) * e * d + 6 * (V * d) * e := by
        rw [Nat.add_mul, Nat.one_mul, Nat.add_mul]
        have q1 : j * (6 * V) * (e * d) = j * (6 * V) * e * d := by ac_rfl
        have q2 : 6 * V * (e * d) = 6 * (V * d) * e := by ac_rfl
        rw [q1, q2]
      rw [e1]
      exact Nat.add_le_add h1 h2

theorem parts_nat {ts : List It} {n : Nat} (hf : ∀ k, k < n → (0 ≤ (gm ts k).1 ∧ (gm ts k).1 ≤ 6) ∧ (gm ts k).2.1.length ≤ 3 ∧ (0 < (gm ts k).1 ↔ 0 < (gm ts k).2.1.length) ∧ (0 ≤ (gm ts k).2.2 ∧ (gm ts k).2.2 ≤ 31) ∧
    ∀ j, j < (gm ts k).2.1.length → (0 ≤ (gp (gm ts k).2.1 j).1 ∧ (gp (gm ts k).2.1 j).1 < k) ∧ (1 ≤ (gp (gm ts k).2.1 j).2 ∧ (gp (gm ts k).2.1 j).2 ≤ 6) ∧ (0 < j → (gp (gm ts k).2.1 (j - 1)).1 < (gp (gm ts k).2.1 j).1))
    {k : Nat} (hk : k < n) : ∀ j, j < (gm ts k).2.1.length → ofN (gm ts k).2.1 j < k ∧ mnN (gm ts k).2.1 j ≤ 6 ∧ (0 < j → ofN (gm ts k).2.1 (j - 1) < ofN (gm ts k).2.1 j) := by
  intro j hj
  have h1 := (hf k hk).2.2.2.2 j hj
  unfold ofN mnN
  refine ⟨by omega, by omega, fun h0 => ?_⟩
  have h2 := h1.2.2 h0
  have h3 := (hf k hk).2.2.2.2 (j - 1) (by omega)
  omega

theorem cost_ok {ts : List It} {pr : List Int} {n : Nat} (hn6 : n ≤ 6) (hf : ∀ k, k < n → (0 ≤ (gm ts k).1 ∧ (gm ts k).1 ≤ 6) ∧ (gm ts k).2.1.length ≤ 3 ∧ (0 < (gm ts k).1 ↔ 0 < (gm ts k).2.1.length) ∧ (0 ≤ (gm ts k).2.2 ∧ (gm ts k).2.2 ≤ 31) ∧
    ∀ j, j < (gm ts k).2.1.length → (0 ≤ (gp (gm ts k).2.1 j).1 ∧ (gp (gm ts k).2.1 j).1 < k) ∧ (1 ≤ (gp (gm ts k).2.1 j).2 ∧ (gp (gm ts k).2.1 j).2 ≤ 6) ∧ (0 < j → (gp (gm ts k).2.1 (j - 1)).1 < (gp (gm ts k).2.1 j).1))
    (hp : ∀ k, k < n → 0 ≤ gi pr k ∧ gi pr k ≤ 20) : ∀ k, k < n → 0 < (costT ts pr k).2 ∧ (costT ts pr k).2 ≤ dB k ∧ (costT ts pr k).1 ≤ 20 * 18 ^ k * (costT ts pr k).2 := by
  intro k
  induction k using Nat.strongRecOn with
  | ind k ih =>
    intro hk
    have hpn := parts_nat hf hk
    rw [costT_eq fun j hj => (hpn j hj).1]
    have hy := hf k hk
    unfold cost1
    split
    · have := hp k hk
      have h2 := (dB_m k (by omega)).1
      have h3 : 1 ≤ 18 ^ k := Nat.pos_of_ne_zero (by simp)
      refine ⟨Nat.one_pos, h2, ?_⟩
      show (gi pr k).toNat ≤ 20 * 18 ^ k * 1
      omega
    · rename_i hy0
      have hy1 : 0 < (gm ts k).1 := by omega
      have hl1 := hy.2.2.1.1 hy1
      have hk0 : 0 < k := by have := (hpn 0 hl1).1; omega
      obtain ⟨s1, s2, s3⟩ := sum_ok (T := costT ts pr) (by omega) hy.2.1 hpn (fun q hq => ih q hq (by omega)) _ (Nat.le_refl _) hk0
      have hy6 : (gm ts k).1.toNat ≤ 6 := by omega
      have hy7 : 0 < (gm ts k).1.toNat := by omega
      generalize (gm ts k).1.toNat = y at *
      have hl3 := hy.2.1
      generalize hS : sumC (gm ts k).2.1 (costT ts pr) (gm ts k).2.1.length = S at *
      generalize (gm ts k).2.1.length = l at *
      refine ⟨low_pos (Nat.mul_pos s1 hy7), Nat.le_trans (low_le2 _ _) (Nat.le_trans (Nat.mul_le_mul_left _ hy6) s2), low_bound ?_⟩
      have q1 : l * (6 * (20 * 18 ^ (k - 1))) ≤ 20 * 18 ^ k := by
        obtain ⟨i, rfl⟩ : ∃ i, k = i + 1 := ⟨k - 1, by omega⟩
        rw [Nat.add_sub_cancel, Nat.pow_succ]
        have := Nat.mul_le_mul_right (6 * (20 * 18 ^ i)) hl3
        omega
      refine Nat.le_trans s3 (Nat.le_trans (Nat.mul_le_mul_right _ q1) (Nat.mul_le_mul_left _ ?_))
      exact Nat.le_mul_of_pos_right _ hy7
end Go.Proofs.YtoahjfofnaafaaaDoor
