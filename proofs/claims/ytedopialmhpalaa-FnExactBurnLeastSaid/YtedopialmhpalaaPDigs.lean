/- Plain laws on digits: the lists of places of all spans, in the order in which both sides go through them. -/
import Derived.Test.YtedopialmhpalaaKit
namespace Go.Proofs.Ytedopialmhpalaa

/-- the n digits of t to a base, the lowest first -/
def digs (b : Nat) : Nat → Nat → List Int
  | _, 0 => []
  | t, n + 1 => ((t % b : Nat) : Int) :: digs b (t / b) n
theorem digs_length (b t n : Nat) : (digs b t n).length = n := by
  induction n generalizing t with
  | zero => rfl
  | succ n ih => simp [digs, ih]
theorem digs_zero (b n : Nat) : digs b 0 n = List.replicate n 0 := by
  induction n with
  | zero => rfl
  | succ n ih => simp [digs, ih, List.replicate_succ]
theorem digs_lt {b : Nat} (hb : 0 < b) (t n : Nat) : ∀ x ∈ digs b t n, 0 ≤ x ∧ x < b := by
  induction n generalizing t with
  | zero => intro x hx; cases hx
  | succ n ih =>
    intro x hx
    rcases List.mem_cons.1 hx with rfl | hx
    · have := Nat.mod_lt t hb; omega
    · exact ih _ x hx

/-- the next list: whether there is one, and which -/
def inc (b : Nat) : List Int → List Int × Bool
  | [] => ([], false)
  | d :: ds => if d + 1 < (b : Int) then ((d + 1) :: ds, true) else (0 :: (inc b ds).1, (inc b ds).2)
theorem inc_digs (b : Nat) (hb : 1 ≤ b) (hb3 : b ≤ 3) (n t : Nat) (ht : t < b ^ n) : (inc b (digs b t n)).2 = decide (t + 1 < b ^ n) ∧ (t + 1 < b ^ n → (inc b (digs b t n)).1 = digs b (t + 1) n) := by
  induction n generalizing t with
  | zero =>
    simp at ht; subst ht
    simp [digs, inc]
  | succ n ih =>
    rw [Nat.pow_succ] at ht ⊢
    generalize hp : b ^ n = p at *
    have hdiv : t / b < p := Nat.div_lt_of_lt_mul (by rwa [Nat.mul_comm])
    obtain ⟨i1, i2⟩ := ih (t / b) hdiv
    simp only [digs, inc]
    by_cases hc : t % b + 1 < b
    · have hc' : ((t % b : Nat) : Int) + 1 < (b : Int) := by omega
      have e1 : (t + 1) % b = t % b + 1 := by
        rcases (show b = 1 ∨ b = 2 ∨ b = 3 by omega) with rfl | rfl | rfl <;> omega
      have e2 : (t + 1) / b = t / b := by
        rcases (show b = 1 ∨ b = 2 ∨ b = 3 by omega) with rfl | rfl | rfl <;> omega
      have e3 : t + 1 < p * b := by
        rcases (show b = 1 ∨ b = 2 ∨ b = 3 by omega) with rfl | rfl | rfl <;> omega
      rw [if_pos hc']
      refine ⟨by simp [e3], fun _ => ?_⟩
      rw [e1, e2]
      simp
    · have hc' : ¬ ((t % b : Nat) : Int) + 1 < (b : Int) := by omega
      have e1 : (t + 1) % b = 0 := by
        rcases (show b = 1 ∨ b = 2 ∨ b = 3 by omega) with rfl | rfl | rfl <;> omega
      have e2 : (t + 1) / b = t / b + 1 := by
        rcases (show b = 1 ∨ b = 2 ∨ b = 3 by omega) with rfl | rfl | rfl <;> omega
      have e3 : t + 1 < p * b ↔ t / b + 1 < p := by
        rcases (show b = 1 ∨ b = 2 ∨ b = 3 by omega) with rfl | rfl | rfl <;> omega
      rw [if_neg hc']
      refine ⟨by simp only [i1]; rw [decide_eq_decide]; exact e3.symm, fun h => ?_⟩
      rw [e1, e2, i2 (e3.1 h)]
      rfl

/-- the step seen from the place at which it stops -/
theorem inc_at (b : Nat) : ∀ (xs : List Int) (k : Nat), k < xs.length → (∀ j, j < k → (b : Int) ≤ gi xs j + 1) → gi xs k + 1 < (b : Int) →
    (inc b xs).2 = true ∧ (inc b xs).1.length = xs.length ∧ ∀ j, j < xs.length → gi (inc b xs).1 j = if j < k then 0 else if j = k then gi xs k + 1 else gi xs j
  | [], k, h, _, _ => absurd h (by simp)
  | d :: ds, 0, _, _, h2 => by
    have : d + 1 < (b : Int) := by simpa [gi] using h2
    simp only [inc, if_pos this]
    refine ⟨by simp, by simp, fun j hj => ?_⟩
    cases j with
    | zero => simp [gi]
    | succ j => simp [gi]
  | d :: ds, k + 1, hk, h1, h2 => by
    have hd : ¬ d + 1 < (b : Int) := by have := h1 0 (by omega); simp [gi] at this; omega
    have ih := inc_at b ds k (by simpa using hk) (fun j hj => by have := h1 (j + 1) (by omega); rwa [gi_cons_succ] at this) (by rwa [gi_cons_succ] at h2)
    simp only [inc, if_neg hd]
    refine ⟨ih.1, by simp [ih.2.1], fun j hj => ?_⟩
    cases j with
    | zero => simp [gi]
    | succ j =>
      rw [gi_cons_succ, ih.2.2 j (by simpa using hj), gi_cons_succ, gi_cons_succ]
      rcases Nat.lt_trichotomy j k with h | h | h
      · rw [if_pos (show j < k from h), if_pos (show j + 1 < k + 1 by omega)]
      · rw [if_neg (show ¬ j < k by omega), if_pos (show j = k from h), if_neg (show ¬ j + 1 < k + 1 by omega), if_pos (show j + 1 = k + 1 by omega)]
      · rw [if_neg (show ¬ j < k by omega), if_neg (show ¬ j = k by omega), if_neg (show ¬ j + 1 < k + 1 by omega), if_neg (show ¬ j + 1 = k + 1 by omega)]
theorem inc_none (b : Nat) : ∀ (xs : List Int), (∀ j, j < xs.length → (b : Int) ≤ gi xs j + 1) → (inc b xs).2 = false
  | [], _ => rfl
  | d :: ds, h => by
    have hd : ¬ d + 1 < (b : Int) := by have := h 0 (by simp); simp [gi] at this; omega
    simp only [inc, if_neg hd]
    exact inc_none b ds fun j hj => by have := h (j + 1) (by simpa using hj); rwa [gi_cons_succ] at this

/-- the least of f 0 .. f k -/
def minN (f : Nat → Int) : Nat → Int
  | 0 => f 0
  | k + 1 => min (minN f k) (f (k + 1))
theorem minN_succ (f : Nat → Int) (k : Nat) : minN f (k + 1) = min (minN f k) (f (k + 1)) := rfl
theorem minN_nonneg {f : Nat → Int} (h : ∀ t, 0 ≤ f t) (k : Nat) : 0 ≤ minN f k := by
  induction k with
  | zero => exact h 0
  | succ k ih => rw [minN_succ]; have := h (k + 1); omega

end Go.Proofs.Ytedopialmhpalaa
