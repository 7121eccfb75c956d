/- Plain laws: sums, and that an order goes through all of a list once. -/
import Derived.Test.YtoahjfofnaafaaaDoorKit
namespace Go.Proofs.YtoahjfofnaafaaaDoor

def sumTo (f : Nat → Int) : Nat → Int
  | 0 => 0
  | k + 1 => sumTo f k + f k
theorem sumTo_succ (f : Nat → Int) (k : Nat) : sumTo f (k + 1) = sumTo f k + f k := rfl
theorem sumTo_congr {f g : Nat → Int} {n : Nat} (h : ∀ k, k < n → f k = g k) : sumTo f n = sumTo g n := by
  induction n with
  | zero => rfl
  | succ n ih => rw [sumTo_succ, sumTo_succ, ih (fun k hk => h k (by omega)), h n (by omega)]
theorem sumTo_add (f g : Nat → Int) (n : Nat) : sumTo (fun k => f k + g k) n = sumTo f n + sumTo g n := by
  induction n with
  | zero => rfl
  | succ n ih => rw [sumTo_succ, sumTo_succ, sumTo_succ, ih]; omega
theorem sumTo_const (c : Int) (n : Nat) : sumTo (fun _ => c) n = n * c := by
  induction n with
  | zero => simp [sumTo]
  | succ n ih => rw [sumTo_succ, ih, show ((n + 1 : Nat) : Int) = n + 1 by omega, Int.add_mul]; omega
theorem sumTo_zero {f : Nat → Int} {n : Nat} (h : ∀ k, k < n → f k = 0) : sumTo f n = 0 := by
  rw [sumTo_congr h, sumTo_const]; simp
theorem sumTo_bound {f : Nat → Int} {c : Int} {n : Nat} (h : ∀ k, k < n → 0 ≤ f k ∧ f k ≤ c) : 0 ≤ sumTo f n ∧ sumTo f n ≤ n * c := by
  induction n with
  | zero => simp [sumTo]
  | succ n ih =>
    have h1 := ih (fun k hk => h k (by omega))
    have h2 := h n (by omega)
    rw [sumTo_succ, show ((n + 1 : Nat) : Int) = n + 1 by omega, Int.add_mul]
    omega
theorem sumTo_swap (g : Nat → Nat → Int) (n m : Nat) : sumTo (fun k => sumTo (fun v => g k v) m) n = sumTo (fun v => sumTo (fun k => g k v) n) m := by
  induction n with
  | zero => simp only [sumTo]; exact (sumTo_zero fun _ _ => rfl).symm
  | succ n ih => rw [sumTo_succ, ih, ← sumTo_add]; rfl
/-- only one place is not zero -/
theorem sumTo_one (f : Nat → Int) (n j : Nat) (hj : j < n) (h : ∀ k, k < n → k ≠ j → f k = 0) : sumTo f n = f j := by
  induction n with
  | zero => omega
  | succ n ih =>
    rw [sumTo_succ]
    by_cases e : j = n
    · subst e
      rw [sumTo_zero fun k hk => h k (by omega) (by omega)]; omega
    · rw [ih (by omega) fun k hk hne => h k (by omega) hne, h n (by omega) (fun e' => e e'.symm)]; omega
theorem ones_of_sum {c : Nat → Int} {n : Nat} (h : ∀ v, v < n → c v ≤ 1) (hs : sumTo c n = n) : ∀ v, v < n → c v = 1 := by
  induction n with
  | zero => intro v hv; omega
  | succ n ih =>
    have hb : ∀ m, (∀ v, v < m → c v ≤ 1) → sumTo c m ≤ m := by
      intro m
      induction m with
      | zero => intro _; simp [sumTo]
      | succ m ihm =>
        intro hh
        have h1 := ihm fun v hv => hh v (by omega)
        have h2 := hh m (by omega)
        rw [sumTo_succ]; omega
    rw [sumTo_succ] at hs
    have h1 := hb n fun v hv => h v (by omega)
    have h2 := h n (by omega)
    intro v hv
    by_cases e : v = n
    · subst e; omega
    · exact ih (fun v hv => h v (by omega)) (by omega) v (by omega)

theorem perm_sum (f : Nat → Int) (ord : Nat → Nat) (n : Nat) (hlt : ∀ k, k < n → ord k < n) (hinj : ∀ j k, j < n → k < n → ord j = ord k → j = k) :
    sumTo (fun k => f (ord k)) n = sumTo f n := by
  have ha : sumTo (fun k => f (ord k)) n = sumTo (fun k => sumTo (fun v => if ord k = v then f v else 0) n) n := by
    refine sumTo_congr fun k hk => ?_
    rw [sumTo_one _ n (ord k) (hlt k hk) fun v _ hne => if_neg fun e => hne e.symm]
    rw [if_pos rfl]
  rw [ha, sumTo_swap]
  have hcnt : ∀ v, v < n → sumTo (fun k => if ord k = v then (1 : Int) else 0) n ≤ 1 := by
    intro v hv
    by_cases hex : ∃ j, j < n ∧ ord j = v
    · obtain ⟨j, hj, hjv⟩ := hex
      rw [sumTo_one _ n j hj fun k hk hne => if_neg fun e => hne (hinj k j hk hj (e.trans hjv.symm))]
      rw [if_pos hjv]; omega
    · rw [sumTo_zero fun k hk => if_neg fun e => hex ⟨k, hk, e⟩]; omega
  have hsum : sumTo (fun v => sumTo (fun k => if ord k = v then (1 : Int) else 0) n) n = n := by
    rw [← sumTo_swap (fun k v => if ord k = v then (1 : Int) else 0)]
    rw [sumTo_congr (g := fun _ => 1) fun k hk => ?_, sumTo_const]
    · simp
    · rw [sumTo_one _ n (ord k) (hlt k hk) fun v _ hne => if_neg fun e => hne e.symm]
      rw [if_pos rfl]
  have hones := ones_of_sum hcnt hsum
  refine sumTo_congr fun v hv => ?_
  have h1 := hones v hv
  have h2 : sumTo (fun k => if ord k = v then f v else 0) n = sumTo (fun k => if ord k = v then (1 : Int) else 0) n * f v := by
    generalize n = m
    induction m with
    | zero => simp [sumTo]
    | succ m ih => rw [sumTo_succ, sumTo_succ, ih, Int.add_mul]; split <;> simp
  rw [h2, h1]; omega

/-- what is left to wait, seen from both ends -/
theorem waits_eq (s : Nat → Int) (n : Nat) : sumTo (fun j => sumTo s n - sumTo s (j + 1)) n = sumTo (fun k => (k : Int) * s k) n := by
  induction n with
  | zero => rfl
  | succ n ih =>
    rw [sumTo_succ, sumTo_succ (fun k => (k : Int) * s k), ← ih]
    have : sumTo (fun j => sumTo s (n + 1) - sumTo s (j + 1)) n = sumTo (fun j => sumTo s n - sumTo s (j + 1)) n + n * s n := by
      rw [← sumTo_const (s n) n, ← sumTo_add]
      refine sumTo_congr fun k _ => ?_
      rw [sumTo_succ s n]; omega
    rw [this]; omega

end Go.Proofs.YtoahjfofnaafaaaDoor
