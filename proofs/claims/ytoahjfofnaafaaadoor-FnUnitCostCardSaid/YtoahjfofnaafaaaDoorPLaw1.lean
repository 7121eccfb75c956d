/- Plain laws of chapter 1: items, prices, and the sets of what is used and of allergens. -/
import Derived.Test.YtoahjfofnaafaaaDoorWFree
import Derived.Test.YtoahjfofnaafaaaDoorPPlan
namespace Go.Proofs.YtoahjfofnaafaaaDoor
open Go.RowKit

theorem gm_app_lt {xs ys : List It} {k : Nat} (h : k < xs.length) : gm (xs ++ ys) k = gm xs k := by
  unfold gm; rw [List.getD_eq_getElem?_getD, List.getD_eq_getElem?_getD, List.getElem?_append_left h]
theorem gm_app_at (xs : List It) (x : It) : gm (xs ++ [x]) xs.length = x := by
  unfold gm; simp [List.getD_eq_getElem?_getD]
theorem gm_take {xs : List It} {m k : Nat} (h : k < m) : gm (xs.take m) k = gm xs k := by
  unfold gm; rw [List.getD_eq_getElem?_getD, List.getD_eq_getElem?_getD, List.getElem?_take, if_pos h]
theorem items_take {ts : List It} (h : itemsL ts = true) (m : Nat) : itemsL (ts.take m) = true := by
  unfold itemsL at h ⊢
  rw [Bool.and_eq_true, List.all_eq_true, decide_eq_true_eq] at h ⊢
  refine ⟨by rw [List.length_take]; omega, fun k hk => ?_⟩
  have hk := List.mem_range.1 hk
  rw [List.length_take] at hk
  rw [gm_take (by omega)]
  exact h.2 k (List.mem_range.2 (by omega))
theorem items_wrong (ts : List It) : itemsL (ts ++ [(1, [((ts.length : Int), 1)], 0)]) = false := by
  refine itemsL_f (k := ts.length) (by simp) ?_
  rw [gm_app_at]
  refine itemL_f (k := 0) (Nat.one_pos) ?_
  have e : inB 0 ((ts.length : Int) - 1) (ts.length : Int) = false := by
    rw [← Bool.not_eq_true, inB_t]; omega
  show (inB 0 ((ts.length : Int) - 1) (ts.length : Int) && _ && _) = false
  rw [e]; rfl
theorem items_nil : itemsL [] = true := rfl

/-- the set has the number -/
def hasB (s k : Nat) : Prop := s / 2 ^ k % 2 = 1
theorem hasB_t (s k : Nat) : hasB s k ↔ Nat.testBit s k = true := by
  unfold hasB; rw [Nat.testBit_eq_decide_div_mod_eq, decide_eq_true_eq]
theorem hasB_or (a b k : Nat) : hasB (a ||| b) k ↔ hasB a k ∨ hasB b k := by
  rw [hasB_t, hasB_t, hasB_t, Nat.testBit_or, Bool.or_eq_true]
theorem hasB_and (a b k : Nat) : hasB (a &&& b) k ↔ hasB a k ∧ hasB b k := by
  rw [hasB_t, hasB_t, hasB_t, Nat.testBit_and, Bool.and_eq_true]
theorem hasB_pow (q k : Nat) : hasB (2 ^ q) k ↔ q = k := by
  rw [hasB_t, Nat.testBit_two_pow, decide_eq_true_eq]
theorem hasB_zero (k : Nat) : ¬ hasB 0 k := by unfold hasB; simp
theorem hasB_lt {s k B : Nat} (h : s < 2 ^ B) (hk : B ≤ k) : ¬ hasB s k := by
  have : s / 2 ^ k = 0 := Nat.div_eq_of_lt (Nat.lt_of_lt_of_le h (Nat.pow_le_pow_right (by omega) hk))
  unfold hasB; rw [this]; decide
theorem hasB_none {s B : Nat} (h : s < 2 ^ B) (hn : ∀ k, k < B → ¬ hasB s k) : s = 0 := by
  refine Nat.eq_of_testBit_eq fun k => ?_
  rw [Nat.zero_testBit]
  rcases Nat.lt_or_ge k B with h1 | h1
  · have := hn k h1
    rw [hasB_t] at this
    simpa using this
  · have := hasB_lt h h1
    rw [hasB_t] at this
    simpa using this

theorem pfN_has (ps : List (Int × Int)) (s b : Nat) : ∀ j, hasB (pfN ps s j) b ↔ hasB s b ∨ ∃ t, t < j ∧ ofN ps t = b := by
  intro j
  induction j with
  | zero => exact ⟨.inl, fun h => h.elim id fun ⟨t, h1, _⟩ => absurd h1 (by omega)⟩
  | succ j ih =>
    unfold pfN
    rw [hasB_or, ih, hasB_pow]
    constructor
    · rintro ((h | ⟨t, h1, h2⟩) | h)
      · exact .inl h
      · exact .inr ⟨t, by omega, h2⟩
      · exact .inr ⟨j, by omega, h⟩
    · rintro (h | ⟨t, h1, h2⟩)
      · exact .inl (.inl h)
      · rcases Nat.lt_or_ge t j with h3 | h3
        · exact .inl (.inr ⟨t, h3, h2⟩)
        · obtain rfl : t = j := by omega
          exact .inr h2
theorem uN_has (ts : List It) (i d b : Nat) : hasB (uN ts i (d + 1)) b ↔ hasB (uN ts i d) b ∨ (hasB (uN ts i d) (i - d) ∧ ∃ t, t < (gm ts (i - d)).2.1.length ∧ ofN (gm ts (i - d)).2.1 t = b) := by
  show hasB (if uN ts i d / 2 ^ (i - d) % 2 = 1 then _ else _) b ↔ _
  split
  · rename_i h
    rw [pfN_has]
    exact ⟨fun h2 => h2.elim .inl fun h3 => .inr ⟨h, h3⟩, fun h2 => h2.elim .inl fun h3 => .inr h3.2⟩
  · rename_i h
    exact ⟨.inl, fun h2 => h2.elim id fun h3 => absurd h3.1 h⟩
def Low (ts : List It) (n : Nat) : Prop := ∀ k, k < n → ∀ j, j < (gm ts k).2.1.length → ofN (gm ts k).2.1 j < k
theorem uN_up (ts : List It) (i : Nat) {b d : Nat} : ∀ e, hasB (uN ts i d) b → hasB (uN ts i (d + e)) b := by
  intro e
  induction e with
  | zero => exact id
  | succ e ih => intro h; rw [← Nat.add_assoc, uN_has]; exact .inl (ih h)
theorem uN_still {ts : List It} {n i : Nat} (hL : Low ts n) (hi : i < n) {b d : Nat} (hb : i ≤ b + d) : ∀ e, hasB (uN ts i (d + e)) b → hasB (uN ts i d) b := by
  intro e
  induction e with
  | zero => exact id
  | succ e ih =>
    intro h
    rw [← Nat.add_assoc, uN_has] at h
    rcases h with h | ⟨_, t, h1, h2⟩
    · exact ih h
    · have := hL _ (show i - (d + e) < n by omega) t h1
      omega
/-- what item i uses -/
def usN (ts : List It) (i : Nat) : Nat := uN ts i (i + 1)
theorem usN_self (ts : List It) (i : Nat) : hasB (usN ts i) i := by
  have := uN_up ts i (b := i) (d := 0) (i + 1) ((hasB_pow i i).2 rfl)
  rwa [Nat.zero_add] at this
theorem usN_high {ts : List It} {n i k : Nat} (hL : Low ts n) (hi : i < n) (hk : i < k) : ¬ hasB (usN ts i) k :=
  hasB_lt (uN_ltB hi hL _) hk
theorem usN_closed {ts : List It} {n i k t : Nat} (hL : Low ts n) (hi : i < n) (h : hasB (usN ts i) k) (ht : t < (gm ts k).2.1.length) : hasB (usN ts i) (ofN (gm ts k).2.1 t) := by
  have hki : k ≤ i := Nat.le_of_not_lt fun h2 => usN_high hL hi h2 h
  have h1 := uN_still hL hi (b := k) (d := i - k) (by omega) (k + 1) (by rw [show i - k + (k + 1) = i + 1 by omega]; exact h)
  have h2 : hasB (uN ts i (i - k + 1)) (ofN (gm ts k).2.1 t) := by
    rw [uN_has, show i - (i - k) = k by omega]
    exact .inr ⟨h1, t, ht, rfl⟩
  have h3 := uN_up ts i k h2
  rwa [show i - k + 1 + k = i + 1 by omega] at h3
theorem usN_sub {ts : List It} {n i k j : Nat} (hL : Low ts n) (hi : i < n) (h : hasB (usN ts i) k) (hj : hasB (usN ts k) j) : hasB (usN ts i) j := by
  have all : ∀ d b, hasB (uN ts k d) b → hasB (usN ts i) b := by
    intro d
    induction d with
    | zero => intro b hb; rw [← (hasB_pow k b).1 hb]; exact h
    | succ d ih =>
      intro b hb
      rcases (uN_has ts k d b).1 hb with hb | ⟨h1, t, h2, rfl⟩
      · exact ih b hb
      · exact usN_closed hL hi (ih _ h1) h2
  exact all _ _ hj
theorem mN_has (ts : List It) (s b : Nat) : ∀ j, hasB (mN ts s j) b ↔ ∃ t, t < j ∧ hasB s t ∧ hasB (gm ts t).2.2.toNat b := by
  intro j
  induction j with
  | zero => exact ⟨fun h => absurd h (hasB_zero b), fun ⟨t, h, _⟩ => absurd h (by omega)⟩
  | succ j ih =>
    show hasB (if s / 2 ^ j % 2 = 1 then _ else _) b ↔ _
    split
    · rename_i h
      rw [hasB_or, ih]
      constructor
      · rintro (⟨t, h1, h2⟩ | h2)
        · exact ⟨t, by omega, h2⟩
        · exact ⟨j, by omega, h, h2⟩
      · rintro ⟨t, h1, h2, h3⟩
        rcases Nat.lt_or_ge t j with h4 | h4
        · exact .inl ⟨t, h4, h2, h3⟩
        · obtain rfl : t = j := by omega
          exact .inr h3
    · rename_i h
      rw [ih]
      constructor
      · rintro ⟨t, h1, h2⟩
        exact ⟨t, by omega, h2⟩
      · rintro ⟨t, h1, h2, h3⟩
        rcases Nat.lt_or_ge t j with h4 | h4
        · exact ⟨t, h4, h2, h3⟩
        · obtain rfl : t = j := by omega
          exact absurd h2 h
theorem mkN_sub {ts : List It} {n i k b : Nat} (hL : Low ts n) (hi : i < n) (h : hasB (usN ts i) k) (hb : hasB (mkN ts k) b) : hasB (mkN ts i) b := by
  unfold mkN at hb ⊢
  rw [mN_has] at hb ⊢
  obtain ⟨t, h1, h2, h3⟩ := hb
  have hki : k ≤ i := Nat.le_of_not_lt fun h2 => usN_high hL hi h2 h
  exact ⟨t, by omega, usN_sub hL hi h h2, h3⟩
theorem items_low {ts : List It} {n : Nat} (hl : ts.length = n) (h : itemsL ts = true) : Low ts n := fun k hk j hj => by
  have := ((items_facts hl h).2 k hk).2.2.2.2 j hj
  unfold ofN; omega
/-- the items with all marks away -/
def cleanL (ts : List It) : List It := ts.map fun x => (x.1, x.2.1, 0)
theorem clean_gm (ts : List It) (k : Nat) : gm (cleanL ts) k = ((gm ts k).1, (gm ts k).2.1, 0) := by
  unfold gm cleanL
  rw [List.getD_eq_getElem?_getD, List.getD_eq_getElem?_getD, List.getElem?_map]
  cases ts[k]? <;> rfl
theorem clean_len (ts : List It) : (cleanL ts).length = ts.length := by simp [cleanL]
theorem clean_items {ts : List It} (h : itemsL ts = true) : itemsL (cleanL ts) = true := by
  unfold itemsL at h ⊢
  rw [Bool.and_eq_true, List.all_eq_true, decide_eq_true_eq] at h ⊢
  refine ⟨by rw [clean_len]; exact h.1, fun k hk => ?_⟩
  rw [clean_len] at hk
  have h2 := h.2 k hk
  rw [clean_gm]
  unfold itemL at h2 ⊢
  rw [Bool.and_eq_true, Bool.and_eq_true] at h2 ⊢
  exact ⟨h2.1, h2.2.1, rfl⟩
theorem clean_none (ts : List It) (s : Nat) : ∀ j, mN (cleanL ts) s j = 0 := by
  intro j
  induction j with
  | zero => rfl
  | succ j ih =>
    show (if s / 2 ^ j % 2 = 1 then mN (cleanL ts) s j ||| (gm (cleanL ts) j).2.2.toNat else mN (cleanL ts) s j) = 0
    rw [ih, clean_gm]
    split
    · exact Nat.zero_or _
    · rfl
theorem clean_marks {ts : List It} (h : itemsL ts = true) {i : Nat} (hi : i < ts.length) : marksOfL (cleanL ts) i = 0 := by
  unfold marksOfL
  rw [if_pos ⟨clean_items h, by omega, by rw [clean_len]; omega⟩, clean_none]; rfl

theorem free_mem (ts : List It) (a : Nat) (x : Int) : ∀ n, x ∈ freesTo ts a n ↔ ∃ k, k < n ∧ x = (k : Int) ∧ 0 < (gm ts k).1 ∧ mkN ts k &&& a = 0 := by
  intro n
  induction n with
  | zero => exact ⟨(fun h => by cases h), fun ⟨k, h, _⟩ => absurd h (by omega)⟩
  | succ n ih =>
    unfold freesTo
    split
    · rename_i h
      rw [List.mem_append, ih, List.mem_singleton]
      constructor
      · rintro (⟨k, h1, h2⟩ | rfl)
        · exact ⟨k, by omega, h2⟩
        · exact ⟨n, by omega, rfl, h⟩
      · rintro ⟨k, h1, rfl, h3⟩
        rcases Nat.lt_or_ge k n with h4 | h4
        · exact .inl ⟨k, h4, rfl, h3⟩
        · obtain rfl : k = n := by omega
          exact .inr rfl
    · rename_i h
      rw [ih]
      constructor
      · rintro ⟨k, h1, h2⟩
        exact ⟨k, by omega, h2⟩
      · rintro ⟨k, h1, h2, h3⟩
        rcases Nat.lt_or_ge k n with h4 | h4
        · exact ⟨k, h4, h2, h3⟩
        · obtain rfl : k = n := by omega
          exact absurd h3 h
theorem free_has {ts : List It} {a n k : Nat} (hk : k < n) : (k : Int) ∈ freesTo ts a n ↔ 0 < (gm ts k).1 ∧ mkN ts k &&& a = 0 := by
  rw [free_mem]
  constructor
  · rintro ⟨j, _, h2, h3⟩
    obtain rfl : k = j := by omega
    exact h3
  · intro h; exact ⟨k, hk, rfl, h⟩
theorem free_lt (ts : List It) (a : Nat) : ∀ n, ∀ x ∈ freesTo ts a n, x < (n : Int) := by
  intro n x hx
  obtain ⟨k, h1, rfl, _⟩ := (free_mem ts a x n).1 hx
  omega
theorem gi_app_at (xs : List Int) (x : Int) : gi (xs ++ [x]) xs.length = x := by
  unfold gi; simp [List.getD_eq_getElem?_getD]
theorem gi_app_lt {xs ys : List Int} {k : Nat} (h : k < xs.length) : gi (xs ++ ys) k = gi xs k := by
  unfold gi; rw [List.getD_eq_getElem?_getD, List.getD_eq_getElem?_getD, List.getElem?_append_left h]
theorem free_asc (ts : List It) (a : Nat) : ∀ n i, i + 1 < (freesTo ts a n).length → gi (freesTo ts a n) i < gi (freesTo ts a n) (i + 1) := by
  intro n
  induction n with
  | zero => intro i h; simp [freesTo] at h
  | succ n ih =>
    intro i
    show i + 1 < (if 0 < (gm ts n).1 ∧ mkN ts n &&& a = 0 then freesTo ts a n ++ [(n : Int)] else freesTo ts a n).length → gi (if 0 < (gm ts n).1 ∧ mkN ts n &&& a = 0 then freesTo ts a n ++ [(n : Int)] else freesTo ts a n) i < gi (if 0 < (gm ts n).1 ∧ mkN ts n &&& a = 0 then freesTo ts a n ++ [(n : Int)] else freesTo ts a n) (i + 1)
    split
    · intro h
      rw [List.length_append, List.length_singleton] at h
      by_cases e : i + 1 = (freesTo ts a n).length
      · rw [e, gi_app_at, gi_app_lt (by omega)]
        exact free_lt ts a n _ (gi_mem (by omega))
      · rw [gi_app_lt (by omega), gi_app_lt (by omega)]
        exact ih i (by omega)
    · exact ih i
theorem meet_bits {a b : Nat} (ha : a < 32) : a &&& b = 0 ↔ ∀ t, t < 5 → ¬ (hasB a t ∧ hasB b t) := by
  constructor
  · intro h t _ h2
    have := (hasB_and a b t).2 h2
    rw [h] at this
    exact hasB_zero t this
  · intro h
    refine hasB_none (B := 5) (Nat.lt_of_le_of_lt Nat.and_le_left ha) fun k hk h2 => h k hk ((hasB_and a b k).1 h2)
end Go.Proofs.YtoahjfofnaafaaaDoor
