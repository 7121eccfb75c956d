/- Plain: what a plan leaves, the least plan, and what is made. -/
import Derived.Test.YtoahjfofnaafaaaDoorWCostB
namespace Go.Proofs.YtoahjfofnaafaaaDoor
open Go.RowKit

def rmI (ts : List It) (k : Nat) : Int := if (gm ts k).1 = 0 then 1 else (gm ts k).1
/-- what r runs need of item q for the first j parts -/
def useP (ps : List (Int × Int)) (r : Int) (q : Nat) : Nat → Int
  | 0 => 0
  | j + 1 => useP ps r q j + (if ofN ps j = q then r * (gp ps j).2 else 0)
/-- what the runs of the first k items need of item q -/
def useA (ts : List It) (rs : List Int) (q : Nat) (k : Nat) : Int := sumTo (fun i => useP (gm ts i).2.1 (gi rs i) q (gm ts i).2.1.length) k
def baseP (ts : List It) (want stock rs : List Int) (k : Nat) : Int := gi stock k - gi want k + gi rs k * rmI ts k
def leftL (ts : List It) (want stock rs : List Int) : List Int := (List.range ts.length).map fun q => baseP ts want stock rs q - useA ts rs q ts.length
theorem gi_range (n : Nat) (f : Nat → Int) {j : Nat} (h : j < n) : gi ((List.range n).map f) j = f j := by
  unfold gi; rw [List.getD_eq_getElem?_getD, List.getElem?_map, List.getElem?_range h]; rfl
theorem leftL_length (ts : List It) (want stock rs : List Int) : (leftL ts want stock rs).length = ts.length := by simp [leftL]
theorem useP_succ (ps : List (Int × Int)) (r : Int) (q j : Nat) : useP ps r q (j + 1) = useP ps r q j + (if ofN ps j = q then r * (gp ps j).2 else 0) := rfl
theorem useA_succ (ts : List It) (rs : List Int) (q k : Nat) : useA ts rs q (k + 1) = useA ts rs q k + useP (gm ts k).2.1 (gi rs k) q (gm ts k).2.1.length := rfl

def ItOk (ts : List It) (n : Nat) : Prop := ∀ k, k < n → (0 ≤ (gm ts k).1 ∧ (gm ts k).1 ≤ 6) ∧ (gm ts k).2.1.length ≤ 3 ∧ (0 < (gm ts k).1 ↔ 0 < (gm ts k).2.1.length) ∧ (0 ≤ (gm ts k).2.2 ∧ (gm ts k).2.2 ≤ 31) ∧
    ∀ j, j < (gm ts k).2.1.length → (0 ≤ (gp (gm ts k).2.1 j).1 ∧ (gp (gm ts k).2.1 j).1 < k) ∧ (1 ≤ (gp (gm ts k).2.1 j).2 ∧ (gp (gm ts k).2.1 j).2 ≤ 6) ∧ (0 < j → (gp (gm ts k).2.1 (j - 1)).1 < (gp (gm ts k).2.1 j).1)
theorem ItOk.rm {ts : List It} {n k : Nat} (h : ItOk ts n) (hk : k < n) : 1 ≤ rmI ts k ∧ rmI ts k ≤ 6 := by
  have := (h k hk).1
  unfold rmI
  split <;> omega
theorem ItOk.part {ts : List It} {n k j : Nat} (h : ItOk ts n) (hk : k < n) (hj : j < (gm ts k).2.1.length) :
    (gp (gm ts k).2.1 j).1 = ofN (gm ts k).2.1 j ∧ ofN (gm ts k).2.1 j < k ∧ 1 ≤ (gp (gm ts k).2.1 j).2 ∧ (gp (gm ts k).2.1 j).2 ≤ 6 := by
  have := (h k hk).2.2.2.2 j hj
  unfold ofN
  omega
theorem useP_b {ts : List It} {n k : Nat} (h : ItOk ts n) (hk : k < n) {r R : Int} (h0 : 0 ≤ r) (h1 : r ≤ R) (q : Nat) : ∀ j, j ≤ (gm ts k).2.1.length → 0 ≤ useP (gm ts k).2.1 r q j ∧ useP (gm ts k).2.1 r q j ≤ j * (R * 6) := by
  intro j
  induction j with
  | zero => intro _; exact ⟨Int.le_refl _, by show (0 : Int) ≤ _; omega⟩
  | succ j ih =>
    intro hj
    have i1 := ih (by omega)
    obtain ⟨_, _, p1, p2⟩ := h.part hk (j := j) (by omega)
    have m1 : 0 ≤ r * (gp (gm ts k).2.1 j).2 := Int.mul_nonneg h0 (by omega)
    have m2 : r * (gp (gm ts k).2.1 j).2 ≤ R * 6 := Int.mul_le_mul h1 p2 (by omega) (by omega)
    rw [useP_succ]
    have e : ((j + 1 : Nat) : Int) * (R * 6) = j * (R * 6) + R * 6 := by
      rw [Int.natCast_add, Int.add_mul]; simp
    rw [e]
    split <;> omega
theorem useP_3 {ts : List It} {n k : Nat} (h : ItOk ts n) (hk : k < n) {r R : Int} (h0 : 0 ≤ r) (h1 : r ≤ R) (q j : Nat) (hj : j ≤ (gm ts k).2.1.length) : 0 ≤ useP (gm ts k).2.1 r q j ∧ useP (gm ts k).2.1 r q j ≤ 18 * R := by
  have := useP_b h hk h0 h1 q j hj
  have h3 := (h k hk).2.1
  have : (j : Int) * (R * 6) ≤ 3 * (R * 6) := Int.mul_le_mul_of_nonneg_right (by omega) (by omega)
  omega
theorem useP_high {ts : List It} {n k : Nat} (h : ItOk ts n) (hk : k < n) {q : Nat} (hq : k ≤ q) (r : Int) : ∀ j, j ≤ (gm ts k).2.1.length → useP (gm ts k).2.1 r q j = 0 := by
  intro j
  induction j with
  | zero => intro _; rfl
  | succ j ih =>
    intro hj
    have := (h.part hk (j := j) (by omega)).2.1
    rw [useP_succ, ih (by omega), if_neg (by omega)]; rfl
theorem useA_b {ts : List It} {n : Nat} (h : ItOk ts n) {rs : List Int} {R : Int} (hr : ∀ k, k < n → 0 ≤ gi rs k ∧ gi rs k ≤ R) (q : Nat) : ∀ k, k ≤ n → 0 ≤ useA ts rs q k ∧ useA ts rs q k ≤ k * (18 * R) := fun k hk =>
  sumTo_bound fun i hi => useP_3 h (by omega) (hr i (by omega)).1 (hr i (by omega)).2 q _ (Nat.le_refl _)
theorem useA_high {ts : List It} {n : Nat} (h : ItOk ts n) (rs : List Int) {q k : Nat} (hk : k ≤ n) (hq : k ≤ q + 1) : useA ts rs q k = 0 :=
  sumTo_zero fun i hi => useP_high h (by omega) (by omega) _ _ (Nat.le_refl _)
theorem useA_6 {ts : List It} {n : Nat} (h : ItOk ts n) (hn : n ≤ 6) {rs : List Int} {R : Int} (hR : 0 ≤ R) (hr : ∀ k, k < n → 0 ≤ gi rs k ∧ gi rs k ≤ R) (q k : Nat) (hk : k ≤ n) : 0 ≤ useA ts rs q k ∧ useA ts rs q k ≤ 108 * R := by
  have := useA_b h hr q k hk
  have : (k : Int) * (18 * R) ≤ 6 * (18 * R) := Int.mul_le_mul_of_nonneg_right (by omega) (by omega)
  omega
theorem base_b {ts : List It} {n : Nat} (h : ItOk ts n) {want stock rs : List Int} {R : Int} (hw : ∀ k, k < n → 0 ≤ gi want k ∧ gi want k ≤ 50) (hs : ∀ k, k < n → 0 ≤ gi stock k ∧ gi stock k ≤ 50) (hr : ∀ k, k < n → 0 ≤ gi rs k ∧ gi rs k ≤ R) {k : Nat} (hk : k < n) :
    (0 ≤ gi rs k * rmI ts k ∧ gi rs k * rmI ts k ≤ 6 * R) ∧ -50 ≤ baseP ts want stock rs k ∧ baseP ts want stock rs k ≤ 50 + 6 * R := by
  have h1 := hw k hk
  have h2 := hs k hk
  have h3 := hr k hk
  have h4 := h.rm hk
  have m1 : 0 ≤ gi rs k * rmI ts k := Int.mul_nonneg h3.1 (by omega)
  have m2 : gi rs k * rmI ts k ≤ R * 6 := Int.mul_le_mul h3.2 h4.2 (by omega) (by omega)
  unfold baseP
  omega

def planArgsL (ts : List It) (want stock : List Int) : Bool := itemsL ts && amountsOkL want ts.length 50 && amountsOkL stock ts.length 50
def planOkL (ts : List It) (want stock rs ls : List Int) : Bool :=
  planArgsL ts want stock && (amountsOkL rs ts.length 9999999 && decide (ls.length = ts.length) && (List.range ts.length).all fun k => decide (0 ≤ gi (leftL ts want stock rs) k) && decide (gi (leftL ts want stock rs) k = gi ls k))
theorem plan_args {ts : List It} {want stock : List Int} {n : Nat} (hl : ts.length = n) (h : planArgsL ts want stock = true) :
    n ≤ 6 ∧ ItOk ts n ∧ (want.length = n ∧ ∀ k, k < n → 0 ≤ gi want k ∧ gi want k ≤ 50) ∧ (stock.length = n ∧ ∀ k, k < n → 0 ≤ gi stock k ∧ gi stock k ≤ 50) := by
  unfold planArgsL at h
  rw [Bool.and_eq_true, Bool.and_eq_true, hl] at h
  obtain ⟨h1, h2⟩ := items_facts hl h.1.1
  exact ⟨h1, h2, amounts_facts h.1.2, amounts_facts h.2⟩

/-- what is there of item q when the first i items are made -/
def nowP (ts : List It) (stock rs : List Int) (i q : Nat) : Int := gi stock q - useA ts rs q i + (if q < i then gi rs q * rmI ts q else 0)
def makeAt (ts : List It) (stock rs : List Int) (i j : Nat) : Bool := decide (0 ≤ nowP ts stock rs i (ofN (gm ts i).2.1 j) - useP (gm ts i).2.1 (gi rs i) (ofN (gm ts i).2.1 j) (j + 1))
def makeArgsL (ts : List It) (stock rs : List Int) : Bool := itemsL ts && amountsOkL stock ts.length 50 && amountsOkL rs ts.length 9999999
def makeOkL (ts : List It) (stock rs : List Int) : Bool := makeArgsL ts stock rs && (List.range ts.length).all fun i => (List.range (gm ts i).2.1.length).all fun j => makeAt ts stock rs i j
def makeL (ts : List It) (stock rs : List Int) : List Int := if makeOkL ts stock rs = true then (List.range ts.length).map (nowP ts stock rs ts.length) else []
theorem nowP_succ (ts : List It) (stock rs : List Int) (i q : Nat) :
    nowP ts stock rs (i + 1) q = (nowP ts stock rs i q - useP (gm ts i).2.1 (gi rs i) q (gm ts i).2.1.length) + (if q = i then gi rs i * rmI ts i else 0) := by
  unfold nowP
  rw [useA_succ]
  by_cases e : q = i
  · subst e
    rw [if_pos (by omega), if_neg (by omega), if_pos rfl]
    omega
  · rw [if_neg e]
    by_cases e2 : q < i
    · rw [if_pos (by omega), if_pos e2]; omega
    · rw [if_neg (by omega), if_neg e2]; omega
theorem nowP_b {ts : List It} {n : Nat} (h : ItOk ts n) (hn : n ≤ 6) {stock rs : List Int} (hs : ∀ k, k < n → 0 ≤ gi stock k ∧ gi stock k ≤ 50) {m : Nat} (hm : m ≤ n) (hr : ∀ k, k < m → 0 ≤ gi rs k ∧ gi rs k ≤ 9999999) {i q : Nat} (hi : i ≤ m) (hq : q < n) :
    -1079999892 ≤ nowP ts stock rs i q ∧ nowP ts stock rs i q ≤ 60000044 := by
  have h1 := hs q hq
  have h2 := useA_6 (rs := rs) (R := 9999999) (n := m) (fun k hk => h k (by omega)) (by omega) (by decide) hr q i hi
  unfold nowP
  split
  · rename_i hqi
    have h3 := hr q (by omega)
    have h4 := h.rm hq
    have m1 : 0 ≤ gi rs q * rmI ts q := Int.mul_nonneg h3.1 (by omega)
    have m2 : gi rs q * rmI ts q ≤ 9999999 * 6 := Int.mul_le_mul h3.2 h4.2 (by omega) (by omega)
    omega
  · omega

/-- the least plan: what is needed, and the runs, when the last d items are planned -/
def runOf (lacks one : Int) : Int := if 0 < lacks then (lacks + one - 1) / one else 0
def plN (ts : List It) (want stock : List Int) (n : Nat) : Nat → (Nat → Int) × (Nat → Int)
  | 0 => (gi want, fun _ => 0)
  | d + 1 => (fun q => (plN ts want stock n d).1 q + useP (gm ts (n - 1 - d)).2.1 (runOf ((plN ts want stock n d).1 (n - 1 - d) - gi stock (n - 1 - d)) (rmI ts (n - 1 - d))) q (gm ts (n - 1 - d)).2.1.length,
      fun q => if q = n - 1 - d then runOf ((plN ts want stock n d).1 (n - 1 - d) - gi stock (n - 1 - d)) (rmI ts (n - 1 - d)) else (plN ts want stock n d).2 q)
theorem runOf_b {lacks one : Int} (h1 : 1 ≤ one) : 0 ≤ runOf lacks one ∧ (0 < lacks → runOf lacks one ≤ lacks) := by
  unfold runOf
  split
  · rename_i h
    have h2 : (lacks + one - 1) / one ≤ lacks := by
      refine Int.ediv_le_of_le_mul (by omega) ?_
      have := Int.mul_le_mul_of_nonneg_left h1 (show 0 ≤ lacks - 1 by omega)
      have e : lacks * one = (lacks - 1) * one + one := by rw [Int.sub_mul]; omega
      omega
    exact ⟨Int.ediv_nonneg (by omega) (by omega), fun _ => h2⟩
  · exact ⟨Int.le_refl _, fun h => by omega⟩
theorem useP_once {ts : List It} {n k : Nat} (h : ItOk ts n) (hk : k < n) {r R : Int} (h0 : 0 ≤ r) (h1 : r ≤ R) (q : Nat) : ∀ j, j ≤ (gm ts k).2.1.length → useP (gm ts k).2.1 r q j = 0 ∨ (0 ≤ useP (gm ts k).2.1 r q j ∧ useP (gm ts k).2.1 r q j ≤ R * 6 ∧ q ≤ ofN (gm ts k).2.1 (j - 1)) := by
  intro j
  induction j with
  | zero => intro _; exact .inl rfl
  | succ j ih =>
    intro hj
    obtain ⟨_, _, p1, p2⟩ := h.part hk (j := j) (by omega)
    have asc : 0 < j → ofN (gm ts k).2.1 (j - 1) < ofN (gm ts k).2.1 j := fun hj0 => by
      have a1 := (h.part hk (j := j) (by omega)).1
      have a2 := (h.part hk (j := j - 1) (by omega)).1
      have a3 := ((h k hk).2.2.2.2 j (by omega)).2.2 hj0
      omega
    rw [useP_succ, Nat.add_sub_cancel]
    by_cases e : ofN (gm ts k).2.1 j = q
    · rw [if_pos e]
      have m1 : 0 ≤ r * (gp (gm ts k).2.1 j).2 := Int.mul_nonneg h0 (by omega)
      have m2 : r * (gp (gm ts k).2.1 j).2 ≤ R * 6 := Int.mul_le_mul h1 p2 (by omega) (by omega)
      have z : useP (gm ts k).2.1 r q j = 0 := by
        rcases ih (by omega) with i1 | ⟨_, _, i3⟩
        · exact i1
        · cases j with
          | zero => rfl
          | succ j => have := asc (by omega); omega
      rw [z]
      exact .inr ⟨by omega, by omega, by omega⟩
    · rw [if_neg e, Int.add_zero]
      rcases ih (by omega) with i1 | ⟨i1, i2, i3⟩
      · exact .inl i1
      · cases j with
        | zero => exact .inl rfl
        | succ j => exact .inr ⟨i1, i2, by have := asc (by omega); omega⟩
theorem plN_b {ts : List It} {n : Nat} (h : ItOk ts n) {want stock : List Int} (hw : ∀ k, k < n → 0 ≤ gi want k ∧ gi want k ≤ 50) (hs : ∀ k, k < n → 0 ≤ gi stock k ∧ gi stock k ≤ 50) :
    ∀ d, d ≤ n → (∀ q, q < n → 0 ≤ (plN ts want stock n d).1 q ∧ (plN ts want stock n d).1 q ≤ 50 * 7 ^ d) := by
  intro d
  induction d with
  | zero => intro _ q hq; have := hw q hq; show 0 ≤ gi want q ∧ gi want q ≤ 50 * 1; omega
  | succ d ih =>
    intro hd q hq
    have i1 := ih (by omega) q hq
    have i2 := ih (by omega) (n - 1 - d) (by omega)
    have hsk := hs (n - 1 - d) (by omega)
    obtain ⟨r0, r1⟩ := runOf_b (lacks := (plN ts want stock n d).1 (n - 1 - d) - gi stock (n - 1 - d)) (h.rm (k := n - 1 - d) (by omega)).1
    have hp : (0 : Int) ≤ 50 * 7 ^ d := Int.le_trans i1.1 i1.2
    have r2 : runOf ((plN ts want stock n d).1 (n - 1 - d) - gi stock (n - 1 - d)) (rmI ts (n - 1 - d)) ≤ 50 * 7 ^ d := by
      by_cases e : 0 < (plN ts want stock n d).1 (n - 1 - d) - gi stock (n - 1 - d)
      · have := r1 e; omega
      · unfold runOf; rw [if_neg e]; exact hp
    have u := useP_once h (show n - 1 - d < n by omega) r0 r2 q _ (Nat.le_refl _)
    have e : (50 : Int) * 7 ^ (d + 1) = 50 * 7 ^ d + (50 * 7 ^ d) * 6 := by rw [Int.pow_succ]; omega
    show 0 ≤ (plN ts want stock n d).1 q + _ ∧ (plN ts want stock n d).1 q + _ ≤ _
    rw [e]
    omega
/-- the runs of the least plan -/
def runsL (ts : List It) (want stock : List Int) : List Int := (List.range ts.length).map (plN ts want stock ts.length ts.length).2
theorem useP_zero (ps : List (Int × Int)) (q : Nat) : ∀ j, useP ps 0 q j = 0 := by
  intro j
  induction j with
  | zero => rfl
  | succ j ih => rw [useP_succ, ih]; split <;> simp
theorem plN_1 (ts : List It) (want stock : List Int) (n d q : Nat) : (plN ts want stock n (d + 1)).1 q = (plN ts want stock n d).1 q + useP (gm ts (n - 1 - d)).2.1 (runOf ((plN ts want stock n d).1 (n - 1 - d) - gi stock (n - 1 - d)) (rmI ts (n - 1 - d))) q (gm ts (n - 1 - d)).2.1.length := rfl
theorem plN_2 (ts : List It) (want stock : List Int) (n d q : Nat) : (plN ts want stock n (d + 1)).2 q = if q = n - 1 - d then runOf ((plN ts want stock n d).1 (n - 1 - d) - gi stock (n - 1 - d)) (rmI ts (n - 1 - d)) else (plN ts want stock n d).2 q := rfl
theorem plN_not (ts : List It) (want stock : List Int) {n : Nat} : ∀ d, d ≤ n → ∀ q, q < n - d → (plN ts want stock n d).2 q = 0 := by
  intro d
  induction d with
  | zero => intro _ q _; rfl
  | succ d ih => intro hd q hq; rw [plN_2, if_neg (by omega)]; exact ih (by omega) q (by omega)
theorem plN_sum (ts : List It) (want stock : List Int) {n : Nat} : ∀ d, d ≤ n → ∀ q, (plN ts want stock n d).1 q = gi want q + sumTo (fun k => useP (gm ts k).2.1 ((plN ts want stock n d).2 k) q (gm ts k).2.1.length) n := by
  intro d
  induction d with
  | zero =>
    intro _ q
    have e : sumTo (fun k => useP (gm ts k).2.1 ((plN ts want stock n 0).2 k) q (gm ts k).2.1.length) n = 0 := sumTo_zero fun k _ => useP_zero (gm ts k).2.1 q _
    rw [e]
    show gi want q = gi want q + 0
    omega
  | succ d ih =>
    intro hd q
    have e : sumTo (fun k => useP (gm ts k).2.1 ((plN ts want stock n (d + 1)).2 k) q (gm ts k).2.1.length) n =
        sumTo (fun k => useP (gm ts k).2.1 ((plN ts want stock n d).2 k) q (gm ts k).2.1.length + if k = n - 1 - d then useP (gm ts (n - 1 - d)).2.1 (runOf ((plN ts want stock n d).1 (n - 1 - d) - gi stock (n - 1 - d)) (rmI ts (n - 1 - d))) q (gm ts (n - 1 - d)).2.1.length else 0) n := by
      refine sumTo_congr fun k _ => ?_
      simp only [plN_2]
      by_cases hk : k = n - 1 - d
      · rw [if_pos hk, if_pos hk, plN_not ts want stock d (by omega) k (by omega), useP_zero, hk]; omega
      · rw [if_neg hk, if_neg hk]; omega
    rw [e, sumTo_add, sumTo_one (fun k => if k = n - 1 - d then _ else 0) n (n - 1 - d) (by omega) (fun k _ hne => if_neg hne), plN_1, ih (by omega) q]
    simp only [if_true]
    omega
theorem plN_high {ts : List It} {n : Nat} (h : ItOk ts n) (want stock : List Int) {d : Nat} (hd : d < n) {q : Nat} (hq : n - 1 - d ≤ q) : ∀ e, d + e ≤ n → (plN ts want stock n (d + e)).1 q = (plN ts want stock n d).1 q := by
  intro e
  induction e with
  | zero => intro _; rfl
  | succ e ih =>
    intro he
    rw [show d + (e + 1) = d + e + 1 by omega, plN_1, ih (by omega), useP_high h (by omega) (by omega) _ _ (Nat.le_refl _)]
    omega
theorem plN_run (ts : List It) (want stock : List Int) {n d : Nat} (hd : d < n) : ∀ e, d + 1 + e ≤ n → (plN ts want stock n (d + 1 + e)).2 (n - 1 - d) = runOf ((plN ts want stock n d).1 (n - 1 - d) - gi stock (n - 1 - d)) (rmI ts (n - 1 - d)) := by
  intro e
  induction e with
  | zero => intro _; rw [Nat.add_zero, plN_2, if_pos rfl]
  | succ e ih => intro he; rw [show d + 1 + (e + 1) = d + 1 + e + 1 by omega, plN_2, if_neg (by omega), ih (by omega)]
/-- what the program calls Left is what the plan leaves -/
theorem least_left {ts : List It} {n : Nat} (hl : ts.length = n) (h : ItOk ts n) (want stock : List Int) {d : Nat} (hd : d < n) :
    gi (runsL ts want stock) (n - 1 - d) = runOf ((plN ts want stock n d).1 (n - 1 - d) - gi stock (n - 1 - d)) (rmI ts (n - 1 - d)) ∧
    gi (leftL ts want stock (runsL ts want stock)) (n - 1 - d) = gi (runsL ts want stock) (n - 1 - d) * rmI ts (n - 1 - d) - ((plN ts want stock n d).1 (n - 1 - d) - gi stock (n - 1 - d)) := by
  have e1 : ∀ k, k < n → gi (runsL ts want stock) k = (plN ts want stock n n).2 k := fun k hk => by
    unfold runsL; rw [hl, gi_range n _ hk]
  have e2 : (plN ts want stock n n).2 (n - 1 - d) = runOf ((plN ts want stock n d).1 (n - 1 - d) - gi stock (n - 1 - d)) (rmI ts (n - 1 - d)) := by
    have := plN_run ts want stock hd (n - 1 - d) (by omega)
    rwa [show d + 1 + (n - 1 - d) = n by omega] at this
  have e3 : (plN ts want stock n n).1 (n - 1 - d) = (plN ts want stock n d).1 (n - 1 - d) := by
    have := plN_high h want stock hd (Nat.le_refl _) (n - d) (by omega)
    rwa [show d + (n - d) = n by omega] at this
  refine ⟨by rw [e1 _ (by omega), e2], ?_⟩
  have e4 := plN_sum ts want stock n (Nat.le_refl n) (n - 1 - d)
  have e5 : useA ts (runsL ts want stock) (n - 1 - d) n = sumTo (fun k => useP (gm ts k).2.1 ((plN ts want stock n n).2 k) (n - 1 - d) (gm ts k).2.1.length) n := by
    unfold useA
    exact sumTo_congr fun k hk => by rw [e1 k hk]
  unfold leftL
  rw [hl, gi_range n _ (by omega), e5]
  unfold baseP
  rw [← e3, e4]
  omega
theorem runsL_b {ts : List It} {n : Nat} (hl : ts.length = n) (hn : n ≤ 6) (h : ItOk ts n) {want stock : List Int} (hw : ∀ k, k < n → 0 ≤ gi want k ∧ gi want k ≤ 50) (hs : ∀ k, k < n → 0 ≤ gi stock k ∧ gi stock k ≤ 50) {k : Nat} (hk : k < n) :
    0 ≤ gi (runsL ts want stock) k ∧ gi (runsL ts want stock) k ≤ 840350 := by
  obtain ⟨d, hd, rfl⟩ : ∃ d, d < n ∧ k = n - 1 - d := ⟨n - 1 - k, by omega, by omega⟩
  rw [(least_left hl h want stock hd).1]
  obtain ⟨r0, r1⟩ := runOf_b (lacks := (plN ts want stock n d).1 (n - 1 - d) - gi stock (n - 1 - d)) (h.rm (k := n - 1 - d) (by omega)).1
  have b := (plN_b h hw hs d (by omega) (n - 1 - d) (by omega))
  have hsk := hs (n - 1 - d) (by omega)
  have p : ∀ d : Nat, d < 6 → (50 : Int) * 7 ^ d ≤ 840350 := by decide
  have p := p d (by omega)
  refine ⟨r0, ?_⟩
  by_cases e : 0 < (plN ts want stock n d).1 (n - 1 - d) - gi stock (n - 1 - d)
  · have := r1 e; omega
  · unfold runOf; rw [if_neg e]; decide
end Go.Proofs.YtoahjfofnaafaaaDoor
