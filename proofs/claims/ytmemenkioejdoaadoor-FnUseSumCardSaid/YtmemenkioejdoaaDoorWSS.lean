/- Walks on tables ([][]int): szIntSS, toIntSS, eqIntSS. -/
import Derived.Test.YtmemenkioejdoaaDoorWSum
import Derived.StillTailTactics
namespace Go.Proofs.YtmemenkioejdoaaDoor
open Go.RowKit

/-- the k-th row of a table -/
def gl (ts : List (List Int)) (k : Nat) : List Int := ts.getD k []
theorem gl_getElem? {xs : List (List Int)} {k : Nat} (h : k < xs.length) : xs[k]? = some (gl xs k) := by
  unfold gl; rw [List.getD_eq_getElem?_getD, List.getElem?_eq_getElem h]; simp
theorem ext_gl {xs ys : List (List Int)} (hl : xs.length = ys.length) (h : ∀ k, k < xs.length → gl xs k = gl ys k) : xs = ys := by
  apply List.ext_getElem?
  intro k
  by_cases hk : k < xs.length
  · rw [gl_getElem? hk, gl_getElem? (by omega), h k hk]
  · rw [List.getElem?_eq_none (by omega), List.getElem?_eq_none (by omega)]

/-- the slice value '.slice A n c' reads as this table -/
structure RII (w : World) (A : Option Addr) (n : Nat) (ts : List (List Int)) : Prop where
  len : ts.length = n
  max : n ≤ 9223372036854775807
  at_ : ∀ k, k < n → ∃ ad B m c, A = some ad ∧ w.cell? (ad.add k) = some (.slice B m c) ∧ RI w B m (gl ts k)
theorem RII.le {w w' : World} {A : Option Addr} {n : Nat} {ts : List (List Int)} (h : RII w A n ts) (hb : Le w w') : RII w' A n ts :=
  ⟨h.len, h.max, fun k hk => let ⟨ad, B, m, c, e, h1, h2⟩ := h.at_ k hk; ⟨ad, B, m, c, e, hb.cell h1, h2.le hb⟩⟩

/-- how many numbers the first k rows hold together -/
def totL (ts : List (List Int)) (k : Nat) : Int := sumTo (fun j => ((gl ts j).length : Int)) k
theorem totL_succ (ts : List (List Int)) (k : Nat) : totL ts (k + 1) = totL ts k + ((gl ts k).length : Int) := rfl
theorem totL_mono (ts : List (List Int)) {j k : Nat} (h : j ≤ k) : totL ts j ≤ totL ts k := by
  induction k with
  | zero => rw [show j = 0 by omega]; exact Int.le_refl _
  | succ k ih =>
    rcases Nat.lt_or_ge k j with h1 | h1
    · rw [show j = k + 1 by omega]; exact Int.le_refl _
    · have := ih h1; rw [totL_succ]; omega
theorem totL_nonneg (ts : List (List Int)) (k : Nat) : 0 ≤ totL ts k := by
  have := totL_mono ts (Nat.zero_le k); simpa [totL, sumTo] using this
theorem totL_one (ts : List (List Int)) {j k : Nat} (h : j < k) : ((gl ts j).length : Int) ≤ totL ts k := by
  have h1 := totL_mono ts (show j + 1 ≤ k from h)
  have h2 := totL_nonneg ts j
  rw [totL_succ] at h1; omega


theorem infoRow : (Tryd.prog.info? 27).map (fun i => (i.zero, i.size, i.bytes)) = some (some (.slice none 0 0), 1, 24) := by kernel_rfl



end Go.Proofs.YtmemenkioejdoaaDoor
