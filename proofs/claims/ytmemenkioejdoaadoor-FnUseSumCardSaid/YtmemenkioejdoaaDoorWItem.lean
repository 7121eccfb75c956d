/- Walks on slices of items: szItemS, toItemS, eqItemS. -/
import Derived.Test.YtmemenkioejdoaaDoorWPPart
import Derived.Test.YtmemenkioejdoaaDoorWUpP
import Derived.Test.YtmemenkioejdoaaDoorWChg
import Derived.Test.YtmemenkioejdoaaDoorPPerm
namespace Go.Proofs.YtmemenkioejdoaaDoor
open Go.RowKit

abbrev It := Int × List (Int × Int) × Int
/-- the k-th item of a list -/
def gm (ts : List It) (k : Nat) : It := ts.getD k (0, [], 0)
theorem gm_getElem? {xs : List It} {k : Nat} (h : k < xs.length) : xs[k]? = some (gm xs k) := by
  unfold gm; rw [List.getD_eq_getElem?_getD, List.getElem?_eq_getElem h]; simp
theorem gm_mem {xs : List It} {k : Nat} (h : k < xs.length) : gm xs k ∈ xs := List.mem_of_getElem? (gm_getElem? h)
theorem ext_gm {xs ys : List It} (hl : xs.length = ys.length) (h : ∀ k, k < xs.length → gm xs k = gm ys k) : xs = ys := by
  apply List.ext_getElem?
  intro k
  by_cases hk : k < xs.length
  · rw [gm_getElem? hk, gm_getElem? (by omega), h k hk]
  · rw [List.getElem?_eq_none (by omega), List.getElem?_eq_none (by omega)]

/-- the slice value '.slice A n c' reads as these items -/
structure RM (w : World) (A : Option Addr) (n : Nat) (ts : List It) : Prop where
  len : ts.length = n
  max : n ≤ 9223372036854775807
  at_ : ∀ k, k < n → ∃ ad B m c, A = some ad ∧ w.cell? (ad.add (k * 3)) = some (.int .i64 (gm ts k).1) ∧ w.cell? ⟨(ad.add (k * 3)).block, (ad.add (k * 3)).off + 1, none⟩ = some (.slice B m c) ∧ w.cell? ⟨(ad.add (k * 3)).block, (ad.add (k * 3)).off + 2, none⟩ = some (.int .i64 (gm ts k).2.2) ∧ RP w B m (gm ts k).2.1
theorem RM.le {w w' : World} {A : Option Addr} {n : Nat} {ts : List It} (h : RM w A n ts) (hb : Le w w') : RM w' A n ts :=
  ⟨h.len, h.max, fun k hk => let ⟨ad, B, m, c, e, h1, h2, h3, h4⟩ := h.at_ k hk; ⟨ad, B, m, c, e, hb.cell h1, hb.cell h2, hb.cell h3, h4.le hb⟩⟩

/-- how many parts the first k hold together -/
def totM (ts : List It) (k : Nat) : Int := sumTo (fun j => ((gm ts j).2.1.length : Int)) k
theorem totM_succ (ts : List It) (k : Nat) : totM ts (k + 1) = totM ts k + ((gm ts k).2.1.length : Int) := rfl
theorem totM_mono (ts : List It) {j k : Nat} (h : j ≤ k) : totM ts j ≤ totM ts k := by
  induction k with
  | zero => rw [show j = 0 by omega]; exact Int.le_refl _
  | succ k ih =>
    rcases Nat.lt_or_ge k j with h1 | h1
    · rw [show j = k + 1 by omega]; exact Int.le_refl _
    · have := ih h1; rw [totM_succ]; omega
theorem totM_nonneg (ts : List It) (k : Nat) : 0 ≤ totM ts k := by
  have := totM_mono ts (Nat.zero_le k); simpa [totM, sumTo] using this
theorem totM_one (ts : List It) {j k : Nat} (h : j < k) : ((gm ts j).2.1.length : Int) ≤ totM ts k := by
  have h1 := totM_mono ts (show j + 1 ≤ k from h)
  have h2 := totM_nonneg ts j
  rw [totM_succ] at h1; omega

theorem infoItem : (Tryd.prog.info? 40).map (fun i => (i.zero, i.size, i.bytes)) = some (some (.agg #[.int .i64 0, .slice none 0 0, .int .i64 0]), 3, 40) := by kernel_rfl

theorem made_get3 (a b d : Value) (n j : Nat) (hj : j < n) : (madeCells #[a, b, d] n)[j]? = some (if j % 3 = 0 then a else if j % 3 = 1 then b else d) := by
  have h2 : j % 3 < 3 := Nat.mod_lt _ (by omega)
  have : j % 3 = 0 ∨ j % 3 = 1 ∨ j % 3 = 2 := by omega
  rcases this with h | h | h <;> simp [madeCells, hj, h]


end Go.Proofs.YtmemenkioejdoaaDoor
