/- Arguments that are tables ([][]int). -/
import Derived.Test.YtcodghlenniffaaRow
import Derived.Test.YtcodghlenniffaaWSS
namespace Go.Proofs.Ytcodghlenniffaa
open Go.ChangeShapes Go.WideShapes Go.ChangeAt Go.RowKit

section
variable {H : Type} {enc : TypeId × Value → H} {P : Program} {W : World} {base base' : Nat}
theorem open_RI_val {t e : TypeId} {d : DataW H × List MemPlace} {fuel : Nat} {held : Bool} {v : Value} (ht : P.underlying t = some (.slice e)) (he : P.underlying e = some (.int .i64)) (hce : P.cellsOf e = 1)
    (h : DataW.trod enc P W base' (fun _ => true) held fuel t [v] = some d) : ∃ A n c xs, v = .slice A n c ∧ RI W A n xs := by
  have h2 := h
  rcases open_ints ht he hce h with ⟨hcs, _⟩ | ⟨a, len, cap, zs, hcs, _⟩
  · simp only [List.cons.injEq, and_true] at hcs
    subst hcs
    obtain ⟨xs, h3, _⟩ := open_RI_cells ht he hce h2
    exact ⟨_, _, _, xs, rfl, h3⟩
  · simp only [List.cons.injEq, and_true] at hcs
    subst hcs
    obtain ⟨xs, h3, _⟩ := open_RI_cells ht he hce h2
    exact ⟨_, _, _, xs, rfl, h3⟩

/-- an argument of type [][]int -/
theorem open_SII {t r e : TypeId} {v : Value} {d : DataW H} {p : List MemPlace} {held : Bool}
    (ht : P.underlying t = some (.slice r)) (hr : P.underlying r = some (.slice e)) (he : P.underlying e = some (.int .i64)) (hC : P.cellsOf r = 1) (hce : P.cellsOf e = 1)
    (hv : Value.okWide P W .any base t v) (h : DataW.Trod enc P W base' (fun _ => true) held t v d p) : ∃ A n c ts, v = .slice A n c ∧ RII W A n ts := by
  obtain ⟨A, n, c, rfl⟩ := okWide_slice ht hv
  obtain ⟨fuel, hf'⟩ := h
  have h0 : DataW.trod enc P W base' (fun _ => true) held fuel t [.slice A n c] = some (d, p) := hf'
  have hi : n ≤ 9223372036854775807 ∧ ∀ i, i < n → ∃ ad B m c' xs, A = some ad ∧ W.cell? (ad.add i) = some (.slice B m c') ∧ RI W B m xs := by
    rcases Go.Deep.open_slice ht h0 with ⟨hcs, _⟩ | ⟨a, len, cap, m, k, D, Pl, hcs, hb, hl, hm, hmm, hx, hi⟩
    · simp only [List.cons.injEq, Value.slice.injEq, and_true] at hcs
      obtain ⟨rfl, rfl, rfl⟩ := hcs
      exact ⟨by omega, fun i hi => absurd hi (by omega)⟩
    · simp only [List.cons.injEq, Value.slice.injEq, and_true] at hcs
      obtain ⟨rfl, rfl, rfl⟩ := hcs
      unfold maxLen at hm
      simp only [if_true] at hmm
      refine ⟨by omega, fun i hin => ?_⟩
      obtain ⟨cs', hc, ht'⟩ := hi i (by omega)
      rw [hC] at hc
      obtain ⟨_, hcl, hat⟩ := World.cells?_some hc
      have hcell := hat 0 (by omega)
      have hone : cs' = [cs'[0]'(by omega)] := by
        match cs', hcl with
        | [x], _ => rfl
      have hv0 : cs'[0]? = some (cs'[0]'(by omega)) := List.getElem?_eq_getElem (by omega)
      rw [hone] at ht'
      obtain ⟨B, m', c', xs, e1, r1⟩ := open_RI_val hr he hce ht'
      refine ⟨a, B, m', c', xs, rfl, ?_, r1⟩
      rw [Nat.mul_one] at hcell
      have : ((a.add i).add 0) = a.add i := by simp [Addr.add_zero']
      rw [this, hv0, e1] at hcell
      exact hcell
  obtain ⟨hm, hi⟩ := hi
  have each : ∀ i, ∃ q : List Int, i < n → ∃ ad B m c', A = some ad ∧ W.cell? (ad.add i) = some (.slice B m c') ∧ RI W B m q := by
    intro i
    by_cases hin : i < n
    · obtain ⟨ad, B, m, c', xs, h1, h2, h3⟩ := hi i hin
      exact ⟨xs, fun _ => ⟨ad, B, m, c', h1, h2, h3⟩⟩
    · exact ⟨[], fun hh => absurd hh hin⟩
  refine ⟨A, n, c, (List.range n).map fun i => Classical.choose (each i), rfl, by simp, hm, fun k hk => ?_⟩
  have e : gl ((List.range n).map fun i => Classical.choose (each i)) k = Classical.choose (each k) := by
    unfold gl; rw [List.getD_eq_getElem?_getD, List.getElem?_map, List.getElem?_range hk]; rfl
  rw [e]
  exact Classical.choose_spec (each k) hk
end
end Go.Proofs.Ytcodghlenniffaa
