/- Arguments that are slices of tasks. -/
import Derived.Test.YtedopialmhpalaaRow
import Derived.Test.YtedopialmhpalaaWTask
namespace Go.Proofs.Ytedopialmhpalaa
open Go.ChangeShapes Go.WideShapes Go.ChangeAt Go.RowKit

section
variable {H : Type} {enc : TypeId × Value → H} {P : Program} {W : World} {base base' : Nat}
theorem open_RI_val {t e : TypeId} {d : DataW H × List MemPlace} {fuel : Nat} {held : Bool} {v : Value} (ht : P.underlying t = some (.slice e)) (he : P.underlying e = some (.int .i64)) (hce : P.cellsOf e = 1)
    (h : DataW.trod enc P W base' (fun _ => true) held fuel t [v] = some d) : ∃ A n c xs, v = .slice A n c ∧ RI W A n xs := by
  have h2 := h
  rcases open_ints ht he hce h with ⟨hcs, _⟩ | ⟨a, len, cap, zs, hcs, _⟩
  · simp only [List.cons.injEq, and_true] at hcs
    subst hcs
    obtain ⟨xs, h3, _⟩ := open_RI_cells ht he hce h2
    exact ⟨_, _, _, xs, rfl, h3⟩
  · simp only [List.cons.injEq, and_true] at hcs
    subst hcs
    obtain ⟨xs, h3, _⟩ := open_RI_cells ht he hce h2
    exact ⟨_, _, _, xs, rfl, h3⟩

/-- an argument of type []T, T a struct of an integer and a list of integers -/
theorem open_ST {t e : TypeId} {v : Value} {d : DataW H} {p : List MemPlace} {held : Bool} {fs : Array Field}
    (ht : P.underlying t = some (.slice e)) (he : P.underlying e = some (.struct fs))
    (hone : Go.Deep.oneCellFields P fs = true) (hC : P.cellsOf e = fs.size) (hf : ∃ f g ei, fs = #[f, g] ∧ P.underlying f.type = some (.int .i64) ∧ P.underlying g.type = some (.slice ei) ∧ P.underlying ei = some (.int .i64) ∧ P.cellsOf ei = 1)
    (hv : Value.okWide P W .any base t v) (h : DataW.Trod enc P W base' (fun _ => true) held t v d p) : ∃ A n c ts, v = .slice A n c ∧ RT W A n ts := by
  obtain ⟨A, n, c, rfl⟩ := okWide_slice ht hv
  obtain ⟨fuel, hf'⟩ := h
  obtain ⟨hm, _, hi⟩ := open_rows ht he hone hC (show DataW.trod enc P W base' (fun _ => true) held fuel t [.slice A n c] = some (d, p) from hf')
  obtain ⟨f, g, ei, rfl, hfi, hgi, hei, hce⟩ := hf
  have each : ∀ i, ∃ q : Int × List Int, i < n → ∃ ad B m c', A = some ad ∧ W.cell? (ad.add (i * 2)) = some (.int .i64 q.1) ∧ W.cell? ⟨(ad.add (i * 2)).block, (ad.add (i * 2)).off + 1, none⟩ = some (.slice B m c') ∧ RI W B m q.2 := by
    intro i
    by_cases hin : i < n
    · obtain ⟨ad, hA, hj⟩ := hi i hin
      obtain ⟨v0, y0, m0, c0, t0⟩ := hj 0 f rfl
      obtain ⟨v1, y1, m1, c1, t1⟩ := hj 1 g rfl
      obtain ⟨z0, e0, _, _⟩ := DataW.trod_int hfi t0
      obtain ⟨B, m, c', xs, e1, r1⟩ := open_RI_val hgi hei hce t1
      simp only [List.cons.injEq, and_true] at e0
      subst e0; subst e1
      exact ⟨(z0, xs), fun _ => ⟨ad, B, m, c', hA, by simpa [Addr.add_zero'] using c0, by simpa [Addr.add_succ'] using c1, r1⟩⟩
    · exact ⟨(0, []), fun hh => absurd hh hin⟩
  refine ⟨A, n, c, (List.range n).map fun i => Classical.choose (each i), rfl, by simp, hm, fun k hk => ?_⟩
  have e : gt ((List.range n).map fun i => Classical.choose (each i)) k = Classical.choose (each k) := by
    unfold gt; rw [List.getD_eq_getElem?_getD, List.getElem?_map, List.getElem?_range hk]; rfl
  rw [e]
  exact Classical.choose_spec (each k) hk
end
end Go.Proofs.Ytedopialmhpalaa
