/- Arguments that are plans (a struct of two lists of integers). -/
import Derived.Test.YtbkjfgbafphopaaRow
namespace Go.Proofs.Ytbkjfgbafphopaa
open Go.ChangeShapes Go.WideShapes Go.ChangeAt Go.RowKit

section
variable {H : Type} {enc : TypeId × Value → H} {P : Program} {W : World} {base base' : Nat}
theorem open_RI_val2 {t e : TypeId} {d : DataW H × List MemPlace} {fuel : Nat} {held : Bool} {v : Value} (ht : P.underlying t = some (.slice e)) (he : P.underlying e = some (.int .i64)) (hce : P.cellsOf e = 1)
    (h : DataW.trod enc P W base' (fun _ => true) held fuel t [v] = some d) : ∃ A n c xs, v = .slice A n c ∧ RI W A n xs ∧ W64 xs := by
  have h2 := h
  rcases open_ints ht he hce h with ⟨hcs, _⟩ | ⟨a, len, cap, zs, hcs, _⟩
  · simp only [List.cons.injEq, and_true] at hcs
    subst hcs
    obtain ⟨xs, h3, h4⟩ := open_RI_cells ht he hce h2
    exact ⟨_, _, _, xs, rfl, h3, h4⟩
  · simp only [List.cons.injEq, and_true] at hcs
    subst hcs
    obtain ⟨xs, h3, h4⟩ := open_RI_cells ht he hce h2
    exact ⟨_, _, _, xs, rfl, h3, h4⟩
/-- an argument that is a struct of two lists of integers -/
theorem open_PL {t : TypeId} {v : Value} {d : DataW H} {p : List MemPlace} {held : Bool} {fs : Array Field}
    (ht : P.underlying t = some (.struct fs)) (hC : P.cellsOf t = 2)
    (hf : ∃ f g e, fs = #[f, g] ∧ P.underlying f.type = some (.slice e) ∧ P.underlying g.type = some (.slice e) ∧ P.underlying e = some (.int .i64) ∧ P.cellsOf e = 1 ∧ P.cellsOf f.type = 1 ∧ P.cellsOf g.type = 1 ∧ f.offset = 0 ∧ g.offset = 1)
    (hv : Value.okWide P W .any base t v) (h : DataW.Trod enc P W base' (fun _ => true) held t v d p) :
    ∃ A n c xs B m e ys, v = .agg #[.slice A n c, .slice B m e] ∧ RI W A n xs ∧ W64 xs ∧ RI W B m ys ∧ W64 ys := by
  obtain ⟨cs, rfl, hcs⟩ := okWide_struct ht hv
  rw [hC] at hcs
  obtain ⟨v0, v1, rfl⟩ : ∃ v0 v1, cs = #[v0, v1] := by
    refine ⟨cs[0]'(by omega), cs[1]'(by omega), ?_⟩
    apply Array.ext
    · simp [hcs]
    · intro i h1 h2
      have : i = 0 ∨ i = 1 := by simp at h2; omega
      rcases this with rfl | rfl <;> simp
  obtain ⟨fuel, hf'⟩ := h
  have h0 : DataW.trod enc P W base' (fun _ => true) held fuel t [v0, v1] = some (d, p) := hf'
  obtain ⟨f, g, e, rfl, hfs, hgs, he, hce, hf1, hg1, ho1, ho2⟩ := hf
  obtain ⟨xs, n, hn, hx, hlen, hxl, hat⟩ := DataW.trod_struct ht h0
  have h1 := hat 0 f rfl
  have h2 := hat 1 g rfl
  rw [ho1, hf1] at h1
  rw [ho2, hg1] at h2
  have x0 : xs[0]? = some (xs[0]'(by rw [hxl]; simp)) := List.getElem?_eq_getElem _
  have x1 : xs[1]? = some (xs[1]'(by rw [hxl]; simp)) := List.getElem?_eq_getElem _
  obtain ⟨A, n1, c, zs, rfl, r1, w1⟩ := open_RI_val2 hfs he hce (show DataW.trod enc P W base' (fun _ => true) held n f.type [v0] = some _ from h1.trans x0)
  obtain ⟨B, m, c', ys, rfl, r2, w2⟩ := open_RI_val2 hgs he hce (show DataW.trod enc P W base' (fun _ => true) held n g.type [v1] = some _ from h2.trans x1)
  exact ⟨A, n1, c, zs, B, m, c', ys, rfl, r1, w1, r2, w2⟩
end
end Go.Proofs.Ytbkjfgbafphopaa
