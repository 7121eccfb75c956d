/- Arguments that are items (a struct of an integer, a list of parts, an integer). -/
import Derived.Test.YtoahjfofnaafaaaDoorRowM
namespace Go.Proofs.YtoahjfofnaafaaaDoor
open Go.ChangeShapes Go.WideShapes Go.ChangeAt Go.RowKit

section
variable {H : Type} {enc : TypeId × Value → H} {P : Program} {W : World} {base base' : Nat}
/-- an argument that is an item -/
theorem open_IT {t : TypeId} {v : Value} {d : DataW H} {p : List MemPlace} {held : Bool} {fs : Array Field}
    (ht : P.underlying t = some (.struct fs)) (hC : P.cellsOf t = 3)
    (hf : ∃ f g i pe, ∃ gs : Array Field, fs = #[f, g, i] ∧ P.underlying f.type = some (.int .i64) ∧ P.underlying i.type = some (.int .i64) ∧ P.underlying g.type = some (.slice pe) ∧ P.underlying pe = some (.struct gs) ∧ Go.Deep.oneCellFields P gs = true ∧ P.cellsOf pe = gs.size ∧ (∃ f' g', gs = #[f', g'] ∧ P.underlying f'.type = some (.int .i64) ∧ P.underlying g'.type = some (.int .i64)) ∧
      P.cellsOf f.type = 1 ∧ P.cellsOf g.type = 1 ∧ P.cellsOf i.type = 1 ∧ f.offset = 0 ∧ g.offset = 1 ∧ i.offset = 2)
    (hv : Value.okWide P W .any base t v) (h : DataW.Trod enc P W base' (fun _ => true) held t v d p) :
    ∃ y A n c mk ps, v = .agg #[.int .i64 y, .slice A n c, .int .i64 mk] ∧ RP W A n ps := by
  obtain ⟨cs, rfl, hcs⟩ := okWide_struct ht hv
  rw [hC] at hcs
  obtain ⟨v0, v1, v2, rfl⟩ : ∃ v0 v1 v2, cs = #[v0, v1, v2] := by
    refine ⟨cs[0]'(by omega), cs[1]'(by omega), cs[2]'(by omega), ?_⟩
    apply Array.ext
    · simp [hcs]
    · intro i h1 h2
      have : i = 0 ∨ i = 1 ∨ i = 2 := by simp at h2; omega
      rcases this with rfl | rfl | rfl <;> simp
  obtain ⟨fuel, hf'⟩ := h
  have h0 : DataW.trod enc P W base' (fun _ => true) held fuel t [v0, v1, v2] = some (d, p) := hf'
  obtain ⟨f, g, i3, pe, gs, rfl, hfi, hii, hgi, hpe, hone2, hC2, hf2, hf1, hg1, hi1, ho1, ho2, ho3⟩ := hf
  obtain ⟨xs, n, hn, hx, hlen, hxl, hat⟩ := DataW.trod_struct ht h0
  have h1 := hat 0 f rfl
  have h2 := hat 1 g rfl
  have h3 := hat 2 i3 rfl
  rw [ho1, hf1] at h1
  rw [ho2, hg1] at h2
  rw [ho3, hi1] at h3
  have x0 : xs[0]? = some (xs[0]'(by rw [hxl]; simp)) := List.getElem?_eq_getElem _
  have x1 : xs[1]? = some (xs[1]'(by rw [hxl]; simp)) := List.getElem?_eq_getElem _
  have x2 : xs[2]? = some (xs[2]'(by rw [hxl]; simp)) := List.getElem?_eq_getElem _
  obtain ⟨z0, e0, _, _⟩ := DataW.trod_int hfi (show DataW.trod enc P W base' (fun _ => true) held n f.type [v0] = some _ from h1.trans x0)
  obtain ⟨z2, e2, _, _⟩ := DataW.trod_int hii (show DataW.trod enc P W base' (fun _ => true) held n i3.type [v2] = some _ from h3.trans x2)
  obtain ⟨A, m, c, ps, rfl, r1⟩ := open_RP_val hgi hpe hone2 hC2 hf2 (show DataW.trod enc P W base' (fun _ => true) held n g.type [v1] = some _ from h2.trans x1)
  simp only [List.cons.injEq, and_true] at e0 e2
  subst e0; subst e2
  exact ⟨z0, A, m, c, z2, ps, rfl, r1⟩
end
end Go.Proofs.YtoahjfofnaafaaaDoor
