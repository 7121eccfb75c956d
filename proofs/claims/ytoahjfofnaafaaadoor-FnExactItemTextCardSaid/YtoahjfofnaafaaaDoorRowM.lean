/- Arguments that are slices of items. -/
import Derived.Test.YtoahjfofnaafaaaDoorRow
import Derived.Test.YtoahjfofnaafaaaDoorWItem
namespace Go.Proofs.YtoahjfofnaafaaaDoor
open Go.ChangeShapes Go.WideShapes Go.ChangeAt Go.RowKit

section
variable {H : Type} {enc : TypeId × Value → H} {P : Program} {W : World} {base base' : Nat}
theorem open_RP_val {t e : TypeId} {fs : Array Field} {d : DataW H × List MemPlace} {fuel : Nat} {held : Bool} {v : Value} (ht : P.underlying t = some (.slice e)) (he : P.underlying e = some (.struct fs))
    (hone : Go.Deep.oneCellFields P fs = true) (hC : P.cellsOf e = fs.size) (hf : ∃ f g, fs = #[f, g] ∧ P.underlying f.type = some (.int .i64) ∧ P.underlying g.type = some (.int .i64))
    (h : DataW.trod enc P W base' (fun _ => true) held fuel t [v] = some d) : ∃ A n c ps, v = .slice A n c ∧ RP W A n ps := by
  have hv : ∃ A n c, v = .slice A n c := by
    rcases Go.Deep.open_slice ht h with ⟨hcs, _⟩ | ⟨a, len, cap, m, k, D, Pl, hcs, _⟩
    · simp only [List.cons.injEq, and_true] at hcs
      exact ⟨_, _, _, hcs⟩
    · simp only [List.cons.injEq, and_true] at hcs
      exact ⟨_, _, _, hcs⟩
  obtain ⟨A, n, c, rfl⟩ := hv
  obtain ⟨hm, _, hi⟩ := open_rows ht he hone hC h
  obtain ⟨f, g, rfl, hfi, hgi⟩ := hf
  have each : ∀ i, ∃ q : Int × Int, i < n → ∃ ad, A = some ad ∧ W.cell? (ad.add (i * 2)) = some (.int .i64 q.1) ∧ W.cell? ⟨(ad.add (i * 2)).block, (ad.add (i * 2)).off + 1, none⟩ = some (.int .i64 q.2) := by
    intro i
    by_cases hin : i < n
    · obtain ⟨ad, hA, hj⟩ := hi i hin
      obtain ⟨v0, y0, m0, c0, t0⟩ := hj 0 f rfl
      obtain ⟨v1, y1, m1, c1, t1⟩ := hj 1 g rfl
      obtain ⟨z0, e0, _, _⟩ := DataW.trod_int hfi t0
      obtain ⟨z1, e1, _, _⟩ := DataW.trod_int hgi t1
      simp only [List.cons.injEq, and_true] at e0 e1
      subst e0; subst e1
      exact ⟨(z0, z1), fun _ => ⟨ad, hA, by simpa [Addr.add_zero'] using c0, by simpa [Addr.add_succ'] using c1⟩⟩
    · exact ⟨(0, 0), fun hh => absurd hh hin⟩
  refine ⟨A, n, c, (List.range n).map fun i => Classical.choose (each i), rfl, by simp, hm, fun k hk => ?_⟩
  have e : gp ((List.range n).map fun i => Classical.choose (each i)) k = Classical.choose (each k) := by
    unfold gp; rw [List.getD_eq_getElem?_getD, List.getElem?_map, List.getElem?_range hk]; rfl
  rw [e]
  exact Classical.choose_spec (each k) hk

/-- an argument of type []Item -/
theorem open_SM {t e : TypeId} {v : Value} {d : DataW H} {p : List MemPlace} {held : Bool} {fs : Array Field}
    (ht : P.underlying t = some (.slice e)) (he : P.underlying e = some (.struct fs))
    (hone : Go.Deep.oneCellFields P fs = true) (hC : P.cellsOf e = fs.size)
    (hf : ∃ f g i pe, ∃ gs : Array Field, fs = #[f, g, i] ∧ P.underlying f.type = some (.int .i64) ∧ P.underlying i.type = some (.int .i64) ∧ P.underlying g.type = some (.slice pe) ∧ P.underlying pe = some (.struct gs) ∧ Go.Deep.oneCellFields P gs = true ∧ P.cellsOf pe = gs.size ∧ ∃ f' g', gs = #[f', g'] ∧ P.underlying f'.type = some (.int .i64) ∧ P.underlying g'.type = some (.int .i64))
    (hv : Value.okWide P W .any base t v) (h : DataW.Trod enc P W base' (fun _ => true) held t v d p) : ∃ A n c ts, v = .slice A n c ∧ RM W A n ts := by
  obtain ⟨A, n, c, rfl⟩ := okWide_slice ht hv
  obtain ⟨fuel, hf'⟩ := h
  obtain ⟨hm, _, hi⟩ := open_rows ht he hone hC (show DataW.trod enc P W base' (fun _ => true) held fuel t [.slice A n c] = some (d, p) from hf')
  obtain ⟨f, g, i3, pe, gs, rfl, hfi, hii, hgi, hpe, hone2, hC2, hf2⟩ := hf
  have each : ∀ i, ∃ q : It, i < n → ∃ ad B m c', A = some ad ∧ W.cell? (ad.add (i * 3)) = some (.int .i64 q.1) ∧ W.cell? ⟨(ad.add (i * 3)).block, (ad.add (i * 3)).off + 1, none⟩ = some (.slice B m c') ∧ W.cell? ⟨(ad.add (i * 3)).block, (ad.add (i * 3)).off + 2, none⟩ = some (.int .i64 q.2.2) ∧ RP W B m q.2.1 := by
    intro i
    by_cases hin : i < n
    · obtain ⟨ad, hA, hj⟩ := hi i hin
      obtain ⟨v0, y0, m0, c0, t0⟩ := hj 0 f rfl
      obtain ⟨v1, y1, m1, c1, t1⟩ := hj 1 g rfl
      obtain ⟨v2, y2, m2, c2, t2⟩ := hj 2 i3 rfl
      obtain ⟨z0, e0, _, _⟩ := DataW.trod_int hfi t0
      obtain ⟨z2, e2, _, _⟩ := DataW.trod_int hii t2
      obtain ⟨B, m, c', ps, e1, r1⟩ := open_RP_val hgi hpe hone2 hC2 hf2 t1
      simp only [List.cons.injEq, and_true] at e0 e2
      subst e0; subst e1; subst e2
      exact ⟨(z0, ps, z2), fun _ => ⟨ad, B, m, c', hA, by simpa [Addr.add_zero'] using c0, by simpa [Addr.add_succ'] using c1, by simpa [Addr.add_succ'] using c2, r1⟩⟩
    · exact ⟨(0, [], 0), fun hh => absurd hh hin⟩
  refine ⟨A, n, c, (List.range n).map fun i => Classical.choose (each i), rfl, by simp, hm, fun k hk => ?_⟩
  have e : gm ((List.range n).map fun i => Classical.choose (each i)) k = Classical.choose (each k) := by
    unfold gm; rw [List.getD_eq_getElem?_getD, List.getElem?_map, List.getElem?_range hk]; rfl
  rw [e]
  exact Classical.choose_spec (each k) hk
end
end Go.Proofs.YtoahjfofnaafaaaDoor
