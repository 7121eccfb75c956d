/- Openers of a law's arguments at the door: bytes; the condition on the listed tables, met by the door's own heap. -/
import Derived.Test.YtoahjfofnaafaaaDoorRow
import Derived.Test.YtoahjfofnaafaaaDoorWPick
namespace Go.Proofs.YtoahjfofnaafaaaDoor
open Go.ChangeShapes Go.WideShapes Go.ChangeAt Go.RowKit
section
variable {H : Type} {enc : TypeId × Value → H} {P : Program} {W : World} {base base' : Nat}
theorem wf_u8 {x : Int} (h : (Lit.int .u8 x).wf = true) : 0 ≤ x ∧ x ≤ 255 := by
  simp [Lit.wf, IntKind.min, IntKind.max, IntKind.signed, IntKind.bits] at h
  omega
/-- an argument of type []byte -/
theorem open_BY {t e : TypeId} {v : Value} {d : DataW H} {p : List MemPlace} {held : Bool} (ht : P.underlying t = some (.slice e)) (he : P.underlying e = some (.int .u8)) (hce : P.cellsOf e = 1)
    (hv : Value.okWide P W .any base t v) (h : DataW.Trod enc P W base' (fun _ => true) held t v d p) : ∃ A n c, v = .slice A n c ∧ RB W A n ∧ n ≤ c := by
  obtain ⟨A, n, c, rfl⟩ := okWide_slice ht hv
  obtain ⟨fuel, hf⟩ := h
  rcases open_ints ht he hce (show DataW.trod enc P W base' (fun _ => true) held fuel t [.slice A n c] = some (d, p) from hf) with ⟨hcs, hx⟩ | ⟨a, len, cap, zs, hcs, _, hl, hm, hz, hx, hcell, hwz⟩
  · simp only [List.cons.injEq, Value.slice.injEq, and_true] at hcs
    obtain ⟨rfl, rfl, rfl⟩ := hcs
    exact ⟨none, 0, 0, rfl, ⟨by omega, fun k hk => absurd hk (by omega)⟩, Nat.le_refl _⟩
  · simp only [List.cons.injEq, Value.slice.injEq, and_true] at hcs
    obtain ⟨rfl, rfl, rfl⟩ := hcs
    simp only [if_true] at hz
    unfold maxLen at hm
    refine ⟨some a, n, c, rfl, ⟨by omega, fun k hk => ?_⟩, hl⟩
    have hw := wf_u8 (hwz (zs.getD k 0) (by rw [List.getD_eq_getElem?_getD, List.getElem?_eq_getElem (by omega)]; simp))
    refine ⟨a, (zs.getD k 0).toNat, rfl, ?_, by omega⟩
    rw [hcell k (by omega)]
    congr 2
    omega
end
end Go.Proofs.YtoahjfofnaafaaaDoor
