/- RowF RowD RowDF RowDH, in one text. -/
import Derived.Test.YtoahjfofnaafaaaDoorRows
import Derived.Test.YtoahjfofnaafaaaDoorRow
import Derived.Test.YtoahjfofnaafaaaDoorWPick
import Derived.ProofKit
import Derived.LaidMore
import Derived.OpenShut
import Derived.LaidLaws
import Derived.Test.YtoahjfofnaafaaaDoorCards
namespace Go.Proofs.YtoahjfofnaafaaaDoor
open Go.ChangeShapes Go.WideShapes Go.ChangeAt Go.RowKit


theorem prog_three : (Tryd.prog.mayEnter && !Tryd.prog.liftsFinal && (Tryd.prog.make == some .cut)) = true := by kernel_rfl
theorem prog_mayEnter : Tryd.prog.mayEnter = true := by
  have h := prog_three
  rw [Bool.and_eq_true, Bool.and_eq_true] at h
  exact h.1.1
theorem prog_lifts : Tryd.prog.liftsFinal = false := by
  have h := prog_three
  rw [Bool.and_eq_true, Bool.and_eq_true] at h
  simpa using h.1.2
theorem prog_make : Tryd.prog.make = some .cut := by
  have h := prog_three
  rw [Bool.and_eq_true, Bool.and_eq_true] at h
  exact eq_of_beq h.2


section
variable {H : Type} {enc : TypeId × Value → H} {P : Program} {W : World} {base base' : Nat}
theorem wf_u8 {x : Int} (h : (Lit.int .u8 x).wf = true) : 0 ≤ x ∧ x ≤ 255 := by
  simp [Lit.wf, IntKind.min, IntKind.max, IntKind.signed, IntKind.bits] at h
  omega
/-- an argument of type []byte -/
theorem open_BY {t e : TypeId} {v : Value} {d : DataW H} {p : List MemPlace} {held : Bool} (ht : P.underlying t = some (.slice e)) (he : P.underlying e = some (.int .u8)) (hce : P.cellsOf e = 1)
    (hv : Value.okWide P W .any base t v) (h : DataW.Trod enc P W base' (fun _ => true) held t v d p) : ∃ A n c, v = .slice A n c ∧ RB W A n ∧ n ≤ c := by
  obtain ⟨A, n, c, rfl⟩ := okWide_slice ht hv
  obtain ⟨fuel, hf⟩ := h
  rcases open_ints ht he hce (show DataW.trod enc P W base' (fun _ => true) held fuel t [.slice A n c] = some (d, p) from hf) with ⟨hcs, hx⟩ | ⟨a, len, cap, zs, hcs, _, hl, hm, hz, hx, hcell, hwz⟩
  · simp only [List.cons.injEq, Value.slice.injEq, and_true] at hcs
    obtain ⟨rfl, rfl, rfl⟩ := hcs
    exact ⟨none, 0, 0, rfl, ⟨by omega, fun k hk => absurd hk (by omega)⟩, Nat.le_refl _⟩
  · simp only [List.cons.injEq, Value.slice.injEq, and_true] at hcs
    obtain ⟨rfl, rfl, rfl⟩ := hcs
    simp only [if_true] at hz
    unfold maxLen at hm
    refine ⟨some a, n, c, rfl, ⟨by omega, fun k hk => ?_⟩, hl⟩
    have hw := wf_u8 (hwz (zs.getD k 0) (by rw [List.getD_eq_getElem?_getD, List.getElem?_eq_getElem (by omega)]; simp))
    refine ⟨a, (zs.getD k 0).toNat, rfl, ?_, by omega⟩
    rw [hcell k (by omega)]
    congr 2
    omega
end



theorem door_own : ownKnob Tryd.prog.godebug = none := by kernel_rfl
theorem door_laidOut : laidOutB Tryd.prog = true := by kernel_rfl
theorem door_met (os : Os) (args : Array Value) : laidMetH Tryd.prog Rows.fnExactItemTextRow.laid ((World.doorLaid Tryd.prog 60 os).forCall (fun _ _ => 0) ⟨#[], args, []⟩).memory :=
  laidMetH_of_parts3 (fuel := 8) (laidMet_of_run' 8 (by kernel_rfl) (by kernel_rfl)) (by kernel_rfl) (by kernel_rfl)


theorem prog_main : Tryd.prog.mainIs = some (Rows.fnExactItemTextCard.stood.harness.1, Rows.fnExactItemTextCard.stood.harness.2.toList) := by kernel_rfl
end Go.Proofs.YtoahjfofnaafaaaDoor
