/- It is proved that the law FnExactUseSum of the given program returns true for every input and leaves its arguments as they were. Conditions: none beyond the given statement. -/
import Derived.Test.YtcodghlenniffaaRows
import Derived.Test.YtcodghlenniffaaLUseSum
import Derived.Test.YtcodghlenniffaaRow
import Derived.Test.YtcodghlenniffaaRowF
import Derived.Test.YtcodghlenniffaaRowL
namespace Go.Proofs.Ytcodghlenniffaa
open Go.ChangeShapes Go.WideShapes Go.ChangeAt Go.RowKit

theorem UseSum_own : ownKnob Try.prog.godebug = none := by kernel_rfl
theorem UseSum_laidOut : laidOutB Try.prog = true := by kernel_rfl
theorem UseSum_readable : ∀ t ∈ Try.f5.params.toList, Try.prog.readableRec t = true ∧ t < Try.prog.types.size := by
  rw [Try.params5]
  intro t ht
  have hall : ([33].all fun u => Try.prog.readableRec u && decide (u < Try.prog.types.size)) = true := by kernel_rfl
  have := List.all_eq_true.1 hall t (by simpa using ht)
  simpa using this

set_option maxRecDepth 100000 in
theorem UseSum_lifted (os : Os) (started : os.Started) (H : Type) (enc : TypeId × Value → H) :
    ReturnsInHanded {} Try.checked os 5 .any (Rows.fnExactUseSumSpec.pre6 enc Try.prog Try.f5 Rows.fnExactUseSumRow.domain false) (Rows.fnExactUseSumSpec.post enc Try.prog Try.f5 false true false false) := by
  refine returnsInHanded_of_change (C := Try.checked) UseSum_own started (by kernel_rfl) Try.func5
    (ChangeSpec.witness6 (enc := enc) (C := Try.checked) false ⟨#[], #[.slice none 0 0], []⟩ 8 (by kernel_rfl) (by kernel_rfl) (by kernel_rfl) (by kernel_rfl)) ?_
  intro W base args ds gs before hval0 hW hcnd _
  have hval : ∀ (j : Nat) t v, Try.f5.params[j]? = some t → args[j]? = some v → Value.okWide Try.prog W .any base t v := hval0
  have hW' := hW
  obtain ⟨p, q, hA0, hV, rfl, hfz, hnd⟩ := hW
  have hA : DataW.TrodAll enc Try.prog W 0 (fun _ => true) true Try.f5.params.toList args.toList ds p := hA0
  rw [Try.params5] at hA hval
  obtain ⟨v0, vs0, d0, ds0, p0, q0, hargs, rfl, rfl, h0, t0⟩ := trodAll_cons hA
  obtain ⟨rfl, rfl, rfl⟩ := trodAll_nil t0
  obtain rfl : args = #[v0] := by cases args; simp_all
  obtain ⟨rfl, rfl⟩ := trodVars_none hV
  obtain ⟨A0, n0, c0, xs0, rfl, r0⟩ := open_SII Try.underlying33 Try.underlying22 Try.underlying3 (by kernel_rfl) (by kernel_rfl) (hval 0 33 v0 rfl rfl) h0
  refine (law_UseSum W A0 n0 c0 xs0 r0).mono fun e W' ⟨he, hg⟩ => ?_
  subst he
  exact ⟨_, rfl, law_post UseSum_laidOut UseSum_readable rfl rfl (by kernel_rfl) Try.underlying4 hW' hg⟩

theorem UseSum_closed : joinedFacts Try.prog 5 Try.f5 Rows.fnExactUseSumSpec Rows.fnExactUseSumRow = true := by
  unfold joinedFacts
  rw [prog_mayEnter, prog_lifts, prog_make]
  kernel_rfl

theorem UseSum_holds : Rows.FnExactUseSumSaid :=
  OpenClaim.holds_of_wide 5 Try.f5 rfl rfl rfl rfl rfl rfl rfl ⟨rfl, rfl, rfl, rfl, rfl⟩ rfl rfl rfl rfl rfl (by kernel_rfl) Try.func5 UseSum_closed
    (of_decide_eq_true (by kernel_rfl)) (by unfold Func.isWrapper; first | (rw [if_pos (by decide +kernel)]; kernel_rfl) | (rw [if_neg (by decide +kernel)]; exact ⟨rfl, rfl⟩))
    (fun os started H enc _ => UseSum_lifted os started H enc)
#print axioms UseSum_holds
end Go.Proofs.Ytcodghlenniffaa
