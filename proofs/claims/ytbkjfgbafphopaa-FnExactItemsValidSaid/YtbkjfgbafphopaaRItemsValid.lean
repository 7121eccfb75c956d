/- It is proved that the law FnExactItemsValid of the given program returns true for every input and leaves its arguments as they were. Conditions: none beyond the given statement. -/
import Derived.Test.YtbkjfgbafphopaaRows
import Derived.Test.YtbkjfgbafphopaaLItemsValid
import Derived.Test.YtbkjfgbafphopaaRow
import Derived.Test.YtbkjfgbafphopaaRowF
import Derived.Test.YtbkjfgbafphopaaRowM
namespace Go.Proofs.Ytbkjfgbafphopaa
open Go.ChangeShapes Go.WideShapes Go.ChangeAt Go.RowKit

theorem ItemsValid_own : ownKnob Try.prog.godebug = none := by kernel_rfl
theorem ItemsValid_laidOut : laidOutB Try.prog = true := by kernel_rfl
theorem ItemsValid_readable : ∀ t ∈ Try.f3.params.toList, Try.prog.readableRec t = true ∧ t < Try.prog.types.size := by
  rw [Try.params3]
  intro t ht
  have hall : ([22].all fun u => Try.prog.readableRec u && decide (u < Try.prog.types.size)) = true := by kernel_rfl
  have := List.all_eq_true.1 hall t (by simpa using ht)
  simpa using this

set_option maxRecDepth 100000 in
theorem ItemsValid_lifted (os : Os) (started : os.Started) (H : Type) (enc : TypeId × Value → H) :
    ReturnsInHanded {} Try.checked os 3 .any (Rows.fnExactItemsValidSpec.pre6 enc Try.prog Try.f3 Rows.fnExactItemsValidRow.domain false) (Rows.fnExactItemsValidSpec.post enc Try.prog Try.f3 false true false false) := by
  refine returnsInHanded_of_change (C := Try.checked) ItemsValid_own started (by kernel_rfl) Try.func3
    (ChangeSpec.witness6 (enc := enc) (C := Try.checked) false ⟨#[], #[.slice none 0 0], []⟩ 8 (by kernel_rfl) (by kernel_rfl) (by kernel_rfl) (by kernel_rfl)) ?_
  intro W base args ds gs before hval0 hW hcnd _
  have hval : ∀ (j : Nat) t v, Try.f3.params[j]? = some t → args[j]? = some v → Value.okWide Try.prog W .any base t v := hval0
  have hW' := hW
  obtain ⟨p, q, hA0, hV, rfl, hfz, hnd⟩ := hW
  have hA : DataW.TrodAll enc Try.prog W 0 (fun _ => true) true Try.f3.params.toList args.toList ds p := hA0
  rw [Try.params3] at hA hval
  obtain ⟨v0, vs0, d0, ds0, p0, q0, hargs, rfl, rfl, h0, t0⟩ := trodAll_cons hA
  obtain ⟨rfl, rfl, rfl⟩ := trodAll_nil t0
  obtain rfl : args = #[v0] := by cases args; simp_all
  obtain ⟨rfl, rfl⟩ := trodVars_none hV
  obtain ⟨A0, n0, c0, xs0, rfl, r0⟩ := open_SM Try.underlying22 Try.underlying63 (by kernel_rfl) (by kernel_rfl) ⟨_, _, _, _, _, rfl, Try.underlying3, Try.underlying3, Try.underlying61, Try.underlying86, by kernel_rfl, by kernel_rfl, _, _, rfl, Try.underlying3, Try.underlying3⟩ (hval 0 22 v0 rfl rfl) h0
  refine (law_ItemsValid W A0 n0 c0 xs0 r0).mono fun e W' ⟨he, hg⟩ => ?_
  subst he
  exact ⟨_, rfl, law_post ItemsValid_laidOut ItemsValid_readable rfl rfl (by kernel_rfl) Try.underlying4 hW' hg⟩

theorem ItemsValid_closed : joinedFacts Try.prog 3 Try.f3 Rows.fnExactItemsValidSpec Rows.fnExactItemsValidRow = true := by
  unfold joinedFacts
  rw [prog_mayEnter, prog_lifts, prog_make]
  kernel_rfl

theorem ItemsValid_holds : Rows.FnExactItemsValidSaid :=
  OpenClaim.holds_of_wide 3 Try.f3 rfl rfl rfl rfl rfl rfl rfl ⟨rfl, rfl, rfl, rfl, rfl⟩ rfl rfl rfl rfl rfl (by kernel_rfl) Try.func3 ItemsValid_closed
    (of_decide_eq_true (by kernel_rfl)) (by unfold Func.isWrapper; first | (rw [if_pos (by decide +kernel)]; kernel_rfl) | (rw [if_neg (by decide +kernel)]; exact ⟨rfl, rfl⟩))
    (fun os started H enc _ => ItemsValid_lifted os started H enc)
#print axioms ItemsValid_holds
end Go.Proofs.Ytbkjfgbafphopaa
