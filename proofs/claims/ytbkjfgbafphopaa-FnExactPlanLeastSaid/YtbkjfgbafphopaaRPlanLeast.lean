/- It is proved that the law FnExactPlanLeast of the given program returns true for every input and leaves its arguments as they were. Conditions: none beyond the given statement. -/
import Derived.Test.YtbkjfgbafphopaaRows
import Derived.Test.YtbkjfgbafphopaaLPlanLeast
import Derived.Test.YtbkjfgbafphopaaRow
import Derived.Test.YtbkjfgbafphopaaRowF
import Derived.Test.YtbkjfgbafphopaaRowM
namespace Go.Proofs.Ytbkjfgbafphopaa
open Go.ChangeShapes Go.WideShapes Go.ChangeAt Go.RowKit

theorem PlanLeast_own : ownKnob Try.prog.godebug = none := by kernel_rfl
theorem PlanLeast_laidOut : laidOutB Try.prog = true := by kernel_rfl
theorem PlanLeast_cellsInt : Try.prog.cellsOf 3 = 1 := by kernel_rfl
theorem PlanLeast_readable : ∀ t ∈ Try.f12.params.toList, Try.prog.readableRec t = true ∧ t < Try.prog.types.size := by
  rw [Try.params12]
  intro t ht
  have hall : ([22, 31, 31].all fun u => Try.prog.readableRec u && decide (u < Try.prog.types.size)) = true := by kernel_rfl
  have := List.all_eq_true.1 hall t (by simpa using ht)
  simpa using this

set_option maxRecDepth 100000 in
theorem PlanLeast_lifted (os : Os) (started : os.Started) (H : Type) (enc : TypeId × Value → H) :
    ReturnsInHanded {} Try.checked os 12 .any (Rows.fnExactPlanLeastSpec.pre6 enc Try.prog Try.f12 Rows.fnExactPlanLeastRow.domain false) (Rows.fnExactPlanLeastSpec.post enc Try.prog Try.f12 false true false false) := by
  refine returnsInHanded_of_change (C := Try.checked) PlanLeast_own started (by kernel_rfl) Try.func12
    (ChangeSpec.witness6 (enc := enc) (C := Try.checked) false ⟨#[], #[.slice none 0 0, .slice none 0 0, .slice none 0 0], []⟩ 8 (by kernel_rfl) (by kernel_rfl) (by kernel_rfl) (by kernel_rfl)) ?_
  intro W base args ds gs before hval0 hW hcnd _
  have hval : ∀ (j : Nat) t v, Try.f12.params[j]? = some t → args[j]? = some v → Value.okWide Try.prog W .any base t v := hval0
  have hW' := hW
  obtain ⟨p, q, hA0, hV, rfl, hfz, hnd⟩ := hW
  have hA : DataW.TrodAll enc Try.prog W 0 (fun _ => true) true Try.f12.params.toList args.toList ds p := hA0
  rw [Try.params12] at hA hval
  obtain ⟨v0, vs0, d0, ds0, p0, q0, hargs, rfl, rfl, h0, t0⟩ := trodAll_cons hA
  obtain ⟨v1, vs1, d1, ds1, p1, q1, rfl, rfl, rfl, h1, t1⟩ := trodAll_cons t0
  obtain ⟨v2, vs2, d2, ds2, p2, q2, rfl, rfl, rfl, h2, t2⟩ := trodAll_cons t1
  obtain ⟨rfl, rfl, rfl⟩ := trodAll_nil t2
  obtain rfl : args = #[v0, v1, v2] := by cases args; simp_all
  obtain ⟨rfl, rfl⟩ := trodVars_none hV
  obtain ⟨A0, n0, c0, xs0, rfl, r0⟩ := open_SM Try.underlying22 Try.underlying63 (by kernel_rfl) (by kernel_rfl) ⟨_, _, _, _, _, rfl, Try.underlying3, Try.underlying3, Try.underlying61, Try.underlying86, by kernel_rfl, by kernel_rfl, _, _, rfl, Try.underlying3, Try.underlying3⟩ (hval 0 22 v0 rfl rfl) h0
  obtain ⟨A1, n1, c1, xs1, rfl, r1, w1⟩ := open_SI Try.underlying31 Try.underlying3 PlanLeast_cellsInt (hval 1 31 v1 rfl rfl) h1
  obtain ⟨A2, n2, c2, xs2, rfl, r2, w2⟩ := open_SI Try.underlying31 Try.underlying3 PlanLeast_cellsInt (hval 2 31 v2 rfl rfl) h2
  refine (law_PlanLeast W A0 n0 c0 xs0 r0 A1 n1 c1 xs1 r1 w1 A2 n2 c2 xs2 r2 w2).mono fun e W' ⟨he, hg⟩ => ?_
  subst he
  exact ⟨_, rfl, law_post PlanLeast_laidOut PlanLeast_readable rfl rfl (by kernel_rfl) Try.underlying4 hW' hg⟩

theorem PlanLeast_closed : joinedFacts Try.prog 12 Try.f12 Rows.fnExactPlanLeastSpec Rows.fnExactPlanLeastRow = true := by
  unfold joinedFacts
  rw [prog_mayEnter, prog_lifts, prog_make]
  kernel_rfl

theorem PlanLeast_holds : Rows.FnExactPlanLeastSaid :=
  OpenClaim.holds_of_wide 12 Try.f12 rfl rfl rfl rfl rfl rfl rfl ⟨rfl, rfl, rfl, rfl, rfl⟩ rfl rfl rfl rfl rfl (by kernel_rfl) Try.func12 PlanLeast_closed
    (of_decide_eq_true (by kernel_rfl)) (by unfold Func.isWrapper; first | (rw [if_pos (by decide +kernel)]; kernel_rfl) | (rw [if_neg (by decide +kernel)]; exact ⟨rfl, rfl⟩))
    (fun os started H enc _ => PlanLeast_lifted os started H enc)
#print axioms PlanLeast_holds
end Go.Proofs.Ytbkjfgbafphopaa
