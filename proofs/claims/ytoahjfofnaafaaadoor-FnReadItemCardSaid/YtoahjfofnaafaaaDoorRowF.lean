/- Three facts about the whole program, shown once for all laws of the seat. -/
import Derived.Test.YtoahjfofnaafaaaDoorRows
import Derived.Test.YtoahjfofnaafaaaDoorRow
namespace Go.Proofs.YtoahjfofnaafaaaDoor

theorem prog_three : (Tryd.prog.mayEnter && !Tryd.prog.liftsFinal && (Tryd.prog.make == some .cut)) = true := by kernel_rfl
theorem prog_mayEnter : Tryd.prog.mayEnter = true := by
  have h := prog_three
  rw [Bool.and_eq_true, Bool.and_eq_true] at h
  exact h.1.1
theorem prog_lifts : Tryd.prog.liftsFinal = false := by
  have h := prog_three
  rw [Bool.and_eq_true, Bool.and_eq_true] at h
  simpa using h.1.2
theorem prog_make : Tryd.prog.make = some .cut := by
  have h := prog_three
  rw [Bool.and_eq_true, Bool.and_eq_true] at h
  exact eq_of_beq h.2
end Go.Proofs.YtoahjfofnaafaaaDoor
