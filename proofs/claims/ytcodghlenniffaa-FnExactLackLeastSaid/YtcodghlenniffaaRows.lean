/-
  No cell of these rows narrows 'for every input' (looked for: loops, veiled, ifaces, maps, wideKeys, modest, calm, conditions, laid).
  DERIVED. THE GIVEN ROWS OF THIS SEAT. 13 by the template 'for every input the law returns true; each argument reads behind the call as it read before'; 0 by the template 'total and deterministic' (their statements: YtcodghlenniffaaTotals.lean).
  GIVEN WITH THE SEED: the statements are not yours to turn. If you find one false, say at which input.
  Laid BY PROGRAM, IN A SANDBOX (cutbox-rows.mjs): the forced cells as the released guide's own fill.sh prints them over the translation 11839578dbb581f5… (all of the seat's roots in one cut). By AI agents, Wed Nov 11 2026. No macro, syntax, notation, axiom, sorry.
-/
import Derived.Test.YtcodghlenniffaaChecked
import GoSem.Claim
import GoSem.ClaimJoined
import GoSem.ClaimMapViews
import Derived.JoinedTies
import Derived.KernelRfl
namespace Go.Proofs.Ytcodghlenniffaa
/- THE CELL 'sum', in the pinned program and in every row, IS THE sha256 OF THE DUMP (.gsa) THAT YtcodghlenniffaaProg.lean LOADS. Nothing in Lean hashes anything: it is a label: what it is worth is what the hold of that sum in a sandbox is worth. -/
noncomputable def Try.pinned : Pinned := { name := "ytcodghlenniffaa", sum := "11839578dbb581f52a1281490c4c35d95091fd3cea1eaa7bb057875c809d1a1f", checked := Try.checked }
namespace Rows
def none {H : Type} : Left H := { results := [], args := [] }

/-- 'laws.FnExactWantsValid': WHATEVER THE INPUT: true; the input reads as it did. -/
def fnExactWantsValidSpec : ChangeSpec := { name := "fnExactWantsValid", fn := fun _ => fun
  | [d] => { results := [.lit (.bool true)], args := [d] }
  | _ => none }
def fnExactWantsValidRow : OpenClaim := { program := "ytcodghlenniffaa", sum := "11839578dbb581f52a1281490c4c35d95091fd3cea1eaa7bb057875c809d1a1f", func := "loop.example/restaurantkitchen/laws.FnExactWantsValid", spec := "fnExactWantsValid", apart := false }
def FnExactWantsValidSaid : Prop := fnExactWantsValidRow.holds Try.pinned (OpenSpec.ofChange fnExactWantsValidSpec)

/-- ITS FALSE NEIGHBOUR: 'it returns false'. Refute it at one input. -/
def fnExactWantsValidWrong : ChangeSpec := { name := "fnExactWantsValid", fn := fun _ => fun
  | [d] => { results := [.lit (.bool false)], args := [d] }
  | _ => none }
def FnExactWantsValidWrongFalsely : Prop := fnExactWantsValidRow.holds Try.pinned (OpenSpec.ofChange fnExactWantsValidWrong)

/-- 'laws.FnExactLotsValid': WHATEVER THE INPUT: true; the input reads as it did. -/
def fnExactLotsValidSpec : ChangeSpec := { name := "fnExactLotsValid", fn := fun _ => fun
  | [d] => { results := [.lit (.bool true)], args := [d] }
  | _ => none }
def fnExactLotsValidRow : OpenClaim := { program := "ytcodghlenniffaa", sum := "11839578dbb581f52a1281490c4c35d95091fd3cea1eaa7bb057875c809d1a1f", func := "loop.example/restaurantkitchen/laws.FnExactLotsValid", spec := "fnExactLotsValid", apart := false }
def FnExactLotsValidSaid : Prop := fnExactLotsValidRow.holds Try.pinned (OpenSpec.ofChange fnExactLotsValidSpec)

/-- ITS FALSE NEIGHBOUR: 'it returns false'. Refute it at one input. -/
def fnExactLotsValidWrong : ChangeSpec := { name := "fnExactLotsValid", fn := fun _ => fun
  | [d] => { results := [.lit (.bool false)], args := [d] }
  | _ => none }
def FnExactLotsValidWrongFalsely : Prop := fnExactLotsValidRow.holds Try.pinned (OpenSpec.ofChange fnExactLotsValidWrong)

/-- 'laws.FnExactUseSum': WHATEVER THE INPUT: true; the input reads as it did. -/
def fnExactUseSumSpec : ChangeSpec := { name := "fnExactUseSum", fn := fun _ => fun
  | [d] => { results := [.lit (.bool true)], args := [d] }
  | _ => none }
def fnExactUseSumRow : OpenClaim := { program := "ytcodghlenniffaa", sum := "11839578dbb581f52a1281490c4c35d95091fd3cea1eaa7bb057875c809d1a1f", func := "loop.example/restaurantkitchen/laws.FnExactUseSum", spec := "fnExactUseSum", apart := false }
def FnExactUseSumSaid : Prop := fnExactUseSumRow.holds Try.pinned (OpenSpec.ofChange fnExactUseSumSpec)

/-- ITS FALSE NEIGHBOUR: 'it returns false'. Refute it at one input. -/
def fnExactUseSumWrong : ChangeSpec := { name := "fnExactUseSum", fn := fun _ => fun
  | [d] => { results := [.lit (.bool false)], args := [d] }
  | _ => none }
def FnExactUseSumWrongFalsely : Prop := fnExactUseSumRow.holds Try.pinned (OpenSpec.ofChange fnExactUseSumWrong)

/-- 'laws.FnExactLotsAt': WHATEVER THE INPUT: true; the input reads as it did. -/
def fnExactLotsAtSpec : ChangeSpec := { name := "fnExactLotsAt", fn := fun _ => fun
  | [d1, d2] => { results := [.lit (.bool true)], args := [d1, d2] }
  | _ => none }
def fnExactLotsAtRow : OpenClaim := { program := "ytcodghlenniffaa", sum := "11839578dbb581f52a1281490c4c35d95091fd3cea1eaa7bb057875c809d1a1f", func := "loop.example/restaurantkitchen/laws.FnExactLotsAt", spec := "fnExactLotsAt", apart := false }
def FnExactLotsAtSaid : Prop := fnExactLotsAtRow.holds Try.pinned (OpenSpec.ofChange fnExactLotsAtSpec)

/-- ITS FALSE NEIGHBOUR: 'it returns false'. Refute it at one input. -/
def fnExactLotsAtWrong : ChangeSpec := { name := "fnExactLotsAt", fn := fun _ => fun
  | [d1, d2] => { results := [.lit (.bool false)], args := [d1, d2] }
  | _ => none }
def FnExactLotsAtWrongFalsely : Prop := fnExactLotsAtRow.holds Try.pinned (OpenSpec.ofChange fnExactLotsAtWrong)

/-- 'laws.FnExactTakeOk': WHATEVER THE INPUT: true; the input reads as it did. -/
def fnExactTakeOkSpec : ChangeSpec := { name := "fnExactTakeOk", fn := fun _ => fun
  | [d1, d2, d3] => { results := [.lit (.bool true)], args := [d1, d2, d3] }
  | _ => none }
def fnExactTakeOkRow : OpenClaim := { program := "ytcodghlenniffaa", sum := "11839578dbb581f52a1281490c4c35d95091fd3cea1eaa7bb057875c809d1a1f", func := "loop.example/restaurantkitchen/laws.FnExactTakeOk", spec := "fnExactTakeOk", apart := false }
def FnExactTakeOkSaid : Prop := fnExactTakeOkRow.holds Try.pinned (OpenSpec.ofChange fnExactTakeOkSpec)

/-- ITS FALSE NEIGHBOUR: 'it returns false'. Refute it at one input. -/
def fnExactTakeOkWrong : ChangeSpec := { name := "fnExactTakeOk", fn := fun _ => fun
  | [d1, d2, d3] => { results := [.lit (.bool false)], args := [d1, d2, d3] }
  | _ => none }
def FnExactTakeOkWrongFalsely : Prop := fnExactTakeOkRow.holds Try.pinned (OpenSpec.ofChange fnExactTakeOkWrong)

/-- 'laws.FnExactUseBound': WHATEVER THE INPUT: true; the input reads as it did. -/
def fnExactUseBoundSpec : ChangeSpec := { name := "fnExactUseBound", fn := fun _ => fun
  | [d1, d2, d3] => { results := [.lit (.bool true)], args := [d1, d2, d3] }
  | _ => none }
def fnExactUseBoundRow : OpenClaim := { program := "ytcodghlenniffaa", sum := "11839578dbb581f52a1281490c4c35d95091fd3cea1eaa7bb057875c809d1a1f", func := "loop.example/restaurantkitchen/laws.FnExactUseBound", spec := "fnExactUseBound", apart := false }
def FnExactUseBoundSaid : Prop := fnExactUseBoundRow.holds Try.pinned (OpenSpec.ofChange fnExactUseBoundSpec)

/-- ITS FALSE NEIGHBOUR: 'it returns false'. Refute it at one input. -/
def fnExactUseBoundWrong : ChangeSpec := { name := "fnExactUseBound", fn := fun _ => fun
  | [d1, d2, d3] => { results := [.lit (.bool false)], args := [d1, d2, d3] }
  | _ => none }
def FnExactUseBoundWrongFalsely : Prop := fnExactUseBoundRow.holds Try.pinned (OpenSpec.ofChange fnExactUseBoundWrong)

/-- 'laws.FnExactTakeDo': WHATEVER THE INPUT: true; the input reads as it did. -/
def fnExactTakeDoSpec : ChangeSpec := { name := "fnExactTakeDo", fn := fun _ => fun
  | [d1, d2, d3] => { results := [.lit (.bool true)], args := [d1, d2, d3] }
  | _ => none }
def fnExactTakeDoRow : OpenClaim := { program := "ytcodghlenniffaa", sum := "11839578dbb581f52a1281490c4c35d95091fd3cea1eaa7bb057875c809d1a1f", func := "loop.example/restaurantkitchen/laws.FnExactTakeDo", spec := "fnExactTakeDo", apart := false }
def FnExactTakeDoSaid : Prop := fnExactTakeDoRow.holds Try.pinned (OpenSpec.ofChange fnExactTakeDoSpec)

/-- ITS FALSE NEIGHBOUR: 'it returns false'. Refute it at one input. -/
def fnExactTakeDoWrong : ChangeSpec := { name := "fnExactTakeDo", fn := fun _ => fun
  | [d1, d2, d3] => { results := [.lit (.bool false)], args := [d1, d2, d3] }
  | _ => none }
def FnExactTakeDoWrongFalsely : Prop := fnExactTakeDoRow.holds Try.pinned (OpenSpec.ofChange fnExactTakeDoWrong)

/-- 'laws.FnExactUseOk': WHATEVER THE INPUT: true; the input reads as it did. -/
def fnExactUseOkSpec : ChangeSpec := { name := "fnExactUseOk", fn := fun _ => fun
  | [d1, d2, d3] => { results := [.lit (.bool true)], args := [d1, d2, d3] }
  | _ => none }
def fnExactUseOkRow : OpenClaim := { program := "ytcodghlenniffaa", sum := "11839578dbb581f52a1281490c4c35d95091fd3cea1eaa7bb057875c809d1a1f", func := "loop.example/restaurantkitchen/laws.FnExactUseOk", spec := "fnExactUseOk", apart := false }
def FnExactUseOkSaid : Prop := fnExactUseOkRow.holds Try.pinned (OpenSpec.ofChange fnExactUseOkSpec)

/-- ITS FALSE NEIGHBOUR: 'it returns false'. Refute it at one input. -/
def fnExactUseOkWrong : ChangeSpec := { name := "fnExactUseOk", fn := fun _ => fun
  | [d1, d2, d3] => { results := [.lit (.bool false)], args := [d1, d2, d3] }
  | _ => none }
def FnExactUseOkWrongFalsely : Prop := fnExactUseOkRow.holds Try.pinned (OpenSpec.ofChange fnExactUseOkWrong)

/-- 'laws.FnExactTakeFirst': WHATEVER THE INPUT: true; the input reads as it did. -/
def fnExactTakeFirstSpec : ChangeSpec := { name := "fnExactTakeFirst", fn := fun _ => fun
  | [d1, d2, d3] => { results := [.lit (.bool true)], args := [d1, d2, d3] }
  | _ => none }
def fnExactTakeFirstRow : OpenClaim := { program := "ytcodghlenniffaa", sum := "11839578dbb581f52a1281490c4c35d95091fd3cea1eaa7bb057875c809d1a1f", func := "loop.example/restaurantkitchen/laws.FnExactTakeFirst", spec := "fnExactTakeFirst", unfollowed := true, recurses := true, apart := false }
def FnExactTakeFirstSaid : Prop := fnExactTakeFirstRow.holds Try.pinned (OpenSpec.ofChange fnExactTakeFirstSpec)

/-- ITS FALSE NEIGHBOUR: 'it returns false'. Refute it at one input. -/
def fnExactTakeFirstWrong : ChangeSpec := { name := "fnExactTakeFirst", fn := fun _ => fun
  | [d1, d2, d3] => { results := [.lit (.bool false)], args := [d1, d2, d3] }
  | _ => none }
def FnExactTakeFirstWrongFalsely : Prop := fnExactTakeFirstRow.holds Try.pinned (OpenSpec.ofChange fnExactTakeFirstWrong)

/-- 'laws.FnExactUseMost': WHATEVER THE INPUT: true; the input reads as it did. -/
def fnExactUseMostSpec : ChangeSpec := { name := "fnExactUseMost", fn := fun _ => fun
  | [d1, d2] => { results := [.lit (.bool true)], args := [d1, d2] }
  | _ => none }
def fnExactUseMostRow : OpenClaim := { program := "ytcodghlenniffaa", sum := "11839578dbb581f52a1281490c4c35d95091fd3cea1eaa7bb057875c809d1a1f", func := "loop.example/restaurantkitchen/laws.FnExactUseMost", spec := "fnExactUseMost", unfollowed := true, recurses := true, apart := false }
def FnExactUseMostSaid : Prop := fnExactUseMostRow.holds Try.pinned (OpenSpec.ofChange fnExactUseMostSpec)

/-- ITS FALSE NEIGHBOUR: 'it returns false'. Refute it at one input. -/
def fnExactUseMostWrong : ChangeSpec := { name := "fnExactUseMost", fn := fun _ => fun
  | [d1, d2] => { results := [.lit (.bool false)], args := [d1, d2] }
  | _ => none }
def FnExactUseMostWrongFalsely : Prop := fnExactUseMostRow.holds Try.pinned (OpenSpec.ofChange fnExactUseMostWrong)

/-- 'laws.FnExactUseFirst': WHATEVER THE INPUT: true; the input reads as it did. -/
def fnExactUseFirstSpec : ChangeSpec := { name := "fnExactUseFirst", fn := fun _ => fun
  | [d1, d2] => { results := [.lit (.bool true)], args := [d1, d2] }
  | _ => none }
def fnExactUseFirstRow : OpenClaim := { program := "ytcodghlenniffaa", sum := "11839578dbb581f52a1281490c4c35d95091fd3cea1eaa7bb057875c809d1a1f", func := "loop.example/restaurantkitchen/laws.FnExactUseFirst", spec := "fnExactUseFirst", unfollowed := true, recurses := true, apart := false }
def FnExactUseFirstSaid : Prop := fnExactUseFirstRow.holds Try.pinned (OpenSpec.ofChange fnExactUseFirstSpec)

/-- ITS FALSE NEIGHBOUR: 'it returns false'. Refute it at one input. -/
def fnExactUseFirstWrong : ChangeSpec := { name := "fnExactUseFirst", fn := fun _ => fun
  | [d1, d2] => { results := [.lit (.bool false)], args := [d1, d2] }
  | _ => none }
def FnExactUseFirstWrongFalsely : Prop := fnExactUseFirstRow.holds Try.pinned (OpenSpec.ofChange fnExactUseFirstWrong)

/-- 'laws.FnExactLackLeast': WHATEVER THE INPUT: true; the input reads as it did. -/
def fnExactLackLeastSpec : ChangeSpec := { name := "fnExactLackLeast", fn := fun _ => fun
  | [d1, d2] => { results := [.lit (.bool true)], args := [d1, d2] }
  | _ => none }
def fnExactLackLeastRow : OpenClaim := { program := "ytcodghlenniffaa", sum := "11839578dbb581f52a1281490c4c35d95091fd3cea1eaa7bb057875c809d1a1f", func := "loop.example/restaurantkitchen/laws.FnExactLackLeast", spec := "fnExactLackLeast", unfollowed := true, recurses := true, apart := false }
def FnExactLackLeastSaid : Prop := fnExactLackLeastRow.holds Try.pinned (OpenSpec.ofChange fnExactLackLeastSpec)

/-- ITS FALSE NEIGHBOUR: 'it returns false'. Refute it at one input. -/
def fnExactLackLeastWrong : ChangeSpec := { name := "fnExactLackLeast", fn := fun _ => fun
  | [d1, d2] => { results := [.lit (.bool false)], args := [d1, d2] }
  | _ => none }
def FnExactLackLeastWrongFalsely : Prop := fnExactLackLeastRow.holds Try.pinned (OpenSpec.ofChange fnExactLackLeastWrong)

/-- 'laws.FnExactSpoilLeast': WHATEVER THE INPUT: true; the input reads as it did. -/
def fnExactSpoilLeastSpec : ChangeSpec := { name := "fnExactSpoilLeast", fn := fun _ => fun
  | [d1, d2] => { results := [.lit (.bool true)], args := [d1, d2] }
  | _ => none }
def fnExactSpoilLeastRow : OpenClaim := { program := "ytcodghlenniffaa", sum := "11839578dbb581f52a1281490c4c35d95091fd3cea1eaa7bb057875c809d1a1f", func := "loop.example/restaurantkitchen/laws.FnExactSpoilLeast", spec := "fnExactSpoilLeast", unfollowed := true, recurses := true, apart := false }
def FnExactSpoilLeastSaid : Prop := fnExactSpoilLeastRow.holds Try.pinned (OpenSpec.ofChange fnExactSpoilLeastSpec)

/-- ITS FALSE NEIGHBOUR: 'it returns false'. Refute it at one input. -/
def fnExactSpoilLeastWrong : ChangeSpec := { name := "fnExactSpoilLeast", fn := fun _ => fun
  | [d1, d2] => { results := [.lit (.bool false)], args := [d1, d2] }
  | _ => none }
def FnExactSpoilLeastWrongFalsely : Prop := fnExactSpoilLeastRow.holds Try.pinned (OpenSpec.ofChange fnExactSpoilLeastWrong)

/- THE SECOND FORM. 'bulk': how many values and letters a reading holds, each counted each time it is reached (what is shared counts as often as it is met; a slice's spare places count too). A statement '..UptoSaid' is the law's where the arguments, and the package variables that the reading takes, are together of bulk at most 1048576: NARROWER than '..Said'. Prove '..Said' where nothing that the law and all that it calls make is longer than what came in: it says more and counts as full. Else prove '..UptoSaid'. A law counts once. -/
mutual
def uptoBulk {H : Type} : DataW H → Nat
  | .lit (.string bytes) => bytes.length + 1
  | .lit _ => 1
  | .nil => 1
  | .ptr d => uptoBulk d + 1
  | .slice elems spare => uptoBulkAll elems + uptoBulkAll spare + 1
  | .agg parts => uptoBulkAll parts + 1
  | .iface _ d => uptoBulk d + 1
  | .map entries => uptoBulkEntries entries + 1
  | .held _ => 1
def uptoBulkAll {H : Type} : List (DataW H) → Nat
  | [] => 0
  | d :: r => uptoBulk d + uptoBulkAll r
def uptoBulkEntries {H : Type} : List (Lit × DataW H) → Nat
  | [] => 0
  | x :: r => uptoBulkEntry x + uptoBulkEntries r
def uptoBulkEntry {H : Type} : Lit × DataW H → Nat
  | (.string bytes, d) => bytes.length + uptoBulk d + 1
  | (_, d) => uptoBulk d + 1
 end
def uptoSmall : (H : Type) → List (DataW H) → Bool := fun _ ds => decide (uptoBulkAll ds ≤ 1048576)
def OpenSpec.upto (s : _root_.Go.ChangeSpec) : _root_.Go.OpenSpec := { _root_.Go.OpenSpec.ofChange s with cond := some uptoSmall }

/-- 'laws.FnExactWantsValid', WHERE WHAT IT READS IS OF BULK AT MOST 1048576: true; the input reads as it did. -/
def fnExactWantsValidUptoRow : OpenClaim := { program := "ytcodghlenniffaa", sum := "11839578dbb581f52a1281490c4c35d95091fd3cea1eaa7bb057875c809d1a1f", func := "loop.example/restaurantkitchen/laws.FnExactWantsValid", spec := "fnExactWantsValid", apart := false, narrowed := true }
def FnExactWantsValidUptoSaid : Prop := fnExactWantsValidUptoRow.holds Try.pinned (OpenSpec.upto fnExactWantsValidSpec)

/-- 'laws.FnExactLotsValid', WHERE WHAT IT READS IS OF BULK AT MOST 1048576: true; the input reads as it did. -/
def fnExactLotsValidUptoRow : OpenClaim := { program := "ytcodghlenniffaa", sum := "11839578dbb581f52a1281490c4c35d95091fd3cea1eaa7bb057875c809d1a1f", func := "loop.example/restaurantkitchen/laws.FnExactLotsValid", spec := "fnExactLotsValid", apart := false, narrowed := true }
def FnExactLotsValidUptoSaid : Prop := fnExactLotsValidUptoRow.holds Try.pinned (OpenSpec.upto fnExactLotsValidSpec)

/-- 'laws.FnExactUseSum', WHERE WHAT IT READS IS OF BULK AT MOST 1048576: true; the input reads as it did. -/
def fnExactUseSumUptoRow : OpenClaim := { program := "ytcodghlenniffaa", sum := "11839578dbb581f52a1281490c4c35d95091fd3cea1eaa7bb057875c809d1a1f", func := "loop.example/restaurantkitchen/laws.FnExactUseSum", spec := "fnExactUseSum", apart := false, narrowed := true }
def FnExactUseSumUptoSaid : Prop := fnExactUseSumUptoRow.holds Try.pinned (OpenSpec.upto fnExactUseSumSpec)

/-- 'laws.FnExactLotsAt', WHERE WHAT IT READS IS OF BULK AT MOST 1048576: true; the input reads as it did. -/
def fnExactLotsAtUptoRow : OpenClaim := { program := "ytcodghlenniffaa", sum := "11839578dbb581f52a1281490c4c35d95091fd3cea1eaa7bb057875c809d1a1f", func := "loop.example/restaurantkitchen/laws.FnExactLotsAt", spec := "fnExactLotsAt", apart := false, narrowed := true }
def FnExactLotsAtUptoSaid : Prop := fnExactLotsAtUptoRow.holds Try.pinned (OpenSpec.upto fnExactLotsAtSpec)

/-- 'laws.FnExactTakeOk', WHERE WHAT IT READS IS OF BULK AT MOST 1048576: true; the input reads as it did. -/
def fnExactTakeOkUptoRow : OpenClaim := { program := "ytcodghlenniffaa", sum := "11839578dbb581f52a1281490c4c35d95091fd3cea1eaa7bb057875c809d1a1f", func := "loop.example/restaurantkitchen/laws.FnExactTakeOk", spec := "fnExactTakeOk", apart := false, narrowed := true }
def FnExactTakeOkUptoSaid : Prop := fnExactTakeOkUptoRow.holds Try.pinned (OpenSpec.upto fnExactTakeOkSpec)

/-- 'laws.FnExactUseBound', WHERE WHAT IT READS IS OF BULK AT MOST 1048576: true; the input reads as it did. -/
def fnExactUseBoundUptoRow : OpenClaim := { program := "ytcodghlenniffaa", sum := "11839578dbb581f52a1281490c4c35d95091fd3cea1eaa7bb057875c809d1a1f", func := "loop.example/restaurantkitchen/laws.FnExactUseBound", spec := "fnExactUseBound", apart := false, narrowed := true }
def FnExactUseBoundUptoSaid : Prop := fnExactUseBoundUptoRow.holds Try.pinned (OpenSpec.upto fnExactUseBoundSpec)

/-- 'laws.FnExactTakeDo', WHERE WHAT IT READS IS OF BULK AT MOST 1048576: true; the input reads as it did. -/
def fnExactTakeDoUptoRow : OpenClaim := { program := "ytcodghlenniffaa", sum := "11839578dbb581f52a1281490c4c35d95091fd3cea1eaa7bb057875c809d1a1f", func := "loop.example/restaurantkitchen/laws.FnExactTakeDo", spec := "fnExactTakeDo", apart := false, narrowed := true }
def FnExactTakeDoUptoSaid : Prop := fnExactTakeDoUptoRow.holds Try.pinned (OpenSpec.upto fnExactTakeDoSpec)

/-- 'laws.FnExactUseOk', WHERE WHAT IT READS IS OF BULK AT MOST 1048576: true; the input reads as it did. -/
def fnExactUseOkUptoRow : OpenClaim := { program := "ytcodghlenniffaa", sum := "11839578dbb581f52a1281490c4c35d95091fd3cea1eaa7bb057875c809d1a1f", func := "loop.example/restaurantkitchen/laws.FnExactUseOk", spec := "fnExactUseOk", apart := false, narrowed := true }
def FnExactUseOkUptoSaid : Prop := fnExactUseOkUptoRow.holds Try.pinned (OpenSpec.upto fnExactUseOkSpec)

/-- 'laws.FnExactTakeFirst', WHERE WHAT IT READS IS OF BULK AT MOST 1048576: true; the input reads as it did. -/
def fnExactTakeFirstUptoRow : OpenClaim := { program := "ytcodghlenniffaa", sum := "11839578dbb581f52a1281490c4c35d95091fd3cea1eaa7bb057875c809d1a1f", func := "loop.example/restaurantkitchen/laws.FnExactTakeFirst", spec := "fnExactTakeFirst", unfollowed := true, recurses := true, apart := false, narrowed := true }
def FnExactTakeFirstUptoSaid : Prop := fnExactTakeFirstUptoRow.holds Try.pinned (OpenSpec.upto fnExactTakeFirstSpec)

/-- 'laws.FnExactUseMost', WHERE WHAT IT READS IS OF BULK AT MOST 1048576: true; the input reads as it did. -/
def fnExactUseMostUptoRow : OpenClaim := { program := "ytcodghlenniffaa", sum := "11839578dbb581f52a1281490c4c35d95091fd3cea1eaa7bb057875c809d1a1f", func := "loop.example/restaurantkitchen/laws.FnExactUseMost", spec := "fnExactUseMost", unfollowed := true, recurses := true, apart := false, narrowed := true }
def FnExactUseMostUptoSaid : Prop := fnExactUseMostUptoRow.holds Try.pinned (OpenSpec.upto fnExactUseMostSpec)

/-- 'laws.FnExactUseFirst', WHERE WHAT IT READS IS OF BULK AT MOST 1048576: true; the input reads as it did. -/
def fnExactUseFirstUptoRow : OpenClaim := { program := "ytcodghlenniffaa", sum := "11839578dbb581f52a1281490c4c35d95091fd3cea1eaa7bb057875c809d1a1f", func := "loop.example/restaurantkitchen/laws.FnExactUseFirst", spec := "fnExactUseFirst", unfollowed := true, recurses := true, apart := false, narrowed := true }
def FnExactUseFirstUptoSaid : Prop := fnExactUseFirstUptoRow.holds Try.pinned (OpenSpec.upto fnExactUseFirstSpec)

/-- 'laws.FnExactLackLeast', WHERE WHAT IT READS IS OF BULK AT MOST 1048576: true; the input reads as it did. -/
def fnExactLackLeastUptoRow : OpenClaim := { program := "ytcodghlenniffaa", sum := "11839578dbb581f52a1281490c4c35d95091fd3cea1eaa7bb057875c809d1a1f", func := "loop.example/restaurantkitchen/laws.FnExactLackLeast", spec := "fnExactLackLeast", unfollowed := true, recurses := true, apart := false, narrowed := true }
def FnExactLackLeastUptoSaid : Prop := fnExactLackLeastUptoRow.holds Try.pinned (OpenSpec.upto fnExactLackLeastSpec)

/-- 'laws.FnExactSpoilLeast', WHERE WHAT IT READS IS OF BULK AT MOST 1048576: true; the input reads as it did. -/
def fnExactSpoilLeastUptoRow : OpenClaim := { program := "ytcodghlenniffaa", sum := "11839578dbb581f52a1281490c4c35d95091fd3cea1eaa7bb057875c809d1a1f", func := "loop.example/restaurantkitchen/laws.FnExactSpoilLeast", spec := "fnExactSpoilLeast", unfollowed := true, recurses := true, apart := false, narrowed := true }
def FnExactSpoilLeastUptoSaid : Prop := fnExactSpoilLeastUptoRow.holds Try.pinned (OpenSpec.upto fnExactSpoilLeastSpec)

end Rows
end Go.Proofs.Ytcodghlenniffaa
