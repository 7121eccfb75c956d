/-
  No cell of these rows narrows 'for every input' (looked for: loops, veiled, ifaces, maps, wideKeys, modest, calm, conditions, laid).
  DERIVED. THE GIVEN ROWS OF THIS SEAT. 10 by the template 'for every input the law returns true; each argument reads behind the call as it read before'; 0 by the template 'total and deterministic' (their statements: YtbkjfgbafphopaaTotals.lean).
  GIVEN WITH THE SEED: the statements are not yours to turn. If you find one false, say at which input.
  Laid BY PROGRAM, IN A SANDBOX (cutbox-rows.mjs): the forced cells as the released guide's own fill.sh prints them over the translation e724c035a1f1efc1… (all of the seat's roots in one cut). By AI agents, Wed Nov 11 2026. No macro, syntax, notation, axiom, sorry.
-/
import Derived.Test.YtbkjfgbafphopaaChecked
import GoSem.Claim
import GoSem.ClaimJoined
import GoSem.ClaimMapViews
import Derived.JoinedTies
import Derived.KernelRfl
namespace Go.Proofs.Ytbkjfgbafphopaa
/- THE CELL 'sum', in the pinned program and in every row, IS THE sha256 OF THE DUMP (.gsa) THAT YtbkjfgbafphopaaProg.lean LOADS. Nothing in Lean hashes anything: it is a label: what it is worth is what the hold of that sum in a sandbox is worth. -/
noncomputable def Try.pinned : Pinned := { name := "ytbkjfgbafphopaa", sum := "e724c035a1f1efc1c840d1631feddfc669595044f03022934ee29f49eef39095", checked := Try.checked }
namespace Rows
def none {H : Type} : Left H := { results := [], args := [] }

/-- 'laws.FnExactItemsValid': WHATEVER THE INPUT: true; the input reads as it did. -/
def fnExactItemsValidSpec : ChangeSpec := { name := "fnExactItemsValid", fn := fun _ => fun
  | [d] => { results := [.lit (.bool true)], args := [d] }
  | _ => none }
def fnExactItemsValidRow : OpenClaim := { program := "ytbkjfgbafphopaa", sum := "e724c035a1f1efc1c840d1631feddfc669595044f03022934ee29f49eef39095", func := "loop.example/restaurantkitchen/laws.FnExactItemsValid", spec := "fnExactItemsValid", apart := false }
def FnExactItemsValidSaid : Prop := fnExactItemsValidRow.holds Try.pinned (OpenSpec.ofChange fnExactItemsValidSpec)

/-- ITS FALSE NEIGHBOUR: 'it returns false'. Refute it at one input. -/
def fnExactItemsValidWrong : ChangeSpec := { name := "fnExactItemsValid", fn := fun _ => fun
  | [d] => { results := [.lit (.bool false)], args := [d] }
  | _ => none }
def FnExactItemsValidWrongFalsely : Prop := fnExactItemsValidRow.holds Try.pinned (OpenSpec.ofChange fnExactItemsValidWrong)

/-- 'laws.FnExactUsesOf': WHATEVER THE INPUT: true; the input reads as it did. -/
def fnExactUsesOfSpec : ChangeSpec := { name := "fnExactUsesOf", fn := fun _ => fun
  | [d1, d2] => { results := [.lit (.bool true)], args := [d1, d2] }
  | _ => none }
def fnExactUsesOfRow : OpenClaim := { program := "ytbkjfgbafphopaa", sum := "e724c035a1f1efc1c840d1631feddfc669595044f03022934ee29f49eef39095", func := "loop.example/restaurantkitchen/laws.FnExactUsesOf", spec := "fnExactUsesOf", apart := false }
def FnExactUsesOfSaid : Prop := fnExactUsesOfRow.holds Try.pinned (OpenSpec.ofChange fnExactUsesOfSpec)

/-- ITS FALSE NEIGHBOUR: 'it returns false'. Refute it at one input. -/
def fnExactUsesOfWrong : ChangeSpec := { name := "fnExactUsesOf", fn := fun _ => fun
  | [d1, d2] => { results := [.lit (.bool false)], args := [d1, d2] }
  | _ => none }
def FnExactUsesOfWrongFalsely : Prop := fnExactUsesOfRow.holds Try.pinned (OpenSpec.ofChange fnExactUsesOfWrong)

/-- 'laws.FnExactPricesValid': WHATEVER THE INPUT: true; the input reads as it did. -/
def fnExactPricesValidSpec : ChangeSpec := { name := "fnExactPricesValid", fn := fun _ => fun
  | [d1, d2] => { results := [.lit (.bool true)], args := [d1, d2] }
  | _ => none }
def fnExactPricesValidRow : OpenClaim := { program := "ytbkjfgbafphopaa", sum := "e724c035a1f1efc1c840d1631feddfc669595044f03022934ee29f49eef39095", func := "loop.example/restaurantkitchen/laws.FnExactPricesValid", spec := "fnExactPricesValid", apart := false }
def FnExactPricesValidSaid : Prop := fnExactPricesValidRow.holds Try.pinned (OpenSpec.ofChange fnExactPricesValidSpec)

/-- ITS FALSE NEIGHBOUR: 'it returns false'. Refute it at one input. -/
def fnExactPricesValidWrong : ChangeSpec := { name := "fnExactPricesValid", fn := fun _ => fun
  | [d1, d2] => { results := [.lit (.bool false)], args := [d1, d2] }
  | _ => none }
def FnExactPricesValidWrongFalsely : Prop := fnExactPricesValidRow.holds Try.pinned (OpenSpec.ofChange fnExactPricesValidWrong)

/-- 'laws.FnExactMarksOf': WHATEVER THE INPUT: true; the input reads as it did. -/
def fnExactMarksOfSpec : ChangeSpec := { name := "fnExactMarksOf", fn := fun _ => fun
  | [d1, d2] => { results := [.lit (.bool true)], args := [d1, d2] }
  | _ => none }
def fnExactMarksOfRow : OpenClaim := { program := "ytbkjfgbafphopaa", sum := "e724c035a1f1efc1c840d1631feddfc669595044f03022934ee29f49eef39095", func := "loop.example/restaurantkitchen/laws.FnExactMarksOf", spec := "fnExactMarksOf", apart := false }
def FnExactMarksOfSaid : Prop := fnExactMarksOfRow.holds Try.pinned (OpenSpec.ofChange fnExactMarksOfSpec)

/-- ITS FALSE NEIGHBOUR: 'it returns false'. Refute it at one input. -/
def fnExactMarksOfWrong : ChangeSpec := { name := "fnExactMarksOf", fn := fun _ => fun
  | [d1, d2] => { results := [.lit (.bool false)], args := [d1, d2] }
  | _ => none }
def FnExactMarksOfWrongFalsely : Prop := fnExactMarksOfRow.holds Try.pinned (OpenSpec.ofChange fnExactMarksOfWrong)

/-- 'laws.FnExactPlanCost': WHATEVER THE INPUT: true; the input reads as it did. -/
def fnExactPlanCostSpec : ChangeSpec := { name := "fnExactPlanCost", fn := fun _ => fun
  | [d1, d2, d3] => { results := [.lit (.bool true)], args := [d1, d2, d3] }
  | _ => none }
def fnExactPlanCostRow : OpenClaim := { program := "ytbkjfgbafphopaa", sum := "e724c035a1f1efc1c840d1631feddfc669595044f03022934ee29f49eef39095", func := "loop.example/restaurantkitchen/laws.FnExactPlanCost", spec := "fnExactPlanCost", apart := false }
def FnExactPlanCostSaid : Prop := fnExactPlanCostRow.holds Try.pinned (OpenSpec.ofChange fnExactPlanCostSpec)

/-- ITS FALSE NEIGHBOUR: 'it returns false'. Refute it at one input. -/
def fnExactPlanCostWrong : ChangeSpec := { name := "fnExactPlanCost", fn := fun _ => fun
  | [d1, d2, d3] => { results := [.lit (.bool false)], args := [d1, d2, d3] }
  | _ => none }
def FnExactPlanCostWrongFalsely : Prop := fnExactPlanCostRow.holds Try.pinned (OpenSpec.ofChange fnExactPlanCostWrong)

/-- 'laws.FnExactUnitCost': WHATEVER THE INPUT: true; the input reads as it did. -/
def fnExactUnitCostSpec : ChangeSpec := { name := "fnExactUnitCost", fn := fun _ => fun
  | [d1, d2, d3] => { results := [.lit (.bool true)], args := [d1, d2, d3] }
  | _ => none }
def fnExactUnitCostRow : OpenClaim := { program := "ytbkjfgbafphopaa", sum := "e724c035a1f1efc1c840d1631feddfc669595044f03022934ee29f49eef39095", func := "loop.example/restaurantkitchen/laws.FnExactUnitCost", spec := "fnExactUnitCost", apart := false }
def FnExactUnitCostSaid : Prop := fnExactUnitCostRow.holds Try.pinned (OpenSpec.ofChange fnExactUnitCostSpec)

/-- ITS FALSE NEIGHBOUR: 'it returns false'. Refute it at one input. -/
def fnExactUnitCostWrong : ChangeSpec := { name := "fnExactUnitCost", fn := fun _ => fun
  | [d1, d2, d3] => { results := [.lit (.bool false)], args := [d1, d2, d3] }
  | _ => none }
def FnExactUnitCostWrongFalsely : Prop := fnExactUnitCostRow.holds Try.pinned (OpenSpec.ofChange fnExactUnitCostWrong)

/-- 'laws.FnExactPlanOk': WHATEVER THE INPUT: true; the input reads as it did. -/
def fnExactPlanOkSpec : ChangeSpec := { name := "fnExactPlanOk", fn := fun _ => fun
  | [d1, d2, d3, d4] => { results := [.lit (.bool true)], args := [d1, d2, d3, d4] }
  | _ => none }
def fnExactPlanOkRow : OpenClaim := { program := "ytbkjfgbafphopaa", sum := "e724c035a1f1efc1c840d1631feddfc669595044f03022934ee29f49eef39095", func := "loop.example/restaurantkitchen/laws.FnExactPlanOk", spec := "fnExactPlanOk", apart := false }
def FnExactPlanOkSaid : Prop := fnExactPlanOkRow.holds Try.pinned (OpenSpec.ofChange fnExactPlanOkSpec)

/-- ITS FALSE NEIGHBOUR: 'it returns false'. Refute it at one input. -/
def fnExactPlanOkWrong : ChangeSpec := { name := "fnExactPlanOk", fn := fun _ => fun
  | [d1, d2, d3, d4] => { results := [.lit (.bool false)], args := [d1, d2, d3, d4] }
  | _ => none }
def FnExactPlanOkWrongFalsely : Prop := fnExactPlanOkRow.holds Try.pinned (OpenSpec.ofChange fnExactPlanOkWrong)

/-- 'laws.FnExactFreeOf': WHATEVER THE INPUT: true; the input reads as it did. -/
def fnExactFreeOfSpec : ChangeSpec := { name := "fnExactFreeOf", fn := fun _ => fun
  | [d1, d2] => { results := [.lit (.bool true)], args := [d1, d2] }
  | _ => none }
def fnExactFreeOfRow : OpenClaim := { program := "ytbkjfgbafphopaa", sum := "e724c035a1f1efc1c840d1631feddfc669595044f03022934ee29f49eef39095", func := "loop.example/restaurantkitchen/laws.FnExactFreeOf", spec := "fnExactFreeOf", apart := false }
def FnExactFreeOfSaid : Prop := fnExactFreeOfRow.holds Try.pinned (OpenSpec.ofChange fnExactFreeOfSpec)

/-- ITS FALSE NEIGHBOUR: 'it returns false'. Refute it at one input. -/
def fnExactFreeOfWrong : ChangeSpec := { name := "fnExactFreeOf", fn := fun _ => fun
  | [d1, d2] => { results := [.lit (.bool false)], args := [d1, d2] }
  | _ => none }
def FnExactFreeOfWrongFalsely : Prop := fnExactFreeOfRow.holds Try.pinned (OpenSpec.ofChange fnExactFreeOfWrong)

/-- 'laws.FnExactMakeRun': WHATEVER THE INPUT: true; the input reads as it did. -/
def fnExactMakeRunSpec : ChangeSpec := { name := "fnExactMakeRun", fn := fun _ => fun
  | [d1, d2, d3] => { results := [.lit (.bool true)], args := [d1, d2, d3] }
  | _ => none }
def fnExactMakeRunRow : OpenClaim := { program := "ytbkjfgbafphopaa", sum := "e724c035a1f1efc1c840d1631feddfc669595044f03022934ee29f49eef39095", func := "loop.example/restaurantkitchen/laws.FnExactMakeRun", spec := "fnExactMakeRun", apart := false }
def FnExactMakeRunSaid : Prop := fnExactMakeRunRow.holds Try.pinned (OpenSpec.ofChange fnExactMakeRunSpec)

/-- ITS FALSE NEIGHBOUR: 'it returns false'. Refute it at one input. -/
def fnExactMakeRunWrong : ChangeSpec := { name := "fnExactMakeRun", fn := fun _ => fun
  | [d1, d2, d3] => { results := [.lit (.bool false)], args := [d1, d2, d3] }
  | _ => none }
def FnExactMakeRunWrongFalsely : Prop := fnExactMakeRunRow.holds Try.pinned (OpenSpec.ofChange fnExactMakeRunWrong)

/-- 'laws.FnExactPlanLeast': WHATEVER THE INPUT: true; the input reads as it did. -/
def fnExactPlanLeastSpec : ChangeSpec := { name := "fnExactPlanLeast", fn := fun _ => fun
  | [d1, d2, d3] => { results := [.lit (.bool true)], args := [d1, d2, d3] }
  | _ => none }
def fnExactPlanLeastRow : OpenClaim := { program := "ytbkjfgbafphopaa", sum := "e724c035a1f1efc1c840d1631feddfc669595044f03022934ee29f49eef39095", func := "loop.example/restaurantkitchen/laws.FnExactPlanLeast", spec := "fnExactPlanLeast", apart := false }
def FnExactPlanLeastSaid : Prop := fnExactPlanLeastRow.holds Try.pinned (OpenSpec.ofChange fnExactPlanLeastSpec)

/-- ITS FALSE NEIGHBOUR: 'it returns false'. Refute it at one input. -/
def fnExactPlanLeastWrong : ChangeSpec := { name := "fnExactPlanLeast", fn := fun _ => fun
  | [d1, d2, d3] => { results := [.lit (.bool false)], args := [d1, d2, d3] }
  | _ => none }
def FnExactPlanLeastWrongFalsely : Prop := fnExactPlanLeastRow.holds Try.pinned (OpenSpec.ofChange fnExactPlanLeastWrong)

/- THE SECOND FORM. 'bulk': how many values and letters a reading holds, each counted each time it is reached (what is shared counts as often as it is met; a slice's spare places count too). A statement '..UptoSaid' is the law's where the arguments, and the package variables that the reading takes, are together of bulk at most 1048576: NARROWER than '..Said'. Prove '..Said' where nothing that the law and all that it calls make is longer than what came in: it says more and counts as full. Else prove '..UptoSaid'. A law counts once. -/
mutual
def uptoBulk {H : Type} : DataW H → Nat
  | .lit (.string bytes) => bytes.length + 1
  | .lit _ => 1
  | .nil => 1
  | .ptr d => uptoBulk d + 1
  | .slice elems spare => uptoBulkAll elems + uptoBulkAll spare + 1
  | .agg parts => uptoBulkAll parts + 1
  | .iface _ d => uptoBulk d + 1
  | .map entries => uptoBulkEntries entries + 1
  | .held _ => 1
def uptoBulkAll {H : Type} : List (DataW H) → Nat
  | [] => 0
  | d :: r => uptoBulk d + uptoBulkAll r
def uptoBulkEntries {H : Type} : List (Lit × DataW H) → Nat
  | [] => 0
  | x :: r => uptoBulkEntry x + uptoBulkEntries r
def uptoBulkEntry {H : Type} : Lit × DataW H → Nat
  | (.string bytes, d) => bytes.length + uptoBulk d + 1
  | (_, d) => uptoBulk d + 1
 end
def uptoSmall : (H : Type) → List (DataW H) → Bool := fun _ ds => decide (uptoBulkAll ds ≤ 1048576)
def OpenSpec.upto (s : _root_.Go.ChangeSpec) : _root_.Go.OpenSpec := { _root_.Go.OpenSpec.ofChange s with cond := some uptoSmall }

/-- 'laws.FnExactItemsValid', WHERE WHAT IT READS IS OF BULK AT MOST 1048576: true; the input reads as it did. -/
def fnExactItemsValidUptoRow : OpenClaim := { program := "ytbkjfgbafphopaa", sum := "e724c035a1f1efc1c840d1631feddfc669595044f03022934ee29f49eef39095", func := "loop.example/restaurantkitchen/laws.FnExactItemsValid", spec := "fnExactItemsValid", apart := false, narrowed := true }
def FnExactItemsValidUptoSaid : Prop := fnExactItemsValidUptoRow.holds Try.pinned (OpenSpec.upto fnExactItemsValidSpec)

/-- 'laws.FnExactUsesOf', WHERE WHAT IT READS IS OF BULK AT MOST 1048576: true; the input reads as it did. -/
def fnExactUsesOfUptoRow : OpenClaim := { program := "ytbkjfgbafphopaa", sum := "e724c035a1f1efc1c840d1631feddfc669595044f03022934ee29f49eef39095", func := "loop.example/restaurantkitchen/laws.FnExactUsesOf", spec := "fnExactUsesOf", apart := false, narrowed := true }
def FnExactUsesOfUptoSaid : Prop := fnExactUsesOfUptoRow.holds Try.pinned (OpenSpec.upto fnExactUsesOfSpec)

/-- 'laws.FnExactPricesValid', WHERE WHAT IT READS IS OF BULK AT MOST 1048576: true; the input reads as it did. -/
def fnExactPricesValidUptoRow : OpenClaim := { program := "ytbkjfgbafphopaa", sum := "e724c035a1f1efc1c840d1631feddfc669595044f03022934ee29f49eef39095", func := "loop.example/restaurantkitchen/laws.FnExactPricesValid", spec := "fnExactPricesValid", apart := false, narrowed := true }
def FnExactPricesValidUptoSaid : Prop := fnExactPricesValidUptoRow.holds Try.pinned (OpenSpec.upto fnExactPricesValidSpec)

/-- 'laws.FnExactMarksOf', WHERE WHAT IT READS IS OF BULK AT MOST 1048576: true; the input reads as it did. -/
def fnExactMarksOfUptoRow : OpenClaim := { program := "ytbkjfgbafphopaa", sum := "e724c035a1f1efc1c840d1631feddfc669595044f03022934ee29f49eef39095", func := "loop.example/restaurantkitchen/laws.FnExactMarksOf", spec := "fnExactMarksOf", apart := false, narrowed := true }
def FnExactMarksOfUptoSaid : Prop := fnExactMarksOfUptoRow.holds Try.pinned (OpenSpec.upto fnExactMarksOfSpec)

/-- 'laws.FnExactPlanCost', WHERE WHAT IT READS IS OF BULK AT MOST 1048576: true; the input reads as it did. -/
def fnExactPlanCostUptoRow : OpenClaim := { program := "ytbkjfgbafphopaa", sum := "e724c035a1f1efc1c840d1631feddfc669595044f03022934ee29f49eef39095", func := "loop.example/restaurantkitchen/laws.FnExactPlanCost", spec := "fnExactPlanCost", apart := false, narrowed := true }
def FnExactPlanCostUptoSaid : Prop := fnExactPlanCostUptoRow.holds Try.pinned (OpenSpec.upto fnExactPlanCostSpec)

/-- 'laws.FnExactUnitCost', WHERE WHAT IT READS IS OF BULK AT MOST 1048576: true; the input reads as it did. -/
def fnExactUnitCostUptoRow : OpenClaim := { program := "ytbkjfgbafphopaa", sum := "e724c035a1f1efc1c840d1631feddfc669595044f03022934ee29f49eef39095", func := "loop.example/restaurantkitchen/laws.FnExactUnitCost", spec := "fnExactUnitCost", apart := false, narrowed := true }
def FnExactUnitCostUptoSaid : Prop := fnExactUnitCostUptoRow.holds Try.pinned (OpenSpec.upto fnExactUnitCostSpec)

/-- 'laws.FnExactPlanOk', WHERE WHAT IT READS IS OF BULK AT MOST 1048576: true; the input reads as it did. -/
def fnExactPlanOkUptoRow : OpenClaim := { program := "ytbkjfgbafphopaa", sum := "e724c035a1f1efc1c840d1631feddfc669595044f03022934ee29f49eef39095", func := "loop.example/restaurantkitchen/laws.FnExactPlanOk", spec := "fnExactPlanOk", apart := false, narrowed := true }
def FnExactPlanOkUptoSaid : Prop := fnExactPlanOkUptoRow.holds Try.pinned (OpenSpec.upto fnExactPlanOkSpec)

/-- 'laws.FnExactFreeOf', WHERE WHAT IT READS IS OF BULK AT MOST 1048576: true; the input reads as it did. -/
def fnExactFreeOfUptoRow : OpenClaim := { program := "ytbkjfgbafphopaa", sum := "e724c035a1f1efc1c840d1631feddfc669595044f03022934ee29f49eef39095", func := "loop.example/restaurantkitchen/laws.FnExactFreeOf", spec := "fnExactFreeOf", apart := false, narrowed := true }
def FnExactFreeOfUptoSaid : Prop := fnExactFreeOfUptoRow.holds Try.pinned (OpenSpec.upto fnExactFreeOfSpec)

/-- 'laws.FnExactMakeRun', WHERE WHAT IT READS IS OF BULK AT MOST 1048576: true; the input reads as it did. -/
def fnExactMakeRunUptoRow : OpenClaim := { program := "ytbkjfgbafphopaa", sum := "e724c035a1f1efc1c840d1631feddfc669595044f03022934ee29f49eef39095", func := "loop.example/restaurantkitchen/laws.FnExactMakeRun", spec := "fnExactMakeRun", apart := false, narrowed := true }
def FnExactMakeRunUptoSaid : Prop := fnExactMakeRunUptoRow.holds Try.pinned (OpenSpec.upto fnExactMakeRunSpec)

/-- 'laws.FnExactPlanLeast', WHERE WHAT IT READS IS OF BULK AT MOST 1048576: true; the input reads as it did. -/
def fnExactPlanLeastUptoRow : OpenClaim := { program := "ytbkjfgbafphopaa", sum := "e724c035a1f1efc1c840d1631feddfc669595044f03022934ee29f49eef39095", func := "loop.example/restaurantkitchen/laws.FnExactPlanLeast", spec := "fnExactPlanLeast", apart := false, narrowed := true }
def FnExactPlanLeastUptoSaid : Prop := fnExactPlanLeastUptoRow.holds Try.pinned (OpenSpec.upto fnExactPlanLeastSpec)

end Rows
end Go.Proofs.Ytbkjfgbafphopaa
