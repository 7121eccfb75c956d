/-
  NARROWER THAN 'FOR EVERY INPUT', by the rows' own cells (each row's printed sentence says how): FnSpoilLeast: laid · FnUseOk: laid · FnLotsValid: laid · FnWantsValid: laid · FnLotsAt: laid · FnTakeOk: laid · FnTakeDo: laid · FnUseSum: laid · FnTakeFirst: laid · FnUseBound: laid · FnLackLeast: laid · FnUseMost: laid · FnUseFirst: laid.
  DERIVED. THE GIVEN ROWS OF THIS SEAT. 13 by the template 'for every input the law returns true; each argument reads behind the call as it read before'; 0 by the template 'total and deterministic' (their statements: YteeklaplnhafoaaDoorTotals.lean).
  GIVEN WITH THE SEED: the statements are not yours to turn. If you find one false, say at which input.
  Laid BY PROGRAM, IN A SANDBOX (cutbox-rows.mjs): the forced cells as the released guide's own fill.sh prints them over the translation f0789b799b370824… (all of the seat's roots in one cut). By AI agents, Wed Nov 11 2026. No macro, syntax, notation, axiom, sorry.
-/
import Derived.Test.YteeklaplnhafoaaDoorChecked
import GoSem.Claim
import GoSem.ClaimJoined
import GoSem.ClaimMapViews
import Derived.JoinedTies
import Derived.KernelRfl
namespace Go.Proofs.YteeklaplnhafoaaDoor
/- THE CELL 'sum', in the pinned program and in every row, IS THE sha256 OF THE DUMP (.gsa) THAT YteeklaplnhafoaaDoorProg.lean LOADS. Nothing in Lean hashes anything: it is a label: what it is worth is what the hold of that sum in a sandbox is worth. -/
noncomputable def Tryd.pinned : Pinned := { name := "yteeklaplnhafoaadoor", sum := "f0789b799b37082422fffde953618832552e0f4dba316bd94b59eb2e26c46224", checked := Tryd.checked }
namespace Rows
def none {H : Type} : Left H := { results := [], args := [] }

/- WHAT THE LISTED PACKAGE-LEVEL VARIABLES READ AS WHEN THE CALL BEGINS. Each datum BY PROGRAM (the guide's laid-datum.mjs) off the statement by which the dump's own 'gosem.cut.vars' lays the variable. In a bare row this is a premise. The card (YteeklaplnhafoaaDoorCards.lean) ties it to the program's text. -/
def laid_math_bits_deBruijn32tab {H : Type} : DataW H := .agg [.lit (.int .u8 0), .lit (.int .u8 1), .lit (.int .u8 28), .lit (.int .u8 2), .lit (.int .u8 29), .lit (.int .u8 14), .lit (.int .u8 24), .lit (.int .u8 3), .lit (.int .u8 30), .lit (.int .u8 22), .lit (.int .u8 20), .lit (.int .u8 15), .lit (.int .u8 25), .lit (.int .u8 17), .lit (.int .u8 4), .lit (.int .u8 8), .lit (.int .u8 31), .lit (.int .u8 27), .lit (.int .u8 13), .lit (.int .u8 23), .lit (.int .u8 21), .lit (.int .u8 19), .lit (.int .u8 16), .lit (.int .u8 7), .lit (.int .u8 26), .lit (.int .u8 12), .lit (.int .u8 18), .lit (.int .u8 6), .lit (.int .u8 11), .lit (.int .u8 5), .lit (.int .u8 10), .lit (.int .u8 9)]
def laid_math_bits_deBruijn64tab {H : Type} : DataW H := .agg [.lit (.int .u8 0), .lit (.int .u8 1), .lit (.int .u8 56), .lit (.int .u8 2), .lit (.int .u8 57), .lit (.int .u8 49), .lit (.int .u8 28), .lit (.int .u8 3), .lit (.int .u8 61), .lit (.int .u8 58), .lit (.int .u8 42), .lit (.int .u8 50), .lit (.int .u8 38), .lit (.int .u8 29), .lit (.int .u8 17), .lit (.int .u8 4), .lit (.int .u8 62), .lit (.int .u8 47), .lit (.int .u8 59), .lit (.int .u8 36), .lit (.int .u8 45), .lit (.int .u8 43), .lit (.int .u8 51), .lit (.int .u8 22), .lit (.int .u8 53), .lit (.int .u8 39), .lit (.int .u8 33), .lit (.int .u8 30), .lit (.int .u8 24), .lit (.int .u8 18), .lit (.int .u8 12), .lit (.int .u8 5), .lit (.int .u8 63), .lit (.int .u8 55), .lit (.int .u8 48), .lit (.int .u8 27), .lit (.int .u8 60), .lit (.int .u8 41), .lit (.int .u8 37), .lit (.int .u8 16), .lit (.int .u8 46), .lit (.int .u8 35), .lit (.int .u8 44), .lit (.int .u8 21), .lit (.int .u8 52), .lit (.int .u8 32), .lit (.int .u8 23), .lit (.int .u8 11), .lit (.int .u8 54), .lit (.int .u8 26), .lit (.int .u8 40), .lit (.int .u8 15), .lit (.int .u8 34), .lit (.int .u8 20), .lit (.int .u8 31), .lit (.int .u8 10), .lit (.int .u8 25), .lit (.int .u8 14), .lit (.int .u8 19), .lit (.int .u8 9), .lit (.int .u8 13), .lit (.int .u8 8), .lit (.int .u8 7), .lit (.int .u8 6)]
def laid_internal_strconv_uint64pow10 {H : Type} : DataW H := .agg [.lit (.int .u64 1), .lit (.int .u64 10), .lit (.int .u64 100), .lit (.int .u64 1000), .lit (.int .u64 10000), .lit (.int .u64 100000), .lit (.int .u64 1000000), .lit (.int .u64 10000000), .lit (.int .u64 100000000), .lit (.int .u64 1000000000), .lit (.int .u64 10000000000), .lit (.int .u64 100000000000), .lit (.int .u64 1000000000000), .lit (.int .u64 10000000000000), .lit (.int .u64 100000000000000), .lit (.int .u64 1000000000000000), .lit (.int .u64 10000000000000000), .lit (.int .u64 100000000000000000), .lit (.int .u64 1000000000000000000), .lit (.int .u64 10000000000000000000)]

/-- 'laws.FnSpoilLeast': WHATEVER THE INPUT: true; the input reads as it did. -/
def fnSpoilLeastSpec : ChangeSpec := { name := "fnSpoilLeast", fn := fun _ => fun
  | [d] => { results := [.lit (.bool true)], args := [d] }
  | _ => none }
def fnSpoilLeastRow : OpenClaim := { program := "yteeklaplnhafoaadoor", sum := "f0789b799b37082422fffde953618832552e0f4dba316bd94b59eb2e26c46224", func := "loop.example/restaurantkitchen/laws.FnSpoilLeast", spec := "fnSpoilLeast", inPlace := ["internal/abi.NoEscape"], unfollowed := true, recurses := true, named := ["internal/strconv.uint64pow10", "math/bits.deBruijn32tab", "math/bits.deBruijn64tab"], apart := false, laid := [("math/bits.deBruijn32tab", laid_math_bits_deBruijn32tab), ("math/bits.deBruijn64tab", laid_math_bits_deBruijn64tab), ("internal/strconv.uint64pow10", laid_internal_strconv_uint64pow10)] }
def FnSpoilLeastSaid : Prop := fnSpoilLeastRow.holds Tryd.pinned (OpenSpec.ofChange fnSpoilLeastSpec)

/-- ITS FALSE NEIGHBOUR: 'it returns false'. Refute it at one input. -/
def fnSpoilLeastWrong : ChangeSpec := { name := "fnSpoilLeast", fn := fun _ => fun
  | [d] => { results := [.lit (.bool false)], args := [d] }
  | _ => none }
def FnSpoilLeastWrongFalsely : Prop := fnSpoilLeastRow.holds Tryd.pinned (OpenSpec.ofChange fnSpoilLeastWrong)

/-- 'laws.FnUseOk': WHATEVER THE INPUT: true; the input reads as it did. -/
def fnUseOkSpec : ChangeSpec := { name := "fnUseOk", fn := fun _ => fun
  | [d] => { results := [.lit (.bool true)], args := [d] }
  | _ => none }
def fnUseOkRow : OpenClaim := { program := "yteeklaplnhafoaadoor", sum := "f0789b799b37082422fffde953618832552e0f4dba316bd94b59eb2e26c46224", func := "loop.example/restaurantkitchen/laws.FnUseOk", spec := "fnUseOk", inPlace := ["internal/abi.NoEscape"], unfollowed := true, recurses := true, named := ["internal/strconv.uint64pow10", "math/bits.deBruijn32tab", "math/bits.deBruijn64tab"], apart := false, laid := [("math/bits.deBruijn32tab", laid_math_bits_deBruijn32tab), ("math/bits.deBruijn64tab", laid_math_bits_deBruijn64tab), ("internal/strconv.uint64pow10", laid_internal_strconv_uint64pow10)] }
def FnUseOkSaid : Prop := fnUseOkRow.holds Tryd.pinned (OpenSpec.ofChange fnUseOkSpec)

/-- ITS FALSE NEIGHBOUR: 'it returns false'. Refute it at one input. -/
def fnUseOkWrong : ChangeSpec := { name := "fnUseOk", fn := fun _ => fun
  | [d] => { results := [.lit (.bool false)], args := [d] }
  | _ => none }
def FnUseOkWrongFalsely : Prop := fnUseOkRow.holds Tryd.pinned (OpenSpec.ofChange fnUseOkWrong)

/-- 'laws.FnLotsValid': WHATEVER THE INPUT: true; the input reads as it did. -/
def fnLotsValidSpec : ChangeSpec := { name := "fnLotsValid", fn := fun _ => fun
  | [d] => { results := [.lit (.bool true)], args := [d] }
  | _ => none }
def fnLotsValidRow : OpenClaim := { program := "yteeklaplnhafoaadoor", sum := "f0789b799b37082422fffde953618832552e0f4dba316bd94b59eb2e26c46224", func := "loop.example/restaurantkitchen/laws.FnLotsValid", spec := "fnLotsValid", inPlace := ["internal/abi.NoEscape"], named := ["internal/strconv.uint64pow10", "math/bits.deBruijn32tab", "math/bits.deBruijn64tab"], apart := false, laid := [("math/bits.deBruijn32tab", laid_math_bits_deBruijn32tab), ("math/bits.deBruijn64tab", laid_math_bits_deBruijn64tab), ("internal/strconv.uint64pow10", laid_internal_strconv_uint64pow10)] }
def FnLotsValidSaid : Prop := fnLotsValidRow.holds Tryd.pinned (OpenSpec.ofChange fnLotsValidSpec)

/-- ITS FALSE NEIGHBOUR: 'it returns false'. Refute it at one input. -/
def fnLotsValidWrong : ChangeSpec := { name := "fnLotsValid", fn := fun _ => fun
  | [d] => { results := [.lit (.bool false)], args := [d] }
  | _ => none }
def FnLotsValidWrongFalsely : Prop := fnLotsValidRow.holds Tryd.pinned (OpenSpec.ofChange fnLotsValidWrong)

/-- 'laws.FnWantsValid': WHATEVER THE INPUT: true; the input reads as it did. -/
def fnWantsValidSpec : ChangeSpec := { name := "fnWantsValid", fn := fun _ => fun
  | [d] => { results := [.lit (.bool true)], args := [d] }
  | _ => none }
def fnWantsValidRow : OpenClaim := { program := "yteeklaplnhafoaadoor", sum := "f0789b799b37082422fffde953618832552e0f4dba316bd94b59eb2e26c46224", func := "loop.example/restaurantkitchen/laws.FnWantsValid", spec := "fnWantsValid", inPlace := ["internal/abi.NoEscape"], named := ["internal/strconv.uint64pow10", "math/bits.deBruijn32tab", "math/bits.deBruijn64tab"], apart := false, laid := [("math/bits.deBruijn32tab", laid_math_bits_deBruijn32tab), ("math/bits.deBruijn64tab", laid_math_bits_deBruijn64tab), ("internal/strconv.uint64pow10", laid_internal_strconv_uint64pow10)] }
def FnWantsValidSaid : Prop := fnWantsValidRow.holds Tryd.pinned (OpenSpec.ofChange fnWantsValidSpec)

/-- ITS FALSE NEIGHBOUR: 'it returns false'. Refute it at one input. -/
def fnWantsValidWrong : ChangeSpec := { name := "fnWantsValid", fn := fun _ => fun
  | [d] => { results := [.lit (.bool false)], args := [d] }
  | _ => none }
def FnWantsValidWrongFalsely : Prop := fnWantsValidRow.holds Tryd.pinned (OpenSpec.ofChange fnWantsValidWrong)

/-- 'laws.FnLotsAt': WHATEVER THE INPUT: true; the input reads as it did. -/
def fnLotsAtSpec : ChangeSpec := { name := "fnLotsAt", fn := fun _ => fun
  | [d] => { results := [.lit (.bool true)], args := [d] }
  | _ => none }
def fnLotsAtRow : OpenClaim := { program := "yteeklaplnhafoaadoor", sum := "f0789b799b37082422fffde953618832552e0f4dba316bd94b59eb2e26c46224", func := "loop.example/restaurantkitchen/laws.FnLotsAt", spec := "fnLotsAt", inPlace := ["internal/abi.NoEscape"], named := ["internal/strconv.uint64pow10", "math/bits.deBruijn32tab", "math/bits.deBruijn64tab"], apart := false, laid := [("math/bits.deBruijn32tab", laid_math_bits_deBruijn32tab), ("math/bits.deBruijn64tab", laid_math_bits_deBruijn64tab), ("internal/strconv.uint64pow10", laid_internal_strconv_uint64pow10)] }
def FnLotsAtSaid : Prop := fnLotsAtRow.holds Tryd.pinned (OpenSpec.ofChange fnLotsAtSpec)

/-- ITS FALSE NEIGHBOUR: 'it returns false'. Refute it at one input. -/
def fnLotsAtWrong : ChangeSpec := { name := "fnLotsAt", fn := fun _ => fun
  | [d] => { results := [.lit (.bool false)], args := [d] }
  | _ => none }
def FnLotsAtWrongFalsely : Prop := fnLotsAtRow.holds Tryd.pinned (OpenSpec.ofChange fnLotsAtWrong)

/-- 'laws.FnTakeOk': WHATEVER THE INPUT: true; the input reads as it did. -/
def fnTakeOkSpec : ChangeSpec := { name := "fnTakeOk", fn := fun _ => fun
  | [d] => { results := [.lit (.bool true)], args := [d] }
  | _ => none }
def fnTakeOkRow : OpenClaim := { program := "yteeklaplnhafoaadoor", sum := "f0789b799b37082422fffde953618832552e0f4dba316bd94b59eb2e26c46224", func := "loop.example/restaurantkitchen/laws.FnTakeOk", spec := "fnTakeOk", inPlace := ["internal/abi.NoEscape"], named := ["internal/strconv.uint64pow10", "math/bits.deBruijn32tab", "math/bits.deBruijn64tab"], apart := false, laid := [("math/bits.deBruijn32tab", laid_math_bits_deBruijn32tab), ("math/bits.deBruijn64tab", laid_math_bits_deBruijn64tab), ("internal/strconv.uint64pow10", laid_internal_strconv_uint64pow10)] }
def FnTakeOkSaid : Prop := fnTakeOkRow.holds Tryd.pinned (OpenSpec.ofChange fnTakeOkSpec)

/-- ITS FALSE NEIGHBOUR: 'it returns false'. Refute it at one input. -/
def fnTakeOkWrong : ChangeSpec := { name := "fnTakeOk", fn := fun _ => fun
  | [d] => { results := [.lit (.bool false)], args := [d] }
  | _ => none }
def FnTakeOkWrongFalsely : Prop := fnTakeOkRow.holds Tryd.pinned (OpenSpec.ofChange fnTakeOkWrong)

/-- 'laws.FnTakeDo': WHATEVER THE INPUT: true; the input reads as it did. -/
def fnTakeDoSpec : ChangeSpec := { name := "fnTakeDo", fn := fun _ => fun
  | [d] => { results := [.lit (.bool true)], args := [d] }
  | _ => none }
def fnTakeDoRow : OpenClaim := { program := "yteeklaplnhafoaadoor", sum := "f0789b799b37082422fffde953618832552e0f4dba316bd94b59eb2e26c46224", func := "loop.example/restaurantkitchen/laws.FnTakeDo", spec := "fnTakeDo", inPlace := ["internal/abi.NoEscape"], named := ["internal/strconv.uint64pow10", "math/bits.deBruijn32tab", "math/bits.deBruijn64tab"], apart := false, laid := [("math/bits.deBruijn32tab", laid_math_bits_deBruijn32tab), ("math/bits.deBruijn64tab", laid_math_bits_deBruijn64tab), ("internal/strconv.uint64pow10", laid_internal_strconv_uint64pow10)] }
def FnTakeDoSaid : Prop := fnTakeDoRow.holds Tryd.pinned (OpenSpec.ofChange fnTakeDoSpec)

/-- ITS FALSE NEIGHBOUR: 'it returns false'. Refute it at one input. -/
def fnTakeDoWrong : ChangeSpec := { name := "fnTakeDo", fn := fun _ => fun
  | [d] => { results := [.lit (.bool false)], args := [d] }
  | _ => none }
def FnTakeDoWrongFalsely : Prop := fnTakeDoRow.holds Tryd.pinned (OpenSpec.ofChange fnTakeDoWrong)

/-- 'laws.FnUseSum': WHATEVER THE INPUT: true; the input reads as it did. -/
def fnUseSumSpec : ChangeSpec := { name := "fnUseSum", fn := fun _ => fun
  | [d] => { results := [.lit (.bool true)], args := [d] }
  | _ => none }
def fnUseSumRow : OpenClaim := { program := "yteeklaplnhafoaadoor", sum := "f0789b799b37082422fffde953618832552e0f4dba316bd94b59eb2e26c46224", func := "loop.example/restaurantkitchen/laws.FnUseSum", spec := "fnUseSum", inPlace := ["internal/abi.NoEscape"], named := ["internal/strconv.uint64pow10", "math/bits.deBruijn32tab", "math/bits.deBruijn64tab"], apart := false, laid := [("math/bits.deBruijn32tab", laid_math_bits_deBruijn32tab), ("math/bits.deBruijn64tab", laid_math_bits_deBruijn64tab), ("internal/strconv.uint64pow10", laid_internal_strconv_uint64pow10)] }
def FnUseSumSaid : Prop := fnUseSumRow.holds Tryd.pinned (OpenSpec.ofChange fnUseSumSpec)

/-- ITS FALSE NEIGHBOUR: 'it returns false'. Refute it at one input. -/
def fnUseSumWrong : ChangeSpec := { name := "fnUseSum", fn := fun _ => fun
  | [d] => { results := [.lit (.bool false)], args := [d] }
  | _ => none }
def FnUseSumWrongFalsely : Prop := fnUseSumRow.holds Tryd.pinned (OpenSpec.ofChange fnUseSumWrong)

/-- 'laws.FnTakeFirst': WHATEVER THE INPUT: true; the input reads as it did. -/
def fnTakeFirstSpec : ChangeSpec := { name := "fnTakeFirst", fn := fun _ => fun
  | [d] => { results := [.lit (.bool true)], args := [d] }
  | _ => none }
def fnTakeFirstRow : OpenClaim := { program := "yteeklaplnhafoaadoor", sum := "f0789b799b37082422fffde953618832552e0f4dba316bd94b59eb2e26c46224", func := "loop.example/restaurantkitchen/laws.FnTakeFirst", spec := "fnTakeFirst", inPlace := ["internal/abi.NoEscape"], unfollowed := true, recurses := true, named := ["internal/strconv.uint64pow10", "math/bits.deBruijn32tab", "math/bits.deBruijn64tab"], apart := false, laid := [("math/bits.deBruijn32tab", laid_math_bits_deBruijn32tab), ("math/bits.deBruijn64tab", laid_math_bits_deBruijn64tab), ("internal/strconv.uint64pow10", laid_internal_strconv_uint64pow10)] }
def FnTakeFirstSaid : Prop := fnTakeFirstRow.holds Tryd.pinned (OpenSpec.ofChange fnTakeFirstSpec)

/-- ITS FALSE NEIGHBOUR: 'it returns false'. Refute it at one input. -/
def fnTakeFirstWrong : ChangeSpec := { name := "fnTakeFirst", fn := fun _ => fun
  | [d] => { results := [.lit (.bool false)], args := [d] }
  | _ => none }
def FnTakeFirstWrongFalsely : Prop := fnTakeFirstRow.holds Tryd.pinned (OpenSpec.ofChange fnTakeFirstWrong)

/-- 'laws.FnUseBound': WHATEVER THE INPUT: true; the input reads as it did. -/
def fnUseBoundSpec : ChangeSpec := { name := "fnUseBound", fn := fun _ => fun
  | [d] => { results := [.lit (.bool true)], args := [d] }
  | _ => none }
def fnUseBoundRow : OpenClaim := { program := "yteeklaplnhafoaadoor", sum := "f0789b799b37082422fffde953618832552e0f4dba316bd94b59eb2e26c46224", func := "loop.example/restaurantkitchen/laws.FnUseBound", spec := "fnUseBound", inPlace := ["internal/abi.NoEscape"], unfollowed := true, recurses := true, named := ["internal/strconv.uint64pow10", "math/bits.deBruijn32tab", "math/bits.deBruijn64tab"], apart := false, laid := [("math/bits.deBruijn32tab", laid_math_bits_deBruijn32tab), ("math/bits.deBruijn64tab", laid_math_bits_deBruijn64tab), ("internal/strconv.uint64pow10", laid_internal_strconv_uint64pow10)] }
def FnUseBoundSaid : Prop := fnUseBoundRow.holds Tryd.pinned (OpenSpec.ofChange fnUseBoundSpec)

/-- ITS FALSE NEIGHBOUR: 'it returns false'. Refute it at one input. -/
def fnUseBoundWrong : ChangeSpec := { name := "fnUseBound", fn := fun _ => fun
  | [d] => { results := [.lit (.bool false)], args := [d] }
  | _ => none }
def FnUseBoundWrongFalsely : Prop := fnUseBoundRow.holds Tryd.pinned (OpenSpec.ofChange fnUseBoundWrong)

/-- 'laws.FnLackLeast': WHATEVER THE INPUT: true; the input reads as it did. -/
def fnLackLeastSpec : ChangeSpec := { name := "fnLackLeast", fn := fun _ => fun
  | [d] => { results := [.lit (.bool true)], args := [d] }
  | _ => none }
def fnLackLeastRow : OpenClaim := { program := "yteeklaplnhafoaadoor", sum := "f0789b799b37082422fffde953618832552e0f4dba316bd94b59eb2e26c46224", func := "loop.example/restaurantkitchen/laws.FnLackLeast", spec := "fnLackLeast", inPlace := ["internal/abi.NoEscape"], unfollowed := true, recurses := true, named := ["internal/strconv.uint64pow10", "math/bits.deBruijn32tab", "math/bits.deBruijn64tab"], apart := false, laid := [("math/bits.deBruijn32tab", laid_math_bits_deBruijn32tab), ("math/bits.deBruijn64tab", laid_math_bits_deBruijn64tab), ("internal/strconv.uint64pow10", laid_internal_strconv_uint64pow10)] }
def FnLackLeastSaid : Prop := fnLackLeastRow.holds Tryd.pinned (OpenSpec.ofChange fnLackLeastSpec)

/-- ITS FALSE NEIGHBOUR: 'it returns false'. Refute it at one input. -/
def fnLackLeastWrong : ChangeSpec := { name := "fnLackLeast", fn := fun _ => fun
  | [d] => { results := [.lit (.bool false)], args := [d] }
  | _ => none }
def FnLackLeastWrongFalsely : Prop := fnLackLeastRow.holds Tryd.pinned (OpenSpec.ofChange fnLackLeastWrong)

/-- 'laws.FnUseMost': WHATEVER THE INPUT: true; the input reads as it did. -/
def fnUseMostSpec : ChangeSpec := { name := "fnUseMost", fn := fun _ => fun
  | [d] => { results := [.lit (.bool true)], args := [d] }
  | _ => none }
def fnUseMostRow : OpenClaim := { program := "yteeklaplnhafoaadoor", sum := "f0789b799b37082422fffde953618832552e0f4dba316bd94b59eb2e26c46224", func := "loop.example/restaurantkitchen/laws.FnUseMost", spec := "fnUseMost", inPlace := ["internal/abi.NoEscape"], unfollowed := true, recurses := true, named := ["internal/strconv.uint64pow10", "math/bits.deBruijn32tab", "math/bits.deBruijn64tab"], apart := false, laid := [("math/bits.deBruijn32tab", laid_math_bits_deBruijn32tab), ("math/bits.deBruijn64tab", laid_math_bits_deBruijn64tab), ("internal/strconv.uint64pow10", laid_internal_strconv_uint64pow10)] }
def FnUseMostSaid : Prop := fnUseMostRow.holds Tryd.pinned (OpenSpec.ofChange fnUseMostSpec)

/-- ITS FALSE NEIGHBOUR: 'it returns false'. Refute it at one input. -/
def fnUseMostWrong : ChangeSpec := { name := "fnUseMost", fn := fun _ => fun
  | [d] => { results := [.lit (.bool false)], args := [d] }
  | _ => none }
def FnUseMostWrongFalsely : Prop := fnUseMostRow.holds Tryd.pinned (OpenSpec.ofChange fnUseMostWrong)

/-- 'laws.FnUseFirst': WHATEVER THE INPUT: true; the input reads as it did. -/
def fnUseFirstSpec : ChangeSpec := { name := "fnUseFirst", fn := fun _ => fun
  | [d] => { results := [.lit (.bool true)], args := [d] }
  | _ => none }
def fnUseFirstRow : OpenClaim := { program := "yteeklaplnhafoaadoor", sum := "f0789b799b37082422fffde953618832552e0f4dba316bd94b59eb2e26c46224", func := "loop.example/restaurantkitchen/laws.FnUseFirst", spec := "fnUseFirst", inPlace := ["internal/abi.NoEscape"], unfollowed := true, recurses := true, named := ["internal/strconv.uint64pow10", "math/bits.deBruijn32tab", "math/bits.deBruijn64tab"], apart := false, laid := [("math/bits.deBruijn32tab", laid_math_bits_deBruijn32tab), ("math/bits.deBruijn64tab", laid_math_bits_deBruijn64tab), ("internal/strconv.uint64pow10", laid_internal_strconv_uint64pow10)] }
def FnUseFirstSaid : Prop := fnUseFirstRow.holds Tryd.pinned (OpenSpec.ofChange fnUseFirstSpec)

/-- ITS FALSE NEIGHBOUR: 'it returns false'. Refute it at one input. -/
def fnUseFirstWrong : ChangeSpec := { name := "fnUseFirst", fn := fun _ => fun
  | [d] => { results := [.lit (.bool false)], args := [d] }
  | _ => none }
def FnUseFirstWrongFalsely : Prop := fnUseFirstRow.holds Tryd.pinned (OpenSpec.ofChange fnUseFirstWrong)

/- THE SECOND FORM. 'bulk': how many values and letters a reading holds, each counted each time it is reached (what is shared counts as often as it is met; a slice's spare places count too). A statement '..UptoSaid' is the law's where the arguments, and the package variables that the reading takes, are together of bulk at most 1048576: NARROWER than '..Said'. Prove '..Said' where nothing that the law and all that it calls make is longer than what came in: it says more and counts as full. Else prove '..UptoSaid'. A law counts once. -/
mutual
def uptoBulk {H : Type} : DataW H → Nat
  | .lit (.string bytes) => bytes.length + 1
  | .lit _ => 1
  | .nil => 1
  | .ptr d => uptoBulk d + 1
  | .slice elems spare => uptoBulkAll elems + uptoBulkAll spare + 1
  | .agg parts => uptoBulkAll parts + 1
  | .iface _ d => uptoBulk d + 1
  | .map entries => uptoBulkEntries entries + 1
  | .held _ => 1
def uptoBulkAll {H : Type} : List (DataW H) → Nat
  | [] => 0
  | d :: r => uptoBulk d + uptoBulkAll r
def uptoBulkEntries {H : Type} : List (Lit × DataW H) → Nat
  | [] => 0
  | x :: r => uptoBulkEntry x + uptoBulkEntries r
def uptoBulkEntry {H : Type} : Lit × DataW H → Nat
  | (.string bytes, d) => bytes.length + uptoBulk d + 1
  | (_, d) => uptoBulk d + 1
 end
def uptoSmall : (H : Type) → List (DataW H) → Bool := fun _ ds => decide (uptoBulkAll ds ≤ 1048576)
def OpenSpec.upto (s : _root_.Go.ChangeSpec) : _root_.Go.OpenSpec := { _root_.Go.OpenSpec.ofChange s with cond := some uptoSmall }

/-- 'laws.FnSpoilLeast', WHERE WHAT IT READS IS OF BULK AT MOST 1048576: true; the input reads as it did. -/
def fnSpoilLeastUptoRow : OpenClaim := { program := "yteeklaplnhafoaadoor", sum := "f0789b799b37082422fffde953618832552e0f4dba316bd94b59eb2e26c46224", func := "loop.example/restaurantkitchen/laws.FnSpoilLeast", spec := "fnSpoilLeast", inPlace := ["internal/abi.NoEscape"], unfollowed := true, recurses := true, named := ["internal/strconv.uint64pow10", "math/bits.deBruijn32tab", "math/bits.deBruijn64tab"], apart := false, laid := [("math/bits.deBruijn32tab", laid_math_bits_deBruijn32tab), ("math/bits.deBruijn64tab", laid_math_bits_deBruijn64tab), ("internal/strconv.uint64pow10", laid_internal_strconv_uint64pow10)], narrowed := true }
def FnSpoilLeastUptoSaid : Prop := fnSpoilLeastUptoRow.holds Tryd.pinned (OpenSpec.upto fnSpoilLeastSpec)

/-- 'laws.FnUseOk', WHERE WHAT IT READS IS OF BULK AT MOST 1048576: true; the input reads as it did. -/
def fnUseOkUptoRow : OpenClaim := { program := "yteeklaplnhafoaadoor", sum := "f0789b799b37082422fffde953618832552e0f4dba316bd94b59eb2e26c46224", func := "loop.example/restaurantkitchen/laws.FnUseOk", spec := "fnUseOk", inPlace := ["internal/abi.NoEscape"], unfollowed := true, recurses := true, named := ["internal/strconv.uint64pow10", "math/bits.deBruijn32tab", "math/bits.deBruijn64tab"], apart := false, laid := [("math/bits.deBruijn32tab", laid_math_bits_deBruijn32tab), ("math/bits.deBruijn64tab", laid_math_bits_deBruijn64tab), ("internal/strconv.uint64pow10", laid_internal_strconv_uint64pow10)], narrowed := true }
def FnUseOkUptoSaid : Prop := fnUseOkUptoRow.holds Tryd.pinned (OpenSpec.upto fnUseOkSpec)

/-- 'laws.FnLotsValid', WHERE WHAT IT READS IS OF BULK AT MOST 1048576: true; the input reads as it did. -/
def fnLotsValidUptoRow : OpenClaim := { program := "yteeklaplnhafoaadoor", sum := "f0789b799b37082422fffde953618832552e0f4dba316bd94b59eb2e26c46224", func := "loop.example/restaurantkitchen/laws.FnLotsValid", spec := "fnLotsValid", inPlace := ["internal/abi.NoEscape"], named := ["internal/strconv.uint64pow10", "math/bits.deBruijn32tab", "math/bits.deBruijn64tab"], apart := false, laid := [("math/bits.deBruijn32tab", laid_math_bits_deBruijn32tab), ("math/bits.deBruijn64tab", laid_math_bits_deBruijn64tab), ("internal/strconv.uint64pow10", laid_internal_strconv_uint64pow10)], narrowed := true }
def FnLotsValidUptoSaid : Prop := fnLotsValidUptoRow.holds Tryd.pinned (OpenSpec.upto fnLotsValidSpec)

/-- 'laws.FnWantsValid', WHERE WHAT IT READS IS OF BULK AT MOST 1048576: true; the input reads as it did. -/
def fnWantsValidUptoRow : OpenClaim := { program := "yteeklaplnhafoaadoor", sum := "f0789b799b37082422fffde953618832552e0f4dba316bd94b59eb2e26c46224", func := "loop.example/restaurantkitchen/laws.FnWantsValid", spec := "fnWantsValid", inPlace := ["internal/abi.NoEscape"], named := ["internal/strconv.uint64pow10", "math/bits.deBruijn32tab", "math/bits.deBruijn64tab"], apart := false, laid := [("math/bits.deBruijn32tab", laid_math_bits_deBruijn32tab), ("math/bits.deBruijn64tab", laid_math_bits_deBruijn64tab), ("internal/strconv.uint64pow10", laid_internal_strconv_uint64pow10)], narrowed := true }
def FnWantsValidUptoSaid : Prop := fnWantsValidUptoRow.holds Tryd.pinned (OpenSpec.upto fnWantsValidSpec)

/-- 'laws.FnLotsAt', WHERE WHAT IT READS IS OF BULK AT MOST 1048576: true; the input reads as it did. -/
def fnLotsAtUptoRow : OpenClaim := { program := "yteeklaplnhafoaadoor", sum := "f0789b799b37082422fffde953618832552e0f4dba316bd94b59eb2e26c46224", func := "loop.example/restaurantkitchen/laws.FnLotsAt", spec := "fnLotsAt", inPlace := ["internal/abi.NoEscape"], named := ["internal/strconv.uint64pow10", "math/bits.deBruijn32tab", "math/bits.deBruijn64tab"], apart := false, laid := [("math/bits.deBruijn32tab", laid_math_bits_deBruijn32tab), ("math/bits.deBruijn64tab", laid_math_bits_deBruijn64tab), ("internal/strconv.uint64pow10", laid_internal_strconv_uint64pow10)], narrowed := true }
def FnLotsAtUptoSaid : Prop := fnLotsAtUptoRow.holds Tryd.pinned (OpenSpec.upto fnLotsAtSpec)

/-- 'laws.FnTakeOk', WHERE WHAT IT READS IS OF BULK AT MOST 1048576: true; the input reads as it did. -/
def fnTakeOkUptoRow : OpenClaim := { program := "yteeklaplnhafoaadoor", sum := "f0789b799b37082422fffde953618832552e0f4dba316bd94b59eb2e26c46224", func := "loop.example/restaurantkitchen/laws.FnTakeOk", spec := "fnTakeOk", inPlace := ["internal/abi.NoEscape"], named := ["internal/strconv.uint64pow10", "math/bits.deBruijn32tab", "math/bits.deBruijn64tab"], apart := false, laid := [("math/bits.deBruijn32tab", laid_math_bits_deBruijn32tab), ("math/bits.deBruijn64tab", laid_math_bits_deBruijn64tab), ("internal/strconv.uint64pow10", laid_internal_strconv_uint64pow10)], narrowed := true }
def FnTakeOkUptoSaid : Prop := fnTakeOkUptoRow.holds Tryd.pinned (OpenSpec.upto fnTakeOkSpec)

/-- 'laws.FnTakeDo', WHERE WHAT IT READS IS OF BULK AT MOST 1048576: true; the input reads as it did. -/
def fnTakeDoUptoRow : OpenClaim := { program := "yteeklaplnhafoaadoor", sum := "f0789b799b37082422fffde953618832552e0f4dba316bd94b59eb2e26c46224", func := "loop.example/restaurantkitchen/laws.FnTakeDo", spec := "fnTakeDo", inPlace := ["internal/abi.NoEscape"], named := ["internal/strconv.uint64pow10", "math/bits.deBruijn32tab", "math/bits.deBruijn64tab"], apart := false, laid := [("math/bits.deBruijn32tab", laid_math_bits_deBruijn32tab), ("math/bits.deBruijn64tab", laid_math_bits_deBruijn64tab), ("internal/strconv.uint64pow10", laid_internal_strconv_uint64pow10)], narrowed := true }
def FnTakeDoUptoSaid : Prop := fnTakeDoUptoRow.holds Tryd.pinned (OpenSpec.upto fnTakeDoSpec)

/-- 'laws.FnUseSum', WHERE WHAT IT READS IS OF BULK AT MOST 1048576: true; the input reads as it did. -/
def fnUseSumUptoRow : OpenClaim := { program := "yteeklaplnhafoaadoor", sum := "f0789b799b37082422fffde953618832552e0f4dba316bd94b59eb2e26c46224", func := "loop.example/restaurantkitchen/laws.FnUseSum", spec := "fnUseSum", inPlace := ["internal/abi.NoEscape"], named := ["internal/strconv.uint64pow10", "math/bits.deBruijn32tab", "math/bits.deBruijn64tab"], apart := false, laid := [("math/bits.deBruijn32tab", laid_math_bits_deBruijn32tab), ("math/bits.deBruijn64tab", laid_math_bits_deBruijn64tab), ("internal/strconv.uint64pow10", laid_internal_strconv_uint64pow10)], narrowed := true }
def FnUseSumUptoSaid : Prop := fnUseSumUptoRow.holds Tryd.pinned (OpenSpec.upto fnUseSumSpec)

/-- 'laws.FnTakeFirst', WHERE WHAT IT READS IS OF BULK AT MOST 1048576: true; the input reads as it did. -/
def fnTakeFirstUptoRow : OpenClaim := { program := "yteeklaplnhafoaadoor", sum := "f0789b799b37082422fffde953618832552e0f4dba316bd94b59eb2e26c46224", func := "loop.example/restaurantkitchen/laws.FnTakeFirst", spec := "fnTakeFirst", inPlace := ["internal/abi.NoEscape"], unfollowed := true, recurses := true, named := ["internal/strconv.uint64pow10", "math/bits.deBruijn32tab", "math/bits.deBruijn64tab"], apart := false, laid := [("math/bits.deBruijn32tab", laid_math_bits_deBruijn32tab), ("math/bits.deBruijn64tab", laid_math_bits_deBruijn64tab), ("internal/strconv.uint64pow10", laid_internal_strconv_uint64pow10)], narrowed := true }
def FnTakeFirstUptoSaid : Prop := fnTakeFirstUptoRow.holds Tryd.pinned (OpenSpec.upto fnTakeFirstSpec)

/-- 'laws.FnUseBound', WHERE WHAT IT READS IS OF BULK AT MOST 1048576: true; the input reads as it did. -/
def fnUseBoundUptoRow : OpenClaim := { program := "yteeklaplnhafoaadoor", sum := "f0789b799b37082422fffde953618832552e0f4dba316bd94b59eb2e26c46224", func := "loop.example/restaurantkitchen/laws.FnUseBound", spec := "fnUseBound", inPlace := ["internal/abi.NoEscape"], unfollowed := true, recurses := true, named := ["internal/strconv.uint64pow10", "math/bits.deBruijn32tab", "math/bits.deBruijn64tab"], apart := false, laid := [("math/bits.deBruijn32tab", laid_math_bits_deBruijn32tab), ("math/bits.deBruijn64tab", laid_math_bits_deBruijn64tab), ("internal/strconv.uint64pow10", laid_internal_strconv_uint64pow10)], narrowed := true }
def FnUseBoundUptoSaid : Prop := fnUseBoundUptoRow.holds Tryd.pinned (OpenSpec.upto fnUseBoundSpec)

/-- 'laws.FnLackLeast', WHERE WHAT IT READS IS OF BULK AT MOST 1048576: true; the input reads as it did. -/
def fnLackLeastUptoRow : OpenClaim := { program := "yteeklaplnhafoaadoor", sum := "f0789b799b37082422fffde953618832552e0f4dba316bd94b59eb2e26c46224", func := "loop.example/restaurantkitchen/laws.FnLackLeast", spec := "fnLackLeast", inPlace := ["internal/abi.NoEscape"], unfollowed := true, recurses := true, named := ["internal/strconv.uint64pow10", "math/bits.deBruijn32tab", "math/bits.deBruijn64tab"], apart := false, laid := [("math/bits.deBruijn32tab", laid_math_bits_deBruijn32tab), ("math/bits.deBruijn64tab", laid_math_bits_deBruijn64tab), ("internal/strconv.uint64pow10", laid_internal_strconv_uint64pow10)], narrowed := true }
def FnLackLeastUptoSaid : Prop := fnLackLeastUptoRow.holds Tryd.pinned (OpenSpec.upto fnLackLeastSpec)

/-- 'laws.FnUseMost', WHERE WHAT IT READS IS OF BULK AT MOST 1048576: true; the input reads as it did. -/
def fnUseMostUptoRow : OpenClaim := { program := "yteeklaplnhafoaadoor", sum := "f0789b799b37082422fffde953618832552e0f4dba316bd94b59eb2e26c46224", func := "loop.example/restaurantkitchen/laws.FnUseMost", spec := "fnUseMost", inPlace := ["internal/abi.NoEscape"], unfollowed := true, recurses := true, named := ["internal/strconv.uint64pow10", "math/bits.deBruijn32tab", "math/bits.deBruijn64tab"], apart := false, laid := [("math/bits.deBruijn32tab", laid_math_bits_deBruijn32tab), ("math/bits.deBruijn64tab", laid_math_bits_deBruijn64tab), ("internal/strconv.uint64pow10", laid_internal_strconv_uint64pow10)], narrowed := true }
def FnUseMostUptoSaid : Prop := fnUseMostUptoRow.holds Tryd.pinned (OpenSpec.upto fnUseMostSpec)

/-- 'laws.FnUseFirst', WHERE WHAT IT READS IS OF BULK AT MOST 1048576: true; the input reads as it did. -/
def fnUseFirstUptoRow : OpenClaim := { program := "yteeklaplnhafoaadoor", sum := "f0789b799b37082422fffde953618832552e0f4dba316bd94b59eb2e26c46224", func := "loop.example/restaurantkitchen/laws.FnUseFirst", spec := "fnUseFirst", inPlace := ["internal/abi.NoEscape"], unfollowed := true, recurses := true, named := ["internal/strconv.uint64pow10", "math/bits.deBruijn32tab", "math/bits.deBruijn64tab"], apart := false, laid := [("math/bits.deBruijn32tab", laid_math_bits_deBruijn32tab), ("math/bits.deBruijn64tab", laid_math_bits_deBruijn64tab), ("internal/strconv.uint64pow10", laid_internal_strconv_uint64pow10)], narrowed := true }
def FnUseFirstUptoSaid : Prop := fnUseFirstUptoRow.holds Tryd.pinned (OpenSpec.upto fnUseFirstSpec)

end Rows
end Go.Proofs.YteeklaplnhafoaaDoor
