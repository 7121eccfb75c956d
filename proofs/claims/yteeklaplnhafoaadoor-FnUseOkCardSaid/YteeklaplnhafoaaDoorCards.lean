/-
  DERIVED. GIVEN WITH THE SEED: THE CARDS: each row of YteeklaplnhafoaaDoorRows.lean that lists a variable, with what it lists TIED to the program's text (the seventh form; the later family's looks); each row that meets fmt, with fmt's text TOLD by the authors' own Lean function (tested against real Go, not proved from fmt's source: count such statements apart). THE CARD IS WHAT COUNTS. Prove the row's statement (the work); the ties are given (YteeklaplnhafoaaDoorTie.lean); close each card by the builder's one call (the guide's Derived/Test/ToyasCard.lean, 'card_holds'). Laid BY PROGRAM, IN A SANDBOX (cutbox-door.mjs). By AI agents, Wed Nov 11 2026. No macro, syntax, notation, axiom, sorry.
-/
import Derived.Test.YteeklaplnhafoaaDoorRows
import GoSem.ClaimSeven
namespace Go.Proofs.YteeklaplnhafoaaDoor
namespace Rows

/-- THE TIED CARD OF 'laws.FnSpoilLeast'. -/
def fnSpoilLeastCard : Claim7 := { stood := { row := fnSpoilLeastRow, standIns := [], harness := (true, "e7eab76fc9e2410b7f7434093c4327cc59cf59467d4d312316fc45a706845471"), looks := false }, kinds := [], alts := [], laidByText := true, laidKinds := [.data, .data, .data], laidTests := true, laidLooks := .later }
def FnSpoilLeastCardSaid : Prop := Claim7.holds Tryd.pinned (.plain (OpenSpec.ofChange fnSpoilLeastSpec)) fnSpoilLeastCard

/-- THE TIED CARD OF 'laws.FnUseOk'. -/
def fnUseOkCard : Claim7 := { stood := { row := fnUseOkRow, standIns := [], harness := (true, "e7eab76fc9e2410b7f7434093c4327cc59cf59467d4d312316fc45a706845471"), looks := false }, kinds := [], alts := [], laidByText := true, laidKinds := [.data, .data, .data], laidTests := true, laidLooks := .later }
def FnUseOkCardSaid : Prop := Claim7.holds Tryd.pinned (.plain (OpenSpec.ofChange fnUseOkSpec)) fnUseOkCard

/-- THE TIED CARD OF 'laws.FnLotsValid'. -/
def fnLotsValidCard : Claim7 := { stood := { row := fnLotsValidRow, standIns := [], harness := (true, "e7eab76fc9e2410b7f7434093c4327cc59cf59467d4d312316fc45a706845471"), looks := false }, kinds := [], alts := [], laidByText := true, laidKinds := [.data, .data, .data], laidTests := true, laidLooks := .later }
def FnLotsValidCardSaid : Prop := Claim7.holds Tryd.pinned (.plain (OpenSpec.ofChange fnLotsValidSpec)) fnLotsValidCard

/-- THE TIED CARD OF 'laws.FnWantsValid'. -/
def fnWantsValidCard : Claim7 := { stood := { row := fnWantsValidRow, standIns := [], harness := (true, "e7eab76fc9e2410b7f7434093c4327cc59cf59467d4d312316fc45a706845471"), looks := false }, kinds := [], alts := [], laidByText := true, laidKinds := [.data, .data, .data], laidTests := true, laidLooks := .later }
def FnWantsValidCardSaid : Prop := Claim7.holds Tryd.pinned (.plain (OpenSpec.ofChange fnWantsValidSpec)) fnWantsValidCard

/-- THE TIED CARD OF 'laws.FnLotsAt'. -/
def fnLotsAtCard : Claim7 := { stood := { row := fnLotsAtRow, standIns := [], harness := (true, "e7eab76fc9e2410b7f7434093c4327cc59cf59467d4d312316fc45a706845471"), looks := false }, kinds := [], alts := [], laidByText := true, laidKinds := [.data, .data, .data], laidTests := true, laidLooks := .later }
def FnLotsAtCardSaid : Prop := Claim7.holds Tryd.pinned (.plain (OpenSpec.ofChange fnLotsAtSpec)) fnLotsAtCard

/-- THE TIED CARD OF 'laws.FnTakeOk'. -/
def fnTakeOkCard : Claim7 := { stood := { row := fnTakeOkRow, standIns := [], harness := (true, "e7eab76fc9e2410b7f7434093c4327cc59cf59467d4d312316fc45a706845471"), looks := false }, kinds := [], alts := [], laidByText := true, laidKinds := [.data, .data, .data], laidTests := true, laidLooks := .later }
def FnTakeOkCardSaid : Prop := Claim7.holds Tryd.pinned (.plain (OpenSpec.ofChange fnTakeOkSpec)) fnTakeOkCard

/-- THE TIED CARD OF 'laws.FnTakeDo'. -/
def fnTakeDoCard : Claim7 := { stood := { row := fnTakeDoRow, standIns := [], harness := (true, "e7eab76fc9e2410b7f7434093c4327cc59cf59467d4d312316fc45a706845471"), looks := false }, kinds := [], alts := [], laidByText := true, laidKinds := [.data, .data, .data], laidTests := true, laidLooks := .later }
def FnTakeDoCardSaid : Prop := Claim7.holds Tryd.pinned (.plain (OpenSpec.ofChange fnTakeDoSpec)) fnTakeDoCard

/-- THE TIED CARD OF 'laws.FnUseSum'. -/
def fnUseSumCard : Claim7 := { stood := { row := fnUseSumRow, standIns := [], harness := (true, "e7eab76fc9e2410b7f7434093c4327cc59cf59467d4d312316fc45a706845471"), looks := false }, kinds := [], alts := [], laidByText := true, laidKinds := [.data, .data, .data], laidTests := true, laidLooks := .later }
def FnUseSumCardSaid : Prop := Claim7.holds Tryd.pinned (.plain (OpenSpec.ofChange fnUseSumSpec)) fnUseSumCard

/-- THE TIED CARD OF 'laws.FnTakeFirst'. -/
def fnTakeFirstCard : Claim7 := { stood := { row := fnTakeFirstRow, standIns := [], harness := (true, "e7eab76fc9e2410b7f7434093c4327cc59cf59467d4d312316fc45a706845471"), looks := false }, kinds := [], alts := [], laidByText := true, laidKinds := [.data, .data, .data], laidTests := true, laidLooks := .later }
def FnTakeFirstCardSaid : Prop := Claim7.holds Tryd.pinned (.plain (OpenSpec.ofChange fnTakeFirstSpec)) fnTakeFirstCard

/-- THE TIED CARD OF 'laws.FnUseBound'. -/
def fnUseBoundCard : Claim7 := { stood := { row := fnUseBoundRow, standIns := [], harness := (true, "e7eab76fc9e2410b7f7434093c4327cc59cf59467d4d312316fc45a706845471"), looks := false }, kinds := [], alts := [], laidByText := true, laidKinds := [.data, .data, .data], laidTests := true, laidLooks := .later }
def FnUseBoundCardSaid : Prop := Claim7.holds Tryd.pinned (.plain (OpenSpec.ofChange fnUseBoundSpec)) fnUseBoundCard

/-- THE TIED CARD OF 'laws.FnLackLeast'. -/
def fnLackLeastCard : Claim7 := { stood := { row := fnLackLeastRow, standIns := [], harness := (true, "e7eab76fc9e2410b7f7434093c4327cc59cf59467d4d312316fc45a706845471"), looks := false }, kinds := [], alts := [], laidByText := true, laidKinds := [.data, .data, .data], laidTests := true, laidLooks := .later }
def FnLackLeastCardSaid : Prop := Claim7.holds Tryd.pinned (.plain (OpenSpec.ofChange fnLackLeastSpec)) fnLackLeastCard

/-- THE TIED CARD OF 'laws.FnUseMost'. -/
def fnUseMostCard : Claim7 := { stood := { row := fnUseMostRow, standIns := [], harness := (true, "e7eab76fc9e2410b7f7434093c4327cc59cf59467d4d312316fc45a706845471"), looks := false }, kinds := [], alts := [], laidByText := true, laidKinds := [.data, .data, .data], laidTests := true, laidLooks := .later }
def FnUseMostCardSaid : Prop := Claim7.holds Tryd.pinned (.plain (OpenSpec.ofChange fnUseMostSpec)) fnUseMostCard

/-- THE TIED CARD OF 'laws.FnUseFirst'. -/
def fnUseFirstCard : Claim7 := { stood := { row := fnUseFirstRow, standIns := [], harness := (true, "e7eab76fc9e2410b7f7434093c4327cc59cf59467d4d312316fc45a706845471"), looks := false }, kinds := [], alts := [], laidByText := true, laidKinds := [.data, .data, .data], laidTests := true, laidLooks := .later }
def FnUseFirstCardSaid : Prop := Claim7.holds Tryd.pinned (.plain (OpenSpec.ofChange fnUseFirstSpec)) fnUseFirstCard

/-- THE SECOND FORM's CARD OF 'laws.FnSpoilLeast'. -/
def fnSpoilLeastUptoCard : Claim7 := { stood := { row := fnSpoilLeastUptoRow, standIns := [], harness := (true, "e7eab76fc9e2410b7f7434093c4327cc59cf59467d4d312316fc45a706845471"), looks := false }, kinds := [], alts := [], laidByText := true, laidKinds := [.data, .data, .data], laidTests := true, laidLooks := .later }
def FnSpoilLeastUptoCardSaid : Prop := Claim7.holds Tryd.pinned (.plain (OpenSpec.upto fnSpoilLeastSpec)) fnSpoilLeastUptoCard

/-- THE SECOND FORM's CARD OF 'laws.FnUseOk'. -/
def fnUseOkUptoCard : Claim7 := { stood := { row := fnUseOkUptoRow, standIns := [], harness := (true, "e7eab76fc9e2410b7f7434093c4327cc59cf59467d4d312316fc45a706845471"), looks := false }, kinds := [], alts := [], laidByText := true, laidKinds := [.data, .data, .data], laidTests := true, laidLooks := .later }
def FnUseOkUptoCardSaid : Prop := Claim7.holds Tryd.pinned (.plain (OpenSpec.upto fnUseOkSpec)) fnUseOkUptoCard

/-- THE SECOND FORM's CARD OF 'laws.FnLotsValid'. -/
def fnLotsValidUptoCard : Claim7 := { stood := { row := fnLotsValidUptoRow, standIns := [], harness := (true, "e7eab76fc9e2410b7f7434093c4327cc59cf59467d4d312316fc45a706845471"), looks := false }, kinds := [], alts := [], laidByText := true, laidKinds := [.data, .data, .data], laidTests := true, laidLooks := .later }
def FnLotsValidUptoCardSaid : Prop := Claim7.holds Tryd.pinned (.plain (OpenSpec.upto fnLotsValidSpec)) fnLotsValidUptoCard

/-- THE SECOND FORM's CARD OF 'laws.FnWantsValid'. -/
def fnWantsValidUptoCard : Claim7 := { stood := { row := fnWantsValidUptoRow, standIns := [], harness := (true, "e7eab76fc9e2410b7f7434093c4327cc59cf59467d4d312316fc45a706845471"), looks := false }, kinds := [], alts := [], laidByText := true, laidKinds := [.data, .data, .data], laidTests := true, laidLooks := .later }
def FnWantsValidUptoCardSaid : Prop := Claim7.holds Tryd.pinned (.plain (OpenSpec.upto fnWantsValidSpec)) fnWantsValidUptoCard

/-- THE SECOND FORM's CARD OF 'laws.FnLotsAt'. -/
def fnLotsAtUptoCard : Claim7 := { stood := { row := fnLotsAtUptoRow, standIns := [], harness := (true, "e7eab76fc9e2410b7f7434093c4327cc59cf59467d4d312316fc45a706845471"), looks := false }, kinds := [], alts := [], laidByText := true, laidKinds := [.data, .data, .data], laidTests := true, laidLooks := .later }
def FnLotsAtUptoCardSaid : Prop := Claim7.holds Tryd.pinned (.plain (OpenSpec.upto fnLotsAtSpec)) fnLotsAtUptoCard

/-- THE SECOND FORM's CARD OF 'laws.FnTakeOk'. -/
def fnTakeOkUptoCard : Claim7 := { stood := { row := fnTakeOkUptoRow, standIns := [], harness := (true, "e7eab76fc9e2410b7f7434093c4327cc59cf59467d4d312316fc45a706845471"), looks := false }, kinds := [], alts := [], laidByText := true, laidKinds := [.data, .data, .data], laidTests := true, laidLooks := .later }
def FnTakeOkUptoCardSaid : Prop := Claim7.holds Tryd.pinned (.plain (OpenSpec.upto fnTakeOkSpec)) fnTakeOkUptoCard

/-- THE SECOND FORM's CARD OF 'laws.FnTakeDo'. -/
def fnTakeDoUptoCard : Claim7 := { stood := { row := fnTakeDoUptoRow, standIns := [], harness := (true, "e7eab76fc9e2410b7f7434093c4327cc59cf59467d4d312316fc45a706845471"), looks := false }, kinds := [], alts := [], laidByText := true, laidKinds := [.data, .data, .data], laidTests := true, laidLooks := .later }
def FnTakeDoUptoCardSaid : Prop := Claim7.holds Tryd.pinned (.plain (OpenSpec.upto fnTakeDoSpec)) fnTakeDoUptoCard

/-- THE SECOND FORM's CARD OF 'laws.FnUseSum'. -/
def fnUseSumUptoCard : Claim7 := { stood := { row := fnUseSumUptoRow, standIns := [], harness := (true, "e7eab76fc9e2410b7f7434093c4327cc59cf59467d4d312316fc45a706845471"), looks := false }, kinds := [], alts := [], laidByText := true, laidKinds := [.data, .data, .data], laidTests := true, laidLooks := .later }
def FnUseSumUptoCardSaid : Prop := Claim7.holds Tryd.pinned (.plain (OpenSpec.upto fnUseSumSpec)) fnUseSumUptoCard

/-- THE SECOND FORM's CARD OF 'laws.FnTakeFirst'. -/
def fnTakeFirstUptoCard : Claim7 := { stood := { row := fnTakeFirstUptoRow, standIns := [], harness := (true, "e7eab76fc9e2410b7f7434093c4327cc59cf59467d4d312316fc45a706845471"), looks := false }, kinds := [], alts := [], laidByText := true, laidKinds := [.data, .data, .data], laidTests := true, laidLooks := .later }
def FnTakeFirstUptoCardSaid : Prop := Claim7.holds Tryd.pinned (.plain (OpenSpec.upto fnTakeFirstSpec)) fnTakeFirstUptoCard

/-- THE SECOND FORM's CARD OF 'laws.FnUseBound'. -/
def fnUseBoundUptoCard : Claim7 := { stood := { row := fnUseBoundUptoRow, standIns := [], harness := (true, "e7eab76fc9e2410b7f7434093c4327cc59cf59467d4d312316fc45a706845471"), looks := false }, kinds := [], alts := [], laidByText := true, laidKinds := [.data, .data, .data], laidTests := true, laidLooks := .later }
def FnUseBoundUptoCardSaid : Prop := Claim7.holds Tryd.pinned (.plain (OpenSpec.upto fnUseBoundSpec)) fnUseBoundUptoCard

/-- THE SECOND FORM's CARD OF 'laws.FnLackLeast'. -/
def fnLackLeastUptoCard : Claim7 := { stood := { row := fnLackLeastUptoRow, standIns := [], harness := (true, "e7eab76fc9e2410b7f7434093c4327cc59cf59467d4d312316fc45a706845471"), looks := false }, kinds := [], alts := [], laidByText := true, laidKinds := [.data, .data, .data], laidTests := true, laidLooks := .later }
def FnLackLeastUptoCardSaid : Prop := Claim7.holds Tryd.pinned (.plain (OpenSpec.upto fnLackLeastSpec)) fnLackLeastUptoCard

/-- THE SECOND FORM's CARD OF 'laws.FnUseMost'. -/
def fnUseMostUptoCard : Claim7 := { stood := { row := fnUseMostUptoRow, standIns := [], harness := (true, "e7eab76fc9e2410b7f7434093c4327cc59cf59467d4d312316fc45a706845471"), looks := false }, kinds := [], alts := [], laidByText := true, laidKinds := [.data, .data, .data], laidTests := true, laidLooks := .later }
def FnUseMostUptoCardSaid : Prop := Claim7.holds Tryd.pinned (.plain (OpenSpec.upto fnUseMostSpec)) fnUseMostUptoCard

/-- THE SECOND FORM's CARD OF 'laws.FnUseFirst'. -/
def fnUseFirstUptoCard : Claim7 := { stood := { row := fnUseFirstUptoRow, standIns := [], harness := (true, "e7eab76fc9e2410b7f7434093c4327cc59cf59467d4d312316fc45a706845471"), looks := false }, kinds := [], alts := [], laidByText := true, laidKinds := [.data, .data, .data], laidTests := true, laidLooks := .later }
def FnUseFirstUptoCardSaid : Prop := Claim7.holds Tryd.pinned (.plain (OpenSpec.upto fnUseFirstSpec)) fnUseFirstUptoCard
end Rows
end Go.Proofs.YteeklaplnhafoaaDoor
