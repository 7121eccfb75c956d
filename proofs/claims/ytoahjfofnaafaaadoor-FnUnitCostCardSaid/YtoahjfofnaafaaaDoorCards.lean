/-
  DERIVED. GIVEN WITH THE SEED: THE CARDS: each row of YtoahjfofnaafaaaDoorRows.lean that lists a variable, with what it lists TIED to the program's text (the seventh form; the later family's looks); each row that meets fmt, with fmt's text TOLD by the authors' own Lean function (tested against real Go, not proved from fmt's source: count such statements apart). THE CARD IS WHAT COUNTS. Prove the row's statement (the work); the ties are given (YtoahjfofnaafaaaDoorTie.lean); close each card by the builder's one call (the guide's Derived/Test/ToyasCard.lean, 'card_holds'). Laid BY PROGRAM, IN A SANDBOX (cutbox-door.mjs). By AI agents, Wed Nov 11 2026. No macro, syntax, notation, axiom, sorry.
-/
import Derived.Test.YtoahjfofnaafaaaDoorRows
import GoSem.ClaimSeven
namespace Go.Proofs.YtoahjfofnaafaaaDoor
namespace Rows

/-- THE TIED CARD OF 'laws.FnReadItem'. -/
def fnReadItemCard : Claim7 := { stood := { row := fnReadItemRow, standIns := [], harness := (true, "baf7eb30460984bd492f7373ff0cdc02015709a9aae0c0b250c0649cda70f442"), looks := false }, kinds := [], alts := [], laidByText := true, laidKinds := [.data, .data, .data, .data, .pinned], laidTests := true, laidLooks := .later }
def FnReadItemCardSaid : Prop := Claim7.holds Tryd.pinned (.plain (OpenSpec.ofChange fnReadItemSpec)) fnReadItemCard

/-- THE TIED CARD OF 'laws.FnExactItemText'. -/
def fnExactItemTextCard : Claim7 := { stood := { row := fnExactItemTextRow, standIns := [], harness := (true, "baf7eb30460984bd492f7373ff0cdc02015709a9aae0c0b250c0649cda70f442"), looks := false }, kinds := [], alts := [], laidByText := true, laidKinds := [.data, .data, .data], laidTests := true, laidLooks := .later }
def FnExactItemTextCardSaid : Prop := Claim7.holds Tryd.pinned (.plain (OpenSpec.ofChange fnExactItemTextSpec)) fnExactItemTextCard

/-- THE TIED CARD OF 'laws.FnPlanCost'. -/
def fnPlanCostCard : Claim7 := { stood := { row := fnPlanCostRow, standIns := [], harness := (true, "baf7eb30460984bd492f7373ff0cdc02015709a9aae0c0b250c0649cda70f442"), looks := false }, kinds := [], alts := [], laidByText := true, laidKinds := [.data, .data, .data], laidTests := true, laidLooks := .later }
def FnPlanCostCardSaid : Prop := Claim7.holds Tryd.pinned (.plain (OpenSpec.ofChange fnPlanCostSpec)) fnPlanCostCard

/-- THE TIED CARD OF 'laws.FnUnitCost'. -/
def fnUnitCostCard : Claim7 := { stood := { row := fnUnitCostRow, standIns := [], harness := (true, "baf7eb30460984bd492f7373ff0cdc02015709a9aae0c0b250c0649cda70f442"), looks := false }, kinds := [], alts := [], laidByText := true, laidKinds := [.data, .data, .data], laidTests := true, laidLooks := .later }
def FnUnitCostCardSaid : Prop := Claim7.holds Tryd.pinned (.plain (OpenSpec.ofChange fnUnitCostSpec)) fnUnitCostCard

/-- THE TIED CARD OF 'laws.FnPlanOk'. -/
def fnPlanOkCard : Claim7 := { stood := { row := fnPlanOkRow, standIns := [], harness := (true, "baf7eb30460984bd492f7373ff0cdc02015709a9aae0c0b250c0649cda70f442"), looks := false }, kinds := [], alts := [], laidByText := true, laidKinds := [.data, .data, .data], laidTests := true, laidLooks := .later }
def FnPlanOkCardSaid : Prop := Claim7.holds Tryd.pinned (.plain (OpenSpec.ofChange fnPlanOkSpec)) fnPlanOkCard

/-- THE TIED CARD OF 'laws.FnMakeRun'. -/
def fnMakeRunCard : Claim7 := { stood := { row := fnMakeRunRow, standIns := [], harness := (true, "baf7eb30460984bd492f7373ff0cdc02015709a9aae0c0b250c0649cda70f442"), looks := false }, kinds := [], alts := [], laidByText := true, laidKinds := [.data, .data, .data], laidTests := true, laidLooks := .later }
def FnMakeRunCardSaid : Prop := Claim7.holds Tryd.pinned (.plain (OpenSpec.ofChange fnMakeRunSpec)) fnMakeRunCard

/-- THE TIED CARD OF 'laws.FnItemText'. -/
def fnItemTextCard : Claim7 := { stood := { row := fnItemTextRow, standIns := [], harness := (true, "baf7eb30460984bd492f7373ff0cdc02015709a9aae0c0b250c0649cda70f442"), looks := false }, kinds := [], alts := [], laidByText := true, laidKinds := [.data, .data, .data, .data, .pinned], laidTests := true, laidLooks := .later }
def FnItemTextCardSaid : Prop := Claim7.holds Tryd.pinned (.plain (OpenSpec.ofChange fnItemTextSpec)) fnItemTextCard

/-- THE TIED CARD OF 'laws.FnExactReadItem'. -/
def fnExactReadItemCard : Claim7 := { stood := { row := fnExactReadItemRow, standIns := [], harness := (true, "baf7eb30460984bd492f7373ff0cdc02015709a9aae0c0b250c0649cda70f442"), looks := false }, kinds := [], alts := [], laidByText := true, laidKinds := [.data, .data, .data, .data, .pinned], laidTests := true, laidLooks := .later }
def FnExactReadItemCardSaid : Prop := Claim7.holds Tryd.pinned (.plain (OpenSpec.ofChange fnExactReadItemSpec)) fnExactReadItemCard

/-- THE SECOND FORM's CARD OF 'laws.FnReadItem'. -/
def fnReadItemUptoCard : Claim7 := { stood := { row := fnReadItemUptoRow, standIns := [], harness := (true, "baf7eb30460984bd492f7373ff0cdc02015709a9aae0c0b250c0649cda70f442"), looks := false }, kinds := [], alts := [], laidByText := true, laidKinds := [.data, .data, .data, .data, .pinned], laidTests := true, laidLooks := .later }
def FnReadItemUptoCardSaid : Prop := Claim7.holds Tryd.pinned (.plain (OpenSpec.upto fnReadItemSpec)) fnReadItemUptoCard

/-- THE SECOND FORM's CARD OF 'laws.FnExactItemText'. -/
def fnExactItemTextUptoCard : Claim7 := { stood := { row := fnExactItemTextUptoRow, standIns := [], harness := (true, "baf7eb30460984bd492f7373ff0cdc02015709a9aae0c0b250c0649cda70f442"), looks := false }, kinds := [], alts := [], laidByText := true, laidKinds := [.data, .data, .data], laidTests := true, laidLooks := .later }
def FnExactItemTextUptoCardSaid : Prop := Claim7.holds Tryd.pinned (.plain (OpenSpec.upto fnExactItemTextSpec)) fnExactItemTextUptoCard

/-- THE SECOND FORM's CARD OF 'laws.FnPlanCost'. -/
def fnPlanCostUptoCard : Claim7 := { stood := { row := fnPlanCostUptoRow, standIns := [], harness := (true, "baf7eb30460984bd492f7373ff0cdc02015709a9aae0c0b250c0649cda70f442"), looks := false }, kinds := [], alts := [], laidByText := true, laidKinds := [.data, .data, .data], laidTests := true, laidLooks := .later }
def FnPlanCostUptoCardSaid : Prop := Claim7.holds Tryd.pinned (.plain (OpenSpec.upto fnPlanCostSpec)) fnPlanCostUptoCard

/-- THE SECOND FORM's CARD OF 'laws.FnUnitCost'. -/
def fnUnitCostUptoCard : Claim7 := { stood := { row := fnUnitCostUptoRow, standIns := [], harness := (true, "baf7eb30460984bd492f7373ff0cdc02015709a9aae0c0b250c0649cda70f442"), looks := false }, kinds := [], alts := [], laidByText := true, laidKinds := [.data, .data, .data], laidTests := true, laidLooks := .later }
def FnUnitCostUptoCardSaid : Prop := Claim7.holds Tryd.pinned (.plain (OpenSpec.upto fnUnitCostSpec)) fnUnitCostUptoCard

/-- THE SECOND FORM's CARD OF 'laws.FnPlanOk'. -/
def fnPlanOkUptoCard : Claim7 := { stood := { row := fnPlanOkUptoRow, standIns := [], harness := (true, "baf7eb30460984bd492f7373ff0cdc02015709a9aae0c0b250c0649cda70f442"), looks := false }, kinds := [], alts := [], laidByText := true, laidKinds := [.data, .data, .data], laidTests := true, laidLooks := .later }
def FnPlanOkUptoCardSaid : Prop := Claim7.holds Tryd.pinned (.plain (OpenSpec.upto fnPlanOkSpec)) fnPlanOkUptoCard

/-- THE SECOND FORM's CARD OF 'laws.FnMakeRun'. -/
def fnMakeRunUptoCard : Claim7 := { stood := { row := fnMakeRunUptoRow, standIns := [], harness := (true, "baf7eb30460984bd492f7373ff0cdc02015709a9aae0c0b250c0649cda70f442"), looks := false }, kinds := [], alts := [], laidByText := true, laidKinds := [.data, .data, .data], laidTests := true, laidLooks := .later }
def FnMakeRunUptoCardSaid : Prop := Claim7.holds Tryd.pinned (.plain (OpenSpec.upto fnMakeRunSpec)) fnMakeRunUptoCard

/-- THE SECOND FORM's CARD OF 'laws.FnItemText'. -/
def fnItemTextUptoCard : Claim7 := { stood := { row := fnItemTextUptoRow, standIns := [], harness := (true, "baf7eb30460984bd492f7373ff0cdc02015709a9aae0c0b250c0649cda70f442"), looks := false }, kinds := [], alts := [], laidByText := true, laidKinds := [.data, .data, .data, .data, .pinned], laidTests := true, laidLooks := .later }
def FnItemTextUptoCardSaid : Prop := Claim7.holds Tryd.pinned (.plain (OpenSpec.upto fnItemTextSpec)) fnItemTextUptoCard

/-- THE SECOND FORM's CARD OF 'laws.FnExactReadItem'. -/
def fnExactReadItemUptoCard : Claim7 := { stood := { row := fnExactReadItemUptoRow, standIns := [], harness := (true, "baf7eb30460984bd492f7373ff0cdc02015709a9aae0c0b250c0649cda70f442"), looks := false }, kinds := [], alts := [], laidByText := true, laidKinds := [.data, .data, .data, .data, .pinned], laidTests := true, laidLooks := .later }
def FnExactReadItemUptoCardSaid : Prop := Claim7.holds Tryd.pinned (.plain (OpenSpec.upto fnExactReadItemSpec)) fnExactReadItemUptoCard
end Rows
end Go.Proofs.YtoahjfofnaafaaaDoor
