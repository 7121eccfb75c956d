/-
  DERIVED. GIVEN WITH THE SEED: THE CARDS: each row of YtmemenkioejdoaaDoorRows.lean that lists a variable, with what it lists TIED to the program's text (the seventh form; the later family's looks); each row that meets fmt, with fmt's text TOLD by the authors' own Lean function (tested against real Go, not proved from fmt's source: count such statements apart). THE CARD IS WHAT COUNTS. Prove the row's statement (the work); the ties are given (YtmemenkioejdoaaDoorTie.lean); close each card by the builder's one call (the guide's Derived/Test/ToyasCard.lean, 'card_holds'). Laid BY PROGRAM, IN A SANDBOX (cutbox-door.mjs). By AI agents, Wed Nov 11 2026. No macro, syntax, notation, axiom, sorry.
-/
import Derived.Test.YtmemenkioejdoaaDoorRows
import GoSem.ClaimSeven
namespace Go.Proofs.YtmemenkioejdoaaDoor
namespace Rows

/-- THE TIED CARD OF 'laws.FnUseSum'. -/
def fnUseSumCard : Claim7 := { stood := { row := fnUseSumRow, standIns := [], harness := (true, "a730d8bbc7dcb92fca7c295a7f7479e4aac6ca57679be1ee374edc46f362d38e"), looks := false }, kinds := [], alts := [], laidByText := true, laidKinds := [.data, .data, .data], laidTests := true, laidLooks := .later }
def FnUseSumCardSaid : Prop := Claim7.holds Tryd.pinned (.plain (OpenSpec.ofChange fnUseSumSpec)) fnUseSumCard

/-- THE SECOND FORM's CARD OF 'laws.FnUseSum'. -/
def fnUseSumUptoCard : Claim7 := { stood := { row := fnUseSumUptoRow, standIns := [], harness := (true, "a730d8bbc7dcb92fca7c295a7f7479e4aac6ca57679be1ee374edc46f362d38e"), looks := false }, kinds := [], alts := [], laidByText := true, laidKinds := [.data, .data, .data], laidTests := true, laidLooks := .later }
def FnUseSumUptoCardSaid : Prop := Claim7.holds Tryd.pinned (.plain (OpenSpec.upto fnUseSumSpec)) fnUseSumUptoCard
end Rows
end Go.Proofs.YtmemenkioejdoaaDoor
