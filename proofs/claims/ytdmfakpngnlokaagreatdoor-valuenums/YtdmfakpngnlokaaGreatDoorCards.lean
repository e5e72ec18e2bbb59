/-
  DERIVED. GIVEN WITH THE SEED: THE CARDS: each row of YtdmfakpngnlokaaGreatDoorRows.lean that lists a variable, with what it lists TIED to the program's text (the seventh form; the later family's looks); each row that meets fmt, with fmt's text TOLD by the authors' own Lean function (tested against real Go, not proved from fmt's source: count such statements apart). THE CARD IS WHAT COUNTS. Prove the row's statement (the work); the ties are given (YtdmfakpngnlokaaGreatDoorTie.lean); close each card by the builder's one call (the guide's Derived/Test/ToyasCard.lean, 'card_holds'). Laid BY PROGRAM, IN A SANDBOX (cutbox-door.mjs). By AI agents, Wed Nov 11 2026. No macro, syntax, notation, axiom, sorry.
-/
import Derived.Test.YtdmfakpngnlokaaGreatDoorRows
import GoSem.ClaimSeven
namespace Go.Proofs.YtdmfakpngnlokaaGreatDoor
namespace Rows

/-- THE TIED CARD OF 'distafflaw18.ValueNums'. -/
def valueNumsCard : Claim7 := { stood := { row := valueNumsRow, standIns := [], harness := (true, "1e3d33a63eb476c97f725d9007c8508dc41aafccaa5c6beefea9553ee2204b47"), looks := true }, kinds := [], alts := [], laidByText := true, laidKinds := [.data, .data, .widerDeep, .widerDeep, .data, .data, .data, .data, .data, .data, .sentinel, .sentinel, .pinned, .pinned, .pinned], laidTests := true, laidLooks := .later }
def ValueNumsCardSaid : Prop := Claim7.holds Tryz.pinned (.plain (OpenSpec.ofChange valueNumsSpec)) valueNumsCard

/-- THE SECOND FORM's CARD OF 'distafflaw18.ValueNums'. -/
def valueNumsUptoCard : Claim7 := { stood := { row := valueNumsUptoRow, standIns := [], harness := (true, "1e3d33a63eb476c97f725d9007c8508dc41aafccaa5c6beefea9553ee2204b47"), looks := true }, kinds := [], alts := [], laidByText := true, laidKinds := [.data, .data, .widerDeep, .widerDeep, .data, .data, .data, .data, .data, .data, .sentinel, .sentinel, .pinned, .pinned, .pinned], laidTests := true, laidLooks := .later }
def ValueNumsUptoCardSaid : Prop := Claim7.holds Tryz.pinned (.plain (OpenSpec.upto valueNumsSpec)) valueNumsUptoCard
end Rows
end Go.Proofs.YtdmfakpngnlokaaGreatDoor
