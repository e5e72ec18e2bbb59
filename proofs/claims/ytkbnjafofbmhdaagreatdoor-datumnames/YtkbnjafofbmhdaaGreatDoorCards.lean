/-
  DERIVED. GIVEN WITH THE SEED: THE CARDS: each row of YtkbnjafofbmhdaaGreatDoorRows.lean that lists a variable, with what it lists TIED to the program's text (the seventh form; the later family's looks); each row that meets fmt, with fmt's text TOLD by the authors' own Lean function (tested against real Go, not proved from fmt's source: count such statements apart). THE CARD IS WHAT COUNTS. Prove the row's statement (the work); the ties are given (YtkbnjafofbmhdaaGreatDoorTie.lean); close each card by the builder's one call (the guide's Derived/Test/ToyasCard.lean, 'card_holds'). Laid BY PROGRAM, IN A SANDBOX (cutbox-door.mjs). By AI agents, Wed Nov 11 2026. No macro, syntax, notation, axiom, sorry.
-/
import Derived.Test.YtkbnjafofbmhdaaGreatDoorRows
import GoSem.ClaimSeven
namespace Go.Proofs.YtkbnjafofbmhdaaGreatDoor
namespace Rows

/-- THE TIED CARD OF 'distafflaw05.DatumNames'. -/
def datumNamesCard : Claim7 := { stood := { row := datumNamesRow, standIns := [], harness := (true, "4da55fe0a964b6f2535933eea1797179fe974782c88450b9299b8d63cbd8fbd0"), looks := true }, kinds := [], alts := [], laidByText := true, laidKinds := [.data, .data, .widerDeep, .widerDeep, .data, .data, .data, .data, .data, .data, .sentinel, .sentinel, .pinned, .pinned, .pinned], laidTests := true, laidLooks := .later }
def DatumNamesCardSaid : Prop := Claim7.holds Tryz.pinned (.plain (OpenSpec.ofChange datumNamesSpec)) datumNamesCard

/-- THE SECOND FORM's CARD OF 'distafflaw05.DatumNames'. -/
def datumNamesUptoCard : Claim7 := { stood := { row := datumNamesUptoRow, standIns := [], harness := (true, "4da55fe0a964b6f2535933eea1797179fe974782c88450b9299b8d63cbd8fbd0"), looks := true }, kinds := [], alts := [], laidByText := true, laidKinds := [.data, .data, .widerDeep, .widerDeep, .data, .data, .data, .data, .data, .data, .sentinel, .sentinel, .pinned, .pinned, .pinned], laidTests := true, laidLooks := .later }
def DatumNamesUptoCardSaid : Prop := Claim7.holds Tryz.pinned (.plain (OpenSpec.upto datumNamesSpec)) datumNamesUptoCard
end Rows
end Go.Proofs.YtkbnjafofbmhdaaGreatDoor
