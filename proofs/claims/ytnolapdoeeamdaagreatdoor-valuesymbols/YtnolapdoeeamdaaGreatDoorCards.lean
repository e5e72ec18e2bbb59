/-
  DERIVED. GIVEN WITH THE SEED: THE CARDS: each row of YtnolapdoeeamdaaGreatDoorRows.lean that lists a variable, with what it lists TIED to the program's text (the seventh form; the later family's looks); each row that meets fmt, with fmt's text TOLD by the authors' own Lean function (tested against real Go, not proved from fmt's source: count such statements apart). THE CARD IS WHAT COUNTS. Prove the row's statement (the work); the ties are given (YtnolapdoeeamdaaGreatDoorTie.lean); close each card by the builder's one call (the guide's Derived/Test/ToyasCard.lean, 'card_holds'). Laid BY PROGRAM, IN A SANDBOX (cutbox-door.mjs). By AI agents, Wed Nov 11 2026. No macro, syntax, notation, axiom, sorry.
-/
import Derived.Test.YtnolapdoeeamdaaGreatDoorRows
import GoSem.ClaimSeven
namespace Go.Proofs.YtnolapdoeeamdaaGreatDoor
namespace Rows

/-- THE TIED CARD OF 'distafflaw18.ValueSymbols'. -/
def valueSymbolsCard : Claim7 := { stood := { row := valueSymbolsRow, standIns := [], harness := (true, "406ace7b8a473257ad197de4ddfa4d7a6dd2df9564c3995c00c8ae167286c99b"), looks := true }, kinds := [], alts := [], laidByText := true, laidKinds := [.data, .data, .widerDeep, .widerDeep, .data, .data, .data, .data, .data, .data, .sentinel, .sentinel, .pinned, .pinned, .pinned], laidTests := true, laidLooks := .later }
def ValueSymbolsCardSaid : Prop := Claim7.holds Tryz.pinned (.plain (OpenSpec.ofChange valueSymbolsSpec)) valueSymbolsCard

/-- THE SECOND FORM's CARD OF 'distafflaw18.ValueSymbols'. -/
def valueSymbolsUptoCard : Claim7 := { stood := { row := valueSymbolsUptoRow, standIns := [], harness := (true, "406ace7b8a473257ad197de4ddfa4d7a6dd2df9564c3995c00c8ae167286c99b"), looks := true }, kinds := [], alts := [], laidByText := true, laidKinds := [.data, .data, .widerDeep, .widerDeep, .data, .data, .data, .data, .data, .data, .sentinel, .sentinel, .pinned, .pinned, .pinned], laidTests := true, laidLooks := .later }
def ValueSymbolsUptoCardSaid : Prop := Claim7.holds Tryz.pinned (.plain (OpenSpec.upto valueSymbolsSpec)) valueSymbolsUptoCard
end Rows
end Go.Proofs.YtnolapdoeeamdaaGreatDoor
