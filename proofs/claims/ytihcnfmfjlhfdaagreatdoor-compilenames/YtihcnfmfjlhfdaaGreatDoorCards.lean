/-
  DERIVED. GIVEN WITH THE SEED: THE CARDS: each row of YtihcnfmfjlhfdaaGreatDoorRows.lean that lists a variable, with what it lists TIED to the program's text (the seventh form; the later family's looks); each row that meets fmt, with fmt's text TOLD by the authors' own Lean function (tested against real Go, not proved from fmt's source: count such statements apart). THE CARD IS WHAT COUNTS. Prove the row's statement (the work); the ties are given (YtihcnfmfjlhfdaaGreatDoorTie.lean); close each card by the builder's one call (the guide's Derived/Test/ToyasCard.lean, 'card_holds'). Laid BY PROGRAM, IN A SANDBOX (cutbox-door.mjs). By AI agents, Wed Nov 11 2026. No macro, syntax, notation, axiom, sorry.
-/
import Derived.Test.YtihcnfmfjlhfdaaGreatDoorRows
import GoSem.ClaimSeven
namespace Go.Proofs.YtihcnfmfjlhfdaaGreatDoor
namespace Rows

/-- THE TIED CARD OF 'distafflaw12.CompileNames'. -/
def compileNamesCard : Claim7 := { stood := { row := compileNamesRow, standIns := [], harness := (true, "13a1e41eb3199551b2e6d8c6d57898d1ac645215e405b894348aca37af208e16"), looks := true }, kinds := [], alts := [], laidByText := true, laidKinds := [.data, .data, .widerDeep, .widerDeep, .data, .data, .data, .data, .data, .data, .sentinel, .sentinel, .listed, .data, .pinned, .pinned, .pinned], laidTests := true, laidLooks := .later }
def CompileNamesCardSaid : Prop := Claim7.holds Tryz.pinned (.plain (OpenSpec.ofChange compileNamesSpec)) compileNamesCard

/-- THE SECOND FORM's CARD OF 'distafflaw12.CompileNames'. -/
def compileNamesUptoCard : Claim7 := { stood := { row := compileNamesUptoRow, standIns := [], harness := (true, "13a1e41eb3199551b2e6d8c6d57898d1ac645215e405b894348aca37af208e16"), looks := true }, kinds := [], alts := [], laidByText := true, laidKinds := [.data, .data, .widerDeep, .widerDeep, .data, .data, .data, .data, .data, .data, .sentinel, .sentinel, .listed, .data, .pinned, .pinned, .pinned], laidTests := true, laidLooks := .later }
def CompileNamesUptoCardSaid : Prop := Claim7.holds Tryz.pinned (.plain (OpenSpec.upto compileNamesSpec)) compileNamesUptoCard
end Rows
end Go.Proofs.YtihcnfmfjlhfdaaGreatDoor
