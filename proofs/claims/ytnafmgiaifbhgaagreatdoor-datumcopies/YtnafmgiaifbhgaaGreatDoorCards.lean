/-
  DERIVED. GIVEN WITH THE SEED: THE CARDS: each row of YtnafmgiaifbhgaaGreatDoorRows.lean that lists a variable, with what it lists TIED to the program's text (the seventh form; the later family's looks); each row that meets fmt, with fmt's text TOLD by the authors' own Lean function (tested against real Go, not proved from fmt's source: count such statements apart). THE CARD IS WHAT COUNTS. Prove the row's statement (the work); the ties are given (YtnafmgiaifbhgaaGreatDoorTie.lean); close each card by the builder's one call (the guide's Derived/Test/ToyasCard.lean, 'card_holds'). Laid BY PROGRAM, IN A SANDBOX (cutbox-door.mjs). By AI agents, Wed Nov 11 2026. No macro, syntax, notation, axiom, sorry.
-/
import Derived.Test.YtnafmgiaifbhgaaGreatDoorRows
import GoSem.ClaimSeven
namespace Go.Proofs.YtnafmgiaifbhgaaGreatDoor
namespace Rows

/-- THE TIED CARD OF 'distafflaw05.DatumCopies'. -/
def datumCopiesCard : Claim7 := { stood := { row := datumCopiesRow, standIns := [], harness := (true, "f23d45f99aa1faf5417cc8359cc9457b12f113f6a7f69202aa50edfc1c0553d9"), looks := true }, kinds := [], alts := [], laidByText := true, laidKinds := [.data, .data, .widerDeep, .widerDeep, .data, .data, .data, .data, .data, .data, .sentinel, .sentinel, .pinned, .pinned, .pinned], laidTests := true, laidLooks := .later }
def DatumCopiesCardSaid : Prop := Claim7.holds Tryz.pinned (.plain (OpenSpec.ofChange datumCopiesSpec)) datumCopiesCard

/-- THE SECOND FORM's CARD OF 'distafflaw05.DatumCopies'. -/
def datumCopiesUptoCard : Claim7 := { stood := { row := datumCopiesUptoRow, standIns := [], harness := (true, "f23d45f99aa1faf5417cc8359cc9457b12f113f6a7f69202aa50edfc1c0553d9"), looks := true }, kinds := [], alts := [], laidByText := true, laidKinds := [.data, .data, .widerDeep, .widerDeep, .data, .data, .data, .data, .data, .data, .sentinel, .sentinel, .pinned, .pinned, .pinned], laidTests := true, laidLooks := .later }
def DatumCopiesUptoCardSaid : Prop := Claim7.holds Tryz.pinned (.plain (OpenSpec.upto datumCopiesSpec)) datumCopiesUptoCard
end Rows
end Go.Proofs.YtnafmgiaifbhgaaGreatDoor
