/-
  DERIVED. GIVEN WITH THE SEED: THE CARDS: each row of YthnglblipoimhaaGreatDoorRows.lean that lists a variable, with what it lists TIED to the program's text (the seventh form; the later family's looks); each row that meets fmt, with fmt's text TOLD by the authors' own Lean function (tested against real Go, not proved from fmt's source: count such statements apart). THE CARD IS WHAT COUNTS. Prove the row's statement (the work); the ties are given (YthnglblipoimhaaGreatDoorTie.lean); close each card by the builder's one call (the guide's Derived/Test/ToyasCard.lean, 'card_holds'). Laid BY PROGRAM, IN A SANDBOX (cutbox-door.mjs). By AI agents, Wed Nov 11 2026. No macro, syntax, notation, axiom, sorry.
-/
import Derived.Test.YthnglblipoimhaaGreatDoorRows
import GoSem.ClaimSeven
namespace Go.Proofs.YthnglblipoimhaaGreatDoor
namespace Rows

/-- THE TIED CARD OF 'distafflaw05.DatumMakes'. -/
def datumMakesCard : Claim7 := { stood := { row := datumMakesRow, standIns := [], harness := (true, "05de740e3a386b0403bfb507d78aa99dc80a55710e82234bf898f0cfd6f94b3d"), looks := true }, kinds := [], alts := [], laidByText := true, laidKinds := [.data, .data, .widerDeep, .widerDeep, .data, .data, .data, .data, .data, .data, .sentinel, .sentinel, .pinned, .pinned, .pinned], laidTests := true, laidLooks := .later }
def DatumMakesCardSaid : Prop := Claim7.holds Tryz.pinned (.plain (OpenSpec.ofChange datumMakesSpec)) datumMakesCard

/-- THE SECOND FORM's CARD OF 'distafflaw05.DatumMakes'. -/
def datumMakesUptoCard : Claim7 := { stood := { row := datumMakesUptoRow, standIns := [], harness := (true, "05de740e3a386b0403bfb507d78aa99dc80a55710e82234bf898f0cfd6f94b3d"), looks := true }, kinds := [], alts := [], laidByText := true, laidKinds := [.data, .data, .widerDeep, .widerDeep, .data, .data, .data, .data, .data, .data, .sentinel, .sentinel, .pinned, .pinned, .pinned], laidTests := true, laidLooks := .later }
def DatumMakesUptoCardSaid : Prop := Claim7.holds Tryz.pinned (.plain (OpenSpec.upto datumMakesSpec)) datumMakesUptoCard
end Rows
end Go.Proofs.YthnglblipoimhaaGreatDoor
