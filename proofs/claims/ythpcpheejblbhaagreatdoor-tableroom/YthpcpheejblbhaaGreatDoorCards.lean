/-
  DERIVED. GIVEN WITH THE SEED: THE CARDS: each row of YthpcpheejblbhaaGreatDoorRows.lean that lists a variable, with what it lists TIED to the program's text (the seventh form; the later family's looks); each row that meets fmt, with fmt's text TOLD by the authors' own Lean function (tested against real Go, not proved from fmt's source: count such statements apart). THE CARD IS WHAT COUNTS. Prove the row's statement (the work); the ties are given (YthpcpheejblbhaaGreatDoorTie.lean); close each card by the builder's one call (the guide's Derived/Test/ToyasCard.lean, 'card_holds'). Laid BY PROGRAM, IN A SANDBOX (cutbox-door.mjs). By AI agents, Wed Nov 11 2026. No macro, syntax, notation, axiom, sorry.
-/
import Derived.Test.YthpcpheejblbhaaGreatDoorRows
import GoSem.ClaimSeven
namespace Go.Proofs.YthpcpheejblbhaaGreatDoor
namespace Rows

/-- THE TIED CARD OF 'distafflaw19.TableRoom'. -/
def tableRoomCard : Claim7 := { stood := { row := tableRoomRow, standIns := [], harness := (true, "a6f6069e3684c7bb300c84d58de7f3ac2ff3307d03ba5af0e17957b0b666efa6"), looks := true }, kinds := [], alts := [], laidByText := true, laidKinds := [.data, .data, .data, .data, .sentinel, .sentinel, .pinned, .pinned], laidTests := true, laidLooks := .later }
def TableRoomCardSaid : Prop := Claim7.holds Tryz.pinned (.plain (OpenSpec.ofChange tableRoomSpec)) tableRoomCard

/-- THE SECOND FORM's CARD OF 'distafflaw19.TableRoom'. -/
def tableRoomUptoCard : Claim7 := { stood := { row := tableRoomUptoRow, standIns := [], harness := (true, "a6f6069e3684c7bb300c84d58de7f3ac2ff3307d03ba5af0e17957b0b666efa6"), looks := true }, kinds := [], alts := [], laidByText := true, laidKinds := [.data, .data, .data, .data, .sentinel, .sentinel, .pinned, .pinned], laidTests := true, laidLooks := .later }
def TableRoomUptoCardSaid : Prop := Claim7.holds Tryz.pinned (.plain (OpenSpec.upto tableRoomSpec)) tableRoomUptoCard
end Rows
end Go.Proofs.YthpcpheejblbhaaGreatDoor
