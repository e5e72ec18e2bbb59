/-
  DERIVED. GIVEN WITH THE SEED: THE CARDS: each row of YtapfmmddfofkkaaGreatDoorRows.lean that lists a variable, with what it lists TIED to the program's text (the seventh form; the later family's looks); each row that meets fmt, with fmt's text TOLD by the authors' own Lean function (tested against real Go, not proved from fmt's source: count such statements apart). THE CARD IS WHAT COUNTS. Prove the row's statement (the work); the ties are given (YtapfmmddfofkkaaGreatDoorTie.lean); close each card by the builder's one call (the guide's Derived/Test/ToyasCard.lean, 'card_holds'). Laid BY PROGRAM, IN A SANDBOX (cutbox-door.mjs). By AI agents, Wed Nov 11 2026. No macro, syntax, notation, axiom, sorry.
-/
import Derived.Test.YtapfmmddfofkkaaGreatDoorRows
import GoSem.ClaimSeven
namespace Go.Proofs.YtapfmmddfofkkaaGreatDoor
namespace Rows

/-- THE TIED CARD OF 'distafflaw11.VerifyNames'. -/
def verifyNamesCard : Claim7 := { stood := { row := verifyNamesRow, standIns := [], harness := (true, "bde41d9817d350389b84c7ec863d38916559df3a07042db969a0d6101b405b05"), looks := true }, kinds := [], alts := [], laidByText := true, laidKinds := [.data, .data, .widerDeep, .widerDeep, .data, .data, .data, .data, .data, .data, .sentinel, .sentinel, .listed, .data, .pinned, .pinned, .pinned], laidTests := true, laidLooks := .later }
def VerifyNamesCardSaid : Prop := Claim7.holds Tryz.pinned (.plain (OpenSpec.ofChange verifyNamesSpec)) verifyNamesCard

/-- THE SECOND FORM's CARD OF 'distafflaw11.VerifyNames'. -/
def verifyNamesUptoCard : Claim7 := { stood := { row := verifyNamesUptoRow, standIns := [], harness := (true, "bde41d9817d350389b84c7ec863d38916559df3a07042db969a0d6101b405b05"), looks := true }, kinds := [], alts := [], laidByText := true, laidKinds := [.data, .data, .widerDeep, .widerDeep, .data, .data, .data, .data, .data, .data, .sentinel, .sentinel, .listed, .data, .pinned, .pinned, .pinned], laidTests := true, laidLooks := .later }
def VerifyNamesUptoCardSaid : Prop := Claim7.holds Tryz.pinned (.plain (OpenSpec.upto verifyNamesSpec)) verifyNamesUptoCard
end Rows
end Go.Proofs.YtapfmmddfofkkaaGreatDoor
